/- slices.Sorted(maps.Keys(m)), by the shelf's contracts at this program: what the evaluator's stand-ins lean on. -/
import Derived.Test.YtgkjbkkbjlhafaaGreatEvShelf
import Derived.Test.YtgkjbkkbjlhafaaGreatEvSo
namespace Go.Ev.Fs
open Go Go.Proofs Go.Ev Go.RowKit Go.Maps Go.Sort Go.Shelf
open Go.WideElems (Fit rd rg)

theorem sortsA (m : Nat) : AnyZI.SortsIn Tryz.prog Tryz.sortedA_ren Fence.wide m :=
  ⟨fun blk off cap ss W hH hblk hsz => callsIn_wide.2 (AnyM.slices_Sort_int Tryz.sortA blk off cap ss W hH hblk hsz),
   fun p cap W => callsIn_wide.2 (AnyM.slices_Sort_int_none Tryz.sortA p cap W)⟩

theorem keysLaw : KeysLaw Tryz.prog 66 96 104 where
  enters := Go.Proofs.enters_of Tryz.func66 (by kernel_rfl) rfl
  law := fun mb w => (callsIn_wide (n := 5)).1 (AnyZI.keys_in Tryz.keysA Fence.wide 5 trivial rfl mb w)

/-- A map's elements are read as nothing: its keys alone matter. -/
def noRead (_ : Value) : Option (DataW Unit × List MemPlace) := some (.nil, [])

theorem rd_int {k : TypeId} (hk : Tryz.prog.underlying k = some (.int .i64)) {x : MapEntry} {n : Int} (hx : x.key = .int .i64 n) (hn : fits .i64 n = true) : rd Tryz.prog k noRead x = some (.int .i64 n, .nil) := by
  have hw : (Lit.int .i64 n).wf = true := by simpa [Lit.wf] using (fits_iff .i64 n).1 hn
  unfold WideElems.rd
  rw [hx, keyOf_int_mk hk hw]
  rfl

theorem sorted_eq {ss ts : List Int} (h : ts.Perm ss) (hp : ts.Pairwise (· ≤ ·)) : ss.mergeSort (fun x y => decide (x ≤ y)) = ts := by
  have tr : ∀ a b c : Int, leI a b = true → leI b c = true → leI a c = true := fun a b c h1 h2 => by simp only [leI, decide_eq_true_eq] at *; exact Int.le_trans h1 h2
  have to : ∀ a b : Int, (leI a b || leI b a) = true := fun a b => by simp only [leI, Bool.or_eq_true, decide_eq_true_eq]; exact Int.le_total a b
  refine List.Perm.eq_of_pairwise (le := fun a b => leI a b = true) (fun a b _ _ h1 h2 => ?_) (List.pairwise_mergeSort tr to ss) (hp.imp fun h => by simpa [leI] using h) ((List.mergeSort_perm ss leI).trans h.symm)
  simp only [leI, decide_eq_true_eq] at h1 h2
  exact Int.le_antisymm h1 h2

theorem sortedLaw : SortedLaw Tryz.prog 65 96 3 where
  enters := Go.Proofs.enters_of Tryz.func65 (by kernel_rfl) rfl
  law := by
    intro w Bm b es clock ks ts hcell hb hborn hkeys hnd hfits hlen hperm hpw
    refine (callsIn_wide (n := 5)).1 ?_
    have hk : Tryz.prog.underlying 3 = some (.int .i64) := Tryz.underlying3
    have hBm : Bm < w.heap.size := by
      rcases Nat.lt_or_ge Bm w.heap.size with h | h
      · exact h
      · simp [World.cell?, Array.getElem?_eq_none h] at hcell
    have hl : es.toList.length = ks.length := by have := congrArg List.length hkeys; simpa using this
    have hrd : ∀ x ∈ es.toList, ∃ n, x.key = .int .i64 n ∧ fits .i64 n = true := by
      intro x hx
      have h1 : x.key ∈ es.toList.map (·.key) := List.mem_map_of_mem hx
      rw [hkeys, List.mem_map] at h1
      obtain ⟨n, hn, e⟩ := h1
      exact ⟨n, e.symm, hfits n hn⟩
    let D0 : DataW Unit := .map ((es.toList.map (rg Tryz.prog 3 noRead)).foldr DataW.insert [])
    have hown : w.ownsMap Tryz.prog 3 noRead b es.size D0 := by
      refine ⟨es, clock, hb, ⟨?_, ⟨hborn.1, hborn.2, ?_⟩, ?_⟩, Nat.le_refl _, rfl⟩
      · have : es.size = ks.length := by rw [← hl]; simp
        rw [this]; unfold maxLen; omega
      · rw [hkeys]
        refine List.pairwise_map.2 (hnd.imp fun {a b} hne e => hne ?_)
        cases e; rfl
      · intro x hx
        obtain ⟨n, h1, h2⟩ := hrd x hx
        exact ⟨_, rd_int hk h1 h2⟩
    have hik : (intKeys D0).Perm ks := by
      have h1 : ((es.toList.map (rg Tryz.prog 3 noRead)).foldr DataW.insert []).Perm (es.toList.map (rg Tryz.prog 3 noRead)) := Go.WideShapes.sorted_perm _
      have h2 := h1.map (fun p => intOf p.1)
      refine h2.trans ?_
      have h3 : (es.toList.map (rg Tryz.prog 3 noRead)).map (fun p => intOf p.1) = ks := by
        have h4 : ∀ (l : List MapEntry) (ks : List Int), l.map (·.key) = ks.map (Value.int .i64) → (∀ x ∈ l, ∃ n, x.key = .int .i64 n ∧ fits .i64 n = true) → (l.map (rg Tryz.prog 3 noRead)).map (fun p => intOf p.1) = ks := by
          intro l
          induction l with
          | nil => intro ks h _; cases ks with
            | nil => rfl
            | cons _ _ => simp at h
          | cons x l ih =>
            intro ks h hr
            cases ks with
            | nil => simp at h
            | cons k ks =>
              simp only [List.map_cons, List.cons.injEq] at h
              obtain ⟨n, e1, e2⟩ := hr x (by simp)
              rw [e1] at h
              have e3 : n = k := by cases h.1; rfl
              subst e3
              simp only [List.map_cons]
              rw [ih ks h.2 fun y hy => hr y (by simp [hy])]
              have : rg Tryz.prog 3 noRead x = (.int .i64 n, .nil) := by unfold WideElems.rg; rw [rd_int hk e1 e2]; rfl
              rw [this]; rfl
        exact h4 _ _ hkeys hrd
      rw [h3]
    have hsz : Maps.size D0 ≤ 1000000 := by
      have h1 : ((es.toList.map (rg Tryz.prog 3 noRead)).foldr DataW.insert []).Perm (es.toList.map (rg Tryz.prog 3 noRead)) := Go.WideShapes.sorted_perm _
      have h2 := h1.length_eq
      show List.length _ ≤ _
      rw [h2, List.length_map, hl]; exact hlen
    have hseq : SeqGives Fence.wide 2 Tryz.prog 96 #[.pointer (some ⟨Bm, 0, none⟩)] encZ (fun ss => ss.Perm (intKeys D0)) (Maps.size D0) w :=
      AnyZI.keys_gives (ρ := Tryz.keysA_ren) { Tryz.keysA with } Fence.wide _ trivial rfl (by omega) Bm b es.size D0 w hBm hcell hown
    have cS := AnyZI.sorted_in Tryz.sortedA Fence.wide 5 trivial trivial trivial trivial rfl (by omega) (sortsA _) (Go.Proofs.enters_of Tryz.func95 (by kernel_rfl) rfl) 96 #[.pointer (some ⟨Bm, 0, none⟩)] trivial (Go.Proofs.enters_of Tryz.func96 (by kernel_rfl) rfl) _ _ (Nat.le_trans hsz (by unfold maxLen; omega)) (by omega) _ hseq
    change CallsIn _ _ Tryz.prog 65 _ _ _ at cS
    refine cS.mono ?_
    rintro e w' ⟨v, ss, rfl, hS, hrow, hnil, hbl⟩
    have hp2 : ts.Perm ss := hperm.trans (hik.symm.trans hS.symm)
    have hm := sorted_eq hp2 hpw
    rw [hm] at hrow
    refine ⟨v, rfl, ?_, ?_, hbl⟩
    · rw [hp2.length_eq]; exact hrow
    · rw [hnil]
      constructor
      · rintro rfl; exact List.perm_nil.1 hp2
      · rintro rfl; exact List.nil_perm.1 hp2
  none' := by
    intro w Bm hcell
    refine (callsIn_wide (n := 5)).1 ?_
    have hBm : Bm < w.heap.size := by
      rcases Nat.lt_or_ge Bm w.heap.size with h | h
      · exact h
      · simp [World.cell?, Array.getElem?_eq_none h] at hcell
    have hseq : SeqGives Fence.wide 2 Tryz.prog 96 #[.pointer (some ⟨Bm, 0, none⟩)] encZ (fun ss : List Int => ss = []) 0 w :=
      AnyZI.keys_gives_nil (ρ := Tryz.keysA_ren) { Tryz.keysA with } Fence.wide _ trivial rfl Bm w hBm hcell
    have cS := AnyZI.sorted_in Tryz.sortedA Fence.wide 5 trivial trivial trivial trivial rfl (by omega) (sortsA _) (Go.Proofs.enters_of Tryz.func95 (by kernel_rfl) rfl) 96 #[.pointer (some ⟨Bm, 0, none⟩)] trivial (Go.Proofs.enters_of Tryz.func96 (by kernel_rfl) rfl) _ 0 (Nat.zero_le _) (by omega) _ hseq
    change CallsIn _ _ Tryz.prog 65 _ _ _ at cS
    refine cS.mono ?_
    rintro e w' ⟨v, ss, rfl, rfl, hrow, hnil, hbl⟩
    obtain rfl : v = .slice none 0 0 := hnil.2 rfl
    exact ⟨rfl, hbl⟩

end Go.Ev.Fs
