/- Generic part So: what stands in for maps.Keys and slices.Sorted at a map with keys of the kind int. -/
import Derived.Test.YtgkjbkkbjlhafaaGreatEvY
import Derived.Below
namespace Go.Ev
open Go.RowKit

/-- maps.Keys: a closure that has the map in a variable of its own. -/
structure KeysLaw (P : Program) (kf g : Nat) (T : TypeId) : Prop where
  enters : Enters P kf
  law : ∀ (mb : Option Nat) (w : World), Calls P kf #[.map mb] w fun e w' => e = .returned (.func (.func g) #[] #[.pointer (some ⟨w.heap.size, 0, none⟩)]) ∧ w' = w.alloc (.cells #[.map mb] T)

noncomputable def keysK {Ω : Type} (g : Nat) (vs : List AV) (M : Mem) (k : AV → Mem → Option Ω) : Option Ω :=
  match vs with
  | [v] => leafK v fun v => (match v with
    | .map b => M.addK (.cells [.map b]) fun M' => k (.leaf (.fvar g M.next)) M'
    | .nilmap => M.addK (.cells [.nilmap]) fun M' => k (.leaf (.fvar g M.next)) M'
    | _ => none)
  | _ => none

noncomputable def withKeys (kf g : Nat) (cal : Callee) : Callee := fun Ω f vs M k => match Nat.beq f kf with | true => keysK g vs M k | false => cal Ω f vs M k

theorem withKeys_ok {P : Program} {ρ : Nat → Int} {kf g : Nat} {T : TypeId} (hK : KeysLaw P kf g T) {cal : Callee} (h : CalOk P ρ cal) : CalOk P ρ (withKeys kf g cal) := by
  intro Ω f vs M k r hk
  unfold withKeys at hk
  split at hk
  case h_2 => exact h Ω f vs M k r hk
  rename_i hf
  obtain rfl := Nat.eq_of_beq_eq_true hf
  refine ⟨hK.enters, fun μ w args hargs hM => ?_⟩
  unfold keysK at hk
  split at hk
  case h_2 => cases hk
  rename_i v
  obtain ⟨u, hu, hk2⟩ := leafK_ok hk
  subst hu
  replace hk := hk2
  clear hk2
  cases hargs with
  | cons h1 h2 =>
  cases h2
  rename_i x
  have fin : ∀ (mb : Option Nat) (c : LV), x = .map mb → c.rel μ ρ (.map mb) → k (.leaf (.fvar g M.next)) (M.add (.cells [c])) = some r →
      Calls P f [x].toArray w fun e w' => ∃ v M' x μ', k v M' = some r ∧ e = .returned x ∧ v.rel μ' ρ x ∧ MR μ' ρ M' w' ∧ Ext 0 μ μ' w w' := by
    rintro mb c rfl hc hk
    refine (hK.law mb w).mono ?_
    rintro e w' ⟨rfl, rfl⟩
    obtain ⟨g1, g2⟩ := hM.allocCells (cs := [c]) (All2.cons hc .nil) #[.map mb] T (fun i x hx => by simpa using hx) (by simp)
    exact ⟨_, _, _, _, hk, rfl, ⟨_, ⟨Emb.set_same .., rfl⟩, rfl⟩, g1, g2.zero⟩
  split at hk
  · rename_i b
    rw [Mem.addK_eq] at hk
    obtain ⟨m, hm, rfl⟩ := h1
    exact fin _ (.map b) rfl ⟨m, hm, rfl⟩ hk
  · rw [Mem.addK_eq] at hk
    cases h1
    exact fin _ .nilmap rfl rfl hk
  · cases hk

/-! A block that a call has left above what lay before it. -/

theorem MR.below {μ : Emb} {ρ : Nat → Int} {M : Mem} {w w' : World} (h : MR μ ρ M w) (hb : Below w.heap.size w w') : MR μ ρ M w' ∧ Ext 0 μ μ w w' :=
  ⟨⟨fun b B m h1 h2 => Blk.rel_world (h.blk b B m h1 h2) (hb.block _ (h.inb b m h2)), h.dist, h.fresh, fun b m hm => Nat.lt_of_lt_of_le (h.inb b m hm) hb.size, h.ids⟩,
    ⟨.refl μ, hb.size, fun i hi _ => hb.block i hi, (fun b m h0 h1 => by rw [h0] at h1; cases h1), (fun b m h0 h1 => by rw [h0] at h1; cases h1), hb.os, hb.tape, hb.output⟩⟩

theorem MR.newAt {μ : Emb} {ρ : Nat → Int} {M : Mem} {w w' : World} (h : MR μ ρ M w) (hb : Below w.heap.size w w') {g room : Nat} (hg : w.heap.size ≤ g) (hg2 : g < w'.heap.size) (B : Blk)
    (hB : B.rel (μ.set M.next ⟨g, 0, room⟩) ρ ⟨g, 0, room⟩ w') : MR (μ.set M.next ⟨g, 0, room⟩) ρ (M.add B) w' ∧ Ext 0 μ (μ.set M.next ⟨g, 0, room⟩) w w' := by
  have hnone := h.nextNone
  have hle := Emb.le_set (b := M.next) ⟨g, 0, room⟩ hnone
  refine ⟨⟨?_, ?_, ?_, ?_, ?_⟩, ⟨hle, hb.size, fun i hi _ => hb.block i hi, ?_, fun _ _ _ _ => Nat.zero_le _, hb.os, hb.tape, hb.output⟩⟩
  · intro b C m hC hm
    simp only [Mem.add, T.get_put] at hC
    simp only [Emb.set] at hm
    split at hC
    · rename_i e; subst e; cases hC; simp at hm; subst hm; exact hB
    · rename_i e
      rw [if_neg e] at hm
      exact Blk.rel_le hle (Blk.rel_world (h.blk b C m hC hm) (hb.block _ (h.inb b m hm)))
  · intro b1 b2 B1 B2 m1 m2 g1 g2 e1 e2 hne
    simp only [Mem.add, T.get_put] at g1 g2
    simp only [Emb.set] at e1 e2
    by_cases x : b1 = M.next <;> by_cases y : b2 = M.next
    · exact absurd (x.trans y.symm) hne
    · rw [if_pos x] at e1; rw [if_neg y] at e2; cases e1
      have := h.inb b2 m2 e2
      intro e; simp at e; omega
    · rw [if_neg x] at e1; rw [if_pos y] at e2; cases e2
      have := h.inb b1 m1 e1
      intro e; simp at e; omega
    · rw [if_neg x] at g1 e1; rw [if_neg y] at g2 e2
      exact h.dist b1 b2 B1 B2 m1 m2 g1 g2 e1 e2 hne
  · intro b m hm
    simp only [Emb.set] at hm
    simp only [Mem.add, Pos.toNat_succ]
    split at hm
    · rename_i e; subst e; omega
    · have := h.fresh b m hm; omega
  · intro b m hm
    simp only [Emb.set] at hm
    split at hm
    · cases hm; exact hg2
    · have := h.inb b m hm; have := hb.size; omega
  · intro b C hC
    simp only [Mem.add, T.get_put] at hC
    simp only [Mem.add, Pos.toNat_succ]
    split at hC
    · rename_i e; subst e; omega
    · have := h.ids b C hC; omega
  · intro b m h0 h1
    simp only [Emb.set] at h1
    split at h1
    · cases h1; exact .inl hg
    · rw [h0] at h1; cases h1

/-! Sorting. -/

def insI (x : Int) : List Int → List Int
  | [] => [x]
  | y :: l => match leF x y with | true => x :: y :: l | false => y :: insI x l
def sortI : List Int → List Int
  | [] => []
  | x :: l => insI x (sortI l)

theorem insI_perm (x : Int) (l : List Int) : (insI x l).Perm (x :: l) := by
  induction l with
  | nil => exact .refl _
  | cons y l ih =>
    unfold insI
    split
    · exact .refl _
    · exact (ih.cons y).trans (.swap x y l)

theorem sortI_perm (l : List Int) : (sortI l).Perm l := by
  induction l with
  | nil => exact .refl _
  | cons x l ih => exact (insI_perm x _).trans (ih.cons x)

theorem insI_sorted (x : Int) {l : List Int} (h : l.Pairwise (· ≤ ·)) : (insI x l).Pairwise (· ≤ ·) := by
  induction l with
  | nil => simp [insI]
  | cons y l ih =>
    obtain ⟨h1, h2⟩ := List.pairwise_cons.1 h
    unfold insI
    split
    · rename_i hle
      rw [leF_eq, decide_eq_true_iff] at hle
      refine List.pairwise_cons.2 ⟨fun z hz => ?_, h⟩
      cases hz with
      | head => exact hle
      | tail _ hz => exact Int.le_trans hle (h1 z hz)
    · rename_i hle
      rw [leF_eq, decide_eq_false_iff_not] at hle
      refine List.pairwise_cons.2 ⟨fun z hz => ?_, ih h2⟩
      have := (insI_perm x l).mem_iff.1 hz
      cases this with
      | head => omega
      | tail _ hz => exact h1 z hz

theorem sortI_sorted (l : List Int) : (sortI l).Pairwise (· ≤ ·) := by
  induction l with
  | nil => exact .nil
  | cons x l ih => exact insI_sorted x ih

/-! slices.Sorted at such a closure. -/

def keyInts : List (V1 × V1) → Option (List Int)
  | [] => some []
  | e :: es => match e.1 with
    | .leaf v => (match v with
      | .int j s => (match kindEq j .i64 with
        | true => (match s with | .lit n => (keyInts es).map (n :: ·) | _ => none)
        | false => none)
      | _ => none)
    | .agg _ => none

theorem keyInts_ok {μ : Emb} {ρ : Nat → Int} : ∀ {es : List (V1 × V1)} {ks : List Int}, keyInts es = some ks → ∀ {en : List MapEntry}, All2 (fun (e : V1 × V1) (x : MapEntry) => e.1.rel μ ρ x.key ∧ e.2.rel μ ρ x.val) es en →
    en.map (·.key) = ks.map (Value.int .i64) ∧ ∀ x ∈ ks, fits .i64 x = true
  | [], ks, h, _, .nil => by cases h; exact ⟨rfl, fun _ h => by cases h⟩
  | e :: es, ks, h, x :: en, .cons h1 h2 => by
    obtain ⟨a, b⟩ := e
    simp only [keyInts] at h
    cases a with
    | agg _ => cases h
    | leaf v =>
      cases v <;> try (cases h; done)
      rename_i j s
      dsimp only at h
      split at h
      case h_2 => cases h
      rename_i hj
      obtain rfl := kindEq_eq hj
      cases s <;> try (cases h; done)
      rename_i n
      simp only [Option.map_eq_some_iff] at h
      obtain ⟨l, hl, rfl⟩ := h
      obtain ⟨g1, g2⟩ := keyInts_ok hl h2
      obtain ⟨m, hm, fm, e⟩ := h1.1
      simp only [SI.is] at hm
      subst hm
      refine ⟨by rw [List.map_cons, List.map_cons, g1, e], fun y hy => ?_⟩
      cases hy with
      | head => exact fm
      | tail _ hy => exact g2 y hy

/-- Every one is below the next. -/
def upI : List Int → Bool
  | [] => true
  | x :: l => (match l with | [] => true | y :: _ => ltF x y) && upI l

theorem upI_ok : ∀ {l : List Int}, upI l = true → l.Pairwise (· < ·)
  | [], _ => .nil
  | [x], _ => by simp
  | x :: y :: l, h => by
    simp only [upI, Bool.and_eq_true] at h
    have hr := upI_ok (l := y :: l) (by simp only [upI, Bool.and_eq_true]; exact h.2)
    have hxy : x < y := by have := h.1; rw [ltF_eq, decide_eq_true_iff] at this; exact this
    refine List.pairwise_cons.2 ⟨fun z hz => ?_, hr⟩
    cases hz with
    | head => exact hxy
    | tail _ hz => exact Int.lt_trans hxy ((List.pairwise_cons.1 hr).1 z hz)

/-- slices.Sorted at a closure that has the map in a variable of its own. -/
structure SortedLaw (P : Program) (f g : Nat) (E : TypeId) : Prop where
  enters : Enters P f
  law : ∀ (w : World) (Bm b : Nat) (es : Array MapEntry) (clock : Nat) (ks ts : List Int), w.cell? ⟨Bm, 0, none⟩ = some (.map (some b)) → w.heap[b]? = some (.map es clock) → Born es.toList clock →
    es.toList.map (·.key) = ks.map (Value.int .i64) → ks.Nodup → (∀ x ∈ ks, fits .i64 x = true) → ks.length ≤ 1000000 → ts.Perm ks → ts.Pairwise (· ≤ ·) →
    Calls P f #[.func (.func g) #[] #[.pointer (some ⟨Bm, 0, none⟩)]] w fun e w' => ∃ v, e = .returned v ∧ w'.ownsRow w.heap.size E 1 v ts.length (ts.map (Value.int .i64)) ∧ (v = .slice none 0 0 ↔ ts = []) ∧ Below w.heap.size w w'
  none' : ∀ (w : World) (Bm : Nat), w.cell? ⟨Bm, 0, none⟩ = some (.map none) →
    Calls P f #[.func (.func g) #[] #[.pointer (some ⟨Bm, 0, none⟩)]] w fun e w' => e = .returned (.slice none 0 0) ∧ Below w.heap.size w w'

noncomputable def sortedK {Ω : Type} (g : Nat) (vs : List AV) (M : Mem) (k : AV → Mem → Option Ω) : Option Ω :=
  match vs with
  | [v] => leafK v fun v => (match v with
    | .fvar g' b => (match Nat.beq g' g with
      | true => blkK M b fun cs => (match cs with
        | [c] => (match c with
          | .nilmap => k (.leaf .nilslice) M
          | .map mb => mapBK M mb fun es => (match keyInts es with
            | some ks => (match upI (sortI ks) && Nat.ble ks.length 1000000 with
              | true => (match sortI ks with
                | [] => k (.leaf .nilslice) M
                | _ :: _ => nK ks.length fun n => M.addK (.cells ((sortI ks).map fun x => .int .i64 (.lit x))) fun M' => k (.leaf (.slice M.next 0 n 1 none)) M')
              | false => none)
            | none => none)
          | _ => none)
        | _ => none)
      | false => none)
    | _ => none)
  | _ => none

noncomputable def withSorted (f g : Nat) (cal : Callee) : Callee := fun Ω f' vs M k => match Nat.beq f' f with | true => sortedK g vs M k | false => cal Ω f' vs M k

theorem withSorted_ok {P : Program} {ρ : Nat → Int} {f g : Nat} {E : TypeId} (hS : SortedLaw P f g E) {cal : Callee} (h : CalOk P ρ cal) : CalOk P ρ (withSorted f g cal) := by
  intro Ω f' vs M k r hk
  unfold withSorted at hk
  split at hk
  case h_2 => exact h Ω f' vs M k r hk
  rename_i hf
  obtain rfl := Nat.eq_of_beq_eq_true hf
  refine ⟨hS.enters, fun μ w args hargs hM => ?_⟩
  unfold sortedK at hk
  split at hk
  case h_2 => cases hk
  rename_i v
  obtain ⟨u, hu, hk2⟩ := leafK_ok hk
  subst hu
  clear hk
  cases hargs with
  | cons h1 h2 =>
  cases h2
  rename_i x
  cases u <;> try (cases hk2; done)
  rename_i g' b
  dsimp only at hk2
  split at hk2
  case h_2 => cases hk2
  rename_i hg
  obtain rfl := Nat.eq_of_beq_eq_true hg
  obtain ⟨m, ⟨hm, hbase⟩, rfl⟩ := h1
  obtain ⟨cs, hcs, hk3⟩ := blkK_ok hk2
  split at hk3
  case h_2 => cases hk3
  rename_i c
  obtain ⟨y, hy, hry⟩ := hM.cell hcs hm (i := 0) (v := c) rfl
  rw [hbase] at hy
  have nothing : k (.leaf .nilslice) M = some r → ∀ w', Below w.heap.size w w' → ∃ v M' x μ', k v M' = some r ∧ Ending.returned (.slice none 0 0) = .returned x ∧ v.rel μ' ρ x ∧ MR μ' ρ M' w' ∧ Ext 0 μ μ' w w' :=
    fun hk w' hb => ⟨_, _, _, μ, hk, rfl, rfl, (hM.below hb).1, (hM.below hb).2⟩
  cases c <;> try (cases hk3; done)
  · rename_i mb
    obtain ⟨m2, hm2, rfl⟩ := hry
    obtain ⟨es, hes, hk4⟩ := mapBK_ok hk3
    obtain ⟨en, cl, e1, e2, e3⟩ := hM.blk mb _ m2 hes hm2
    split at hk4
    case h_2 => cases hk4
    rename_i ks hks
    obtain ⟨q1, q2⟩ := keyInts_ok hks e3
    split at hk4
    case h_2 => cases hk4
    rename_i hup
    rw [Bool.and_eq_true, Nat.ble_eq] at hup
    have hp := sortI_perm ks
    have hnd : ks.Nodup := hp.nodup_iff.1 ((upI_ok hup.1).imp fun h => Int.ne_of_lt h)
    refine (hS.law w m.blk m2.blk en cl ks (sortI ks) hy e1 e2 q1 hnd q2 hup.2 hp (sortI_sorted ks)).mono ?_
    rintro e w' ⟨v, rfl, hrow, hnil, hb⟩
    split at hk4
    · rename_i hs
      rw [hnil.2 hs]
      exact nothing hk4 w' hb
    · rename_i x0 l0 hs
      rw [nK_eq, Mem.addK_eq] at hk4
      have hlen : (sortI ks).length = ks.length := hp.length_eq
      rcases hrow.2 with ⟨hv, _⟩ | ⟨gb, cap, cur, rfl, hge, hgb, r1, r2, r3, r4⟩
      · rw [hnil.1 hv] at hs; cases hs
      · have hglt : gb < w'.heap.size := (Array.getElem?_eq_some_iff.1 hgb).1
        have hB : (Blk.cells ((sortI ks).map fun x => .int .i64 (.lit x))).rel (μ.set M.next ⟨gb, 0, cap⟩) ρ ⟨gb, 0, cap⟩ w' := by
          refine ⟨cur, E, (0, 0), hgb, by simp only; omega, by simp only [List.length_map]; omega, fun o _ => by simp, fun i v hv => ?_⟩
          rw [List.getElem?_map, Option.map_eq_some_iff] at hv
          obtain ⟨n, hn, rfl⟩ := hv
          refine ⟨.int .i64 n, ?_, n, rfl, q2 n (hp.mem_iff.1 (List.mem_of_getElem? hn)), rfl⟩
          have hi : i < (sortI ks).length := (List.getElem?_eq_some_iff.1 hn).1
          have h4 : (cur.toList.take ((sortI ks).length * 1))[i]? = ((sortI ks).map (Value.int .i64))[i]? := by rw [r4]
          rw [List.getElem?_take_of_lt (by omega), List.getElem?_map, hn, Array.getElem?_toList] at h4
          simpa using h4
        obtain ⟨g1, g2⟩ := hM.newAt hb hge hglt _ hB
        refine ⟨_, _, _, _, hk4, rfl, ⟨_, ⟨gb, 0, none⟩, cap, Emb.set_same .., by simp only; omega, by omega, (fun _ h => by cases h), fun _ => rfl, by rw [hlen]⟩, g1, g2⟩
  · cases hry
    refine (hS.none' w m.blk hy).mono ?_
    rintro e w' ⟨rfl, hb⟩
    exact nothing hk3 w' hb

end Go.Ev
