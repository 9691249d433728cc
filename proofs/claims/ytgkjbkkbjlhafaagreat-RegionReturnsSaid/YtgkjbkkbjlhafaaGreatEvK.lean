/- Generic part K: slices' words, literals, lengths: the rest of the operations. -/
import Derived.Test.YtgkjbkkbjlhafaaGreatEvJ
namespace Go.Ev

section
variable {Ω : Type} {P : Program} {Γ : Box} {μ : Emb} {ρ : Nat → Int} {M : Mem} {w : World}

theorem sliceK_ok {x : AV} {kn : Option Ω} {k : Pos → Nat → Nat → Nat → Option Nat → Option Ω} {r : Ω} (h : sliceK x kn k = some r) {v : Value} (hv : x.rel μ ρ v) :
    (v = .slice none 0 0 ∧ kn = some r) ∨ (∃ b off len esz cap, k b off len esz cap = some r ∧ LV.rel μ ρ (.slice b off len esz cap) v) := by
  cases x with
  | leaf y => cases y <;> first | (cases h; done) | skip
              · exact .inr ⟨_, _, _, _, _, h, hv⟩
              · exact .inl ⟨hv, h⟩
  | _ => cases h

theorem put_comm {α : Type} (p q : Pos) (x y : Option α) (hne : p ≠ q) (t : T α) (r : Pos) : T.get r (T.put p x (T.put q y t)) = T.get r (T.put q y (T.put p x t)) := by
  simp only [T.get_put]
  by_cases h1 : r = p <;> by_cases h2 : r = q
  · exact absurd (h1.symm.trans h2) hne
  · simp [h1, hne]
  · simp [h2, Ne.symm hne]
  · simp [h1, h2]

/-- Memories that tell the same of each block. -/
theorem MR.same {M' : Mem} (hM : MR μ ρ M w) (hn : M'.next = M.next) (hb : ∀ p, M'.blks.get p = M.blks.get p) : MR μ ρ M' w :=
  ⟨fun b B m h1 h2 => hM.blk b B m (by rw [← hb]; exact h1) h2, fun b b' B B' m m' h1 h2 => hM.dist b b' B B' m m' (by rw [← hb]; exact h1) (by rw [← hb]; exact h2), fun b m h => by rw [hn]; exact hM.fresh b m h, hM.inb, fun b B h => by rw [hn]; exact hM.ids b B (by rw [← hb]; exact h)⟩

theorem ok_append_forget {b : Pos} {B0 B : Blk} (hM : MR μ ρ M w) (hb : M.blks.get b = some B0) {s : Sem Value} {q : AV} (h : DoneV P μ ρ M w s q (M.add B)) : DoneV P μ ρ M w s q (({ M with blks := M.blks.put b none } : Mem).add B) := by
  obtain ⟨x, w', μ', h1, h2, h3, h4⟩ := h
  refine ⟨x, w', μ', h1, h2, (h3.remove b).same rfl ?_, h4⟩
  intro p
  have hne : M.next ≠ b := fun e => by have := hM.ids b B0 hb; rw [← e] at this; omega
  exact put_comm M.next b (some B) none hne M.blks p

/-- Append, whatever the slices. -/
theorem ok_append (hM : MR μ ρ M w) {t ty e : TypeId} {i : TypeInfo} {z : Value} {esz bytes : Nat} (H : App P t e i z esz bytes) {x y : AV} {u v : Value} (hu : x.rel μ ρ u) (hv : y.rel μ ρ v) {k : Option AV → Mem → Option Ω} {r : Ω}
    (h : evOp Γ (.append bytes esz (.c x) (.c y)) .leaf M k = some r) : ∃ q M', k (some q) M' = some r ∧ DoneV P μ ρ M w (Builtin.append_ #[t, t] ty #[u, v]) q M' := by
  change (sliceK y _ _) = some r at h
  have same : ∀ a l c, u = .slice a l c → l ≤ c → ∀ b m, (v = .slice b 0 m) → (b = none → m = 0) → (Builtin.append_ #[t, t] ty #[u, v]).run P w = .ok u w := by
    intro a l c hu hlc b m hv hb
    subst hu; subst hv
    have hf : ∀ w : World, (Builtin.firstCells i.size 0 (.slice b 0 m)).run P w = .ok #[] w := by
      intro w
      cases b with
      | none => simp [Builtin.firstCells]
      | some b => exact run_firstOf i.size 0 b 0 m [] (by simp) (fun j v hv => by simp at hv)
    cases a with
    | none => simp [Builtin.append_, run_underlying H.ht, sizeOf, typeInfo, H.hi, Builtin.lenOf, hlc, hf]
    | some a => simp [Builtin.append_, run_underlying H.ht, sizeOf, typeInfo, H.hi, Builtin.lenOf, hlc, hf, storeCells]
  rcases sliceK_ok h hv with ⟨rfl, h⟩ | ⟨b2, off2, len2, e2, cap2, h, hv2⟩
  · rcases sliceK_ok h hu with ⟨rfl, h⟩ | ⟨_, _, _, _, _, h, hu2⟩
    · exact ⟨_, _, h, .still hM (same none 0 0 rfl (Nat.le_refl _) none 0 rfl fun _ => rfl) hu⟩
    · obtain ⟨_, a, c, _, _, hlc, _, _, rfl⟩ := hu2
      exact ⟨_, _, h, .still hM (same _ _ c rfl hlc none 0 rfl fun _ => rfl) hu⟩
  · split at h
    · cases h
    · rename_i he2
      have he2 := Nat.eq_of_beq_eq_true he2
      subst he2
      obtain ⟨m2, a2, c2, hm2, hroom2, hlc2, _, ha2, rfl⟩ := hv2
      split at h
      · rename_i h0
        have h0 := Nat.eq_of_beq_eq_true h0
        subst h0
        rcases sliceK_ok h hu with ⟨rfl, h⟩ | ⟨_, _, _, _, _, h, hu2⟩
        · exact ⟨_, _, h, .still hM (same none 0 0 rfl (Nat.le_refl _) _ c2 rfl fun e => by cases e) hu⟩
        · obtain ⟨_, a, c, _, _, hlc, _, _, rfl⟩ := hu2
          exact ⟨_, _, h, .still hM (same _ _ c rfl hlc _ c2 rfl fun e => by cases e) hu⟩
      · rename_i h0
        have h0 : len2 ≠ 0 := fun e => by subst e; simp at h0
        obtain ⟨cs2, hb2, h⟩ := blkK_ok h
        rw [dropK_eq] at h
        split at h
        · rename_i hd2
          rw [takeK_eq] at h
          split at h
          · rename_i ht2
            simp only [List.length_drop] at ht2
            obtain ⟨news, hln, hnew, hcell⟩ := sliceCells hM hm2 ha2 hlc2 hb2 (show off2 + len2 * e2 ≤ cs2.length by have : Nat.mul len2 e2 = len2 * e2 := rfl; omega)
            rcases sliceK_ok h hu with ⟨rfl, h⟩ | ⟨b, off, len, esz, cap, h, hu2⟩
            · split at h
              · rename_i hb
                rw [Bool.and_eq_true, Nat.ble_eq, Nat.ble_eq] at hb
                rw [nK_eq, Mem.addK_eq] at h
                refine ⟨_, _, h, ?_⟩
                have hrun := run_append_nil (P := P) w t ty e i z H.ht H.hi H.hz a2 len2 c2 news (by rw [H.hs]; exact hln) hcell (by omega) (by omega) (by rw [H.hy]; have : Nat.mul len2 bytes = len2 * bytes := rfl; omega)
                have := ok_appGrow (ty := ty) hM H (old := []) (olds := []) .nil hnew (sLen := 0) (n2 := len2) (sCap := 0) (u := .slice none 0 0) (by simp) hln (by simpa using hrun)
                simpa using this
              · cases h
            · split at h
              · cases h
              · rename_i hb
                rw [Bool.and_eq_true, Bool.and_eq_true, Nat.ble_eq, Nat.ble_eq] at hb
                obtain ⟨⟨hee, hby⟩, hbl⟩ := hb
                have hee := Nat.eq_of_beq_eq_true hee
                subst hee
                obtain ⟨m, a, c, hm, ⟨hroom, hfull⟩, hlc, hcap, ha, rfl⟩ := hu2
                obtain ⟨cs, hb, h⟩ := blkK_ok h
                rw [dropK_eq] at h
                split at h
                · rename_i hd
                  rw [takeK_eq] at h
                  split at h
                  · rename_i htk
                    simp only [List.length_drop] at htk
                    rw [appK_eq, nK_eq] at h
                    have hle : off + len * esz ≤ cs.length := by have : Nat.mul len esz = len * esz := rfl; omega
                    obtain ⟨olds, hlo, hold, hocell⟩ := sliceCells hM hm ha hlc hb hle
                    have grow : c < len + len2 → DoneV P μ ρ M w (Builtin.append_ #[t, t] ty #[.slice (some a) len c, .slice (some a2) len2 c2]) (.leaf (.slice M.next 0 (len + len2) esz none)) (M.add (.cells ((cs.drop off).take (len * esz) ++ (cs2.drop off2).take (len2 * esz)))) := by
                      intro hc
                      have hrun := run_append_grow (P := P) w t ty e i z H.ht H.hi H.hz a len c olds (by rw [H.hs]; exact hlo) hocell a2 len2 c2 news (by rw [H.hs]; exact hln) hcell hc
                        (by have : Nat.add len len2 = len + len2 := rfl; omega) (by rw [H.hy]; exact fit48 hc (by have : Nat.mul (Nat.add len len2) bytes = (len + len2) * bytes := rfl; omega))
                      exact ok_appGrow (ty := ty) hM H hold hnew hlo hln hrun
                    have room : len + len2 ≤ c → ∀ cap', (∀ x, cap' = some x → c = x) → (cap' = none → off + c * esz = m.room) → DoneV P μ ρ M w (Builtin.append_ #[t, t] ty #[.slice (some a) len c, .slice (some a2) len2 c2]) (.leaf (.slice M.next 0 (len + len2) esz cap'))
                        (({ M with blks := M.blks.put b none } : Mem).add (.cells ((cs.drop off).take (len * esz) ++ (cs2.drop off2).take (len2 * esz)))) := by
                      intro hc cap' hcap' hful'
                      obtain rfl := ha (by omega)
                      exact ok_appRoom hM H hm hroom hb hle hnew hln hc hcell cap' hcap' hful'
                    cases cap with
                    | some c0 =>
                      obtain rfl := hcap c0 rfl
                      dsimp only at h
                      split at h
                      · rename_i hn
                        rw [Nat.ble_eq] at hn
                        rw [Mem.putK_eq, Mem.addK_eq] at h
                        exact ⟨_, _, h, room hn (some c) (fun x hx => by cases hx; rfl) fun e => by cases e⟩
                      · rename_i hn
                        rw [Mem.addK_eq] at h
                        have hn' : ¬ (len + len2 ≤ c) := fun e => by rw [← Nat.ble_eq] at e; rw [show Nat.add len len2 = len + len2 from rfl, e] at hn; cases hn
                        exact ⟨_, _, h, grow (by omega)⟩
                    | none =>
                      dsimp only at h
                      rw [Mem.putK_eq, Mem.addK_eq] at h
                      refine ⟨_, _, h, ?_⟩
                      by_cases hc : len + len2 ≤ c
                      · exact room hc none (fun x hx => by cases hx) hfull
                      · exact ok_append_forget hM hb (grow (by omega))
                  · cases h
                · cases h
          · cases h
        · cases h

end

end Go.Ev
