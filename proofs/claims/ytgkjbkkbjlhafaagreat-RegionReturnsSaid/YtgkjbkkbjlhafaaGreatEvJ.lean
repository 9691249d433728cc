/- Generic part J: append, slices, what is left of maps, literals. -/
import Derived.Test.YtgkjbkkbjlhafaaGreatEvI
namespace Go.Ev

section
variable {Ω : Type} {P : Program} {Γ : Box} {μ : Emb} {ρ : Nat → Int} {M : Mem} {w : World}

theorem fit48 {n c bytes : Nat} (hc : c < n) (hb : n * bytes ≤ 1073741824) : Builtin.nextslicecap n c * bytes ≤ 281474976710656 := growslice_fits hc (by omega)

theorem Emb.set_same (μ : Emb) (b : Pos) (m : Loc) : (μ.set b m) b = some m := if_pos rfl

/-- A block given up. -/
theorem MR.remove (hM : MR μ ρ M w) (b : Pos) : MR μ ρ { M with blks := M.blks.put b none } w where
  blk := fun b' B m hB hm => by
    simp only [T.get_put] at hB
    split at hB
    · cases hB
    · exact hM.blk b' B m hB hm
  dist := fun b1 b2 B1 B2 m1 m2 g1 g2 => by
    simp only [T.get_put] at g1 g2
    split at g1 <;> split at g2
    · cases g1
    · cases g1
    · cases g2
    · exact hM.dist b1 b2 B1 B2 m1 m2 g1 g2
  fresh := hM.fresh
  inb := hM.inb
  ids := fun b' B hB => by
    simp only [T.get_put] at hB
    split at hB
    · cases hB
    · exact hM.ids b' B hB

/-- A block goes on under another name, its cells changed. -/
theorem MR.goesOn (hM : MR μ ρ M w) {b : Pos} {B : Blk} {m m' : Loc} (hb : M.blks.get b = some B) (hm : μ b = some m) (he : m'.blk = m.blk) {w' : World} {B' : Blk} (hB : B'.rel (μ.set M.next m') ρ m' w')
    (hk : ∀ k, k ≠ m.blk → w'.heap[k]? = w.heap[k]?) (hs : w'.heap.size = w.heap.size) (ho : w'.os = w.os) (ht : w'.tape = w.tape) (hu : w'.output = w.output) :
    MR (μ.set M.next m') ρ (({ M with blks := M.blks.put b none } : Mem).add B') w' ∧ Ext M.next.toNat μ (μ.set M.next m') w w' := by
  have hnone := hM.nextNone
  have hle := Emb.le_set (b := M.next) m' hnone
  have hlt := hM.inb b m hm
  have hbn : b ≠ M.next := fun e => by have := hM.ids b B hb; rw [e] at this; omega
  refine ⟨⟨?_, ?_, ?_, ?_, ?_⟩, ⟨hle, by omega, fun i _ hn => hk i fun e => hn b m hm e.symm, ?_, ?_, ho, ht, hu⟩⟩
  · intro b' C m1 hC hm1
    simp only [Mem.add, T.get_put] at hC
    simp only [Emb.set] at hm1
    split at hC
    · rename_i e; subst e; cases hC; simp at hm1; subst hm1; exact hB
    · rename_i e
      rw [if_neg e] at hm1
      split at hC
      · cases hC
      · rename_i e2
        exact Blk.rel_le hle (Blk.rel_world (hM.blk b' C m1 hC hm1) (hk _ (hM.dist b' b C B m1 m hC hb hm1 hm e2)))
  · intro b1 b2 B1 B2 m1 m2 g1 g2 e1 e2 hne
    simp only [Mem.add, T.get_put] at g1 g2
    simp only [Emb.set] at e1 e2
    by_cases x : b1 = M.next <;> by_cases y : b2 = M.next
    · exact absurd (x.trans y.symm) hne
    · rw [if_pos x] at e1; rw [if_neg y] at e2 g2; cases e1
      split at g2
      · cases g2
      · rename_i z; intro e; exact hM.dist b2 b B2 B m2 m g2 hb e2 hm z (e.symm.trans he)
    · rw [if_neg x] at e1 g1; rw [if_pos y] at e2; cases e2
      split at g1
      · cases g1
      · rename_i z; intro e; exact hM.dist b1 b B1 B m1 m g1 hb e1 hm z (e.trans he)
    · rw [if_neg x] at g1 e1; rw [if_neg y] at g2 e2
      split at g1 <;> split at g2
      · cases g1
      · cases g1
      · cases g2
      · exact hM.dist b1 b2 B1 B2 m1 m2 g1 g2 e1 e2 hne
  · intro b' m1 hm1
    simp only [Emb.set] at hm1
    simp only [Mem.add, Pos.toNat_succ]
    split at hm1
    · rename_i e; subst e; omega
    · have := hM.fresh b' m1 hm1; omega
  · intro b' m1 hm1
    simp only [Emb.set] at hm1
    rw [hs]
    split at hm1
    · cases hm1; omega
    · exact hM.inb b' m1 hm1
  · intro b' C hC
    simp only [Mem.add, T.get_put] at hC
    simp only [Mem.add, Pos.toNat_succ]
    split at hC
    · rename_i e; subst e; omega
    · split at hC
      · cases hC
      · have := hM.ids b' C hC; omega
  · intro b' m1 h0 h1
    simp only [Emb.set] at h1
    split at h1
    · cases h1; exact .inr ⟨b, m, hm, he.symm⟩
    · rw [h0] at h1; cases h1
  · intro b' m1 h0 h1
    simp only [Emb.set] at h1
    split at h1
    · rename_i e; subst e; exact Nat.le_refl _
    · rw [h0] at h1; cases h1

/-- What append is told of. -/
structure App (P : Program) (t : TypeId) (e : TypeId) (i : TypeInfo) (z : Value) (esz bytes : Nat) : Prop where
  ht : P.underlying t = some (.slice e)
  hi : P.info? e = some i
  hz : i.zero = some z
  hs : i.size = esz
  hy : i.bytes = bytes
  hzs : z.cells.size = esz

theorem sliceCells (hM : MR μ ρ M w) {b : Pos} {off len esz c : Nat} {m : Loc} {a : Addr} (hm : μ b = some m) (ha : c ≠ 0 → a = ⟨m.blk, m.base + off, none⟩) (hlc : len ≤ c) {cs : List LV} (hb : M.blks.get b = some (.cells cs)) (hle : off + len * esz ≤ cs.length) :
    ∃ xs : List Value, xs.length = len * esz ∧ All2 (LV.rel μ ρ) ((cs.drop off).take (len * esz)) xs ∧ ∀ (j : Nat) v, xs[j]? = some v → w.cell? (a.add j) = some v := by
  by_cases h0 : len = 0
  · subst h0; exact ⟨[], by simp, by simp; exact .nil, fun j v hv => by simp at hv⟩
  · obtain rfl := ha (by omega)
    have key : ∀ l : List LV, ∀ o, (∀ (j : Nat) v, l[j]? = some v → ∃ x, w.cell? ⟨m.blk, m.base + (o + j), none⟩ = some x ∧ v.rel μ ρ x) →
        ∃ xs : List Value, xs.length = l.length ∧ All2 (LV.rel μ ρ) l xs ∧ ∀ (j : Nat) v, xs[j]? = some v → w.cell? ⟨m.blk, m.base + (o + j), none⟩ = some v := by
      intro l
      induction l with
      | nil => intro o _; exact ⟨[], rfl, .nil, fun j v hv => by simp at hv⟩
      | cons a l ih =>
        intro o ho
        obtain ⟨x, hx, hr⟩ := ho 0 a (by simp)
        obtain ⟨xs, hl, ha, hc⟩ := ih (o + 1) fun j v hv => by
          obtain ⟨y, hy, hr⟩ := ho (j + 1) v (by simpa using hv)
          exact ⟨y, by rw [show o + 1 + j = o + (j + 1) by omega]; exact hy, hr⟩
        refine ⟨x :: xs, by simp [hl], .cons hr ha, ?_⟩
        intro j v hv
        cases j with
        | zero => simp at hv; subst hv; exact hx
        | succ j => rw [show o + (j + 1) = o + 1 + j by omega]; exact hc j v (by simpa using hv)
    obtain ⟨xs, hl, hr, hc⟩ := key ((cs.drop off).take (len * esz)) off fun j v hv => by
      have hj : j < len * esz := by
        by_cases hj : j < len * esz
        · exact hj
        · rw [List.getElem?_take] at hv; simp [hj] at hv
      rw [List.getElem?_take, if_pos hj, List.getElem?_drop] at hv
      exact hM.cell hb hm hv
    exact ⟨xs, by rw [hl]; simp; omega, hr, fun j v hv => by rw [add_at, Nat.add_assoc]; exact hc j v hv⟩

theorem grown_cells {news : List Value} {z : Value} {esz n cap : Nat} (hl : news.length = n * esz) (hz : z.cells.size = esz) (hc : n ≤ cap) :
    (news.toArray ++ Builtin.zeroCells z.cells (cap - n)).size = cap * esz := by
  rw [Array.size_append, size_zeroCells, hz]
  simp only [List.size_toArray, hl]
  rw [← Nat.add_mul]
  congr 1; omega

/-- Append at which a new row is made. -/
theorem ok_appGrow (hM : MR μ ρ M w) {t ty e : TypeId} {i : TypeInfo} {z : Value} {esz bytes : Nat} (H : App P t e i z esz bytes) {old new : List LV} {olds news : List Value} (ho : All2 (LV.rel μ ρ) old olds) (hn : All2 (LV.rel μ ρ) new news)
    {sLen n2 sCap : Nat} {u v : Value} (hlo : olds.length = sLen * esz) (hln : news.length = n2 * esz)
    (hrun : (Builtin.append_ #[t, t] ty #[u, v]).run P w = .ok (.slice (some ⟨w.heap.size, 0, none⟩) (sLen + n2) (grownCap w (sLen + n2) sCap e)) (w.drew.alloc (.cells (olds.toArray ++ news.toArray ++ Builtin.zeroCells z.cells (grownCap w (sLen + n2) sCap e - (sLen + n2))) e))) :
    DoneV P μ ρ M w (Builtin.append_ #[t, t] ty #[u, v]) (.leaf (.slice M.next 0 (sLen + n2) esz none)) (M.add (.cells (old ++ new))) := by
  have hcap := grownCap_ge w (sLen + n2) sCap e
  generalize hG : grownCap w (sLen + n2) sCap e = G at *
  have hall := All2.append ho hn
  have hlen : (olds ++ news).length = (sLen + n2) * esz := by rw [List.length_append, hlo, hln, Nat.add_mul]
  have hsz := grown_cells (z := z) hlen H.hzs hcap
  have harr : olds.toArray ++ news.toArray = (olds ++ news).toArray := by simp
  rw [harr] at hrun
  have hM' : MR μ ρ M w.drew := hM.drew _
  obtain ⟨h1, h2⟩ := hM'.allocCells hall ((olds ++ news).toArray ++ Builtin.zeroCells z.cells (G - (sLen + n2))) e
    (fun j x hx => by
      have hj : j < (olds ++ news).length := by
        by_cases hj : j < (olds ++ news).length
        · exact hj
        · rw [List.getElem?_eq_none (by omega)] at hx; cases hx
      rw [Array.getElem?_append_left (by simpa using hj)]; simpa using hx)
    (by rw [hsz, hlen]; exact Nat.mul_le_mul_right _ hcap)
  refine ⟨_, _, _, hrun, ⟨_, ⟨w.heap.size, 0, none⟩, G, Emb.set_same .., ⟨?_, fun _ => ?_⟩, hcap, (fun x hx => by cases hx), fun _ => rfl, rfl⟩, h1, (Ext.drew _ μ w (w.drawn + 1)).trans h2 (Nat.le_refl _)⟩
  · simp only [Nat.zero_add]
    rw [hsz]; exact Nat.le_refl _
  · simp only [Nat.zero_add]
    rw [hsz]

theorem run_firstOf (size n : Nat) (a : Addr) (l c : Nat) (xs : List Value) (hl : xs.length = n * size) (h : ∀ (j : Nat) v, xs[j]? = some v → w.cell? (a.add j) = some v) : (Builtin.firstCells size n (.slice (some a) l c)).run P w = .ok xs.toArray w := by
  have := run_loadCells_list (P := P) w a xs h
  rw [hl] at this
  exact this

/-- Append at which there is room. -/
theorem ok_appRoom (hM : MR μ ρ M w) {t ty e : TypeId} {i : TypeInfo} {z : Value} {esz bytes : Nat} (H : App P t e i z esz bytes) {b : Pos} {off len c : Nat} {m : Loc} (hm : μ b = some m) (hroom : off + c * esz ≤ m.room)
    {cs : List LV} (hb : M.blks.get b = some (.cells cs)) (hle : off + len * esz ≤ cs.length) {new : List LV} {news : List Value} (hn : All2 (LV.rel μ ρ) new news) {n2 : Nat} (hln : news.length = n2 * esz) (hfit : len + n2 ≤ c)
    {a2 : Addr} {c2 : Nat} (h2 : ∀ (j : Nat) v, news[j]? = some v → w.cell? (a2.add j) = some v) (cap : Option Nat) (hcap : ∀ x, cap = some x → c = x) (hfull : cap = none → off + c * esz = m.room) :
    DoneV P μ ρ M w (Builtin.append_ #[t, t] ty #[.slice (some ⟨m.blk, m.base + off, none⟩) len c, .slice (some a2) n2 c2]) (.leaf (.slice M.next 0 (len + n2) esz cap))
      (({ M with blks := M.blks.put b none } : Mem).add (.cells ((cs.drop off).take (len * esz) ++ new))) := by
  obtain ⟨ca, t', fr, g1, g2, g3, g4, g5⟩ := hM.blk b _ m hb hm
  have hlen := hn.length
  have hmul : (len + n2) * esz ≤ c * esz := Nat.mul_le_mul_right _ hfit
  rw [Nat.add_mul] at hmul
  obtain ⟨w', c', e1, e2, e3, e4, e5, e6, e7, e8, e9⟩ := storeCells_run P m.blk (m.base + off + len * esz) t' fr news 0 ca w g1 hn.one (by omega) g4
  have hrun : (Builtin.append_ #[t, t] ty #[.slice (some ⟨m.blk, m.base + off, none⟩) len c, .slice (some a2) n2 c2]).run P w = .ok (.slice (some ⟨m.blk, m.base + off, none⟩) (len + n2) c) w' := by
    have hf := run_firstOf (P := P) (w := w) i.size n2 a2 n2 c2 news (by rw [H.hs]; exact hln) h2
    rw [← H.hs] at e1
    have e1' : (storeCells ((⟨m.blk, m.base + off, none⟩ : Addr).add (len * i.size)) news).run P w = .ok () w' := by rw [add_at]; exact e1
    simp [Builtin.append_, run_underlying H.ht, sizeOf, typeInfo, H.hi, Builtin.lenOf, hfit, hf, e1']
  have hle2 := Emb.le_set (b := M.next) ⟨m.blk, m.base + off, m.room - off⟩ hM.nextNone
  have hB : Blk.rel (μ.set M.next ⟨m.blk, m.base + off, m.room - off⟩) ρ (.cells ((cs.drop off).take (len * esz) ++ new)) ⟨m.blk, m.base + off, m.room - off⟩ w' := by
    refine ⟨c', t', fr, e2, by simp only; omega, by simp only [List.length_append, List.length_take, List.length_drop]; omega, by rw [e3]; exact g4, fun j v hv => ?_⟩
    simp only
    rw [e4]
    have htl : ((cs.drop off).take (len * esz)).length = len * esz := by simp; omega
    by_cases hj : j < len * esz
    · rw [List.getElem?_append_left (by omega), List.getElem?_take_of_lt hj, List.getElem?_drop] at hv
      rw [if_neg (by omega)]
      obtain ⟨x, hx, hr⟩ := g5 _ v hv
      exact ⟨x, by rw [show m.base + off + j = m.base + (off + j) by omega]; exact hx, LV.rel_le hle2 hr⟩
    · rw [List.getElem?_append_right (by omega), htl] at hv
      obtain ⟨x, hx, hr⟩ := hn.get hv
      have hj2 : j - len * esz < news.length := by
        by_cases h : j - len * esz < news.length
        · exact h
        · rw [List.getElem?_eq_none (by omega)] at hx; cases hx
      rw [if_pos (by omega)]
      exact ⟨x, by rw [show m.base + off + j - (m.base + off + len * esz + 0) = j - len * esz by omega]; exact hx, LV.rel_le hle2 hr⟩
  obtain ⟨r1, r2⟩ := hM.goesOn (m' := ⟨m.blk, m.base + off, m.room - off⟩) hb hm rfl hB e5 e6 e7 e8 e9
  exact ⟨_, _, _, hrun, ⟨⟨m.blk, m.base + off, m.room - off⟩, _, c, Emb.set_same .., ⟨by simp only; omega, fun e => by have := hfull e; simp only; omega⟩, hfit, hcap, fun _ => rfl, rfl⟩, r1, r2⟩

end

end Go.Ev
