/- Generic part N: every operation that has the evaluator's form: what the evaluator makes of it is what the model makes. -/
import Derived.Test.YtgkjbkkbjlhafaaGreatEvM
namespace Go.Ev

section
variable {Ω : Type} {P : Program} {Γ : Box} {μ : Emb} {ρ : Nat → Int} {M : Mem} {w : World}

theorem ok_min (hρ : Γ.has ρ) (hM : MR μ ρ M w) {a : Act} {tm : T AV} (hT : TR μ ρ tm a.tmps) {x y : Operand} {u v : Opd} (hx : copd x = some u) (hy : copd y = some v) {k : Option AV → Mem → Option Ω} {r : Ω}
    (h0 : evOp Γ (.mn u v) tm M k = some r) (ts : Array TypeId) (ty : TypeId) : ∃ q M', k (some q) M' = some r ∧ DoneV P μ ρ M w (Builtin.min_ ts ty #[a.eval x, a.eval y]) q M' := by
  change (opdK tm u fun u => opdK tm v fun v => _) = some r at h0
  obtain ⟨p, h1, hp⟩ := opdK_ok hT hx h0
  obtain ⟨q, h2, hq⟩ := opdK_ok hT hy h1
  obtain ⟨j, i, e1, h3⟩ := intK_ok h2
  obtain ⟨j', i', e2, h4⟩ := intK_ok h3
  subst e1; subst e2
  obtain ⟨n, hn, fn, e3⟩ := hp
  obtain ⟨m, hm, fm, e4⟩ := hq
  split at h4
  · cases h4
  · rename_i hk
    obtain rfl := kindEq_eq hk
    split at h4
    · rename_i s hs
      obtain ⟨b, g1, g2⟩ := cmpSI_ok (μ := μ) hρ hs hm hn
      simp only [cmpVal, Option.some.injEq] at g1
      split at h4
      · rename_i t
        cases g2
        split at h4
        · rw [decide_eq_true_iff] at g1
          refine ⟨_, _, h4, .still hM (x := .int j m) ?_ ⟨m, hm, fm, rfl⟩⟩
          rw [e3, e4]; simp [Builtin.min_, Builtin.min2, g1]
        · rw [decide_eq_false_iff_not] at g1
          refine ⟨_, _, h4, .still hM (x := .int j n) ?_ ⟨n, hn, fn, rfl⟩⟩
          rw [e3, e4]; simp [Builtin.min_, Builtin.min2, g1]
      · cases h4
    · cases h4

theorem ok_max (hρ : Γ.has ρ) (hM : MR μ ρ M w) {a : Act} {tm : T AV} (hT : TR μ ρ tm a.tmps) {x y : Operand} {u v : Opd} (hx : copd x = some u) (hy : copd y = some v) {k : Option AV → Mem → Option Ω} {r : Ω}
    (h0 : evOp Γ (.mx u v) tm M k = some r) (ts : Array TypeId) (ty : TypeId) : ∃ q M', k (some q) M' = some r ∧ DoneV P μ ρ M w (Builtin.max_ ts ty #[a.eval x, a.eval y]) q M' := by
  change (opdK tm u fun u => opdK tm v fun v => _) = some r at h0
  obtain ⟨p, h1, hp⟩ := opdK_ok hT hx h0
  obtain ⟨q, h2, hq⟩ := opdK_ok hT hy h1
  obtain ⟨j, i, e1, h3⟩ := intK_ok h2
  obtain ⟨j', i', e2, h4⟩ := intK_ok h3
  subst e1; subst e2
  obtain ⟨n, hn, fn, e3⟩ := hp
  obtain ⟨m, hm, fm, e4⟩ := hq
  split at h4
  · cases h4
  · rename_i hk
    obtain rfl := kindEq_eq hk
    split at h4
    · rename_i s hs
      obtain ⟨b, g1, g2⟩ := cmpSI_ok (μ := μ) hρ hs hm hn
      simp only [cmpVal, Option.some.injEq] at g1
      split at h4
      · rename_i t
        cases g2
        split at h4
        · rw [decide_eq_true_iff] at g1
          refine ⟨_, _, h4, .still hM (x := .int j m) ?_ ⟨m, hm, fm, rfl⟩⟩
          rw [e3, e4]; simp [Builtin.max_, Builtin.max2]; intro; omega
        · rw [decide_eq_false_iff_not] at g1
          refine ⟨_, _, h4, .still hM (x := .int j n) ?_ ⟨n, hn, fn, rfl⟩⟩
          rw [e3, e4]; simp [Builtin.max_, Builtin.max2]; intro; omega
      · cases h4
    · cases h4

theorem two_of {x y : Operand} {a : Act} {xs : Array Operand} (h : xs.toList = [x, y]) : xs.map a.eval = #[a.eval x, a.eval y] := by
  obtain ⟨l⟩ := xs; simp only at h; subst h; simp
theorem one_of {x : Operand} {a : Act} {xs : Array Operand} (h : xs.toList = [x]) : xs.map a.eval = #[a.eval x] := by
  obtain ⟨l⟩ := xs; simp only at h; subst h; simp
theorem twot_of {x y : TypeId} {xs : Array TypeId} (h : xs.toList = [x, y]) : xs = #[x, y] := by obtain ⟨l⟩ := xs; simp only at h; subst h; rfl
theorem onet_of {x : TypeId} {xs : Array TypeId} (h : xs.toList = [x]) : xs = #[x] := by obtain ⟨l⟩ := xs; simp only at h; subst h; rfl

/-- What a builtin comes to. -/
def builtinV (b : Builtin) (ts : Array TypeId) (ty : TypeId) (args : Array Value) : Sem Value :=
  match b with
  | .append => Builtin.append_ ts ty args
  | .len => Builtin.len_ ts ty args
  | .min => Builtin.min_ ts ty args
  | .max => Builtin.max_ ts ty args
  | .delete => Builtin.delete_ ts ty args
  | .clear => Builtin.clear_ ts ty args
  | _ => stuck ""

theorem v1K_ok {x : AV} {k : V1 → Option Ω} {r : Ω} (h : v1K x k = some r) {v : Value} (hv : x.rel μ ρ v) : ∃ y, k y = some r ∧ V1.rel μ ρ y v := by
  cases x with
  | leaf y => exact ⟨.leaf y, h, hv⟩
  | agg cs => exact ⟨.agg cs, h, hv⟩
  | tup _ => cases h

theorem fits_nat {n : Nat} (h : n ≤ 1073741824) : fits .i64 (Int.ofNat n) = true := by
  simp only [fits, hiN]; rw [Nat.ble_eq]; omega

theorem lenOkK_ok {n : Nat} {k : Nat → Option Ω} {r : Ω} (h : lenOkK n k = some r) : k n = some r ∧ fits .i64 (Int.ofNat n) = true := by
  unfold lenOkK at h
  split at h
  · rename_i hb; rw [Nat.ble_eq] at hb; exact ⟨h, fits_nat hb⟩
  · cases h

theorem ok_builtin (hρ : Γ.has ρ) (hM : MR μ ρ M w) {a : Act} {tm : T AV} (hT : TR μ ρ tm a.tmps) {b : Builtin} {ts : Array TypeId} {xs : Array Operand} {co : CO} (hc : compBuiltin P b ts.toList xs.toList = some co) {k : Option AV → Mem → Option Ω} {r : Ω}
    (h0 : evOp Γ co tm M k = some r) (ty : TypeId) : ∃ q M', k (some q) M' = some r ∧ DoneV P μ ρ M w (builtinV b ts ty (xs.map a.eval)) q M' := by
  cases b <;> simp only [compBuiltin] at hc <;> try (cases hc; done)
  case append =>
    split at hc
    case h_2 => cases hc
    rename_i t t' x y hts hxs
    split at hc
    case h_2 => cases hc
    rename_i e u v hu hx hy
    split at hc
    case h_2 => cases hc
    rename_i i hi
    split at hc
    case h_2 => cases hc
    rename_i z hz
    split at hc
    case h_2 => cases hc
    rename_i hb
    cases hc
    rw [Bool.and_eq_true] at hb
    obtain rfl := Nat.eq_of_beq_eq_true hb.1
    have hzs := Nat.eq_of_beq_eq_true hb.2
    rw [two_of hxs, twot_of hts]
    change (opdK tm u fun u => opdK tm v fun v => _) = some r at h0
    obtain ⟨p, h1, hp⟩ := opdK_ok hT hx h0
    obtain ⟨q, h2, hq⟩ := opdK_ok hT hy h1
    exact ok_append (ty := ty) hM ⟨hu, hi, hz, rfl, rfl, hzs⟩ hp hq (k := k) (Γ := Γ) h2
  case len =>
    split at hc
    case h_2 => cases hc
    rename_i t x hts hxs
    rw [one_of hxs, onet_of hts]
    split at hc
    · rename_i e u hu hx
      cases hc
      change (opdK tm u fun u => _) = some r at h0
      obtain ⟨p, h1, hp⟩ := opdK_ok hT hx h0
      obtain ⟨l, e1, h2⟩ := leafK_ok h1
      subst e1
      cases l <;> try (cases h2; done)
      · rename_i b off len esz cap
        obtain ⟨m, ad, c, _, _, _, _, _, e⟩ := hp
        rw [e]
        obtain ⟨h3, hf⟩ := lenOkK_ok h2
        exact ⟨_, _, h3, .still hM (x := goInt len) (by simp [builtinV, Builtin.len_, run_underlying hu]) ⟨_, rfl, hf, rfl⟩⟩
      · rw [hp]
        exact ⟨_, _, h2, .still hM (x := goInt 0) (by simp [builtinV, Builtin.len_, run_underlying hu]) ⟨0, rfl, rfl, rfl⟩⟩
    · rename_i u hu hx
      cases hc
      change (opdK tm u fun u => _) = some r at h0
      obtain ⟨p, h1, hp⟩ := opdK_ok hT hx h0
      obtain ⟨bs, s, h2, hs, e⟩ := strK_ok h1 hp
      rw [e]
      rw [nK_eq] at h2
      obtain ⟨h3, hf⟩ := lenOkK_ok h2
      exact ⟨_, _, h3, .still hM (x := goInt s.size) (by simp [builtinV, Builtin.len_, run_underlying hu]) ⟨_, rfl, hf, by rw [strIs_len hs]; rfl⟩⟩
    · rename_i key elem u hu hx
      cases hc
      change (opdK tm u fun u => _) = some r at h0
      obtain ⟨p, h1, hp⟩ := opdK_ok hT hx h0
      obtain ⟨l, e1, h2⟩ := leafK_ok h1
      subst e1
      cases l <;> try (cases h2; done)
      · rename_i b
        obtain ⟨m, hm, e⟩ := hp
        obtain ⟨es, hb, h3⟩ := mapBK_ok h2
        rw [nK_eq] at h3
        obtain ⟨h4, hf⟩ := lenOkK_ok h3
        exact ⟨_, _, h4, ok_lenmap (ty := ty) hM hu hm hb e hf⟩
      · rw [hp]
        exact ⟨_, _, h2, .still hM (x := goInt 0) (by simp [builtinV, Builtin.len_, run_underlying hu]) ⟨0, rfl, rfl, rfl⟩⟩
    · cases hc
  case min =>
    split at hc
    case h_2 => cases hc
    rename_i x y hxs
    split at hc
    case h_2 => cases hc
    rename_i u v hx hy
    cases hc
    rw [two_of hxs]
    exact ok_min hρ hM hT hx hy h0 ts ty
  case max =>
    split at hc
    case h_2 => cases hc
    rename_i x y hxs
    split at hc
    case h_2 => cases hc
    rename_i u v hx hy
    cases hc
    rw [two_of hxs]
    exact ok_max hρ hM hT hx hy h0 ts ty
  case delete =>
    split at hc
    case h_2 => cases hc
    rename_i t t2 x y hts hxs
    split at hc
    case h_2 => cases hc
    rename_i key elem u v hu hx hy
    simp only [Option.map_eq_some_iff] at hc
    obtain ⟨ks, hk, rfl⟩ := hc
    rw [two_of hxs, twot_of hts]
    change (opdK tm u fun u => opdK tm v fun v => _) = some r at h0
    obtain ⟨p, h1, hp⟩ := opdK_ok hT hx h0
    obtain ⟨q, h2, hq⟩ := opdK_ok hT hy h1
    obtain ⟨key', h3, hkey⟩ := v1K_ok h2 hq
    obtain ⟨l, e1, h4⟩ := leafK_ok h3
    subst e1
    cases l <;> try (cases h4; done)
    rename_i b
    obtain ⟨m, hm, e⟩ := hp
    obtain ⟨es, hb, h5⟩ := mapBK_ok h4
    split at h5
    · rename_i f hf
      split at h5
      · rename_i iv
        obtain ⟨i, y'⟩ := iv
        rw [nK_eq] at h5
        obtain ⟨g1, g2⟩ := ok_delete (ty := ty) (t2 := t2) hρ hM hu hk hm hb e hkey hf
        dsimp only at h5
        rw [takeK_eq, if_pos (by omega), dropK_eq, if_pos (by simp; omega), appK_eq, Mem.putK_eq] at h5
        exact ⟨_, _, h5, g1⟩
      · exact ⟨_, _, h5, ok_deleteNone (ty := ty) (t2 := t2) hρ hM hu hk hm hb e hkey hf⟩
    · cases h5
  case clear =>
    split at hc
    case h_2 => cases hc
    rename_i t x hts hxs
    split at hc
    case h_2 => cases hc
    rename_i e u hu hx
    simp only [Option.map_eq_some_iff] at hc
    obtain ⟨z, hz, rfl⟩ := hc
    rw [one_of hxs, onet_of hts]
    change (opdK tm u fun u => _) = some r at h0
    obtain ⟨p, h1, hp⟩ := opdK_ok hT hx h0
    rcases sliceK_ok h1 hp with ⟨e1, h2⟩ | ⟨b, off, len, esz, cap, h2, hp2⟩
    · rw [e1]; exact ⟨_, _, h2, (ok_clearNone (ty := ty) (a := none) (c := 0) hM hu : DoneV P μ ρ M w (Builtin.clear_ #[t] ty #[.slice none 0 0]) (.tup []) M)⟩
    · split at h2
      · rename_i h3
        have h3 := Nat.eq_of_beq_eq_true h3
        subst h3
        obtain ⟨_, ad, c, _, _, _, _, _, e2⟩ := hp2
        rw [e2]; exact ⟨_, _, h2, (ok_clearNone (ty := ty) (a := some ad) (c := c) hM hu : DoneV P μ ρ M w (Builtin.clear_ #[t] ty #[.slice (some ad) 0 c]) (.tup []) M)⟩
      · rename_i h3
        have h3 : len ≠ 0 := fun e => by subst e; simp at h3
        obtain ⟨cs, hb, h4⟩ := blkK_ok h2
        have h5 := repLK_ok z len h4
        split at h5
        · rename_i h6
          have h6 := Nat.eq_of_beq_eq_true h6
          subst h6
          rw [overK_eq] at h5
          split at h5
          · rename_i hle
            rw [Mem.putK_eq] at h5
            exact ⟨_, _, h5, ok_clear (ty := ty) hM hu hz hp2 h3 hb hle⟩
          · cases h5
        · cases h5

end

end Go.Ev
