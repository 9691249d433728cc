/- Generic part L: slices cut, cleared; maps' deletions and lengths; the least and the greatest; literals. -/
import Derived.Test.YtgkjbkkbjlhafaaGreatEvK
namespace Go.Ev

section
variable {Ω : Type} {P : Program} {Γ : Box} {μ : Emb} {ρ : Nat → Int} {M : Mem} {w : World}

/-! Bounds. -/

/-- A bound that may lack: what it is in the model. -/
def BoundIs (x : Option Nat) (v : Option Value) : Prop :=
  match x, v with
  | none, none => True
  | some n, some v => ∃ j, v = .int j (Int.ofNat n)
  | _, _ => False

theorem optK_ok {tm : T AV} {a : Act} (hT : TR μ ρ tm a.tmps) {x : Option Operand} {y : Option Opd} (hc : (match x with | none => some none | some x => (copd x).map some) = some y) {k : Option Nat → Option Ω} {r : Ω} (h : optK tm y k opdK = some r) :
    ∃ n, k n = some r ∧ BoundIs n (x.map a.eval) := by
  cases x with
  | none => cases hc; exact ⟨none, h, trivial⟩
  | some x =>
    simp only [Option.map_eq_some_iff] at hc
    obtain ⟨y, hy, rfl⟩ := hc
    obtain ⟨v, h, hv⟩ := opdK_ok hT hy h
    obtain ⟨j, m, h, e⟩ := natK_ok h hv
    rw [nK_eq] at h
    exact ⟨some m, h, j, e⟩

theorem boundsK_ok {len : Nat} {lo hi : Option Nat} {k : Nat → Nat → Option Ω} {r : Ω} (h : boundsK len lo hi k = some r) : ∃ l u, k l u = some r ∧ l ≤ u ∧ u ≤ len ∧ l = lo.getD 0 ∧ u = hi.getD len := by
  unfold boundsK at h
  split at h
  · cases h
  · rename_i hb
    cases hi with
    | some u =>
      simp only [Nat.ble_eq] at hb
      cases lo with
      | some l =>
        dsimp only at h
        split at h
        · rename_i h2; rw [Nat.ble_eq] at h2; exact ⟨l, u, h, h2, hb, rfl, rfl⟩
        · cases h
      | none => exact ⟨0, u, h, Nat.zero_le _, hb, rfl, rfl⟩
    | none =>
      cases lo with
      | some l =>
        dsimp only at h
        split at h
        · rename_i h2; rw [Nat.ble_eq] at h2; exact ⟨l, len, h, h2, Nat.le_refl _, rfl, rfl⟩
        · cases h
      | none => exact ⟨0, len, h, Nat.zero_le _, Nat.le_refl _, rfl, rfl⟩

theorem run_bound {n y : Nat} {v : Value} {j : IntKind} (hv : v = .int j (Int.ofNat n)) (h : n ≤ y) (c : BoundsCode) (w : World) : (Instr.sliceBound v y c).run P w = .ok n w := by
  subst hv
  have : (n : Int) ≤ (y : Int) := by omega
  simp [Instr.sliceBound, asIntOf]
  omega

theorem run_bounds {isSlice : Bool} {len cap : Nat} {lo hi : Option Nat} {vlo vhi : Option Value} (hlo : BoundIs lo vlo) (hhi : BoundIs hi vhi) (h1 : lo.getD 0 ≤ hi.getD len) (h2 : hi.getD len ≤ cap) (w : World) :
    (Instr.sliceBounds isSlice len cap vlo vhi none).run P w = .ok (lo.getD 0, hi.getD len, cap) w := by
  cases hi with
  | none =>
    cases vhi with
    | some _ => exact hhi.elim
    | none =>
      cases lo with
      | none => cases vlo with
        | some _ => exact hlo.elim
        | none => simp [Instr.sliceBounds]
      | some l => cases vlo with
        | none => exact hlo.elim
        | some vl => obtain ⟨j, e⟩ := hlo; simp only [Option.getD_some, Option.getD_none] at h1; simp [Instr.sliceBounds, run_bound e h1]
  | some u =>
    cases vhi with
    | none => exact hhi.elim
    | some vu =>
      obtain ⟨j, e⟩ := hhi
      simp only [Option.getD_some] at h1 h2
      cases lo with
      | none => cases vlo with
        | some _ => exact hlo.elim
        | none => simp [Instr.sliceBounds, run_bound e h2]
      | some l => cases vlo with
        | none => exact hlo.elim
        | some vl => obtain ⟨j', e'⟩ := hlo; simp only [Option.getD_some] at h1; simp [Instr.sliceBounds, run_bound e h2, run_bound e' h1]

theorem run_bounds3 {isSlice : Bool} {len cap m u : Nat} {lo : Option Nat} {vlo : Option Value} {vu vm : Value} {ju jm : IntKind} (hlo : BoundIs lo vlo) (hu : vu = .int ju (Int.ofNat u)) (hm : vm = .int jm (Int.ofNat m)) (h1 : lo.getD 0 ≤ u) (h2 : u ≤ m) (h3 : m ≤ cap) (w : World) :
    (Instr.sliceBounds isSlice len cap vlo (some vu) (some vm)).run P w = .ok (lo.getD 0, u, m) w := by
  cases lo with
  | none => cases vlo with
    | some _ => exact hlo.elim
    | none => simp [Instr.sliceBounds, run_bound hm h3, run_bound hu h2]
  | some l => cases vlo with
    | none => exact hlo.elim
    | some vl => obtain ⟨j', e'⟩ := hlo; simp only [Option.getD_some] at h1; simp [Instr.sliceBounds, run_bound hm h3, run_bound hu h2, run_bound e' h1]

/-- Where a slice of a slice begins. -/
theorem slice_rel {b : Pos} {off esz c : Nat} {m : Loc} {a : Addr} (hm : μ b = some m) (hroom : off + c * esz ≤ m.room) (ha : c ≠ 0 → a = ⟨m.blk, m.base + off, none⟩) {l u mx : Nat} (h1 : l ≤ u) (h2 : u ≤ mx) (h3 : mx ≤ c) {cap : Option Nat} (hcap : ∀ x, cap = some x → mx - l = x) (hfull : cap = none → off + c * esz = m.room ∧ mx = c) :
    LV.rel μ ρ (.slice b (off + l * esz) (u - l) esz cap) (.slice (some (if mx = l then a else a.add (l * esz))) (u - l) (mx - l)) := by
  refine ⟨m, _, mx - l, hm, ⟨?_, fun e => ?_⟩, by omega, hcap, ?_, rfl⟩
  · have := Nat.mul_le_mul_right esz (show l + (mx - l) ≤ c by omega)
    rw [Nat.add_mul] at this; omega
  · obtain ⟨g1, g2⟩ := hfull e
    subst g2
    have : mx * esz = l * esz + (mx - l) * esz := by rw [← Nat.add_mul]; congr 1; omega
    omega
  · intro h
    rw [if_neg (by omega)]
    obtain rfl := ha (by omega)
    rw [add_at, Nat.add_assoc]

theorem ok_slice (hM : MR μ ρ M w) {t e : TypeId} {esz : Nat} (ht : P.underlying t = some (.slice e)) (hs : tsize P e = some esz) {b : Pos} {off len : Nat} {cap : Option Nat} {u : Value} (hu : LV.rel μ ρ (.slice b off len esz cap) u)
    {lo hi : Option Nat} {vlo vhi : Option Value} (hlo : BoundIs lo vlo) (hhi : BoundIs hi vhi) (h1 : lo.getD 0 ≤ hi.getD len) (h2 : hi.getD len ≤ len) :
    DoneV P μ ρ M w (Instr.sliceAt t u vlo vhi none) (.leaf (.slice b (off + lo.getD 0 * esz) (hi.getD len - lo.getD 0) esz (cap.map (· - lo.getD 0)))) M := by
  obtain ⟨m, a, c, hm, ⟨hroom, hfull⟩, hlc, hcap, ha, rfl⟩ := hu
  refine .still hM ?_ (slice_rel (ρ := ρ) hm hroom ha h1 (show hi.getD len ≤ c by omega) (Nat.le_refl c) ?_ fun e => ⟨hfull (by cases cap with | none => rfl | some x => cases e), rfl⟩)
  · simp [Instr.sliceAt, run_underlying ht, Instr.slice, run_bounds hlo hhi h1 (show hi.getD len ≤ c by omega), run_size hs]
    split <;> rfl
  · intro x hx
    cases cap with
    | none => cases hx
    | some c0 => cases hx; rw [hcap c0 rfl]

theorem ok_slice3 (hM : MR μ ρ M w) {t e : TypeId} {esz : Nat} (ht : P.underlying t = some (.slice e)) (hs : tsize P e = some esz) {b : Pos} {off len : Nat} {cap : Option Nat} {u : Value} (hu : LV.rel μ ρ (.slice b off len esz cap) u)
    {lo : Option Nat} {vlo : Option Value} {h m : Nat} {vh vm : Value} {jh jm : IntKind} (hlo : BoundIs lo vlo) (hh : vh = .int jh (Int.ofNat h)) (hmx : vm = .int jm (Int.ofNat m)) (h1 : lo.getD 0 ≤ h) (h2 : h ≤ m) (h3 : m ≤ len) :
    DoneV P μ ρ M w (Instr.sliceAt t u vlo (some vh) (some vm)) (.leaf (.slice b (off + lo.getD 0 * esz) (h - lo.getD 0) esz (some (m - lo.getD 0)))) M := by
  obtain ⟨m', a, c, hm, ⟨hroom, hfull⟩, hlc, hcap, ha, rfl⟩ := hu
  refine .still hM ?_ (slice_rel (ρ := ρ) hm hroom ha h1 h2 (show m ≤ c by omega) (fun x hx => by cases hx; rfl) fun e => by cases e)
  simp [Instr.sliceAt, run_underlying ht, Instr.slice, run_bounds3 hlo hh hmx h1 h2 (show m ≤ c by omega), run_size hs]
  split <;> rfl

theorem ok_sliceNil (hM : MR μ ρ M w) {t e : TypeId} {esz : Nat} (ht : P.underlying t = some (.slice e)) (hs : tsize P e = some esz) {lo hi : Option Nat} {vlo vhi : Option Value} (hlo : BoundIs lo vlo) (hhi : BoundIs hi vhi)
    (h1 : lo.getD 0 ≤ hi.getD 0) (h2 : hi.getD 0 ≤ 0) : DoneV P μ ρ M w (Instr.sliceAt t (.slice none 0 0) vlo vhi none) (.leaf .nilslice) M := by
  refine .still hM (x := .slice none 0 0) ?_ rfl
  have e1 : hi.getD 0 = 0 := by omega
  have e2 : lo.getD 0 = 0 := by omega
  simp [Instr.sliceAt, run_underlying ht, Instr.slice, run_bounds hlo hhi h1 h2, run_size hs, e1, e2]

theorem ok_sliceA (hM : MR μ ρ M w) {t e : TypeId} {n esz : Nat} (ht : P.underlying t = some (.array n e)) (hs : tsize P e = some esz) {b : Pos} {off : Nat} {m : Loc} (hm : μ b = some m) {u : Value} (hu : u = .pointer (some ⟨m.blk, m.base + off, none⟩)) {cs : List LV}
    (hb : M.blks.get b = some (.cells cs)) (hle : off + n * esz ≤ cs.length) {lo hi : Option Nat} {vlo vhi : Option Value} (hlo : BoundIs lo vlo) (hhi : BoundIs hi vhi) (h1 : lo.getD 0 ≤ hi.getD n) (h2 : hi.getD n ≤ n) :
    DoneV P μ ρ M w (Instr.sliceAt t u vlo vhi none) (.leaf (.slice b (off + lo.getD 0 * esz) (hi.getD n - lo.getD 0) esz (some (n - lo.getD 0)))) M := by
  subst hu
  obtain ⟨ca, _, _, _, _, hlen, _, _⟩ := hM.blk b _ m hb hm
  refine .still hM ?_ (slice_rel (ρ := ρ) (c := n) hm (by omega) (a := ⟨m.blk, m.base + off, none⟩) (fun _ => rfl) h1 h2 (Nat.le_refl n) (fun x hx => by cases hx; rfl) fun e => by cases e)
  simp [Instr.sliceAt, run_underlying ht, Instr.sureAddr, run_bounds hlo hhi h1 h2, run_size hs]

theorem data_extract (s : ByteArray) (l h : Nat) (hh : h ≤ s.size) : (s.extract l h).data.toList = (s.data.toList.drop l).take (h - l) := by
  rw [ByteArray.data_extract, Array.toList_extract]

theorem ok_sliceStr (hM : MR μ ρ M w) {t : TypeId} (ht : P.underlying t = some .string) {bs : List SI} {s : ByteArray} (hs : strIs ρ bs s) {u : Value} (hu : u = .string s) {lo hi : Option Nat} {vlo vhi : Option Value} (hlo : BoundIs lo vlo) (hhi : BoundIs hi vhi)
    (h1 : lo.getD 0 ≤ hi.getD bs.length) (h2 : hi.getD bs.length ≤ bs.length) : DoneV P μ ρ M w (Instr.sliceAt t u vlo vhi none) (.leaf (.str ((bs.drop (lo.getD 0)).take (hi.getD bs.length - lo.getD 0)))) M := by
  subst hu
  rw [strIs_len hs] at h1 h2 ⊢
  refine .still hM (x := .string (s.extract (lo.getD 0) (hi.getD s.size))) ?_ ⟨_, ?_, rfl⟩
  · simp [Instr.sliceAt, run_underlying ht, Instr.slice, run_bounds hlo hhi h1 h2]
  · unfold strIs
    rw [data_extract _ _ _ h2]
    exact (All2.drop hs _).take _

/-! Clearing. -/

theorem repLK_ok (z : List LV) : ∀ (n : Nat) {k : List LV → Option Ω} {r : Ω}, evOp.repLK z n k = some r → k (List.flatten (List.replicate n z)) = some r
  | 0, k, r, h => h
  | n + 1, k, r, h => by
    change (evOp.repLK z n fun l => appK z l k) = some r at h
    have := repLK_ok z n h
    rw [appK_eq] at this
    rw [List.replicate_succ, List.flatten_cons]; exact this

theorem zeroCells_list (zs : Array Value) : ∀ n, (Builtin.zeroCells zs n).toList = List.flatten (List.replicate n zs.toList) := by
  intro n
  unfold Builtin.zeroCells
  rw [Array.toList_map, Array.toList_range]
  by_cases hz : zs.size = 0
  · have : zs.toList = [] := by apply List.eq_nil_of_length_eq_zero; simpa using hz
    rw [this, hz]; simp
  · apply List.ext_getElem?
    intro i
    have hlen : (List.flatten (List.replicate n zs.toList)).length = n * zs.size := by simp [List.length_flatten]
    by_cases hi : i < n * zs.size
    · rw [List.getElem?_map, List.getElem?_range hi, Option.map_some]
      have hdiv : i / zs.size < n := (Nat.div_lt_iff_lt_mul (by omega)).2 hi
      have hmod : i % zs.size < zs.size := Nat.mod_lt _ (by omega)
      have key : ∀ (n i : Nat), i < n * zs.size → (List.flatten (List.replicate n zs.toList))[i]? = zs.toList[i % zs.size]? := by
        intro n
        induction n with
        | zero => intro i h; omega
        | succ n ih =>
          intro i h
          rw [List.replicate_succ, List.flatten_cons]
          by_cases hl : i < zs.size
          · rw [List.getElem?_append_left (by simpa using hl), Nat.mod_eq_of_lt hl]
          · rw [List.getElem?_append_right (by simp; omega)]
            simp only [Array.length_toList]
            rw [ih (i - zs.size) (by rw [Nat.add_mul] at h; omega), Nat.mod_eq_sub_mod (a := i) (by omega)]
      rw [key n i hi]
      simp [hmod]
    · rw [List.getElem?_eq_none (by simp; omega), List.getElem?_eq_none (by omega)]

theorem All2.reps {r : LV → Value → Prop} {z : List LV} {zs : List Value} (h : All2 r z zs) : ∀ n, All2 r (List.flatten (List.replicate n z)) (List.flatten (List.replicate n zs))
  | 0 => .nil
  | n + 1 => by rw [List.replicate_succ, List.flatten_cons, List.replicate_succ, List.flatten_cons]; exact h.append (All2.reps h n)

theorem ok_clear (hM : MR μ ρ M w) {t ty e : TypeId} {z : List LV} (ht : P.underlying t = some (.slice e)) (hz : tzero P e = some z) {b : Pos} {off len : Nat} {cap : Option Nat} {u : Value} (hu : LV.rel μ ρ (.slice b off len z.length cap) u) (h0 : len ≠ 0) {cs : List LV}
    (hb : M.blks.get b = some (.cells cs)) (hle : off + (List.flatten (List.replicate len z)).length ≤ cs.length) :
    DoneV P μ ρ M w (Builtin.clear_ #[t] ty #[u]) (.tup []) { M with blks := M.blks.put b (some (.cells (over off (List.flatten (List.replicate len z)) cs))) } := by
  obtain ⟨m, a, c, hm, ⟨hroom, hfull⟩, hlc, hcap, ha, rfl⟩ := hu
  obtain rfl := ha (by omega)
  obtain ⟨zv, hzv, hzc, _⟩ := run_zero hz w
  have hx := clvs_ok hzc μ ρ
  obtain ⟨w', h1, h2, h3⟩ := hM.store hb hm off (All2.reps hx len) hle P
  refine ⟨.tuple #[], w', μ, ?_, ⟨[], .nil, rfl⟩, h2, h3⟩
  have e := zeroCells_list zv.cells len
  obtain ⟨n, rfl⟩ : ∃ n, len = n + 1 := ⟨len - 1, by omega⟩
  unfold Builtin.clear_
  simp [run_underlying ht, hzv, e, h1]

theorem ok_clearNone (hM : MR μ ρ M w) {t ty e : TypeId} (ht : P.underlying t = some (.slice e)) {a : Option Addr} {c : Nat} : DoneV P μ ρ M w (Builtin.clear_ #[t] ty #[.slice a 0 c]) (.tup []) M := by
  refine .still hM (x := .tuple #[]) ?_ ⟨[], .nil, rfl⟩
  cases a <;> simp [Builtin.clear_, run_underlying ht]

/-! Maps. -/

theorem ok_delete (hρ : Γ.has ρ) (hM : MR μ ρ M w) {t ty t2 key elem : TypeId} {ks : Bool} (ht : P.underlying t = some (.map key elem)) (hk : keyKind P key = some ks)
    {b : Pos} {m : Loc} (hm : μ b = some m) {es : List (V1 × V1)} (hb : M.blks.get b = some (.map es)) {x : V1} {u v : Value} (hu : u = .map (some m.blk)) (hv : x.rel μ ρ v) {i : Nat} {y : V1} (hf : findE Γ ks x es 0 = some (some (i, y))) :
    DoneV P μ ρ M w (Builtin.delete_ #[t, t2] ty #[u, v]) (.tup []) { M with blks := M.blks.put b (some (.map (es.take i ++ (es.drop i).drop 1))) } ∧ i < es.length := by
  subst hu
  obtain ⟨entries, clock, h1, hst, h2⟩ := hM.blk b _ m hb hm
  obtain ⟨d, hd, hdd⟩ := keyKind_desc hk
  rcases findE_ok hρ hdd hv h2 hf with ⟨e, _⟩ | ⟨n, y', x', e, g, g3, g4, g5, g6, g7⟩
  · cases e
  · simp only [Nat.zero_add, Option.some.injEq, Prod.mk.injEq] at e g
    obtain ⟨rfl, rfl⟩ := e
    have hlen := h2.length
    simp only [Array.length_toList] at hlen
    have hes : (entries.eraseIdxIfInBounds i).toList = entries.toList.take i ++ (entries.toList.drop i).drop 1 := by
      rw [Array.toList_eraseIdxIfInBounds, List.eraseIdx_eq_take_drop_succ, List.drop_drop]
    obtain ⟨r1, r2⟩ := hM.setMap hm hb (entries := entries.eraseIdxIfInBounds i) (clock := clock) (es' := es.take i ++ (es.drop i).drop 1) (by rw [Array.toList_eraseIdxIfInBounds]; exact hst.sub (List.eraseIdx_sublist _ _)) (by rw [hes]; exact (h2.take i).append ((h2.drop i).drop 1))
    exact ⟨⟨_, _, μ, by simp [Builtin.delete_, run_underlying ht, run_getMap h1, run_checkKey hk, run_findKey hd g, run_setMap h1], ⟨[], .nil, rfl⟩, r1, r2⟩, g5⟩

theorem ok_deleteNone (hρ : Γ.has ρ) (hM : MR μ ρ M w) {t ty t2 key elem : TypeId} {ks : Bool} (ht : P.underlying t = some (.map key elem)) (hk : keyKind P key = some ks)
    {b : Pos} {m : Loc} (hm : μ b = some m) {es : List (V1 × V1)} (hb : M.blks.get b = some (.map es)) {x : V1} {u v : Value} (hu : u = .map (some m.blk)) (hv : x.rel μ ρ v) (hf : findE Γ ks x es 0 = some none) :
    DoneV P μ ρ M w (Builtin.delete_ #[t, t2] ty #[u, v]) (.tup []) M := by
  subst hu
  obtain ⟨entries, clock, h1, hst, h2⟩ := hM.blk b _ m hb hm
  obtain ⟨d, hd, hdd⟩ := keyKind_desc hk
  rcases findE_ok hρ hdd hv h2 hf with ⟨e, g⟩ | ⟨n, y', x', e, _⟩
  · obtain ⟨r1, r2⟩ := hM.setMap hm hb (hst := hst) (entries := entries) (clock := clock) (es' := es) h2
    refine ⟨_, _, μ, by simp [Builtin.delete_, run_underlying ht, run_getMap h1, run_checkKey hk, run_findKey hd g, run_setMap h1], ⟨[], .nil, rfl⟩, r1.same rfl fun p => ?_, r2⟩
    simp only [T.get_put]
    split
    · rename_i e; subst e; exact hb
    · rfl
  · cases e

theorem ok_lenmap (hM : MR μ ρ M w) {t ty key elem : TypeId} (ht : P.underlying t = some (.map key elem)) {b : Pos} {m : Loc} (hm : μ b = some m) {es : List (V1 × V1)} (hb : M.blks.get b = some (.map es)) {u : Value} (hu : u = .map (some m.blk)) (hs : fits .i64 (Int.ofNat es.length) = true) :
    DoneV P μ ρ M w (Builtin.len_ #[t] ty #[u]) (.leaf (.int .i64 (.lit (Int.ofNat es.length)))) M := by
  subst hu
  obtain ⟨entries, clock, h1, hst, h2⟩ := hM.blk b _ m hb hm
  have hlen := h2.length
  simp only [Array.length_toList] at hlen
  exact .still hM (x := goInt entries.size) (by simp [Builtin.len_, run_underlying ht, run_getMap h1]) ⟨_, rfl, hs, by rw [hlen]; rfl⟩

/-! Literals. -/

theorem run_places {fs : Array Field} (h : ∀ f ∈ fs.toList, (tsize P f.type).isSome = true) (w : World) :
    (fs.mapM fun f => do pure (f.offset, ← sizeOf f.type) : Sem (Array (Nat × Nat))).run P w = .ok (fs.map fun f => (f.offset, (tsize P f.type).getD 0)) w := by
  rw [Array.mapM_eq_mapM_toList]
  simp only [Sem.run_map]
  rw [run_mapM (P := P) _ (fun f : Field => (f.offset, (tsize P f.type).getD 0)) w fs.toList fun f hf => by
    obtain ⟨n, hn⟩ := Option.isSome_iff_exists.1 (h f hf)
    simp [run_size hn, hn]]
  simp [Result.andThen, ← Array.toList_map]

end

end Go.Ev
