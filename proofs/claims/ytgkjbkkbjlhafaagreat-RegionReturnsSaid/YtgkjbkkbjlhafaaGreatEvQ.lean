/- Generic part Q: the operations that need no world: what the evaluator makes of them they give in every world. (Printed by mkpure.py out of the texts of parts H, I, L, M, N, O.) -/
import Derived.Test.YtgkjbkkbjlhafaaGreatEvP
namespace Go.Ev

section
variable {Ω : Type} {P : Program} {Γ : Box} {μ : Emb} {ρ : Nat → Int} {M : Mem}

def Still (P : Program) (μ : Emb) (ρ : Nat → Int) (s : Sem Value) (v : AV) : Prop := ∃ x, (∀ w, s.run P w = .ok x w) ∧ v.rel μ ρ x

theorem Still.st {s : Sem Value} {v : AV} {x : Value} (h : ∀ w, s.run P w = .ok x w) (hr : v.rel μ ρ x) : Still P μ ρ s v := ⟨x, h, hr⟩

theorem pu_ar (hρ : Γ.has ρ) {op : BinOp} {t : TypeId} {ox oy : Operand} {j j' : IntKind} {a b s : SI} {u v : Value} (hu : AV.rel μ ρ (.leaf (.int j a)) u) (hv : AV.rel μ ρ (.leaf (.int j' b)) v)
    (hk : (match op with | .shl => true | .shr => true | _ => kindEq j j') = true) (hs : arSI Γ op j a b = some s) :
    Still P μ ρ (do eqGuard op t ox oy u v; binOp op t u v) (.leaf (.int j s)) := by
  obtain ⟨x, hx, fx, rfl⟩ := hu
  obtain ⟨y, hy, fy, rfl⟩ := hv
  have hk' : op ≠ .shl → op ≠ .shr → j = j' := fun h1 h2 => by cases op <;> first | exact kindEq_eq hk | exact absurd rfl h1 | exact absurd rfl h2
  obtain ⟨n, h1, h2, h3⟩ := arSI_ok hρ hs hx hy fx (fun h1 h2 => by rw [hk' h1 h2]; exact fy)
  exact .st (x := .int j n) (by intro w; rw [Sem.run_bind, run_guard_int, Result.andThen_ok, run_ar op t j j' x y n w hk' h3]) ⟨n, h1, h2, rfl⟩

theorem pu_cmp (hρ : Γ.has ρ) {op : BinOp} {t : TypeId} {ox oy : Operand} {j j' : IntKind} {a b : SI} {s : LV} {u v : Value} (hu : AV.rel μ ρ (.leaf (.int j a)) u) (hv : AV.rel μ ρ (.leaf (.int j' b)) v)
    (hk : kindEq j j' = true) (hs : cmpSI Γ op a b = some s) : Still P μ ρ (do eqGuard op t ox oy u v; binOp op t u v) (.leaf s) := by
  obtain ⟨x, hx, fx, rfl⟩ := hu
  obtain ⟨y, hy, fy, rfl⟩ := hv
  obtain rfl := kindEq_eq hk
  obtain ⟨r, h1, h2⟩ := cmpSI_ok (μ := μ) hρ hs hx hy
  exact .st (x := .bool r) (by intro w; rw [Sem.run_bind, run_guard_int, Result.andThen_ok, run_cmp op t j x y r w h1]) h2

theorem pu_eqb {neg : Bool} {t : TypeId} {ox oy : Operand} (ht : P.underlying t = some .bool) {a b : Bool} {u v : Value} (hu : u = .bool a) (hv : v = .bool b) :
    Still P μ ρ (do eqGuard (eqop neg) t ox oy u v; binOp (eqop neg) t u v) (.leaf (.bool (xor neg (a == b)))) := by
  subst hu; subst hv
  refine .st (x := .bool (xor neg (a == b))) ?_ rfl
  intro w
  cases neg
  · simp [eqop, eqGuard, run_eql_bool w t a b ht]
  · simp [eqop, eqGuard, run_neq_bool w t a b ht]

theorem pu_eqs (hρ : Γ.has ρ) {neg : Bool} {t : TypeId} {ox oy : Operand} {a b : List SI} {s r : ByteArray} (ha : strIs ρ a s) (hb : strIs ρ b r) {u v : Value} (hu : u = .string s) (hv : v = .string r) {y : AV}
    (hy : (match eqStr Γ a b with | .bool r => some (AV.leaf (.bool (xor neg r))) | _ => some (.leaf .topb)) = some y) :
    Still P μ ρ (do eqGuard (eqop neg) t ox oy u v; binOp (eqop neg) t u v) y := by
  subst hu; subst hv
  have hrun : ∀ w, (do eqGuard (eqop neg) t ox oy (.string s) (.string r); binOp (eqop neg) t (.string s) (.string r) : Sem Value).run P w = .ok (.bool (xor neg (decide (s.data.toList = r.data.toList)))) w := by
    intro w
    cases neg
    · simp [eqop, eqGuard, binOp, Op.stringOp, bytes_beq]
    · simp [eqop, eqGuard, binOp, Op.stringOp, bytes_beq]
  have he := eqStr_ok (μ := μ) hρ ha hb
  refine .st hrun ?_
  split at hy
  · rename_i c hc
    cases hy
    rw [hc] at he
    simp only [LV.rel, Value.bool.injEq] at he
    rw [he]; rfl
  · cases hy; exact ⟨_, rfl⟩

theorem pu_eqnil {neg : Bool} {t : TypeId} {kind : Nat} (ht : nilKind P t = some kind) {ox oy : Operand} (hc : (isConstOp ox || isConstOp oy || Nat.ble kind 3) = true) {x y : LV} {a b : Bool}
    (ha : nilOf kind x = some a) (hb : nilOf kind y = some b) (hab : (a || b) = true) {u v : Value} (hu : x.rel μ ρ u) (hv : y.rel μ ρ v) :
    Still P μ ρ (do eqGuard (eqop neg) t ox oy u v; binOp (eqop neg) t u v) (.leaf (.bool (xor neg (a && b)))) := by
  refine .st (x := .bool (xor neg (a && b))) ?_ rfl
  intro w
  unfold nilKind at ht
  split at ht <;> cases ht
  · rename_i e hp
    cases x <;> simp only [nilOf] at ha <;> cases ha <;> cases y <;> simp only [nilOf] at hb <;> cases hb <;> try (simp at hab; done)
    all_goals (first | (obtain ⟨_, _, rfl⟩ := hu) | cases hu)
    all_goals (first | (obtain ⟨_, _, rfl⟩ := hv) | cases hv)
    all_goals exact eqnil_of rfl rfl (fun op => by cases op <;> rfl) (fun d => by simp only [Op.equalIn, Sem.run_bind, run_underlying hp, Result.andThen_ok]; rfl)
  · rename_i e hp
    cases x <;> simp only [nilOf] at ha <;> cases ha <;> cases y <;> simp only [nilOf] at hb <;> cases hb <;> try (simp at hab; done)
    all_goals (first | (obtain ⟨_, _, _, _, _, _, _, _, rfl⟩ := hu) | cases hu)
    all_goals (first | (obtain ⟨_, _, _, _, _, _, _, _, rfl⟩ := hv) | cases hv)
    all_goals exact eqnil_of rfl rfl (fun op => by cases op <;> rfl) (fun d => by simp only [Op.equalIn, Sem.run_bind, run_underlying hp, Result.andThen_ok]; rfl)
  · rename_i e hp
    cases x <;> simp only [nilOf] at ha <;> cases ha <;> cases y <;> simp only [nilOf] at hb <;> cases hb <;> try (simp at hab; done)
    all_goals (first | (obtain ⟨_, _, rfl⟩ := hu) | cases hu)
    all_goals (first | (obtain ⟨_, _, rfl⟩ := hv) | cases hv)
    all_goals exact eqnil_of rfl rfl (fun op => by cases op <;> rfl) (fun d => by simp only [Op.equalIn, Sem.run_bind, run_underlying hp, Result.andThen_ok]; rfl)
  · rename_i e hp
    cases x <;> simp only [nilOf] at ha <;> cases ha <;> cases y <;> simp only [nilOf] at hb <;> cases hb <;> try (simp at hab; done)
    all_goals (first | (obtain ⟨_, _, rfl⟩ := hu) | cases hu)
    all_goals (first | (obtain ⟨_, _, rfl⟩ := hv) | cases hv)
    all_goals exact eqnil_of rfl rfl (fun op => by cases op <;> rfl) (fun d => by simp only [Op.equalIn, Sem.run_bind, run_underlying hp, Result.andThen_ok]; rfl)
  · rename_i ms hp
    have hg : ∀ op, (eqGuard op t ox oy .nilIface .nilIface).run P w = .ok () w := by
      have hcc : isConstOp ox = true ∨ isConstOp oy = true := by simpa using hc
      intro op
      rcases hcc with h | h
      · cases ox <;> first | (cases op <;> rfl) | (simp [isConstOp] at h)
      · cases oy <;> first | (cases ox <;> cases op <;> rfl) | (simp [isConstOp] at h)
    cases x <;> simp only [nilOf] at ha <;> cases ha <;> cases y <;> simp only [nilOf] at hb <;> cases hb <;> try (simp at hab; done)
    all_goals (first | (obtain ⟨_, _, rfl⟩ := hu) | cases hu)
    all_goals (first | (obtain ⟨_, _, rfl⟩ := hv) | cases hv)
    all_goals exact eqnil_of rfl rfl (fun op => by first | exact hg op | (cases op <;> rfl)) (fun d => by simp only [Op.equalIn, Sem.run_bind, run_underlying hp, Result.andThen_ok]; rfl)

theorem pu_eqagg (hρ : Γ.has ρ) {neg : Bool} {t : TypeId} {ks : List LK} (ht : aggKind P t = some ks) {ox oy : Operand} {a b : List LV} {us vs : List Value} (ha : All2 (LV.rel μ ρ) a us) (hb : All2 (LV.rel μ ρ) b vs)
    {u v : Value} (hu : u = .agg us.toArray) (hv : v = .agg vs.toArray) {y : AV} (hy : (match eqCells Γ ks a b with | .bool r => some (AV.leaf (.bool (xor neg r))) | .topb => some (.leaf .topb) | _ => none) = some y) :
    Still P μ ρ (do eqGuard (eqop neg) t ox oy u v; binOp (eqop neg) t u v) y := by
  subst hu; subst hv
  have hB : isB (eqCells Γ ks a b) = true := by split at hy <;> first | (rename_i hc; rw [hc]; rfl) | cases hy
  obtain ⟨lu, lv, r, h1, h2, h3, h4⟩ := eqCells_ok hρ hB ha hb
  have e1 : ∀ w, (Op.equal t (.agg us.toArray) (.agg vs.toArray)).run P w = .ok r w := fun w => by
    obtain ⟨r', e1, e2⟩ := run_equal_flat ht h1 h2 w
    have : r' = r := by rw [Bool.eq_iff_iff, e2, h3]
    subst this
    exact e1
  have hg := (aggKind_ok ht).2.2.1
  refine .st (x := .bool (xor neg r)) ?_ ?_
  · cases neg
    · simp [eqop, eqGuard, hg, binOp, e1]
    · simp [eqop, eqGuard, hg, binOp, e1]
  · split at hy
    · rename_i c hc
      cases hy
      rw [hc] at h4
      simp only [LV.rel, Value.bool.injEq] at h4
      rw [h4]; rfl
    · cases hy; exact ⟨_, rfl⟩
    · cases hy

theorem pu_cat {t : TypeId} {ox oy : Operand} {a b : List SI} {s r : ByteArray} (ha : strIs ρ a s) (hb : strIs ρ b r) {u v : Value} (hu : u = .string s) (hv : v = .string r) (hle : a.length + b.length ≤ 1073741824) :
    Still P μ ρ (do eqGuard .add t ox oy u v; binOp .add t u v) (.leaf (.str (a ++ b))) := by
  subst hu; subst hv
  refine .st (x := .string (s ++ r)) ?_ ⟨_, ?_, rfl⟩
  · intro w
    have h1 := strIs_len ha
    have h2 := strIs_len hb
    have : ¬ (((s.size + r.size : Nat) : Int) > IntKind.i64.max) := by simp [IntKind.max, IntKind.signed, IntKind.bits]; omega
    simp only [eqGuard, binOp, Op.stringOp]
    rw [if_neg this]; rfl
  · unfold strIs
    rw [ByteArray.data_append, Array.toList_append]
    exact All2.append ha hb

theorem pu_not {b : Bool} {u : Value} (hu : u = .bool b) : Still P μ ρ (Op.unary .not u) (.leaf (.bool (!b))) := by
  subst hu; exact .st (x := .bool (!b)) (fun _ => rfl) rfl

theorem pu_notTop {u : Value} (hu : ∃ b, u = .bool b) : Still P μ ρ (Op.unary .not u) (.leaf .topb) := by
  obtain ⟨b, rfl⟩ := hu; exact .st (x := .bool (!b)) (fun _ => rfl) ⟨_, rfl⟩

theorem pu_neg (hρ : Γ.has ρ) {j : IntKind} {a s : SI} {u : Value} (hu : AV.rel μ ρ (.leaf (.int j a)) u) (hs : arSI Γ .sub j (.lit 0) a = some s) : Still P μ ρ (Op.unary .neg u) (.leaf (.int j s)) := by
  obtain ⟨x, hx, fx, rfl⟩ := hu
  have f0 : fits j 0 = true := by cases j <;> rfl
  obtain ⟨n, h1, h2, h3⟩ := arSI_ok hρ hs (show SI.is ρ (.lit 0) 0 from rfl) hx f0 (fun _ _ => fx)
  simp only [arVal, Option.some.injEq] at h3
  exact .st (x := .int j n) (by simp [Op.unary, Op.intArith, ← h3]) ⟨n, h1, h2, rfl⟩

theorem pu_inv (hρ : Γ.has ρ) {j : IntKind} {a s : SI} {u : Value} (hu : AV.rel μ ρ (.leaf (.int j a)) u) (hs : arSI Γ .xor j (.lit (if j.signed then -1 else j.max)) a = some s) :
    Still P μ ρ (Op.unary .xor u) (.leaf (.int j s)) := by
  obtain ⟨x, hx, fx, rfl⟩ := hu
  have f0 : fits j (if j.signed then -1 else j.max) = true := by cases j <;> rfl
  obtain ⟨n, h1, h2, h3⟩ := arSI_ok hρ hs (show SI.is ρ (.lit (if j.signed then -1 else j.max)) _ from rfl) hx f0 (fun _ _ => fx)
  simp only [arVal, Option.some.injEq] at h3
  exact .st (x := .int j n) (by simp [Op.unary, Op.intBits, ← h3, bitsGen]) ⟨n, h1, h2, rfl⟩

theorem pu_conv (hρ : Γ.has ρ) {src dst : TypeId} {j k : IntKind} {a : SI} {u : Value} (hu : AV.rel μ ρ (.leaf (.int k a)) u) (hs : (P.underlying src).isSome = true) (hd : P.underlying dst = some (.int j)) :
    Still P μ ρ (convert src dst u) (.leaf (.int j (convSI Γ j a))) := by
  obtain ⟨x, hx, _, rfl⟩ := hu
  obtain ⟨d, hd'⟩ := Option.isSome_iff_exists.mp hs
  exact .st (x := .int j (j.wrap x)) (by simp [convert, run_underlying hd', run_underlying hd, Conv.intToInt]) ⟨_, convSI_ok hρ j hx, (fits_iff _ _).2 (wrap_in ..), rfl⟩

theorem pu_iface {t : TypeId} (ht : P.concrete t = true) {x : LV} {u : Value} (hu : x.rel μ ρ u) : Still P μ ρ (Instr.makeInterface t u) (.leaf (.iface t x)) :=
  .st (x := .iface t u) (fun w => run_makeInterface w t u ht) ⟨u, hu, rfl⟩

theorem pu_fieldA {s : TypeId} {f : Nat} {fs : Array Field} {fl : Field} {n : Nat} (hs : P.underlying s = some (.struct fs)) (hf : fs[f]? = some fl) (hn : tsize P fl.type = some n) (h0 : n ≠ 0)
    {b : Pos} {o : Nat} {m : Loc} (hm : μ b = some m) {v : Value} (hv : v = .pointer (some ⟨m.blk, m.base + o, none⟩)) : Still P μ ρ (Instr.fieldAt s v f) (.leaf (.ptr b (Nat.add o fl.offset))) := by
  subst hv
  refine .st (x := .pointer (some ⟨m.blk, m.base + (o + fl.offset), none⟩)) ?_ ⟨m, hm, rfl⟩
  simp [Instr.fieldAt, run_underlying hs, hf, Instr.sureAddr, fieldPlace, run_size hn, h0, add_at, Nat.add_assoc]

theorem pu_part {t : TypeId} {cs : List LV} {xs : List Value} (h : All2 (LV.rel μ ρ) cs xs) {off : Nat} {x : LV} (ht : tagg P t = some false) (hx : nth off cs = some x) : Still P μ ρ (part t xs.toArray off) (.leaf x) := by
  rw [nth_eq] at hx
  obtain ⟨y, hy, hr⟩ := h.get hx
  exact .st (x := y) (by simp [part, run_agg ht, hy]) hr

theorem pu_partN {t : TypeId} {cs : List LV} {xs : List Value} (h : All2 (LV.rel μ ρ) cs xs) {off n : Nat} (ht : tagg P t = some true) (hn : tsize P t = some n) :
    Still P μ ρ (part t xs.toArray off) (.agg ((cs.drop off).take n)) :=
  .st (x := .agg (xs.toArray.extract off (off + n))) (by simp [part, run_agg ht, run_size hn]) ⟨_, h.extract off n, by simp⟩

theorem pu_idxS {t e : TypeId} {esz : Nat} (ht : P.underlying t = some (.slice e)) (hn : tsize P e = some esz) {b : Pos} {off len n : Nat} {cap : Option Nat} {u v : Value} (hu : LV.rel μ ρ (.slice b off len esz cap) u)
    {j : IntKind} (hv : v = .int j (Int.ofNat n)) (hlt : n < len) : Still P μ ρ (Instr.indexAt t u v) (.leaf (.ptr b (Nat.add off (Nat.mul n esz)))) := by
  obtain ⟨m, a, c, hm, _, hlc, _, ha, rfl⟩ := hu
  subst hv
  obtain rfl := ha (by omega)
  refine .st (x := .pointer (some ⟨m.blk, m.base + (off + n * esz), none⟩)) ?_ ⟨m, hm, rfl⟩
  intro w
  simp [Instr.indexAt, run_underlying ht, asIntOf, run_size hn, add_at, Nat.add_assoc]
  omega

theorem pu_idxA {t e : TypeId} {esz len : Nat} (ht : P.underlying t = some (.array len e)) (hn : tsize P e = some esz) {b : Pos} {o n : Nat} {m : Loc} (hm : μ b = some m) {u v : Value} (hu : u = .pointer (some ⟨m.blk, m.base + o, none⟩))
    {j : IntKind} (hv : v = .int j (Int.ofNat n)) (hlt : n < len) : Still P μ ρ (Instr.indexAt t u v) (.leaf (.ptr b (Nat.add o (Nat.mul n esz)))) := by
  subst hu; subst hv
  refine .st (x := .pointer (some ⟨m.blk, m.base + (o + n * esz), none⟩)) ?_ ⟨m, hm, rfl⟩
  intro w
  simp [Instr.indexAt, run_underlying ht, asIntOf, Instr.sureAddr, run_size hn, add_at, Nat.add_assoc]
  omega

theorem pu_indexStr {t : TypeId} (ht : P.underlying t = some .string) {bs : List SI} {s : ByteArray} (hs : strIs ρ bs s) {u v : Value} (hu : u = .string s) {j : IntKind} {n : Nat} (hv : v = .int j (Int.ofNat n)) {x : SI}
    (hx : nth n bs = some x) : Still P μ ρ (Instr.index t u v) (.leaf (.int .u8 x)) := by
  subst hu; subst hv
  rw [nth_eq] at hx
  obtain ⟨c, hc, hr⟩ := hs.get hx
  have hlt : n < s.size := by
    have := strIs_len hs
    have : n < bs.length := by
      by_cases hl : n < bs.length
      · exact hl
      · rw [List.getElem?_eq_none (by omega)] at hx; cases hx
    omega
  have hc' : s[n]? = some c := by
    have h2 : s.data.toList[n]? = s.data[n]? := Array.getElem?_toList
    rw [h2] at hc
    have h3 : s.data[n]? = some (s.data[n]'hlt) := Array.getElem?_eq_getElem hlt
    rw [h3] at hc
    rw [getElem?_pos s n hlt]
    exact hc
  refine .st (x := .int .u8 c.toNat) ?_ ⟨_, hr, ?_, rfl⟩
  · simp [Instr.index, run_underlying ht, asIntOf, hc']
  · have := c.toNat_lt
    rw [fits_iff]; simp [IntKind.min, IntKind.max, IntKind.signed, IntKind.bits]; omega

theorem pu_slice {t e : TypeId} {esz : Nat} (ht : P.underlying t = some (.slice e)) (hs : tsize P e = some esz) {b : Pos} {off len : Nat} {cap : Option Nat} {u : Value} (hu : LV.rel μ ρ (.slice b off len esz cap) u)
    {lo hi : Option Nat} {vlo vhi : Option Value} (hlo : BoundIs lo vlo) (hhi : BoundIs hi vhi) (h1 : lo.getD 0 ≤ hi.getD len) (h2 : hi.getD len ≤ len) :
    Still P μ ρ (Instr.sliceAt t u vlo vhi none) (.leaf (.slice b (off + lo.getD 0 * esz) (hi.getD len - lo.getD 0) esz (cap.map (· - lo.getD 0)))) := by
  obtain ⟨m, a, c, hm, ⟨hroom, hfull⟩, hlc, hcap, ha, rfl⟩ := hu
  refine .st ?_ (slice_rel (ρ := ρ) hm hroom ha h1 (show hi.getD len ≤ c by omega) (Nat.le_refl c) ?_ fun e => ⟨hfull (by cases cap with | none => rfl | some x => cases e), rfl⟩)
  · intro w
    simp [Instr.sliceAt, run_underlying ht, Instr.slice, run_bounds hlo hhi h1 (show hi.getD len ≤ c by omega), run_size hs]
    split <;> rfl
  · intro x hx
    cases cap with
    | none => cases hx
    | some c0 => cases hx; rw [hcap c0 rfl]

theorem pu_slice3 {t e : TypeId} {esz : Nat} (ht : P.underlying t = some (.slice e)) (hs : tsize P e = some esz) {b : Pos} {off len : Nat} {cap : Option Nat} {u : Value} (hu : LV.rel μ ρ (.slice b off len esz cap) u)
    {lo : Option Nat} {vlo : Option Value} {h m : Nat} {vh vm : Value} {jh jm : IntKind} (hlo : BoundIs lo vlo) (hh : vh = .int jh (Int.ofNat h)) (hmx : vm = .int jm (Int.ofNat m)) (h1 : lo.getD 0 ≤ h) (h2 : h ≤ m) (h3 : m ≤ len) :
    Still P μ ρ (Instr.sliceAt t u vlo (some vh) (some vm)) (.leaf (.slice b (off + lo.getD 0 * esz) (h - lo.getD 0) esz (some (m - lo.getD 0)))) := by
  obtain ⟨m', a, c, hm, ⟨hroom, hfull⟩, hlc, hcap, ha, rfl⟩ := hu
  refine .st ?_ (slice_rel (ρ := ρ) hm hroom ha h1 h2 (show m ≤ c by omega) (fun x hx => by cases hx; rfl) fun e => by cases e)
  intro w
  simp [Instr.sliceAt, run_underlying ht, Instr.slice, run_bounds3 hlo hh hmx h1 h2 (show m ≤ c by omega), run_size hs]
  split <;> rfl

theorem pu_sliceNil {t e : TypeId} {esz : Nat} (ht : P.underlying t = some (.slice e)) (hs : tsize P e = some esz) {lo hi : Option Nat} {vlo vhi : Option Value} (hlo : BoundIs lo vlo) (hhi : BoundIs hi vhi)
    (h1 : lo.getD 0 ≤ hi.getD 0) (h2 : hi.getD 0 ≤ 0) : Still P μ ρ (Instr.sliceAt t (.slice none 0 0) vlo vhi none) (.leaf .nilslice) := by
  refine .st (x := .slice none 0 0) ?_ rfl
  have e1 : hi.getD 0 = 0 := by omega
  have e2 : lo.getD 0 = 0 := by omega
  simp [Instr.sliceAt, run_underlying ht, Instr.slice, run_bounds hlo hhi h1 h2, run_size hs, e1, e2]

theorem pu_sliceStr {t : TypeId} (ht : P.underlying t = some .string) {bs : List SI} {s : ByteArray} (hs : strIs ρ bs s) {u : Value} (hu : u = .string s) {lo hi : Option Nat} {vlo vhi : Option Value} (hlo : BoundIs lo vlo) (hhi : BoundIs hi vhi)
    (h1 : lo.getD 0 ≤ hi.getD bs.length) (h2 : hi.getD bs.length ≤ bs.length) : Still P μ ρ (Instr.sliceAt t u vlo vhi none) (.leaf (.str ((bs.drop (lo.getD 0)).take (hi.getD bs.length - lo.getD 0)))) := by
  subst hu
  rw [strIs_len hs] at h1 h2 ⊢
  refine .st (x := .string (s.extract (lo.getD 0) (hi.getD s.size))) ?_ ⟨_, ?_, rfl⟩
  · simp [Instr.sliceAt, run_underlying ht, Instr.slice, run_bounds hlo hhi h1 h2]
  · unfold strIs
    rw [data_extract _ _ _ h2]
    exact (All2.drop hs _).take _

theorem pu_bin (hρ : Γ.has ρ) {op : BinOp} {t : TypeId} {x y : Operand} {co : CO} (hc : compBin P op t x y = some co) {tm : T AV} {a : Act} (hT : TR μ ρ tm a.tmps) {k : Option AV → Mem → Option Ω} {r : Ω} (he : evOp Γ co tm M k = some r) :
    ∃ v, k (some v) M = some r ∧ Still P μ ρ (do eqGuard op t x y (a.eval x) (a.eval y); binOp op t (a.eval x) (a.eval y)) v := by
  unfold compBin at hc
  split at hc
  case h_2 => cases hc
  rename_i u v hx hy
  have aggs : ∀ {n : Bool} {kk : List LK}, evOp Γ (.eqagg n kk u v) tm M k = some r → aggKind P t = some kk → ∃ v, k (some v) M = some r ∧ Still P μ ρ (do eqGuard (eqop n) t x y (a.eval x) (a.eval y); binOp (eqop n) t (a.eval x) (a.eval y)) v := by
    intro n kk he hkk
    change (opdK tm u fun u => opdK tm v fun v => _) = some r at he
    obtain ⟨p, hf, hp⟩ := opdK_ok hT hx he
    clear he
    obtain ⟨q, he, hq⟩ := opdK_ok hT hy hf
    clear hf
    obtain ⟨p, hrfl, hf⟩ := aggK_ok he
    clear he
    subst hrfl
    obtain ⟨q, hrfl, he⟩ := aggK_ok hf
    clear hf
    subst hrfl
    obtain ⟨us, hus, hp'⟩ := hp
    obtain ⟨vs, hvs, hq'⟩ := hq
    split at he
    · rename_i c hc'; rw [bK_eq] at he; exact ⟨_, he, pu_eqagg hρ hkk hus hvs hp' hq' (by rw [hc'])⟩
    · rename_i hc'; exact ⟨_, he, pu_eqagg hρ hkk hus hvs hp' hq' (by rw [hc'])⟩
    · cases he
  split at hc
  · -- integers
    split at hc
    · cases hc
      change (opdK tm u fun u => opdK tm v fun v => _) = some r at he
      obtain ⟨p, hf, hp⟩ := opdK_ok hT hx he
      clear he
      obtain ⟨q, he, hq⟩ := opdK_ok hT hy hf
      clear hf
      obtain ⟨j, i, hrfl, hf⟩ := intK_ok he
      clear he
      subst hrfl
      obtain ⟨j', i', hrfl, he⟩ := intK_ok hf
      clear hf
      subst hrfl
      split at he
      · rename_i hk
        split at he
        · rename_i s hs; rw [lvbK_eq] at he; exact ⟨_, he, pu_cmp hρ hp hq hk hs⟩
        · cases he
      · cases he
    · cases hc
      change (opdK tm u fun u => opdK tm v fun v => _) = some r at he
      obtain ⟨p, hf, hp⟩ := opdK_ok hT hx he
      clear he
      obtain ⟨q, he, hq⟩ := opdK_ok hT hy hf
      clear hf
      obtain ⟨j, i, hrfl, hf⟩ := intK_ok he
      clear he
      subst hrfl
      obtain ⟨j', i', hrfl, he⟩ := intK_ok hf
      clear hf
      subst hrfl
      split at he
      · rename_i hk
        split at he
        · rename_i s hs; rw [siK_eq] at he; exact ⟨_, he, pu_ar hρ hp hq hk hs⟩
        · cases he
      · cases he
  · -- strings
    have strs : ∀ n, eqNeg op = some n → co = .eqs n u v → ∃ v, k (some v) M = some r ∧ Still P μ ρ (do eqGuard op t x y (a.eval x) (a.eval y); binOp op t (a.eval x) (a.eval y)) v := by
      intro n hn hco
      subst hco
      rw [eqNeg_ok hn]
      change (opdK tm u fun u => opdK tm v fun v => _) = some r at he
      obtain ⟨p, hf, hp⟩ := opdK_ok hT hx he
      clear he
      obtain ⟨q, he, hq⟩ := opdK_ok hT hy hf
      clear hf
      obtain ⟨b, s, hf, hs, hp'⟩ := strK_ok he hp
      clear he
      obtain ⟨b', s', he, hs', hq'⟩ := strK_ok hf hq
      clear hf
      split at he
      · rename_i c hc'; rw [bK_eq] at he; exact ⟨_, he, pu_eqs hρ hs hs' hp' hq' (by rw [hc'])⟩
      · rename_i hne
        refine ⟨_, he, pu_eqs hρ hs hs' hp' hq' ?_⟩
        split
        · rename_i c hc'; exact absurd hc' (hne c)
        · rfl
    split at hc
    · cases hc
      change (opdK tm u fun u => opdK tm v fun v => _) = some r at he
      obtain ⟨p, hf, hp⟩ := opdK_ok hT hx he
      clear he
      obtain ⟨q, he, hq⟩ := opdK_ok hT hy hf
      clear hf
      obtain ⟨b, s, hf, hs, hp'⟩ := strK_ok he hp
      clear he
      obtain ⟨b', s', he, hs', hq'⟩ := strK_ok hf hq
      clear hf
      split at he
      · rename_i hle; rw [Nat.ble_eq] at hle; rw [appK_eq] at he; exact ⟨_, he, pu_cat hs hs' hp' hq' hle⟩
      · cases he
    · simp only [Option.map_eq_some_iff] at hc
      obtain ⟨n, hn, hco⟩ := hc
      exact strs n hn hco.symm
  · -- bools
    rename_i hu
    simp only [Option.map_eq_some_iff] at hc
    obtain ⟨n, hn, rfl⟩ := hc
    rw [eqNeg_ok hn]
    change (opdK tm u fun u => opdK tm v fun v => _) = some r at he
    obtain ⟨p, hf, hp⟩ := opdK_ok hT hx he
    clear he
    obtain ⟨q, he, hq⟩ := opdK_ok hT hy hf
    clear hf
    obtain ⟨b, hf, hp'⟩ := boolK_ok he hp
    clear he
    obtain ⟨b', he, hq'⟩ := boolK_ok hf hq
    clear hf
    rw [bK_eq] at he
    exact ⟨_, he, pu_eqb hu hp' hq'⟩
  · -- structs
    split at hc
    case h_2 => cases hc
    rename_i n kk hn hkk
    rw [eqNeg_ok hn]
    cases hc
    exact aggs he hkk
  · -- arrays
    split at hc
    case h_2 => cases hc
    rename_i n kk hn hkk
    rw [eqNeg_ok hn]
    cases hc
    exact aggs he hkk
  · -- what may be nil
    split at hc
    case h_2 => cases hc
    rename_i n kk hn hkk
    rw [eqNeg_ok hn]
    split at hc
    case h_2 => cases hc
    rename_i hcc
    cases hc
    change (opdK tm u fun u => opdK tm v fun v => _) = some r at he
    obtain ⟨p, hf, hp⟩ := opdK_ok hT hx he
    clear he
    obtain ⟨q, he, hq⟩ := opdK_ok hT hy hf
    clear hf
    obtain ⟨p, hrfl, hf⟩ := leafK_ok he
    clear he
    subst hrfl
    obtain ⟨q, hrfl, he⟩ := leafK_ok hf
    clear hf
    subst hrfl
    split at he
    · rename_i s hs
      split at he
      · rename_i s' hs'
        split at he
        · rename_i hor; rw [bK_eq] at he; exact ⟨_, he, pu_eqnil hkk hcc hs hs' hor hp hq⟩
        · cases he
      · cases he
    · cases he

theorem pu_min (hρ : Γ.has ρ) {a : Act} {tm : T AV} (hT : TR μ ρ tm a.tmps) {x y : Operand} {u v : Opd} (hx : copd x = some u) (hy : copd y = some v) {k : Option AV → Mem → Option Ω} {r : Ω}
    (h0 : evOp Γ (.mn u v) tm M k = some r) (ts : Array TypeId) (ty : TypeId) : ∃ q, k (some q) M = some r ∧ Still P μ ρ (Builtin.min_ ts ty #[a.eval x, a.eval y]) q := by
  change (opdK tm u fun u => opdK tm v fun v => _) = some r at h0
  obtain ⟨p, h1, hp⟩ := opdK_ok hT hx h0
  obtain ⟨q, h2, hq⟩ := opdK_ok hT hy h1
  obtain ⟨j, i, e1, h3⟩ := intK_ok h2
  obtain ⟨j', i', e2, h4⟩ := intK_ok h3
  subst e1; subst e2
  obtain ⟨n, hn, fn, e3⟩ := hp
  obtain ⟨m, hm, fm, e4⟩ := hq
  split at h4
  · cases h4
  · rename_i hk
    obtain rfl := kindEq_eq hk
    split at h4
    · rename_i s hs
      obtain ⟨b, g1, g2⟩ := cmpSI_ok (μ := μ) hρ hs hm hn
      simp only [cmpVal, Option.some.injEq] at g1
      split at h4
      · rename_i t
        cases g2
        split at h4
        · rw [decide_eq_true_iff] at g1
          refine ⟨_, h4, .st (x := .int j m) ?_ ⟨m, hm, fm, rfl⟩⟩
          rw [e3, e4]; simp [Builtin.min_, Builtin.min2, g1]
        · rw [decide_eq_false_iff_not] at g1
          refine ⟨_, h4, .st (x := .int j n) ?_ ⟨n, hn, fn, rfl⟩⟩
          rw [e3, e4]; simp [Builtin.min_, Builtin.min2, g1]
      · cases h4
    · cases h4

theorem pu_max (hρ : Γ.has ρ) {a : Act} {tm : T AV} (hT : TR μ ρ tm a.tmps) {x y : Operand} {u v : Opd} (hx : copd x = some u) (hy : copd y = some v) {k : Option AV → Mem → Option Ω} {r : Ω}
    (h0 : evOp Γ (.mx u v) tm M k = some r) (ts : Array TypeId) (ty : TypeId) : ∃ q, k (some q) M = some r ∧ Still P μ ρ (Builtin.max_ ts ty #[a.eval x, a.eval y]) q := by
  change (opdK tm u fun u => opdK tm v fun v => _) = some r at h0
  obtain ⟨p, h1, hp⟩ := opdK_ok hT hx h0
  obtain ⟨q, h2, hq⟩ := opdK_ok hT hy h1
  obtain ⟨j, i, e1, h3⟩ := intK_ok h2
  obtain ⟨j', i', e2, h4⟩ := intK_ok h3
  subst e1; subst e2
  obtain ⟨n, hn, fn, e3⟩ := hp
  obtain ⟨m, hm, fm, e4⟩ := hq
  split at h4
  · cases h4
  · rename_i hk
    obtain rfl := kindEq_eq hk
    split at h4
    · rename_i s hs
      obtain ⟨b, g1, g2⟩ := cmpSI_ok (μ := μ) hρ hs hm hn
      simp only [cmpVal, Option.some.injEq] at g1
      split at h4
      · rename_i t
        cases g2
        split at h4
        · rw [decide_eq_true_iff] at g1
          refine ⟨_, h4, .st (x := .int j m) ?_ ⟨m, hm, fm, rfl⟩⟩
          rw [e3, e4]; simp [Builtin.max_, Builtin.max2]; intro; omega
        · rw [decide_eq_false_iff_not] at g1
          refine ⟨_, h4, .st (x := .int j n) ?_ ⟨n, hn, fn, rfl⟩⟩
          rw [e3, e4]; simp [Builtin.max_, Builtin.max2]; intro; omega
      · cases h4
    · cases h4

end

end Go.Ev
