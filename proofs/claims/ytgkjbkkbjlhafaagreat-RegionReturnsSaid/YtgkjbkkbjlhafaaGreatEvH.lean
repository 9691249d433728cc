/- Generic part H: the first half of the operations: what the evaluator makes of them is what the model makes of them. -/
import Derived.Test.YtgkjbkkbjlhafaaGreatEvG
import Derived.Laws.StructEq
import Derived.Laws.Pointers
import Derived.Laws.Cover3
namespace Go.Ev

section
variable {Ω : Type} {P : Program} {Γ : Box} {μ : Emb} {ρ : Nat → Int} {M : Mem} {w : World}

theorem ok_new (hM : MR μ ρ M w) {cs : List LV} {v : Value} (h : All2 (LV.rel μ ρ) cs v.cells.toList) (t : TypeId) :
    DoneV P μ ρ M w (do pure (.pointer (some (← newVar t v)))) (.leaf (.ptr M.next 0)) (M.add (.cells cs)) := by
  obtain ⟨h1, h2⟩ := hM.allocCells h v.cells t (fun i x hx => by simpa using hx) (by simp)
  refine ⟨.pointer (some ⟨w.heap.size, 0, none⟩), _, _, ?_, ⟨⟨w.heap.size, 0, v.cells.size⟩, by simp [Emb.set], rfl⟩, h1, h2⟩
  simp [newVar, newRow]

/-! Filling. -/

theorem foldl_set (off : Nat) : ∀ (vs : List Value) (j0 : Nat) (c : Array Value), off + j0 + vs.length ≤ c.size →
    ((vs.zipIdx j0).foldl (fun cs (p : Value × Nat) => cs.setIfInBounds (off + p.2) p.1) c).size = c.size ∧
    ∀ i, ((vs.zipIdx j0).foldl (fun cs (p : Value × Nat) => cs.setIfInBounds (off + p.2) p.1) c)[i]? = if off + j0 ≤ i ∧ i < off + j0 + vs.length then vs[i - (off + j0)]? else c[i]? := by
  intro vs
  induction vs with
  | nil => intro j0 c _; refine ⟨rfl, fun i => ?_⟩; rw [if_neg (by simp)]; rfl
  | cons v vs ih =>
    intro j0 c hc
    simp only [List.length_cons] at hc
    rw [List.zipIdx_cons, List.foldl_cons]
    obtain ⟨h1, h2⟩ := ih (j0 + 1) (c.setIfInBounds (off + j0) v) (by rw [Array.size_setIfInBounds]; omega)
    refine ⟨by rw [h1]; simp, fun i => ?_⟩
    rw [h2]
    by_cases hi : i = off + j0
    · subst hi
      rw [if_neg (by omega), if_pos ⟨Nat.le_refl _, by simp⟩, Array.getElem?_setIfInBounds_self_of_lt (by omega)]
      simp
    · by_cases hin : off + (j0 + 1) ≤ i ∧ i < off + (j0 + 1) + vs.length
      · rw [if_pos hin, if_pos ⟨by omega, by simp; omega⟩, show i - (off + j0) = (i - (off + (j0 + 1))) + 1 by omega]; simp
      · rw [if_neg hin, if_neg (by simp; omega), Array.getElem?_setIfInBounds_ne (by omega)]

theorem fill_list (off : Nat) (v : Value) (c : Array Value) (h : off + v.cells.size ≤ c.size) :
    (v.cells.zipIdx.foldl (fun cs (p : Value × Nat) => cs.setIfInBounds (off + p.2) p.1) c).toList = over off v.cells.toList c.toList := by
  rw [← Array.foldl_toList, Array.toList_zipIdx]
  obtain ⟨h1, h2⟩ := foldl_set off v.cells.toList 0 c (by simpa using h)
  apply List.ext_getElem?
  intro i
  rw [get_over _ _ _ (by simpa using h)]
  have := h2 i
  rw [← Array.getElem?_toList] at this
  rw [this]
  simp

theorem All2.over {α β : Type} {r : α → β → Prop} {n : Nat} {a a' : List α} {b b' : List β} (h : All2 r a b) (h' : All2 r a' b') : All2 r (over n a a') (over n b b') := by
  unfold Ev.over
  rw [h.length]
  exact (h'.take n).append (h.append (h'.drop _))

/-- A part of a literal: which one, what. -/
def PartOf (place : Nat → Option (Nat × Nat)) (p : Nat × Operand) (q : Nat × Nat × Opd) : Prop := place p.1 = some (q.1, q.2.1) ∧ copd p.2 = some q.2.2

theorem fillK_ok {tm : T AV} {a : Act} (hT : TR μ ρ tm a.tmps) (place : Nat → Option (Nat × Nat)) : ∀ {ps : List (Nat × Operand)} {qs : List (Nat × Nat × Opd)}, All2 (PartOf place) ps qs →
    ∀ {z : List LV} {c : Array Value}, All2 (LV.rel μ ρ) z c.toList → ∀ {k : List LV → Option Ω} {r : Ω}, fillK tm qs z k = some r →
      ∃ z' c', k z' = some r ∧ Instr.fill place c (ps.map fun p => (p.1, a.eval p.2)) = some c' ∧ All2 (LV.rel μ ρ) z' c'.toList := by
  intro ps qs h
  induction h with
  | nil => intro z c hz k r hk; exact ⟨z, c, hk, rfl, hz⟩
  | @cons p q ps qs hp _ ih =>
    intro z c hz k r hk
    obtain ⟨i, x⟩ := p
    obtain ⟨off, size, y⟩ := q
    obtain ⟨h1, h2⟩ := hp
    change (opdK tm y fun v => cellsK v fun cs => match Nat.beq cs.length size with | true => overK off cs z fun z => fillK tm qs z k | false => none) = some r at hk
    obtain ⟨v, hk, hv⟩ := opdK_ok hT h2 hk
    obtain ⟨cs, hk, hcs⟩ := cellsK_ok hk hv
    split at hk
    · rename_i hb
      have hb := Nat.eq_of_beq_eq_true hb
      rw [overK_eq] at hk
      split at hk
      · rename_i hle
        have hl := hcs.length
        have hl2 := hz.length
        simp only [Array.length_toList] at hl hl2
        have hfl := fill_list off (a.eval x) c (by omega)
        obtain ⟨z', c', e1, e2, e3⟩ := ih (c := (a.eval x).cells.zipIdx.foldl (fun cs (p : Value × Nat) => cs.setIfInBounds (off + p.2) p.1) c) (by rw [hfl]; exact hcs.over hz) hk
        refine ⟨z', c', e1, ?_, e3⟩
        simp only [List.map_cons, Instr.fill, h1]
        rw [if_neg (by simp; omega)]
        exact e2
      · cases hk
    · cases hk

theorem run_mapM {α β : Type} (f : α → Sem β) (g : α → β) (w : World) : ∀ l : List α, (∀ x ∈ l, (f x).run P w = .ok (g x) w) → (l.mapM f).run P w = .ok (l.map g) w
  | [], _ => rfl
  | x :: l, h => by
    rw [List.mapM_cons, Sem.run_bind, h x (by simp), Result.andThen_ok, Sem.run_bind, run_mapM f g w l fun y hy => h y (by simp [hy])]
    rfl

/-! Loading, storing. -/

theorem ok_load1 (hM : MR μ ρ M w) {t : TypeId} (ht : tagg P t = some false) {v : Value} {b : Pos} {off : Nat} {m : Loc} (hm : μ b = some m) (hv : v = .pointer (some ⟨m.blk, m.base + off, none⟩))
    {cs : List LV} (hb : M.blks.get b = some (.cells cs)) {x : LV} (hx : nth off cs = some x) : DoneV P μ ρ M w (Instr.loadAt t v) (.leaf x) M := by
  subst hv
  rw [nth_eq] at hx
  obtain ⟨y, hy, hr⟩ := hM.cell hb hm hx
  exact .still hM (x := y) (by simp [Instr.loadAt, Instr.sureAddr, loadVar, run_agg ht, hy]) hr

theorem ok_loadN (hM : MR μ ρ M w) {t : TypeId} {n : Nat} (ht : tagg P t = some true) (hn : tsize P t = some n) {v : Value} {b : Pos} {off : Nat} {m : Loc} (hm : μ b = some m) (hv : v = .pointer (some ⟨m.blk, m.base + off, none⟩))
    {cs : List LV} (hb : M.blks.get b = some (.cells cs)) (hle : off + n ≤ cs.length) : DoneV P μ ρ M w (Instr.loadAt t v) (.agg ((cs.drop off).take n)) M := by
  subst hv
  obtain ⟨xs, h1, h2, _⟩ := hM.cells hb hm off n hle P
  exact .still hM (x := .agg xs.toArray) (by simp [Instr.loadAt, Instr.sureAddr, loadVar, run_agg ht, run_size hn, h1]) ⟨xs, h2, rfl⟩

theorem over_one {α : Type} (n : Nat) (x : α) (l : List α) (h : n < l.length) : over n [x] l = l.set n x := by
  apply List.ext_getElem?
  intro i
  rw [get_over _ _ _ (by simp; omega), List.getElem?_set]
  by_cases hi : n = i
  · subst hi; simp [h]
  · rw [if_neg (by simp; omega), if_neg hi]

theorem ok_store (hM : MR μ ρ M w) {t : TypeId} {n : Nat} (hn : tsize P t = some n) {v u : Value} {b : Pos} {off : Nat} {m : Loc} (hm : μ b = some m) (hv : v = .pointer (some ⟨m.blk, m.base + off, none⟩))
    {cs new : List LV} (hb : M.blks.get b = some (.cells cs)) (hx : All2 (LV.rel μ ρ) new u.cells.toList) (hl : new.length = n) (hle : off + n ≤ cs.length) :
    DoneU P μ ρ M w (Instr.storeAt t v u) { M with blks := M.blks.put b (some (.cells (over off new cs))) } := by
  subst hv
  obtain ⟨w', h1, h2, h3⟩ := hM.store hb hm off hx (by omega) P
  refine ⟨w', μ, ?_, h2, h3⟩
  have : u.cells.size = n := by have := hx.length; simp at this; omega
  simp [Instr.storeAt, Instr.sureAddr, storeVar, run_size hn, this, h1]

/-! Integers. -/

theorem run_ar (op : BinOp) (t : TypeId) (k k' : IntKind) (x y n : Int) (w : World) (hk : op ≠ .shl → op ≠ .shr → k = k') (h : arVal op k x y = some n) : (binOp op t (.int k x) (.int k' y)).run P w = .ok (.int k n) w := by
  cases op <;> simp only [arVal] at h <;> try (cases h; done)
  case shl =>
    split at h
    · cases h
    · rename_i hy; cases h; simp [binOp, Op.shift, hy]
  case shr =>
    split at h
    · cases h
    · rename_i hy; cases h; simp [binOp, Op.shift, hy]
  all_goals obtain rfl := hk (by simp) (by simp)
  case add | sub | mul => cases h; simp [binOp, Op.intArith]
  case quo | rem =>
    split at h
    · cases h
    · rename_i hy; cases h; simp [binOp, Op.intDiv, hy]
  case and | or | xor | andNot => cases h; simp [binOp, Op.intBits, bitsGen]

theorem run_cmp (op : BinOp) (t : TypeId) (k : IntKind) (x y : Int) (r : Bool) (w : World) (h : cmpVal op x y = some r) : (binOp op t (.int k x) (.int k y)).run P w = .ok (.bool r) w := by
  cases op <;> simp only [cmpVal] at h <;> try (cases h; done)
  all_goals (cases h; simp [binOp, Op.intCmp])
  all_goals (rw [Bool.eq_iff_iff]; simp)

theorem run_guard_int (op : BinOp) (t : TypeId) (x y : Operand) (k k' : IntKind) (a b : Int) (w : World) : (eqGuard op t x y (.int k a) (.int k' b)).run P w = .ok () w := by
  cases op <;> rfl

theorem ok_ar (hρ : Γ.has ρ) (hM : MR μ ρ M w) {op : BinOp} {t : TypeId} {ox oy : Operand} {j j' : IntKind} {a b s : SI} {u v : Value} (hu : AV.rel μ ρ (.leaf (.int j a)) u) (hv : AV.rel μ ρ (.leaf (.int j' b)) v)
    (hk : (match op with | .shl => true | .shr => true | _ => kindEq j j') = true) (hs : arSI Γ op j a b = some s) :
    DoneV P μ ρ M w (do eqGuard op t ox oy u v; binOp op t u v) (.leaf (.int j s)) M := by
  obtain ⟨x, hx, fx, rfl⟩ := hu
  obtain ⟨y, hy, fy, rfl⟩ := hv
  have hk' : op ≠ .shl → op ≠ .shr → j = j' := fun h1 h2 => by cases op <;> first | exact kindEq_eq hk | exact absurd rfl h1 | exact absurd rfl h2
  obtain ⟨n, h1, h2, h3⟩ := arSI_ok hρ hs hx hy fx (fun h1 h2 => by rw [hk' h1 h2]; exact fy)
  exact .still hM (x := .int j n) (by rw [Sem.run_bind, run_guard_int, Result.andThen_ok, run_ar op t j j' x y n w hk' h3]) ⟨n, h1, h2, rfl⟩

theorem ok_cmp (hρ : Γ.has ρ) (hM : MR μ ρ M w) {op : BinOp} {t : TypeId} {ox oy : Operand} {j j' : IntKind} {a b : SI} {s : LV} {u v : Value} (hu : AV.rel μ ρ (.leaf (.int j a)) u) (hv : AV.rel μ ρ (.leaf (.int j' b)) v)
    (hk : kindEq j j' = true) (hs : cmpSI Γ op a b = some s) : DoneV P μ ρ M w (do eqGuard op t ox oy u v; binOp op t u v) (.leaf s) M := by
  obtain ⟨x, hx, fx, rfl⟩ := hu
  obtain ⟨y, hy, fy, rfl⟩ := hv
  obtain rfl := kindEq_eq hk
  obtain ⟨r, h1, h2⟩ := cmpSI_ok (μ := μ) hρ hs hx hy
  exact .still hM (x := .bool r) (by rw [Sem.run_bind, run_guard_int, Result.andThen_ok, run_cmp op t j x y r w h1]) h2

/-! Equality. -/

def eqop (neg : Bool) : BinOp := if neg then .neq else .eql

theorem ok_eqb (hM : MR μ ρ M w) {neg : Bool} {t : TypeId} {ox oy : Operand} (ht : P.underlying t = some .bool) {a b : Bool} {u v : Value} (hu : u = .bool a) (hv : v = .bool b) :
    DoneV P μ ρ M w (do eqGuard (eqop neg) t ox oy u v; binOp (eqop neg) t u v) (.leaf (.bool (xor neg (a == b)))) M := by
  subst hu; subst hv
  refine .still hM (x := .bool (xor neg (a == b))) ?_ rfl
  cases neg
  · simp [eqop, eqGuard, run_eql_bool w t a b ht]
  · simp [eqop, eqGuard, run_neq_bool w t a b ht]

theorem bytes_beq (s t : ByteArray) : (s.toList == t.toList) = decide (s.data.toList = t.data.toList) := by
  rw [ByteArray.toList_eq, ByteArray.toList_eq, Bool.eq_iff_iff]
  simp

theorem ok_eqs (hρ : Γ.has ρ) (hM : MR μ ρ M w) {neg : Bool} {t : TypeId} {ox oy : Operand} {a b : List SI} {s r : ByteArray} (ha : strIs ρ a s) (hb : strIs ρ b r) {u v : Value} (hu : u = .string s) (hv : v = .string r) {y : AV}
    (hy : (match eqStr Γ a b with | .bool r => some (AV.leaf (.bool (xor neg r))) | _ => some (.leaf .topb)) = some y) :
    DoneV P μ ρ M w (do eqGuard (eqop neg) t ox oy u v; binOp (eqop neg) t u v) y M := by
  subst hu; subst hv
  have hrun : (do eqGuard (eqop neg) t ox oy (.string s) (.string r); binOp (eqop neg) t (.string s) (.string r) : Sem Value).run P w = .ok (.bool (xor neg (decide (s.data.toList = r.data.toList)))) w := by
    cases neg
    · simp [eqop, eqGuard, binOp, Op.stringOp, bytes_beq]
    · simp [eqop, eqGuard, binOp, Op.stringOp, bytes_beq]
  have he := eqStr_ok (μ := μ) hρ ha hb
  refine .still hM hrun ?_
  split at hy
  · rename_i c hc
    cases hy
    rw [hc] at he
    simp only [LV.rel, Value.bool.injEq] at he
    rw [he]; rfl
  · cases hy; exact ⟨_, rfl⟩

/-- The types whose values are held against nil, by kinds. -/
def nilKind (P : Program) (t : TypeId) : Option Nat :=
  match P.underlying t with
  | some (.pointer _) => some 0
  | some (.slice _) => some 1
  | some (.map _ _) => some 2
  | some (.func _ _ _) => some 3
  | some (.interface _) => some 4
  | _ => none

def isConstOp : Operand → Bool
  | .const _ => true
  | _ => false

theorem eqnil_of {neg : Bool} {t : TypeId} {ox oy : Operand} {u v : Value} {c : Bool} (h1 : binOp .eql t u v = (do pure (.bool (← Op.equal t u v)))) (h2 : binOp .neq t u v = (do pure (.bool (!(← Op.equal t u v)))))
    (hg : ∀ op, (eqGuard op t ox oy u v).run P w = .ok () w) (he : ∀ d, (Op.equalIn (d + 1) t u v).run P w = .ok c w) :
    (do eqGuard (eqop neg) t ox oy u v; binOp (eqop neg) t u v : Sem Value).run P w = .ok (.bool (xor neg c)) w := by
  have he' : (Op.equal t u v).run P w = .ok c w := he 9999
  rw [Sem.run_bind, hg, Result.andThen_ok]
  cases neg
  · simp [eqop, h1, he']
  · simp [eqop, h2, he']

theorem ok_eqnil (hM : MR μ ρ M w) {neg : Bool} {t : TypeId} {kind : Nat} (ht : nilKind P t = some kind) {ox oy : Operand} (hc : (isConstOp ox || isConstOp oy || Nat.ble kind 3) = true) {x y : LV} {a b : Bool}
    (ha : nilOf kind x = some a) (hb : nilOf kind y = some b) (hab : (a || b) = true) {u v : Value} (hu : x.rel μ ρ u) (hv : y.rel μ ρ v) :
    DoneV P μ ρ M w (do eqGuard (eqop neg) t ox oy u v; binOp (eqop neg) t u v) (.leaf (.bool (xor neg (a && b)))) M := by
  refine .still hM (x := .bool (xor neg (a && b))) ?_ rfl
  unfold nilKind at ht
  split at ht <;> cases ht
  · rename_i e hp
    cases x <;> simp only [nilOf] at ha <;> cases ha <;> cases y <;> simp only [nilOf] at hb <;> cases hb <;> try (simp at hab; done)
    all_goals (first | (obtain ⟨_, _, rfl⟩ := hu) | cases hu)
    all_goals (first | (obtain ⟨_, _, rfl⟩ := hv) | cases hv)
    all_goals exact eqnil_of rfl rfl (fun op => by cases op <;> rfl) (fun d => by simp only [Op.equalIn, Sem.run_bind, run_underlying hp, Result.andThen_ok]; rfl)
  · rename_i e hp
    cases x <;> simp only [nilOf] at ha <;> cases ha <;> cases y <;> simp only [nilOf] at hb <;> cases hb <;> try (simp at hab; done)
    all_goals (first | (obtain ⟨_, _, _, _, _, _, _, _, rfl⟩ := hu) | cases hu)
    all_goals (first | (obtain ⟨_, _, _, _, _, _, _, _, rfl⟩ := hv) | cases hv)
    all_goals exact eqnil_of rfl rfl (fun op => by cases op <;> rfl) (fun d => by simp only [Op.equalIn, Sem.run_bind, run_underlying hp, Result.andThen_ok]; rfl)
  · rename_i e hp
    cases x <;> simp only [nilOf] at ha <;> cases ha <;> cases y <;> simp only [nilOf] at hb <;> cases hb <;> try (simp at hab; done)
    all_goals (first | (obtain ⟨_, _, rfl⟩ := hu) | cases hu)
    all_goals (first | (obtain ⟨_, _, rfl⟩ := hv) | cases hv)
    all_goals exact eqnil_of rfl rfl (fun op => by cases op <;> rfl) (fun d => by simp only [Op.equalIn, Sem.run_bind, run_underlying hp, Result.andThen_ok]; rfl)
  · rename_i e hp
    cases x <;> simp only [nilOf] at ha <;> cases ha <;> cases y <;> simp only [nilOf] at hb <;> cases hb <;> try (simp at hab; done)
    all_goals (first | (obtain ⟨_, _, rfl⟩ := hu) | cases hu)
    all_goals (first | (obtain ⟨_, _, rfl⟩ := hv) | cases hv)
    all_goals exact eqnil_of rfl rfl (fun op => by cases op <;> rfl) (fun d => by simp only [Op.equalIn, Sem.run_bind, run_underlying hp, Result.andThen_ok]; rfl)
  · rename_i ms hp
    have hg : ∀ op, (eqGuard op t ox oy .nilIface .nilIface).run P w = .ok () w := by
      have hcc : isConstOp ox = true ∨ isConstOp oy = true := by simpa using hc
      intro op
      rcases hcc with h | h
      · cases ox <;> first | (cases op <;> rfl) | (simp [isConstOp] at h)
      · cases oy <;> first | (cases ox <;> cases op <;> rfl) | (simp [isConstOp] at h)
    cases x <;> simp only [nilOf] at ha <;> cases ha <;> cases y <;> simp only [nilOf] at hb <;> cases hb <;> try (simp at hab; done)
    all_goals (first | (obtain ⟨_, _, rfl⟩ := hu) | cases hu)
    all_goals (first | (obtain ⟨_, _, rfl⟩ := hv) | cases hv)
    all_goals exact eqnil_of rfl rfl (fun op => by first | exact hg op | (cases op <;> rfl)) (fun d => by simp only [Op.equalIn, Sem.run_bind, run_underlying hp, Result.andThen_ok]; rfl)

/-- The types of structs and arrays whose values are held against one another. -/
def aggKind (P : Program) (t : TypeId) : Option (List LK) :=
  match P.underlying t with
  | some (.struct _) | some (.array _ _) => (match flat P 24 t with | some ks => (match P.keyTypeAt 24 t && !P.eqGuardType P.depth t && Nat.beq (P.cellsOf t) ks.length with | true => some ks | false => none) | none => none)
  | _ => none

theorem aggKind_ok {t : TypeId} {ks : List LK} (h : aggKind P t = some ks) : flat P 24 t = some ks ∧ P.keyTypeAt 24 t = true ∧ P.eqGuardType P.depth t = false ∧ P.cellsOf t = ks.length ∧
    (match P.underlying t with | some (.array _ _) | some (.struct _) => true | _ => false) = true := by
  unfold aggKind at h
  split at h <;> try (cases h; done)
  all_goals
    rename_i hu
    split at h <;> try (cases h; done)
    rename_i ks' hf
    split at h <;> try (cases h; done)
    rename_i hb
    cases h
    rw [Bool.and_eq_true, Bool.and_eq_true] at hb
    exact ⟨hf, hb.1.1, by simpa using hb.1.2, Nat.eq_of_beq_eq_true hb.2, by rw [hu]⟩

theorem run_equal_flat {t : TypeId} {ks : List LK} (h : aggKind P t = some ks) {us vs : List Value} {lu lv : List Lit} (hu : litsOf ks us = some lu) (hv : litsOf ks vs = some lv) (w : World) :
    ∃ r : Bool, (Op.equal t (.agg us.toArray) (.agg vs.toArray)).run P w = .ok r w ∧ (r = true ↔ lu = lv) := by
  obtain ⟨hf, hk, _, hn, hw⟩ := aggKind_ok h
  have formed : ∀ {xs : List Value} {l : List Lit}, litsOf ks xs = some l → (Value.agg xs.toArray).formed P t = true := by
    intro xs l hx
    have := litsOf_length hx
    unfold Value.formed
    split at hw
    · rename_i he; rw [he]; simp; omega
    · rename_i he; rw [he]; simp; omega
    · cases hw
  have := run_equalIn_deep (P := P) (10000 - 24) 24 t hk w 24 24 (.agg us.toArray) (.agg vs.toArray) lu lv (formed hu) (formed hv)
    (by simpa [Value.cells] using flat_ok 24 t ks hf us lu hu) (by simpa [Value.cells] using flat_ok 24 t ks hf vs lv hv)
  exact this

theorem ok_eqagg (hρ : Γ.has ρ) (hM : MR μ ρ M w) {neg : Bool} {t : TypeId} {ks : List LK} (ht : aggKind P t = some ks) {ox oy : Operand} {a b : List LV} {us vs : List Value} (ha : All2 (LV.rel μ ρ) a us) (hb : All2 (LV.rel μ ρ) b vs)
    {u v : Value} (hu : u = .agg us.toArray) (hv : v = .agg vs.toArray) {y : AV} (hy : (match eqCells Γ ks a b with | .bool r => some (AV.leaf (.bool (xor neg r))) | .topb => some (.leaf .topb) | _ => none) = some y) :
    DoneV P μ ρ M w (do eqGuard (eqop neg) t ox oy u v; binOp (eqop neg) t u v) y M := by
  subst hu; subst hv
  have hB : isB (eqCells Γ ks a b) = true := by split at hy <;> first | (rename_i hc; rw [hc]; rfl) | cases hy
  obtain ⟨lu, lv, r, h1, h2, h3, h4⟩ := eqCells_ok hρ hB ha hb
  obtain ⟨r', e1, e2⟩ := run_equal_flat ht h1 h2 w
  have : r' = r := by rw [Bool.eq_iff_iff, e2, h3]
  subst this
  have hg := (aggKind_ok ht).2.2.1
  refine .still hM (x := .bool (xor neg r')) ?_ ?_
  · cases neg
    · simp [eqop, eqGuard, hg, binOp, e1]
    · simp [eqop, eqGuard, hg, binOp, e1]
  · split at hy
    · rename_i c hc
      cases hy
      rw [hc] at h4
      simp only [LV.rel, Value.bool.injEq] at h4
      rw [h4]; rfl
    · cases hy; exact ⟨_, rfl⟩
    · cases hy

end

end Go.Ev
