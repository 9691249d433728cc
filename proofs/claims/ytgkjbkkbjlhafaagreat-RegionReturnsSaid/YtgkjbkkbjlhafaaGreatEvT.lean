/- Generic part T: a region's operations, calls among them; regions in the order of the text. -/
import Derived.Test.YtgkjbkkbjlhafaaGreatEvS
namespace Go.Ev

inductive RA where
  | op (co : CO)
  | call (f : Nat) (args : List Opd)
  | callv (fv : Opd) (args : List Opd)

structure RO where
  dst : Option Pos
  guard : Option (Pos × Bool)
  act : RA

/-- How a region's operations are compiled: N is the frame's size. -/
def cdst (N : Nat) (d : Option Tmp) : Option (Option Pos) := match d with | none => some none | some d => (match Nat.blt d N with | true => (spos d).map some | false => none)
def cguard (ops : Array Oper) (g : Option (Nat × Bool)) : Option (Option (Pos × Bool)) :=
  match g with
  | none => some none
  | some (j, b) => match (ops[j]?).bind (·.dst) with | some d => (spos d).map fun p => some (p, b) | none => none
def cact (P : Program) (op : Op) : Option RA :=
  match op with
  | .call c => (match c.callee with
    | .value (.func f) => (copds c.args.toList).map (.call f)
    | .value fv => (match copd fv, copds c.args.toList with | some fv, some args => some (.callv fv args) | _, _ => none)
    | .builtin _ => (compOp P (.call c)).map .op
    | .invoke _ _ => none)
  | op => (compOp P op).map .op
def compRO (P : Program) (N : Nat) (ops : Array Oper) (o : Oper) : Option RO :=
  match cdst N o.dst, cguard ops o.guard, cact P o.op with
  | some d, some g, some a => some ⟨d, g, a⟩
  | _, _, _ => none

/-- What is called. -/
def Callee : Type 1 := ∀ (Ω : Type), Nat → List AV → Mem → (AV → Mem → Option Ω) → Option Ω

def capAV (c : Pos × Nat) : AV := .leaf (.ptr c.1 c.2)

section
variable {Ω : Type}

noncomputable def putD (d : Option Pos) (v : Option AV) (tm : T AV) (k : T AV → Option Ω) : Option Ω :=
  match d with
  | none => k tm
  | some p => (match v with | some v => T.putK p (some v) tm k | none => T.putK p (some (.tup [])) tm k)

noncomputable def capsK (l : List (Pos × Nat)) : (List AV → Option Ω) → Option Ω :=
  List.rec (motive := fun _ => (List AV → Option Ω) → Option Ω) (fun k => k []) (fun c _ ih k => ih fun vs => k (capAV c :: vs)) l

noncomputable def evAct (Γ : Box) (cal : Callee) (ra : RA) (tm : T AV) (M : Mem) (k : Option AV → Mem → Option Ω) : Option Ω :=
  match ra with
  | .op co => evOp Γ co tm M k
  | .call f args => opdsK tm args fun vs => cal Ω f vs M fun v M' => k (some v) M'
  | .callv fv args => opdK tm fv fun v => leafK v fun v => match v with | .func f caps => opdsK tm args fun vs => capsK caps fun cs => appK vs cs fun vs => cal Ω f vs M fun v M' => k (some v) M' | _ => none

noncomputable def wantG (want : Bool) (v : Option AV) (k : Bool → Option Ω) : Option Ω :=
  match v with
  | none => none
  | some v => match v with
    | .leaf v => (match v with | .bool b => (match b with | true => k want | false => (match want with | true => k false | false => k true)) | _ => none)
    | .tup l => (match l with | [] => k false | _ :: _ => none)
    | .agg _ => none

/-- Is it done at all? -/
noncomputable def wantK (g : Option (Pos × Bool)) (tm : T AV) (k : Bool → Option Ω) : Option Ω :=
  match g with
  | none => k true
  | some g => wantG g.2 (tm.get g.1) k

noncomputable def evRO (Γ : Box) (cal : Callee) (ro : RO) (tm : T AV) (M : Mem) (k : T AV → Mem → Option Ω) : Option Ω :=
  wantK ro.guard tm fun b => match b with
    | true => evAct Γ cal ro.act tm M fun v M' => putD ro.dst v tm fun tm' => k tm' M'
    | false => putD ro.dst none tm fun tm' => k tm' M

end

def Enters (P : Program) (f : FuncId) : Prop := ∀ (args : Array Value) (w : World), (callFunc f args).run P w = .ok (.enter f args) w

/-- What a callee's evaluation promises. -/
def CalOk (P : Program) (ρ : Nat → Int) (cal : Callee) : Prop :=
  ∀ (Ω : Type) (f : Nat) (vs : List AV) (M : Mem) (k : AV → Mem → Option Ω) (r : Ω), cal Ω f vs M k = some r →
    Enters P f ∧ ∀ (μ : Emb) (w : World) (args : List Value), All2 (AV.rel μ ρ) vs args → MR μ ρ M w →
      Calls P f args.toArray w fun e w' => ∃ v M' x μ', k v M' = some r ∧ e = .returned x ∧ v.rel μ' ρ x ∧ MR μ' ρ M' w' ∧ Ext 0 μ μ' w w'

theorem Ext.zero {n : Nat} {μ μ' : Emb} {w w' : World} (h : Ext n μ μ' w w') : Ext 0 μ μ' w w' :=
  { h with ids := fun _ _ _ _ => Nat.zero_le _ }

section
variable {Ω : Type} {P : Program} {Γ : Box} {cal : Callee} {ρ : Nat → Int} {μ : Emb} {M : Mem} {w : World} {N : Nat} {ops : Array Oper}

theorem cdst_ok {d : Option Tmp} {p : Option Pos} (h : cdst N d = some p) {tm : T AV} {a : Act} (hT : TR μ ρ tm a.tmps) (hN : a.tmps.size = N) {v : Option AV} {x : Value} (hv : (v.getD (.tup [])).rel μ ρ x) {k : T AV → Option Ω} {r : Ω} (hk : putD p v tm k = some r) :
    ∃ tm', k tm' = some r ∧ TR μ ρ tm' (a.put d x).tmps ∧ (a.put d x).tmps.size = N := by
  cases d with
  | none => cases h; exact ⟨tm, hk, hT, hN⟩
  | some d =>
    simp only [cdst] at h
    split at h
    · rename_i hlt
      simp only [Option.map_eq_some_iff] at h
      obtain ⟨q, hq, rfl⟩ := h
      have hlt : d < N := by simp only [Nat.blt, Nat.ble_eq] at hlt; exact hlt
      have e : ∀ u : AV, u.rel μ ρ x → T.putK q (some u) tm k = some r → ∃ tm', k tm' = some r ∧ TR μ ρ tm' (a.put (some d) x).tmps ∧ (a.put (some d) x).tmps.size = N := by
        intro u hu hk
        rw [T.putK_eq] at hk
        exact ⟨_, hk, hT.put hq (by rw [hN]; exact hlt) (fun y hy => by cases hy; exact hu), by simp [Act.put, hN]⟩
      cases v with
      | none => exact e _ hv hk
      | some v => exact e _ hv hk
    · cases h

theorem undef_rel : (AV.tup []).rel μ ρ undef := ⟨[], .nil, rfl⟩

theorem cguard_ok {o : Oper} {g : Option (Pos × Bool)} (h : cguard ops o.guard = some g) {tm : T AV} {a : Act} (hT : TR μ ρ tm a.tmps) {k : Bool → Option Ω} {r : Ω} (hk : wantK g tm k = some r) :
    k (Region.wanted o (yielded ops a.tmps)) = some r := by
  unfold Region.wanted
  cases hg : o.guard with
  | none => rw [hg] at h; cases h; exact hk
  | some jb =>
    obtain ⟨j, want⟩ := jb
    rw [hg] at h
    simp only [cguard] at h
    split at h
    · rename_i d hd
      simp only [Option.map_eq_some_iff] at h
      obtain ⟨p, hp, rfl⟩ := h
      simp only [wantK] at hk
      unfold wantG at hk
      split at hk
      · cases hk
      · rename_i v hv
        obtain ⟨i, x, h1, h2, h3⟩ := hT p v hv
        have : i = d := by have := spos_ok hp; omega
        subst this
        have hy : yielded ops a.tmps j = match x with | .bool b => some b | _ => none := by
          simp only [yielded, hd, Option.bind_some, h2]
          cases x <;> rfl
        cases v with
        | leaf v =>
          cases v with
          | bool b =>
            cases h3
            simp only at hy hk ⊢
            rw [hy]
            cases b <;> cases want <;> exact hk
          | _ => cases hk
        | tup l =>
          cases l with
          | nil =>
            obtain ⟨xs, hxs, e⟩ := h3
            cases hxs
            subst e
            simp only at hy hk ⊢
            rw [hy]
            cases want <;> exact hk
          | cons _ _ => cases hk
        | agg _ => cases hk
    · cases h

theorem capsK_ok {l : List (Pos × Nat)} {xs : List Value} (h : All2 (capIs μ) l xs) : ∀ {k : List AV → Option Ω} {r : Ω}, capsK l k = some r → ∃ vs, k vs = some r ∧ All2 (AV.rel μ ρ) vs xs := by
  induction h with
  | nil => exact fun hk => ⟨[], hk, .nil⟩
  | cons hc _ ih =>
    intro k r hk
    obtain ⟨vs, h1, h2⟩ := ih hk
    exact ⟨_ :: vs, h1, .cons hc h2⟩

/-- What one operation of a region leaves. -/
def Left (ρ : Nat → Int) (N : Nat) (μ : Emb) (w : World) (a : Act) (dst : Option Tmp) (kk : T AV → Mem → Prop) (a' : Act) (w' : World) : Prop :=
  ∃ tm' M' μ' x, kk tm' M' ∧ a' = a.put dst x ∧ TR μ' ρ tm' a'.tmps ∧ MR μ' ρ M' w' ∧ Ext 0 μ μ' w w' ∧ a'.tmps.size = N

theorem upon_of_done {o : Oper} {a : Act} {p : Option Pos} (hd : cdst N o.dst = some p) {tm : T AV} (hT : TR μ ρ tm a.tmps) (hN : a.tmps.size = N) {v : Option AV} {M' : Mem} (h : Done P μ ρ M w (execOp a.eval o) v M') {k : T AV → Option Ω} {r : Ω}
    (hk : putD p v tm k = some r) {K : Act → World → Prop} {Q : Exit → Act → World → Prop} (hK : ∀ a' w', Left ρ N μ w a o.dst (fun tm' M'' => k tm' = some r ∧ M'' = M') a' w' → K a' w') : o.wp P a w K Q := by
  obtain ⟨next, w', μ', h1, h2, h3, h4⟩ := h
  unfold Oper.wp
  rw [h1]
  cases v with
  | some u =>
    cases next <;> simp only [NextIs] at h2
    rename_i x
    obtain ⟨tm', g1, g2, g3⟩ := cdst_ok hd (hT.le h4.le) hN (v := some u) (x := x) h2 hk
    exact hK _ _ ⟨tm', M', μ', x, ⟨g1, rfl⟩, rfl, g2, h3, h4.zero, g3⟩
  | none =>
    cases next <;> simp only [NextIs] at h2
    obtain ⟨tm', g1, g2, g3⟩ := cdst_ok hd (hT.le h4.le) hN (v := none) (x := undef) undef_rel hk
    exact hK _ _ ⟨tm', M', μ', undef, ⟨g1, rfl⟩, rfl, g2, h3, h4.zero, g3⟩

theorem run_resolve_value (ρ' : Operand → Value) (c : Call) (ty : TypeId) (x : Operand) (hc : c.callee = .value x) {f : FuncId} {caps : Array Value} (hx : ρ' x = .func (.func f) #[] caps) (hE : Enters P f) (w : World) :
    (do let d ← resolve ρ' c ty; invoke d.target d.args : Sem Next).run P w = .ok (.enter f (c.args.map ρ' ++ caps)) w := by
  simp only [resolve, hc, hx, Deferred.ofValue, Sem.run_bind, Sem.run_pure, Result.andThen_ok, invoke]
  rw [show (#[] ++ Array.map ρ' c.args : Array Value) = Array.map ρ' c.args by simp]
  exact hE _ w

theorem ok_ro (hρ : Γ.has ρ) (hcal : CalOk P ρ cal) (hM : MR μ ρ M w) {o : Oper} {ro : RO} (hc : compRO P N ops o = some ro) {tm : T AV} {a : Act} (hT : TR μ ρ tm a.tmps) (hN : a.tmps.size = N) {k : T AV → Mem → Option Ω} {r : Ω}
    (hk : evRO Γ cal ro tm M k = some r) {K : Act → World → Prop} {Q : Exit → Act → World → Prop} (hK : ∀ a' w', Left ρ N μ w a o.dst (fun tm' M' => k tm' M' = some r) a' w' → K a' w') :
    if Region.wanted o (yielded ops a.tmps) = true then o.wp P a w K Q else K (a.put o.dst undef) w := by
  unfold compRO at hc
  split at hc
  case h_2 => cases hc
  rename_i d g ra hd hg ha
  cases hc
  have hk := cguard_ok hg hT hk
  split
  · rename_i hw
    rw [hw] at hk
    simp only at hk
    have plain : ∀ co, compOp P o.op = some co → (evOp Γ co tm M fun v M' => putD d v tm fun tm' => k tm' M') = some r → o.wp P a w K Q := by
      intro co hco he
      obtain ⟨v, M', h1, h2⟩ := ok_op hρ hM hT hco he
      refine upon_of_done hd hT hN h2 h1 fun a' w' h => hK _ _ ?_
      obtain ⟨tm', M'', μ', x, ⟨g1, rfl⟩, g2⟩ := h
      exact ⟨tm', _, μ', x, g1, g2⟩
    have called : ∀ (f : Nat) (vs : List AV) (args : List Value), (execOp a.eval o).run P w = .ok (.enter f args.toArray) w ∨ ¬ Enters P f → All2 (AV.rel μ ρ) vs args → (cal Ω f vs M fun v M' => putD d (some v) tm fun tm' => k tm' M') = some r → o.wp P a w K Q := by
      intro f vs args hrun hargs he
      obtain ⟨hE, hcalls⟩ := hcal _ _ _ _ _ _ he
      have hrun := hrun.resolve_right fun h => h hE
      unfold Oper.wp
      rw [hrun]
      refine Calls.mono (hcalls μ w args hargs hM) fun e w' h => ?_
      obtain ⟨v, M', x, μ', h1, rfl, h2, h3, h4⟩ := h
      obtain ⟨tm', g1, g2, g3⟩ := cdst_ok hd (hT.le h4.le) hN (v := some v) (x := x) h2 h1
      exact hK _ _ ⟨tm', M', μ', x, g1, rfl, g2, h3, h4, g3⟩
    unfold cact at ha
    split at ha
    · rename_i c hoc
      split at ha
      · rename_i f hcal
        simp only [Option.map_eq_some_iff] at ha
        obtain ⟨args, hargs, rfl⟩ := ha
        obtain ⟨vs, h1, h2⟩ := opdsK_ok hT hargs (k := fun vs => cal Ω f vs M fun v M' => putD d (some v) tm fun tm' => k tm' M') hk
        refine called f vs _ ?_ h2 h1
        by_cases hE : Enters P f
        · left
          have := run_resolve_value (P := P) a.eval c o.type (.func f) hcal (f := f) (caps := #[]) rfl hE w
          simp only [Array.append_empty] at this
          have e : (List.map a.eval c.args.toList).toArray = c.args.map a.eval := by rw [← Array.toList_map]
          rw [e, ← this]
          unfold execOp; rw [hoc]
        · exact .inr hE
      · rename_i fv hne hcal
        split at ha
        case h_2 => cases ha
        rename_i fv' args hfv hargs
        cases ha
        change (opdK tm fv' fun v => leafK v fun v => _) = some r at hk
        obtain ⟨v, h1, hv⟩ := opdK_ok hT hfv hk
        obtain ⟨u, rfl, h2⟩ := leafK_ok h1
        cases u <;> try (cases h2; done)
        rename_i f caps
        obtain ⟨vs, h3, hvs⟩ := opdsK_ok hT hargs h2
        obtain ⟨xs, hxs, ev⟩ := hv
        obtain ⟨cs, h4, hcs⟩ := capsK_ok (ρ := ρ) hxs h3
        rw [appK_eq] at h4
        refine called f _ _ ?_ (hvs.append hcs) h4
        by_cases hE : Enters P f
        · left
          have := run_resolve_value (P := P) a.eval c o.type fv hcal ev hE w
          have e : (List.map a.eval c.args.toList ++ xs).toArray = c.args.map a.eval ++ xs.toArray := by rw [← Array.toList_map]; simp
          rw [e, ← this]
          unfold execOp; rw [hoc]
        · exact .inr hE
      · simp only [Option.map_eq_some_iff] at ha
        obtain ⟨co, hco, rfl⟩ := ha
        exact plain co (by rw [hoc]; exact hco) hk
      · cases ha
    · simp only [Option.map_eq_some_iff] at ha
      obtain ⟨co, hco, rfl⟩ := ha
      exact plain co hco hk
  · rename_i hw
    have hw : Region.wanted o (yielded ops a.tmps) = false := by simpa using hw
    rw [hw] at hk
    simp only at hk
    obtain ⟨tm', g1, g2, g3⟩ := cdst_ok hd hT hN (v := none) (x := undef) undef_rel hk
    exact hK _ _ ⟨tm', M, μ, undef, g1, rfl, g2, hM, .refl _ _ _, g3⟩

end
end Go.Ev
