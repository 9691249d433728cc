/- Generic part Y: functions, by a table of them. -/
import Derived.Test.YtgkjbkkbjlhafaaGreatEvX
namespace Go.Ev

inductive RV where
  | tmp (p : Pos)
  | cell1 (p : Pos)
  | cellN (n : Nat) (p : Pos)

structure CFun where
  n : Nat
  cc : CC
  res : List RV

def compRV (P : Program) : ResultVar → Option RV
  | .tmp t => (spos t).map .tmp
  | .cell t ty => match spos t, tagg P ty, tsize P ty with
    | some p, some b, some n => (match b with | false => some (.cell1 p) | true => some (.cellN n p))
    | _, _, _ => none

def compRVs (P : Program) : List ResultVar → Option (List RV)
  | [] => some []
  | x :: xs => match compRV P x, compRVs P xs with | some y, some ys => some (y :: ys) | _, _ => none

def compFn (P : Program) (pls : Plans) (fn : Func) : Option CFun :=
  match fn.body with
  | some c => (match compCode P fn.ntmps pls c, compRVs P fn.results.toList with | some cc, some rs => some ⟨fn.ntmps, cc, rs⟩ | _, _ => none)
  | none => none

section
variable {Ω : Type}

noncomputable def evRV (rv : RV) (tm : T AV) (M : Mem) (k : V1 → Option Ω) : Option Ω :=
  match rv with
  | .tmp p => (match tm.get p with | some v => v1K v k | none => none)
  | .cell1 p => (match tm.get p with | some v => ptrK v fun b off => blkK M b fun cs => (match nth off cs with | some x => k (.leaf x) | none => none) | none => none)
  | .cellN n p => (match tm.get p with | some v => ptrK v fun b off => blkK M b fun cs => dropK off cs fun l => takeK n l fun l _ => k (.agg l) | none => none)

noncomputable def evRVs (l : List RV) (tm : T AV) (M : Mem) : (List V1 → Option Ω) → Option Ω :=
  List.rec (motive := fun _ => (List V1 → Option Ω) → Option Ω) (fun k => k []) (fun x _ ih k => evRV x tm M fun v => ih fun vs => k (v :: vs)) l

def resAV : List V1 → AV
  | [] => .tup []
  | v :: vs => (match vs with | [] => v.av | _ :: _ => .tup (v :: vs))

noncomputable def bindK (vs : List AV) : Pos → T AV → (T AV → Option Ω) → Option Ω :=
  List.rec (motive := fun _ => Pos → T AV → (T AV → Option Ω) → Option Ω) (fun _ tm k => k tm) (fun v _ ih p tm k => T.putK p (some v) tm fun tm => p.succK fun p => ih p tm k) vs

end

abbrev Tbl := T CFun

/-- wr: what stands in for some of the functions (a contract's answer). -/
noncomputable def evFun (Γ : Box) (tbl : Tbl) (wr : Callee → Callee) (n : Nat) : Callee :=
  Nat.rec (motive := fun _ => Callee) (fun _ _ _ _ _ => none) (fun _ ih Ω f vs M k =>
    match spos f with
    | some p => (match tbl.get p with
      | some F => (match Nat.ble vs.length F.n with
        | true => bindK vs .xH .leaf fun tm => evCode Γ (wr ih) F.cc tm M (fun tm M => evRVs F.res tm M fun vs => k (resAV vs) M) (fun _ _ _ => none) (fun tm M => evRVs F.res tm M fun vs => k (resAV vs) M)
        | false => none)
      | none => none)
    | none => none) n

def FunOk (P : Program) (f : Nat) (F : CFun) : Prop := Enters P f ∧ ∃ fn pls, P.funcs[f]? = some fn ∧ compFn P pls fn = some F

def TblOk (P : Program) (tbl : Tbl) : Prop := ∀ f p F, p.toNat = f + 1 → tbl.get p = some F → FunOk P f F

def rvSem (tmps : Array Value) : ResultVar → Sem Value
  | .tmp t => pure (tmps.getD t undef)
  | .cell a t => do loadVar t (← asAddr (tmps.getD a undef))

section
variable {Ω : Type} {P : Program} {Γ : Box} {ρ : Nat → Int} {μ : Emb} {M : Mem} {w : World}

theorem evRV_ok (hM : MR μ ρ M w) {tm : T AV} {tmps : Array Value} (hT : TR μ ρ tm tmps) {x : ResultVar} {rv : RV} (hc : compRV P x = some rv) {k : V1 → Option Ω} {r : Ω} (hk : evRV rv tm M k = some r) :
    ∃ v y, k v = some r ∧ v.rel μ ρ y ∧ (rvSem tmps x).run P w = .ok y w := by
  cases x with
  | tmp t =>
    simp only [compRV, Option.map_eq_some_iff] at hc
    obtain ⟨p, hp, rfl⟩ := hc
    simp only [evRV] at hk
    split at hk
    case h_2 => cases hk
    rename_i v hv
    obtain ⟨i, y, h1, h2, h3⟩ := hT p v hv
    have : i = t := by have := spos_ok hp; have h4 : t + 1 = i + 1 := this.symm.trans h1; exact (Nat.succ.inj h4).symm
    subst this
    obtain ⟨z, h4, h5⟩ := v1K_ok hk h3
    exact ⟨z, y, h4, h5, by simp [rvSem, h2]⟩
  | cell a t =>
    simp only [compRV] at hc
    split at hc
    case h_2 => cases hc
    rename_i p b n hp hb hn
    cases b with
    | false =>
      cases hc
      simp only [evRV] at hk
      split at hk
      case h_2 => cases hk
      rename_i v hv
      obtain ⟨i, y, h1, h2, h3⟩ := hT p v hv
      have : i = a := by have := spos_ok hp; have h4 : a + 1 = i + 1 := this.symm.trans h1; exact (Nat.succ.inj h4).symm
      subst this
      obtain ⟨b, off, m, h4, hm, e⟩ := ptrK_ok hk h3
      obtain ⟨cs, hcs, h5⟩ := blkK_ok h4
      split at h5
      case h_2 => cases h5
      rename_i z hz
      obtain ⟨x, g1, g2⟩ := se_load1 (P := P) (w := w) hM hb hm e hcs hz
      refine ⟨.leaf z, x, h5, g2, ?_⟩
      rw [e] at g1
      simpa [rvSem, h2, e, asAddr, Instr.loadAt, Instr.sureAddr] using g1
    | true =>
      cases hc
      simp only [evRV] at hk
      split at hk
      case h_2 => cases hk
      rename_i v hv
      obtain ⟨i, y, h1, h2, h3⟩ := hT p v hv
      have : i = a := by have := spos_ok hp; have h4 : a + 1 = i + 1 := this.symm.trans h1; exact (Nat.succ.inj h4).symm
      subst this
      obtain ⟨b, off, m, h4, hm, e⟩ := ptrK_ok hk h3
      obtain ⟨cs, hcs, h5⟩ := blkK_ok h4
      rw [dropK_eq] at h5
      split at h5
      case isFalse => cases h5
      rename_i hle
      rw [takeK_eq] at h5
      split at h5
      case isFalse => cases h5
      rename_i hle2
      simp at hle2
      obtain ⟨x, g1, g2⟩ := se_loadN (P := P) (w := w) (n := n) hM hb hn hm e hcs (by omega)
      refine ⟨.agg ((cs.drop off).take n), x, h5, g2, ?_⟩
      rw [e] at g1
      simpa [rvSem, h2, e, asAddr, Instr.loadAt, Instr.sureAddr] using g1

theorem evRVs_ok (hM : MR μ ρ M w) {tm : T AV} {tmps : Array Value} (hT : TR μ ρ tm tmps) : ∀ {xs : List ResultVar} {rs : List RV}, compRVs P xs = some rs → ∀ {k : List V1 → Option Ω} {r : Ω}, evRVs rs tm M k = some r →
    ∃ vs ys, k vs = some r ∧ All2 (V1.rel μ ρ) vs ys ∧ (xs.mapM (rvSem tmps)).run P w = .ok ys w
  | [], rs, hc, k, r, hk => by cases hc; exact ⟨[], [], hk, .nil, by simp⟩
  | x :: xs, rs, hc, k, r, hk => by
    simp only [compRVs] at hc
    split at hc
    case h_2 => cases hc
    rename_i y ys hy hys
    cases hc
    obtain ⟨v, u, h1, h2, h3⟩ := evRV_ok hM hT hy (k := fun v => evRVs ys tm M fun vs => k (v :: vs)) hk
    obtain ⟨vs, us, h4, h5, h6⟩ := evRVs_ok hM hT hys h1
    exact ⟨v :: vs, u :: us, h4, .cons h2 h5, by simp [h3, h6]⟩

theorem run_results {fn : Func} {tmps : Array Value} {ys : List Value} (h : (fn.results.toList.mapM (rvSem tmps)).run P w = .ok ys w) {vs : List V1} (hv : All2 (V1.rel μ ρ) vs ys) :
    ∃ y, (results fn tmps).run P w = .ok y w ∧ (resAV vs).rel μ ρ y := by
  have e : (fn.results.mapM (rvSem tmps)).run P w = .ok ys.toArray w := by
    rw [Array.mapM_eq_mapM_toList]
    simp [Sem.run_map, h, Result.andThen]
  have e2 : (results fn tmps).run P w = .ok (if h : ys.toArray.size = 1 then ys.toArray[0] else .tuple ys.toArray) w := by
    have hr : results fn tmps = (fn.results.mapM (rvSem tmps) >>= fun vs => pure (if h : vs.size = 1 then vs[0] else .tuple vs)) := by
      unfold results
      refine congrArg ((fun f : ResultVar → Sem Value => ( Array.mapM f fn.results >>= fun vs => (pure (if h : vs.size = 1 then vs[0] else Value.tuple vs) : Sem Value))) : (ResultVar → Sem Value) → Sem Value) (funext fun x => ?_)
      cases x <;> rfl
    rw [hr, Sem.run_bind, e]
    rfl
  refine ⟨_, e2, ?_⟩
  cases hv with
  | nil => exact ⟨[], .nil, by simp⟩
  | cons h1 h2 =>
    cases h2 with
    | nil => simp only [resAV]; exact V1.rel_av.2 (by simpa using h1)
    | cons h3 h4 => exact ⟨_, .cons h1 (.cons h3 h4), by simp⟩

theorem TR.at {tm : T AV} {tmps : Array Value} (h : TR μ ρ tm tmps) {p : Pos} {i : Nat} (hp : p.toNat = i + 1) {x : Value} (hx : tmps[i]? = some x) {v : AV} (hv : v.rel μ ρ x) : TR μ ρ (T.put p (some v) tm) tmps := by
  intro q u hu
  rw [T.get_put] at hu
  split at hu
  · rename_i e; subst e; cases hu; exact ⟨i, x, hp, hx, hv⟩
  · exact h q u hu

theorem bindK_ok {tmps : Array Value} : ∀ {vs : List AV} {xs : List Value}, All2 (AV.rel μ ρ) vs xs → ∀ {p : Pos} {i : Nat}, p.toNat = i + 1 → (∀ j x, xs[j]? = some x → tmps[i + j]? = some x) → ∀ {tm : T AV}, TR μ ρ tm tmps → ∀ {k : T AV → Option Ω} {r : Ω}, bindK vs p tm k = some r →
    ∃ tm', k tm' = some r ∧ TR μ ρ tm' tmps
  | [], _, .nil, p, i, _, _, tm, hT, k, r, hk => ⟨tm, hk, hT⟩
  | v :: vs, x :: xs, .cons h1 h2, p, i, hp, hx, tm, hT, k, r, hk => by
    change (T.putK p (some v) tm fun tm => p.succK fun p => bindK vs p tm k) = some r at hk
    rw [T.putK_eq, Pos.succK_eq] at hk
    refine bindK_ok h2 (p := p.succ) (i := i + 1) (by rw [Pos.toNat_succ, hp]) (fun j y hy => ?_) (hT.at hp (hx 0 x rfl) h1) hk
    have := hx (j + 1) y hy
    rwa [show i + 1 + j = i + (j + 1) by omega]

theorem evFun_ok (hmix : P.follows .mixedOrders = true) (hρ : Γ.has ρ) {tbl : Tbl} (ht : TblOk P tbl) {wr : Callee → Callee} (hwr : ∀ cal, CalOk P ρ cal → CalOk P ρ (wr cal)) : ∀ n, CalOk P ρ (evFun Γ tbl wr n)
  | 0 => fun Ω f vs M k r h => by cases h
  | n + 1 => by
    intro Ω f vs M k r h
    have ih := hwr _ (evFun_ok hmix hρ ht hwr n)
    change (match spos f with
      | some p => (match tbl.get p with
        | some F => (match Nat.ble vs.length F.n with
          | true => bindK vs .xH .leaf fun tm => evCode Γ (wr (evFun Γ tbl wr n)) F.cc tm M (fun tm M => evRVs F.res tm M fun vs => k (resAV vs) M) (fun _ _ _ => none) (fun tm M => evRVs F.res tm M fun vs => k (resAV vs) M)
          | false => none)
        | none => none)
      | none => none) = some r at h
    split at h
    case h_2 => cases h
    rename_i p hp
    split at h
    case h_2 => cases h
    rename_i F hF
    split at h
    case h_2 => cases h
    rename_i hle
    rw [Nat.ble_eq] at hle
    obtain ⟨hE, fn, pls, hfn, hc⟩ := ht f p F (spos_ok hp) hF
    refine ⟨hE, fun μ w args hargs hM => ?_⟩
    unfold compFn at hc
    split at hc
    case h_2 => cases hc
    rename_i c hb
    split at hc
    case h_2 => cases hc
    rename_i cc rs hcc hrs
    cases hc
    have hlen := hargs.length
    have hT0 : TR μ ρ .leaf (args.toArray ++ Array.replicate (fn.ntmps - args.toArray.size) undef) := fun q u hu => by rw [T.get_leaf] at hu; cases hu
    obtain ⟨tm, h1, hT⟩ := bindK_ok hargs (p := .xH) (i := 0) rfl (tmps := args.toArray ++ Array.replicate (fn.ntmps - args.toArray.size) undef) (fun j x hx => by
      have hj : j < args.length := by
        rcases Nat.lt_or_ge j args.length with h | h
        · exact h
        · rw [List.getElem?_eq_none h] at hx; cases hx
      rw [Nat.zero_add, Array.getElem?_append_left (by simpa using hj)]
      simpa using hx) hT0 h
    refine calls_of_wp hfn hb (wp_mono (ok_code (N := fn.ntmps) hmix hρ ih c hcc hM hT (by simp; simp only at hle; omega) h1) fun e a' w' h => ?_)
    have fin : Come ρ fn.ntmps μ w [] (fun tm M => (evRVs rs tm M fun vs => k (resAV vs) M) = some r) a' w' →
        a'.defers = [] ∧ ∃ v, (results fn a'.tmps).run P w' = .ok v w' ∧ ∃ v2 M' x μ', k v2 M' = some r ∧ (Ending.returned v = .returned x) ∧ v2.rel μ' ρ x ∧ MR μ' ρ M' w' ∧ Ext 0 μ μ' w w' := by
      rintro ⟨tm', M', μ', g1, g2, g3, g4, g5, g6⟩
      obtain ⟨us, ys, k1, k2, k3⟩ := evRVs_ok (P := P) g3 g2 hrs g1
      obtain ⟨y, k4, k5⟩ := run_results k3 k2
      exact ⟨g6, y, k4, _, M', y, μ', k1, rfl, k5, g3, g4⟩
    cases e with
    | normal => exact fin h
    | ret => exact fin h
    | exit id =>
      obtain ⟨_, _, _, g1, _⟩ := h
      cases g1
    | goto l => exact h
    | panic c => exact h.elim
    | outgrown => exact h.elim

end
end Go.Ev
