/- Generic part X: code and functions. -/
import Derived.Test.YtgkjbkkbjlhafaaGreatEvW
import Derived.Scope
namespace Go.Ev

inductive CC where
  | skip
  | region (steps : ST)
  | seq (x y : CC)
  | cond (c : Opd) (x y : CC)
  | block (id : Nat) (x : CC)
  | loop (x : CC)
  | exit (id : Nat)
  | scope (x : CC)
  | ret

abbrev Plans := List (Nat × List Info × List PStep × PT)

def findPlan (id : Nat) : Plans → Option (List Info × List PStep × PT)
  | [] => none
  | p :: ps => match Nat.beq p.1 id with | true => some p.2 | false => findPlan id ps

def noSel (l : List Oper) : Bool := l.all fun o => match o.op with | .select _ _ => false | _ => true

def compRegion (P : Program) (N : Nat) (pls : Plans) (id : Nat) (ops : Array Oper) (draw : Bool) : Option ST :=
  match draw with
  | false => compL P N ops (List.range ops.size)
  | true => match findPlan id pls with
    | some pl => (match sameInfos (ops.toList.map (infoOf ops)) pl.1 && (noSel ops.toList && chkT pl.1 pl.2.1 pl.2.2 false 0 ops.size) with
      | true => compT P N ops pl.2.1 pl.2.2 0
      | false => none)
    | none => none

def compCode (P : Program) (N : Nat) (pls : Plans) : Code → Option CC
  | .skip => some .skip
  | .label _ => some .skip
  | .region id ops draw => (compRegion P N pls id ops draw).map .region
  | .seq x y => (match compCode P N pls x, compCode P N pls y with | some x, some y => some (.seq x y) | _, _ => none)
  | .cond c x y => (match copd c, compCode P N pls x, compCode P N pls y with | some c, some x, some y => some (.cond c x y) | _, _, _ => none)
  | .block id x => (compCode P N pls x).map (.block id)
  | .loop x => (compCode P N pls x).map .loop
  | .exit id => some (.exit id)
  | .scope x => (compCode P N pls x).map .scope
  | .ret => some .ret
  | _ => none

section
variable {Ω : Type}

noncomputable def loopK (body : T AV → Mem → (T AV → Mem → Option Ω) → Option Ω) (n : Nat) : T AV → Mem → Option Ω :=
  Nat.rec (motive := fun _ => T AV → Mem → Option Ω) (fun _ _ => none) (fun _ ih tm M => body tm M ih) n

noncomputable def evCode (Γ : Box) (cal : Callee) (c : CC) : T AV → Mem → (T AV → Mem → Option Ω) → (Nat → T AV → Mem → Option Ω) → (T AV → Mem → Option Ω) → Option Ω :=
  CC.rec (motive := fun _ => T AV → Mem → (T AV → Mem → Option Ω) → (Nat → T AV → Mem → Option Ω) → (T AV → Mem → Option Ω) → Option Ω)
    (fun tm M kn _ _ => kn tm M)
    (fun steps tm M kn _ _ => evST Γ cal steps Ω tm M kn)
    (fun _ _ ihx ihy tm M kn kx kr => ihx tm M (fun tm M => ihy tm M kn kx kr) kx kr)
    (fun c _ _ ihx ihy tm M kn kx kr => opdK tm c fun v => boolK v fun b => match b with | true => ihx tm M kn kx kr | false => ihy tm M kn kx kr)
    (fun id _ ih tm M kn kx kr => ih tm M kn (fun id' tm M => match Nat.beq id' id with | true => kn tm M | false => kx id' tm M) kr)
    (fun _ ih tm M _ kx kr => loopK (fun tm M kn => ih tm M kn kx kr) 1000000 tm M)
    (fun id tm M _ kx _ => kx id tm M)
    (fun _ ih tm M kn kx kr => ih tm M kn kx kr)
    (fun tm M _ _ kr => kr tm M)
    c

end

/-- A loop's wp, from within. -/
def LW (P : Program) (c : Code) (Q : Exit → Act → World → Prop) (a : Act) (w : World) : Prop :=
  ∀ (b : Frame) (k : List Item) (cs : List Frame), ∃ e a' w', Q e a' w' ∧ Arrives P (lone (b.at a (.code c :: .inLoop c :: k)) cs w) b k cs e a' w'

theorem LW.wp {P : Program} {c : Code} {Q : Exit → Act → World → Prop} {a : Act} {w : World} (h : LW P c Q a w) : (Code.loop c).wp P Q a w :=
  fun b k cs => let ⟨e, a', w', q, r⟩ := h b k cs; ⟨e, a', w', q, .of_steps (.one step_loop) r⟩

theorem LW.round {P : Program} {c : Code} {Q : Exit → Act → World → Prop} {a : Act} {w : World} (h : c.wp P (Exit.then (LW P c Q) Q) a w) : LW P c Q a w := by
  intro b k cs
  obtain ⟨e, a₁, w₁, hq, harr⟩ := h b (.inLoop c :: k) cs
  cases e with
  | normal =>
    obtain ⟨e₂, a₂, w₂, hq₂, harr₂⟩ := hq b k cs
    exact ⟨e₂, a₂, w₂, hq₂, .of_steps (Steps.trans harr (.one step_inLoop)) harr₂⟩
  | exit id => exact ⟨_, a₁, w₁, hq, .pass (x := .inLoop c) rfl (fun _ _ => .inl (by simp)) harr⟩
  | goto l => exact ⟨_, a₁, w₁, hq, .pass (x := .inLoop c) rfl (fun _ _ => .inl (by simp)) harr⟩
  | ret => exact ⟨_, a₁, w₁, hq, .pass (x := .inLoop c) rfl (fun _ _ => .inl (by simp)) harr⟩
  | panic ch => exact ⟨_, a₁, w₁, hq, .pass (x := .inLoop c) rfl (fun _ _ => .inl (by simp)) harr⟩
  | outgrown => exact ⟨_, a₁, w₁, hq, .pass (x := .inLoop c) rfl (fun _ _ => .inl (by simp)) harr⟩

section
variable {Ω : Type} {P : Program} {Γ : Box} {cal : Callee} {ρ : Nat → Int} {N : Nat} {pls : Plans}

def Fin (ρ : Nat → Int) (N : Nat) (μ : Emb) (w : World) (df : List Deferred) (kn : T AV → Mem → Option Ω) (kx : Nat → T AV → Mem → Option Ω) (kr : T AV → Mem → Option Ω) (r : Ω) : Exit → Act → World → Prop
  | .normal, a', w' => Come ρ N μ w df (fun tm M => kn tm M = some r) a' w'
  | .exit id, a', w' => Come ρ N μ w df (fun tm M => kx id tm M = some r) a' w'
  | .ret, a', w' => Come ρ N μ w df (fun tm M => kr tm M = some r) a' w'
  | _, _, _ => False

theorem Come.trans {μ μ' : Emb} {w w' : World} {df : List Deferred} (he : Ext 0 μ μ' w w') {kk : T AV → Mem → Prop} {a'' : Act} {w'' : World} (h : Come ρ N μ' w' df kk a'' w'') : Come ρ N μ w df kk a'' w'' := by
  obtain ⟨tm, M, μ'', h1, h2, h3, h4, h5, h6⟩ := h
  exact ⟨tm, M, μ'', h1, h2, h3, he.trans h4 (Nat.le_refl 0), h5, h6⟩

theorem Fin.trans {μ μ' : Emb} {w w' : World} {df : List Deferred} (he : Ext 0 μ μ' w w') {kn : T AV → Mem → Option Ω} {kx : Nat → T AV → Mem → Option Ω} {kr : T AV → Mem → Option Ω} {r : Ω} {e : Exit} {a'' : Act} {w'' : World}
    (h : Fin ρ N μ' w' df kn kx kr r e a'' w'') : Fin ρ N μ w df kn kx kr r e a'' w'' := by
  cases e <;> simp only [Fin] at h ⊢ <;> first | exact h.trans he | exact h

theorem noSel_ok {ops : Array Oper} (h : noSel ops.toList = true) (j : Nat) (o : Oper) (cs : Array SelectCase) (b : Bool) (ho : ops[j]? = some o) : o.op ≠ .select cs b := by
  intro e
  have := List.all_eq_true.1 h o (by rw [Array.mem_toList_iff]; exact Array.mem_of_getElem? ho)
  rw [e] at this; cases this

theorem ok_region (hmix : P.follows .mixedOrders = true) (hρ : Γ.has ρ) (hcal : CalOk P ρ cal) {id : Nat} {ops : Array Oper} {draw : Bool} {steps : ST} (hc : compRegion P N pls id ops draw = some steps) {μ : Emb} {M : Mem} {w : World} {tm : T AV} {a : Act}
    (hM : MR μ ρ M w) (hT : TR μ ρ tm a.tmps) (hN : a.tmps.size = N) {kn : T AV → Mem → Option Ω} {kx : Nat → T AV → Mem → Option Ω} {kr : T AV → Mem → Option Ω} {r : Ω} (hk : evST Γ cal steps Ω tm M kn = some r) :
    (Code.region id ops draw).wp P (Fin ρ N μ w a.defers kn kx kr r) a w := by
  cases draw with
  | false =>
    exact wp_region (ok_text hρ hcal hc hM hT hN hk fun a' w' h => h)
  | true =>
    simp only [compRegion] at hc
    split at hc
    case h_2 => cases hc
    rename_i pl hpl
    split at hc
    case h_2 => cases hc
    rename_i hb
    simp only [Bool.and_eq_true] at hb
    obtain ⟨h1, h2, h4⟩ := hb
    refine wp_region_any hmix ?_
    have hLM : LM ops (Array.replicate ops.size false) 0 := by
      refine ⟨by simp, fun j hj => ?_, fun j hj => ?_⟩
      · simp [hj, bit]
      · simp [bit] at hj
    refine wpAnyK.any (R := Rf pl.2.1) ((ok_tree hρ hcal (sameInfos_eq h1) (noSel_ok h2) (fun c a w h => h) (fun a w h => h) pl.2.2).1 hLM h4 hc (hM.drew (w.drawn + 1)) hT hN ?_ hk fun a' w' h => ?_)
    · intro i D _ hl
      rw [hLM.false] at hl; simp [bit] at hl
    · exact Come.trans (Ext.drew 0 μ w (w.drawn + 1)) h

theorem ok_code (hmix : P.follows .mixedOrders = true) (hρ : Γ.has ρ) (hcal : CalOk P ρ cal) : ∀ (c : Code) {cc : CC}, compCode P N pls c = some cc → ∀ {μ : Emb} {M : Mem} {w : World} {tm : T AV} {a : Act}, MR μ ρ M w → TR μ ρ tm a.tmps → a.tmps.size = N →
    ∀ {kn : T AV → Mem → Option Ω} {kx : Nat → T AV → Mem → Option Ω} {kr : T AV → Mem → Option Ω} {r : Ω}, evCode Γ cal cc tm M kn kx kr = some r → c.wp P (Fin ρ N μ w a.defers kn kx kr r) a w := by
  intro c
  induction c with
  | skip =>
    intro cc hc μ M w tm a hM hT hN kn kx kr r hk
    cases hc
    exact wp_skip ⟨tm, M, μ, hk, hT, hM, .refl _ _ _, hN, rfl⟩
  | label l =>
    intro cc hc μ M w tm a hM hT hN kn kx kr r hk
    cases hc
    exact wp_label ⟨tm, M, μ, hk, hT, hM, .refl _ _ _, hN, rfl⟩
  | region id ops draw =>
    intro cc hc μ M w tm a hM hT hN kn kx kr r hk
    simp only [compCode, Option.map_eq_some_iff] at hc
    obtain ⟨steps, hs, rfl⟩ := hc
    exact ok_region hmix hρ hcal hs hM hT hN hk
  | seq x y ihx ihy =>
    intro cc hc μ M w tm a hM hT hN kn kx kr r hk
    simp only [compCode] at hc
    split at hc
    case h_2 => cases hc
    rename_i x' y' hx hy
    cases hc
    refine wp_seq (wp_mono (ihx hx hM hT hN (kn := fun tm M => evCode Γ cal y' tm M kn kx kr) (kx := kx) (kr := kr) hk) fun e a' w' h => ?_)
    cases e with
    | normal =>
      obtain ⟨tm', M', μ', h1, h2, h3, h4, h5, h6⟩ := h
      exact wp_mono (ihy hy h3 h2 h5 h1) fun e a'' w'' h => by rw [h6] at h; exact h.trans h4
    | exit id => exact h
    | ret => exact h
    | _ => exact h
  | cond c x y ihx ihy =>
    intro cc hc μ M w tm a hM hT hN kn kx kr r hk
    simp only [compCode] at hc
    split at hc
    case h_2 => cases hc
    rename_i c' x' y' hcc hx hy
    cases hc
    change (opdK tm c' fun v => boolK v fun b => match b with | true => evCode Γ cal x' tm M kn kx kr | false => evCode Γ cal y' tm M kn kx kr) = some r at hk
    obtain ⟨v, h1, hv⟩ := opdK_ok hT hcc hk
    obtain ⟨b, h2, he⟩ := boolK_ok h1 hv
    refine wp_cond he ?_
    cases b with
    | true => exact ihx hx hM hT hN h2
    | false => exact ihy hy hM hT hN h2
  | block id x ih =>
    intro cc hc μ M w tm a hM hT hN kn kx kr r hk
    simp only [compCode, Option.map_eq_some_iff] at hc
    obtain ⟨x', hx, rfl⟩ := hc
    refine wp_block (wp_mono (ih hx hM hT hN (kn := kn) (kx := fun id' tm M => match Nat.beq id' id with | true => kn tm M | false => kx id' tm M) (kr := kr) hk) fun e a' w' h => ?_)
    cases e with
    | exit id' =>
      simp only [Exit.inBlock]
      obtain ⟨tm', M', μ', h1, h2⟩ := h
      split
      · rename_i e; subst e; simp only [Nat.beq_refl] at h1; exact ⟨tm', M', μ', h1, h2⟩
      · rename_i e
        have : Nat.beq id' id = false := by rw [← Bool.not_eq_true, Nat.beq_eq]; exact e
        simp only [this] at h1; exact ⟨tm', M', μ', h1, h2⟩
    | normal => exact h
    | ret => exact h
    | _ => exact h
  | loop x ih =>
    intro cc hc μ M w tm a hM hT hN kn kx kr r hk
    simp only [compCode, Option.map_eq_some_iff] at hc
    obtain ⟨x', hx, rfl⟩ := hc
    change loopK (fun tm M kn => evCode Γ cal x' tm M kn kx kr) 1000000 tm M = some r at hk
    have key : ∀ (n : Nat) {μ : Emb} {M : Mem} {w : World} {tm : T AV} {a : Act}, MR μ ρ M w → TR μ ρ tm a.tmps → a.tmps.size = N → loopK (fun tm M kn => evCode Γ cal x' tm M kn kx kr) n tm M = some r → LW P x (Fin ρ N μ w a.defers kn kx kr r) a w := by
      intro n
      induction n with
      | zero => intro μ M w tm a hM hT hN hk; cases hk
      | succ n ihn =>
        intro μ M w tm a hM hT hN hk
        refine LW.round (wp_mono (ih hx hM hT hN (kn := loopK (fun tm M kn => evCode Γ cal x' tm M kn kx kr) n) (kx := kx) (kr := kr) hk) fun e a' w' h => ?_)
        cases e with
        | normal =>
          obtain ⟨tm', M', μ', h1, h2, h3, h4, h5, h6⟩ := h
          intro b k cs
          obtain ⟨e, a2, w2, q, s⟩ := ihn h3 h2 h5 h1 b k cs
          exact ⟨e, a2, w2, by rw [h6] at q; exact q.trans h4, s⟩
        | exit id => exact h
        | ret => exact h
        | _ => exact h
    exact (key _ hM hT hN hk).wp
  | exit id =>
    intro cc hc μ M w tm a hM hT hN kn kx kr r hk
    cases hc
    exact wp_exit ⟨tm, M, μ, hk, hT, hM, .refl _ _ _, hN, rfl⟩
  | scope x ih =>
    intro cc hc μ M w tm a hM hT hN kn kx kr r hk
    simp only [compCode, Option.map_eq_some_iff] at hc
    obtain ⟨x', hx, rfl⟩ := hc
    refine wp_scope_straight (wp_mono (ih hx hM hT hN (kn := kn) (kx := kx) (kr := kr) hk) fun e a' w' h => ?_)
    cases e <;> exact h
  | ret =>
    intro cc hc μ M w tm a hM hT hN kn kx kr r hk
    cases hc
    exact wp_ret ⟨tm, M, μ, hk, hT, hM, .refl _ _ _, hN, rfl⟩
  | rangeFunc f ps x y _ _ => intro cc hc; cases hc
  | goto l => intro cc hc; cases hc
  | refuse s => intro cc hc; cases hc

end
end Go.Ev
