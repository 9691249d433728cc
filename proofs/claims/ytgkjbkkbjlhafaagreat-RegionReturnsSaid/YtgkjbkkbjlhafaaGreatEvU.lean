/- Generic part U: when two values, told of in the evaluator's way, are one; steps of a region and what is looked at again behind each; regions in the order of the text. -/
import Derived.Test.YtgkjbkkbjlhafaaGreatEvT
namespace Go.Ev

/-! Values that are told of wholly. -/

def sameTs : List (Nat × Int) → List (Nat × Int) → Bool
  | [], [] => true
  | a :: as, b :: bs => Nat.beq a.1 b.1 && (eqF a.2 b.2 && sameTs as bs)
  | _, _ => false

theorem sameTs_eq : ∀ {a b : List (Nat × Int)}, sameTs a b = true → a = b
  | [], [], _ => rfl
  | (i, m) :: as, (j, n) :: bs, h => by
    simp only [sameTs, Bool.and_eq_true, eqF_eq, decide_eq_true_iff] at h
    obtain ⟨h1, h2, h3⟩ := h
    rw [Nat.eq_of_beq_eq_true h1, h2, sameTs_eq h3]
  | [], _ :: _, h => by cases h
  | _ :: _, [], h => by cases h

def sameSI : SI → SI → Bool
  | .lit m, .lit n => eqF m n
  | .lin c ts, .lin d us => eqF c d && sameTs ts us
  | _, _ => false

theorem sameSI_ok {ρ : Nat → Int} {a b : SI} (h : sameSI a b = true) {m n : Int} (ha : a.is ρ m) (hb : b.is ρ n) : m = n := by
  cases a <;> cases b <;> simp only [sameSI, Bool.and_eq_true, eqF_eq, decide_eq_true_iff] at h <;> try (cases h; done)
  · cases ha; cases hb; exact h
  · obtain ⟨rfl, h2⟩ := h
    obtain rfl := sameTs_eq h2
    simp only [SI.is] at ha hb; rw [ha, hb]

def sameBs : List SI → List SI → Bool
  | [], [] => true
  | a :: as, b :: bs => sameSI a b && sameBs as bs
  | _, _ => false

theorem sameBs_ok {ρ : Nat → Int} : ∀ {a b : List SI}, sameBs a b = true → ∀ {s r : List UInt8}, All2 (fun (b : SI) (u : UInt8) => b.is ρ u.toNat) a s → All2 (fun (b : SI) (u : UInt8) => b.is ρ u.toNat) b r → s = r
  | [], [], _, _, _, .nil, .nil => rfl
  | a :: as, b :: bs, h, _, _, .cons h1 h2, .cons h3 h4 => by
    simp only [sameBs, Bool.and_eq_true] at h
    have e := sameSI_ok h.1 h1 h3
    rw [UInt8.toNat_inj.1 (Int.ofNat.inj e), sameBs_ok h.2 h2 h4]
  | [], _ :: _, h, _, _, _, _ => by cases h
  | _ :: _, [], h, _, _, _, _ => by cases h

def sameCaps : List (Pos × Nat) → List (Pos × Nat) → Bool
  | [], [] => true
  | a :: as, b :: bs => Pos.same a.1 b.1 && (Nat.beq a.2 b.2 && sameCaps as bs)
  | _, _ => false

theorem capIs_fun {μ : Emb} {c : Pos × Nat} {v u : Value} (h : capIs μ c v) (h' : capIs μ c u) : v = u := by
  obtain ⟨m, h1, rfl⟩ := h
  obtain ⟨m', h2, rfl⟩ := h'
  rw [h1] at h2; cases h2; rfl

theorem sameCaps_ok {μ : Emb} : ∀ {a b : List (Pos × Nat)}, sameCaps a b = true → ∀ {s r : List Value}, All2 (capIs μ) a s → All2 (capIs μ) b r → s = r
  | [], [], _, _, _, .nil, .nil => rfl
  | (p, i) :: as, (q, j) :: bs, h, _, _, .cons h1 h2, .cons h3 h4 => by
    simp only [sameCaps, Bool.and_eq_true] at h
    obtain ⟨e1, e2, e3⟩ := h
    obtain rfl := Pos.same_iff.1 e1
    obtain rfl := Nat.eq_of_beq_eq_true e2
    rw [capIs_fun h1 h3, sameCaps_ok e3 h2 h4]
  | [], _ :: _, h, _, _, _, _ => by cases h
  | _ :: _, [], h, _, _, _, _ => by cases h

def sameLV : LV → LV → Bool
  | .bool b, .bool c => (match b, c with | true, true => true | false, false => true | _, _ => false)
  | .int j a, .int k b => kindEq j k && sameSI a b
  | .str a, .str b => sameBs a b
  | .ptr p i, .ptr q j => Pos.same p q && Nat.beq i j
  | .nilptr, .nilptr => true
  | .slice p i l e c, .slice q j m f d => (match c, d with
    | some c, some d => Pos.same p q && (Nat.beq i j && (Nat.beq l m && (Nat.beq c d && !Nat.beq c 0)))
    | none, none => Pos.same p q && (Nat.beq i j && (Nat.beq l m && (Nat.beq e f && (!Nat.beq l 0 && !Nat.beq e 0))))
    | _, _ => false)
  | .nilslice, .nilslice => true
  | .map p, .map q => Pos.same p q
  | .nilmap, .nilmap => true
  | .func f c, .func g d => Nat.beq f g && sameCaps c d
  | .nilfunc, .nilfunc => true
  | .niliface, .niliface => true
  | .iface t x, .iface u y => Nat.beq t u && sameLV x y
  | _, _ => false

theorem sameLV_ok {μ : Emb} {ρ : Nat → Int} : ∀ {a b : LV}, sameLV a b = true → ∀ {x y : Value}, a.rel μ ρ x → b.rel μ ρ y → x = y := by
  intro a
  induction a with
  | bool b => intro b' h x y ha hb; cases b' <;> simp only [sameLV] at h <;> try (cases h; done)
              rename_i c; cases ha; cases hb; cases b <;> cases c <;> first | rfl | cases h
  | int j a =>
    intro b' h x y ha hb; cases b' <;> simp only [sameLV, Bool.and_eq_true] at h <;> try (cases h; done)
    obtain ⟨m, h1, _, rfl⟩ := ha; obtain ⟨n, h2, _, rfl⟩ := hb
    rw [kindEq_eq h.1, sameSI_ok h.2 h1 h2]
  | str a =>
    intro b' h x y ha hb; cases b' <;> simp only [sameLV] at h <;> try (cases h; done)
    obtain ⟨s, h1, rfl⟩ := ha; obtain ⟨r, h2, rfl⟩ := hb
    have := sameBs_ok h h1 h2
    have e : s = r := by
      cases s with | mk s => cases r with | mk r => simp only at this; rw [Array.toList_inj.1 this]
    rw [e]
  | ptr p i =>
    intro b' h x y ha hb; cases b' <;> simp only [sameLV, Bool.and_eq_true] at h <;> try (cases h; done)
    obtain ⟨m, h1, rfl⟩ := ha; obtain ⟨n, h2, rfl⟩ := hb
    obtain rfl := Pos.same_iff.1 h.1
    obtain rfl := Nat.eq_of_beq_eq_true h.2
    rw [h1] at h2; cases h2; rfl
  | slice p i l e c =>
    intro b' h x y ha hb
    cases b' <;> simp only [sameLV] at h <;> try (cases h; done)
    rename_i q j m f d
    split at h
    case h_3 => cases h
    case h_2 =>
      simp only [Bool.and_eq_true] at h
      obtain ⟨e1, e2, e3, e4, e5, e6⟩ := h
      obtain rfl := Pos.same_iff.1 e1
      obtain rfl := Nat.eq_of_beq_eq_true e2
      obtain rfl := Nat.eq_of_beq_eq_true e3
      obtain rfl := Nat.eq_of_beq_eq_true e4
      have hl : l ≠ 0 := fun e => by subst e; simp at e5
      have he : e ≠ 0 := fun e => by subst e; simp at e6
      obtain ⟨m1, a1, c1, g1, ⟨_, g2⟩, g3, g4, g5, rfl⟩ := ha
      obtain ⟨m2, a2, c2, k1, ⟨_, k2⟩, k3, k4, k5, rfl⟩ := hb
      rw [g1] at k1; cases k1
      have h1 := g2 rfl; have h2 := k2 rfl
      have h3 : c1 * e = c2 * e := by omega
      have h4 : c1 = c2 := Nat.eq_of_mul_eq_mul_right (by omega) h3
      subst h4
      rw [g5 (by omega), k5 (by omega)]
    rename_i c d
    simp only [Bool.and_eq_true] at h
    obtain ⟨e1, e2, e3, e4, e5⟩ := h
    obtain rfl := Pos.same_iff.1 e1
    obtain rfl := Nat.eq_of_beq_eq_true e2
    obtain rfl := Nat.eq_of_beq_eq_true e3
    obtain rfl := Nat.eq_of_beq_eq_true e4
    have hc : c ≠ 0 := fun e => by subst e; simp at e5
    obtain ⟨m1, a1, c1, g1, _, _, g4, g5, rfl⟩ := ha
    obtain ⟨m2, a2, c2, k1, _, _, k4, k5, rfl⟩ := hb
    have w1 := g4 c rfl; have w2 := k4 c rfl
    subst w1; subst w2
    rw [g1] at k1; cases k1
    rw [g5 hc, k5 hc]
  | map p =>
    intro b' h x y ha hb; cases b' <;> simp only [sameLV] at h <;> try (cases h; done)
    obtain ⟨m, h1, rfl⟩ := ha; obtain ⟨n, h2, rfl⟩ := hb
    obtain rfl := Pos.same_iff.1 h
    rw [h1] at h2; cases h2; rfl
  | func f c =>
    intro b' h x y ha hb; cases b' <;> simp only [sameLV, Bool.and_eq_true] at h <;> try (cases h; done)
    obtain ⟨m, h1, rfl⟩ := ha; obtain ⟨n, h2, rfl⟩ := hb
    obtain rfl := Nat.eq_of_beq_eq_true h.1
    rw [sameCaps_ok h.2 h1 h2]
  | fvar f b => intro b' h x y ha hb; cases b' <;> cases h
  | iface t z ih =>
    intro b' h x y ha hb; cases b' <;> simp only [sameLV, Bool.and_eq_true] at h <;> try (cases h; done)
    obtain ⟨m, h1, rfl⟩ := ha; obtain ⟨n, h2, rfl⟩ := hb
    obtain rfl := Nat.eq_of_beq_eq_true h.1
    rw [ih h.2 h1 h2]
  | _ => intro b' h x y ha hb; cases b' <;> first | (cases h; done) | (cases ha; cases hb; rfl)

def sameLVs : List LV → List LV → Bool
  | [], [] => true
  | a :: as, b :: bs => sameLV a b && sameLVs as bs
  | _, _ => false

theorem sameLVs_ok {μ : Emb} {ρ : Nat → Int} : ∀ {a b : List LV}, sameLVs a b = true → ∀ {s r : List Value}, All2 (LV.rel μ ρ) a s → All2 (LV.rel μ ρ) b r → s = r
  | [], [], _, _, _, .nil, .nil => rfl
  | a :: as, b :: bs, h, _, _, .cons h1 h2, .cons h3 h4 => by
    simp only [sameLVs, Bool.and_eq_true] at h
    rw [sameLV_ok h.1 h1 h3, sameLVs_ok h.2 h2 h4]
  | [], _ :: _, h, _, _, _, _ => by cases h
  | _ :: _, [], h, _, _, _, _ => by cases h

def sameV1 : V1 → V1 → Bool
  | .leaf a, .leaf b => sameLV a b
  | .agg a, .agg b => sameLVs a b
  | _, _ => false

def sameV1s : List V1 → List V1 → Bool
  | [], [] => true
  | a :: as, b :: bs => sameV1 a b && sameV1s as bs
  | _, _ => false

theorem sameV1_ok {μ : Emb} {ρ : Nat → Int} {a b : V1} (h : sameV1 a b = true) {x y : Value} (ha : a.rel μ ρ x) (hb : b.rel μ ρ y) : x = y := by
  cases a <;> cases b <;> simp only [sameV1] at h <;> try (cases h; done)
  · exact sameLV_ok h ha hb
  · obtain ⟨xs, h1, rfl⟩ := ha; obtain ⟨ys, h2, rfl⟩ := hb
    rw [sameLVs_ok h h1 h2]

theorem sameV1s_ok {μ : Emb} {ρ : Nat → Int} : ∀ {a b : List V1}, sameV1s a b = true → ∀ {s r : List Value}, All2 (V1.rel μ ρ) a s → All2 (V1.rel μ ρ) b r → s = r
  | [], [], _, _, _, .nil, .nil => rfl
  | a :: as, b :: bs, h, _, _, .cons h1 h2, .cons h3 h4 => by
    simp only [sameV1s, Bool.and_eq_true] at h
    rw [sameV1_ok h.1 h1 h3, sameV1s_ok h.2 h2 h4]
  | [], _ :: _, h, _, _, _, _ => by cases h
  | _ :: _, [], h, _, _, _, _ => by cases h

def sameAV : AV → AV → Bool
  | .leaf a, .leaf b => sameLV a b
  | .agg a, .agg b => sameLVs a b
  | .tup a, .tup b => sameV1s a b
  | _, _ => false

theorem sameAV_ok {μ : Emb} {ρ : Nat → Int} {a b : AV} (h : sameAV a b = true) {x y : Value} (ha : a.rel μ ρ x) (hb : b.rel μ ρ y) : x = y := by
  cases a <;> cases b <;> simp only [sameAV] at h <;> try (cases h; done)
  · exact sameLV_ok h ha hb
  · obtain ⟨xs, h1, rfl⟩ := ha; obtain ⟨ys, h2, rfl⟩ := hb
    rw [sameLVs_ok h h1 h2]
  · obtain ⟨xs, h1, rfl⟩ := ha; obtain ⟨ys, h2, rfl⟩ := hb
    rw [sameV1s_ok h h1 h2]

/-! Steps. -/

section
variable {Ω : Type}

/-- What a looking operation sees now. -/
noncomputable def seeK (Γ : Box) (ro : RO) (tm : T AV) (M : Mem) (k : AV → Option Ω) : Option Ω :=
  wantK ro.guard tm fun b => match b with
    | true => (match ro.act with | .op co => (match co.looks with | true => evOp Γ co tm M fun v _ => (match v with | some v => k v | none => none) | false => none) | _ => none)
    | false => k (.tup [])

noncomputable def chk1 (Γ : Box) (ro : RO) (tm : T AV) (M : Mem) (z : Option Ω) : Option Ω :=
  match ro.dst with
  | some p => (match tm.get p with | some u => seeK Γ ro tm M fun v => (match sameAV u v with | true => z | false => none) | none => none)
  | none => none

noncomputable def evChk (Γ : Box) (l : List RO) : T AV → Mem → Option Ω → Option Ω :=
  List.rec (motive := fun _ => T AV → Mem → Option Ω → Option Ω) (fun _ _ z => z) (fun c _ ih tm M z => chk1 Γ c tm M (ih tm M z)) l

end

section
variable {Ω : Type} {P : Program} {Γ : Box} {cal : Callee} {ρ : Nat → Int} {N : Nat} {ops : Array Oper}

theorem evChk_ok {μ : Emb} {M : Mem} {w : World} (hρ : Γ.has ρ) (hM : MR μ ρ M w) {tm : T AV} {a : Act} (hT : TR μ ρ tm a.tmps) : ∀ {l : List RO} {z : Option Ω} {r : Ω}, (∀ ro ∈ l, ∃ o, compRO P N ops o = some ro) → evChk Γ l tm M z = some r →
    z = some r ∧ ∀ o ro, ro ∈ l → compRO P N ops o = some ro → ∃ d v, o.dst = some d ∧ a.tmps[d]? = some v ∧ Look P ops o v a w
  | [], _, _, _, h => ⟨h, fun _ _ h => by cases h⟩
  | c :: l, z, r, hall, h => by
    change chk1 Γ c tm M (evChk Γ l tm M z) = some r at h
    unfold chk1 at h
    split at h
    case h_2 => cases h
    rename_i p hp
    split at h
    case h_2 => cases h
    rename_i u hu
    have rest : ∀ {v : AV}, (match sameAV u v with | true => evChk Γ l tm M z | false => none) = some r → sameAV u v = true ∧ evChk Γ l tm M z = some r := by
      intro v hh; split at hh
      · rename_i hs; exact ⟨hs, hh⟩
      · cases hh
    unfold seeK at h
    obtain ⟨i, x, h1, h2, h3⟩ := hT p u hu
    -- what it comes to where the compiled form is an operation's
    have key : ∀ o, compRO P N ops o = some c → evChk Γ l tm M z = some r ∧ ∃ d v, o.dst = some d ∧ a.tmps[d]? = some v ∧ Look P ops o v a w := by
      intro o ho
      unfold compRO at ho
      split at ho
      case h_2 => cases ho
      rename_i d g ra hd hg ha
      cases ho
      simp only at hp
      subst hp
      have hdst : o.dst = some i := by
        cases hod : o.dst with
        | none => rw [hod] at hd; cases hd
        | some d =>
          rw [hod] at hd
          simp only [cdst] at hd
          split at hd
          · simp only [Option.map_eq_some_iff, Option.some.injEq, exists_eq_right] at hd
            have := spos_ok hd
            have : d = i := by have h1 : p.toNat = i + 1 := h1; exact Nat.succ.inj (this.symm.trans h1)
            rw [this]
          · cases hd
      replace h := cguard_ok hg hT h
      cases hw : Region.wanted o (yielded ops a.tmps) with
      | true =>
        rw [hw] at h
        simp only at h
        cases ra <;> try (cases h; done)
        rename_i co
        dsimp only at h
        split at h
        case h_2 => cases h
        rename_i hl
        have hco : compOp P o.op = some co := by
          unfold cact at ha
          split at ha
          · rename_i cc hoc
            split at ha
            · simp only [Option.map_eq_some_iff] at ha; obtain ⟨_, _, e⟩ := ha; cases e
            · split at ha <;> cases ha
            · simp only [Option.map_eq_some_iff] at ha; obtain ⟨_, h1, e⟩ := ha; cases e; rw [hoc]; exact h1
            · cases ha
          · simp only [Option.map_eq_some_iff] at ha; obtain ⟨_, h1, e⟩ := ha; cases e; exact h1
        obtain ⟨v, g1, y, g2, g3⟩ := se_op hρ hM hT hco hl h
        simp only at g1
        obtain ⟨hs, hz⟩ := rest g1
        have : x = y := sameAV_ok hs h3 g3
        subst this
        exact ⟨hz, i, x, hdst, h2, .inl ⟨hw, g2⟩⟩
      | false =>
        rw [hw] at h
        simp only at h
        obtain ⟨hs, hz⟩ := rest h
        have : x = undef := sameAV_ok hs h3 undef_rel
        subst this
        exact ⟨hz, i, undef, hdst, h2, .inr ⟨hw, rfl⟩⟩
    obtain ⟨o0, ho0⟩ := hall c (.head _)
    obtain ⟨hz, _⟩ := key o0 ho0
    obtain ⟨hz', hrest⟩ := evChk_ok hρ hM hT (fun ro hm => hall ro (.tail _ hm)) hz
    exact ⟨hz', fun o ro hm ho => by
      cases hm with
      | head => exact (key o ho).2
      | tail _ hm => exact hrest o ro hm ho⟩

end
end Go.Ev
