/- Generic part V: regions, in the order of the text and in drawn orders. -/
import Derived.Test.YtgkjbkkbjlhafaaGreatEvZa
namespace Go.Ev

/-! Steps, as a tree: at a fork every order of what is ready is tried; their ends are alike. -/

inductive ST where
  | done
  | step (ro : RO) (chk : List RO) (p : ST)
  | fork (sl : List Pos) (ro : RO) (chk : List RO) (p rest : ST)

def nameAV : AV → Option Pos
  | .leaf v => (match v with | .ptr b _ => some b | .slice b _ _ _ _ => some b | .map b => some b | _ => none)
  | _ => none

noncomputable def namesOf (tm : T AV) (l : List Pos) : List Pos := List.rec [] (fun p _ ih => match tm.get p with | some v => (match nameAV v with | some b => b :: ih | none => ih) | none => ih) l

/-- The names from one on, so many of them, but those of a list. -/
noncomputable def namesFrom (l : List Pos) (k : Nat) : Pos → List Pos := Nat.rec (fun _ => []) (fun _ ih p => match noP p l with | true => p :: ih p.succ | false => ih p.succ) k

noncomputable def renOf (n : Pos) (N : Pos) (a b : List Pos) : List (Pos × Pos) := List.zip (a ++ namesFrom a (Nat.sub N.toNat n.toNat) n) (b ++ namesFrom b (Nat.sub N.toNat n.toNat) n)

noncomputable def alike (sl : List Pos) (n : Pos) (e1 e2 : T AV × Mem) : Bool :=
  match alikeM n.toNat (renOf n e1.2.next (namesOf e1.1 sl) (namesOf e2.1 sl)) e1.2 e2.2 with
  | true => alikeT n.toNat (renOf n e1.2.next (namesOf e1.1 sl) (namesOf e2.1 sl)) e1.1 e2.1
  | false => false

noncomputable def evST (Γ : Box) (cal : Callee) (t : ST) : (Ω : Type) → T AV → Mem → (T AV → Mem → Option Ω) → Option Ω :=
  ST.rec (motive := fun _ => (Ω : Type) → T AV → Mem → (T AV → Mem → Option Ω) → Option Ω) (fun _ tm M k => k tm M)
    (fun ro chk _ ih Ω tm M k => evRO Γ cal ro tm M fun tm M => evChk Γ chk tm M (ih Ω tm M k))
    (fun sl ro chk _ _ ihp ihr Ω tm M k => match (evRO Γ cal ro tm M fun tm M => evChk Γ chk tm M (ihp (T AV × Mem) tm M fun tm M => some (tm, M))) with
      | some e1 => (match ihr (T AV × Mem) tm M fun tm M => some (tm, M) with
        | some e2 => (match alike sl M.next e1 e2 with | true => k e1.1 e1.2 | false => none)
        | none => none)
      | none => none) t

section
variable {Ω : Type} {P : Program} {Γ : Box} {cal : Callee} {ρ : Nat → Int} {N : Nat} {ops : Array Oper}

def compL (P : Program) (N : Nat) (ops : Array Oper) : List Nat → Option ST
  | [] => some .done
  | i :: l => match ops[i]? with
    | some o => (match compRO P N ops o, compL P N ops l with | some r, some rs => some (.step r [] rs) | _, _ => none)
    | none => none

theorem put_defers (a : Act) (d : Option Tmp) (x : Value) : (a.put d x).defers = a.defers := by cases d <;> rfl

theorem ok_text (hρ : Γ.has ρ) (hcal : CalOk P ρ cal) {Q : Exit → Act → World → Prop} : ∀ {l : List Nat} {steps : ST}, compL P N ops l = some steps → ∀ {μ : Emb} {M : Mem} {w : World} {tm : T AV} {a : Act}, MR μ ρ M w → TR μ ρ tm a.tmps → a.tmps.size = N →
    ∀ {k : T AV → Mem → Option Ω} {r : Ω}, evST Γ cal steps Ω tm M k = some r → (∀ a' w', Come ρ N μ w a.defers (fun tm' M' => k tm' M' = some r) a' w' → Q .normal a' w') → wpOps P ops Q l a w
  | [], steps, hc, μ, M, w, tm, a, hM, hT, hN, k, r, hk, hQ => by
    cases hc
    exact hQ _ _ ⟨tm, M, μ, hk, hT, hM, .refl _ _ _, hN, rfl⟩
  | i :: l, steps, hc, μ, M, w, tm, a, hM, hT, hN, k, r, hk, hQ => by
    simp only [compL] at hc
    split at hc
    case h_2 => cases hc
    rename_i o ho
    split at hc
    case h_2 => cases hc
    rename_i ro rs hro hrs
    cases hc
    change (evRO Γ cal ro tm M fun tm M => evST Γ cal rs Ω tm M k) = some r at hk
    have := ok_ro (Q := Q) (K := wpOps P ops Q l) hρ hcal hM hro hT hN hk fun a' w' h => by
      obtain ⟨tm', M', μ', x, h1, h2, h3, h4, h5, h6⟩ := h
      refine ok_text hρ hcal hrs h4 h3 h6 h1 fun a'' w'' h' => hQ _ _ ?_
      obtain ⟨tm'', M'', μ'', g1, g2, g3, g4, g5, g6⟩ := h'
      exact ⟨tm'', M'', μ'', g1, g2, g3, h5.trans g4 (Nat.le_refl 0), g5, by rw [g6, h2, put_defers]⟩
    simp only [wpOps, ho]
    split
    · rename_i hw; rw [if_pos hw] at this; exact .inl this
    · rename_i hw; rw [if_neg hw] at this; exact this

/-! Drawn orders. -/

structure Info where
  es : List Nat
  lk : List Nat
  dst : Option Nat

def infoOf (ops : Array Oper) (o : Oper) : Info :=
  ⟨o.after.toList.filterMap fun e => match Region.binds .any e with | true => some e.on | false => none, o.looksAt ops, o.dst⟩

def sameN : List Nat → List Nat → Bool
  | [], [] => true
  | a :: as, b :: bs => Nat.beq a b && sameN as bs
  | _, _ => false
theorem sameN_eq : ∀ {a b : List Nat}, sameN a b = true → a = b
  | [], [], _ => rfl
  | a :: as, b :: bs, h => by simp only [sameN, Bool.and_eq_true] at h; rw [Nat.eq_of_beq_eq_true h.1, sameN_eq h.2]
  | [], _ :: _, h => by cases h
  | _ :: _, [], h => by cases h

def sameInfo (a b : Info) : Bool := sameN a.es b.es && (sameN a.lk b.lk && (match a.dst with | none => (match b.dst with | none => true | some _ => false) | some x => (match b.dst with | some y => Nat.beq x y | none => false)))
theorem sameInfo_eq {a b : Info} (h : sameInfo a b = true) : a = b := by
  obtain ⟨a1, a2, a3⟩ := a; obtain ⟨b1, b2, b3⟩ := b
  simp only [sameInfo, Bool.and_eq_true] at h
  obtain ⟨h1, h2, h3⟩ := h
  obtain rfl := sameN_eq h1
  obtain rfl := sameN_eq h2
  cases a3 <;> cases b3 <;> first | rfl | (cases h3; done) | (rw [Nat.eq_of_beq_eq_true h3])

def sameInfos : List Info → List Info → Bool
  | [], [] => true
  | a :: as, b :: bs => sameInfo a b && sameInfos as bs
  | _, _ => false
theorem sameInfos_eq : ∀ {a b : List Info}, sameInfos a b = true → a = b
  | [], [], _ => rfl
  | a :: as, b :: bs, h => by simp only [sameInfos, Bool.and_eq_true] at h; rw [sameInfo_eq h.1, sameInfos_eq h.2]
  | [], _ :: _, h => by cases h
  | _ :: _, [], h => by cases h

/-- A step of a plan: the operation, its kind (0 any, alone where it stands; 1 pure; 2 looking), what comes after it. -/
structure PStep where
  i : Nat
  kind : Nat
  S : List Nat

def memN (x : Nat) (l : List Nat) : Bool := l.any fun y => Nat.beq x y
theorem memN_iff {x : Nat} {l : List Nat} : memN x l = true ↔ x ∈ l := by
  simp only [memN, List.any_eq_true, Nat.beq_eq]
  exact ⟨fun ⟨y, h, e⟩ => e ▸ h, fun h => ⟨x, h, rfl⟩⟩

def heavyB (plan : List PStep) (j : Nat) : Bool := plan.any fun s => Nat.beq s.i j && Nat.beq s.kind 0
def Rf (plan : List PStep) (i : Nat) : Option (List Nat) := match plan.find? fun s => Nat.beq s.i i && Nat.beq s.kind 2 with | some s => some (s.S.filter (heavyB plan)) | none => none

def apartI (x y : Info) : Bool :=
  (match x.dst with | some d => !memN d y.lk && (match y.dst with | some e => !Nat.beq d e | none => true) | none => true) && (match y.dst with | some d => !memN d x.lk | none => true)

theorem apartI_ok {x y : Oper} (h : apartI (infoOf ops x) (infoOf ops y) = true) : x.apart ops y = true := by
  unfold apartI infoOf at h
  unfold Oper.apart
  rw [Bool.and_eq_true] at h ⊢
  obtain ⟨h1, h2⟩ := h
  constructor
  · cases hx : x.dst with
    | none => rfl
    | some d =>
      rw [hx] at h1
      simp only [Bool.and_eq_true, Bool.not_eq_true', Bool.not_eq_true] at h1 ⊢
      obtain ⟨g1, g2⟩ := h1
      refine ⟨?_, ?_⟩
      · rw [← Bool.not_eq_true, List.contains_iff_mem]; intro hm
        rw [memN_iff.2 hm] at g1; cases g1
      · cases hy : y.dst with
        | none => rfl
        | some e =>
          rw [hy] at g2
          simp only [Bool.not_eq_true'] at g2
          have : d ≠ e := fun e' => by subst e'; simp at g2
          simp [bne, this.symm]
  · cases hy : y.dst with
    | none => rfl
    | some d =>
      rw [hy] at h2
      simp only [Bool.not_eq_true'] at h2 ⊢
      rw [← Bool.not_eq_true, List.contains_iff_mem]; intro hm
      rw [memN_iff.2 hm] at h2; cases h2

def sideI (x y : Info) : Bool := match x.dst with | some d => !memN d y.lk && (match y.dst with | some e => !Nat.beq d e | none => true) | none => false

theorem sideI_ok {x y : Oper} (h : sideI (infoOf ops x) (infoOf ops y) = true) {d : Nat} (hd : x.dst = some d) : d ∉ y.looksAt ops ∧ y.dst ≠ some d := by
  unfold sideI infoOf at h
  simp only [hd, Bool.and_eq_true, Bool.not_eq_true'] at h
  obtain ⟨g1, g2⟩ := h
  refine ⟨fun hm => (by rw [memN_iff.2 hm] at g1; cases g1), fun e => ?_⟩
  rw [e] at g2
  simp at g2

def chkAll (f : Nat → Info → Bool) : Nat → List Info → Bool
  | _, [] => true
  | j, x :: xs => f j x && chkAll f (j + 1) xs
theorem chkAll_ok {f : Nat → Info → Bool} : ∀ {l : List Info} {b : Nat}, chkAll f b l = true → ∀ {j : Nat} {x : Info}, l[j]? = some x → f (b + j) x = true
  | [], _, _, j, x, hx => by simp at hx
  | y :: l, b, h, j, x, hx => by
    simp only [chkAll, Bool.and_eq_true] at h
    cases j with
    | zero => simp at hx; subst hx; exact h.1
    | succ j => simp at hx; have := chkAll_ok h.2 hx; rw [show b + (j + 1) = b + 1 + j by omega]; exact this

def bit (m j : Nat) : Bool := Nat.testBit m j

def chkLight (I : List Info) (plan : List PStep) (m i : Nat) (inf : Info) (S : List Nat) : Bool :=
  !heavyB plan i && ((match Rf plan i with | some D => D.all fun j => memN j S | none => true) && ((match inf.dst with | some d => !memN d inf.lk | none => false) &&
  (S.all (fun j => !bit m j && (match I[j]? with | some x => x.es.any fun e => Nat.beq e i || memN e S | none => false)) &&
  chkAll (fun j x => Nat.beq j i || (match bit m j with | true => sideI inf x || !(Rf plan j).isSome | false => memN j S || apartI inf x)) 0 I)))

/-- A plan, as a tree. -/
inductive PT where
  | done
  | node (s : PStep) (p : PT)
  | fork (s : PStep) (sl : List Nat) (p rest : PT)

def PT.heads : PT → List Nat
  | .done => []
  | .node s _ => [s.i]
  | .fork s _ _ r => s.i :: r.heads

def chkReady (I : List Info) (m i : Nat) : Bool := match I[i]? with | some inf => !bit m i && inf.es.all (bit m) | none => false
def chkHeavy (I : List Info) (m : Nat) (hs : List Nat) : Bool := chkAll (fun j x => bit m j || (memN j hs || x.es.any fun e => !bit m e)) 0 I

/-- alt: as one of several. -/
def chkT (I : List Info) (plan : List PStep) : PT → Bool → Nat → Nat → Bool
  | .done, alt, m, _ => (match alt with | true => false | false => chkAll (fun j _ => bit m j) 0 I)
  | .node s p, alt, m, c => chkReady I m s.i && ((match s.kind with
      | 0 => (match alt with | true => true | false => chkHeavy I m [s.i])
      | 1 => (match alt with | true => false | false => (match I[s.i]? with | some inf => chkLight I plan m s.i inf s.S | none => false))
      | 2 => (match alt with | true => false | false => (match I[s.i]? with | some inf => chkLight I plan m s.i inf s.S && (Rf plan s.i).isSome | none => false))
      | _ => false) && (match c with | 0 => false | c + 1 => chkT I plan p false (m ||| 2 ^ s.i) c))
  | .fork s _ p r, alt, m, c => chkReady I m s.i && ((match s.kind with | 0 => true | _ => false) && ((match alt with | true => true | false => chkHeavy I m (s.i :: r.heads)) && ((match c with | 0 => false | c + 1 => chkT I plan p false (m ||| 2 ^ s.i) c) && chkT I plan r true m c)))

/-- Which of the looking operations are looked at again, m being done. -/
def again (plan : List PStep) (m : Nat) : List Nat :=
  plan.filterMap fun s => match Nat.beq s.kind 2 && (bit m s.i && (match Rf plan s.i with | some D => D.all fun j => !bit m j | none => false)) with | true => some s.i | false => none

def compIs (P : Program) (N : Nat) (ops : Array Oper) : List Nat → Option (List RO)
  | [] => some []
  | i :: l => match ops[i]? with
    | some o => (match compRO P N ops o, compIs P N ops l with | some r, some rs => some (r :: rs) | _, _ => none)
    | none => none

def pureRA : RA → Bool
  | .op co => co.pure
  | _ => false
def looksRA : RA → Bool
  | .op co => co.looks
  | _ => false

def sposs : List Nat → List Pos
  | [] => []
  | i :: l => match spos i with | some p => p :: sposs l | none => sposs l

def compT (P : Program) (N : Nat) (ops : Array Oper) (plan : List PStep) : PT → Nat → Option ST
  | .done, _ => some .done
  | .node s p, m => match ops[s.i]? with
    | some o => (match compRO P N ops o, compT P N ops plan p (m ||| 2 ^ s.i) with
      | some r, some rs => (match s.kind with
        | 0 => (compIs P N ops (again plan (m ||| 2 ^ s.i))).map fun c => .step r c rs
        | 1 => (match pureRA r.act with | true => some (.step r [] rs) | false => none)
        | _ => (match looksRA r.act with | true => some (.step r [] rs) | false => none))
      | _, _ => none)
    | none => none
  | .fork s sl p q, m => match ops[s.i]? with
    | some o => (match compRO P N ops o, compT P N ops plan p (m ||| 2 ^ s.i), compIs P N ops (again plan (m ||| 2 ^ s.i)), compT P N ops plan q m with
      | some r, some rs, some c, some qs => some (.fork (sposs sl) r c rs qs)
      | _, _, _, _ => none)
    | none => none

theorem bit_or {m i j : Nat} : bit (m ||| 2 ^ i) j = (bit m j || decide (i = j)) := by
  unfold bit; rw [Nat.testBit_or, Nat.testBit_two_pow]

/-- The array of what is done, the mask of it. -/
structure LM (ops : Array Oper) (listed : Array Bool) (m : Nat) : Prop where
  size : listed.size = ops.size
  is : ∀ j, j < ops.size → listed.getD j true = bit m j
  lt : ∀ j, bit m j = true → j < ops.size

theorem LM.set {listed : Array Bool} {m i : Nat} (h : LM ops listed m) (hi : i < ops.size) : LM ops (listed.setIfInBounds i true) (m ||| 2 ^ i) := by
  refine ⟨by simp [h.size], fun j hj => ?_, fun j hj => ?_⟩
  · rw [bit_or]
    by_cases e : i = j
    · subst e; simp [h.size, hi]
    · rw [getD_set_ne true e, h.is j hj]; simp [e]
  · rw [bit_or] at hj
    rcases Bool.or_eq_true_iff.1 hj with h1 | h1
    · exact h.lt j h1
    · have : i = j := by simpa using h1
      omega

theorem LM.false {listed : Array Bool} {m j : Nat} (h : LM ops listed m) : listed.getD j false = true ↔ bit m j = true := by
  rcases Nat.lt_or_ge j ops.size with hj | hj
  · have := h.is j hj
    have hl : j < listed.size := by rw [h.size]; exact hj
    simp only [Array.getD_eq_getD_getElem?, Array.getElem?_eq_getElem hl, Option.getD_some] at this ⊢
    rw [this]
  · constructor
    · intro h1; simp [Array.getElem?_eq_none (show listed.size ≤ j by rw [h.size]; exact hj)] at h1
    · intro h1; have := h.lt j h1; omega

theorem LM.true {listed : Array Bool} {m j : Nat} (h : LM ops listed m) (hj : j < ops.size) : listed.getD j true = bit m j := h.is j hj

theorem infos_get {I : List Info} (hI : ops.toList.map (infoOf ops) = I) {j : Nat} {o : Oper} (ho : ops[j]? = some o) : I[j]? = some (infoOf ops o) := by
  rw [← hI, List.getElem?_map, Array.getElem?_toList, ho]; rfl

theorem mem_es {o : Oper} {e : Edge} (he : e ∈ o.after) (hb : Region.binds .any e = true) : e.on ∈ (infoOf ops o).es := by
  unfold infoOf
  rw [List.mem_filterMap]
  exact ⟨e, by simpa using he, by rw [hb]⟩

theorem of_es {o : Oper} {x : Nat} (h : x ∈ (infoOf ops o).es) : ∃ e ∈ o.after, Region.binds .any e = true ∧ e.on = x := by
  unfold infoOf at h
  rw [List.mem_filterMap] at h
  obtain ⟨e, h1, h2⟩ := h
  refine ⟨e, by simpa using h1, ?_⟩
  split at h2
  · rename_i hb; cases h2; exact ⟨hb, rfl⟩
  · cases h2

end
end Go.Ev
