/- Generic part A of a reflected evaluator for Go code of the model: positions, tries, forcing words, symbolic integers, abstract values and memory. No program is named here. -/
import Derived.Calls
namespace Go.Ev

/-- Where a slot or a block lies in a trie. -/
inductive Pos where
  | xH | xO (p : Pos) | xI (p : Pos)
  deriving DecidableEq

def Pos.toNat : Pos → Nat
  | .xH => 1
  | .xO p => 2 * p.toNat
  | .xI p => 2 * p.toNat + 1

noncomputable def Pos.succ (p : Pos) : Pos :=
  Pos.rec (motive := fun _ => Pos) (.xO .xH) (fun p _ => .xI p) (fun _ ih => .xO ih) p

/-- The successor, made whole before it is handed on. -/
noncomputable def Pos.succK {R : Type} (p : Pos) : (Pos → R) → R :=
  Pos.rec (motive := fun _ => (Pos → R) → R) (fun k => k (.xO .xH)) (fun p _ k => k (.xI p)) (fun _ ih k => ih fun q => k (.xO q)) p

theorem Pos.succK_eq {R : Type} (p : Pos) (k : Pos → R) : p.succK k = k p.succ := by
  induction p generalizing k with
  | xH => rfl
  | xO p ih => rfl
  | xI p ih => exact ih fun q => k (.xO q)

theorem Pos.toNat_succ (p : Pos) : p.succ.toNat = p.toNat + 1 := by
  induction p with
  | xH => rfl
  | xO p ih => rfl
  | xI p ih =>
    show 2 * p.succ.toNat = 2 * p.toNat + 1 + 1
    omega

theorem Pos.toNat_pos (p : Pos) : 0 < p.toNat := by
  induction p <;> simp only [Pos.toNat] <;> omega

theorem Pos.toNat_inj {p q : Pos} (h : p.toNat = q.toNat) : p = q := by
  induction p generalizing q with
  | xH => cases q with
    | xH => rfl
    | xO q => have := q.toNat_pos; simp only [Pos.toNat] at h; omega
    | xI q => have := q.toNat_pos; simp only [Pos.toNat] at h; omega
  | xO p ih => cases q with
    | xH => have := p.toNat_pos; simp only [Pos.toNat] at h; omega
    | xO q => rw [ih (q := q) (by simp only [Pos.toNat] at h; omega)]
    | xI q => simp only [Pos.toNat] at h; omega
  | xI p ih => cases q with
    | xH => have := p.toNat_pos; simp only [Pos.toNat] at h; omega
    | xO q => simp only [Pos.toNat] at h; omega
    | xI q => rw [ih (q := q) (by simp only [Pos.toNat] at h; omega)]

/-- Equality of positions, by their numbers. -/
def Pos.same (p q : Pos) : Bool := Nat.beq p.toNat q.toNat

theorem Pos.same_iff {p q : Pos} : p.same q = true ↔ p = q := by
  unfold Pos.same
  rw [Nat.beq_eq]
  exact ⟨Pos.toNat_inj, fun h => h ▸ rfl⟩

/-- A trie. -/
inductive T (α : Type) where
  | leaf | node (l : T α) (v : Option α) (r : T α)

section
variable {α R : Type}

noncomputable def T.get (p : Pos) : T α → Option α :=
  Pos.rec (motive := fun _ => T α → Option α)
    (fun t => T.casesOn (motive := fun _ => Option α) t none fun _ v _ => v)
    (fun _ ih t => T.casesOn (motive := fun _ => Option α) t none fun l _ _ => ih l)
    (fun _ ih t => T.casesOn (motive := fun _ => Option α) t none fun _ _ r => ih r) p

noncomputable def T.putK (p : Pos) : Option α → T α → (T α → R) → R :=
  Pos.rec (motive := fun _ => Option α → T α → (T α → R) → R)
    (fun x t k => T.casesOn (motive := fun _ => R) t (k (.node .leaf x .leaf)) fun l _ r => k (.node l x r))
    (fun _ ih x t k => T.casesOn (motive := fun _ => R) t (ih x .leaf fun l => k (.node l none .leaf)) fun l v r => ih x l fun l => k (.node l v r))
    (fun _ ih x t k => T.casesOn (motive := fun _ => R) t (ih x .leaf fun r => k (.node .leaf none r)) fun l v r => ih x r fun r => k (.node l v r)) p

noncomputable def T.put (p : Pos) (x : Option α) (t : T α) : T α := T.putK p x t fun t => t

theorem T.putK_eq (p : Pos) (x : Option α) (t : T α) (k : T α → R) : T.putK p x t k = k (T.put p x t) := by
  induction p generalizing t k R with
  | xH => cases t <;> rfl
  | xO p ih =>
    cases t with
    | leaf =>
      show T.putK p x .leaf (fun l => k (.node l none .leaf)) = k (T.putK p x .leaf fun l => .node l none .leaf)
      rw [ih, ih (R := T α)]
    | node l v r =>
      show T.putK p x l (fun l => k (.node l v r)) = k (T.putK p x l fun l => .node l v r)
      rw [ih, ih (R := T α)]
  | xI p ih =>
    cases t with
    | leaf =>
      show T.putK p x .leaf (fun r => k (.node .leaf none r)) = k (T.putK p x .leaf fun r => .node .leaf none r)
      rw [ih, ih (R := T α)]
    | node l v r =>
      show T.putK p x r (fun r => k (.node l v r)) = k (T.putK p x r fun r => .node l v r)
      rw [ih, ih (R := T α)]

theorem T.get_leaf (p : Pos) : T.get p (.leaf : T α) = none := by cases p <;> rfl

theorem T.get_put_same (p : Pos) (x : Option α) (t : T α) : T.get p (T.put p x t) = x := by
  induction p generalizing t with
  | xH => cases t <;> rfl
  | xO p ih =>
    cases t with
    | leaf =>
      have h : T.put (.xO p) x (.leaf : T α) = .node (T.put p x .leaf) none .leaf := T.putK_eq p x .leaf _
      rw [h]; exact ih _
    | node l v r =>
      have h : T.put (.xO p) x (.node l v r) = .node (T.put p x l) v r := T.putK_eq p x l _
      rw [h]; exact ih _
  | xI p ih =>
    cases t with
    | leaf =>
      have h : T.put (.xI p) x (.leaf : T α) = .node .leaf none (T.put p x .leaf) := T.putK_eq p x .leaf _
      rw [h]; exact ih _
    | node l v r =>
      have h : T.put (.xI p) x (.node l v r) = .node l v (T.put p x r) := T.putK_eq p x r _
      rw [h]; exact ih _

theorem T.get_put_other (p q : Pos) (x : Option α) (t : T α) (hne : q ≠ p) : T.get q (T.put p x t) = T.get q t := by
  induction p generalizing q t with
  | xH =>
    cases q with
    | xH => exact absurd rfl hne
    | xO q => cases t <;> first | rfl | exact T.get_leaf q
    | xI q => cases t <;> first | rfl | exact T.get_leaf q
  | xO p ih =>
    cases t with
    | leaf =>
      have h : T.put (.xO p) x (.leaf : T α) = .node (T.put p x .leaf) none .leaf := T.putK_eq p x .leaf _
      rw [h]
      cases q with
      | xH => rfl
      | xO q => exact (ih q .leaf fun e => hne (by rw [e])).trans (T.get_leaf q)
      | xI q => exact T.get_leaf q
    | node l v r =>
      have h : T.put (.xO p) x (.node l v r) = .node (T.put p x l) v r := T.putK_eq p x l _
      rw [h]
      cases q with
      | xH => rfl
      | xO q => exact ih q l fun e => hne (by rw [e])
      | xI q => rfl
  | xI p ih =>
    cases t with
    | leaf =>
      have h : T.put (.xI p) x (.leaf : T α) = .node .leaf none (T.put p x .leaf) := T.putK_eq p x .leaf _
      rw [h]
      cases q with
      | xH => rfl
      | xO q => exact T.get_leaf q
      | xI q => exact (ih q .leaf fun e => hne (by rw [e])).trans (T.get_leaf q)
    | node l v r =>
      have h : T.put (.xI p) x (.node l v r) = .node l v (T.put p x r) := T.putK_eq p x r _
      rw [h]
      cases q with
      | xH => rfl
      | xO q => rfl
      | xI q => exact ih q r fun e => hne (by rw [e])

theorem T.get_put (p q : Pos) (x : Option α) (t : T α) : T.get q (T.put p x t) = if q = p then x else T.get q t := by
  split
  · rename_i h; rw [h]; exact T.get_put_same p x t
  · rename_i h; exact T.get_put_other p q x t h

/-! Words that make a number whole before it is handed on. -/

def nK (n : Nat) (k : Nat → R) : R := Nat.casesOn (motive := fun _ => R) n (k 0) fun m => k (Nat.succ m)
theorem nK_eq (n : Nat) (k : Nat → R) : nK n k = k n := by cases n <;> rfl

def iK (n : Int) (k : Int → R) : R := Int.casesOn (motive := fun _ => R) n (fun m => nK m fun m => k (.ofNat m)) fun m => nK m fun m => k (.negSucc m)
theorem iK_eq (n : Int) (k : Int → R) : iK n k = k n := by
  cases n with
  | ofNat m => exact nK_eq m fun m => k (.ofNat m)
  | negSucc m => exact nK_eq m fun m => k (.negSucc m)

def bK (b : Bool) (k : Bool → R) : R := Bool.casesOn (motive := fun _ => R) b (k false) (k true)
theorem bK_eq (b : Bool) (k : Bool → R) : bK b k = k b := by cases b <;> rfl

/-! Lists. -/

/-- The n-th element. -/
noncomputable def nth (n : Nat) : List α → Option α :=
  Nat.rec (motive := fun _ => List α → Option α) (fun l => List.casesOn (motive := fun _ => Option α) l none fun x _ => some x)
    (fun _ ih l => List.casesOn (motive := fun _ => Option α) l none fun _ r => ih r) n

theorem nth_eq (n : Nat) (l : List α) : nth n l = l[n]? := by
  induction n generalizing l with
  | zero => cases l <;> rfl
  | succ n ih => cases l with
    | nil => rfl
    | cons x r => exact (ih r).trans (by simp)

/-- What is behind the first n; none: there are fewer. -/
noncomputable def dropK (n : Nat) : List α → (List α → Option R) → Option R :=
  Nat.rec (motive := fun _ => List α → (List α → Option R) → Option R) (fun l k => k l)
    (fun _ ih l k => List.casesOn (motive := fun _ => Option R) l none fun _ r => ih r k) n

theorem dropK_eq (n : Nat) (l : List α) (k : List α → Option R) : dropK n l k = if n ≤ l.length then k (l.drop n) else none := by
  induction n generalizing l with
  | zero => rfl
  | succ n ih =>
    cases l with
    | nil => rfl
    | cons x r => exact (ih r).trans (by simp)

/-- The first n, and what is behind them; none: there are fewer. -/
noncomputable def takeK (n : Nat) : List α → (List α → List α → Option R) → Option R :=
  Nat.rec (motive := fun _ => List α → (List α → List α → Option R) → Option R) (fun l k => k [] l)
    (fun _ ih l k => List.casesOn (motive := fun _ => Option R) l none fun x r => ih r fun a b => k (x :: a) b) n

theorem takeK_eq (n : Nat) (l : List α) (k : List α → List α → Option R) : takeK n l k = if n ≤ l.length then k (l.take n) (l.drop n) else none := by
  induction n generalizing l k with
  | zero => rfl
  | succ n ih =>
    cases l with
    | nil => rfl
    | cons x r => exact (ih r _).trans (by simp)

/-- One behind the other. -/
noncomputable def appK (a b : List α) : (List α → R) → R :=
  List.rec (motive := fun _ => (List α → R) → R) (fun k => k b) (fun x _ ih k => ih fun l => k (x :: l)) a

theorem appK_eq (a b : List α) (k : List α → R) : appK a b k = k (a ++ b) := by
  induction a generalizing k with
  | nil => rfl
  | cons x a ih => exact ih fun l => k (x :: l)

/-- New ones in place of as many from the n-th on; none: there are not so many. -/
noncomputable def overK (n : Nat) (new : List α) (l : List α) (k : List α → Option R) : Option R :=
  takeK (R := R) n l fun a b => dropK (R := R) new.length b fun c => appK new c fun d => appK a d k

def over (n : Nat) (new l : List α) : List α := l.take n ++ (new ++ l.drop (n + new.length))

theorem overK_eq (n : Nat) (new l : List α) (k : List α → Option R) : overK n new l k = if n + new.length ≤ l.length then k (over n new l) else none := by
  unfold overK over
  rw [takeK_eq]
  by_cases h : n ≤ l.length
  · rw [if_pos h, dropK_eq]
    by_cases h2 : n + new.length ≤ l.length
    · rw [if_pos (by simp; omega), if_pos h2, appK_eq, appK_eq, List.drop_drop]
    · rw [if_neg (by simp; omega), if_neg h2]
  · rw [if_neg h, if_neg (by omega)]

/-- One in place of the n-th. -/
noncomputable def setK (n : Nat) (x : α) : List α → (List α → Option R) → Option R :=
  Nat.rec (motive := fun _ => List α → (List α → Option R) → Option R)
    (fun l k => List.casesOn (motive := fun _ => Option R) l none fun _ r => k (x :: r))
    (fun _ ih l k => List.casesOn (motive := fun _ => Option R) l none fun y r => ih r fun r => k (y :: r)) n

theorem setK_eq (n : Nat) (x : α) (l : List α) (k : List α → Option R) : setK n x l k = if n < l.length then k (l.set n x) else none := by
  induction n generalizing l k with
  | zero => cases l <;> rfl
  | succ n ih =>
    cases l with
    | nil => rfl
    | cons y r => exact (ih r _).trans (by simp)

end

/-! Integers: a number; a linear form over the letters; just an interval. -/

inductive SI where
  | lit (n : Int)
  | lin (c : Int) (ts : List (Nat × Int))
  | rng (lo hi : Int)
  deriving DecidableEq

/-- What a linear form's letters come to. -/
def linVal (ρ : Nat → Int) : List (Nat × Int) → Int
  | [] => 0
  | (i, a) :: r => a * ρ i + linVal ρ r

/-- Is n a number that is meant? -/
def SI.is (ρ : Nat → Int) : SI → Int → Prop
  | .lit m, n => n = m
  | .lin c ts, n => n = c + linVal ρ ts
  | .rng lo hi, n => lo ≤ n ∧ n ≤ hi

/-- The letters' bounds. -/
abbrev Box := List (Int × Int)

def Box.has (Γ : Box) (ρ : Nat → Int) : Prop := ∀ (i : Nat) (lo hi : Int), Γ[i]? = some (lo, hi) → lo ≤ ρ i ∧ ρ i ≤ hi

/-- The least and the greatest that a linear form comes to. -/
def linBounds (Γ : Box) : List (Nat × Int) → Option (Int × Int)
  | [] => some (0, 0)
  | (i, a) :: r =>
    match Γ[i]?, linBounds Γ r with
    | some (lo, hi), some (l, h) => if 0 ≤ a then some (a * lo + l, a * hi + h) else some (a * hi + l, a * lo + h)
    | _, _ => none

theorem linBounds_ok {Γ : Box} {ρ : Nat → Int} (hρ : Γ.has ρ) : ∀ (ts : List (Nat × Int)) (l h : Int), linBounds Γ ts = some (l, h) → l ≤ linVal ρ ts ∧ linVal ρ ts ≤ h := by
  intro ts
  induction ts with
  | nil => intro l h e; simp [linBounds] at e; obtain ⟨rfl, rfl⟩ := e; simp [linVal]
  | cons t r ih =>
    obtain ⟨i, a⟩ := t
    intro l h e
    simp only [linBounds] at e
    split at e
    · rename_i lo hi l' h' hi' hr
      have hb := hρ i lo hi hi'
      have hr := ih _ _ hr
      split at e
      · rename_i ha
        simp only [Option.some.injEq, Prod.mk.injEq] at e
        obtain ⟨rfl, rfl⟩ := e
        have h1 := Int.mul_le_mul_of_nonneg_left hb.1 ha
        have h2 := Int.mul_le_mul_of_nonneg_left hb.2 ha
        simp only [linVal]; omega
      · rename_i ha
        simp only [Option.some.injEq, Prod.mk.injEq] at e
        obtain ⟨rfl, rfl⟩ := e
        have h1 := Int.mul_le_mul_of_nonpos_left (a := a) (by omega) hb.1
        have h2 := Int.mul_le_mul_of_nonpos_left (a := a) (by omega) hb.2
        simp only [linVal]; omega
    · cases e

def SI.bounds (Γ : Box) : SI → Option (Int × Int)
  | .lit n => some (n, n)
  | .lin c ts => (linBounds Γ ts).map fun (l, h) => (c + l, c + h)
  | .rng lo hi => some (lo, hi)

theorem SI.bounds_ok {Γ : Box} {ρ : Nat → Int} (hρ : Γ.has ρ) {s : SI} {l h n : Int} (hb : s.bounds Γ = some (l, h)) (hn : s.is ρ n) : l ≤ n ∧ n ≤ h := by
  cases s with
  | lit m => simp [SI.bounds] at hb; simp [SI.is] at hn; omega
  | rng lo hi => simp [SI.bounds] at hb; simp [SI.is] at hn; omega
  | lin c ts =>
    simp only [SI.bounds, Option.map_eq_some_iff] at hb
    obtain ⟨⟨l', h'⟩, hb, e⟩ := hb
    simp only [Prod.mk.injEq] at e
    have := linBounds_ok hρ ts l' h' hb
    simp only [SI.is] at hn
    omega

end Go.Ev
