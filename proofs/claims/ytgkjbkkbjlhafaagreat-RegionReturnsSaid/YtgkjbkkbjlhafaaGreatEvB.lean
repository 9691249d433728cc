/- Generic part B: what symbolic integers do; sound for every valuation within the box. -/
import Derived.Test.YtgkjbkkbjlhafaaGreatEvA
import Derived.Laws.Small
namespace Go.Ev

def ltF (x y : Int) : Bool :=
  match x with
  | .ofNat a => (match y with | .ofNat b => Nat.ble (Nat.succ a) b | .negSucc _ => false)
  | .negSucc a => (match y with | .ofNat _ => true | .negSucc b => Nat.ble (Nat.succ b) a)

theorem ltF_eq (x y : Int) : ltF x y = decide (x < y) := by
  rw [Bool.eq_iff_iff, decide_eq_true_iff]
  cases x <;> cases y <;> simp only [ltF, Nat.ble_eq] <;> (try simp) <;> omega

def leF (x y : Int) : Bool := !ltF y x
theorem leF_eq (x y : Int) : leF x y = decide (x ≤ y) := by
  unfold leF; rw [ltF_eq, Bool.eq_iff_iff]; simp

def eqF (x y : Int) : Bool :=
  match x with
  | .ofNat a => (match y with | .ofNat b => Nat.beq a b | .negSucc _ => false)
  | .negSucc a => (match y with | .ofNat _ => false | .negSucc b => Nat.beq a b)

theorem eqF_eq (x y : Int) : eqF x y = decide (x = y) := by
  rw [Bool.eq_iff_iff, decide_eq_true_iff]
  cases x <;> cases y <;> simp only [eqF, Nat.beq_eq] <;> (try simp) <;> omega

def hiN : IntKind → Nat
  | .i8 => 127 | .i16 => 32767 | .i32 => 2147483647 | .i64 => 9223372036854775807
  | .u8 => 255 | .u16 => 65535 | .u32 => 4294967295 | .u64 => 18446744073709551615

def sgn : IntKind → Bool
  | .i8 | .i16 | .i32 | .i64 => true
  | _ => false

def fits (k : IntKind) (n : Int) : Bool :=
  match n with
  | .ofNat m => Nat.ble m (hiN k)
  | .negSucc m => sgn k && Nat.ble m (hiN k)

theorem fits_iff (k : IntKind) (n : Int) : fits k n = true ↔ k.min ≤ n ∧ n ≤ k.max := by
  cases k <;> cases n <;> simp [fits, hiN, sgn, IntKind.min, IntKind.max, IntKind.signed, IntKind.bits] <;> omega

theorem wrap_of_in {k : IntKind} {n : Int} (h : k.min ≤ n ∧ n ≤ k.max) : k.wrap n = n := by
  cases k <;> simp [IntKind.min, IntKind.max, IntKind.signed, IntKind.bits] at h <;> simp [IntKind.wrap, IntKind.signed, IntKind.bits] <;> (try split) <;> omega

theorem wrap_in (k : IntKind) (n : Int) : k.min ≤ k.wrap n ∧ k.wrap n ≤ k.max := by
  cases k <;> simp [IntKind.min, IntKind.max, IntKind.wrap, IntKind.signed, IntKind.bits] <;> (try split) <;> omega

def wrapF (k : IntKind) (n : Int) : Int :=
  match fits k n with
  | true => n
  | false => k.wrap n

theorem wrapF_eq (k : IntKind) (n : Int) : wrapF k n = k.wrap n := by
  unfold wrapF
  split
  · rename_i h; exact (wrap_of_in ((fits_iff k n).1 h)).symm
  · rfl

/-- All numbers of a kind. -/
def full (k : IntKind) : SI := .rng k.min k.max

theorem full_is (ρ : Nat → Int) (k : IntKind) (n : Int) : (full k).is ρ (k.wrap n) := wrap_in k n

/-! Linear forms. -/

def addTs : List (Nat × Int) → List (Nat × Int) → List (Nat × Int)
  | [], b => b
  | (i, x) :: a, b => insTs i x (addTs a b)
where
  insTs (i : Nat) (x : Int) : List (Nat × Int) → List (Nat × Int)
    | [] => [(i, x)]
    | (j, y) :: r =>
      match Nat.beq i j with
      | true => (match eqF (x + y) 0 with | true => r | false => (j, x + y) :: r)
      | false => (match Nat.ble i j with | true => (i, x) :: (j, y) :: r | false => (j, y) :: insTs i x r)

theorem linVal_ins (ρ : Nat → Int) (i : Nat) (x : Int) : ∀ r, linVal ρ (addTs.insTs i x r) = x * ρ i + linVal ρ r := by
  intro r
  induction r with
  | nil => simp [addTs.insTs, linVal]
  | cons t r ih =>
    obtain ⟨j, y⟩ := t
    simp only [addTs.insTs]
    split
    · rename_i h
      have hij : i = j := Nat.eq_of_beq_eq_true h
      subst hij
      split
      · rename_i h0
        rw [eqF_eq, decide_eq_true_iff] at h0
        simp only [linVal]
        rw [← Int.add_assoc, ← Int.add_mul, h0]; simp
      · simp only [linVal]; rw [Int.add_mul]; omega
    · split
      · rfl
      · simp only [linVal, ih]; omega

theorem linVal_add (ρ : Nat → Int) : ∀ a b, linVal ρ (addTs a b) = linVal ρ a + linVal ρ b := by
  intro a
  induction a with
  | nil => intro b; simp [addTs, linVal]
  | cons t a ih => intro b; obtain ⟨i, x⟩ := t; simp only [addTs, linVal_ins, ih, linVal]; omega

def mulTs (m : Int) : List (Nat × Int) → List (Nat × Int)
  | [] => []
  | (i, x) :: a => (i, m * x) :: mulTs m a

theorem linVal_mul (ρ : Nat → Int) (m : Int) : ∀ a, linVal ρ (mulTs m a) = m * linVal ρ a := by
  intro a
  induction a with
  | nil => simp [mulTs, linVal]
  | cons t a ih => obtain ⟨i, x⟩ := t; simp only [mulTs, linVal, ih]; rw [Int.mul_add, Int.mul_assoc]

/-- Of a linear form what a number divides, divided; and what is left. -/
def splitTs (m : Int) : List (Nat × Int) → List (Nat × Int) × List (Nat × Int)
  | [] => ([], [])
  | (i, x) :: a =>
    let (p, q) := splitTs m a
    match eqF (x % m) 0 with
    | true => ((i, x / m) :: p, q)
    | false => (p, (i, x) :: q)

theorem linVal_split (ρ : Nat → Int) (m : Int) (hm : m ≠ 0) : ∀ a, linVal ρ a = m * linVal ρ (splitTs m a).1 + linVal ρ (splitTs m a).2 := by
  intro a
  induction a with
  | nil => simp [splitTs, linVal]
  | cons t a ih =>
    obtain ⟨i, x⟩ := t
    simp only [splitTs, linVal]
    split
    · rename_i h
      rw [eqF_eq, decide_eq_true_iff] at h
      have hx : m * (x / m) = x := Int.mul_ediv_cancel' (Int.dvd_of_emod_eq_zero h)
      simp only [linVal]
      rw [Int.mul_add, ← Int.mul_assoc, hx, ih]; omega
    · simp only [linVal]; rw [ih]; omega

def tsOf : SI → Option (Int × List (Nat × Int))
  | .lit n => some (n, [])
  | .lin c ts => some (c, ts)
  | .rng _ _ => none

theorem tsOf_ok {ρ : Nat → Int} {s : SI} {c : Int} {ts : List (Nat × Int)} (h : tsOf s = some (c, ts)) {n : Int} (hn : s.is ρ n) : n = c + linVal ρ ts := by
  cases s <;> simp [tsOf] at h
  · obtain ⟨rfl, rfl⟩ := h; simp [SI.is] at hn; simp [linVal, hn]
  · obtain ⟨rfl, rfl⟩ := h; exact hn

/-- A form, made a number where its bounds leave just one, and one of a kind's range. -/
def tidy (Γ : Box) (k : IntKind) (c : Int) (ts : List (Nat × Int)) : SI :=
  match linBounds Γ ts with
  | none => full k
  | some (l, h) =>
    match eqF l h with
    | true => .lit (wrapF k (c + l))
    | false => (match fits k (c + l) && fits k (c + h) with | true => .lin c ts | false => full k)

theorem tidy_ok {Γ : Box} {ρ : Nat → Int} (hρ : Γ.has ρ) (k : IntKind) (c : Int) (ts : List (Nat × Int)) : (tidy Γ k c ts).is ρ (k.wrap (c + linVal ρ ts)) := by
  unfold tidy
  split
  · exact full_is ..
  · rename_i l h hb
    have hl := linBounds_ok hρ ts l h hb
    split
    · rename_i he
      rw [eqF_eq, decide_eq_true_iff] at he
      have : linVal ρ ts = l := by omega
      simp only [SI.is, this, wrapF_eq]
    · split
      · rename_i hf
        rw [Bool.and_eq_true, fits_iff, fits_iff] at hf
        exact wrap_of_in (by omega)
      · exact full_is ..

def SI.add (Γ : Box) (k : IntKind) (a b : SI) : SI :=
  match tsOf a, tsOf b with
  | some (c, p), some (d, q) => tidy Γ k (c + d) (addTs p q)
  | _, _ =>
    match a.bounds Γ, b.bounds Γ with
    | some (l, h), some (l', h') => (match fits k (l + l') && fits k (h + h') with | true => .rng (l + l') (h + h') | false => full k)
    | _, _ => full k

theorem SI.add_ok {Γ : Box} {ρ : Nat → Int} (hρ : Γ.has ρ) (k : IntKind) {a b : SI} {x y : Int} (ha : a.is ρ x) (hb : b.is ρ y) : (SI.add Γ k a b).is ρ (k.wrap (x + y)) := by
  unfold SI.add
  split
  · rename_i c p d q hp hq
    have h1 := tsOf_ok hp ha
    have h2 := tsOf_ok hq hb
    have := tidy_ok hρ k (c + d) (addTs p q)
    rw [linVal_add] at this
    rwa [show x + y = c + d + (linVal ρ p + linVal ρ q) by omega]
  · split
    · rename_i l h l' h' e1 e2
      have b1 := SI.bounds_ok hρ e1 ha
      have b2 := SI.bounds_ok hρ e2 hb
      split
      · rename_i hf
        rw [Bool.and_eq_true, fits_iff, fits_iff] at hf
        rw [wrap_of_in (by omega)]
        exact ⟨by omega, by omega⟩
      · exact full_is ..
    · exact full_is ..

def SI.neg (a : SI) : SI :=
  match a with
  | .lit n => .lit (-n)
  | .lin c ts => .lin (-c) (mulTs (-1) ts)
  | .rng l h => .rng (-h) (-l)

theorem SI.neg_ok {ρ : Nat → Int} {a : SI} {x : Int} (ha : a.is ρ x) : a.neg.is ρ (-x) := by
  cases a <;> simp only [SI.neg, SI.is, linVal_mul] at * <;> omega

def SI.sub (Γ : Box) (k : IntKind) (a b : SI) : SI := SI.add Γ k a b.neg

theorem SI.sub_ok {Γ : Box} {ρ : Nat → Int} (hρ : Γ.has ρ) (k : IntKind) {a b : SI} {x y : Int} (ha : a.is ρ x) (hb : b.is ρ y) : (SI.sub Γ k a b).is ρ (k.wrap (x - y)) := by
  rw [Int.sub_eq_add_neg]; exact SI.add_ok hρ k ha (SI.neg_ok hb)

def SI.mulLit (Γ : Box) (k : IntKind) (a : SI) (m : Int) : SI :=
  match tsOf a with
  | some (c, p) => tidy Γ k (m * c) (mulTs m p)
  | none =>
    match a with
    | .rng l h => (match leF 0 m && (fits k (m * l) && fits k (m * h)) with | true => .rng (m * l) (m * h) | false => full k)
    | _ => full k

theorem SI.mulLit_ok {Γ : Box} {ρ : Nat → Int} (hρ : Γ.has ρ) (k : IntKind) {a : SI} {x : Int} (m : Int) (ha : a.is ρ x) : (SI.mulLit Γ k a m).is ρ (k.wrap (m * x)) := by
  unfold SI.mulLit
  split
  · rename_i c p hp
    have h1 := tsOf_ok hp ha
    have := tidy_ok hρ k (m * c) (mulTs m p)
    rw [linVal_mul, ← Int.mul_add, ← h1] at this
    exact this
  · split
    · rename_i l h _
      split
      · rename_i hf
        rw [Bool.and_eq_true, Bool.and_eq_true, fits_iff, fits_iff, leF_eq, decide_eq_true_iff] at hf
        obtain ⟨h0, h1, h2⟩ := hf
        have g1 := Int.mul_le_mul_of_nonneg_left ha.1 h0
        have g2 := Int.mul_le_mul_of_nonneg_left ha.2 h0
        rw [wrap_of_in (by omega)]
        exact ⟨g1, g2⟩
      · exact full_is ..
    · exact full_is ..

def SI.mul (Γ : Box) (k : IntKind) (a b : SI) : SI :=
  match b with
  | .lit m => SI.mulLit Γ k a m
  | _ => (match a with | .lit m => SI.mulLit Γ k b m | _ => full k)

theorem SI.mul_ok {Γ : Box} {ρ : Nat → Int} (hρ : Γ.has ρ) (k : IntKind) {a b : SI} {x y : Int} (ha : a.is ρ x) (hb : b.is ρ y) : (SI.mul Γ k a b).is ρ (k.wrap (x * y)) := by
  unfold SI.mul
  split
  · rename_i m
    simp only [SI.is] at hb; subst hb
    rw [Int.mul_comm]; exact SI.mulLit_ok hρ k _ ha
  · split
    · rename_i m _
      simp only [SI.is] at ha; subst ha
      exact SI.mulLit_ok hρ k _ hb
    · exact full_is ..

/-- A form that is nowhere below zero, divided by a number above zero: the whole part, what is left. -/
def SI.divMod (Γ : Box) (k : IntKind) (a : SI) (m : Int) : Option (SI × SI) :=
  match a.bounds Γ with
  | none => none
  | some (l, h) =>
    match leF 0 l && ltF 0 m with
    | false => none
    | true =>
      match tsOf a with
      | some (c, p) =>
        let (u, v) := splitTs m p
        let d := c % m
        match linBounds Γ v with
        | some (l', h') =>
          (match leF 0 (d + l') && ltF (d + h') m with
            | true => some (tidy Γ k (c / m) u, tidy Γ k d v)
            | false => some (.rng (l / m) (h / m), .rng 0 (m - 1)))
        | none => none
      | none => some (.rng (l / m) (h / m), .rng 0 (m - 1))

theorem SI.divMod_ok {Γ : Box} {ρ : Nat → Int} (hρ : Γ.has ρ) (k : IntKind) {a p q : SI} {x m : Int} (ha : a.is ρ x) (h : SI.divMod Γ k a m = some (p, q)) (hk : k.min ≤ x ∧ x ≤ k.max) (h0 : k.min ≤ 0) :
    0 ≤ x ∧ 0 < m ∧ p.is ρ (x / m) ∧ q.is ρ (x % m) := by
  unfold SI.divMod at h
  split at h
  · cases h
  · rename_i l hh hb
    have hx := SI.bounds_ok hρ hb ha
    split at h
    · cases h
    · rename_i hf
      rw [Bool.and_eq_true, leF_eq, ltF_eq, decide_eq_true_iff, decide_eq_true_iff] at hf
      obtain ⟨hl, hm⟩ := hf
      have hx0 : 0 ≤ x := by omega
      have dge : 0 ≤ x / m := Int.ediv_nonneg hx0 (by omega)
      have dle : x / m ≤ x := Int.ediv_le_self m hx0
      have mge : 0 ≤ x % m := Int.emod_nonneg x (by omega)
      have mlt : x % m < m := Int.emod_lt_of_pos x hm
      have mle : x % m ≤ x := by have := Int.mul_ediv_add_emod x m; have := Int.mul_nonneg (show 0 ≤ m by omega) dge; omega
      refine ⟨hx0, hm, ?_⟩
      have coarse : (SI.rng (l / m) (hh / m)).is ρ (x / m) ∧ (SI.rng 0 (m - 1)).is ρ (x % m) :=
        ⟨⟨Int.ediv_le_ediv hm hx.1, Int.ediv_le_ediv hm hx.2⟩, mge, by omega⟩
      split at h
      · rename_i c ts hts
        have hc := tsOf_ok hts ha
        dsimp only at h
        split at h
        · rename_i l' h' hb'
          split at h
          · rename_i hf'
            rw [Bool.and_eq_true, leF_eq, ltF_eq, decide_eq_true_iff, decide_eq_true_iff] at hf'
            simp only [Option.some.injEq, Prod.mk.injEq] at h
            obtain ⟨rfl, rfl⟩ := h
            have hv := linBounds_ok hρ _ l' h' hb'
            have hs := linVal_split ρ m (by omega) ts
            have hcm := Int.mul_ediv_add_emod c m
            have hxx : x = (c % m + linVal ρ (splitTs m ts).2) + m * (c / m + linVal ρ (splitTs m ts).1) := by
              rw [Int.mul_add]; omega
            have hr0 : 0 ≤ c % m + linVal ρ (splitTs m ts).2 := by omega
            have hr1 : c % m + linVal ρ (splitTs m ts).2 < m := by omega
            have hq : x / m = c / m + linVal ρ (splitTs m ts).1 := by
              rw [hxx, Int.add_mul_ediv_left _ _ (by omega), Int.ediv_eq_zero_of_lt hr0 hr1]; omega
            have hr : x % m = c % m + linVal ρ (splitTs m ts).2 := by
              rw [hxx, Int.add_mul_emod_self_left, Int.emod_eq_of_lt hr0 hr1]
            have t1 := tidy_ok hρ k (c / m) (splitTs m ts).1
            have t2 := tidy_ok hρ k (c % m) (splitTs m ts).2
            rw [← hq, wrap_of_in (by omega)] at t1
            rw [← hr, wrap_of_in (by omega)] at t2
            exact ⟨t1, t2⟩
          · simp only [Option.some.injEq, Prod.mk.injEq] at h
            obtain ⟨rfl, rfl⟩ := h
            exact coarse
        · cases h
      · simp only [Option.some.injEq, Prod.mk.injEq] at h
        obtain ⟨rfl, rfl⟩ := h
        exact coarse

end Go.Ev
