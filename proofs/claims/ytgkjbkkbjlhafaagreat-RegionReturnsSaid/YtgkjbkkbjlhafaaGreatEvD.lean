/- Generic part D: what integers' operators and comparisons answer on symbolic integers. -/
import Derived.Test.YtgkjbkkbjlhafaaGreatEvC
import Derived.Laws.Bits
import Derived.Laws.Shifts
namespace Go.Ev

def kindN : IntKind → Nat
  | .i8 => 0 | .i16 => 1 | .i32 => 2 | .i64 => 3 | .u8 => 4 | .u16 => 5 | .u32 => 6 | .u64 => 7

def kindEq (j k : IntKind) : Bool := Nat.beq (kindN j) (kindN k)
theorem kindEq_eq {j k : IntKind} (h : kindEq j k = true) : j = k := by cases j <;> cases k <;> first | rfl | (simp [kindEq, kindN] at h)

/-! Bits of numbers that are nowhere below zero. -/

def bitsGen (op : BinOp) (k : IntKind) (x y : Int) : Int :=
  let a := BitVec.ofInt k.bits x
  let b := BitVec.ofInt k.bits y
  match op with
  | .and => k.wrap (a &&& b).toNat
  | .or => k.wrap (a ||| b).toNat
  | .xor => k.wrap (a ^^^ b).toNat
  | _ => k.wrap (a &&& ~~~b).toNat

def bitsF (op : BinOp) (k : IntKind) (x y : Int) : Int :=
  match x with
  | .ofNat a =>
    (match y with
    | .ofNat b =>
      (match op with
      | .and => wrapF k (.ofNat (Nat.land a b))
      | .or => wrapF k (.ofNat (Nat.lor a b))
      | .xor => wrapF k (.ofNat (Nat.xor a b))
      | _ => bitsGen op k x y)
    | _ => bitsGen op k x y)
  | _ => bitsGen op k x y

theorem wrap_mod (k : IntKind) (n m : Nat) (h : n % 2 ^ k.bits = m % 2 ^ k.bits) : k.wrap n = k.wrap m := by
  have : (n : Int) % (2 ^ k.bits : Int) = (m : Int) % (2 ^ k.bits : Int) := by exact_mod_cast h
  unfold IntKind.wrap
  rw [this]

theorem bitsF_eq (op : BinOp) (k : IntKind) (x y : Int) : bitsF op k x y = bitsGen op k x y := by
  unfold bitsF
  split
  · rename_i a
    split
    · rename_i b
      split
      · rw [wrapF_eq]; exact wrap_mod k _ _ (by simp only [BitVec.toNat_and, BitVec.toNat_ofInt]; rw [show (Int.toNat ((Int.ofNat a) % ((2 ^ k.bits : Nat) : Int))) = a % 2 ^ k.bits from rfl, show (Int.toNat ((Int.ofNat b) % ((2 ^ k.bits : Nat) : Int))) = b % 2 ^ k.bits from rfl, ← Nat.and_mod_two_pow, Nat.mod_mod]; rfl)
      · rw [wrapF_eq]; exact wrap_mod k _ _ (by simp only [BitVec.toNat_or, BitVec.toNat_ofInt]; rw [show (Int.toNat ((Int.ofNat a) % ((2 ^ k.bits : Nat) : Int))) = a % 2 ^ k.bits from rfl, show (Int.toNat ((Int.ofNat b) % ((2 ^ k.bits : Nat) : Int))) = b % 2 ^ k.bits from rfl, ← Nat.or_mod_two_pow, Nat.mod_mod]; rfl)
      · rw [wrapF_eq]; exact wrap_mod k _ _ (by simp only [BitVec.toNat_xor, BitVec.toNat_ofInt]; rw [show (Int.toNat ((Int.ofNat a) % ((2 ^ k.bits : Nat) : Int))) = a % 2 ^ k.bits from rfl, show (Int.toNat ((Int.ofNat b) % ((2 ^ k.bits : Nat) : Int))) = b % 2 ^ k.bits from rfl, ← Nat.xor_mod_two_pow, Nat.mod_mod]; rfl)
      · rfl
    · rfl
  · rfl

def shlF (k : IntKind) (x : Int) (n : Nat) : Int :=
  match x with
  | .ofNat a => wrapF k (.ofNat (Nat.mul a (Nat.pow 2 n)))
  | _ => k.wrap (x * 2 ^ n)

theorem shlF_eq (k : IntKind) (x : Int) (n : Nat) : shlF k x n = k.wrap (x * 2 ^ n) := by
  unfold shlF
  split
  · rename_i a; rw [wrapF_eq]; congr 1
  · rfl

def shrF (x : Int) (n : Nat) : Int :=
  match x with
  | .ofNat a => .ofNat (Nat.div a (Nat.pow 2 n))
  | _ => x.fdiv (2 ^ n)

theorem shrF_eq (x : Int) (n : Nat) : shrF x n = x.fdiv (2 ^ n) := by
  unfold shrF
  split
  · rename_i a
    rw [Int.fdiv_eq_ediv_of_nonneg _ (by exact_mod_cast Nat.zero_le (2 ^ n))]
    show ((a / 2 ^ n : Nat) : Int) = _
    simp
  · rfl

/-- An operator of integers, its shifts too. -/
def arLit (op : BinOp) (k : IntKind) (x y : Int) : Option Int :=
  match op with
  | .add => some (wrapF k (Int.add x y))
  | .sub => some (wrapF k (Int.sub x y))
  | .mul => some (wrapF k (Int.mul x y))
  | .quo => (match eqF y 0 with | true => none | false => some (wrapF k (Int.tdiv x y)))
  | .rem => (match eqF y 0 with | true => none | false => some (Int.tmod x y))
  | .and => some (bitsF .and k x y)
  | .or => some (bitsF .or k x y)
  | .xor => some (bitsF .xor k x y)
  | .andNot => some (bitsF .andNot k x y)
  | .shl => (match y with | .ofNat n => some (shlF k x (Nat.min n k.bits)) | _ => none)
  | .shr => (match y with | .ofNat n => some (shrF x (Nat.min n k.bits)) | _ => none)
  | _ => none

/-- Is it a power of two? which one? -/
def log2? (n : Int) : Option Nat :=
  match n with
  | .ofNat m => (match Nat.beq (Nat.pow 2 (Nat.log2 m)) m with | true => some (Nat.log2 m) | false => none)
  | _ => none

theorem log2?_ok {n : Int} {j : Nat} (h : log2? n = some j) : n = 2 ^ j := by
  unfold log2? at h
  split at h
  · rename_i m
    split at h
    · rename_i hb
      cases h
      have := Nat.eq_of_beq_eq_true hb
      show (m : Int) = (2 : Int) ^ m.log2
      exact_mod_cast this.symm
    · cases h
  · cases h

def arSym (Γ : Box) (op : BinOp) (k : IntKind) (a b : SI) : Option SI :=
  match op with
  | .add => some (SI.add Γ k a b)
  | .sub => some (SI.sub Γ k a b)
  | .mul => some (SI.mul Γ k a b)
  | .quo => (match b with | .lit m => (SI.divMod Γ k a m).map (·.1) | _ => none)
  | .rem => (match b with | .lit m => (SI.divMod Γ k a m).map (·.2) | _ => none)
  | .and => (match b with | .lit m => (match log2? (m + 1) with | some _ => (match (SI.divMod Γ k a (m + 1)).map (·.2) with | some s => some s | none => some (full k)) | none => some (full k)) | _ => some (full k))
  | .or => (match b with | .lit m => (match eqF m 0 with | true => some a | false => some (full k)) | _ => some (full k))
  | .xor => (match b with | .lit m => (match eqF m 0 with | true => some a | false => some (full k)) | _ => some (full k))
  | .andNot => some (full k)
  | .shl => (match b with | .lit m => (match m with | .ofNat n => (match Nat.ble n k.bits with | true => some (SI.mulLit Γ k a (.ofNat (Nat.pow 2 n))) | false => none) | _ => none) | _ => none)
  | .shr => (match b with | .lit m => (match m with | .ofNat n => (match Nat.ble n k.bits with | true => (SI.divMod Γ k a (.ofNat (Nat.pow 2 n))).map (·.1) | false => none) | _ => none) | _ => none)
  | _ => none

def arSI (Γ : Box) (op : BinOp) (k : IntKind) (a b : SI) : Option SI :=
  match a with
  | .lit x => (match b with | .lit y => (arLit op k x y).map .lit | _ => arSym Γ op k a b)
  | _ => arSym Γ op k a b

/-- What an operator of integers comes to in the model. -/
def arVal (op : BinOp) (k : IntKind) (x y : Int) : Option Int :=
  match op with
  | .add => some (k.wrap (x + y))
  | .sub => some (k.wrap (x - y))
  | .mul => some (k.wrap (x * y))
  | .quo => if y = 0 then none else some (k.wrap (x.tdiv y))
  | .rem => if y = 0 then none else some (x.tmod y)
  | .and | .or | .xor | .andNot => some (bitsGen op k x y)
  | .shl => if y < 0 then none else some (k.wrap (x * 2 ^ (min y.toNat k.bits)))
  | .shr => if y < 0 then none else some (x.fdiv (2 ^ (min y.toNat k.bits)))
  | _ => none

theorem arLit_ok {op : BinOp} {k : IntKind} {x y n : Int} (h : arLit op k x y = some n) : arVal op k x y = some n := by
  cases op <;> simp only [arLit, arVal] at h ⊢
  case add | sub | mul => rw [wrapF_eq] at h; exact h
  case quo => split at h <;> (rename_i he; rw [eqF_eq] at he; simp at he); cases h; rw [if_neg he]; rw [wrapF_eq] at h; exact h
  case rem => split at h <;> (rename_i he; rw [eqF_eq] at he; simp at he); cases h; rw [if_neg he]; exact h
  case and | or | xor | andNot => rw [bitsF_eq] at h; exact h
  case shl =>
    split at h
    · rename_i m; rw [shlF_eq] at h; rw [if_neg (by simp)]; exact h
    · cases h
  case shr =>
    split at h
    · rename_i m; rw [shrF_eq] at h; rw [if_neg (by simp)]; exact h
    · cases h
  all_goals cases h

theorem bitsGen_in (op : BinOp) (k : IntKind) (x y : Int) : k.min ≤ bitsGen op k x y ∧ bitsGen op k x y ≤ k.max := by
  unfold bitsGen; dsimp only; split <;> exact wrap_in ..

theorem ofInt_self {k : IntKind} {x : Int} (hx : k.min ≤ x ∧ x ≤ k.max) : k.wrap ((BitVec.ofInt k.bits x).toNat : Int) = x := by
  rw [BitVec.toNat_ofInt]
  cases k <;> simp [IntKind.min, IntKind.max, IntKind.signed, IntKind.bits] at hx <;> simp [IntKind.wrap, IntKind.signed, IntKind.bits] <;> (try split) <;> omega

theorem min_le_zero (k : IntKind) : k.min ≤ 0 := by cases k <;> simp [IntKind.min, IntKind.signed, IntKind.bits]

theorem bits_and_mask {k : IntKind} {x : Int} (hx : k.min ≤ x ∧ x ≤ k.max) (h0 : 0 ≤ x) {m : Int} {j : Nat} (hm : m + 1 = 2 ^ j) (hmk : k.min ≤ m ∧ m ≤ k.max) :
    bitsGen .and k x m = x % (m + 1) := by
  have hm0 : 0 ≤ m := by have : (0 : Int) < 2 ^ j := Int.pow_pos (by omega); omega
  obtain ⟨a, rfl⟩ := Int.eq_ofNat_of_zero_le h0
  obtain ⟨b, rfl⟩ := Int.eq_ofNat_of_zero_le hm0
  have hb : b + 1 = 2 ^ j := by exact_mod_cast hm
  have hbj : b = 2 ^ j - 1 := by omega
  have e : bitsGen .and k (a : Int) (b : Int) = bitsF .and k (.ofNat a) (.ofNat b) := (bitsF_eq ..).symm
  rw [e]
  show wrapF k (.ofNat (Nat.land a b)) = _
  rw [wrapF_eq]
  have hl : Nat.land a b = a % (b + 1) := by
    show a &&& b = _
    rw [hbj, show 2 ^ j - 1 + 1 = 2 ^ j by omega]
    exact Nat.and_two_pow_sub_one_eq_mod a j
  rw [hl]
  have hle : a % (b + 1) ≤ a := Nat.mod_le ..
  rw [wrap_of_in ⟨by have := min_le_zero k; show k.min ≤ ((a % (b + 1) : Nat) : Int); omega, by show ((a % (b + 1) : Nat) : Int) ≤ _; omega⟩]
  show ((a % (b + 1) : Nat) : Int) = _
  simp

theorem arSym_ok {Γ : Box} {ρ : Nat → Int} (hρ : Γ.has ρ) {op : BinOp} {k : IntKind} {a b s : SI} (h : arSym Γ op k a b = some s) {x y : Int} (ha : a.is ρ x) (hb : b.is ρ y)
    (hx : k.min ≤ x ∧ x ≤ k.max) (hy : op ≠ .shl → op ≠ .shr → k.min ≤ y ∧ y ≤ k.max) : ∃ n, s.is ρ n ∧ arVal op k x y = some n := by
  have zero := min_le_zero k
  cases op <;> simp only [arSym] at h
  case add => cases h; exact ⟨_, SI.add_ok hρ k ha hb, rfl⟩
  case sub => cases h; exact ⟨_, SI.sub_ok hρ k ha hb, rfl⟩
  case mul => cases h; exact ⟨_, SI.mul_ok hρ k ha hb, rfl⟩
  case quo =>
    split at h
    · rename_i m
      simp only [SI.is] at hb; subst hb
      cases hd : SI.divMod Γ k a y with
      | none => rw [hd] at h; cases h
      | some pq =>
        obtain ⟨p, q⟩ := pq
        rw [hd] at h; cases h
        obtain ⟨x0, m0, hp, _⟩ := SI.divMod_ok hρ k ha hd hx zero
        refine ⟨_, hp, ?_⟩
        have dge : 0 ≤ x / y := Int.ediv_nonneg x0 (by omega)
        have dle : x / y ≤ x := Int.ediv_le_self y x0
        simp only [arVal]
        rw [if_neg (by omega), Int.tdiv_eq_ediv_of_nonneg x0, wrap_of_in (by omega)]
    · cases h
  case rem =>
    split at h
    · rename_i m
      simp only [SI.is] at hb; subst hb
      cases hd : SI.divMod Γ k a y with
      | none => rw [hd] at h; cases h
      | some pq =>
        obtain ⟨p, q⟩ := pq
        rw [hd] at h; cases h
        obtain ⟨x0, m0, _, hq⟩ := SI.divMod_ok hρ k ha hd hx zero
        refine ⟨_, hq, ?_⟩
        simp only [arVal]
        rw [if_neg (by omega), Int.tmod_eq_emod_of_nonneg x0]
    · cases h
  case and =>
    split at h
    · rename_i m
      simp only [SI.is] at hb; subst hb
      split at h
      · rename_i j hj
        cases hd : SI.divMod Γ k a (y + 1) with
        | none => rw [hd] at h; cases h; exact ⟨_, bitsGen_in .and k x y, rfl⟩
        | some pq =>
          obtain ⟨p, q⟩ := pq
          rw [hd] at h; cases h
          obtain ⟨x0, m0, _, hq⟩ := SI.divMod_ok hρ k ha hd hx zero
          refine ⟨_, hq, ?_⟩
          simp only [arVal, Option.some.injEq]
          exact bits_and_mask hx x0 (log2?_ok hj) (hy (by simp) (by simp))
      · cases h; exact ⟨_, bitsGen_in .and k x y, rfl⟩
    · cases h; exact ⟨_, bitsGen_in .and k x y, rfl⟩
  case or =>
    split at h
    · rename_i m
      simp only [SI.is] at hb; subst hb
      split at h
      · rename_i h0
        rw [eqF_eq] at h0; simp at h0; subst h0; cases h
        refine ⟨x, ha, ?_⟩
        simp only [arVal, bitsGen, Option.some.injEq]
        have : BitVec.ofInt k.bits 0 = 0#k.bits := by simp
        rw [this, BitVec.or_zero]; exact ofInt_self hx
      · cases h; exact ⟨_, bitsGen_in .or k x y, rfl⟩
    · cases h; exact ⟨_, bitsGen_in .or k x y, rfl⟩
  case xor =>
    split at h
    · rename_i m
      simp only [SI.is] at hb; subst hb
      split at h
      · rename_i h0
        rw [eqF_eq] at h0; simp at h0; subst h0; cases h
        refine ⟨x, ha, ?_⟩
        simp only [arVal, bitsGen, Option.some.injEq]
        have : BitVec.ofInt k.bits 0 = 0#k.bits := by simp
        rw [this, BitVec.xor_zero]; exact ofInt_self hx
      · cases h; exact ⟨_, bitsGen_in .xor k x y, rfl⟩
    · cases h; exact ⟨_, bitsGen_in .xor k x y, rfl⟩
  case andNot => cases h; exact ⟨_, bitsGen_in .andNot k x y, rfl⟩
  case shl =>
    split at h
    · rename_i m
      simp only [SI.is] at hb; subst hb
      split at h
      · rename_i n
        split at h
        · rename_i hn
          rw [Nat.ble_eq] at hn
          cases h
          refine ⟨_, SI.mulLit_ok hρ k _ ha, ?_⟩
          simp only [arVal]
          rw [if_neg (by simp)]
          have : min (Int.ofNat n).toNat k.bits = n := by simp; omega
          rw [this, Int.mul_comm]
          have e : (Int.ofNat (Nat.pow 2 n)) = (2 : Int) ^ n := by show ((2 ^ n : Nat) : Int) = _; simp
          rw [e]
        · cases h
      · cases h
    · cases h
  case shr =>
    split at h
    · rename_i m
      simp only [SI.is] at hb; subst hb
      split at h
      · rename_i n
        split at h
        · rename_i hn
          rw [Nat.ble_eq] at hn
          have e : (Int.ofNat (Nat.pow 2 n)) = (2 : Int) ^ n := by show ((2 ^ n : Nat) : Int) = _; simp
          cases hd : SI.divMod Γ k a (.ofNat (Nat.pow 2 n)) with
          | none => rw [hd] at h; cases h
          | some pq =>
            obtain ⟨p, q⟩ := pq
            rw [hd] at h; cases h
            obtain ⟨x0, m0, hp, _⟩ := SI.divMod_ok hρ k ha hd hx zero
            refine ⟨_, hp, ?_⟩
            simp only [arVal]
            rw [if_neg (by simp)]
            have : min (Int.ofNat n).toNat k.bits = n := by simp; omega
            rw [this, e, Int.fdiv_eq_ediv_of_nonneg _ (by rw [← e]; omega)]
        · cases h
      · cases h
    · cases h
  all_goals cases h

theorem arVal_in {op : BinOp} {k : IntKind} {x y n : Int} (h : arVal op k x y = some n) (hx : k.min ≤ x ∧ x ≤ k.max) : k.min ≤ n ∧ n ≤ k.max := by
  have zero := min_le_zero k
  have mx : 0 ≤ k.max := by cases k <;> simp [IntKind.max, IntKind.signed, IntKind.bits]
  cases op <;> simp only [arVal] at h
  case add | sub | mul => cases h; exact wrap_in ..
  case quo => split at h <;> cases h; exact wrap_in ..
  case rem =>
    split at h <;> cases h
    by_cases h0 : 0 ≤ x
    · rw [Int.tmod_eq_emod_of_nonneg h0]
      rename_i hy
      have := Int.emod_nonneg x hy
      have hle : x % y ≤ x := by
        have h1 := Int.mul_ediv_add_emod x y
        by_cases hy0 : 0 ≤ y
        · have := Int.mul_nonneg hy0 (Int.ediv_nonneg h0 hy0); omega
        · have h2 : x / y ≤ 0 := Int.ediv_nonpos_of_nonneg_of_nonpos h0 (by omega)
          have h3 : 0 ≤ y * (x / y) := Int.mul_nonneg_of_nonpos_of_nonpos (by omega) h2
          omega
      omega
    · have e : x.tmod y = -((-x).tmod y) := by rw [Int.neg_tmod]; simp
      rw [e, Int.tmod_eq_emod_of_nonneg (by omega)]
      rename_i hy
      have := Int.emod_nonneg (-x) hy
      have hle : (-x) % y ≤ -x := by
        have h1 := Int.mul_ediv_add_emod (-x) y
        by_cases hy0 : 0 ≤ y
        · have := Int.mul_nonneg hy0 (Int.ediv_nonneg (show 0 ≤ -x by omega) hy0); omega
        · have h2 : (-x) / y ≤ 0 := Int.ediv_nonpos_of_nonneg_of_nonpos (by omega) (by omega)
          have h3 : 0 ≤ y * ((-x) / y) := Int.mul_nonneg_of_nonpos_of_nonpos (by omega) h2
          omega
      omega
  case and | or | xor | andNot => cases h; exact bitsGen_in ..
  case shl => split at h <;> cases h; exact wrap_in ..
  case shr =>
    split at h <;> cases h
    generalize hp : (2 : Int) ^ min y.toNat k.bits = p
    have hp0 : 0 < p := by rw [← hp]; exact Int.pow_pos (by omega)
    rw [Int.fdiv_eq_ediv_of_nonneg _ (by omega)]
    by_cases h0 : 0 ≤ x
    · have := Int.ediv_nonneg h0 (show 0 ≤ p by omega); have := Int.ediv_le_self p h0; omega
    · have h1 : x / p < 0 := Int.ediv_neg_of_neg_of_pos (by omega) hp0
      have h2 : x ≤ x / p := by
        have := Int.mul_ediv_add_emod x p
        have := Int.emod_nonneg x (show p ≠ 0 by omega)
        have := Int.emod_lt_of_pos x hp0
        have h3 : (p - 1) * (x / p) ≤ (p - 1) * (-1) := Int.mul_le_mul_of_nonneg_left (by omega) (by omega)
        rw [Int.sub_mul] at h3
        omega
      omega
  all_goals cases h

theorem arSI_ok {Γ : Box} {ρ : Nat → Int} (hρ : Γ.has ρ) {op : BinOp} {k : IntKind} {a b s : SI} (h : arSI Γ op k a b = some s) {x y : Int} (ha : a.is ρ x) (hb : b.is ρ y)
    (hx : fits k x = true) (hy : op ≠ .shl → op ≠ .shr → fits k y = true) : ∃ n, s.is ρ n ∧ fits k n = true ∧ arVal op k x y = some n := by
  rw [fits_iff] at hx
  have hy' : op ≠ .shl → op ≠ .shr → k.min ≤ y ∧ y ≤ k.max := fun h1 h2 => (fits_iff k y).1 (hy h1 h2)
  suffices hs : ∃ n, s.is ρ n ∧ arVal op k x y = some n by
    obtain ⟨n, h1, h2⟩ := hs
    exact ⟨n, h1, (fits_iff k n).2 (arVal_in h2 hx), h2⟩
  unfold arSI at h
  split at h
  · rename_i u
    split at h
    · rename_i v
      simp only [SI.is] at ha hb; subst ha; subst hb
      cases hl : arLit op k x y with
      | none => rw [hl] at h; cases h
      | some n => rw [hl] at h; cases h; exact ⟨n, rfl, arLit_ok hl⟩
    · exact arSym_ok hρ h ha hb hx hy'
  · exact arSym_ok hρ h ha hb hx hy'

/-! Comparisons. -/

def diffB (Γ : Box) (a b : SI) : Option (Int × Int) :=
  match tsOf a, tsOf b with
  | some (c, p), some (d, q) => (linBounds Γ (addTs p (mulTs (-1) q))).map fun (l, h) => (c - d + l, c - d + h)
  | _, _ =>
    match a.bounds Γ, b.bounds Γ with
    | some (l, h), some (l', h') => some (l - h', h - l')
    | _, _ => none

theorem diffB_ok {Γ : Box} {ρ : Nat → Int} (hρ : Γ.has ρ) {a b : SI} {x y l h : Int} (hd : diffB Γ a b = some (l, h)) (ha : a.is ρ x) (hb : b.is ρ y) : l ≤ x - y ∧ x - y ≤ h := by
  unfold diffB at hd
  split at hd
  · rename_i c p d q hp hq
    have h1 := tsOf_ok hp ha
    have h2 := tsOf_ok hq hb
    simp only [Option.map_eq_some_iff] at hd
    obtain ⟨⟨l', h'⟩, hl, e⟩ := hd
    simp only [Prod.mk.injEq] at e
    have := linBounds_ok hρ _ _ _ hl
    rw [linVal_add, linVal_mul] at this
    omega
  · split at hd
    · rename_i l1 h1 l2 h2 e1 e2
      cases hd
      have := SI.bounds_ok hρ e1 ha
      have := SI.bounds_ok hρ e2 hb
      omega
    · cases hd

/-- What a comparison tells of a difference between two bounds. -/
def triB (op : BinOp) (l h : Int) : Option Bool :=
  match op with
  | .eql => (match ltF 0 l with | true => some false | false => (match ltF h 0 with | true => some false | false => (match eqF l 0 && eqF h 0 with | true => some true | false => none)))
  | .neq => (match ltF 0 l with | true => some true | false => (match ltF h 0 with | true => some true | false => (match eqF l 0 && eqF h 0 with | true => some false | false => none)))
  | .lss => (match ltF h 0 with | true => some true | false => (match leF 0 l with | true => some false | false => none))
  | .geq => (match ltF h 0 with | true => some false | false => (match leF 0 l with | true => some true | false => none))
  | .leq => (match leF h 0 with | true => some true | false => (match ltF 0 l with | true => some false | false => none))
  | .gtr => (match leF h 0 with | true => some false | false => (match ltF 0 l with | true => some true | false => none))
  | _ => none

/-- What it comes to. -/
def cmpVal (op : BinOp) (x y : Int) : Option Bool :=
  match op with
  | .eql => some (decide (x = y))
  | .neq => some (decide (x ≠ y))
  | .lss => some (decide (x < y))
  | .leq => some (decide (x ≤ y))
  | .gtr => some (decide (x > y))
  | .geq => some (decide (x ≥ y))
  | _ => none

def cmpLit (op : BinOp) (x y : Int) : Option Bool :=
  match op with
  | .eql => some (eqF x y)
  | .neq => some (!eqF x y)
  | .lss => some (ltF x y)
  | .leq => some (leF x y)
  | .gtr => some (ltF y x)
  | .geq => some (leF y x)
  | _ => none

theorem cmpLit_eq (op : BinOp) (x y : Int) : cmpLit op x y = cmpVal op x y := by
  cases op <;> simp only [cmpLit, cmpVal, eqF_eq, ltF_eq, leF_eq] <;> simp

theorem triB_ok {op : BinOp} {l h x y : Int} {r : Bool} (ht : triB op l h = some r) (hl : l ≤ x - y) (hh : x - y ≤ h) : cmpVal op x y = some r := by
  cases op <;> simp only [triB] at ht
  case eql =>
    split at ht
    · rename_i e; rw [ltF_eq] at e; simp at e; cases ht; simp [cmpVal]; omega
    · split at ht
      · rename_i e; rw [ltF_eq] at e; simp at e; cases ht; simp [cmpVal]; omega
      · split at ht
        · rename_i e; rw [Bool.and_eq_true, eqF_eq, eqF_eq] at e; simp at e; cases ht; simp [cmpVal]; omega
        · cases ht
  case neq =>
    split at ht
    · rename_i e; rw [ltF_eq] at e; simp at e; cases ht; simp [cmpVal]; omega
    · split at ht
      · rename_i e; rw [ltF_eq] at e; simp at e; cases ht; simp [cmpVal]; omega
      · split at ht
        · rename_i e; rw [Bool.and_eq_true, eqF_eq, eqF_eq] at e; simp at e; cases ht; simp [cmpVal]; omega
        · cases ht
  case lss | geq =>
    split at ht
    · rename_i e; rw [ltF_eq] at e; simp at e; cases ht; simp [cmpVal]; omega
    · split at ht
      · rename_i e; rw [leF_eq] at e; simp at e; cases ht; simp [cmpVal]; omega
      · cases ht
  case leq | gtr =>
    split at ht
    · rename_i e; rw [leF_eq] at e; simp at e; cases ht; simp [cmpVal]; omega
    · split at ht
      · rename_i e; rw [ltF_eq] at e; simp at e; cases ht; simp [cmpVal]; omega
      · cases ht
  all_goals cases ht

/-- A comparison's answer: a bool, or any. -/
def cmpSI (Γ : Box) (op : BinOp) (a b : SI) : Option LV :=
  match a with
  | .lit x => (match b with | .lit y => (cmpLit op x y).map .bool | _ => sym)
  | _ => sym
where
  sym : Option LV :=
    match diffB Γ a b with
    | some (l, h) => (match triB op l h with | some r => some (.bool r) | none => any)
    | none => any
  any : Option LV := (cmpVal op 0 0).map fun _ => .topb

theorem cmpVal_some {op : BinOp} {x y u v : Int} {r : Bool} (h : cmpVal op u v = some r) : ∃ r', cmpVal op x y = some r' := by
  cases op <;> simp only [cmpVal] at h ⊢ <;> first | exact ⟨_, rfl⟩ | cases h

theorem cmpSI_ok {Γ : Box} {μ : Emb} {ρ : Nat → Int} (hρ : Γ.has ρ) {op : BinOp} {a b : SI} {v : LV} (h : cmpSI Γ op a b = some v) {x y : Int} (ha : a.is ρ x) (hb : b.is ρ y) :
    ∃ r, cmpVal op x y = some r ∧ v.rel μ ρ (.bool r) := by
  have any : ∀ {v}, cmpSI.any op = some v → ∃ r, cmpVal op x y = some r ∧ v.rel μ ρ (.bool r) := by
    intro v hv
    unfold cmpSI.any at hv
    cases hc : cmpVal op 0 0 with
    | none => rw [hc] at hv; cases hv
    | some r0 =>
      rw [hc] at hv; cases hv
      obtain ⟨r', hr⟩ := cmpVal_some (x := x) (y := y) hc
      exact ⟨r', hr, r', rfl⟩
  have sym : ∀ {v}, cmpSI.sym Γ op a b = some v → ∃ r, cmpVal op x y = some r ∧ v.rel μ ρ (.bool r) := by
    intro v hv
    unfold cmpSI.sym at hv
    split at hv
    · rename_i l hh hd
      have := diffB_ok hρ hd ha hb
      split at hv
      · rename_i r ht
        cases hv
        exact ⟨r, triB_ok ht this.1 this.2, rfl⟩
      · exact any hv
    · exact any hv
  unfold cmpSI at h
  split at h
  · rename_i u
    split at h
    · rename_i w
      simp only [SI.is] at ha hb; subst ha; subst hb
      rw [cmpLit_eq] at h
      cases hc : cmpVal op x y with
      | none => rw [hc] at h; cases h
      | some r => rw [hc] at h; cases h; exact ⟨r, rfl, rfl⟩
    · exact sym h
  · exact sym h

end Go.Ev
