/- Generic part E: structs and arrays of bools, integers, strings: their cells one behind the other; when two are equal. -/
import Derived.Test.YtgkjbkkbjlhafaaGreatEvD
import Derived.DeepKeys
namespace Go.Ev

/-- The kind of a cell that can be held against another one. -/
inductive LK where
  | kb | ki (q : IntKind) | ks
  deriving DecidableEq

def LK.lit : LK → Value → Option Lit
  | .kb, .bool b => some (.bool b)
  | .ki q, .int q' n => if q' = q ∧ (Lit.int q n).wf = true then some (.int q n) else none
  | .ks, .string s => if s.size ≤ maxLen then some (.string s.data.toList) else none
  | _, _ => none

def litsOf : List LK → List Value → Option (List Lit)
  | [], [] => some []
  | k :: ks, v :: vs => match k.lit v, litsOf ks vs with | some l, some ls => some (l :: ls) | _, _ => none
  | _, _ => none

theorem litsOf_length : ∀ {ks : List LK} {vs : List Value} {ls : List Lit}, litsOf ks vs = some ls → vs.length = ks.length
  | [], [], _, _ => rfl
  | [], _ :: _, _, h => by simp [litsOf] at h
  | _ :: _, [], _, h => by simp [litsOf] at h
  | k :: ks, v :: vs, ls, h => by
    simp only [litsOf] at h
    split at h
    · rename_i l ls' _ h2; simp [litsOf_length h2]
    · cases h

theorem litsOf_one {k : LK} {vs : List Value} {ls : List Lit} (h : litsOf [k] vs = some ls) : ∃ v l, vs = [v] ∧ k.lit v = some l ∧ ls = [l] := by
  rcases vs with _ | ⟨v, _ | ⟨v', vs⟩⟩
  · simp [litsOf] at h
  · simp only [litsOf] at h
    split at h
    · rename_i l ls' e1 e2; cases e2; cases h; exact ⟨v, l, rfl, e1, rfl⟩
    · cases h
  · simp only [litsOf] at h
    split at h
    · rename_i l ls' e1 e2; cases e2
    · cases h

theorem litsOf_append : ∀ {ks1 ks2 : List LK} {vs : List Value} {ls : List Lit}, litsOf (ks1 ++ ks2) vs = some ls →
    ∃ l1 l2, litsOf ks1 (vs.take ks1.length) = some l1 ∧ litsOf ks2 (vs.drop ks1.length) = some l2 ∧ ls = l1 ++ l2
  | [], ks2, vs, ls, h => ⟨[], ls, by simp [litsOf], by simpa using h, rfl⟩
  | k :: ks1, ks2, [], ls, h => by simp [litsOf] at h
  | k :: ks1, ks2, v :: vs, ls, h => by
    simp only [List.cons_append, litsOf] at h
    split at h
    · rename_i l ls' h1 h2
      obtain ⟨l1, l2, e1, e2, e3⟩ := litsOf_append h2
      cases h
      refine ⟨l :: l1, l2, ?_, by simpa using e2, by simp [e3]⟩
      simp only [List.length_cons, List.take_succ_cons, litsOf, h1, e1]
    · cases h

/-- The fields' kinds, one behind the other from an offset on. -/
def flatFs (flat : TypeId → Option (List LK)) (size : TypeId → Nat) : Nat → List Field → Option (List LK)
  | _, [] => some []
  | off, f :: fs =>
    match Nat.beq f.offset off, flat f.type with
    | true, some ks => (match Nat.beq ks.length (size f.type) with | true => (flatFs flat size (off + ks.length) fs).map (ks ++ ·) | false => none)
    | _, _ => none

def repK (ks : List LK) : Nat → List LK
  | 0 => []
  | n + 1 => ks ++ repK ks n

/-- The cells' kinds of a type. -/
def flat (P : Program) : Nat → TypeId → Option (List LK)
  | 0, _ => none
  | d + 1, t =>
    match P.underlying t with
    | some .bool => some [.kb]
    | some (.int q) => some [.ki q]
    | some .string => some [.ks]
    | some (.array n e) =>
      (match flat P d e with
      | some ks => (match Nat.beq ks.length (P.cellsOf e) && Nat.beq (P.cellsOf t) (repK ks n).length with | true => some (repK ks n) | false => none)
      | none => none)
    | some (.struct fs) =>
      (match flatFs (flat P d) P.cellsOf 0 fs.toList with
      | some ks => (match fs.all (·.name != "_") && Nat.beq (P.cellsOf t) ks.length with | true => some ks | false => none)
      | none => none)
    | _ => none

theorem flatFs_ok {P : Program} {d : Nat} (IH : ∀ t ks, flat P d t = some ks → ∀ vs ls, litsOf ks vs = some ls → P.keyLits d t vs = some ls) :
    ∀ (fs : List Field) (off : Nat) (ks : List LK), flatFs (flat P d) P.cellsOf off fs = some ks → ∀ (cs : List Value) (ls : List Lit), litsOf ks (cs.drop off) = some ls →
      ∃ lss, fs.mapM (fun f => P.keyLits d f.type ((cs.drop f.offset).take (P.cellsOf f.type))) = some lss ∧ lss.flatten = ls := by
  intro fs
  induction fs with
  | nil =>
    intro off ks h cs ls hl
    simp only [flatFs, Option.some.injEq] at h
    subst h
    cases hd : cs.drop off with
    | nil => rw [hd] at hl; simp [litsOf] at hl; subst hl; exact ⟨[], by simp, rfl⟩
    | cons _ _ => rw [hd] at hl; simp [litsOf] at hl
  | cons f fs ih =>
    intro off ks h cs ls hl
    simp only [flatFs] at h
    split at h
    · rename_i kf ho hk
      split at h
      · rename_i hn
        simp only [Option.map_eq_some_iff] at h
        obtain ⟨ks', h1, rfl⟩ := h
        have hoff : f.offset = off := Nat.eq_of_beq_eq_true ho
        have hsz : kf.length = P.cellsOf f.type := Nat.eq_of_beq_eq_true hn
        obtain ⟨l1, l2, e1, e2, rfl⟩ := litsOf_append hl
        rw [List.drop_drop] at e2
        obtain ⟨lss, m1, m2⟩ := ih _ _ h1 cs l2 e2
        refine ⟨l1 :: lss, ?_, by simp [m2]⟩
        rw [List.mapM_cons]
        have := IH _ _ hk _ _ e1
        rw [hoff, ← hsz, this, m1]
        rfl
      · cases h
    · cases h

theorem repK_ok {P : Program} {d : Nat} {e : TypeId} {ks : List LK} (hs : ks.length = P.cellsOf e) (IH : ∀ vs ls, litsOf ks vs = some ls → P.keyLits d e vs = some ls) :
    ∀ (n off : Nat) (cs : List Value) (ls : List Lit), litsOf (repK ks n) (cs.drop (off * P.cellsOf e)) = some ls →
      ∃ lss, ((List.range' off n).mapM fun i => P.keyLits d e ((cs.drop (i * P.cellsOf e)).take (P.cellsOf e))) = some lss ∧ lss.flatten = ls := by
  intro n
  induction n with
  | zero =>
    intro off cs ls hl
    simp only [repK] at hl
    cases hd : cs.drop (off * P.cellsOf e) with
    | nil => rw [hd] at hl; simp [litsOf] at hl; subst hl; exact ⟨[], by simp, rfl⟩
    | cons _ _ => rw [hd] at hl; simp [litsOf] at hl
  | succ n ih =>
    intro off cs ls hl
    simp only [repK] at hl
    obtain ⟨l1, l2, e1, e2, rfl⟩ := litsOf_append hl
    rw [List.drop_drop, hs, show off * P.cellsOf e + P.cellsOf e = (off + 1) * P.cellsOf e by rw [Nat.add_mul]; omega] at e2
    obtain ⟨lss, m1, m2⟩ := ih (off + 1) cs l2 e2
    refine ⟨l1 :: lss, ?_, by simp [m2]⟩
    rw [List.range'_succ, List.mapM_cons]
    have := IH _ _ e1
    rw [hs] at this
    rw [this, m1]
    rfl

theorem flat_ok {P : Program} : ∀ (d : Nat) (t : TypeId) (ks : List LK), flat P d t = some ks → ∀ vs ls, litsOf ks vs = some ls → P.keyLits d t vs = some ls := by
  intro d
  induction d with
  | zero => intro t ks h; simp [flat] at h
  | succ d ih =>
    intro t ks h vs ls hl
    simp only [flat] at h
    split at h
    case h_1 hu =>
      cases h
      obtain ⟨v, l, rfl, e, rfl⟩ := litsOf_one hl
      cases v <;> simp only [LK.lit] at e <;> cases e
      simp [Program.keyLits, hu]
    case h_2 q hu =>
      cases h
      obtain ⟨v, l, rfl, e, rfl⟩ := litsOf_one hl
      cases v <;> simp only [LK.lit] at e <;> try (cases e; done)
      split at e
      · rename_i hq; cases e; simp only [Program.keyLits, hu]; rw [if_pos hq]
      · cases e
    case h_3 hu =>
      cases h
      obtain ⟨v, l, rfl, e, rfl⟩ := litsOf_one hl
      cases v <;> simp only [LK.lit] at e <;> try (cases e; done)
      split at e
      · rename_i hq; cases e; simp only [Program.keyLits, hu]; rw [if_pos hq]
      · cases e
    case h_4 n e hu =>
      split at h
      · rename_i kf hf
        split at h
        · rename_i hb
          cases h
          rw [Bool.and_eq_true] at hb
          have h1 := Nat.eq_of_beq_eq_true hb.1
          have h2 := Nat.eq_of_beq_eq_true hb.2
          have hlen := litsOf_length hl
          obtain ⟨lss, m1, m2⟩ := repK_ok h1 (ih e kf hf) n 0 vs ls (by simpa using hl)
          simp only [Program.keyLits, hu]
          rw [if_pos (by omega), List.range_eq_range', m1]
          simp [m2]
        · cases h
      · cases h
    case h_5 fs hu =>
      split at h
      · rename_i kf hf
        split at h
        · rename_i hb
          cases h
          rw [Bool.and_eq_true] at hb
          have h2 := Nat.eq_of_beq_eq_true hb.2
          have hlen := litsOf_length hl
          obtain ⟨lss, m1, m2⟩ := flatFs_ok ih fs.toList 0 ks hf vs ls (by simpa using hl)
          simp only [Program.keyLits, hu]
          rw [if_pos ⟨by omega, hb.1⟩, m1]
          simp [m2]
        · cases h
      · cases h
    case h_6 => cases h

/-! Symbolic cells held against one another. -/

/-- Are two strings alike? (.bool, or .topb) -/
def eqStr (Γ : Box) : List SI → List SI → LV
  | [], [] => .bool true
  | a :: x, b :: y =>
    match cmpSI Γ .eql a b with
    | some (.bool true) => eqStr Γ x y
    | some (.bool false) => .bool false
    | _ => (match eqStr Γ x y with | .bool false => .bool false | _ => .topb)
  | _, _ => .bool false

theorem eqStr_ok {Γ : Box} {μ : Emb} {ρ : Nat → Int} (hρ : Γ.has ρ) : ∀ {x y : List SI} {s t : List UInt8}, All2 (fun (b : SI) (u : UInt8) => b.is ρ u.toNat) x s → All2 (fun (b : SI) (u : UInt8) => b.is ρ u.toNat) y t →
    (eqStr Γ x y).rel μ ρ (.bool (decide (s = t)))
  | [], [], _, _, .nil, .nil => by simp [eqStr, LV.rel]
  | [], b :: y, _, _, .nil, .cons _ _ => by simp [eqStr, LV.rel]
  | a :: x, [], _, _, .cons _ _, .nil => by simp [eqStr, LV.rel]
  | a :: x, b :: y, u :: s, v :: t, .cons ha hx, .cons hb hy => by
    have ih := eqStr_ok (μ := μ) hρ hx hy
    have huv : ((u.toNat : Int) = v.toNat) ↔ u = v := by
      constructor
      · intro h; exact UInt8.toNat_inj.1 (by omega)
      · intro h; rw [h]
    simp only [eqStr]
    split
    · rename_i hc
      obtain ⟨r, h1, h2⟩ := cmpSI_ok (μ := μ) hρ hc ha hb
      simp only [cmpVal, Option.some.injEq] at h1
      simp only [LV.rel, Value.bool.injEq] at h2
      subst h2
      rw [decide_eq_true_iff, huv] at h1
      subst h1
      simpa using ih
    · rename_i hc
      obtain ⟨r, h1, h2⟩ := cmpSI_ok (μ := μ) hρ hc ha hb
      simp only [cmpVal, Option.some.injEq] at h1
      simp only [LV.rel, Value.bool.injEq] at h2
      subst h2
      rw [decide_eq_false_iff_not, huv] at h1
      simp [LV.rel, h1]
    · split
      · rename_i he
        rw [he] at ih
        simp only [LV.rel, Value.bool.injEq, decide_eq_false_iff_not] at ih ⊢
        intro h; exact ih (by simp at h; exact h.2)
      · exact ⟨_, rfl⟩

/-- One cell against another one. -/
def eqCell (Γ : Box) (k : LK) (x y : LV) : LV :=
  match k with
  | .kb => (match x with | .bool a => (match y with | .bool b => .bool (a == b) | .topb => .topb | _ => .unk) | .topb => (match y with | .bool _ => .topb | .topb => .topb | _ => .unk) | _ => .unk)
  | .ki q => (match x with
      | .int j a => (match y with
        | .int j' b => (match kindEq j q && kindEq j' q with | true => (match cmpSI Γ .eql a b with | some v => v | none => .unk) | false => .unk)
        | _ => .unk)
      | _ => .unk)
  | .ks => (match x with | .str a => (match y with | .str b => eqStr Γ a b | _ => .unk) | _ => .unk)

/-- The sizes of strings that may be read as keys. -/
def smallStr : LV → Bool
  | .str a => Nat.ble a.length 1048576
  | _ => true

/-- All cells: are they alike? (.unk: it can't be said) -/
def eqCells (Γ : Box) : List LK → List LV → List LV → LV
  | [], [], [] => .bool true
  | k :: ks, x :: xs, y :: ys =>
    match smallStr x && smallStr y with
    | false => .unk
    | true =>
      match eqCell Γ k x y with
      | .bool true => eqCells Γ ks xs ys
      | .bool false => (match eqCells Γ ks xs ys with | .bool _ => .bool false | .topb => .bool false | _ => .unk)
      | .topb => (match eqCells Γ ks xs ys with | .bool false => .bool false | .bool true => .topb | .topb => .topb | _ => .unk)
      | _ => .unk
  | _, _, _ => .unk

def isB : LV → Bool
  | .bool _ => true
  | .topb => true
  | _ => false

theorem wf_int {k : IntKind} {n : Int} (h : fits k n = true) : (Lit.int k n).wf = true := by
  rw [fits_iff] at h
  simp [Lit.wf, h.1, h.2]

theorem eqCell_ok {Γ : Box} {μ : Emb} {ρ : Nat → Int} (hρ : Γ.has ρ) {k : LK} {x y : LV} (h : isB (eqCell Γ k x y) = true) (hs : (smallStr x && smallStr y) = true) {u v : Value} (hx : x.rel μ ρ u) (hy : y.rel μ ρ v) :
    ∃ lu lv r, k.lit u = some lu ∧ k.lit v = some lv ∧ (r = true ↔ lu = lv) ∧ (eqCell Γ k x y).rel μ ρ (.bool r) := by
  cases k with
  | kb =>
    have key : ∀ a b : Bool, ((a == b) = true ↔ Lit.bool a = Lit.bool b) := by intro a b; cases a <;> cases b <;> simp
    cases x <;> try (simp [eqCell, isB] at h; done)
    · cases y <;> try (simp [eqCell, isB] at h; done)
      · cases hx; cases hy; exact ⟨_, _, _, rfl, rfl, key _ _, rfl⟩
      · cases hx; obtain ⟨_, rfl⟩ := hy; exact ⟨_, _, _, rfl, rfl, key _ _, _, rfl⟩
    · cases y <;> try (simp [eqCell, isB] at h; done)
      · obtain ⟨_, rfl⟩ := hx; cases hy; exact ⟨_, _, _, rfl, rfl, key _ _, _, rfl⟩
      · obtain ⟨_, rfl⟩ := hx; obtain ⟨_, rfl⟩ := hy; exact ⟨_, _, _, rfl, rfl, key _ _, _, rfl⟩
  | ki q =>
    cases x <;> try (simp [eqCell, isB] at h; done)
    cases y <;> try (simp [eqCell, isB] at h; done)
    rename_i j a j' b
    simp only [eqCell] at h ⊢
    cases hk : (kindEq j q && kindEq j' q) with
    | false => rw [hk] at h; simp [isB] at h
    | true =>
      rw [hk] at h
      dsimp only at h ⊢
      rw [Bool.and_eq_true] at hk
      obtain rfl := kindEq_eq hk.1
      obtain rfl := kindEq_eq hk.2
      obtain ⟨n, ha, fa, rfl⟩ := hx
      obtain ⟨m, hb, fb, rfl⟩ := hy
      cases hc : cmpSI Γ .eql a b with
      | none => rw [hc] at h; simp [isB] at h
      | some w =>
        dsimp only
        obtain ⟨r, h1, h2⟩ := cmpSI_ok (μ := μ) hρ hc ha hb
        simp only [cmpVal, Option.some.injEq] at h1
        exact ⟨.int j' n, .int j' m, r, by simp [LK.lit, wf_int fa], by simp [LK.lit, wf_int fb], by rw [← h1]; simp, h2⟩
  | ks =>
    cases x <;> try (simp [eqCell, isB] at h; done)
    cases y <;> try (simp [eqCell, isB] at h; done)
    rename_i a b
    obtain ⟨s, ha, rfl⟩ := hx
    obtain ⟨t, hb, rfl⟩ := hy
    simp only [smallStr, Bool.and_eq_true, Nat.ble_eq] at hs
    have e1 : s.data.toList.length = s.size := Array.length_toList
    have e2 : t.data.toList.length = t.size := Array.length_toList
    have l1 : s.size ≤ maxLen := by have := ha.length; unfold maxLen; omega
    have l2 : t.size ≤ maxLen := by have := hb.length; unfold maxLen; omega
    refine ⟨_, _, _, if_pos l1, if_pos l2, ?_, eqStr_ok (μ := μ) hρ ha hb⟩
    rw [decide_eq_true_iff]; simp

theorem eqCells_ok {Γ : Box} {μ : Emb} {ρ : Nat → Int} (hρ : Γ.has ρ) : ∀ {ks : List LK} {xs ys : List LV}, isB (eqCells Γ ks xs ys) = true → ∀ {us vs : List Value}, All2 (LV.rel μ ρ) xs us → All2 (LV.rel μ ρ) ys vs →
    ∃ lu lv r, litsOf ks us = some lu ∧ litsOf ks vs = some lv ∧ (r = true ↔ lu = lv) ∧ (eqCells Γ ks xs ys).rel μ ρ (.bool r)
  | [], [], [], _, _, _, .nil, .nil => ⟨[], [], true, rfl, rfl, by simp, rfl⟩
  | [], [], _ :: _, h, _, _, _, _ => by simp [eqCells, isB] at h
  | [], _ :: _, _, h, _, _, _, _ => by simp [eqCells, isB] at h
  | _ :: _, [], _, h, _, _, _, _ => by simp [eqCells, isB] at h
  | _ :: _, _ :: _, [], h, _, _, _, _ => by simp [eqCells, isB] at h
  | k :: ks, x :: xs, y :: ys, h, u :: us, v :: vs, .cons hx hxs, .cons hy hys => by
    simp only [eqCells] at h ⊢
    cases hs : (smallStr x && smallStr y) with
    | false => rw [hs] at h; simp [isB] at h
    | true =>
      rw [hs] at h
      dsimp only at h ⊢
      have cell := fun hb => eqCell_ok (k := k) hρ hb hs hx hy
      have rest := fun hb => eqCells_ok (ks := ks) (xs := xs) (ys := ys) hρ hb hxs hys
      cases he : eqCell Γ k x y with
      | bool c =>
        rw [he] at h
        obtain ⟨lu, lv, r, c1, c2, c3, c4⟩ := cell (by rw [he]; rfl)
        rw [he] at c4
        simp only [LV.rel, Value.bool.injEq] at c4
        subst c4
        cases r with
        | true =>
          dsimp only at h ⊢
          obtain ⟨lus, lvs, r', r1, r2, r3, r4⟩ := rest h
          refine ⟨lu :: lus, lv :: lvs, r', by simp [litsOf, c1, r1], by simp [litsOf, c2, r2], ?_, r4⟩
          rw [r3, c3.1 rfl]; simp
        | false =>
          dsimp only at h ⊢
          have hne : lu ≠ lv := fun e => by have := c3.2 e; cases this
          cases hr : eqCells Γ ks xs ys <;> rw [hr] at h <;> try (simp [isB] at h; done)
          all_goals
            obtain ⟨lus, lvs, r', r1, r2, r3, r4⟩ := rest (by rw [hr]; rfl)
            exact ⟨lu :: lus, lv :: lvs, false, by simp [litsOf, c1, r1], by simp [litsOf, c2, r2], by simp [hne], rfl⟩
      | topb =>
        rw [he] at h
        dsimp only at h ⊢
        obtain ⟨lu, lv, r, c1, c2, c3, c4⟩ := cell (by rw [he]; rfl)
        cases hr : eqCells Γ ks xs ys <;> rw [hr] at h <;> try (simp [isB] at h; done)
        · rename_i b
          obtain ⟨lus, lvs, r', r1, r2, r3, r4⟩ := rest (by rw [hr]; rfl)
          rw [hr] at r4
          simp only [LV.rel, Value.bool.injEq] at r4
          subst r4
          cases r' with
          | true => exact ⟨lu :: lus, lv :: lvs, r, by simp [litsOf, c1, r1], by simp [litsOf, c2, r2], by rw [c3]; simp [r3.1 rfl], _, rfl⟩
          | false =>
            have hne : lus ≠ lvs := fun e => by have := r3.2 e; cases this
            exact ⟨lu :: lus, lv :: lvs, false, by simp [litsOf, c1, r1], by simp [litsOf, c2, r2], by simp [hne], rfl⟩
        · obtain ⟨lus, lvs, r', r1, r2, r3, r4⟩ := rest (by rw [hr]; rfl)
          exact ⟨lu :: lus, lv :: lvs, r && r', by simp [litsOf, c1, r1], by simp [litsOf, c2, r2], by simp [c3, r3], _, rfl⟩
      | _ => rw [he] at h; simp [isB] at h

end Go.Ev
