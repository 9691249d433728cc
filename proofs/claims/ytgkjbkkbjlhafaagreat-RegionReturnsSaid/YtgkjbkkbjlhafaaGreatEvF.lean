/- Generic part F: slots and operands; constants; the operations' words that evaluate in one way, each forcing what it hands on. -/
import Derived.Test.YtgkjbkkbjlhafaaGreatEvE
import Derived.Laws.Entries
namespace Go.Ev

/-! Slots. -/

def posOf : Nat → Nat → Pos
  | 0, _ => .xH
  | f + 1, n => match Nat.ble n 1 with | true => .xH | false => (match Nat.beq (n % 2) 0 with | true => .xO (posOf f (n / 2)) | false => .xI (posOf f (n / 2)))

/-- A slot's place. -/
def spos (t : Nat) : Option Pos := match Nat.beq (posOf 12 (t + 1)).toNat (t + 1) with | true => some (posOf 12 (t + 1)) | false => none

theorem spos_ok {t : Nat} {p : Pos} (h : spos t = some p) : p.toNat = t + 1 := by
  unfold spos at h
  split at h
  · rename_i hb; cases h; exact Nat.eq_of_beq_eq_true hb
  · cases h

/-- The slots, as they are kept, are what lies in a frame. -/
def TR (μ : Emb) (ρ : Nat → Int) (tm : T AV) (tmps : Array Value) : Prop := ∀ p v, tm.get p = some v → ∃ i x, p.toNat = i + 1 ∧ tmps[i]? = some x ∧ v.rel μ ρ x

theorem TR.le {μ μ' : Emb} {ρ : Nat → Int} {tm : T AV} {tmps : Array Value} (h : TR μ ρ tm tmps) (hle : μ.Le μ') : TR μ' ρ tm tmps :=
  fun p v hv => let ⟨i, x, h1, h2, h3⟩ := h p v hv; ⟨i, x, h1, h2, AV.rel_le hle h3⟩

theorem TR.put {μ : Emb} {ρ : Nat → Int} {tm : T AV} {tmps : Array Value} (h : TR μ ρ tm tmps) {d : Nat} {p : Pos} (hp : spos d = some p) (hd : d < tmps.size) {v : Option AV} {x : Value} (hv : ∀ u, v = some u → u.rel μ ρ x) :
    TR μ ρ (T.put p v tm) (tmps.setIfInBounds d x) := by
  intro q u hu
  rw [T.get_put] at hu
  split at hu
  · rename_i e
    subst e
    exact ⟨d, x, spos_ok hp, by simp [hd], hv u hu⟩
  · rename_i e
    obtain ⟨i, y, h1, h2, h3⟩ := h q u hu
    refine ⟨i, y, h1, ?_, h3⟩
    rw [Array.getElem?_setIfInBounds_ne]
    · exact h2
    · rintro rfl
      exact e (Pos.toNat_inj (h1.trans (spos_ok hp).symm))

/-! Constants. -/

def clv : Value → Option LV
  | .bool b => some (.bool b)
  | .int k n => (match fits k n with | true => some (.int k (.lit n)) | false => none)
  | .string s => some (.str (s.data.toList.map fun u => .lit (Int.ofNat u.toNat)))
  | .pointer none => some .nilptr
  | .slice none 0 0 => some .nilslice
  | .map none => some .nilmap
  | .nilFunc => some .nilfunc
  | .nilIface => some .niliface
  | .func (.func f) first captured => (match Nat.beq (first.size + captured.size) 0 with | true => some (.func f []) | false => none)
  | _ => none

def clvs : List Value → Option (List LV)
  | [] => some []
  | v :: vs => match clv v, clvs vs with | some x, some xs => some (x :: xs) | _, _ => none

def cav : Value → Option AV
  | .agg cs => (clvs cs.toList).map .agg
  | v => (clv v).map .leaf

theorem strIs_const (ρ : Nat → Int) (s : ByteArray) : strIs ρ (s.data.toList.map fun u => .lit (Int.ofNat u.toNat)) s := by
  unfold strIs
  induction s.data.toList with
  | nil => exact .nil
  | cons u l ih => exact .cons rfl ih

theorem clv_ok {v : Value} {x : LV} (h : clv v = some x) (μ : Emb) (ρ : Nat → Int) : x.rel μ ρ v := by
  unfold clv at h
  split at h
  · cases h; rfl
  · split at h
    · rename_i hf; cases h; exact ⟨_, rfl, hf, rfl⟩
    · cases h
  · cases h; exact ⟨_, strIs_const ρ _, rfl⟩
  · cases h; rfl
  · cases h; rfl
  · cases h; rfl
  · cases h; rfl
  · cases h; rfl
  · rename_i f first captured
    split at h
    · rename_i hb
      cases h
      have hb := Nat.eq_of_beq_eq_true hb
      have h1 : first = #[] := Array.eq_empty_of_size_eq_zero (by omega)
      have h2 : captured = #[] := Array.eq_empty_of_size_eq_zero (by omega)
      exact ⟨[], .nil, by rw [h1, h2]⟩
    · cases h
  · cases h

theorem clvs_ok {vs : List Value} {xs : List LV} (h : clvs vs = some xs) (μ : Emb) (ρ : Nat → Int) : All2 (LV.rel μ ρ) xs vs := by
  induction vs generalizing xs with
  | nil => cases h; exact .nil
  | cons v vs ih =>
    simp only [clvs] at h
    split at h
    · rename_i x xs' h1 h2; cases h; exact .cons (clv_ok h1 μ ρ) (ih h2)
    · cases h

theorem cav_ok {v : Value} {x : AV} (h : cav v = some x) (μ : Emb) (ρ : Nat → Int) : x.rel μ ρ v := by
  unfold cav at h
  split at h
  · simp only [Option.map_eq_some_iff] at h
    obtain ⟨xs, h1, rfl⟩ := h
    exact ⟨_, clvs_ok h1 μ ρ, by simp⟩
  · simp only [Option.map_eq_some_iff] at h
    obtain ⟨y, h1, rfl⟩ := h
    exact clv_ok h1 μ ρ

/-! Operands. -/

inductive Opd where
  | t (p : Pos)
  | c (v : AV)

def copd : Operand → Option Opd
  | .tmp t => (spos t).map .t
  | .const v => (cav v).map .c
  | .func f => some (.c (.leaf (.func f [])))
  | .global _ => none

section
variable {Ω : Type}

noncomputable def opdK (tm : T AV) (x : Opd) (k : AV → Option Ω) : Option Ω :=
  match x with
  | .t p => (match tm.get p with | some v => k v | none => none)
  | .c v => k v

theorem opdK_ok {μ : Emb} {ρ : Nat → Int} {tm : T AV} {a : Act} (hT : TR μ ρ tm a.tmps) {x : Operand} {y : Opd} (hc : copd x = some y) {k : AV → Option Ω} {r : Ω} (h : opdK tm y k = some r) :
    ∃ v, k v = some r ∧ v.rel μ ρ (a.eval x) := by
  cases x with
  | tmp t =>
    simp only [copd, Option.map_eq_some_iff] at hc
    obtain ⟨p, hp, rfl⟩ := hc
    simp only [opdK] at h
    split at h
    · rename_i v hv
      obtain ⟨i, x, h1, h2, h3⟩ := hT p v hv
      have : i = t := by have := spos_ok hp; omega
      subst this
      exact ⟨v, h, by simpa [Act.eval, h2] using h3⟩
    · cases h
  | const v =>
    simp only [copd, Option.map_eq_some_iff] at hc
    obtain ⟨u, hu, rfl⟩ := hc
    exact ⟨u, h, cav_ok hu μ ρ⟩
  | func f =>
    simp only [copd, Option.some.injEq] at hc
    subst hc
    exact ⟨_, h, [], .nil, rfl⟩
  | global g => simp [copd] at hc

def copds : List Operand → Option (List Opd)
  | [] => some []
  | x :: xs => match copd x, copds xs with | some y, some ys => some (y :: ys) | _, _ => none

/-- All operands' values. -/
noncomputable def opdsK (tm : T AV) (l : List Opd) : (List AV → Option Ω) → Option Ω :=
  List.rec (motive := fun _ => (List AV → Option Ω) → Option Ω) (fun k => k []) (fun x _ ih k => opdK tm x fun v => ih fun vs => k (v :: vs)) l

theorem opdsK_ok {μ : Emb} {ρ : Nat → Int} {tm : T AV} {a : Act} (hT : TR μ ρ tm a.tmps) : ∀ {xs : List Operand} {ys : List Opd}, copds xs = some ys → ∀ {k : List AV → Option Ω} {r : Ω}, opdsK tm ys k = some r →
    ∃ vs, k vs = some r ∧ All2 (AV.rel μ ρ) vs (xs.map a.eval)
  | [], ys, hc, k, r, h => by simp only [copds, Option.some.injEq] at hc; subst hc; exact ⟨[], h, .nil⟩
  | x :: xs, ys, hc, k, r, h => by
    simp only [copds] at hc
    split at hc
    · rename_i y ys' h1 h2
      cases hc
      obtain ⟨v, hv, hr⟩ := opdK_ok hT h1 (k := fun v => opdsK tm ys' fun vs => k (v :: vs)) h
      obtain ⟨vs, hvs, hrs⟩ := opdsK_ok hT h2 hv
      exact ⟨v :: vs, hvs, .cons hr hrs⟩
    · cases hc

def leafK (x : AV) (k : LV → Option Ω) : Option Ω := match x with | .leaf v => k v | _ => none
theorem leafK_ok {x : AV} {k : LV → Option Ω} {r : Ω} (h : leafK x k = some r) : ∃ v, x = .leaf v ∧ k v = some r := by
  cases x with
  | leaf v => exact ⟨v, rfl, h⟩
  | _ => cases h

def aggK (x : AV) (k : List LV → Option Ω) : Option Ω := match x with | .agg v => k v | _ => none
theorem aggK_ok {x : AV} {k : List LV → Option Ω} {r : Ω} (h : aggK x k = some r) : ∃ v, x = .agg v ∧ k v = some r := by
  cases x with
  | agg v => exact ⟨v, rfl, h⟩
  | _ => cases h

def intK (x : AV) (k : IntKind → SI → Option Ω) : Option Ω := match x with | .leaf v => (match v with | .int j i => k j i | _ => none) | _ => none
theorem intK_ok {x : AV} {k : IntKind → SI → Option Ω} {r : Ω} (h : intK x k = some r) : ∃ j i, x = .leaf (.int j i) ∧ k j i = some r := by
  cases x with
  | leaf v => cases v with
    | int j i => exact ⟨j, i, rfl, h⟩
    | _ => cases h
  | _ => cases h

/-- A number that is known, and nowhere below zero. -/
def natK (x : AV) (k : Nat → Option Ω) : Option Ω := intK x fun _ i => match i with | .lit n => (match n with | .ofNat m => k m | .negSucc _ => none) | _ => none
theorem natK_ok {μ : Emb} {ρ : Nat → Int} {x : AV} {k : Nat → Option Ω} {r : Ω} (h : natK x k = some r) {v : Value} (hv : x.rel μ ρ v) : ∃ j m, k m = some r ∧ v = .int j (Int.ofNat m) := by
  obtain ⟨j, i, rfl, h'⟩ := intK_ok h
  clear h
  cases i with
  | lit n =>
    cases n with
    | ofNat m =>
      obtain ⟨n, hn, _, rfl⟩ := hv
      simp only [SI.is] at hn; subst hn
      exact ⟨j, m, h', rfl⟩
    | negSucc m => cases h'
  | _ => cases h'

def boolK (x : AV) (k : Bool → Option Ω) : Option Ω := match x with | .leaf v => (match v with | .bool b => k b | _ => none) | _ => none
theorem boolK_ok {μ : Emb} {ρ : Nat → Int} {x : AV} {k : Bool → Option Ω} {r : Ω} (h : boolK x k = some r) {v : Value} (hv : x.rel μ ρ v) : ∃ b, k b = some r ∧ v = .bool b := by
  cases x with
  | leaf y => cases y with
    | bool b => cases hv; exact ⟨b, h, rfl⟩
    | _ => cases h
  | _ => cases h

def strK (x : AV) (k : List SI → Option Ω) : Option Ω := match x with | .leaf v => (match v with | .str b => k b | _ => none) | _ => none
theorem strK_ok {μ : Emb} {ρ : Nat → Int} {x : AV} {k : List SI → Option Ω} {r : Ω} (h : strK x k = some r) {v : Value} (hv : x.rel μ ρ v) : ∃ b s, k b = some r ∧ strIs ρ b s ∧ v = .string s := by
  cases x with
  | leaf y => cases y with
    | str b => obtain ⟨s, hs, rfl⟩ := hv; exact ⟨b, s, h, hs, rfl⟩
    | _ => cases h
  | _ => cases h

def ptrK (x : AV) (k : Pos → Nat → Option Ω) : Option Ω := match x with | .leaf v => (match v with | .ptr b o => k b o | _ => none) | _ => none
theorem ptrK_ok {μ : Emb} {ρ : Nat → Int} {x : AV} {k : Pos → Nat → Option Ω} {r : Ω} (h : ptrK x k = some r) {v : Value} (hv : x.rel μ ρ v) :
    ∃ b o m, k b o = some r ∧ μ b = some m ∧ v = .pointer (some ⟨m.blk, m.base + o, none⟩) := by
  cases x with
  | leaf y => cases y with
    | ptr b o => obtain ⟨m, hm, rfl⟩ := hv; exact ⟨b, o, m, h, hm, rfl⟩
    | _ => cases h
  | _ => cases h

/-- A value's cells. -/
def cellsK (x : AV) (k : List LV → Option Ω) : Option Ω := match x with | .leaf v => k [v] | .agg cs => k cs | .tup _ => none
theorem cellsK_ok {μ : Emb} {ρ : Nat → Int} {x : AV} {k : List LV → Option Ω} {r : Ω} (h : cellsK x k = some r) {v : Value} (hv : x.rel μ ρ v) : ∃ cs, k cs = some r ∧ All2 (LV.rel μ ρ) cs v.cells.toList := by
  cases x with
  | leaf y =>
    refine ⟨[y], h, ?_⟩
    have h1 := LV.rel_one hv
    have h2 : v.cells = #[v] := by cases v <;> first | rfl | (simp [Value.oneCell'] at h1)
    rw [h2]; exact .cons hv .nil
  | agg cs => obtain ⟨xs, hx, rfl⟩ := hv; exact ⟨cs, h, by simpa [Value.cells] using hx⟩
  | tup _ => cases h

noncomputable def blkK (M : Mem) (b : Pos) (k : List LV → Option Ω) : Option Ω := match M.blks.get b with | some B => (match B with | .cells cs => k cs | _ => none) | none => none
theorem blkK_ok {M : Mem} {b : Pos} {k : List LV → Option Ω} {r : Ω} (h : blkK M b k = some r) : ∃ cs, M.blks.get b = some (.cells cs) ∧ k cs = some r := by
  unfold blkK at h
  split at h
  · rename_i B hB
    cases B with
    | cells cs => exact ⟨cs, hB, h⟩
    | map es => cases h
  · cases h

noncomputable def mapBK (M : Mem) (b : Pos) (k : List (V1 × V1) → Option Ω) : Option Ω := match M.blks.get b with | some B => (match B with | .map es => k es | _ => none) | none => none
theorem mapBK_ok {M : Mem} {b : Pos} {k : List (V1 × V1) → Option Ω} {r : Ω} (h : mapBK M b k = some r) : ∃ es, M.blks.get b = some (.map es) ∧ k es = some r := by
  unfold mapBK at h
  split at h
  · rename_i B hB
    cases B with
    | map es => exact ⟨es, hB, h⟩
    | cells cs => cases h
  · cases h

noncomputable def Mem.addK (M : Mem) (B : Blk) (k : Mem → Option Ω) : Option Ω := M.next.succK fun n => T.putK M.next (some B) M.blks fun bl => k ⟨n, bl⟩
theorem Mem.addK_eq (M : Mem) (B : Blk) (k : Mem → Option Ω) : M.addK B k = k (M.add B) := by
  unfold Mem.addK; rw [Pos.succK_eq, T.putK_eq]; rfl

noncomputable def Mem.putK (M : Mem) (b : Pos) (B : Option Blk) (k : Mem → Option Ω) : Option Ω := T.putK b B M.blks fun bl => k ⟨M.next, bl⟩
theorem Mem.putK_eq (M : Mem) (b : Pos) (B : Option Blk) (k : Mem → Option Ω) : M.putK b B k = k { M with blks := M.blks.put b B } := by
  unfold Mem.putK; rw [T.putK_eq]

/-! Making symbolic integers whole. -/

noncomputable def tsK {R : Type} (l : List (Nat × Int)) : (List (Nat × Int) → R) → R :=
  List.rec (motive := fun _ => (List (Nat × Int) → R) → R) (fun k => k []) (fun x _ ih k => Prod.casesOn (motive := fun _ => R) x fun i n => nK i fun i => iK n fun n => ih fun r => k ((i, n) :: r)) l
theorem tsK_eq {R : Type} (l : List (Nat × Int)) (k : List (Nat × Int) → R) : tsK l k = k l := by
  induction l generalizing k with
  | nil => rfl
  | cons x l ih =>
    obtain ⟨i, n⟩ := x
    show nK i (fun i => iK n fun n => tsK l fun r => k ((i, n) :: r)) = _
    rw [nK_eq, iK_eq, ih]

noncomputable def siK {R : Type} (s : SI) (k : SI → R) : R :=
  match s with
  | .lit n => iK n fun n => k (.lit n)
  | .lin c ts => iK c fun c => tsK ts fun ts => k (.lin c ts)
  | .rng l h => iK l fun l => iK h fun h => k (.rng l h)
theorem siK_eq {R : Type} (s : SI) (k : SI → R) : siK s k = k s := by
  cases s with
  | lit n => exact iK_eq n fun n => k (.lit n)
  | lin c ts => exact (iK_eq c fun c => tsK ts fun ts => k (.lin c ts)).trans (tsK_eq ts fun ts => k (.lin c ts))
  | rng l h => exact (iK_eq l fun l => iK h fun h => k (.rng l h)).trans (iK_eq h fun h => k (.rng l h))

/-- A bool's answer, made whole. -/
def lvbK {R : Type} (v : LV) (k : LV → R) : R := match v with | .bool b => bK b fun b => k (.bool b) | v => k v
theorem lvbK_eq {R : Type} (v : LV) (k : LV → R) : lvbK v k = k v := by
  cases v with
  | bool b => exact bK_eq b fun b => k (.bool b)
  | _ => rfl

end

/-! What an operation comes to. -/

def NextIs (μ : Emb) (ρ : Nat → Int) : Option AV → Next → Prop
  | some x, .value v => x.rel μ ρ v
  | none, .skip => True
  | _, _ => False

def DoneV (P : Program) (μ : Emb) (ρ : Nat → Int) (M : Mem) (w : World) (s : Sem Value) (v : AV) (M' : Mem) : Prop :=
  ∃ x w' μ', s.run P w = .ok x w' ∧ v.rel μ' ρ x ∧ MR μ' ρ M' w' ∧ Ext M.next.toNat μ μ' w w'

def DoneU (P : Program) (μ : Emb) (ρ : Nat → Int) (M : Mem) (w : World) (s : Sem Unit) (M' : Mem) : Prop :=
  ∃ w' μ', s.run P w = .ok () w' ∧ MR μ' ρ M' w' ∧ Ext M.next.toNat μ μ' w w'

def Done (P : Program) (μ : Emb) (ρ : Nat → Int) (M : Mem) (w : World) (s : Sem Next) (v : Option AV) (M' : Mem) : Prop :=
  ∃ next w' μ', s.run P w = .ok next w' ∧ NextIs μ' ρ v next ∧ MR μ' ρ M' w' ∧ Ext M.next.toNat μ μ' w w'

theorem DoneV.still {P : Program} {μ : Emb} {ρ : Nat → Int} {w : World} {s : Sem Value} {v : AV} {M : Mem} {x : Value} (hM : MR μ ρ M w) (hs : s.run P w = .ok x w) (hv : v.rel μ ρ x) : DoneV P μ ρ M w s v M :=
  ⟨x, w, μ, hs, hv, hM, .refl _ μ w⟩

theorem DoneV.done {P : Program} {μ : Emb} {ρ : Nat → Int} {w : World} {s : Sem Value} {v : AV} {M M' : Mem} (h : DoneV P μ ρ M w s v M') : Done P μ ρ M w (do pure (.value (← s))) (some v) M' := by
  obtain ⟨x, w', μ', h1, h2, h3, h4⟩ := h
  exact ⟨.value x, w', μ', by simp [Sem.run_bind, h1], h2, h3, h4⟩

theorem DoneU.done {P : Program} {μ : Emb} {ρ : Nat → Int} {w : World} {s : Sem Unit} {M M' : Mem} (h : DoneU P μ ρ M w s M') : Done P μ ρ M w (do s; pure .skip) none M' := by
  obtain ⟨w', μ', h1, h3, h4⟩ := h
  exact ⟨.skip, w', μ', by simp [h1], trivial, h3, h4⟩

/-! Types. -/

def tsize (P : Program) (t : TypeId) : Option Nat := (P.info? t).map (·.size)
def tbytes (P : Program) (t : TypeId) : Option Nat := (P.info? t).map (·.bytes)
def tagg (P : Program) (t : TypeId) : Option Bool := match P.underlying t with | some (.struct _) => some true | some (.array _ _) => some true | some _ => some false | none => none
def tzero (P : Program) (t : TypeId) : Option (List LV) := match P.info? t with | some i => (match i.zero with | some v => clvs v.cells.toList | none => none) | none => none

theorem run_size {P : Program} {t : TypeId} {n : Nat} (h : tsize P t = some n) (w : World) : (sizeOf t).run P w = .ok n w := by
  unfold tsize at h
  simp only [Option.map_eq_some_iff] at h
  obtain ⟨i, hi, rfl⟩ := h
  simp [sizeOf, typeInfo, hi]

theorem run_agg {P : Program} {t : TypeId} {b : Bool} (h : tagg P t = some b) (w : World) : (isAgg t).run P w = .ok b w := by
  unfold tagg at h
  split at h
  · rename_i hu; cases h; simp [isAgg, run_underlying hu]
  · rename_i hu; cases h; simp [isAgg, run_underlying hu]
  · rename_i d h1 h2 hu
    cases h
    unfold isAgg
    rw [Sem.run_bind, run_underlying hu]
    cases d <;> first | rfl | (exact absurd rfl (h1 _)) | (exact absurd rfl (h2 _ _))
  · cases h

theorem run_zero {P : Program} {t : TypeId} {cs : List LV} (h : tzero P t = some cs) (w : World) : ∃ v, (zeroValue t).run P w = .ok v w ∧ clvs v.cells.toList = some cs ∧ (∃ i, P.info? t = some i ∧ i.zero = some v) := by
  unfold tzero at h
  split at h
  · rename_i i hi
    split at h
    · rename_i v hv; exact ⟨v, by simp [zeroValue, typeInfo, hi, hv], h, i, hi, hv⟩
    · cases h
  · cases h

end Go.Ev
