/- Generic part M: an operation of the model turned into the evaluator's form; what the evaluator makes of it is what the model makes. -/
import Derived.Test.YtgkjbkkbjlhafaaGreatEvL
namespace Go.Ev

def copdO (x : Option Operand) : Option (Option Opd) := match x with | none => some none | some x => (copd x).map some

def cparts (place : Nat → Option (Nat × Nat)) : List (Nat × Operand) → Option (List (Nat × Nat × Opd))
  | [] => some []
  | p :: r => match place p.1, copd p.2, cparts place r with | some q, some y, some ys => some ((q.1, q.2, y) :: ys) | _, _, _ => none

theorem cparts_ok {place : Nat → Option (Nat × Nat)} : ∀ {ps : List (Nat × Operand)} {qs : List (Nat × Nat × Opd)}, cparts place ps = some qs → All2 (PartOf place) ps qs
  | [], qs, h => by simp only [cparts, Option.some.injEq] at h; subst h; exact .nil
  | p :: ps, qs, h => by
    simp only [cparts] at h
    split at h
    · rename_i q y ys h1 h2 h3; cases h; exact .cons ⟨h1, h2⟩ (cparts_ok h3)
    · cases h

def fieldPlaces (P : Program) (fs : Array Field) : Array (Nat × Nat) := fs.map fun f => (f.offset, (tsize P f.type).getD 0)

def isCmp : BinOp → Bool
  | .eql | .neq | .lss | .leq | .gtr | .geq => true
  | _ => false

def eqNeg : BinOp → Option Bool
  | .eql => some false
  | .neq => some true
  | _ => none

theorem eqNeg_ok {op : BinOp} {n : Bool} (h : eqNeg op = some n) : op = eqop n := by cases op <;> cases h <;> rfl

def compBin (P : Program) (op : BinOp) (t : TypeId) (x y : Operand) : Option CO :=
  match copd x, copd y with
  | some u, some v =>
    (match P.underlying t with
    | some (.int _) => (match isCmp op with | true => some (.cmp op u v) | false => some (.ar op u v))
    | some .string => (match op with | .add => some (.cat u v) | op => (eqNeg op).map fun n => .eqs n u v)
    | some .bool => (eqNeg op).map fun n => .eqb n u v
    | some (.struct _) | some (.array _ _) => (match eqNeg op, aggKind P t with | some n, some ks => some (.eqagg n ks u v) | _, _ => none)
    | _ => (match eqNeg op, nilKind P t with | some n, some k => (match isConstOp x || isConstOp y || Nat.ble k 3 with | true => some (.eqnil n k u v) | false => none) | _, _ => none))
  | _, _ => none

def compBuiltin (P : Program) (b : Builtin) (ts : List TypeId) (xs : List Operand) : Option CO :=
  match b with
  | .append => (match ts, xs with
    | [t, t'], [x, y] => (match P.underlying t, copd x, copd y with
      | some (.slice e), some u, some v => (match P.info? e with
        | some i => (match i.zero with
          | some z => (match Nat.beq t t' && Nat.beq z.cells.size i.size with | true => some (.append i.bytes i.size u v) | false => none)
          | none => none)
        | none => none)
      | _, _, _ => none)
    | _, _ => none)
  | .len => (match ts, xs with
    | [t], [x] => (match P.underlying t, copd x with
      | some (.slice _), some u => some (.len u)
      | some .string, some u => some (.lenstr u)
      | some (.map _ _), some u => some (.lenmap u)
      | _, _ => none)
    | _, _ => none)
  | .min => (match xs with | [x, y] => (match copd x, copd y with | some u, some v => some (.mn u v) | _, _ => none) | _ => none)
  | .max => (match xs with | [x, y] => (match copd x, copd y with | some u, some v => some (.mx u v) | _, _ => none) | _ => none)
  | .delete => (match ts, xs with
    | [t, _], [x, y] => (match P.underlying t, copd x, copd y with
      | some (.map key _), some u, some v => (keyKind P key).map fun ks => .delete ks u v
      | _, _, _ => none)
    | _, _ => none)
  | .clear => (match ts, xs with
    | [t], [x] => (match P.underlying t, copd x with
      | some (.slice e), some u => (tzero P e).map fun z => .clear z u
      | _, _ => none)
    | _, _ => none)
  | _ => none

/-- An operation in the evaluator's form. -/
def compOp (P : Program) (op : Op) : Option CO :=
  match op with
  | .move x => (copd x).map .move
  | .assign x => (copd x).map .move
  | .pick c a b => (match copd c, copd a, copd b with | some c, some a, some b => some (.pick c a b) | _, _, _ => none)
  | .alloc e => (tzero P e).map .alloc
  | .box _ x => (copd x).map .box
  | .build t parts => (match tzero P t with
    | some z => (match P.underlying t with
      | some (.struct fs) => (match fs.toList.all fun f => (tsize P f.type).isSome with
        | true => (cparts (fun i => (fieldPlaces P fs)[i]?) parts.toList).map (.build z)
        | false => none)
      | some (.array _ e) => (match tsize P e with | some n => (cparts (fun i => some (i * n, n)) parts.toList).map (.build z) | none => none)
      | _ => none)
    | none => none)
  | .buildSlice t len parts => (match P.underlying t with
    | some (.slice e) => (match tzero P e, tsize P e with
      | some z, some n => (match Nat.beq z.length n && Nat.ble (len * n) 16777216 with
        | true => (cparts (fun i => some (i * n, n)) parts.toList).map (.bslice (List.flatten (List.replicate len z)) n len)
        | false => none)
      | _, _ => none)
    | _ => none)
  | .load t a => (match copd a, tagg P t, tsize P t with
    | some a, some b, some n => (match b with | false => some (.load1 a) | true => some (.loadN n a))
    | _, _, _ => none)
  | .store t a x => (match copd a, copd x, tagg P t, tsize P t with
    | some a, some x, some b, some n => (match b with | false => (match Nat.beq n 1 with | true => some (.store1 a x) | false => none) | true => some (.storeN n a x))
    | _, _, _, _ => none)
  | .nilCheck x => (copd x).map .nilchk
  | .binOp op t x y _ => compBin P op t x y
  | .unOp op _ x => (match op with | .not => (copd x).map .not | .neg => (copd x).map .neg | .xor => (copd x).map .inv | _ => none)
  | .convert s d x => (match P.underlying s, P.underlying d with
    | some (.int _), some (.int j) => (copd x).map (.conv j)
    | _, _ => none)
  | .makeInterface t x => (match P.concrete t with | true => (copd x).map (.mkiface t) | false => none)
  | .makeFunc fn first captured => (match fn with
    | .func f => (match Nat.beq first.size 0 with | true => (copds captured.toList).map (.mkfunc f) | false => none)
    | _ => none)
  | .makeMap _ r => (match r with | none => some .mkmap | some _ => none)
  | .slice t x lo hi mx => (match copd x, copdO lo, copdO hi, copdO mx with
    | some x, some lo, some hi, some mx => (match P.underlying t with
      | some (.slice e) => (tsize P e).map fun n => .slice n x lo hi mx
      | some (.array m e) => (match mx with | none => (tsize P e).map fun n => .sliceA m n x lo hi | some _ => none)
      | some .string => (match mx with | none => some (.sliceStr x lo hi) | some _ => none)
      | _ => none)
    | _, _, _, _ => none)
  | .fieldAddr s x f => (match copd x, P.underlying s with
    | some x, some (.struct fs) => (match fs[f]? with
      | some fl => (match tsize P fl.type with | some n => (match Nat.beq n 0 with | true => none | false => some (.fieldA fl.offset x)) | none => none)
      | none => none)
    | _, _ => none)
  | .field t x f => (match copd x, P.underlying t with
    | some x, some (.struct fs) => (match fs[f]? with
      | some fl => (match tagg P fl.type, tsize P fl.type with | some b, some n => (match b with | false => some (.field1 fl.offset x) | true => some (.fieldN fl.offset n x)) | _, _ => none)
      | none => none)
    | _, _ => none)
  | .indexAddr t x i => (match copd x, copd i, P.underlying t with
    | some x, some i, some (.slice e) => (tsize P e).map fun n => .idxS n x i
    | some x, some i, some (.array m e) => (tsize P e).map fun n => .idxA m n x i
    | _, _, _ => none)
  | .index t x i => (match copd x, copd i, P.underlying t with
    | some x, some i, some (.array m e) => (match tagg P e, tsize P e with
      | some b, some n => (match b with | false => (match Nat.beq n 1 with | true => some (.index1 m x i) | false => none) | true => some (.indexN m n x i))
      | _, _ => none)
    | some x, some i, some .string => some (.indexStr x i)
    | _, _, _ => none)
  | .lookup t x i ok => (match copd x, copd i, P.underlying t with
    | some x, some i, some (.map key elem) => (match keyKind P key, zeroV1 P elem, zeroOk P elem with
      | some ks, some z, true => some (.lookup ks z ok x i)
      | _, _, _ => none)
    | _, _, _ => none)
  | .mapUpdate t m x v => (match copd m, copd x, copd v, P.underlying t with
    | some m, some x, some v, some (.map key _) => (keyKind P key).map fun ks => .mapup ks m x v
    | _, _, _, _ => none)
  | .extract x n => (copd x).map (.extract n)
  | .call c => (match c.callee with | .builtin b => compBuiltin P b c.argTypes.toList c.args.toList | _ => none)
  | _ => none

section
variable {Ω : Type} {P : Program} {Γ : Box} {μ : Emb} {ρ : Nat → Int} {M : Mem} {w : World}

theorem Done.ofV {s : Sem Value} {x : AV} {M' : Mem} (h : DoneV P μ ρ M w s x M') : Done P μ ρ M w (do pure (.value (← s))) (some x) M' := h.done

theorem ok_bin (hρ : Γ.has ρ) (hM : MR μ ρ M w) {op : BinOp} {t : TypeId} {x y : Operand} {co : CO} (hc : compBin P op t x y = some co) {tm : T AV} {a : Act} (hT : TR μ ρ tm a.tmps) {k : Option AV → Mem → Option Ω} {r : Ω} (he : evOp Γ co tm M k = some r) :
    ∃ v M', k (some v) M' = some r ∧ DoneV P μ ρ M w (do eqGuard op t x y (a.eval x) (a.eval y); binOp op t (a.eval x) (a.eval y)) v M' := by
  unfold compBin at hc
  split at hc
  case h_2 => cases hc
  rename_i u v hx hy
  have aggs : ∀ {n : Bool} {kk : List LK}, evOp Γ (.eqagg n kk u v) tm M k = some r → aggKind P t = some kk → ∃ v M', k (some v) M' = some r ∧ DoneV P μ ρ M w (do eqGuard (eqop n) t x y (a.eval x) (a.eval y); binOp (eqop n) t (a.eval x) (a.eval y)) v M' := by
    intro n kk he hkk
    change (opdK tm u fun u => opdK tm v fun v => _) = some r at he
    obtain ⟨p, hf, hp⟩ := opdK_ok hT hx he
    clear he
    obtain ⟨q, he, hq⟩ := opdK_ok hT hy hf
    clear hf
    obtain ⟨p, hrfl, hf⟩ := aggK_ok he
    clear he
    subst hrfl
    obtain ⟨q, hrfl, he⟩ := aggK_ok hf
    clear hf
    subst hrfl
    obtain ⟨us, hus, hp'⟩ := hp
    obtain ⟨vs, hvs, hq'⟩ := hq
    split at he
    · rename_i c hc'; rw [bK_eq] at he; exact ⟨_, _, he, ok_eqagg hρ hM hkk hus hvs hp' hq' (by rw [hc'])⟩
    · rename_i hc'; exact ⟨_, _, he, ok_eqagg hρ hM hkk hus hvs hp' hq' (by rw [hc'])⟩
    · cases he
  split at hc
  · -- integers
    split at hc
    · cases hc
      change (opdK tm u fun u => opdK tm v fun v => _) = some r at he
      obtain ⟨p, hf, hp⟩ := opdK_ok hT hx he
      clear he
      obtain ⟨q, he, hq⟩ := opdK_ok hT hy hf
      clear hf
      obtain ⟨j, i, hrfl, hf⟩ := intK_ok he
      clear he
      subst hrfl
      obtain ⟨j', i', hrfl, he⟩ := intK_ok hf
      clear hf
      subst hrfl
      split at he
      · rename_i hk
        split at he
        · rename_i s hs; rw [lvbK_eq] at he; exact ⟨_, _, he, ok_cmp hρ hM hp hq hk hs⟩
        · cases he
      · cases he
    · cases hc
      change (opdK tm u fun u => opdK tm v fun v => _) = some r at he
      obtain ⟨p, hf, hp⟩ := opdK_ok hT hx he
      clear he
      obtain ⟨q, he, hq⟩ := opdK_ok hT hy hf
      clear hf
      obtain ⟨j, i, hrfl, hf⟩ := intK_ok he
      clear he
      subst hrfl
      obtain ⟨j', i', hrfl, he⟩ := intK_ok hf
      clear hf
      subst hrfl
      split at he
      · rename_i hk
        split at he
        · rename_i s hs; rw [siK_eq] at he; exact ⟨_, _, he, ok_ar hρ hM hp hq hk hs⟩
        · cases he
      · cases he
  · -- strings
    have strs : ∀ n, eqNeg op = some n → co = .eqs n u v → ∃ v M', k (some v) M' = some r ∧ DoneV P μ ρ M w (do eqGuard op t x y (a.eval x) (a.eval y); binOp op t (a.eval x) (a.eval y)) v M' := by
      intro n hn hco
      subst hco
      rw [eqNeg_ok hn]
      change (opdK tm u fun u => opdK tm v fun v => _) = some r at he
      obtain ⟨p, hf, hp⟩ := opdK_ok hT hx he
      clear he
      obtain ⟨q, he, hq⟩ := opdK_ok hT hy hf
      clear hf
      obtain ⟨b, s, hf, hs, hp'⟩ := strK_ok he hp
      clear he
      obtain ⟨b', s', he, hs', hq'⟩ := strK_ok hf hq
      clear hf
      split at he
      · rename_i c hc'; rw [bK_eq] at he; exact ⟨_, _, he, ok_eqs hρ hM hs hs' hp' hq' (by rw [hc'])⟩
      · rename_i hne
        refine ⟨_, _, he, ok_eqs hρ hM hs hs' hp' hq' ?_⟩
        split
        · rename_i c hc'; exact absurd hc' (hne c)
        · rfl
    split at hc
    · cases hc
      change (opdK tm u fun u => opdK tm v fun v => _) = some r at he
      obtain ⟨p, hf, hp⟩ := opdK_ok hT hx he
      clear he
      obtain ⟨q, he, hq⟩ := opdK_ok hT hy hf
      clear hf
      obtain ⟨b, s, hf, hs, hp'⟩ := strK_ok he hp
      clear he
      obtain ⟨b', s', he, hs', hq'⟩ := strK_ok hf hq
      clear hf
      split at he
      · rename_i hle; rw [Nat.ble_eq] at hle; rw [appK_eq] at he; exact ⟨_, _, he, ok_cat hM hs hs' hp' hq' hle⟩
      · cases he
    · simp only [Option.map_eq_some_iff] at hc
      obtain ⟨n, hn, hco⟩ := hc
      exact strs n hn hco.symm
  · -- bools
    rename_i hu
    simp only [Option.map_eq_some_iff] at hc
    obtain ⟨n, hn, rfl⟩ := hc
    rw [eqNeg_ok hn]
    change (opdK tm u fun u => opdK tm v fun v => _) = some r at he
    obtain ⟨p, hf, hp⟩ := opdK_ok hT hx he
    clear he
    obtain ⟨q, he, hq⟩ := opdK_ok hT hy hf
    clear hf
    obtain ⟨b, hf, hp'⟩ := boolK_ok he hp
    clear he
    obtain ⟨b', he, hq'⟩ := boolK_ok hf hq
    clear hf
    rw [bK_eq] at he
    exact ⟨_, _, he, ok_eqb hM hu hp' hq'⟩
  · -- structs
    split at hc
    case h_2 => cases hc
    rename_i n kk hn hkk
    rw [eqNeg_ok hn]
    cases hc
    exact aggs he hkk
  · -- arrays
    split at hc
    case h_2 => cases hc
    rename_i n kk hn hkk
    rw [eqNeg_ok hn]
    cases hc
    exact aggs he hkk
  · -- what may be nil
    split at hc
    case h_2 => cases hc
    rename_i n kk hn hkk
    rw [eqNeg_ok hn]
    split at hc
    case h_2 => cases hc
    rename_i hcc
    cases hc
    change (opdK tm u fun u => opdK tm v fun v => _) = some r at he
    obtain ⟨p, hf, hp⟩ := opdK_ok hT hx he
    clear he
    obtain ⟨q, he, hq⟩ := opdK_ok hT hy hf
    clear hf
    obtain ⟨p, hrfl, hf⟩ := leafK_ok he
    clear he
    subst hrfl
    obtain ⟨q, hrfl, he⟩ := leafK_ok hf
    clear hf
    subst hrfl
    split at he
    · rename_i s hs
      split at he
      · rename_i s' hs'
        split at he
        · rename_i hor; rw [bK_eq] at he; exact ⟨_, _, he, ok_eqnil hM hkk hcc hs hs' hor hp hq⟩
        · cases he
      · cases he
    · cases he

end

end Go.Ev
