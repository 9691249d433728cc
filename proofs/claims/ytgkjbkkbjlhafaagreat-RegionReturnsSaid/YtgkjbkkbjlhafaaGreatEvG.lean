/- Generic part G: operations in the evaluator's own form, how they come of the model's, what they do. -/
import Derived.Test.YtgkjbkkbjlhafaaGreatEvF
namespace Go.Ev

inductive CO where
  | move (x : Opd)
  | pick (c a b : Opd)
  | alloc (zero : List LV)
  | box (x : Opd)
  | build (zero : List LV) (parts : List (Nat × Nat × Opd))
  | bslice (zero : List LV) (esz len : Nat) (parts : List (Nat × Nat × Opd))
  | load1 (a : Opd)
  | loadN (n : Nat) (a : Opd)
  | store1 (a x : Opd)
  | storeN (n : Nat) (a x : Opd)
  | nilchk (x : Opd)
  | ar (op : BinOp) (x y : Opd)
  | cmp (op : BinOp) (x y : Opd)
  | eqb (neg : Bool) (x y : Opd)
  | eqs (neg : Bool) (x y : Opd)
  | eqnil (neg : Bool) (kind : Nat) (x y : Opd)
  | eqagg (neg : Bool) (ks : List LK) (x y : Opd)
  | cat (x y : Opd)
  | not (x : Opd)
  | neg (x : Opd)
  | inv (x : Opd)
  | conv (k : IntKind) (x : Opd)
  | mkiface (t : Nat) (x : Opd)
  | mkfunc (f : Nat) (caps : List Opd)
  | mkmap
  | mkslice (zero : List LV) (bytes : Nat) (l c : Opd)
  | fieldA (off : Nat) (x : Opd)
  | field1 (off : Nat) (x : Opd)
  | fieldN (off n : Nat) (x : Opd)
  | idxS (esz : Nat) (x i : Opd)
  | idxA (n esz : Nat) (x i : Opd)
  | index1 (n : Nat) (x i : Opd)
  | indexN (n esz : Nat) (x i : Opd)
  | indexStr (x i : Opd)
  | lookup (ks : Bool) (zero : V1) (ok : Bool) (x i : Opd)
  | mapup (ks : Bool) (m k v : Opd)
  | delete (ks : Bool) (m k : Opd)
  | lenmap (x : Opd)
  | extract (n : Nat) (x : Opd)
  | append (bytes esz : Nat) (x y : Opd)
  | len (x : Opd)
  | lenstr (x : Opd)
  | cap (x : Opd)
  | mn (x y : Opd)
  | mx (x y : Opd)
  | clear (zero : List LV) (x : Opd)
  | copy (esz : Nat) (x y : Opd)
  | slice (esz : Nat) (x : Opd) (lo hi mx : Option Opd)
  | sliceA (n esz : Nat) (x : Opd) (lo hi : Option Opd)
  | sliceStr (x : Opd) (lo hi : Option Opd)
  | toBytes (x : Opd)
  | ofBytes (x : Opd)

section
variable {Ω : Type}

noncomputable def fillK (tm : T AV) (parts : List (Nat × Nat × Opd)) : List LV → (List LV → Option Ω) → Option Ω :=
  List.rec (motive := fun _ => List LV → (List LV → Option Ω) → Option Ω) (fun z k => k z)
    (fun p _ ih z k => Prod.casesOn (motive := fun _ => Option Ω) p fun off q => Prod.casesOn (motive := fun _ => Option Ω) q fun size x =>
      opdK tm x fun v => cellsK v fun cs => match Nat.beq cs.length size with | true => overK off cs z fun z => ih z k | false => none) parts

/-- A slice's parts: block, offset, length, size of an element, capacity; a nil one's are told by none. -/
def sliceK (x : AV) (kn : Option Ω) (k : Pos → Nat → Nat → Nat → Option Nat → Option Ω) : Option Ω :=
  match x with
  | .leaf v => (match v with | .nilslice => kn | .slice b off len esz cap => k b off len esz cap | _ => none)
  | _ => none

/-- Is it nil? -/
def isNil : LV → Option Bool
  | .nilptr | .nilslice | .nilmap | .nilfunc | .niliface => some true
  | .ptr _ _ | .slice _ _ _ _ _ | .map _ | .func _ _ | .iface _ _ => some false
  | _ => none

/-- The same, of one kind alone: 0 pointers, 1 slices, 2 maps, 3 functions, else interfaces. -/
def nilOf (kind : Nat) (v : LV) : Option Bool :=
  match kind with
  | 0 => (match v with | .nilptr => some true | .ptr _ _ => some false | _ => none)
  | 1 => (match v with | .nilslice => some true | .slice _ _ _ _ _ => some false | _ => none)
  | 2 => (match v with | .nilmap => some true | .map _ => some false | _ => none)
  | 3 => (match v with | .nilfunc => some true | .func _ _ => some false | _ => none)
  | _ => (match v with | .niliface => some true | .iface _ _ => some false | _ => none)

/-- Two keys, integers or strings: are they alike? none: it can't be said. -/
def keyEq (Γ : Box) (ks : Bool) (x y : V1) : Option Bool :=
  match x with
  | .leaf u => (match y with
    | .leaf v => (match ks with
      | false => (match u with
        | .int j a => (match v with | .int j' b => (match kindEq j j' with | true => (match cmpSI Γ .eql a b with | some r => (match r with | .bool r => some r | _ => none) | none => none) | false => none) | _ => none)
        | _ => none)
      | true => (match u with
        | .str a => (match v with | .str b => (match eqStr Γ a b with | .bool r => some r | _ => none) | _ => none)
        | _ => none))
    | _ => none)
  | .agg _ => none

/-- Where a key is, and what is there. (some none: nowhere; none: it can't be said) -/
noncomputable def findE (Γ : Box) (ks : Bool) (key : V1) (es : List (V1 × V1)) : Nat → Option (Option (Nat × V1)) :=
  List.rec (motive := fun _ => Nat → Option (Option (Nat × V1))) (fun _ => some none)
    (fun e _ ih i => match keyEq Γ ks key e.1 with | some r => (match r with | true => some (some (i, e.2)) | false => ih (Nat.succ i)) | none => none) es

def v1K (x : AV) (k : V1 → Option Ω) : Option Ω := match x with | .leaf v => k (.leaf v) | .agg cs => k (.agg cs) | .tup _ => none

def optK (tm : T AV) (x : Option Opd) (k : Option Nat → Option Ω) (opd : T AV → Opd → (AV → Option Ω) → Option Ω) : Option Ω :=
  match x with
  | none => k none
  | some x => opd tm x fun v => natK v fun n => nK n fun n => k (some n)

/-- The bounds of a slice: none of them below another one. -/
def boundsK (len : Nat) (lo hi : Option Nat) (k : Nat → Nat → Option Ω) : Option Ω :=
  match (match hi with | some h => Nat.ble h len | none => true) with
  | false => none
  | true =>
    match hi with
    | some h => (match lo with | some l => (match Nat.ble l h with | true => k l h | false => none) | none => k 0 h)
    | none => (match lo with | some l => (match Nat.ble l len with | true => k l len | false => none) | none => k 0 len)

def lenOkK (n : Nat) (k : Nat → Option Ω) : Option Ω := match Nat.ble n 1073741824 with | true => k n | false => none

/-- What an operation makes. -/
noncomputable def evOp (Γ : Box) (o : CO) (tm : T AV) (M : Mem) (k : Option AV → Mem → Option Ω) : Option Ω :=
  match o with
  | .move x => opdK tm x fun v => k (some v) M
  | .pick c a b => opdK tm c fun v => boolK v fun t => match t with | true => opdK tm a fun v => k (some v) M | false => opdK tm b fun v => k (some v) M
  | .alloc z => M.addK (.cells z) fun M' => k (some (.leaf (.ptr M.next 0))) M'
  | .box x => opdK tm x fun v => cellsK v fun cs => M.addK (.cells cs) fun M' => k (some (.leaf (.ptr M.next 0))) M'
  | .build z parts => fillK tm parts z fun cs => k (some (.agg cs)) M
  | .bslice z esz len parts => fillK tm parts z fun cs => M.addK (.cells cs) fun M' => k (some (.leaf (.slice M.next 0 len esz (some len)))) M'
  | .load1 a => opdK tm a fun v => ptrK v fun b off => blkK M b fun cs => match nth off cs with | some x => k (some (.leaf x)) M | none => none
  | .loadN n a => opdK tm a fun v => ptrK v fun b off => blkK M b fun cs => dropK off cs fun r => takeK n r fun a _ => k (some (.agg a)) M
  | .store1 a x => opdK tm a fun v => ptrK v fun b off => blkK M b fun cs => opdK tm x fun u => leafK u fun y => setK off y cs fun cs => M.putK b (some (.cells cs)) fun M' => k none M'
  | .storeN n a x => opdK tm a fun v => ptrK v fun b off => blkK M b fun cs => opdK tm x fun u => aggK u fun ys => match Nat.beq ys.length n with
      | true => overK off ys cs fun cs => M.putK b (some (.cells cs)) fun M' => k none M'
      | false => none
  | .nilchk x => opdK tm x fun v => leafK v fun u => match isNil u with | some t => (match t with | false => k (some v) M | true => none) | none => none
  | .ar op x y => opdK tm x fun u => opdK tm y fun v => intK u fun j a => intK v fun j' b => match (match op with | .shl => true | .shr => true | _ => kindEq j j') with
      | true => (match arSI Γ op j a b with | some s => siK s fun s => k (some (.leaf (.int j s))) M | none => none)
      | false => none
  | .cmp op x y => opdK tm x fun u => opdK tm y fun v => intK u fun j a => intK v fun j' b => match kindEq j j' with
      | true => (match cmpSI Γ op a b with | some s => lvbK s fun s => k (some (.leaf s)) M | none => none)
      | false => none
  | .eqb neg x y => opdK tm x fun u => opdK tm y fun v => boolK u fun a => boolK v fun b => bK (xor neg (a == b)) fun c => k (some (.leaf (.bool c))) M
  | .eqs neg x y => opdK tm x fun u => opdK tm y fun v => strK u fun a => strK v fun b => match eqStr Γ a b with
      | .bool r => bK (xor neg r) fun c => k (some (.leaf (.bool c))) M
      | _ => k (some (.leaf .topb)) M
  | .eqnil neg kind x y => opdK tm x fun u => opdK tm y fun v => leafK u fun a => leafK v fun b => match nilOf kind a with
      | some t => (match nilOf kind b with
        | some s => (match t || s with | true => bK (xor neg (t && s)) fun c => k (some (.leaf (.bool c))) M | false => none)
        | none => none)
      | none => none
  | .eqagg neg ks x y => opdK tm x fun u => opdK tm y fun v => aggK u fun a => aggK v fun b => match eqCells Γ ks a b with
      | .bool r => bK (xor neg r) fun c => k (some (.leaf (.bool c))) M
      | .topb => k (some (.leaf .topb)) M
      | _ => none
  | .cat x y => opdK tm x fun u => opdK tm y fun v => strK u fun a => strK v fun b => match Nat.ble (a.length + b.length) 1073741824 with
      | true => appK a b fun c => k (some (.leaf (.str c))) M
      | false => none
  | .not x => opdK tm x fun u => leafK u fun a => match a with | .bool b => bK (!b) fun b => k (some (.leaf (.bool b))) M | .topb => k (some (.leaf .topb)) M | _ => none
  | .neg x => opdK tm x fun u => intK u fun j a => match arSI Γ .sub j (.lit 0) a with | some s => siK s fun s => k (some (.leaf (.int j s))) M | none => none
  | .inv x => opdK tm x fun u => intK u fun j a => match arSI Γ .xor j (.lit (if j.signed then -1 else j.max)) a with | some s => siK s fun s => k (some (.leaf (.int j s))) M | none => none
  | .conv j x => opdK tm x fun u => intK u fun _ a => match (match a with | .lit n => some (SI.lit (wrapF j n)) | .lin c ts => some (tidy Γ j c ts) | .rng l h => (match fits j l && fits j h with | true => some (.rng l h) | false => some (full j))) with
      | some s => siK s fun s => k (some (.leaf (.int j s))) M
      | none => none
  | .mkiface t x => opdK tm x fun u => leafK u fun a => k (some (.leaf (.iface t a))) M
  | .mkfunc f caps => opdsK tm caps fun vs => ptrsK vs fun cs => k (some (.leaf (.func f cs))) M
  | .mkmap => M.addK (.map []) fun M' => k (some (.leaf (.map M.next))) M'
  | .mkslice z bytes l c => opdK tm l fun u => natK u fun n => nK n fun n => opdK tm c fun v => natK v fun m => nK m fun m => match Nat.ble n m && Nat.ble (m * bytes) 1073741824 && Nat.ble m 1073741824 with
      | true => repLK z m fun cs => M.addK (.cells cs) fun M' => k (some (.leaf (.slice M.next 0 n z.length (some m)))) M'
      | false => none
  | .fieldA off x => opdK tm x fun v => ptrK v fun b o => nK (Nat.add o off) fun o => k (some (.leaf (.ptr b o))) M
  | .field1 off x => opdK tm x fun v => aggK v fun cs => match nth off cs with | some x => k (some (.leaf x)) M | none => none
  | .fieldN off n x => opdK tm x fun v => aggK v fun cs => dropK off cs fun r => takeK n r fun a _ => k (some (.agg a)) M
  | .idxS esz x i => opdK tm x fun v => opdK tm i fun u => natK u fun n => sliceK v none fun b off len e _ => match Nat.ble (Nat.succ n) len && Nat.beq e esz with
      | true => nK (Nat.add off (Nat.mul n esz)) fun o => k (some (.leaf (.ptr b o))) M
      | false => none
  | .idxA m esz x i => opdK tm x fun v => opdK tm i fun u => natK u fun n => ptrK v fun b off => match Nat.ble (Nat.succ n) m with
      | true => nK (Nat.add off (Nat.mul n esz)) fun o => k (some (.leaf (.ptr b o))) M
      | false => none
  | .index1 m x i => opdK tm x fun v => opdK tm i fun u => natK u fun n => aggK v fun cs => match Nat.ble (Nat.succ n) m with
      | true => (match nth n cs with | some x => k (some (.leaf x)) M | none => none)
      | false => none
  | .indexN m esz x i => opdK tm x fun v => opdK tm i fun u => natK u fun n => aggK v fun cs => match Nat.ble (Nat.succ n) m with
      | true => dropK (Nat.mul n esz) cs fun r => takeK esz r fun a _ => k (some (.agg a)) M
      | false => none
  | .indexStr x i => opdK tm x fun v => opdK tm i fun u => natK u fun n => strK v fun cs => match nth n cs with | some x => k (some (.leaf (.int .u8 x))) M | none => none
  | .lookup ks z ok x i => opdK tm x fun v => opdK tm i fun u => v1K u fun key => leafK v fun m => match m with
      | .nilmap => k (some (match ok with | true => .tup [z, .leaf (.bool false)] | false => z.av)) M
      | .map b => mapBK M b fun es => match findE Γ ks key es 0 with
        | some f => (match f with
          | some iv => k (some (match ok with | true => .tup [iv.2, .leaf (.bool true)] | false => iv.2.av)) M
          | none => k (some (match ok with | true => .tup [z, .leaf (.bool false)] | false => z.av)) M)
        | none => none
      | _ => none
  | .mapup ks m x v => opdK tm m fun m => opdK tm x fun u => opdK tm v fun v => v1K u fun key => v1K v fun val => leafK m fun m => match m with
      | .map b => mapBK M b fun es => match findE Γ ks key es 0 with
        | some f => (match f with
          | some iv => nK iv.1 fun i => setK i (key, val) es fun es => M.putK b (some (.map es)) fun M' => k none M'
          | none => appK es [(key, val)] fun es => M.putK b (some (.map es)) fun M' => k none M')
        | none => none
      | _ => none
  | .delete ks m x => opdK tm m fun m => opdK tm x fun u => v1K u fun key => leafK m fun m => match m with
      | .map b => mapBK M b fun es => match findE Γ ks key es 0 with
        | some f => (match f with
          | some iv => nK iv.1 fun i => takeK i es fun a r => dropK 1 r fun r => appK a r fun es => M.putK b (some (.map es)) fun M' => k (some (.tup [])) M'
          | none => k (some (.tup [])) M)
        | none => none
      | _ => none
  | .lenmap x => opdK tm x fun v => leafK v fun m => match m with
      | .nilmap => k (some (.leaf (.int .i64 (.lit 0)))) M
      | .map b => mapBK M b fun es => nK es.length fun n => lenOkK n fun n => k (some (.leaf (.int .i64 (.lit (Int.ofNat n))))) M
      | _ => none
  | .extract n x => opdK tm x fun v => match v with | .tup vs => (match nth n vs with | some y => k (some y.av) M | none => none) | _ => none
  | .append bytes esz x y => opdK tm x fun u => opdK tm y fun v =>
      sliceK v (sliceK u (k (some u) M) fun _ _ _ _ _ => k (some u) M) fun b2 off2 len2 e2 _ => match Nat.beq e2 esz with
      | false => none
      | true => match Nat.beq len2 0 with
        | true => sliceK u (k (some u) M) fun _ _ _ _ _ => k (some u) M
        | false => blkK M b2 fun cs2 => dropK off2 cs2 fun r => takeK (Nat.mul len2 esz) r fun new _ =>
          sliceK u
            (match Nat.ble (Nat.mul len2 bytes) 1073741824 && Nat.ble len2 1073741824 with
            | true => nK len2 fun n => M.addK (.cells new) fun M' => k (some (.leaf (.slice M.next 0 n esz none))) M'
            | false => none)
            fun b off len e cap => match Nat.beq e esz && Nat.ble (Nat.mul (Nat.add len len2) bytes) 1073741824 && Nat.ble (Nat.add len len2) 1073741824 with
              | false => none
              | true => blkK M b fun cs => dropK off cs fun r => takeK (Nat.mul len esz) r fun old _ => appK old new fun all => nK (Nat.add len len2) fun n =>
                match cap with
                | some c => (match Nat.ble n c with
                  | true => M.putK b none fun M' => M'.addK (.cells all) fun M'' => k (some (.leaf (.slice M.next 0 n esz (some c)))) M''
                  | false => M.addK (.cells all) fun M' => k (some (.leaf (.slice M.next 0 n esz none))) M')
                | none => M.putK b none fun M' => M'.addK (.cells all) fun M'' => k (some (.leaf (.slice M.next 0 n esz none))) M''
  | .len x => opdK tm x fun v => leafK v fun u => match u with
      | .nilslice => k (some (.leaf (.int .i64 (.lit 0)))) M
      | .slice _ _ len _ _ => lenOkK len fun n => k (some (.leaf (.int .i64 (.lit (Int.ofNat n))))) M
      | _ => none
  | .lenstr x => opdK tm x fun v => strK v fun bs => nK bs.length fun n => lenOkK n fun n => k (some (.leaf (.int .i64 (.lit (Int.ofNat n))))) M
  | .cap x => opdK tm x fun v => sliceK v (k (some (.leaf (.int .i64 (.lit 0)))) M) fun _ _ _ _ cap => match cap with | some c => lenOkK c fun c => k (some (.leaf (.int .i64 (.lit (Int.ofNat c))))) M | none => none
  | .mn x y => opdK tm x fun u => opdK tm y fun v => intK u fun j a => intK v fun j2 b => match kindEq j j2 with | false => none | true => match cmpSI Γ .lss b a with
      | some r => (match r with | .bool t => (match t with | true => k (some (.leaf (.int j b))) M | false => k (some (.leaf (.int j a))) M) | _ => none)
      | none => none
  | .mx x y => opdK tm x fun u => opdK tm y fun v => intK u fun j a => intK v fun j2 b => match kindEq j j2 with | false => none | true => match cmpSI Γ .gtr b a with
      | some r => (match r with | .bool t => (match t with | true => k (some (.leaf (.int j b))) M | false => k (some (.leaf (.int j a))) M) | _ => none)
      | none => none
  | .clear z x => opdK tm x fun v => sliceK v (k (some (.tup [])) M) fun b off len e _ => match Nat.beq len 0 with
      | true => k (some (.tup [])) M
      | false => blkK M b fun cs => repLK z len fun new => match Nat.beq e z.length with
        | true => overK off new cs fun cs => M.putK b (some (.cells cs)) fun M' => k (some (.tup [])) M'
        | false => none
  | .copy esz x y => opdK tm x fun u => opdK tm y fun v =>
      sliceK u (sliceK v (k (some (.leaf (.int .i64 (.lit 0)))) M) fun _ _ _ _ _ => k (some (.leaf (.int .i64 (.lit 0)))) M) fun b off len e _ =>
      sliceK v (k (some (.leaf (.int .i64 (.lit 0)))) M) fun b2 off2 len2 e2 _ => nK (Nat.min len2 len) fun n => lenOkK n fun n => match Nat.beq n 0 with
      | true => k (some (.leaf (.int .i64 (.lit 0)))) M
      | false => match Nat.beq e esz && Nat.beq e2 esz with
        | true => blkK M b2 fun cs2 => dropK off2 cs2 fun r => takeK (Nat.mul n esz) r fun new _ => blkK M b fun cs => overK off new cs fun cs => M.putK b (some (.cells cs)) fun M' => k (some (.leaf (.int .i64 (.lit (Int.ofNat n))))) M'
        | false => none
  | .slice esz x lo hi mx => opdK tm x fun v => optK tm lo (opd := opdK) fun lo => optK tm hi (opd := opdK) fun hi => optK tm mx (opd := opdK) fun mx =>
      sliceK v (match mx with | none => boundsK 0 lo hi fun _ _ => k (some (.leaf .nilslice)) M | some _ => none) fun b off len e cap => match Nat.beq e esz with
      | false => none
      | true => match mx with
        | none => boundsK len lo hi fun l h => nK (Nat.add off (Nat.mul l esz)) fun o => nK (Nat.sub h l) fun n => match cap with
          | some c => nK (Nat.sub c l) fun c => k (some (.leaf (.slice b o n esz (some c)))) M
          | none => k (some (.leaf (.slice b o n esz none))) M
        | some m => match hi with
          | some h => (match Nat.ble h m && Nat.ble m len with
            | true => boundsK h lo (some h) fun l h => nK (Nat.add off (Nat.mul l esz)) fun o => nK (Nat.sub h l) fun n => nK (Nat.sub m l) fun c => k (some (.leaf (.slice b o n esz (some c)))) M
            | false => none)
          | none => none
  | .sliceA m esz x lo hi => opdK tm x fun v => optK tm lo (opd := opdK) fun lo => optK tm hi (opd := opdK) fun hi => ptrK v fun b off => blkK M b fun cs => match Nat.ble (Nat.add off (Nat.mul m esz)) cs.length with
      | true => boundsK m lo hi fun l h => nK (Nat.add off (Nat.mul l esz)) fun o => nK (Nat.sub h l) fun n => nK (Nat.sub m l) fun c => k (some (.leaf (.slice b o n esz (some c)))) M
      | false => none
  | .sliceStr x lo hi => opdK tm x fun v => optK tm lo (opd := opdK) fun lo => optK tm hi (opd := opdK) fun hi => strK v fun cs => boundsK cs.length lo hi fun l h => dropK l cs fun r => takeK (Nat.sub h l) r fun a _ => k (some (.leaf (.str a))) M
  | .toBytes x => opdK tm x fun v => strK v fun cs => match Nat.ble cs.length 1073741824 with
      | true => M.addK (.cells (cs.map fun b => .int .u8 b)) fun M' => nK cs.length fun n => k (some (.leaf (.slice M.next 0 n 1 none))) M'
      | false => none
  | .ofBytes x => opdK tm x fun v => sliceK v (k (some (.leaf (.str []))) M) fun b off len e _ => match Nat.beq e 1 with
      | true => (match Nat.beq len 0 with
        | true => k (some (.leaf (.str []))) M
        | false => blkK M b fun cs => dropK off cs fun r => takeK len r fun a _ => bytesK a fun bs => k (some (.leaf (.str bs))) M)
      | false => none
where
  ptrsK (vs : List AV) (k : List (Pos × Nat) → Option Ω) : Option Ω :=
    List.rec (motive := fun _ => (List (Pos × Nat) → Option Ω) → Option Ω) (fun k => k []) (fun v _ ih k => ptrK v fun b o => ih fun l => k ((b, o) :: l)) vs k
  repLK (z : List LV) (n : Nat) (k : List LV → Option Ω) : Option Ω :=
    Nat.rec (motive := fun _ => (List LV → Option Ω) → Option Ω) (fun k => k []) (fun _ ih k => ih fun l => appK z l k) n k
  bytesK (a : List LV) (k : List SI → Option Ω) : Option Ω :=
    List.rec (motive := fun _ => (List SI → Option Ω) → Option Ω) (fun k => k []) (fun v _ ih k => match v with | .int j i => (match j with | .u8 => ih fun l => k (i :: l) | _ => none) | _ => none) a k

end

end Go.Ev
