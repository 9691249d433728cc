/- Generic part I: the second half of the operations: strings, structs, slices, maps, append. -/
import Derived.Test.YtgkjbkkbjlhafaaGreatEvH
import Derived.Laws.Build
import Derived.Laws.AppendOwn
import Derived.Laws.MakeOwn
namespace Go.Ev

section
variable {Ω : Type} {P : Program} {Γ : Box} {μ : Emb} {ρ : Nat → Int} {M : Mem} {w : World}

theorem strIs_len {a : List SI} {s : ByteArray} (h : strIs ρ a s) : a.length = s.size := h.length.trans Array.length_toList

theorem ok_cat (hM : MR μ ρ M w) {t : TypeId} {ox oy : Operand} {a b : List SI} {s r : ByteArray} (ha : strIs ρ a s) (hb : strIs ρ b r) {u v : Value} (hu : u = .string s) (hv : v = .string r) (hle : a.length + b.length ≤ 1073741824) :
    DoneV P μ ρ M w (do eqGuard .add t ox oy u v; binOp .add t u v) (.leaf (.str (a ++ b))) M := by
  subst hu; subst hv
  refine .still hM (x := .string (s ++ r)) ?_ ⟨_, ?_, rfl⟩
  · have h1 := strIs_len ha
    have h2 := strIs_len hb
    have : ¬ (((s.size + r.size : Nat) : Int) > IntKind.i64.max) := by simp [IntKind.max, IntKind.signed, IntKind.bits]; omega
    simp only [eqGuard, binOp, Op.stringOp]
    rw [if_neg this]; rfl
  · unfold strIs
    rw [ByteArray.data_append, Array.toList_append]
    exact All2.append ha hb

theorem ok_not (hM : MR μ ρ M w) {b : Bool} {u : Value} (hu : u = .bool b) : DoneV P μ ρ M w (Op.unary .not u) (.leaf (.bool (!b))) M := by
  subst hu; exact .still hM (x := .bool (!b)) rfl rfl

theorem ok_notTop (hM : MR μ ρ M w) {u : Value} (hu : ∃ b, u = .bool b) : DoneV P μ ρ M w (Op.unary .not u) (.leaf .topb) M := by
  obtain ⟨b, rfl⟩ := hu; exact .still hM (x := .bool (!b)) rfl ⟨_, rfl⟩

theorem ok_neg (hρ : Γ.has ρ) (hM : MR μ ρ M w) {j : IntKind} {a s : SI} {u : Value} (hu : AV.rel μ ρ (.leaf (.int j a)) u) (hs : arSI Γ .sub j (.lit 0) a = some s) : DoneV P μ ρ M w (Op.unary .neg u) (.leaf (.int j s)) M := by
  obtain ⟨x, hx, fx, rfl⟩ := hu
  have f0 : fits j 0 = true := by cases j <;> rfl
  obtain ⟨n, h1, h2, h3⟩ := arSI_ok hρ hs (show SI.is ρ (.lit 0) 0 from rfl) hx f0 (fun _ _ => fx)
  simp only [arVal, Option.some.injEq] at h3
  exact .still hM (x := .int j n) (by simp [Op.unary, Op.intArith, ← h3]) ⟨n, h1, h2, rfl⟩

theorem ok_inv (hρ : Γ.has ρ) (hM : MR μ ρ M w) {j : IntKind} {a s : SI} {u : Value} (hu : AV.rel μ ρ (.leaf (.int j a)) u) (hs : arSI Γ .xor j (.lit (if j.signed then -1 else j.max)) a = some s) :
    DoneV P μ ρ M w (Op.unary .xor u) (.leaf (.int j s)) M := by
  obtain ⟨x, hx, fx, rfl⟩ := hu
  have f0 : fits j (if j.signed then -1 else j.max) = true := by cases j <;> rfl
  obtain ⟨n, h1, h2, h3⟩ := arSI_ok hρ hs (show SI.is ρ (.lit (if j.signed then -1 else j.max)) _ from rfl) hx f0 (fun _ _ => fx)
  simp only [arVal, Option.some.injEq] at h3
  exact .still hM (x := .int j n) (by simp [Op.unary, Op.intBits, ← h3, bitsGen]) ⟨n, h1, h2, rfl⟩

def convSI (Γ : Box) (j : IntKind) (a : SI) : SI :=
  match a with | .lit n => .lit (wrapF j n) | .lin c ts => tidy Γ j c ts | .rng l h => (match fits j l && fits j h with | true => .rng l h | false => full j)

theorem convSI_ok (hρ : Γ.has ρ) (j : IntKind) {a : SI} {x : Int} (h : a.is ρ x) : (convSI Γ j a).is ρ (j.wrap x) := by
  cases a with
  | lit n => simp only [SI.is] at h; subst h; exact (wrapF_eq j x).symm
  | lin c ts => simp only [SI.is] at h; subst h; exact tidy_ok hρ j c ts
  | rng l hh =>
    simp only [convSI]
    split
    · rename_i hf
      rw [Bool.and_eq_true, fits_iff, fits_iff] at hf
      rw [wrap_of_in ⟨by have := h.1; omega, by have := h.2; omega⟩]; exact h
    · exact full_is ..

theorem ok_conv (hρ : Γ.has ρ) (hM : MR μ ρ M w) {src dst : TypeId} {j k : IntKind} {a : SI} {u : Value} (hu : AV.rel μ ρ (.leaf (.int k a)) u) (hs : (P.underlying src).isSome = true) (hd : P.underlying dst = some (.int j)) :
    DoneV P μ ρ M w (convert src dst u) (.leaf (.int j (convSI Γ j a))) M := by
  obtain ⟨x, hx, _, rfl⟩ := hu
  obtain ⟨d, hd'⟩ := Option.isSome_iff_exists.mp hs
  exact .still hM (x := .int j (j.wrap x)) (by simp [convert, run_underlying hd', run_underlying hd, Conv.intToInt]) ⟨_, convSI_ok hρ j hx, (fits_iff _ _).2 (wrap_in ..), rfl⟩

theorem ok_iface (hM : MR μ ρ M w) {t : TypeId} (ht : P.concrete t = true) {x : LV} {u : Value} (hu : x.rel μ ρ u) : DoneV P μ ρ M w (Instr.makeInterface t u) (.leaf (.iface t x)) M :=
  .still hM (x := .iface t u) (run_makeInterface w t u ht) ⟨u, hu, rfl⟩

theorem ptrsK_ok : ∀ {vs : List AV} {us : List Value}, All2 (AV.rel μ ρ) vs us → ∀ {k : List (Pos × Nat) → Option Ω} {r : Ω}, evOp.ptrsK vs k = some r → ∃ cs, k cs = some r ∧ All2 (capIs μ) cs us
  | [], _, .nil, k, r, h => ⟨[], h, .nil⟩
  | v :: vs, u :: us, .cons hv hvs, k, r, h => by
    change (ptrK v fun b o => evOp.ptrsK vs fun l => k ((b, o) :: l)) = some r at h
    obtain ⟨b, o, m, h, hm, rfl⟩ := ptrK_ok h hv
    obtain ⟨cs, hk, hcs⟩ := ptrsK_ok hvs h
    exact ⟨(b, o) :: cs, hk, .cons ⟨m, hm, rfl⟩ hcs⟩

theorem ok_mkmap (hM : MR μ ρ M w) (t : TypeId) : DoneV P μ ρ M w (Instr.makeMap t none) (.leaf (.map M.next)) (M.add (.map [])) := by
  obtain ⟨h1, h2⟩ := hM.alloc (.map []) (.map #[] 0) 0 ⟨#[], 0, heap_alloc_new w _, .nil 0, .nil⟩
  exact ⟨.map (some w.heap.size), _, _, by simp [Instr.makeMap], ⟨⟨w.heap.size, 0, 0⟩, by simp [Emb.set], rfl⟩, h1, h2⟩

/-! Fields, elements. -/

theorem ok_fieldA (hM : MR μ ρ M w) {s : TypeId} {f : Nat} {fs : Array Field} {fl : Field} {n : Nat} (hs : P.underlying s = some (.struct fs)) (hf : fs[f]? = some fl) (hn : tsize P fl.type = some n) (h0 : n ≠ 0)
    {b : Pos} {o : Nat} {m : Loc} (hm : μ b = some m) {v : Value} (hv : v = .pointer (some ⟨m.blk, m.base + o, none⟩)) : DoneV P μ ρ M w (Instr.fieldAt s v f) (.leaf (.ptr b (Nat.add o fl.offset))) M := by
  subst hv
  refine .still hM (x := .pointer (some ⟨m.blk, m.base + (o + fl.offset), none⟩)) ?_ ⟨m, hm, rfl⟩
  simp [Instr.fieldAt, run_underlying hs, hf, Instr.sureAddr, fieldPlace, run_size hn, h0, add_at, Nat.add_assoc]

theorem All2.extract {r : LV → Value → Prop} {cs : List LV} {xs : List Value} (h : All2 r cs xs) (off n : Nat) : All2 r ((cs.drop off).take n) (xs.toArray.extract off (off + n)).toList := by
  rw [Array.toList_extract]
  simp only [List.extract, Nat.add_sub_cancel_left]
  exact (h.drop off).take n

theorem ok_part (hM : MR μ ρ M w) {t : TypeId} {cs : List LV} {xs : List Value} (h : All2 (LV.rel μ ρ) cs xs) {off : Nat} {x : LV} (ht : tagg P t = some false) (hx : nth off cs = some x) : DoneV P μ ρ M w (part t xs.toArray off) (.leaf x) M := by
  rw [nth_eq] at hx
  obtain ⟨y, hy, hr⟩ := h.get hx
  exact .still hM (x := y) (by simp [part, run_agg ht, hy]) hr

theorem ok_partN (hM : MR μ ρ M w) {t : TypeId} {cs : List LV} {xs : List Value} (h : All2 (LV.rel μ ρ) cs xs) {off n : Nat} (ht : tagg P t = some true) (hn : tsize P t = some n) :
    DoneV P μ ρ M w (part t xs.toArray off) (.agg ((cs.drop off).take n)) M :=
  .still hM (x := .agg (xs.toArray.extract off (off + n))) (by simp [part, run_agg ht, run_size hn]) ⟨_, h.extract off n, by simp⟩

theorem ok_idxS (hM : MR μ ρ M w) {t e : TypeId} {esz : Nat} (ht : P.underlying t = some (.slice e)) (hn : tsize P e = some esz) {b : Pos} {off len n : Nat} {cap : Option Nat} {u v : Value} (hu : LV.rel μ ρ (.slice b off len esz cap) u)
    {j : IntKind} (hv : v = .int j (Int.ofNat n)) (hlt : n < len) : DoneV P μ ρ M w (Instr.indexAt t u v) (.leaf (.ptr b (Nat.add off (Nat.mul n esz)))) M := by
  obtain ⟨m, a, c, hm, _, hlc, _, ha, rfl⟩ := hu
  subst hv
  obtain rfl := ha (by omega)
  refine .still hM (x := .pointer (some ⟨m.blk, m.base + (off + n * esz), none⟩)) ?_ ⟨m, hm, rfl⟩
  simp [Instr.indexAt, run_underlying ht, asIntOf, run_size hn, add_at, Nat.add_assoc]
  omega

theorem ok_idxA (hM : MR μ ρ M w) {t e : TypeId} {esz len : Nat} (ht : P.underlying t = some (.array len e)) (hn : tsize P e = some esz) {b : Pos} {o n : Nat} {m : Loc} (hm : μ b = some m) {u v : Value} (hu : u = .pointer (some ⟨m.blk, m.base + o, none⟩))
    {j : IntKind} (hv : v = .int j (Int.ofNat n)) (hlt : n < len) : DoneV P μ ρ M w (Instr.indexAt t u v) (.leaf (.ptr b (Nat.add o (Nat.mul n esz)))) M := by
  subst hu; subst hv
  refine .still hM (x := .pointer (some ⟨m.blk, m.base + (o + n * esz), none⟩)) ?_ ⟨m, hm, rfl⟩
  simp [Instr.indexAt, run_underlying ht, asIntOf, Instr.sureAddr, run_size hn, add_at, Nat.add_assoc]
  omega

theorem run_index (t e : TypeId) (len n : Nat) (j : IntKind) (xs : Array Value) (ht : P.underlying t = some (.array len e)) (hlt : n < len) {esz : Nat} (hn : tsize P e = some esz) (w : World) :
    (Instr.index t (.agg xs) (.int j (Int.ofNat n))).run P w = (part e xs (n * esz)).run P w := by
  simp [Instr.index, run_underlying ht, asIntOf, run_size hn]
  omega

theorem ok_indexStr (hM : MR μ ρ M w) {t : TypeId} (ht : P.underlying t = some .string) {bs : List SI} {s : ByteArray} (hs : strIs ρ bs s) {u v : Value} (hu : u = .string s) {j : IntKind} {n : Nat} (hv : v = .int j (Int.ofNat n)) {x : SI}
    (hx : nth n bs = some x) : DoneV P μ ρ M w (Instr.index t u v) (.leaf (.int .u8 x)) M := by
  subst hu; subst hv
  rw [nth_eq] at hx
  obtain ⟨c, hc, hr⟩ := hs.get hx
  have hlt : n < s.size := by
    have := strIs_len hs
    have : n < bs.length := by
      by_cases hl : n < bs.length
      · exact hl
      · rw [List.getElem?_eq_none (by omega)] at hx; cases hx
    omega
  have hc' : s[n]? = some c := by
    have h2 : s.data.toList[n]? = s.data[n]? := Array.getElem?_toList
    rw [h2] at hc
    have h3 : s.data[n]? = some (s.data[n]'hlt) := Array.getElem?_eq_getElem hlt
    rw [h3] at hc
    rw [getElem?_pos s n hlt]
    exact hc
  refine .still hM (x := .int .u8 c.toNat) ?_ ⟨_, hr, ?_, rfl⟩
  · simp [Instr.index, run_underlying ht, asIntOf, hc']
  · have := c.toNat_lt
    rw [fits_iff]; simp [IntKind.min, IntKind.max, IntKind.signed, IntKind.bits]; omega

/-! Maps. -/

/-- A key's type: false integers, true strings. -/
def keyKind (P : Program) (t : TypeId) : Option Bool :=
  match P.underlying t with
  | some (.int _) => some false
  | some .string => some true
  | _ => none

theorem keyKind_ok {t : TypeId} {ks : Bool} (h : keyKind P t = some ks) : (∃ q, P.underlying t = some (.int q) ∧ ks = false) ∨ (P.underlying t = some .string ∧ ks = true) := by
  unfold keyKind at h
  split at h
  · rename_i q hu; cases h; exact .inl ⟨q, hu, rfl⟩
  · rename_i hu; cases h; exact .inr ⟨hu, rfl⟩
  · cases h

theorem run_checkKey {t : TypeId} {ks : Bool} (h : keyKind P t = some ks) (e : Bool) (v : Value) (w : World) : (Instr.checkKey e 10000 t v).run P w = .ok () w := by
  rcases keyKind_ok h with ⟨q, hu, _⟩ | ⟨hu, _⟩
  · show ((underlying t >>= fun d => _).run P w) = _
    rw [Sem.run_bind, run_underlying hu, Result.andThen_ok]; cases v <;> rfl
  · show ((underlying t >>= fun d => _).run P w) = _
    rw [Sem.run_bind, run_underlying hu, Result.andThen_ok]; cases v <;> rfl

theorem keyEq_ok (hρ : Γ.has ρ) {ks : Bool} {d : TypeDesc} (hd : (∃ q, d = .int q ∧ ks = false) ∨ (d = .string ∧ ks = true)) {x y : V1} {r : Bool} (h : keyEq Γ ks x y = some r) {u v : Value} (hu : x.rel μ ρ u) (hv : y.rel μ ρ v) :
    Instr.sameNow d u v = some r ∧ (r = true → u = v ∧ Instr.sameBits 10000 v u = true) := by
  cases x with
  | agg _ => cases h
  | leaf x =>
    cases y with
    | agg _ => cases h
    | leaf y =>
      rcases hd with ⟨q, rfl, rfl⟩ | ⟨rfl, rfl⟩
      · cases x <;> try (cases h; done)
        cases y <;> try (cases h; done)
        rename_i j a j' b
        simp only [keyEq] at h
        split at h
        · rename_i hk
          split at h
          · rename_i c hc
            split at h
            · rename_i s
              cases h
              obtain ⟨n, hn, _, rfl⟩ := hu
              obtain ⟨m, hm, _, rfl⟩ := hv
              obtain rfl := kindEq_eq hk
              obtain ⟨r', e1, e2⟩ := cmpSI_ok (μ := μ) hρ hc hn hm
              simp only [LV.rel, Value.bool.injEq] at e2; subst e2
              simp only [cmpVal, Option.some.injEq] at e1
              refine ⟨?_, fun hr => ?_⟩
              · simp only [Instr.sameNow, if_true, Option.some.injEq]
                rw [← e1, Bool.eq_iff_iff]; simp
              · rw [hr, decide_eq_true_iff] at e1; subst e1; exact ⟨rfl, by simp [Instr.sameBits]⟩
            · cases h
          · cases h
        · cases h
      · cases x <;> try (cases h; done)
        cases y <;> try (cases h; done)
        rename_i a b
        simp only [keyEq] at h
        split at h
        · rename_i s hs
          cases h
          obtain ⟨x, hx, rfl⟩ := hu
          obtain ⟨y, hy, rfl⟩ := hv
          have he := eqStr_ok (μ := μ) hρ hx hy
          rw [hs] at he
          simp only [LV.rel, Value.bool.injEq] at he
          have hxy : ((x == y) = true) ↔ x = y := by
            rw [beq_toListBytes, bytes_beq, decide_eq_true_iff]
            constructor
            · intro e
              obtain ⟨⟨p⟩⟩ := x; obtain ⟨⟨q⟩⟩ := y
              have : p = q := e
              rw [this]
            · intro e; rw [e]
          have hb : (x == y) = r := by rw [beq_toListBytes, bytes_beq]; exact he
          refine ⟨?_, fun hr => ?_⟩
          · simp only [Instr.sameNow]; rw [hb]
          · rw [hr] at hb
            obtain rfl := hxy.1 hb
            exact ⟨rfl, by simp [Instr.sameBits, hb]⟩
        · cases h

def EntryIs (μ : Emb) (ρ : Nat → Int) (e : V1 × V1) (x : MapEntry) : Prop := e.1.rel μ ρ x.key ∧ e.2.rel μ ρ x.val

theorem findE_ok (hρ : Γ.has ρ) {ks : Bool} {d : TypeDesc} (hd : (∃ q, d = .int q ∧ ks = false) ∨ (d = .string ∧ ks = true)) {key : V1} {u : Value} (hu : key.rel μ ρ u) : ∀ {es : List (V1 × V1)} {xs : List MapEntry}, All2 (EntryIs μ ρ) es xs →
    ∀ {i : Nat} {f : Option (Nat × V1)}, findE Γ ks key es i = some f →
      (f = none ∧ Instr.findNow d u xs i = some none) ∨
      (∃ n y x, f = some (i + n, y) ∧ Instr.findNow d u xs i = some (some (i + n, x.val)) ∧ y.rel μ ρ x.val ∧ xs[n]? = some x ∧ n < es.length ∧ x.key = u ∧ Instr.sameBits 10000 x.key u = true)
  | [], _, .nil, i, f, h => .inl ⟨(Option.some.inj h).symm, rfl⟩
  | e :: es, x :: xs, .cons he hes, i, f, h => by
    change (match keyEq Γ ks key e.1 with | some r => (match r with | true => some (some (i, e.2)) | false => findE Γ ks key es (Nat.succ i)) | none => none) = some f at h
    split at h
    · rename_i r hr
      obtain ⟨h1, h2⟩ := keyEq_ok hρ hd hr hu he.1
      split at h
      · cases h
        obtain ⟨e1, e2⟩ := h2 rfl
        exact .inr ⟨0, e.2, x, rfl, by simp only [Instr.findNow, h1, Nat.add_zero], he.2, rfl, by simp, e1.symm, e2⟩
      · rcases findE_ok hρ hd hu hes h with ⟨g1, g2⟩ | ⟨n, y, z, g1, g2, g3, g4, g5, g6, g7⟩
        · exact .inl ⟨g1, by simp only [Instr.findNow, h1]; exact g2⟩
        · exact .inr ⟨n + 1, y, z, by rw [g1]; congr 2; omega, by simp only [Instr.findNow, h1]; rw [show i + (n + 1) = i.succ + n by omega]; exact g2, g3, by simpa using g4, by simp; omega, g6, g7⟩
    · cases h

theorem run_findKey {t : TypeId} {d : TypeDesc} (ht : P.underlying t = some d) {u : Value} {xs : List MapEntry} {r : Option (Nat × Value)} (h : Instr.findNow d u xs 0 = some r) (w : World) : (Instr.findKey t u xs).run P w = .ok r w := by
  simp [Instr.findKey, run_underlying ht, h]

theorem keyKind_desc {t : TypeId} {ks : Bool} (h : keyKind P t = some ks) : ∃ d, P.underlying t = some d ∧ ((∃ q, d = .int q ∧ ks = false) ∨ (d = .string ∧ ks = true)) := by
  rcases keyKind_ok h with ⟨q, hu, e⟩ | ⟨hu, e⟩
  · exact ⟨_, hu, .inl ⟨q, rfl, e⟩⟩
  · exact ⟨_, hu, .inr ⟨rfl, e⟩⟩

theorem run_getMap {g : Nat} {entries : Array MapEntry} {clock : Nat} (h : w.heap[g]? = some (.map entries clock)) : (getObj g).run P w = .ok (.map entries clock) w := by
  simp only [getObj, Sem.run, h]

theorem run_setMap {g : Nat} {entries : Array MapEntry} {clock : Nat} (h : w.heap[g]? = some (.map entries clock)) (o : Obj) : (setObj g o).run P w = .ok () { w with heap := w.heap.setIfInBounds g o } := by
  simp only [setObj, Sem.run, h]

/-- The value of the element's type that a look-up tells where there is none. -/
def zeroV1 (P : Program) (t : TypeId) : Option V1 := match tagg P t, tzero P t with | some true, some cs => some (.agg cs) | some false, some cs => (match cs with | [x] => some (.leaf x) | _ => none) | _, _ => none

def zeroOk (P : Program) (t : TypeId) : Bool := match P.info? t with | some i => (match i.zero with | some v => (match v with | .agg _ => (match tagg P t with | some b => b | none => false) | _ => (match tagg P t with | some b => !b | none => false)) | none => false) | none => false

theorem run_zeroV1 {t : TypeId} {z : V1} (h : zeroV1 P t = some z) (hk : zeroOk P t = true) (w : World) : ∃ v, (zeroValue t).run P w = .ok v w ∧ z.rel μ ρ v := by
  unfold zeroV1 at h
  split at h
  · rename_i cs h1 h2
    cases h
    obtain ⟨v, hv, hc, i, hi, hz⟩ := run_zero h2 w
    refine ⟨v, hv, ?_⟩
    simp only [zeroOk, hi, hz, h1] at hk
    cases v <;> simp at hk
    rename_i xs
    exact ⟨xs.toList, by simpa [Value.cells] using clvs_ok hc μ ρ, by simp⟩
  · rename_i cs h1 h2
    split at h <;> cases h
    rename_i x
    obtain ⟨v, hv, hc, i, hi, hz⟩ := run_zero h2 w
    refine ⟨v, hv, ?_⟩
    simp only [zeroOk, hi, hz, h1] at hk
    have : v.cells = #[v] := by cases v <;> first | rfl | (simp at hk)
    rw [this] at hc
    have := clvs_ok hc μ ρ
    cases this with
    | cons h _ => exact h
  · cases h

theorem ok_lookup (hρ : Γ.has ρ) (hM : MR μ ρ M w) {t key elem : TypeId} {ks : Bool} {z : V1} (ht : P.underlying t = some (.map key elem)) (hk : keyKind P key = some ks) (hz : zeroV1 P elem = some z) (hz' : zeroOk P elem = true)
    {b : Pos} {m : Loc} (hm : μ b = some m) {es : List (V1 × V1)} (hb : M.blks.get b = some (.map es)) {x : V1} {u v : Value} (hu : u = .map (some m.blk)) (hv : x.rel μ ρ v) {f : Option (Nat × V1)} (hf : findE Γ ks x es 0 = some f) (ok : Bool) :
    DoneV P μ ρ M w (Instr.lookup t u v ok) (match f with | some iv => (match ok with | true => .tup [iv.2, .leaf (.bool true)] | false => iv.2.av) | none => (match ok with | true => .tup [z, .leaf (.bool false)] | false => z.av)) M := by
  subst hu
  obtain ⟨entries, clock, h1, hst, h2⟩ := hM.blk b _ m hb hm
  obtain ⟨d, hd, hdd⟩ := keyKind_desc hk
  obtain ⟨zv, hzv, hzr⟩ := run_zeroV1 (μ := μ) (ρ := ρ) hz hz' w
  rcases findE_ok hρ hdd hv h2 hf with ⟨rfl, g⟩ | ⟨n, y, x', rfl, g, g3, _⟩
  · refine .still hM (x := if ok then .tuple #[zv, .bool false] else zv) ?_ ?_
    · cases ok <;> simp [Instr.lookup, run_underlying ht, run_getMap h1, run_checkKey hk, run_findKey hd g, hzv]
    · cases ok
      · exact V1.rel_av.2 hzr
      · exact ⟨_, .cons hzr (.cons rfl .nil), rfl⟩
  · refine .still hM (x := if ok then .tuple #[x'.val, .bool true] else x'.val) ?_ ?_
    · cases ok <;> simp [Instr.lookup, run_underlying ht, run_getMap h1, run_checkKey hk, run_findKey hd g]
    · cases ok
      · exact V1.rel_av.2 g3
      · exact ⟨_, .cons g3 (.cons rfl .nil), rfl⟩

theorem ok_lookupNil (hM : MR μ ρ M w) {t key elem : TypeId} {ks : Bool} {z : V1} (ht : P.underlying t = some (.map key elem)) (hk : keyKind P key = some ks) (hz : zeroV1 P elem = some z) (hz' : zeroOk P elem = true)
    {u v : Value} (hu : u = .map none) (ok : Bool) : DoneV P μ ρ M w (Instr.lookup t u v ok) (match ok with | true => .tup [z, .leaf (.bool false)] | false => z.av) M := by
  subst hu
  obtain ⟨d, hd, hdd⟩ := keyKind_desc hk
  obtain ⟨zv, hzv, hzr⟩ := run_zeroV1 (μ := μ) (ρ := ρ) hz hz' w
  refine .still hM (x := if ok then .tuple #[zv, .bool false] else zv) ?_ ?_
  · have g : Instr.findNow d v [] 0 = some none := rfl
    cases ok <;> simp [Instr.lookup, run_underlying ht, run_checkKey hk, run_findKey hd g, hzv]
  · cases ok
    · exact V1.rel_av.2 hzr
    · exact ⟨_, .cons hzr (.cons rfl .nil), rfl⟩

/-- A map's block changed. -/
theorem MR.setMap (hM : MR μ ρ M w) {b : Pos} {m : Loc} (hm : μ b = some m) {es es' : List (V1 × V1)} (hb : M.blks.get b = some (.map es)) {entries : Array MapEntry} {clock : Nat} (hst : Born entries.toList clock) (h : All2 (EntryIs μ ρ) es' entries.toList) :
    MR μ ρ { M with blks := M.blks.put b (some (.map es')) } { w with heap := w.heap.setIfInBounds m.blk (.map entries clock) } ∧ Ext M.next.toNat μ μ w { w with heap := w.heap.setIfInBounds m.blk (.map entries clock) } := by
  have hlt := hM.inb b m hm
  refine ⟨hM.change hb hm ⟨entries, clock, by simp [hlt], hst, h⟩ (fun k hk => by simp; rw [Array.getElem?_setIfInBounds_ne (fun e => hk e.symm)]) (by simp), ⟨.refl μ, by simp, fun i _ hn => ?_, (fun b m h0 h1 => by rw [h0] at h1; cases h1), (fun b m h0 h1 => by rw [h0] at h1; cases h1), rfl, rfl, rfl⟩⟩
  simp
  rw [Array.getElem?_setIfInBounds_ne (hn b m hm)]

theorem All2.set {α β : Type} {r : α → β → Prop} {as : List α} {bs : List β} (h : All2 r as bs) (n : Nat) {a : α} {b : β} (hab : r a b) : All2 r (as.set n a) (bs.set n b) := by
  induction h generalizing n with
  | nil => exact .nil
  | cons h t ih => cases n with
    | zero => exact .cons hab t
    | succ n => exact .cons h (ih n)

theorem set_born {l : List MapEntry} {n : Nat} {x : MapEntry} (h : l[n]? = some x) {k v : Value} : (l.set n { x with key := k, val := v }).map (·.born) = l.map (·.born) := by
  rw [List.map_set]
  apply List.ext_getElem?
  intro i
  rw [List.getElem?_set]
  split
  · rename_i e
    subst e
    rw [List.getElem?_map, h]
    simp only [List.length_map, Option.map_some]
    rw [if_pos]
    by_cases hl : n < l.length
    · exact hl
    · rw [List.getElem?_eq_none (by omega)] at h; cases h
  · rfl

theorem ok_mapup (hρ : Γ.has ρ) (hM : MR μ ρ M w) {t key elem : TypeId} {ks : Bool} (ht : P.underlying t = some (.map key elem)) (hk : keyKind P key = some ks)
    {b : Pos} {m : Loc} (hm : μ b = some m) {es : List (V1 × V1)} (hb : M.blks.get b = some (.map es)) {x y : V1} {u v val : Value} (hu : u = .map (some m.blk)) (hv : x.rel μ ρ v) (hy : y.rel μ ρ val) {f : Option (Nat × V1)} (hf : findE Γ ks x es 0 = some f) :
    DoneU P μ ρ M w (Instr.mapUpdate t u v val) { M with blks := M.blks.put b (some (.map (match f with | some iv => es.set iv.1 (x, y) | none => es ++ [(x, y)]))) } := by
  subst hu
  obtain ⟨entries, clock, h1, hst, h2⟩ := hM.blk b _ m hb hm
  obtain ⟨d, hd, hdd⟩ := keyKind_desc hk
  rcases findE_ok hρ hdd hv h2 hf with ⟨rfl, g⟩ | ⟨n, y', x', rfl, g, g3, g4, g5, g6, g7⟩
  · obtain ⟨r1, r2⟩ := hM.setMap hm hb (entries := entries.push { key := v, val := val, born := clock }) (clock := clock + 1) (es' := es ++ [(x, y)]) (by rw [Array.toList_push]; exact hst.push _ _) (by rw [Array.toList_push]; exact All2.append h2 (.cons ⟨hv, hy⟩ .nil))
    exact ⟨_, μ, by simp [Instr.mapUpdate, run_underlying ht, run_getMap h1, run_checkKey hk, run_findKey hd g, run_setMap h1], r1, r2⟩
  · have hes : (entries.modify n fun e => { e with key := v, val := val }).toList = entries.toList.set n { x' with key := v, val := val } := by
      rw [Array.toList_modify]
      apply List.ext_getElem?
      intro i
      rw [List.getElem?_modify, List.getElem?_set]
      by_cases hi : n = i
      · subst hi
        have : n < entries.toList.length := by
          by_cases hl : n < entries.toList.length
          · exact hl
          · rw [List.getElem?_eq_none (by omega)] at g4; cases g4
        simp only [Array.length_toList] at this
        have hx : entries[n] = x' := by
          have h4 := g4
          rw [Array.getElem?_toList, Array.getElem?_eq_getElem this] at h4
          exact Option.some.inj h4
        simp [this, hx]
      · simp [hi]
    obtain ⟨r1, r2⟩ := hM.setMap hm hb (entries := entries.modify n fun e => { e with key := v, val := val }) (clock := clock) (es' := es.set n (x, y)) (by rw [hes]; exact hst.of_map (set_born g4)) (by rw [hes]; exact h2.set n ⟨hv, hy⟩)
    refine ⟨_, μ, ?_, by simpa using r1, by simpa using r2⟩
    have hold : ((entries[n]?).map (·.key)).getD v = v := by
      rw [← Array.getElem?_toList, g4]; simp [g6]
    have g7' : Instr.sameBits 10000 v v = true := by rw [g6] at g7; exact g7
    have hst : ∀ w : World, (Instr.keyThatStays v v).run P w = .ok v w := fun w => by simp [Instr.keyThatStays, g7']
    have g' : Instr.findNow d v entries.toList 0 = some (some (n, x'.val)) := by simpa using g
    simp only [Instr.mapUpdate, Sem.run_bind, run_underlying ht, Result.andThen_ok, run_getMap h1, run_checkKey hk, run_findKey hd g', hold, hst, run_setMap h1]

end

end Go.Ev
