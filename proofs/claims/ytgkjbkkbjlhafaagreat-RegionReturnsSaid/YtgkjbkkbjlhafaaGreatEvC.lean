/- Generic part C: abstract values and memory, what they mean in a world, and what loading, storing and allocating do to that meaning. -/
import Derived.Test.YtgkjbkkbjlhafaaGreatEvB
import Derived.Laws.Cells
import Derived.Laws.World
import Derived.Laws.Rows
namespace Go.Ev

/-- The value of one cell. -/
inductive LV where
  | bool (b : Bool)
  | topb
  | int (k : IntKind) (i : SI)
  | str (bs : List SI)
  | ptr (b : Pos) (off : Nat)
  | nilptr
  | slice (b : Pos) (off len esz : Nat) (cap : Option Nat)
  | nilslice
  | map (b : Pos)
  | nilmap
  | func (f : Nat) (caps : List (Pos × Nat))
  | fvar (f : Nat) (b : Pos)
  | nilfunc
  | niliface
  | iface (t : Nat) (v : LV)
  | unk

/-- A value: of one cell, or of several. -/
inductive V1 where
  | leaf (v : LV)
  | agg (cs : List LV)

/-- What a slot holds. -/
inductive AV where
  | leaf (v : LV)
  | agg (cs : List LV)
  | tup (vs : List V1)

def V1.av : V1 → AV
  | .leaf v => .leaf v
  | .agg cs => .agg cs

inductive Blk where
  | cells (cs : List LV)
  | map (es : List (V1 × V1))

structure Mem where
  next : Pos
  blks : T Blk

/-- Where a block lies: its number, where it begins, how many cells there are from there on. -/
structure Loc where
  blk : Nat
  base : Nat
  room : Nat

abbrev Emb := Pos → Option Loc

inductive All2 {α β : Type} (r : α → β → Prop) : List α → List β → Prop where
  | nil : All2 r [] []
  | cons {a : α} {b : β} {as : List α} {bs : List β} (h : r a b) (t : All2 r as bs) : All2 r (a :: as) (b :: bs)

section
variable {α β : Type} {r r' : α → β → Prop}

theorem All2.mono {as : List α} {bs : List β} (h : All2 r as bs) (hr : ∀ a b, r a b → r' a b) : All2 r' as bs := by
  induction h with
  | nil => exact .nil
  | cons h _ ih => exact .cons (hr _ _ h) ih

theorem All2.length {as : List α} {bs : List β} (h : All2 r as bs) : as.length = bs.length := by
  induction h with
  | nil => rfl
  | cons _ _ ih => simp [ih]

theorem All2.get {as : List α} {bs : List β} (h : All2 r as bs) {i : Nat} {a : α} (ha : as[i]? = some a) : ∃ b, bs[i]? = some b ∧ r a b := by
  induction h generalizing i with
  | nil => simp at ha
  | cons h _ ih =>
    cases i with
    | zero => simp at ha; subst ha; exact ⟨_, by simp, h⟩
    | succ i => simp at ha; obtain ⟨b, hb, hr⟩ := ih ha; exact ⟨b, by simpa using hb, hr⟩

theorem All2.append {as as' : List α} {bs bs' : List β} (h : All2 r as bs) (h' : All2 r as' bs') : All2 r (as ++ as') (bs ++ bs') := by
  induction h with
  | nil => exact h'
  | cons h _ ih => exact .cons h ih

theorem All2.take {as : List α} {bs : List β} (h : All2 r as bs) (n : Nat) : All2 r (as.take n) (bs.take n) := by
  induction h generalizing n with
  | nil => simp; exact .nil
  | cons h _ ih => cases n with
    | zero => exact .nil
    | succ n => exact .cons h (ih n)

theorem All2.drop {as : List α} {bs : List β} (h : All2 r as bs) (n : Nat) : All2 r (as.drop n) (bs.drop n) := by
  induction h generalizing n with
  | nil => simp; exact .nil
  | cons h t ih => cases n with
    | zero => exact .cons h t
    | succ n => exact ih n

theorem All2.of_get {as : List α} {bs : List β} (hl : as.length = bs.length) (h : ∀ (i : Nat) a b, as[i]? = some a → bs[i]? = some b → r a b) : All2 r as bs := by
  induction as generalizing bs with
  | nil => cases bs with
    | nil => exact .nil
    | cons _ _ => simp at hl
  | cons a as ih => cases bs with
    | nil => simp at hl
    | cons b bs => exact .cons (h 0 a b (by simp) (by simp)) (ih (by simpa using hl) fun (i : Nat) a b ha hb => h (i + 1) a b (by simpa using ha) (by simpa using hb))

end

/-- Bytes that a string may have. -/
def strIs (ρ : Nat → Int) (bs : List SI) (s : ByteArray) : Prop := All2 (fun (b : SI) (u : UInt8) => b.is ρ u.toNat) bs s.data.toList

def capIs (μ : Emb) (c : Pos × Nat) (v : Value) : Prop := ∃ m, μ c.1 = some m ∧ v = .pointer (some ⟨m.blk, m.base + c.2, none⟩)

def LV.rel (μ : Emb) (ρ : Nat → Int) : LV → Value → Prop
  | .bool b, v => v = .bool b
  | .topb, v => ∃ b, v = .bool b
  | .int k i, v => ∃ n, i.is ρ n ∧ fits k n = true ∧ v = .int k n
  | .str bs, v => ∃ s, strIs ρ bs s ∧ v = .string s
  | .ptr b off, v => ∃ m, μ b = some m ∧ v = .pointer (some ⟨m.blk, m.base + off, none⟩)
  | .nilptr, v => v = .pointer none
  | .slice b off len esz cap, v => ∃ m a c, μ b = some m ∧ (off + c * esz ≤ m.room ∧ (cap = none → off + c * esz = m.room)) ∧ len ≤ c ∧ (∀ x, cap = some x → c = x) ∧ (c ≠ 0 → a = ⟨m.blk, m.base + off, none⟩) ∧ v = .slice (some a) len c
  | .nilslice, v => v = .slice none 0 0
  | .map b, v => ∃ m, μ b = some m ∧ v = .map (some m.blk)
  | .nilmap, v => v = .map none
  | .func f caps, v => ∃ xs, All2 (capIs μ) caps xs ∧ v = .func (.func f) #[] xs.toArray
  | .fvar f b, v => ∃ m, (μ b = some m ∧ m.base = 0) ∧ v = .func (.func f) #[] #[.pointer (some ⟨m.blk, 0, none⟩)]
  | .nilfunc, v => v = .nilFunc
  | .niliface, v => v = .nilIface
  | .iface t x, v => ∃ y, LV.rel μ ρ x y ∧ v = .iface t y
  | .unk, v => v.oneCell' = true

def V1.rel (μ : Emb) (ρ : Nat → Int) : V1 → Value → Prop
  | .leaf x, v => x.rel μ ρ v
  | .agg cs, v => ∃ xs : List Value, All2 (LV.rel μ ρ) cs xs ∧ v = .agg xs.toArray

def AV.rel (μ : Emb) (ρ : Nat → Int) : AV → Value → Prop
  | .leaf x, v => x.rel μ ρ v
  | .agg cs, v => ∃ xs : List Value, All2 (LV.rel μ ρ) cs xs ∧ v = .agg xs.toArray
  | .tup vs, v => ∃ xs : List Value, All2 (V1.rel μ ρ) vs xs ∧ v = .tuple xs.toArray

theorem V1.rel_av {μ : Emb} {ρ : Nat → Int} {x : V1} {v : Value} : x.av.rel μ ρ v ↔ x.rel μ ρ v := by cases x <;> rfl

theorem LV.rel_one {μ : Emb} {ρ : Nat → Int} {x : LV} {v : Value} (h : x.rel μ ρ v) : v.oneCell' = true := by
  cases x with
  | bool => cases h; rfl
  | topb => obtain ⟨_, rfl⟩ := h; rfl
  | int => obtain ⟨_, _, _, rfl⟩ := h; rfl
  | str => obtain ⟨_, _, rfl⟩ := h; rfl
  | ptr => obtain ⟨_, _, rfl⟩ := h; rfl
  | nilptr => cases h; rfl
  | slice => obtain ⟨_, _, _, _, _, _, _, _, rfl⟩ := h; rfl
  | nilslice => cases h; rfl
  | map => obtain ⟨_, _, rfl⟩ := h; rfl
  | nilmap => cases h; rfl
  | func => obtain ⟨_, _, rfl⟩ := h; rfl
  | fvar => obtain ⟨_, _, rfl⟩ := h; rfl
  | nilfunc => cases h; rfl
  | niliface => cases h; rfl
  | iface => obtain ⟨_, _, rfl⟩ := h; rfl
  | unk => exact h

/-- One embedding goes on where another one ended. -/
def Emb.Le (μ μ' : Emb) : Prop := ∀ b m, μ b = some m → μ' b = some m

theorem Emb.Le.refl (μ : Emb) : μ.Le μ := fun _ _ h => h
theorem Emb.Le.trans {μ μ' μ'' : Emb} (h : μ.Le μ') (h' : μ'.Le μ'') : μ.Le μ'' := fun b m e => h' b m (h b m e)

theorem capIs.le {μ μ' : Emb} (h : μ.Le μ') {c : Pos × Nat} {v : Value} (hc : capIs μ c v) : capIs μ' c v := by
  obtain ⟨m, hm, rfl⟩ := hc; exact ⟨m, h _ _ hm, rfl⟩

theorem LV.rel_le {μ μ' : Emb} {ρ : Nat → Int} (h : μ.Le μ') {x : LV} : ∀ {v : Value}, x.rel μ ρ v → x.rel μ' ρ v := by
  induction x with
  | ptr b off => rintro v ⟨m, hm, rfl⟩; exact ⟨m, h _ _ hm, rfl⟩
  | slice b off len esz cap => rintro v ⟨m, a, c, hm, h1, h2, h3, h4, rfl⟩; exact ⟨m, a, c, h _ _ hm, h1, h2, h3, h4, rfl⟩
  | map b => rintro v ⟨m, hm, rfl⟩; exact ⟨m, h _ _ hm, rfl⟩
  | func f caps => rintro v ⟨xs, hx, rfl⟩; exact ⟨xs, hx.mono fun _ _ => capIs.le h, rfl⟩
  | fvar f b => rintro v ⟨m, hm, rfl⟩; exact ⟨m, ⟨h _ _ hm.1, hm.2⟩, rfl⟩
  | iface t x ih => rintro v ⟨y, hy, rfl⟩; exact ⟨y, ih hy, rfl⟩
  | _ => intro v hv; exact hv

theorem V1.rel_le {μ μ' : Emb} {ρ : Nat → Int} (h : μ.Le μ') {x : V1} {v : Value} (hx : x.rel μ ρ v) : x.rel μ' ρ v := by
  cases x with
  | leaf x => exact LV.rel_le h hx
  | agg cs => obtain ⟨xs, ha, rfl⟩ := hx; exact ⟨xs, ha.mono fun _ _ => LV.rel_le h, rfl⟩

theorem AV.rel_le {μ μ' : Emb} {ρ : Nat → Int} (h : μ.Le μ') {x : AV} {v : Value} (hx : x.rel μ ρ v) : x.rel μ' ρ v := by
  cases x with
  | leaf x => exact LV.rel_le h hx
  | agg cs => obtain ⟨xs, ha, rfl⟩ := hx; exact ⟨xs, ha.mono fun _ _ => LV.rel_le h, rfl⟩
  | tup vs => obtain ⟨xs, ha, rfl⟩ := hx; exact ⟨xs, ha.mono fun _ _ => V1.rel_le h, rfl⟩

/-- Each entry of a map has a stamp of its own, below the map's clock. -/
def Born (es : List MapEntry) (clock : Nat) : Prop := (∀ x ∈ es, x.born < clock) ∧ (es.map (·.born)).Nodup

theorem Born.nil (clock : Nat) : Born [] clock := ⟨fun _ h => (by cases h), by simp⟩
theorem Born.push {es : List MapEntry} {clock : Nat} (h : Born es clock) (k v : Value) : Born (es ++ [{ key := k, val := v, born := clock }]) (clock + 1) := by
  refine ⟨fun x hx => ?_, ?_⟩
  · rcases List.mem_append.1 hx with h1 | h1
    · exact Nat.lt_succ_of_lt (h.1 x h1)
    · simp at h1; subst h1; exact Nat.lt_succ_self _
  · rw [List.map_append, List.nodup_append]
    refine ⟨h.2, by simp, fun a ha b hb => ?_⟩
    obtain ⟨x, hx, rfl⟩ := List.mem_map.1 ha
    simp at hb; subst hb
    exact Nat.ne_of_lt (h.1 x hx)
theorem Born.of_map {es es' : List MapEntry} {clock : Nat} (h : Born es clock) (e : es'.map (·.born) = es.map (·.born)) : Born es' clock := by
  refine ⟨fun x hx => ?_, by rw [e]; exact h.2⟩
  have : x.born ∈ es.map (·.born) := by rw [← e]; exact List.mem_map.2 ⟨x, hx, rfl⟩
  obtain ⟨y, hy, hyx⟩ := List.mem_map.1 this
  rw [← hyx]; exact h.1 y hy
theorem Born.sub {es es' : List MapEntry} {clock : Nat} (h : Born es clock) (e : es'.Sublist es) : Born es' clock :=
  ⟨fun x hx => h.1 x (e.subset hx), h.2.sublist (e.map _)⟩

/-- Is what is kept of a block what lies there? -/
def Blk.rel (μ : Emb) (ρ : Nat → Int) : Blk → Loc → World → Prop
  | .cells cs, m, w => ∃ c t fr, w.heap[m.blk]? = some (.cells c t fr) ∧ m.base + m.room ≤ c.size ∧ cs.length ≤ m.room ∧
      (∀ o, o < c.size → ¬ (fr.1 ≤ o ∧ o < fr.2)) ∧ ∀ i v, cs[i]? = some v → ∃ x, c[m.base + i]? = some x ∧ v.rel μ ρ x
  | .map es, m, w => ∃ (entries : Array MapEntry) (clock : Nat), w.heap[m.blk]? = some (.map entries clock) ∧ Born entries.toList clock ∧
      All2 (fun (e : V1 × V1) (x : MapEntry) => e.1.rel μ ρ x.key ∧ e.2.rel μ ρ x.val) es entries.toList

theorem Blk.rel_le {μ μ' : Emb} {ρ : Nat → Int} (h : μ.Le μ') {B : Blk} {m : Loc} {w : World} (hB : B.rel μ ρ m w) : B.rel μ' ρ m w := by
  cases B with
  | cells cs =>
    obtain ⟨c, t, fr, h1, h2, h3, h4, h5⟩ := hB
    exact ⟨c, t, fr, h1, h2, h3, h4, fun i v hv => let ⟨x, hx, hr⟩ := h5 i v hv; ⟨x, hx, LV.rel_le h hr⟩⟩
  | map es =>
    obtain ⟨en, cl, h1, hs, h2⟩ := hB
    exact ⟨en, cl, h1, hs, h2.mono fun _ _ hh => ⟨V1.rel_le h hh.1, V1.rel_le h hh.2⟩⟩

theorem Blk.rel_world {μ : Emb} {ρ : Nat → Int} {B : Blk} {m : Loc} {w w' : World} (hB : B.rel μ ρ m w) (h : w'.heap[m.blk]? = w.heap[m.blk]?) : B.rel μ ρ m w' := by
  cases B with
  | cells cs => obtain ⟨c, t, fr, h1, h2⟩ := hB; exact ⟨c, t, fr, h.trans h1, h2⟩
  | map es => obtain ⟨en, cl, h1, h2⟩ := hB; exact ⟨en, cl, h.trans h1, h2⟩

/-- Memory, as it is kept, is what lies in a world. -/
structure MR (μ : Emb) (ρ : Nat → Int) (M : Mem) (w : World) : Prop where
  blk : ∀ b B m, M.blks.get b = some B → μ b = some m → B.rel μ ρ m w
  dist : ∀ b b' B B' m m', M.blks.get b = some B → M.blks.get b' = some B' → μ b = some m → μ b' = some m' → b ≠ b' → m.blk ≠ m'.blk
  fresh : ∀ b m, μ b = some m → b.toNat < M.next.toNat
  inb : ∀ b m, μ b = some m → m.blk < w.heap.size
  ids : ∀ b B, M.blks.get b = some B → b.toNat < M.next.toNat

/-- What becomes of an embedding, a world; names that are new are n or above. -/
structure Ext (n : Nat) (μ μ' : Emb) (w w' : World) : Prop where
  le : μ.Le μ'
  size : w.heap.size ≤ w'.heap.size
  fr : ∀ i, i < w.heap.size → (∀ b m, μ b = some m → m.blk ≠ i) → w'.heap[i]? = w.heap[i]?
  new : ∀ b m, μ b = none → μ' b = some m → w.heap.size ≤ m.blk ∨ ∃ b0 m0, μ b0 = some m0 ∧ m0.blk = m.blk
  ids : ∀ b m, μ b = none → μ' b = some m → n ≤ b.toNat
  os : w'.os = w.os
  tape : w'.tape = w.tape
  output : w'.output = w.output

theorem Ext.refl (n : Nat) (μ : Emb) (w : World) : Ext n μ μ w w :=
  ⟨.refl μ, Nat.le_refl _, fun _ _ _ => rfl, (fun b m h h' => by rw [h] at h'; cases h'), (fun b m h h' => by rw [h] at h'; cases h'), rfl, rfl, rfl⟩

theorem Ext.trans {n n' : Nat} {μ μ' μ'' : Emb} {w w' w'' : World} (h : Ext n μ μ' w w') (h' : Ext n' μ' μ'' w' w'') (hn : n ≤ n') : Ext n μ μ'' w w'' where
  le := h.le.trans h'.le
  size := Nat.le_trans h.size h'.size
  fr := fun i hi hn => by
    rw [h'.fr i (Nat.lt_of_lt_of_le hi h.size) ?_, h.fr i hi hn]
    intro b m hb e
    cases hb0 : μ b with
    | some m0 =>
      have := h.le b m0 hb0
      rw [hb] at this; cases this
      exact hn b m hb0 e
    | none =>
      rcases h.new b m hb0 hb with hge | ⟨b0, m0, h0, e0⟩
      · omega
      · exact hn b0 m0 h0 (e0.trans e)
  new := fun b m h0 h2 => by
    cases h1 : μ' b with
    | some m1 =>
      have := h'.le b m1 h1
      rw [h2] at this; cases this
      exact h.new b m h0 h1
    | none =>
      rcases h'.new b m h1 h2 with hge | ⟨b0, m0, hb0, e0⟩
      · exact .inl (Nat.le_trans h.size hge)
      · cases hb00 : μ b0 with
        | some m00 =>
          have := h.le b0 m00 hb00
          rw [hb0] at this; cases this
          exact .inr ⟨b0, m0, hb00, e0⟩
        | none =>
          rcases h.new b0 m0 hb00 hb0 with hge | ⟨b1, m1, hb1, e1⟩
          · exact .inl (e0 ▸ hge)
          · exact .inr ⟨b1, m1, hb1, e1.trans e0⟩
  ids := fun b m h0 h2 => by
    cases h1 : μ' b with
    | some m1 =>
      have := h'.le b m1 h1
      rw [h2] at this; cases this
      exact h.ids b m h0 h1
    | none => exact Nat.le_trans hn (h'.ids b m h1 h2)
  os := h'.os.trans h.os
  tape := h'.tape.trans h.tape
  output := h'.output.trans h.output

theorem Ext.drew (n : Nat) (μ : Emb) (w : World) (d : Nat) : Ext n μ μ w { w with drawn := d } :=
  ⟨.refl μ, Nat.le_refl _, fun _ _ _ => rfl, (fun b m h h' => by rw [h] at h'; cases h'), (fun b m h h' => by rw [h] at h'; cases h'), rfl, rfl, rfl⟩

theorem MR.drew {μ : Emb} {ρ : Nat → Int} {M : Mem} {w : World} (h : MR μ ρ M w) (n : Nat) : MR μ ρ M { w with drawn := n } :=
  ⟨fun b B m hB hm => Blk.rel_world (h.blk b B m hB hm) rfl, h.dist, h.fresh, h.inb, h.ids⟩

/-! Loading. -/

theorem add_at (g o n : Nat) : (⟨g, o, none⟩ : Addr).add n = ⟨g, o + n, none⟩ := by
  unfold Addr.add; split <;> simp_all

theorem MR.cell {μ : Emb} {ρ : Nat → Int} {M : Mem} {w : World} (h : MR μ ρ M w) {b : Pos} {cs : List LV} {m : Loc} (hb : M.blks.get b = some (.cells cs)) (hm : μ b = some m)
    {i : Nat} {v : LV} (hv : cs[i]? = some v) : ∃ x, w.cell? ⟨m.blk, m.base + i, none⟩ = some x ∧ v.rel μ ρ x := by
  obtain ⟨c, t, fr, h1, _, _, _, h5⟩ := h.blk b _ m hb hm
  obtain ⟨x, hx, hr⟩ := h5 i v hv
  exact ⟨x, by simp [World.cell?, h1, hx], hr⟩

theorem MR.cells {μ : Emb} {ρ : Nat → Int} {M : Mem} {w : World} (h : MR μ ρ M w) {b : Pos} {cs : List LV} {m : Loc} (hb : M.blks.get b = some (.cells cs)) (hm : μ b = some m)
    (off n : Nat) (hn : off + n ≤ cs.length) (P : Program) :
    ∃ xs : List Value, (loadCells ⟨m.blk, m.base + off, none⟩ n).run P w = .ok xs.toArray w ∧ All2 (LV.rel μ ρ) ((cs.drop off).take n) xs ∧ xs.length = n := by
  have key : ∀ l : List LV, ∀ o, (∀ j v, l[j]? = some v → ∃ x, w.cell? ⟨m.blk, m.base + (o + j), none⟩ = some x ∧ v.rel μ ρ x) →
      ∃ xs : List Value, xs.length = l.length ∧ All2 (LV.rel μ ρ) l xs ∧ ∀ j v, xs[j]? = some v → w.cell? ⟨m.blk, m.base + (o + j), none⟩ = some v := by
    intro l
    induction l with
    | nil => intro o _; exact ⟨[], rfl, .nil, fun j v hv => by simp at hv⟩
    | cons a l ih =>
      intro o ho
      obtain ⟨x, hx, hr⟩ := ho 0 a (by simp)
      obtain ⟨xs, hl, ha, hc⟩ := ih (o + 1) fun j v hv => by
        obtain ⟨y, hy, hr⟩ := ho (j + 1) v (by simpa using hv)
        exact ⟨y, by rw [show o + 1 + j = o + (j + 1) by omega]; exact hy, hr⟩
      refine ⟨x :: xs, by simp [hl], .cons hr ha, ?_⟩
      intro j v hv
      cases j with
      | zero => simp at hv; subst hv; exact hx
      | succ j => rw [show o + (j + 1) = o + 1 + j by omega]; exact hc j v (by simpa using hv)
  obtain ⟨xs, hl, ha, hc⟩ := key ((cs.drop off).take n) off fun j v hv => by
    have hj : j < n := by
      by_cases hj : j < n
      · exact hj
      · rw [List.getElem?_take] at hv; simp [hj] at hv
    rw [List.getElem?_take, if_pos hj, List.getElem?_drop] at hv
    exact h.cell hb hm hv
  have hlen : xs.length = n := by rw [hl]; simp; omega
  refine ⟨xs, ?_, ha, hlen⟩
  have := run_loadCells_list (P := P) w ⟨m.blk, m.base + off, none⟩ xs fun j v hv => by
    rw [add_at, Nat.add_assoc]; exact hc j v hv
  rw [hlen] at this
  exact this

/-! Storing. -/

theorem storeCells_run (P : Program) (g o : Nat) (t : TypeId) (fr : Nat × Nat) : ∀ (vs : List Value) (i : Nat) (c : Array Value) (w : World),
    w.heap[g]? = some (.cells c t fr) → (∀ v ∈ vs, v.oneCell' = true) → o + i + vs.length ≤ c.size → (∀ j, j < c.size → ¬ (fr.1 ≤ j ∧ j < fr.2)) →
    ∃ w' c', (storeCells ⟨g, o, none⟩ vs i).run P w = .ok () w' ∧ w'.heap[g]? = some (.cells c' t fr) ∧ c'.size = c.size ∧
      (∀ j, c'[j]? = if o + i ≤ j ∧ j < o + i + vs.length then vs[j - (o + i)]? else c[j]?) ∧ (∀ k, k ≠ g → w'.heap[k]? = w.heap[k]?) ∧
      w'.heap.size = w.heap.size ∧ w'.os = w.os ∧ w'.tape = w.tape ∧ w'.output = w.output := by
  intro vs
  induction vs with
  | nil =>
    intro i c w hg _ _ _
    refine ⟨w, c, rfl, hg, rfl, fun j => ?_, fun _ _ => rfl, rfl, rfl, rfl, rfl⟩
    rw [if_neg (by simp)]
  | cons v vs ih =>
    intro i c w hg hone hsz hfr
    have hlt : o + i < c.size := by simp at hsz; omega
    have hcell : w.cell? ⟨g, o + i, none⟩ = some c[o + i] := by simp [World.cell?, hg, hlt]
    have hfz : w.frozen? ⟨g, o + i, none⟩ = false := by
      have := hfr (o + i) hlt
      obtain ⟨lo, hi⟩ := fr
      simp [World.frozen?, hg]; omega
    have hg' : (w.setCell ⟨g, o + i, none⟩ v).heap[g]? = some (.cells (c.setIfInBounds (o + i) v) t fr) := by
      simp [World.setCell, Array.getElem?_modify, hg]
    obtain ⟨w', c', h1, h2, h3, h4, h5, h6, h7, h8, h9⟩ := ih (i + 1) (c.setIfInBounds (o + i) v) (w.setCell ⟨g, o + i, none⟩ v) hg' (fun u hu => hone u (by simp [hu])) (by simp at hsz ⊢; omega) (by simpa using hfr)
    refine ⟨w', c', ?_, h2, by simpa using h3, fun j => ?_, fun k hk => (h5 k hk).trans (heap_setCell_other w _ k v hk), by simpa [World.setCell] using h6, h7, h8, h9⟩
    · simp only [storeCells, Sem.run_bind, add_at, run_store P w _ v .plain (hone v (by simp)), hcell, hfz, Bool.false_eq_true, if_false, Result.andThen_ok]
      exact h1
    · rw [h4 j]
      by_cases hj : j = o + i
      · subst hj
        rw [if_neg (by omega), if_pos ⟨Nat.le_refl _, by simp⟩]
        simp [hlt]
      · by_cases hin : o + (i + 1) ≤ j ∧ j < o + (i + 1) + vs.length
        · rw [if_pos hin, if_pos ⟨by omega, by simp; omega⟩]
          rw [show j - (o + i) = (j - (o + (i + 1))) + 1 by omega]; simp
        · rw [if_neg hin, if_neg (by simp; omega)]
          rw [Array.getElem?_setIfInBounds_ne (by omega)]

theorem All2.one {μ : Emb} {ρ : Nat → Int} {cs : List LV} {xs : List Value} (h : All2 (LV.rel μ ρ) cs xs) : ∀ v ∈ xs, v.oneCell' = true := by
  induction h with
  | nil => intro v hv; simp at hv
  | cons h _ ih => intro v hv; simp at hv; rcases hv with rfl | hv; exact LV.rel_one h; exact ih v hv

theorem get_over {α : Type} (n : Nat) (new l : List α) (h : n + new.length ≤ l.length) (j : Nat) : (over n new l)[j]? = if n ≤ j ∧ j < n + new.length then new[j - n]? else l[j]? := by
  unfold over
  by_cases h1 : j < n
  · rw [List.getElem?_append_left (by simp; omega), if_neg (by omega), List.getElem?_take_of_lt h1]
  · rw [List.getElem?_append_right (by simp; omega)]
    have : (l.take n).length = n := by simp; omega
    rw [this]
    by_cases h2 : j < n + new.length
    · rw [if_pos (by omega), List.getElem?_append_left (by omega)]
    · rw [if_neg (by omega), List.getElem?_append_right (by omega), List.getElem?_drop]
      congr 1; omega

theorem length_over {α : Type} (n : Nat) (new l : List α) (h : n + new.length ≤ l.length) : (over n new l).length = l.length := by
  unfold over; simp; omega

/-- A block's cells changed. -/
theorem MR.change {μ : Emb} {ρ : Nat → Int} {M : Mem} {w w' : World} (h : MR μ ρ M w) {b : Pos} {B B' : Blk} {m : Loc} (hb : M.blks.get b = some B) (hm : μ b = some m)
    (hB : B'.rel μ ρ m w') (hk : ∀ k, k ≠ m.blk → w'.heap[k]? = w.heap[k]?) (hs : w'.heap.size = w.heap.size) :
    MR μ ρ { M with blks := M.blks.put b (some B') } w' where
  blk := fun b' C m' hC hm' => by
    simp only [T.get_put] at hC
    split at hC
    · rename_i e; subst e; cases hC; rw [hm] at hm'; cases hm'; exact hB
    · rename_i e
      refine Blk.rel_world (h.blk b' C m' hC hm') (hk _ ?_)
      exact h.dist b' b C B m' m hC hb hm' hm e
  dist := fun b1 b2 B1 B2 m1 m2 g1 g2 e1 e2 hne => by
    simp only [T.get_put] at g1 g2
    split at g1 <;> split at g2
    · rename_i x y; exact absurd (x.trans y.symm) hne
    · rename_i x y; subst x; exact h.dist b1 b2 B B2 m1 m2 hb g2 e1 e2 hne
    · rename_i x y; subst y; exact h.dist b1 b2 B1 B m1 m2 g1 hb e1 e2 hne
    · exact h.dist b1 b2 B1 B2 m1 m2 g1 g2 e1 e2 hne
  fresh := h.fresh
  inb := fun b m hm => hs ▸ h.inb b m hm
  ids := fun b' C hC => by
    simp only [T.get_put] at hC
    split at hC
    · rename_i e; subst e; exact h.ids b' B hb
    · exact h.ids b' C hC

theorem MR.store {μ : Emb} {ρ : Nat → Int} {M : Mem} {w : World} (h : MR μ ρ M w) {b : Pos} {cs : List LV} {m : Loc} (hb : M.blks.get b = some (.cells cs)) (hm : μ b = some m)
    (off : Nat) {new : List LV} {xs : List Value} (hx : All2 (LV.rel μ ρ) new xs) (hn : off + new.length ≤ cs.length) (P : Program) :
    ∃ w', (storeCells ⟨m.blk, m.base + off, none⟩ xs).run P w = .ok () w' ∧ MR μ ρ { M with blks := M.blks.put b (some (.cells (over off new cs))) } w' ∧ Ext M.next.toNat μ μ w w' := by
  obtain ⟨c, t, fr, h1, h2, h3, h4, h5⟩ := h.blk b _ m hb hm
  have hlen := hx.length
  obtain ⟨w', c', e1, e2, e3, e4, e5, e6, e7, e8, e9⟩ := storeCells_run P m.blk (m.base + off) t fr xs 0 c w h1 hx.one (by omega) h4
  refine ⟨w', e1, h.change hb hm ⟨c', t, fr, e2, by omega, by rw [length_over _ _ _ hn]; exact h3, by rw [e3]; exact h4, ?_⟩ e5 e6, ?_⟩
  · intro i v hv
    rw [get_over _ _ _ hn] at hv
    rw [e4]
    split at hv
    · rename_i hi
      rw [if_pos (by omega)]
      obtain ⟨x, hx1, hx2⟩ := hx.get hv
      exact ⟨x, by rw [show m.base + i - (m.base + off + 0) = i - off by omega]; exact hx1, hx2⟩
    · rename_i hi
      rw [if_neg (by omega)]
      exact h5 i v hv
  · exact ⟨.refl μ, by omega, fun i _ hn => e5 i fun e => hn b m hm e.symm, (fun b m h0 h1 => by rw [h0] at h1; cases h1), (fun b m h0 h1 => by rw [h0] at h1; cases h1), e7, e8, e9⟩

/-! Allocating. -/

def Emb.set (μ : Emb) (b : Pos) (m : Loc) : Emb := fun b' => if b' = b then some m else μ b'

noncomputable def Mem.add (M : Mem) (B : Blk) : Mem := { next := M.next.succ, blks := M.blks.put M.next (some B) }

theorem MR.nextNone {μ : Emb} {ρ : Nat → Int} {M : Mem} {w : World} (h : MR μ ρ M w) : μ M.next = none := by
  cases hm : μ M.next with
  | none => rfl
  | some m => exact absurd (h.fresh _ _ hm) (Nat.lt_irrefl _)

theorem Emb.le_set {μ : Emb} {b : Pos} (m : Loc) (h : μ b = none) : μ.Le (μ.set b m) := by
  intro b' m' hb'
  unfold Emb.set
  split
  · rename_i e; subst e; rw [h] at hb'; cases hb'
  · exact hb'

theorem MR.alloc {μ : Emb} {ρ : Nat → Int} {M : Mem} {w : World} (h : MR μ ρ M w) (B : Blk) (o : Obj) (room : Nat)
    (hB : B.rel (μ.set M.next ⟨w.heap.size, 0, room⟩) ρ ⟨w.heap.size, 0, room⟩ (w.alloc o)) :
    MR (μ.set M.next ⟨w.heap.size, 0, room⟩) ρ (M.add B) (w.alloc o) ∧ Ext M.next.toNat μ (μ.set M.next ⟨w.heap.size, 0, room⟩) w (w.alloc o) := by
  have hnone := h.nextNone
  have hle := Emb.le_set (b := M.next) ⟨w.heap.size, 0, room⟩ hnone
  have hsz : (w.alloc o).heap.size = w.heap.size + 1 := by show (w.heap.push o).size = _; simp
  have old : ∀ i, i < w.heap.size → (w.alloc o).heap[i]? = w.heap[i]? := heap_alloc_old w o
  refine ⟨⟨?_, ?_, ?_, ?_, ?_⟩, ⟨hle, by omega, fun i hi _ => old i hi, ?_, ?_, rfl, rfl, rfl⟩⟩
  · intro b C m hC hm
    simp only [Mem.add, T.get_put] at hC
    simp only [Emb.set] at hm
    split at hC
    · rename_i e; subst e; cases hC; simp at hm; subst hm; exact hB
    · rename_i e
      rw [if_neg e] at hm
      exact Blk.rel_le hle (Blk.rel_world (h.blk b C m hC hm) (old _ (h.inb b m hm)))
  · intro b1 b2 B1 B2 m1 m2 g1 g2 e1 e2 hne
    simp only [Mem.add, T.get_put] at g1 g2
    simp only [Emb.set] at e1 e2
    by_cases x : b1 = M.next <;> by_cases y : b2 = M.next
    · exact absurd (x.trans y.symm) hne
    · rw [if_pos x] at e1; rw [if_neg y] at e2; cases e1
      have := h.inb b2 m2 e2
      intro e; simp at e; omega
    · rw [if_neg x] at e1; rw [if_pos y] at e2; cases e2
      have := h.inb b1 m1 e1
      intro e; simp at e; omega
    · rw [if_neg x] at g1 e1; rw [if_neg y] at g2 e2
      exact h.dist b1 b2 B1 B2 m1 m2 g1 g2 e1 e2 hne
  · intro b m hm
    simp only [Emb.set] at hm
    simp only [Mem.add, Pos.toNat_succ]
    split at hm
    · rename_i e; subst e; omega
    · have := h.fresh b m hm; omega
  · intro b m hm
    simp only [Emb.set] at hm
    rw [hsz]
    split at hm
    · cases hm; simp
    · have := h.inb b m hm; omega
  · intro b C hC
    simp only [Mem.add, T.get_put] at hC
    simp only [Mem.add, Pos.toNat_succ]
    split at hC
    · rename_i e; subst e; omega
    · have := h.ids b C hC; omega
  · intro b m h0 h1
    simp only [Emb.set] at h1
    split at h1
    · cases h1; exact .inl (Nat.le_refl _)
    · rw [h0] at h1; cases h1
  · intro b m h0 h1
    simp only [Emb.set] at h1
    split at h1
    · rename_i e; subst e; exact Nat.le_refl _
    · rw [h0] at h1; cases h1

theorem MR.allocCells {μ : Emb} {ρ : Nat → Int} {M : Mem} {w : World} (h : MR μ ρ M w) {cs : List LV} {xs : List Value} (hx : All2 (LV.rel μ ρ) cs xs) (c : Array Value) (t : TypeId)
    (hc : ∀ (i : Nat) x, xs[i]? = some x → c[i]? = some x) (hlen : xs.length ≤ c.size) :
    MR (μ.set M.next ⟨w.heap.size, 0, c.size⟩) ρ (M.add (.cells cs)) (w.alloc (.cells c t)) ∧ Ext M.next.toNat μ (μ.set M.next ⟨w.heap.size, 0, c.size⟩) w (w.alloc (.cells c t)) := by
  refine h.alloc _ _ _ ⟨c, t, (0, 0), heap_alloc_new w _, by simp, by rw [hx.length]; exact hlen, fun o _ => by simp, fun i v hv => ?_⟩
  obtain ⟨x, h1, h2⟩ := hx.get hv
  exact ⟨x, by simpa using hc i x h1, LV.rel_le (Emb.le_set _ h.nextNone) h2⟩

end Go.Ev
