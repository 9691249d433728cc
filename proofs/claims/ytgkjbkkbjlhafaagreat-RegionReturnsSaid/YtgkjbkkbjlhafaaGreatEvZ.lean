/- Generic part Z: two ends of a region that are alike but for the names of what is new. -/
import Derived.Test.YtgkjbkkbjlhafaaGreatEvU
namespace Go.Ev

/-! Names: those below n are themselves. -/

def hasPair (l : List (Pos × Pos)) (p q : Pos) : Bool := l.any fun e => Pos.same e.1 p && Pos.same e.2 q
theorem hasPair_iff {l : List (Pos × Pos)} {p q : Pos} : hasPair l p q = true ↔ (p, q) ∈ l := by
  simp only [hasPair, List.any_eq_true, Bool.and_eq_true, Pos.same_iff]
  exact ⟨fun ⟨e, h, h1, h2⟩ => by obtain ⟨a, b⟩ := e; simp only at h1 h2; subst h1; subst h2; exact h, fun h => ⟨_, h, rfl, rfl⟩⟩

def simP (n : Nat) (l : List (Pos × Pos)) (p q : Pos) : Bool := match Nat.blt p.toNat n with | true => Pos.same p q | false => hasPair l p q

def noP (p : Pos) (l : List Pos) : Bool := l.all fun q => !Pos.same p q
def distinctP : List Pos → Bool
  | [] => true
  | p :: l => noP p l && distinctP l

def renOk (n N : Nat) (l : List (Pos × Pos)) : Bool :=
  distinctP (l.map (·.1)) && (distinctP (l.map (·.2)) && (Nat.ble n N && l.all fun e => Nat.ble n e.1.toNat && (Nat.ble n e.2.toNat && Nat.blt e.1.toNat N)))

def Rel (n : Nat) (l : List (Pos × Pos)) (p q : Pos) : Prop := (p.toNat < n ∧ p = q) ∨ (n ≤ p.toNat ∧ n ≤ q.toNat ∧ (p, q) ∈ l)

theorem blt_iff {a b : Nat} : Nat.blt a b = true ↔ a < b := by simp only [Nat.blt, Nat.ble_eq]; exact Iff.rfl

theorem distinct_snd : ∀ {l : List (Pos × Pos)}, distinctP (l.map (·.1)) = true → ∀ {p q q' : Pos}, (p, q) ∈ l → (p, q') ∈ l → q = q'
  | [], _, _, _, _, h, _ => by cases h
  | e :: l, hd, p, q, q', h, h' => by
    simp only [List.map_cons, distinctP, Bool.and_eq_true] at hd
    have hno : ∀ x, (e.1, x) ∈ l → False := fun x hx => by
      have := List.all_eq_true.1 hd.1 e.1 (List.mem_map.2 ⟨_, hx, rfl⟩)
      rw [Pos.same_iff.2 rfl] at this; cases this
    cases h with
    | head => cases h' with
      | head => rfl
      | tail _ h' => exact (hno _ h').elim
    | tail _ h => cases h' with
      | head => exact (hno _ h).elim
      | tail _ h' => exact distinct_snd hd.2 h h'

theorem distinct_fst : ∀ {l : List (Pos × Pos)}, distinctP (l.map (·.2)) = true → ∀ {p p' q : Pos}, (p, q) ∈ l → (p', q) ∈ l → p = p'
  | [], _, _, _, _, h, _ => by cases h
  | e :: l, hd, p, p', q, h, h' => by
    simp only [List.map_cons, distinctP, Bool.and_eq_true] at hd
    have hno : ∀ x, (x, e.2) ∈ l → False := fun x hx => by
      have := List.all_eq_true.1 hd.1 e.2 (List.mem_map.2 ⟨_, hx, rfl⟩)
      rw [Pos.same_iff.2 rfl] at this; cases this
    cases h with
    | head => cases h' with
      | head => rfl
      | tail _ h' => exact (hno _ h').elim
    | tail _ h => cases h' with
      | head => exact (hno _ h).elim
      | tail _ h' => exact distinct_fst hd.2 h h'

section
variable {n N : Nat} {l : List (Pos × Pos)}

theorem ren_mem (h : renOk n N l = true) {p q : Pos} (hm : (p, q) ∈ l) : n ≤ p.toNat ∧ n ≤ q.toNat ∧ p.toNat < N := by
  simp only [renOk, Bool.and_eq_true] at h
  have := List.all_eq_true.1 h.2.2.2 _ hm
  simp only [Bool.and_eq_true, Nat.ble_eq, blt_iff] at this
  exact this

theorem rel_of_sim (h : renOk n N l = true) {p q : Pos} (hs : simP n l p q = true) : Rel n l p q := by
  unfold simP at hs
  split at hs
  · rename_i hb; exact .inl ⟨blt_iff.1 hb, Pos.same_iff.1 hs⟩
  · have hm := hasPair_iff.1 hs
    obtain ⟨h1, h2, _⟩ := ren_mem h hm
    exact .inr ⟨h1, h2, hm⟩

theorem rel_fun (h : renOk n N l = true) {p q q' : Pos} (h1 : Rel n l p q) (h2 : Rel n l p q') : q = q' := by
  simp only [renOk, Bool.and_eq_true] at h
  rcases h1 with ⟨a1, rfl⟩ | ⟨a1, _, a2⟩ <;> rcases h2 with ⟨b1, rfl⟩ | ⟨b1, _, b2⟩
  · rfl
  · omega
  · omega
  · exact distinct_snd h.1 a2 b2

theorem rel_inj (h : renOk n N l = true) {p p' q : Pos} (h1 : Rel n l p q) (h2 : Rel n l p' q) : p = p' := by
  simp only [renOk, Bool.and_eq_true] at h
  rcases h1 with ⟨a1, rfl⟩ | ⟨a1, a3, a2⟩ <;> rcases h2 with ⟨b1, rfl⟩ | ⟨b1, b3, b2⟩
  · rfl
  · omega
  · omega
  · exact distinct_fst h.2.1 a2 b2

/-- The other end's embedding, by this end's names. -/
noncomputable def Emb.ren (n : Nat) (l : List (Pos × Pos)) (μ : Emb) : Emb := fun p => open Classical in if h : ∃ q, Rel n l p q then μ h.choose else none

theorem ren_at (h : renOk n N l = true) (μ : Emb) {p q : Pos} (hr : Rel n l p q) : Emb.ren n l μ p = μ q := by
  unfold Emb.ren
  have hex : ∃ q, Rel n l p q := ⟨q, hr⟩
  rw [dif_pos hex, rel_fun h hex.choose_spec hr]

theorem of_ren {μ : Emb} {p : Pos} {m : Loc} (h : Emb.ren n l μ p = some m) : ∃ q, Rel n l p q ∧ μ q = some m := by
  unfold Emb.ren at h
  split at h
  · rename_i hex; exact ⟨_, hex.choose_spec, h⟩
  · cases h

end

/-! Values. -/

def simSI : SI → SI → Bool
  | .lit m, .lit k => eqF m k
  | .lin c ts, .lin d us => eqF c d && sameTs ts us
  | .rng a b, .rng c d => eqF a c && eqF b d
  | _, _ => false
theorem simSI_eq {a b : SI} (h : simSI a b = true) : a = b := by
  cases a <;> cases b <;> simp only [simSI, Bool.and_eq_true, eqF_eq, decide_eq_true_iff] at h <;> try (cases h; done)
  · rw [h]
  · rw [h.1, sameTs_eq h.2]
  · rw [h.1, h.2]

def simBs : List SI → List SI → Bool
  | [], [] => true
  | a :: as, b :: bs => simSI a b && simBs as bs
  | _, _ => false
theorem simBs_eq : ∀ {a b : List SI}, simBs a b = true → a = b
  | [], [], _ => rfl
  | a :: as, b :: bs, h => by simp only [simBs, Bool.and_eq_true] at h; rw [simSI_eq h.1, simBs_eq h.2]
  | [], _ :: _, h => by cases h
  | _ :: _, [], h => by cases h

def simCaps (n : Nat) (l : List (Pos × Pos)) : List (Pos × Nat) → List (Pos × Nat) → Bool
  | [], [] => true
  | a :: as, b :: bs => simP n l a.1 b.1 && (Nat.beq a.2 b.2 && simCaps n l as bs)
  | _, _ => false

def simLV (n : Nat) (l : List (Pos × Pos)) : LV → LV → Bool
  | .bool b, .bool c => (match b, c with | true, true => true | false, false => true | _, _ => false)
  | .topb, .topb => true
  | .int j a, .int k b => kindEq j k && simSI a b
  | .str a, .str b => simBs a b
  | .ptr p i, .ptr q j => simP n l p q && Nat.beq i j
  | .nilptr, .nilptr => true
  | .slice p i s e c, .slice q j m f d => simP n l p q && (Nat.beq i j && (Nat.beq s m && (Nat.beq e f && (match c, d with | none, none => true | some c, some d => Nat.beq c d | _, _ => false))))
  | .nilslice, .nilslice => true
  | .map p, .map q => simP n l p q
  | .nilmap, .nilmap => true
  | .func f c, .func g d => Nat.beq f g && simCaps n l c d
  | .fvar f p, .fvar g q => Nat.beq f g && simP n l p q
  | .nilfunc, .nilfunc => true
  | .niliface, .niliface => true
  | .iface t x, .iface u y => Nat.beq t u && simLV n l x y
  | .unk, .unk => true
  | _, _ => false

def simLVs (n : Nat) (l : List (Pos × Pos)) : List LV → List LV → Bool
  | [], [] => true
  | a :: as, b :: bs => simLV n l a b && simLVs n l as bs
  | _, _ => false

def simV1 (n : Nat) (l : List (Pos × Pos)) : V1 → V1 → Bool
  | .leaf a, .leaf b => simLV n l a b
  | .agg a, .agg b => simLVs n l a b
  | _, _ => false

def simV1s (n : Nat) (l : List (Pos × Pos)) : List V1 → List V1 → Bool
  | [], [] => true
  | a :: as, b :: bs => simV1 n l a b && simV1s n l as bs
  | _, _ => false

def simAV (n : Nat) (l : List (Pos × Pos)) : AV → AV → Bool
  | .leaf a, .leaf b => simLV n l a b
  | .agg a, .agg b => simLVs n l a b
  | .tup a, .tup b => simV1s n l a b
  | _, _ => false

def simEs (n : Nat) (l : List (Pos × Pos)) : List (V1 × V1) → List (V1 × V1) → Bool
  | [], [] => true
  | a :: as, b :: bs => simV1 n l a.1 b.1 && (simV1 n l a.2 b.2 && simEs n l as bs)
  | _, _ => false

def simBlk (n : Nat) (l : List (Pos × Pos)) : Blk → Blk → Bool
  | .cells a, .cells b => simLVs n l a b
  | .map a, .map b => simEs n l a b
  | _, _ => false

section
variable {n N : Nat} {l : List (Pos × Pos)} {μ : Emb} {ρ : Nat → Int}

theorem simCaps_ok (h : renOk n N l = true) : ∀ {a b : List (Pos × Nat)}, simCaps n l a b = true → ∀ {xs : List Value}, All2 (capIs μ) b xs → All2 (capIs (Emb.ren n l μ)) a xs
  | [], [], _, _, .nil => .nil
  | (p, i) :: as, (q, j) :: bs, hs, _, .cons h1 h2 => by
    simp only [simCaps, Bool.and_eq_true] at hs
    obtain ⟨e1, e2, e3⟩ := hs
    obtain rfl := Nat.eq_of_beq_eq_true e2
    obtain ⟨m, hm, rfl⟩ := h1
    exact .cons ⟨m, (ren_at h μ (rel_of_sim h e1)).trans hm, rfl⟩ (simCaps_ok h e3 h2)
  | [], _ :: _, hs, _, _ => by cases hs
  | _ :: _, [], hs, _, _ => by cases hs

theorem simLV_ok (h : renOk n N l = true) : ∀ {a b : LV}, simLV n l a b = true → ∀ {x : Value}, b.rel μ ρ x → a.rel (Emb.ren n l μ) ρ x := by
  intro a
  induction a with
  | bool b => intro b' hs x hb; cases b' <;> simp only [simLV] at hs <;> try (cases hs; done)
              rename_i c; cases b <;> cases c <;> first | exact hb | cases hs
  | int j a =>
    intro b' hs x hb; cases b' <;> simp only [simLV, Bool.and_eq_true] at hs <;> try (cases hs; done)
    obtain rfl := kindEq_eq hs.1; obtain rfl := simSI_eq hs.2; exact hb
  | str a =>
    intro b' hs x hb; cases b' <;> simp only [simLV] at hs <;> try (cases hs; done)
    obtain rfl := simBs_eq hs; exact hb
  | ptr p i =>
    intro b' hs x hb; cases b' <;> simp only [simLV, Bool.and_eq_true] at hs <;> try (cases hs; done)
    obtain ⟨m, h1, rfl⟩ := hb
    obtain rfl := Nat.eq_of_beq_eq_true hs.2
    exact ⟨m, (ren_at h μ (rel_of_sim h hs.1)).trans h1, rfl⟩
  | slice p i s e c =>
    intro b' hs x hb
    cases b' <;> simp only [simLV] at hs <;> try (cases hs; done)
    rename_i q j m f d
    simp only [Bool.and_eq_true] at hs
    obtain ⟨e1, e2, e3, e4, e5⟩ := hs
    obtain rfl := Nat.eq_of_beq_eq_true e2
    obtain rfl := Nat.eq_of_beq_eq_true e3
    obtain rfl := Nat.eq_of_beq_eq_true e4
    have : c = d := by
      cases c <;> cases d <;> first | rfl | (cases e5; done) | (rw [Nat.eq_of_beq_eq_true e5])
    subst this
    obtain ⟨m, a, c1, g1, g2⟩ := hb
    exact ⟨m, a, c1, (ren_at h μ (rel_of_sim h e1)).trans g1, g2⟩
  | map p =>
    intro b' hs x hb; cases b' <;> simp only [simLV] at hs <;> try (cases hs; done)
    obtain ⟨m, h1, rfl⟩ := hb
    exact ⟨m, (ren_at h μ (rel_of_sim h hs)).trans h1, rfl⟩
  | func f c =>
    intro b' hs x hb; cases b' <;> simp only [simLV, Bool.and_eq_true] at hs <;> try (cases hs; done)
    obtain ⟨m, h1, rfl⟩ := hb
    obtain rfl := Nat.eq_of_beq_eq_true hs.1
    exact ⟨m, simCaps_ok h hs.2 h1, rfl⟩
  | fvar f p =>
    intro b' hs x hb; cases b' <;> simp only [simLV, Bool.and_eq_true] at hs <;> try (cases hs; done)
    obtain ⟨m, ⟨h1, h0⟩, rfl⟩ := hb
    obtain rfl := Nat.eq_of_beq_eq_true hs.1
    exact ⟨m, ⟨(ren_at h μ (rel_of_sim h hs.2)).trans h1, h0⟩, rfl⟩
  | iface t z ih =>
    intro b' hs x hb; cases b' <;> simp only [simLV, Bool.and_eq_true] at hs <;> try (cases hs; done)
    obtain ⟨m, h1, rfl⟩ := hb
    obtain rfl := Nat.eq_of_beq_eq_true hs.1
    exact ⟨m, ih hs.2 h1, rfl⟩
  | _ => intro b' hs x hb; cases b' <;> first | (cases hs; done) | exact hb

theorem simLVs_ok (h : renOk n N l = true) : ∀ {a b : List LV}, simLVs n l a b = true → ∀ {xs : List Value}, All2 (LV.rel μ ρ) b xs → All2 (LV.rel (Emb.ren n l μ) ρ) a xs
  | [], [], _, _, .nil => .nil
  | a :: as, b :: bs, hs, _, .cons h1 h2 => by
    simp only [simLVs, Bool.and_eq_true] at hs
    exact .cons (simLV_ok h hs.1 h1) (simLVs_ok h hs.2 h2)
  | [], _ :: _, hs, _, _ => by cases hs
  | _ :: _, [], hs, _, _ => by cases hs

theorem simV1_ok (h : renOk n N l = true) {a b : V1} (hs : simV1 n l a b = true) {x : Value} (hb : b.rel μ ρ x) : a.rel (Emb.ren n l μ) ρ x := by
  cases a <;> cases b <;> simp only [simV1] at hs <;> try (cases hs; done)
  · exact simLV_ok h hs hb
  · obtain ⟨xs, h1, rfl⟩ := hb; exact ⟨xs, simLVs_ok h hs h1, rfl⟩

theorem simV1s_ok (h : renOk n N l = true) : ∀ {a b : List V1}, simV1s n l a b = true → ∀ {xs : List Value}, All2 (V1.rel μ ρ) b xs → All2 (V1.rel (Emb.ren n l μ) ρ) a xs
  | [], [], _, _, .nil => .nil
  | a :: as, b :: bs, hs, _, .cons h1 h2 => by
    simp only [simV1s, Bool.and_eq_true] at hs
    exact .cons (simV1_ok h hs.1 h1) (simV1s_ok h hs.2 h2)
  | [], _ :: _, hs, _, _ => by cases hs
  | _ :: _, [], hs, _, _ => by cases hs

theorem simAV_ok (h : renOk n N l = true) {a b : AV} (hs : simAV n l a b = true) {x : Value} (hb : b.rel μ ρ x) : a.rel (Emb.ren n l μ) ρ x := by
  cases a <;> cases b <;> simp only [simAV] at hs <;> try (cases hs; done)
  · exact simLV_ok h hs hb
  · obtain ⟨xs, h1, rfl⟩ := hb; exact ⟨xs, simLVs_ok h hs h1, rfl⟩
  · obtain ⟨xs, h1, rfl⟩ := hb; exact ⟨xs, simV1s_ok h hs h1, rfl⟩

theorem simEs_ok (h : renOk n N l = true) : ∀ {a b : List (V1 × V1)}, simEs n l a b = true → ∀ {xs : List MapEntry}, All2 (fun (e : V1 × V1) (x : MapEntry) => e.1.rel μ ρ x.key ∧ e.2.rel μ ρ x.val) b xs →
    All2 (fun (e : V1 × V1) (x : MapEntry) => e.1.rel (Emb.ren n l μ) ρ x.key ∧ e.2.rel (Emb.ren n l μ) ρ x.val) a xs
  | [], [], _, _, .nil => .nil
  | a :: as, b :: bs, hs, _, .cons h1 h2 => by
    simp only [simEs, Bool.and_eq_true] at hs
    exact .cons ⟨simV1_ok h hs.1 h1.1, simV1_ok h hs.2.1 h1.2⟩ (simEs_ok h hs.2.2 h2)
  | [], _ :: _, hs, _, _ => by cases hs
  | _ :: _, [], hs, _, _ => by cases hs

theorem simLVs_get : ∀ {a b : List LV}, simLVs n l a b = true → a.length = b.length ∧ ∀ (i : Nat) (x : LV), a[i]? = some x → ∃ y, b[i]? = some y ∧ simLV n l x y = true
  | [], [], _ => ⟨rfl, fun i x hx => by simp at hx⟩
  | a :: as, b :: bs, hs => by
    simp only [simLVs, Bool.and_eq_true] at hs
    obtain ⟨h1, h2⟩ := simLVs_get hs.2
    refine ⟨by simp [h1], fun i x hx => ?_⟩
    cases i with
    | zero => simp at hx; subst hx; exact ⟨b, rfl, hs.1⟩
    | succ i => simp at hx; simpa using h2 i x hx
  | [], _ :: _, hs => by cases hs
  | _ :: _, [], hs => by cases hs

theorem simBlk_ok (h : renOk n N l = true) {a b : Blk} (hs : simBlk n l a b = true) {m : Loc} {w : World} (hb : b.rel μ ρ m w) : a.rel (Emb.ren n l μ) ρ m w := by
  cases a <;> cases b <;> simp only [simBlk] at hs <;> try (cases hs; done)
  · obtain ⟨c, t, fr, h1, h2, h3, h4, h5⟩ := hb
    obtain ⟨g1, g2⟩ := simLVs_get hs
    refine ⟨c, t, fr, h1, h2, by omega, h4, fun i v hv => ?_⟩
    obtain ⟨y, hy, hsy⟩ := g2 i v hv
    obtain ⟨x, hx, hr⟩ := h5 i y hy
    exact ⟨x, hx, simLV_ok h hsy hr⟩
  · obtain ⟨en, cl, h1, hst, h2⟩ := hb
    exact ⟨en, cl, h1, hst, simEs_ok h hs h2⟩

end
end Go.Ev
