/- Generic part Za: ends alike: memory, slots, the embedding. -/
import Derived.Test.YtgkjbkkbjlhafaaGreatEvZ
namespace Go.Ev

noncomputable def allT {α : Type} (f : Pos → α → Bool) (t : T α) : (Pos → Pos) → Bool :=
  T.rec (motive := fun _ => (Pos → Pos) → Bool) (fun _ => true) (fun _ v _ ihl ihr c => match ihl (fun p => c (.xO p)) with | true => (match v with | some x => (match f (c .xH) x with | true => ihr (fun p => c (.xI p)) | false => false) | none => ihr (fun p => c (.xI p))) | false => false) t

theorem allT_ok {α : Type} {f : Pos → α → Bool} : ∀ {t : T α} {c : Pos → Pos}, allT f t c = true → ∀ {p : Pos} {x : α}, t.get p = some x → f (c p) x = true := by
  intro t
  induction t with
  | leaf => intro c _ p x hx; rw [T.get_leaf] at hx; cases hx
  | node l v r ihl ihr =>
    intro c h p x hx
    change (match allT f l (fun p => c (.xO p)) with | true => (match (generalizing := false) v with | some x => (match f (c .xH) x with | true => allT f r (fun p => c (.xI p)) | false => false) | none => allT f r (fun p => c (.xI p))) | false => false) = true at h
    split at h
    case h_2 => cases h
    rename_i hl
    have hr : allT f r (fun p => c (.xI p)) = true ∧ ∀ y, v = some y → f (c .xH) y = true := by
      cases v with
      | none => exact ⟨h, fun y e => by cases e⟩
      | some y =>
        dsimp only at h
        split at h
        · rename_i hf; exact ⟨h, fun z e => by cases e; exact hf⟩
        · cases h
    cases p with
    | xH => exact hr.2 x hx
    | xO p => exact ihl hl hx
    | xI p => exact ihr hr.1 hx

def imgP (n : Nat) (l : List (Pos × Pos)) (p : Pos) : Option Pos := match Nat.blt p.toNat n with | true => some p | false => (l.find? fun e => Pos.same e.1 p).map (·.2)

noncomputable def alikeM (n : Nat) (l : List (Pos × Pos)) (M1 M2 : Mem) : Bool :=
  match renOk n M1.next.toNat l && Pos.same M1.next M2.next with
  | true => allT (fun p B => match imgP n l p with | some q => (match M2.blks.get q with | some B2 => (match Nat.blt p.toNat M1.next.toNat with | true => simBlk n l B B2 | false => false) | none => false) | none => false) M1.blks fun p => p
  | false => false

noncomputable def alikeT (n : Nat) (l : List (Pos × Pos)) (t1 t2 : T AV) : Bool :=
  allT (fun p v => match t2.get p with | some v2 => simAV n l v v2 | none => false) t1 fun p => p

section
variable {n : Nat} {l : List (Pos × Pos)} {μ μ2 : Emb} {ρ : Nat → Int} {w w' : World}

theorem imgP_ok {N : Nat} (h : renOk n N l = true) {p q : Pos} (hi : imgP n l p = some q) : Rel n l p q := by
  unfold imgP at hi
  split at hi
  · rename_i hb; cases hi; exact .inl ⟨blt_iff.1 hb, rfl⟩
  · simp only [Option.map_eq_some_iff] at hi
    obtain ⟨e, he, rfl⟩ := hi
    have h1 := List.find?_some he
    have h2 := List.mem_of_find?_eq_some he
    have h1 := Pos.same_iff.1 h1
    subst h1
    obtain ⟨a1, a2, _⟩ := ren_mem h (p := e.1) (q := e.2) h2
    exact .inr ⟨a1, a2, h2⟩

theorem alikeM_ok {M1 M2 : Mem} (h : alikeM n l M1 M2 = true) : renOk n M1.next.toNat l = true ∧ M1.next = M2.next ∧ ∀ p B, M1.blks.get p = some B → ∃ q B2, Rel n l p q ∧ M2.blks.get q = some B2 ∧ p.toNat < M1.next.toNat ∧ simBlk n l B B2 = true := by
  unfold alikeM at h
  split at h
  case h_2 => cases h
  rename_i hb
  simp only [Bool.and_eq_true] at hb
  refine ⟨hb.1, Pos.same_iff.1 hb.2, fun p B hB => ?_⟩
  have := allT_ok h hB
  split at this
  case h_2 => cases this
  rename_i q hq
  split at this
  case h_2 => cases this
  rename_i B2 hB2
  split at this
  case h_2 => cases this
  rename_i hlt
  exact ⟨q, B2, imgP_ok hb.1 hq, hB2, blt_iff.1 hlt, this⟩

theorem MR.alike {M1 M2 : Mem} (h : alikeM n l M1 M2 = true) (hM : MR μ2 ρ M2 w') : MR (Emb.ren n l μ2) ρ M1 w' := by
  obtain ⟨h1, h2, h3⟩ := alikeM_ok h
  refine ⟨fun b B m hB hm => ?_, fun b b' B B' m m' hB hB' hm hm' hne => ?_, fun b m hm => ?_, fun b m hm => ?_, fun b B hB => ?_⟩
  · obtain ⟨q, B2, g1, g2, _, g3⟩ := h3 b B hB
    rw [ren_at h1 μ2 g1] at hm
    exact simBlk_ok h1 g3 (hM.blk q B2 m g2 hm)
  · obtain ⟨q, B2, g1, g2, _, g3⟩ := h3 b B hB
    obtain ⟨q', B2', k1, k2, _, k3⟩ := h3 b' B' hB'
    rw [ren_at h1 μ2 g1] at hm
    rw [ren_at h1 μ2 k1] at hm'
    exact hM.dist q q' B2 B2' m m' g2 k2 hm hm' fun e => hne (rel_inj h1 g1 (e ▸ k1))
  · obtain ⟨q, hq, hm⟩ := of_ren hm
    rcases hq with ⟨a, rfl⟩ | ⟨_, _, a⟩
    · rw [h2]; exact hM.fresh _ _ hm
    · exact (ren_mem h1 a).2.2
  · obtain ⟨q, hq, hm⟩ := of_ren hm
    exact hM.inb _ _ hm
  · obtain ⟨_, _, _, _, g, _⟩ := h3 b B hB; exact g

theorem TR.alike {N : Nat} (h1 : renOk n N l = true) {t1 t2 : T AV} (h : alikeT n l t1 t2 = true) {tmps : Array Value} (hT : TR μ2 ρ t2 tmps) : TR (Emb.ren n l μ2) ρ t1 tmps := by
  intro p v hv
  have := allT_ok h hv
  split at this
  case h_2 => cases this
  rename_i v2 hv2
  obtain ⟨i, x, g1, g2, g3⟩ := hT p v2 hv2
  exact ⟨i, x, g1, g2, simAV_ok h1 this g3⟩

theorem Ext.alike {N : Nat} (h1 : renOk n N l = true) (hf : ∀ b m, μ b = some m → b.toNat < n) (h : Ext 0 μ μ2 w w') : Ext 0 μ (Emb.ren n l μ2) w w' where
  le := fun b m hb => by rw [ren_at h1 μ2 (.inl ⟨hf b m hb, rfl⟩)]; exact h.le b m hb
  size := h.size
  fr := h.fr
  new := fun b m h0 hm => by
    obtain ⟨q, hq, hm⟩ := of_ren hm
    refine h.new q m ?_ hm
    rcases hq with ⟨_, rfl⟩ | ⟨_, a, _⟩
    · exact h0
    · cases hc : μ q with
      | none => rfl
      | some m0 => have := hf q m0 hc; omega
  ids := fun _ _ _ _ => Nat.zero_le _
  os := h.os
  tape := h.tape
  output := h.output

/-- Where a run has come to. -/
def Come (ρ : Nat → Int) (N : Nat) (μ : Emb) (w : World) (df : List Deferred) (kk : T AV → Mem → Prop) (a' : Act) (w' : World) : Prop :=
  ∃ tm' M' μ', kk tm' M' ∧ TR μ' ρ tm' a'.tmps ∧ MR μ' ρ M' w' ∧ Ext 0 μ μ' w w' ∧ a'.tmps.size = N ∧ a'.defers = df

/-- An end that is alike to another one stands for it. -/
theorem Come.alike {N : Nat} {df : List Deferred} (hf : ∀ b m, μ b = some m → b.toNat < n) {t1 t2 : T AV} {M1 M2 : Mem} (ht : alikeT n l t1 t2 = true) (hm : alikeM n l M1 M2 = true) {kk : T AV → Mem → Prop} (hk : kk t1 M1) {a' : Act}
    (h : Come ρ N μ w df (fun tm M => tm = t2 ∧ M = M2) a' w') : Come ρ N μ w df kk a' w' := by
  obtain ⟨tm, M, μ', ⟨rfl, rfl⟩, h2, h3, h4, h5, h6⟩ := h
  obtain ⟨g1, _, _⟩ := alikeM_ok hm
  exact ⟨t1, M1, _, hk, h2.alike g1 ht, h3.alike hm, h4.alike g1 hf, h5, h6⟩

end
end Go.Ev
