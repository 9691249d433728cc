/- Generic part W: regions whose order is drawn: every order comes to what the plan's order comes to. -/
import Derived.Test.YtgkjbkkbjlhafaaGreatEvV
namespace Go.Ev

section
variable {Ω : Type} {P : Program} {Γ : Box} {cal : Callee} {ρ : Nat → Int} {N : Nat} {ops : Array Oper}

theorem ready_of {I : List Info} (hI : ops.toList.map (infoOf ops) = I) {listed : Array Bool} {m i : Nat} (hl : LM ops listed m) {o : Oper} (ho : ops[i]? = some o) (h1 : bit m i = false) (h2 : (infoOf ops o).es.all (bit m) = true) : i ∈ Region.ready .any ops listed := by
  have hi : i < ops.size := (Array.getElem?_eq_some_iff.1 ho).1
  rw [mem_ready]
  refine ⟨by rw [hl.is i hi]; exact h1, o, ho, fun e he hb => ?_⟩
  rw [hl.false]
  exact List.all_eq_true.1 h2 _ (mem_es he hb)

theorem of_ready {listed : Array Bool} {m j : Nat} (hl : LM ops listed m) (h : j ∈ Region.ready .any ops listed) : bit m j = false ∧ ∃ o, ops[j]? = some o ∧ ∀ x ∈ (infoOf ops o).es, bit m x = true := by
  obtain ⟨h1, o, ho, h2⟩ := mem_ready.1 h
  have hi : j < ops.size := (Array.getElem?_eq_some_iff.1 ho).1
  refine ⟨by rw [← hl.is j hi]; exact h1, o, ho, fun x hx => ?_⟩
  obtain ⟨e, he, hb, rfl⟩ := of_es hx
  exact hl.false.1 (h2 e he hb)

theorem Rf_heavy {plan : List PStep} {i : Nat} {D : List Nat} (h : Rf plan i = some D) : ∀ j ∈ D, heavyB plan j = true := by
  unfold Rf at h
  split at h
  · cases h; intro j hj; exact (List.mem_filter.1 hj).2
  · cases h

theorem compIs_mem {l : List Nat} {rs : List RO} (h : compIs P N ops l = some rs) : (∀ ro ∈ rs, ∃ o, compRO P N ops o = some ro) ∧ ∀ i ∈ l, ∃ o ro, ops[i]? = some o ∧ compRO P N ops o = some ro ∧ ro ∈ rs := by
  induction l generalizing rs with
  | nil => cases h; exact ⟨fun _ h => (by cases h), fun _ h => (by cases h)⟩
  | cons i l ih =>
    simp only [compIs] at h
    split at h
    case h_2 => cases h
    rename_i o ho
    split at h
    case h_2 => cases h
    rename_i r rs' hr hrs
    cases h
    obtain ⟨h1, h2⟩ := ih hrs
    refine ⟨fun ro hm => ?_, fun j hm => ?_⟩
    · cases hm with
      | head => exact ⟨o, hr⟩
      | tail _ hm => exact h1 ro hm
    · cases hm with
      | head => exact ⟨o, r, ho, hr, .head _⟩
      | tail _ hm => obtain ⟨o', ro, g1, g2, g3⟩ := h2 j hm; exact ⟨o', ro, g1, g2, .tail _ g3⟩

theorem compRO_op {o : Oper} {ro : RO} (h : compRO P N ops o = some ro) {co : CO} (he : ro.act = .op co) : compOp P o.op = some co := by
  unfold compRO at h
  split at h
  case h_2 => cases h
  rename_i d g ra hd hg ha
  cases h
  simp only at he
  subst he
  unfold cact at ha
  split at ha
  · rename_i cc hoc
    split at ha
    · simp only [Option.map_eq_some_iff] at ha; obtain ⟨_, _, e⟩ := ha; cases e
    · split at ha <;> cases ha
    · simp only [Option.map_eq_some_iff] at ha; obtain ⟨_, h1, e⟩ := ha; cases e; rw [hoc]; exact h1
    · cases ha
  · simp only [Option.map_eq_some_iff] at ha; obtain ⟨_, h1, e⟩ := ha; cases e; exact h1

/-- A looking operation's step: what it sees, and that it goes on. -/
theorem ok_take {μ : Emb} {M : Mem} {w : World} (hρ : Γ.has ρ) (hM : MR μ ρ M w) {o : Oper} {ro : RO} (hc : compRO P N ops o = some ro) {tm : T AV} {a : Act} (hT : TR μ ρ tm a.tmps) (hN : a.tmps.size = N) {d : Nat} (hd : o.dst = some d)
    {k : T AV → Mem → Option Ω} {r : Ω} (hk : evRO Γ cal ro tm M k = some r) (hl : pureRA ro.act = true ∨ looksRA ro.act = true) :
    d < N ∧ ∃ v tm', k tm' M = some r ∧ Look P ops o v a w ∧ (pureRA ro.act = true → ∀ w, Look P ops o v a w) ∧ TR μ ρ tm' (a.put o.dst v).tmps := by
  have hro := hc
  unfold compRO at hc
  split at hc
  case h_2 => cases hc
  rename_i d' g ra hd' hg ha
  cases hc
  have hlt : d < N := by
    rw [hd] at hd'
    simp only [cdst] at hd'
    split at hd'
    · rename_i hlt; simp only [Nat.blt, Nat.ble_eq] at hlt; exact hlt
    · cases hd'
  refine ⟨hlt, ?_⟩
  have hk := cguard_ok hg hT hk
  cases hw : Region.wanted o (yielded ops a.tmps) with
  | true =>
    rw [hw] at hk
    simp only at hk
    cases ra with
    | op co =>
      have hco := compRO_op hro (co := co) rfl
      change evOp Γ co tm M (fun v M' => putD d' v tm fun tm' => k tm' M') = some r at hk
      by_cases hp : co.pure = true
      · obtain ⟨v, h1, x, h2, h3⟩ := pu_op hρ hT hco hp hk
        obtain ⟨tm', g1, g2, _⟩ := cdst_ok hd' hT hN (v := some v) (x := x) h3 h1
        exact ⟨x, tm', g1, .inl ⟨hw, h2 w⟩, fun _ w => .inl ⟨hw, h2 w⟩, g2⟩
      · have hlk : co.looks = true := hl.resolve_left hp
        obtain ⟨v, h1, x, h2, h3⟩ := se_op hρ hM hT hco hlk hk
        obtain ⟨tm', g1, g2, _⟩ := cdst_ok hd' hT hN (v := some v) (x := x) h3 h1
        exact ⟨x, tm', g1, .inl ⟨hw, h2⟩, fun h => absurd h hp, g2⟩
    | call f args => rcases hl with h | h <;> cases h
    | callv f args => rcases hl with h | h <;> cases h
  | false =>
    rw [hw] at hk
    simp only at hk
    obtain ⟨tm', g1, g2, _⟩ := cdst_ok hd' hT hN (v := none) (x := undef) undef_rel hk
    exact ⟨undef, tm', g1, .inr ⟨hw, rfl⟩, fun _ w => .inr ⟨hw, rfl⟩, g2⟩

/-- What is shown of a plan: alone, and as one of several. -/
def TreeA (P : Program) (Γ : Box) (cal : Callee) (ρ : Nat → Int) (N : Nat) (ops : Array Oper) (I : List Info) (plan : List PStep) (Q : Exit → Act → World → Prop) (t : PT) : Prop :=
  ∀ {m c : Nat} {listed : Array Bool} {st : ST}, LM ops listed m → chkT I plan t false m c = true → compT P N ops plan t m = some st →
    ∀ {Ω : Type} {μ : Emb} {M : Mem} {w : World} {tm : T AV} {a : Act}, MR μ ρ M w → TR μ ρ tm a.tmps → a.tmps.size = N → Keep P ops (Rf plan) listed a w →
    ∀ {k : T AV → Mem → Option Ω} {r : Ω}, evST Γ cal st Ω tm M k = some r → (∀ a' w', Come ρ N μ w a.defers (fun tm' M' => k tm' M' = some r) a' w' → Q .normal a' w') →
    wpAnyK P .any ops (Rf plan) Q c listed a w

def TreeB (P : Program) (Γ : Box) (cal : Callee) (ρ : Nat → Int) (N : Nat) (ops : Array Oper) (I : List Info) (plan : List PStep) (Q : Exit → Act → World → Prop) (t : PT) : Prop :=
  ∀ {m c : Nat} {listed : Array Bool} {st : ST}, LM ops listed m → chkT I plan t true m c = true → compT P N ops plan t m = some st →
    ∀ {Ω : Type} {μ : Emb} {M : Mem} {w : World} {tm : T AV} {a : Act}, MR μ ρ M w → TR μ ρ tm a.tmps → a.tmps.size = N → Keep P ops (Rf plan) listed a w →
    ∀ {k : T AV → Mem → Option Ω} {r : Ω}, evST Γ cal st Ω tm M k = some r → (∀ a' w', Come ρ N μ w a.defers (fun tm' M' => k tm' M' = some r) a' w' → Q .normal a' w') →
    ∀ j ∈ t.heads, ∃ c', c = c' + 1 ∧ wpOp P ops Q j (wpAnyK P .any ops (Rf plan) Q c' (listed.setIfInBounds j true)) a w

theorem heavy_ok (hρ : Γ.has ρ) (hcal : CalOk P ρ cal) {I : List Info} {plan : List PStep} {Q : Exit → Act → World → Prop} {p : PT} (hA : TreeA P Γ cal ρ N ops I plan Q p) {s : PStep} {m l : Nat} {listed : Array Bool} {rs : ST} (hL : LM ops listed m)
    (hrest : chkT I plan p false (m ||| 2 ^ s.i) l = true) (hrs : compT P N ops plan p (m ||| 2 ^ s.i) = some rs) {o : Oper} (ho : ops[s.i]? = some o) {ro : RO} (hro : compRO P N ops o = some ro) {cs : List RO} (hcs : compIs P N ops (again plan (m ||| 2 ^ s.i)) = some cs)
    {Ω : Type} {μ : Emb} {M : Mem} {w : World} {tm : T AV} {a : Act} (hM : MR μ ρ M w) (hT : TR μ ρ tm a.tmps) (hN : a.tmps.size = N) {k : T AV → Mem → Option Ω} {r : Ω}
    (hk : (evRO Γ cal ro tm M fun tm M => evChk Γ cs tm M (evST Γ cal rs Ω tm M k)) = some r) (hQ : ∀ a' w', Come ρ N μ w a.defers (fun tm' M' => k tm' M' = some r) a' w' → Q .normal a' w') :
    wpOp P ops Q s.i (wpAnyK P .any ops (Rf plan) Q l (listed.setIfInBounds s.i true)) a w := by
  have hilt : s.i < ops.size := (Array.getElem?_eq_some_iff.1 ho).1
  have := ok_ro (Q := Q) (K := wpAnyK P .any ops (Rf plan) Q l (listed.setIfInBounds s.i true)) hρ hcal hM hro hT hN hk fun a' w' h => by
    obtain ⟨tm', M', μ', x, h1, h2, h3, h4, h5, h6⟩ := h
    obtain ⟨hc1, hc2⟩ := compIs_mem hcs
    obtain ⟨h1, hseen⟩ := evChk_ok (P := P) (N := N) (ops := ops) hρ h4 h3 hc1 h1
    have hK' : Keep P ops (Rf plan) (listed.setIfInBounds s.i true) a' w' := by
      intro i' D hD hl' hno
      have hb := (hL.set hilt).false.1 hl'
      have hag : i' ∈ again plan (m ||| 2 ^ s.i) := by
        unfold again
        rw [List.mem_filterMap]
        have hD' := hD
        unfold Rf at hD
        split at hD
        case h_2 => cases hD
        rename_i s' hs'
        have h1 := List.find?_some hs'
        have h2 := List.mem_of_find?_eq_some hs'
        simp only [Bool.and_eq_true, Nat.beq_eq] at h1
        obtain ⟨e1, e2⟩ := h1
        refine ⟨s', h2, ?_⟩
        rw [e1, e2, hb, hD']
        have : D.all (fun j => !bit (m ||| 2 ^ s.i) j) = true := by
          rw [List.all_eq_true]
          intro j hj
          have h3 := hno j hj
          simp only [Bool.not_eq_true']
          cases hbj : bit (m ||| 2 ^ s.i) j with
          | false => rfl
          | true =>
            rw [(hL.set hilt).is j ((hL.set hilt).lt j hbj), hbj] at h3; cases h3
        simp [this]
      obtain ⟨o', ro', q1, q2, q3⟩ := hc2 i' hag
      obtain ⟨d', v', k1, k2, k3⟩ := hseen o' ro' q3 q2
      exact ⟨o', d', v', q1, k1, k2, k3⟩
    refine hA (hL.set hilt) hrest hrs h4 h3 h6 hK' h1 fun a'' w'' h' => hQ _ _ ?_
    obtain ⟨tm'', M'', μ'', g1, g2, g3, g4, g5, g6⟩ := h'
    exact ⟨tm'', M'', μ'', g1, g2, g3, h5.trans g4 (Nat.le_refl 0), g5, by rw [g6, h2, put_defers]⟩
  unfold wpOp
  simp only [ho]
  split
  · rename_i hw; rw [if_pos hw] at this; exact .inl this
  · rename_i hw; rw [if_neg hw] at this; exact this

theorem ready_fork {I : List Info} (hI : ops.toList.map (infoOf ops) = I) {listed : Array Bool} {m : Nat} (hL : LM ops listed m) {hs : List Nat} (hkind : chkHeavy I m hs = true) : ∀ j ∈ Region.ready .any ops listed, j ∈ hs := by
  intro j hj
  obtain ⟨h1, oj, hoj, h2⟩ := of_ready hL hj
  have := chkAll_ok hkind (infos_get hI hoj)
  simp only [Nat.zero_add, h1, Bool.false_or, Bool.or_eq_true] at this
  rcases this with h | h
  · exact memN_iff.1 h
  · obtain ⟨e, he, hb⟩ := List.any_eq_true.1 h
    rw [h2 e he] at hb; cases hb

theorem ready_iff {I : List Info} (hI : ops.toList.map (infoOf ops) = I) {listed : Array Bool} {m i : Nat} (hL : LM ops listed m) (h : chkReady I m i = true) {o : Oper} (ho : ops[i]? = some o) : bit m i = false ∧ (infoOf ops o).es.all (bit m) = true := by
  unfold chkReady at h
  rw [infos_get hI ho] at h
  simpa using h

theorem ok_tree (hρ : Γ.has ρ) (hcal : CalOk P ρ cal) {I : List Info} (hI : ops.toList.map (infoOf ops) = I) {plan : List PStep} (hsel : ∀ (j : Nat) (o : Oper) cs b, ops[j]? = some o → o.op ≠ .select cs b)
    {Q : Exit → Act → World → Prop} (hQp : ∀ c a w, ¬ Q (.panic c) a w) (hQo : ∀ a w, ¬ Q .outgrown a w) (t : PT) : TreeA P Γ cal ρ N ops I plan Q t ∧ TreeB P Γ cal ρ N ops I plan Q t := by
  induction t with
  | done =>
    refine ⟨?_, ?_⟩
    · intro m c listed st hL hch hcm Ω μ M w tm a hM hT hN hK k r hk hQ
      cases hcm
      refine wpAnyK.done ?_ hK (hQ _ _ ⟨tm, M, μ, hk, hT, hM, .refl _ _ _, hN, rfl⟩) c
      cases hr : Region.ready .any ops listed with
      | nil => rfl
      | cons j js =>
        obtain ⟨h1, o, ho, _⟩ := of_ready hL (show j ∈ Region.ready .any ops listed by rw [hr]; exact .head _)
        have := chkAll_ok hch (infos_get hI ho)
        simp only [Nat.zero_add] at this
        rw [h1] at this; cases this
    · intro m c listed st hL hch; cases hch
  | node s p ih =>
    obtain ⟨hA, _⟩ := ih
    refine ⟨?_, ?_⟩
    · intro m c listed st hL hch hcm Ω μ M w tm a hM hT hN hK k r hk hQ
      simp only [chkT, Bool.and_eq_true] at hch
      obtain ⟨hrd, hkind, hrest⟩ := hch
      cases c with
      | zero => cases hrest
      | succ l =>
      dsimp only at hrest
      simp only [compT] at hcm
      split at hcm
      case h_2 => cases hcm
      rename_i o ho
      obtain ⟨hun, hes⟩ := ready_iff hI hL hrd ho
      have hilt : s.i < ops.size := (Array.getElem?_eq_some_iff.1 ho).1
      have hinf := infos_get hI ho
      split at hcm
      case h_2 => cases hcm
      rename_i ro rs hro hrs
      have hready := ready_of hI hL ho hun hes
      have light : chkLight I plan m s.i (infoOf ops o) s.S = true → st = .step ro [] rs → (pureRA ro.act = true ∨ looksRA ro.act = true ∧ (Rf plan s.i).isSome = true) → wpAnyK P .any ops (Rf plan) Q (l + 1) listed a w := by
        intro hc hst hpl
        subst hst
        change (evRO Γ cal ro tm M fun tm M => evST Γ cal rs Ω tm M k) = some r at hk
        simp only [chkLight, Bool.and_eq_true, Bool.not_eq_true'] at hc
        obtain ⟨hnh, hRS, hdst, hS, hall⟩ := hc
        obtain ⟨d, hd, hown⟩ : ∃ d, o.dst = some d ∧ d ∉ o.looksAt ops := by
          have hdst' : (match o.dst with | some d => !memN d (o.looksAt ops) | none => false) = true := hdst
          cases hod : o.dst with
          | none => rw [hod] at hdst'; cases hdst'
          | some d =>
            rw [hod] at hdst'
            simp only [Bool.not_eq_true'] at hdst'
            exact ⟨d, rfl, fun hm => by rw [memN_iff.2 hm] at hdst'; cases hdst'⟩
        obtain ⟨hdN, v, tm', g1, g2, g3, g4⟩ := ok_take hρ hM hro hT hN hd hk (hpl.imp id And.left)
        have hRi : ∀ i' D, Rf plan i' = some D → s.i ∉ D := fun i' D hD hm => by rw [Rf_heavy hD _ hm] at hnh; cases hnh
        have hSat : ∀ j, j ∈ s.S → bit m j = false ∧ ∃ x, I[j]? = some x ∧ (x.es.any fun e => Nat.beq e s.i || memN e s.S) = true := by
          intro j hj
          have := List.all_eq_true.1 hS j hj
          simp only [Bool.and_eq_true, Bool.not_eq_true'] at this
          refine ⟨this.1, ?_⟩
          have h2 := this.2
          split at h2
          · rename_i x hx; exact ⟨x, hx, h2⟩
          · cases h2
        have hAt : ∀ j oj, ops[j]? = some oj → j ≠ s.i → (bit m j = true → (Rf plan j).isSome = true → d ∉ oj.looksAt ops ∧ oj.dst ≠ some d) ∧ (bit m j = false → j ∉ s.S → o.apart ops oj = true) := by
          intro j oj hj hne
          have := chkAll_ok hall (infos_get hI hj)
          simp only [Nat.zero_add, Bool.or_eq_true, Nat.beq_eq] at this
          have this := this.resolve_left hne
          constructor
          · intro hb hs
            rw [hb] at this
            simp only [Bool.or_eq_true, Bool.not_eq_true'] at this
            rcases this with h | h
            · exact sideI_ok h hd
            · rw [hs] at h; cases h
          · intro hb hs
            rw [hb] at this
            simp only [Bool.or_eq_true] at this
            rcases this with h | h
            · exact absurd (memN_iff.1 h) hs
            · exact apartI_ok h
        -- what must be seen as it was, this one among them
        have hK' : Keep P ops (Rf plan) (listed.setIfInBounds s.i true) (a.put o.dst v) w := by
          intro i' D hD hl' hno
          by_cases e : i' = s.i
          · subst e
            refine ⟨o, d, v, ho, hd, by simp [hd, Act.put, hN, hdN], g2.of_same (.inr ⟨?_, rfl⟩) ?_⟩
            · exact execOp_put o (hsel _ o · · ho) a o.dst v fun x hx => by rw [hd] at hx; cases hx; exact hown
            · exact wanted_put o a o.dst v fun x hx => by rw [hd] at hx; cases hx; exact hown
          · have hb : bit m i' = true := by
              have := (hL.set hilt).false.1 hl'
              rw [bit_or] at this
              rcases Bool.or_eq_true_iff.1 this with h | h
              · exact h
              · exact absurd (by simpa using h : s.i = i').symm e
            obtain ⟨o', d', v', k1, k2, k3, k4⟩ := hK i' D hD (hL.false.2 hb) fun j hj => by
              have := hno j hj
              rwa [getD_set_ne true (fun e => by subst e; exact hRi i' D hD hj)] at this
            obtain ⟨q1', q2'⟩ := (hAt i' o' k1 e).1 hb (by rw [hD]; rfl)
            have q1 : ∀ x, o.dst = some x → x ∉ o'.looksAt ops := fun x hx => by rw [hd] at hx; cases hx; exact q1'
            refine ⟨o', d', v', k1, k2, ?_, k4.of_same (.inr ⟨execOp_put o' (hsel _ o' · · k1) a o.dst v q1, rfl⟩) (wanted_put o' a o.dst v q1)⟩
            have : d ≠ d' := fun e => q2' (by rw [k2, e])
            simpa [hd, Act.put, Array.getElem?_setIfInBounds_ne this] using k3
        have hsz : (a.put o.dst v).tmps.size = N := by simp [hd, Act.put, hN]
        have H := hA (hL.set hilt) hrest hrs hM g4 hsz hK' g1 fun a' w' h => hQ a' w' (by rw [put_defers] at h; exact h)
        refine wpAnyK_first (S := fun j => memN j s.S) ho hd hsel hQp hQo hown ?_ ?_ hRi hilt l listed a w hL.size (by omega) ?_ ?_ ?_ hready g2 ?_ H
        · intro j oj hj hs
          obtain ⟨_, x, hx, hany⟩ := hSat j (memN_iff.1 hs)
          rw [infos_get hI hj] at hx
          cases hx
          obtain ⟨e, he, hor⟩ := List.any_eq_true.1 hany
          obtain ⟨ed, h1, h2, rfl⟩ := of_es he
          refine ⟨ed, h1, h2, ?_⟩
          rcases Bool.or_eq_true_iff.1 hor with h | h
          · exact .inl (Nat.eq_of_beq_eq_true h)
          · exact .inr h
        · intro D hD j hj
          rw [hD] at hRS
          exact List.all_eq_true.1 hRS j hj
        · intro j oj hj hne hl hs
          have hjlt := (Array.getElem?_eq_some_iff.1 hj).1
          exact (hAt j oj hj hne).1 (by rw [← hL.is j hjlt]; exact hl) hs
        · intro j oj hj hne hl hs
          have hjlt := (Array.getElem?_eq_some_iff.1 hj).1
          exact (hAt j oj hj hne).2 (by rw [← hL.is j hjlt]; exact hl) fun hm => by
            have hs : memN j s.S = false := hs
            rw [memN_iff.2 hm] at hs; cases hs
        · intro j hj
          obtain ⟨hb, x, hx, _⟩ := hSat j (memN_iff.1 hj)
          have hjlt : j < ops.size := by
            have := (List.getElem?_eq_some_iff.1 hx).1
            rw [← hI] at this; simpa using this
          rw [hL.is j hjlt]; exact hb
        · by_cases hp : pureRA ro.act = true
          · exact .inl (g3 hp)
          · exact .inr (hpl.resolve_left hp).2
      match hkk : s.kind with
      | 0 =>
        rw [hkk] at hkind hcm
        simp only at hkind hcm
        simp only [Option.map_eq_some_iff] at hcm
        obtain ⟨cs, hcs, rfl⟩ := hcm
        refine ⟨hK, fun h => (by rw [h] at hready; cases hready), fun j hj => ?_⟩
        have hj' := ready_fork hI hL hkind j hj
        simp only [List.mem_singleton] at hj'
        subst hj'
        exact heavy_ok hρ hcal hA hL hrest hrs ho hro hcs hM hT hN hk hQ
      | 1 =>
        rw [hkk] at hkind hcm
        simp only [hinf] at hkind hcm
        split at hcm
        case h_2 => cases hcm
        rename_i hp
        exact light hkind (by cases hcm; rfl) (.inl hp)
      | 2 =>
        rw [hkk] at hkind hcm
        simp only [hinf, Bool.and_eq_true] at hkind hcm
        split at hcm
        case h_2 => cases hcm
        rename_i hp
        exact light hkind.1 (by cases hcm; rfl) (.inr ⟨hp, hkind.2⟩)
      | n + 3 => rw [hkk] at hkind; simp only at hkind; cases hkind
    · intro m c listed st hL hch hcm Ω μ M w tm a hM hT hN hK k r hk hQ j hj
      simp only [chkT, Bool.and_eq_true] at hch
      obtain ⟨hrd, hkind, hrest⟩ := hch
      cases c with
      | zero => cases hrest
      | succ l =>
      dsimp only at hrest
      simp only [compT] at hcm
      split at hcm
      case h_2 => cases hcm
      rename_i o ho
      split at hcm
      case h_2 => cases hcm
      rename_i ro rs hro hrs
      match hkk : s.kind with
      | 0 =>
        rw [hkk] at hcm
        simp only [Option.map_eq_some_iff] at hcm
        obtain ⟨cs, hcs, rfl⟩ := hcm
        simp only [PT.heads, List.mem_singleton] at hj
        subst hj
        exact ⟨l, rfl, heavy_ok hρ hcal hA hL hrest hrs ho hro hcs hM hT hN hk hQ⟩
      | 1 => rw [hkk] at hkind; cases hkind
      | 2 => rw [hkk] at hkind; cases hkind
      | n + 3 => rw [hkk] at hkind; cases hkind
  | fork s sl p q ihp ihq =>
    obtain ⟨hA, _⟩ := ihp
    obtain ⟨_, hB⟩ := ihq
    have key : TreeB P Γ cal ρ N ops I plan Q (.fork s sl p q) := by
      intro m c listed st hL hch hcm Ω μ M w tm a hM hT hN hK k r hk hQ j hj
      simp only [chkT, Bool.and_eq_true] at hch
      obtain ⟨hrd, _, _, hrest, hq⟩ := hch
      cases c with
      | zero => cases hrest
      | succ l =>
      dsimp only at hrest
      simp only [compT] at hcm
      split at hcm
      case h_2 => cases hcm
      rename_i o ho
      split at hcm
      case h_2 => cases hcm
      rename_i ro rs cs qs hro hrs hcs hqs
      cases hcm
      change (match (evRO Γ cal ro tm M fun tm M => evChk Γ cs tm M (evST Γ cal rs (T AV × Mem) tm M fun tm M => some (tm, M))) with
        | some e1 => (match evST Γ cal qs (T AV × Mem) tm M fun tm M => some (tm, M) with
          | some e2 => (match alike (sposs sl) M.next e1 e2 with | true => k e1.1 e1.2 | false => none)
          | none => none)
        | none => none) = some r at hk
      split at hk
      case h_2 => cases hk
      rename_i e1 he1
      split at hk
      case h_2 => cases hk
      rename_i e2 he2
      split at hk
      case h_2 => cases hk
      rename_i hal
      have hal' : alikeM M.next.toNat (renOf M.next e1.2.next (namesOf e1.1 (sposs sl)) (namesOf e2.1 (sposs sl))) e1.2 e2.2 = true ∧ alikeT M.next.toNat (renOf M.next e1.2.next (namesOf e1.1 (sposs sl)) (namesOf e2.1 (sposs sl))) e1.1 e2.1 = true := by
        unfold alike at hal
        split at hal
        · rename_i h1; exact ⟨h1, hal⟩
        · cases hal
      simp only [PT.heads, List.mem_cons] at hj
      rcases hj with rfl | hj
      · refine ⟨l, rfl, heavy_ok hρ hcal hA hL hrest hrs ho hro hcs hM hT hN he1 fun a' w' h => hQ a' w' ?_⟩
        obtain ⟨tm', M', μ', h1, h2⟩ := h
        cases h1
        exact ⟨_, _, μ', hk, h2⟩
      · refine hB hL hq hqs hM hT hN hK he2 (fun a' w' h => hQ a' w' ?_) j hj
        refine Come.alike (fun b m hb => hM.fresh b m hb) hal'.2 hal'.1 (kk := fun tm' M' => k tm' M' = some r) hk (t2 := e2.1) (M2 := e2.2) ?_
        obtain ⟨tm', M', μ', h1, h2⟩ := h
        cases h1
        exact ⟨_, _, μ', ⟨rfl, rfl⟩, h2⟩
    refine ⟨?_, key⟩
    intro m c listed st hL hch hcm Ω μ M w tm a hM hT hN hK k r hk hQ
    have hch' : chkT I plan (.fork s sl p q) true m c = true := by
      simp only [chkT, Bool.and_eq_true] at hch ⊢
      exact ⟨hch.1, hch.2.1, trivial, hch.2.2.2⟩
    have hall := key hL hch' hcm hM hT hN hK hk hQ
    obtain ⟨c', rfl, _⟩ := hall s.i (by simp [PT.heads])
    simp only [chkT, Bool.and_eq_true] at hch
    obtain ⟨hrd, _, hheavy, _, _⟩ := hch
    have hcm' := hcm
    simp only [compT] at hcm'
    split at hcm'
    case h_2 => cases hcm'
    rename_i o ho
    obtain ⟨hun, hes⟩ := ready_iff hI hL hrd ho
    have hready := ready_of hI hL ho hun hes
    refine ⟨hK, fun h => (by rw [h] at hready; cases hready), fun j hj => ?_⟩
    obtain ⟨c'', e, h⟩ := hall j (ready_fork hI hL hheavy j hj)
    cases e
    exact h

end
end Go.Ev
