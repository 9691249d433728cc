/- Generic part P: a region whose order is drawn. Looking operations (those that change no world) may be taken first, where what they see stays as it is until what comes after them. -/
import Derived.Test.YtgkjbkkbjlhafaaGreatEvO
import Derived.Orders
namespace Go.Ev

section
variable {P : Program} {ops : Array Oper} {Q : Exit → Act → World → Prop} {md : Region.Mode}

/-- What a looking operation gives, here and now. -/
def Look (P : Program) (ops : Array Oper) (o : Oper) (v : Value) (a : Act) (w : World) : Prop :=
  (Region.wanted o (yielded ops a.tmps) = true ∧ (execOp a.eval o).run P w = .ok (.value v) w) ∨ (Region.wanted o (yielded ops a.tmps) = false ∧ v = undef)

/-- Which of the looking operations that are done must still see what they saw: `R i` tells the operations after which it need not. -/
def Keep (P : Program) (ops : Array Oper) (R : Nat → Option (List Nat)) (listed : Array Bool) (a : Act) (w : World) : Prop :=
  ∀ i D, R i = some D → listed.getD i false = true → (∀ j ∈ D, listed.getD j true = false) → ∃ o d v, ops[i]? = some o ∧ o.dst = some d ∧ a.tmps[d]? = some v ∧ Look P ops o v a w

def wpAnyK (P : Program) (md : Region.Mode) (ops : Array Oper) (R : Nat → Option (List Nat)) (Q : Exit → Act → World → Prop) : Nat → Array Bool → Act → World → Prop
  | 0, listed, a, w => Keep P ops R listed a w ∧ Region.ready md ops listed = [] ∧ Q .normal a w
  | fuel + 1, listed, a, w => Keep P ops R listed a w ∧ (Region.ready md ops listed = [] → Q .normal a w) ∧
    ∀ i ∈ Region.ready md ops listed, wpOp P ops Q i (wpAnyK P md ops R Q fuel (listed.setIfInBounds i true)) a w

theorem wpAnyK.keep {R : Nat → Option (List Nat)} : ∀ {fuel : Nat} {listed : Array Bool} {a : Act} {w : World}, wpAnyK P md ops R Q fuel listed a w → Keep P ops R listed a w
  | 0, _, _, _, h => h.1
  | _ + 1, _, _, _, h => h.1

theorem wpAnyK.any {R : Nat → Option (List Nat)} : ∀ {fuel : Nat} {listed : Array Bool} {a : Act} {w : World}, wpAnyK P md ops R Q fuel listed a w → wpAny P md ops Q fuel listed a w
  | 0, _, _, _, h => h.2
  | _ + 1, _, _, _, h => ⟨h.2.1, fun i hi => wpOp_mono (fun _ _ h => h.any) (h.2.2 i hi)⟩

theorem wpAnyK.done {R : Nat → Option (List Nat)} {listed : Array Bool} {a : Act} {w : World} (hr : Region.ready md ops listed = []) (hk : Keep P ops R listed a w) (h : Q .normal a w) : ∀ fuel, wpAnyK P md ops R Q fuel listed a w
  | 0 => ⟨hk, hr, h⟩
  | _ + 1 => ⟨hk, fun _ => h, by rw [hr]; simp⟩

theorem Look.of_same {o : Oper} {v : Value} {a a' : Act} {w w' : World} (h : Look P ops o v a w) (he : (Region.wanted o (yielded ops a.tmps) = true → (execOp a'.eval o).run P w' = .ok (.value v) w') ∨ execOp a'.eval o = execOp a.eval o ∧ w' = w)
    (hw : Region.wanted o (yielded ops a'.tmps) = Region.wanted o (yielded ops a.tmps)) : Look P ops o v a' w' := by
  unfold Look at *
  rw [hw]
  rcases h with ⟨h1, h2⟩ | h
  · refine .inl ⟨h1, ?_⟩
    rcases he with he | ⟨he, rfl⟩
    · exact he h1
    · rw [he]; exact h2
  · exact .inr h

/-- One step of `j` at a frame where `i` has been done, seen where it has not. -/
theorem wpOp_back {j : Nat} {oi oj : Oper} {v : Value} (hj : ops[j]? = some oj) (hap : oi.apart ops oj = true) (hsj : ∀ cs b, oj.op ≠ .select cs b)
    (hQ : ∀ c a w, ¬ Q (.panic c) a w) (hQo : ∀ a w, ¬ Q .outgrown a w) {K : Act → World → Prop} {a : Act} {w : World}
    (h : wpOp P ops Q j K (a.put oi.dst v) w) :
    wpOp P ops Q j (fun a' w' => K (a'.put oi.dst v) w' ∧ (∀ x, oi.dst = some x → x < a.tmps.size → x < a'.tmps.size) ∧ (∀ o : Oper, (∀ d, oj.dst = some d → d ∉ Oper.looksAt ops o) → (∀ cs b, o.op ≠ .select cs b) → execOp a'.eval o = execOp a.eval o ∧ Region.wanted o (yielded ops a'.tmps) = Region.wanted o (yielded ops a.tmps))) a w := by
  obtain ⟨h1, h2, h3⟩ := Oper.apart_spec hap
  have keep : ∀ (a : Act) u o, (∀ d, oj.dst = some d → d ∉ Oper.looksAt ops o) → (∀ cs b, o.op ≠ .select cs b) → execOp (a.put oj.dst u).eval o = execOp a.eval o ∧ Region.wanted o (yielded ops (a.put oj.dst u).tmps) = Region.wanted o (yielded ops a.tmps) :=
    fun a u o hd hs => ⟨execOp_put o hs a oj.dst u hd, wanted_put o a oj.dst u hd⟩
  have size : ∀ (a : Act) u, (a.put oj.dst u).tmps.size = a.tmps.size := fun a u => by cases oj.dst <;> simp [Act.put]
  unfold wpOp at h ⊢
  simp only [hj] at h ⊢
  rw [wanted_put oj a oi.dst v h1] at h
  split
  · rename_i hw
    simp only [hw, if_true] at h
    rcases h with h | ⟨_, a', w', ho⟩
    case inr => exact (hQo _ _ ho).elim
    refine .inl ?_
    unfold Oper.wp at *
    rw [execOp_put oj hsj a oi.dst v h1] at h
    generalize (execOp a.eval oj).run P w = r at *
    cases r with
    | ok n w' =>
      cases n <;> simp only [Oper.upon] at h ⊢
      case value u => exact ⟨by rw [← Act.put_comm a v u h2]; exact h, fun x _ hx => by rw [size]; exact hx, (fun o hd hs => keep a u o hd hs)⟩
      case skip => exact ⟨by rw [← Act.put_comm a v undef h2]; exact h, fun x _ hx => by rw [size]; exact hx, (fun o hd hs => keep a undef o hd hs)⟩
      case defer d =>
        refine ⟨?_, fun x _ hx => by rw [size]; exact hx, (fun o hd hs => keep { a with defers := d :: a.defers } undef o hd hs)⟩
        rw [← Act.put_comm _ v undef h2, ← Act.put_defers]
        exact h
      case enter f args =>
        refine Calls.mono h fun e w'' he => ?_
        cases e with
        | returned u => exact ⟨by rw [← Act.put_comm a v u h2]; exact he, fun x _ hx => by rw [size]; exact hx, (fun o hd hs => keep a u o hd hs)⟩
        | panicked c => exact (hQ _ _ _ he).elim
        | outgrown => obtain ⟨a', w', ho⟩ := he; exact (hQo _ _ ho).elim
      case row row args => exact Rows.mono h fun u w'' he => ⟨by rw [← Act.put_comm a v u h2]; exact he, fun x _ hx => by rw [size]; exact hx, (fun o hd hs => keep a u o hd hs)⟩
    | halt x w' =>
      cases x <;> simp only [Oper.upon] at h ⊢
      case panic u => exact (hQ _ _ _ h).elim
  · rename_i hw
    simp only [hw] at h
    exact ⟨by rw [← Act.put_comm a v undef h2]; exact h, fun x _ hx => by rw [size]; exact hx, (fun o hd hs => keep a undef o hd hs)⟩

theorem Look.unput {o : Oper} {dst : Option Tmp} {u v : Value} {a : Act} {w : World} (hd : ∀ d, dst = some d → d ∉ o.looksAt ops) (hs : ∀ cs b, o.op ≠ .select cs b) (h : Look P ops o v (a.put dst u) w) : Look P ops o v a w :=
  h.of_same (.inr ⟨(execOp_put o hs a dst u hd).symm, rfl⟩) (wanted_put o a dst u hd).symm

theorem wpAnyK_first {R : Nat → Option (List Nat)} {i : Nat} {oi : Oper} {v : Value} {d : Nat} {S : Nat → Bool} (hi : ops[i]? = some oi) (hd : oi.dst = some d)
    (hsel : ∀ (j : Nat) (o : Oper) cs b, ops[j]? = some o → o.op ≠ .select cs b)
    (hQ : ∀ c a w, ¬ Q (.panic c) a w) (hQo : ∀ a w, ¬ Q .outgrown a w)
    (hown : d ∉ oi.looksAt ops)
    (hS : ∀ j oj, ops[j]? = some oj → S j = true → ∃ e ∈ oj.after, Region.binds md e = true ∧ (e.on = i ∨ S e.on = true))
    (hR : ∀ D, R i = some D → ∀ j ∈ D, S j = true)
    (hRi : ∀ i' D, R i' = some D → i ∉ D) (hil : i < ops.size) :
    ∀ (fuel : Nat) (listed : Array Bool) (a : Act) (w : World), listed.size = ops.size → d < a.tmps.size →
      (∀ j oj, ops[j]? = some oj → j ≠ i → listed.getD j true = true → (R j).isSome = true → d ∉ oj.looksAt ops ∧ oj.dst ≠ some d) →
      (∀ j oj, ops[j]? = some oj → j ≠ i → listed.getD j true = false → S j = false → oi.apart ops oj = true) →
      (∀ j, S j = true → listed.getD j true = false) →
      i ∈ Region.ready md ops listed → Look P ops oi v a w → ((∀ w, Look P ops oi v a w) ∨ (R i).isSome = true) →
      wpAnyK P md ops R Q fuel (listed.setIfInBounds i true) (a.put oi.dst v) w → wpAnyK P md ops R Q (fuel + 1) listed a w := by
  intro fuel
  have hKeep : ∀ (fuel : Nat) (listed : Array Bool) (a : Act) (w : World), listed.size = ops.size →
      (∀ j oj, ops[j]? = some oj → j ≠ i → listed.getD j true = true → (R j).isSome = true → d ∉ oj.looksAt ops ∧ oj.dst ≠ some d) → i ∈ Region.ready md ops listed →
      wpAnyK P md ops R Q fuel (listed.setIfInBounds i true) (a.put oi.dst v) w → Keep P ops R listed a w := by
    intro fuel listed a w hsz hap hr H i' D hD hl' hno
    have hne : i' ≠ i := by
      rintro rfl
      have := (mem_ready.1 hr).1
      have hlt : i' < listed.size := by omega
      simp [hlt] at this hl'
      rw [hl'] at this; cases this
    obtain ⟨o, x, y, h1, h2, h3, h4⟩ := H.keep i' D hD (getD_set_true hl') fun j hj => by
      rw [getD_set_ne true (fun e => by subst e; exact hRi i' D hD hj)]; exact hno j hj
    have hlt' : listed.getD i' true = true := by
      have hlt : i' < listed.size := by
        rcases Nat.lt_or_ge i' listed.size with h | h
        · exact h
        · simp [Array.getElem?_eq_none h] at hl'
      simpa [hlt] using hl'
    obtain ⟨q1, q2⟩ := hap i' o h1 hne hlt' (by rw [hD]; rfl)
    refine ⟨o, x, y, h1, h2, ?_, h4.unput (fun z hz => by rw [hd] at hz; cases hz; exact q1) (hsel i' o · · h1)⟩
    have : d ≠ x := fun e => q2 (by rw [h2, e])
    simpa [hd, Act.put, Array.getElem?_setIfInBounds_ne this] using h3
  induction fuel with
  | zero =>
    intro listed a w hsz hdl hapl hfree hSl hr hy hkind H
    refine ⟨hKeep 0 listed a w hsz hapl hr H, fun h => (by rw [h] at hr; cases hr), fun j hj => ?_⟩
    by_cases hji : j = i
    · subst hji
      unfold wpOp
      simp only [hi]
      rcases hy with ⟨hw, hv⟩ | ⟨hw, rfl⟩
      · simp only [hw, if_true, Oper.wp, hv, Oper.upon]; exact .inl H
      · simp only [hw, Bool.false_eq_true, if_false]; exact H
    · have := ready_mono hj hji
      rw [H.2.1] at this
      cases this
  | succ fuel ih =>
    intro listed a w hsz hdl hapl hfree hSl hr hy hkind H
    refine ⟨hKeep (fuel + 1) listed a w hsz hapl hr H, fun h => (by rw [h] at hr; cases hr), fun j hj => ?_⟩
    by_cases hji : j = i
    · subst hji
      unfold wpOp
      simp only [hi]
      rcases hy with ⟨hw, hv⟩ | ⟨hw, rfl⟩
      · simp only [hw, if_true, Oper.wp, hv, Oper.upon]; exact .inl H
      · simp only [hw, Bool.false_eq_true, if_false]; exact H
    · have h1 := H.2.2 j (ready_mono hj hji)
      obtain ⟨hjun, oj, hoj, hall⟩ := mem_ready.1 hj
      have hiun := (mem_ready.1 hr).1
      have hlisted : ∀ x, listed.getD x false = true → listed.getD x true = true := fun x hx => by
        rcases Nat.lt_or_ge x listed.size with h' | h'
        · simpa [h'] using hx
        · simp [Array.getElem?_eq_none h'] at hx
      have hSj : S j = false := by
        cases hs : S j with
        | false => rfl
        | true =>
          obtain ⟨e, he, hb, hor⟩ := hS j oj hoj hs
          have h2 := hlisted _ (hall e he hb)
          rcases hor with h | h
          · rw [h, hiun] at h2; cases h2
          · rw [hSl _ h] at h2; cases h2
      have hap := hfree j oj hoj hji hjun hSj
      obtain ⟨q1, q2, q3⟩ := Oper.apart_spec hap
      have hjlt : j < listed.size := by
        rcases Nat.lt_or_ge j listed.size with h | h
        · exact h
        · simp [Array.getElem?_eq_none h] at hjun
      have hset : ∀ k, (listed.setIfInBounds j true).getD k true = true → k = j ∨ listed.getD k true = true := fun k hk => by
        by_cases e : j = k
        · exact .inl e.symm
        · rw [getD_set_ne true e] at hk; exact .inr hk
      have h2 := wpOp_back hoj hap (fun cs b => hsel j oj cs b hoj) hQ hQo h1
      refine wpOp_mono (fun a' w' ⟨hK, hsize, hsame⟩ => ?_) h2
      have hK' : wpAnyK P md ops R Q fuel ((listed.setIfInBounds j true).setIfInBounds i true) (a'.put oi.dst v) w' := by
        rw [Array.setIfInBounds_comm _ _ hji]; exact hK
      obtain ⟨s1, s2⟩ := hsame oi q3 (fun cs b => hsel i oi cs b hi)
      refine ih (listed.setIfInBounds j true) a' w' (by simp [hsz]) (hsize d hd hdl) ?_ ?_ ?_ (ready_mono hr (Ne.symm hji)) ?_ (hkind.imp (fun h w₂ => (h w₂).of_same (.inr ⟨s1, rfl⟩) s2) id) hK'
      · intro k ok hk hki hl hsome
        rcases hset k hl with rfl | hl
        · rw [hoj] at hk; cases hk; exact ⟨q1 d hd, q2 d hd⟩
        · exact hapl k ok hk hki hl hsome
      · intro k ok hk hki hun hSk
        refine hfree k ok hk hki ?_ hSk
        by_cases hjk : j = k
        · subst hjk; exact hjun
        · rw [getD_set_ne true hjk] at hun; exact hun
      · intro k hk
        by_cases hjk : j = k
        · subst hjk; rw [hSj] at hk; cases hk
        · rw [getD_set_ne true hjk]; exact hSl k hk
      · -- what `i` sees after `j`
        rcases hkind with hp | hsome
        · exact (hp w').of_same (.inr ⟨s1, rfl⟩) s2
        · obtain ⟨D, hD⟩ := Option.isSome_iff_exists.1 hsome
          obtain ⟨o, x, y, k1, k2, k3, k4⟩ := hK.keep i D hD (by
              have : i < (listed.setIfInBounds i true).size := by simp; omega
              refine getD_set_true ?_
              simp [show i < listed.size by omega]) (fun k hk => by
            have hSk := hR D hD k hk
            have hki : k ≠ i := fun e => by subst e; exact hRi k D hD hk
            have hkj : k ≠ j := fun e => by subst e; rw [hSj] at hSk; cases hSk
            rw [getD_set_ne true (Ne.symm hkj), getD_set_ne true (Ne.symm hki)]; exact hSl k hSk)
          rw [hi] at k1; cases k1
          rw [hd] at k2; cases k2
          have hx : d < a'.tmps.size := hsize d hd hdl
          have : y = v := by simp [hd, Act.put, hx] at k3; exact k3.symm
          subst this
          exact k4.unput (fun x hx => by rw [hd] at hx; cases hx; exact hown) (fun cs b => hsel i oi cs b hi)

end
end Go.Ev
