/- RegionReturns returns true at every x, y, n; its arguments read afterwards as before. Conditions: none. The frame is proof-skeleton.mjs's; the walk is the evaluator's. -/
import Derived.Test.YtgkjbkkbjlhafaaGreatEvLay
import Derived.Test.YtgkjbkkbjlhafaaGreatEvRr0
import Derived.Test.YtgkjbkkbjlhafaaGreatEvRr1
import Derived.Test.YtgkjbkkbjlhafaaGreatEvRr2
import Derived.Test.YtgkjbkkbjlhafaaGreatEvRr3
import Derived.Test.YtgkjbkkbjlhafaaGreatEvRr4
import Derived.Test.YtgkjbkkbjlhafaaGreatRows
import Derived.WalkKit
import Derived.ProofKit
import Derived.OpenShut
namespace Go.Proofs.YtgkjbkkbjlhafaaGreat.regionReturns
open Go.ChangeShapes Go.WideShapes Go.ChangeAt Go.RowKit
set_option linter.unusedVariables false      -- a walk need not use every 'w<i>' (that an integer argument fits its kind)

theorem own : ownKnob Tryz.prog.godebug = none := by kernel_rfl

open Go.Ev Go.Ev.Fs in
theorem cal {Γ : Box} {ρ : Nat → Int} (hρ : Γ.has ρ) (n : Nat) : CalOk Tryz.prog ρ (evFun Γ tbl wr0 n) :=
  evFun_ok Tryz.checked.mixed hρ tbl_ok (fun _ h => withKeys_ok keysLaw (withSorted_ok sortedLaw h)) n

open Go.Ev Go.Ev.Fs in
theorem walk (a0 : Int) (a1 : Int) (a2 : Int) (w0 : (Lit.int .u8 a0).wf = true) (w1 : (Lit.int .u8 a1).wf = true) (w2 : (Lit.int .u8 a2).wf = true) (w : World) :
    Calls Tryz.prog 4 #[.int .u8 a0, .int .u8 a1, .int .u8 a2] w fun e w' => e = .returned (.bool true) ∧ w.keptBut w' (fun _ => False) := by
  have b0 : 0 ≤ a0 ∧ a0 ≤ 255 := by simpa [Lit.wf, IntKind.min, IntKind.max, IntKind.signed, IntKind.bits] using w0
  have b1 : 0 ≤ a1 ∧ a1 ≤ 255 := by simpa [Lit.wf, IntKind.min, IntKind.max, IntKind.signed, IntKind.bits] using w1
  have b2 : 0 ≤ a2 ∧ a2 ≤ 255 := by simpa [Lit.wf, IntKind.min, IntKind.max, IntKind.signed, IntKind.bits] using w2
  have hr : a2 % 5 = 0 ∨ a2 % 5 = 1 ∨ a2 % 5 = 2 ∨ a2 % 5 = 3 ∨ a2 % 5 = 4 := by omega
  rcases hr with h | h | h | h | h
  · refine walk_of (ρ := val [a0 / 16, a0 % 16, a1 / 16, a1 % 16, a2 / 5]) (cal (has_cons (has_cons (has_cons (has_cons (has_cons (has_nil _) ?_ ?_) ?_ ?_) ?_ ?_) ?_ ?_) ?_ ?_) 60) runR0 (args := [.int .u8 a0, .int .u8 a1, .int .u8 a2]) (.cons (int_rel ?_ w0) (.cons (int_rel ?_ w1) (.cons (int_rel ?_ w2) .nil))) w <;> (try simp [linVal, val]) <;> omega
  · refine walk_of (ρ := val [a0 / 16, a0 % 16, a1 / 16, a1 % 16, a2 / 5]) (cal (has_cons (has_cons (has_cons (has_cons (has_cons (has_nil _) ?_ ?_) ?_ ?_) ?_ ?_) ?_ ?_) ?_ ?_) 60) runR1 (args := [.int .u8 a0, .int .u8 a1, .int .u8 a2]) (.cons (int_rel ?_ w0) (.cons (int_rel ?_ w1) (.cons (int_rel ?_ w2) .nil))) w <;> (try simp [linVal, val]) <;> omega
  · refine walk_of (ρ := val [a0 / 16, a0 % 16, a1 / 16, a1 % 16, a2 / 5]) (cal (has_cons (has_cons (has_cons (has_cons (has_cons (has_nil _) ?_ ?_) ?_ ?_) ?_ ?_) ?_ ?_) ?_ ?_) 60) runR2 (args := [.int .u8 a0, .int .u8 a1, .int .u8 a2]) (.cons (int_rel ?_ w0) (.cons (int_rel ?_ w1) (.cons (int_rel ?_ w2) .nil))) w <;> (try simp [linVal, val]) <;> omega
  · refine walk_of (ρ := val [a0 / 16, a0 % 16, a1 / 16, a1 % 16, a2 / 5]) (cal (has_cons (has_cons (has_cons (has_cons (has_cons (has_nil _) ?_ ?_) ?_ ?_) ?_ ?_) ?_ ?_) ?_ ?_) 60) runR3 (args := [.int .u8 a0, .int .u8 a1, .int .u8 a2]) (.cons (int_rel ?_ w0) (.cons (int_rel ?_ w1) (.cons (int_rel ?_ w2) .nil))) w <;> (try simp [linVal, val]) <;> omega
  · refine walk_of (ρ := val [a0 / 16, a0 % 16, a1 / 16, a1 % 16, a2 / 5]) (cal (has_cons (has_cons (has_cons (has_cons (has_cons (has_nil _) ?_ ?_) ?_ ?_) ?_ ?_) ?_ ?_) ?_ ?_) 60) runR4 (args := [.int .u8 a0, .int .u8 a1, .int .u8 a2]) (.cons (int_rel ?_ w0) (.cons (int_rel ?_ w1) (.cons (int_rel ?_ w2) .nil))) w <;> (try simp [linVal, val]) <;> omega

/-! ### THE ROW's STEP: WRITTEN OUT: LEAVE IT -/
set_option maxRecDepth 100000 in
theorem lifted (os : Os) (started : os.Started) (H : Type) (enc : TypeId × Value → H) :
    ReturnsInHanded {} Tryz.checked os 4 .any (Rows.regionReturnsSpec.pre6 enc Tryz.prog Tryz.f4 Rows.regionReturnsRow.domain false) (Rows.regionReturnsSpec.post enc Tryz.prog Tryz.f4 false true false false) := by
  refine returnsInHanded_of_change (C := Tryz.checked) own started (by kernel_rfl) Tryz.func4
    (ChangeSpec.witness6 (enc := enc) (C := Tryz.checked) false ⟨#[], #[.int .u8 0, .int .u8 0, .int .u8 0], []⟩ 8 (by kernel_rfl) (by kernel_rfl) (by kernel_rfl) (by kernel_rfl)) ?_
  intro W base args ds gs before hval0 hW hcnd _
  have hval : ∀ (j : Nat) t v, Tryz.f4.params[j]? = some t → args[j]? = some v → Value.okWide Tryz.prog W .any base t v := hval0
  have hW' := hW
  obtain ⟨p, q, hA0, hV, rfl, hfz, hnd⟩ := hW
  have hA : DataW.TrodAll enc Tryz.prog W 0 (fun _ => true) true Tryz.f4.params.toList args.toList ds p := hA0
  rw [Tryz.params4] at hA hval
  obtain ⟨v0, vs0, d0, ds0, p0, q0, hargs, rfl, rfl, h0, r0⟩ := trodAll_cons hA
  obtain ⟨v1, vs1, d1, ds1, p1, q1, rfl, rfl, rfl, h1, r1⟩ := trodAll_cons r0
  obtain ⟨v2, vs2, d2, ds2, p2, q2, rfl, rfl, rfl, h2, r2⟩ := trodAll_cons r1
  obtain ⟨rfl, rfl, rfl⟩ := trodAll_nil r2
  obtain rfl : args = #[v0, v1, v2] := by cases args; simp_all
  obtain ⟨rfl, rfl⟩ := trodVars_none hV
  obtain ⟨a0, rfl, rfl, rfl, w0⟩ := open_int Tryz.underlying5 (hval 0 5 v0 rfl rfl) h0
  obtain ⟨a1, rfl, rfl, rfl, w1⟩ := open_int Tryz.underlying5 (hval 1 5 v1 rfl rfl) h1
  obtain ⟨a2, rfl, rfl, rfl, w2⟩ := open_int Tryz.underlying5 (hval 2 5 v2 rfl rfl) h2
  clear hA0 hval0
  simp only [List.append_nil] at hW'
  refine (walk a0 a1 a2 w0 w1 w2 W).mono fun e W' ⟨he, hg⟩ => ?_
  subst he
  exact ⟨_, rfl, Go.Ev.post_plain hW' (fun _ _ _ => (trodAll_cons_mk (shut_bool Tryz.underlying4 _) trodAll_mk0)) (fun sp => (trodAll_cons_mk (shut_int Tryz.underlying5 w0) (trodAll_cons_mk (shut_int Tryz.underlying5 w1) (trodAll_cons_mk (shut_int Tryz.underlying5 w2) trodAll_mk0)))) (fun _ => rfl) hg
    (ok_one (by kernel_rfl) rfl (okWide_bool_mk Tryz.underlying4 _))⟩

theorem over : Rows.regionReturnsRow.holds Tryz.pinned (OpenSpec.ofChange Rows.regionReturnsSpec) :=
  OpenClaim.holds_of_wide 4 Tryz.f4 rfl rfl rfl rfl rfl rfl rfl ⟨rfl, rfl, rfl, rfl, rfl⟩ rfl rfl rfl rfl rfl (by kernel_rfl) Tryz.func4 (by kernel_rfl)
    (of_decide_eq_true (by kernel_rfl)) (by unfold Func.isWrapper; first | (rw [if_pos (by decide +kernel)]; kernel_rfl) | (rw [if_neg (by decide +kernel)]; exact ⟨rfl, rfl⟩))
    (fun os started H enc _ => lifted os started H enc)

/-- ████ THE STATEMENT ████ -/
theorem proved : Rows.RegionReturnsSaid :=
  over
#print axioms proved
end Go.Proofs.YtgkjbkkbjlhafaaGreat.regionReturns
