/- Generic part Fin: from an evaluation that ends in true to a law's walk; the row's end where no argument is held in memory. -/
import Derived.Test.YtgkjbkkbjlhafaaGreatEvSo
import Derived.ChangeSame
namespace Go.Ev
open Go Go.ChangeShapes Go.WideShapes

/-- What comes back is true. -/
def okK (v : AV) (_ : Mem) : Option Unit :=
  match v with
  | .leaf x => (match x with | .bool b => (match b with | true => some () | false => none) | _ => none)
  | _ => none

def M0 : Mem := ⟨.xH, .leaf⟩
def emb0 : Emb := fun _ => none

theorem okK_eq {v : AV} {M : Mem} {r : Unit} (h : okK v M = some r) : v = .leaf (.bool true) := by
  unfold okK at h
  split at h
  case h_2 => cases h
  split at h
  case h_2 => cases h
  split at h
  case h_2 => cases h
  rfl

theorem MR0 (ρ : Nat → Int) (w : World) : MR emb0 ρ M0 w where
  blk := fun b B m h _ => by rw [show M0.blks = .leaf from rfl, T.get_leaf] at h; cases h
  dist := fun b b' B B' m m' h _ _ _ _ => by rw [show M0.blks = .leaf from rfl, T.get_leaf] at h; cases h
  fresh := fun b m h => by cases h
  inb := fun b m h => by cases h
  ids := fun b B h => by rw [show M0.blks = .leaf from rfl, T.get_leaf] at h; cases h

theorem kept_of_ext {n : Nat} {μ' : Emb} {w w' : World} (h : Ext n emb0 μ' w w') : w.keptBut w' (fun _ => False) := by
  refine ⟨h.os, h.output, fun i hi => ?_⟩
  rw [h.fr i hi (fun b m e => by cases e)]
  split
  · rename_i h1 h2; rw [h1] at h2; cases h2; exact ⟨rfl, rfl, rfl, fun _ _ => rfl⟩
  · rename_i h1 h2; rw [h1] at h2; cases h2; exact .inr ⟨rfl, rfl⟩
  · rfl

theorem walk_of {P : Program} {ρ : Nat → Int} {cal : Callee} (h : CalOk P ρ cal) {f : Nat} {vs : List AV} (he : cal Unit f vs M0 okK = some ()) {args : List Value} (ha : All2 (AV.rel emb0 ρ) vs args) (w : World) :
    Calls P f args.toArray w fun e w' => e = .returned (.bool true) ∧ w.keptBut w' (fun _ => False) := by
  refine ((h Unit f vs M0 okK () he).2 emb0 w args ha (MR0 ρ w)).mono ?_
  rintro e w' ⟨v, M', x, μ', h1, rfl, h3, _, h5⟩
  obtain rfl := okK_eq h1
  have : x = .bool true := h3
  subst this
  exact ⟨rfl, kept_of_ext h5⟩

/-- An integer of a kind, in the box's letters. -/
theorem int_rel {ρ : Nat → Int} {k : IntKind} {c : Int} {ts : List (Nat × Int)} {n : Int} (h : n = c + linVal ρ ts) (hw : (Lit.int k n).wf = true) : AV.rel emb0 ρ (.leaf (.int k (.lin c ts))) (.int k n) := by
  refine ⟨n, h, (fits_iff k n).2 ?_, rfl⟩
  simpa [Lit.wf] using hw

theorem lit_rel {ρ : Nat → Int} {k : IntKind} {n : Int} (hw : (Lit.int k n).wf = true) : AV.rel emb0 ρ (.leaf (.int k (.lit n))) (.int k n) := by
  refine ⟨n, rfl, (fits_iff k n).2 ?_, rfl⟩
  simpa [Lit.wf] using hw

/-- A valuation by a list. -/
def val (l : List Int) (i : Nat) : Int := l.getD i 0

theorem has_nil (l : List Int) : Box.has [] (val l) := fun i lo hi h => by simp at h

theorem has_cons {lo hi x : Int} {Γ : Box} {l : List Int} (h : Γ.has (val l)) (h1 : lo ≤ x) (h2 : x ≤ hi) : Box.has ((lo, hi) :: Γ) (val (x :: l)) := by
  intro i a b hi
  cases i with
  | zero => simp at hi; obtain ⟨rfl, rfl⟩ := hi; exact ⟨h1, h2⟩
  | succ i => simp at hi; exact h i a b hi

/-- The row's post where nothing is reached from the arguments. -/
theorem post_plain {H : Type} {enc : TypeId × Value → H} {P : Program} {f : Func} {s : ChangeSpec} {apart fresh handsOn again : Bool} {W W' : World} {args : Array Value} {v : Value} {ds gs : List (DataW H)}
    (hW : DataW.Whole enc P f.params.toList s.vars apart W args.toList ds gs [])
    (hres : ∀ (b : Nat) (sp : Nat → Bool) (hd : Bool), DataW.TrodAll enc P W' b sp hd f.resultTypes.toList (v.resultList f.resultTypes.size) (s.fn H (ds ++ gs)).results [])
    (hargs : ∀ sp : Nat → Bool, DataW.TrodAll enc P W' 0 sp true f.params.toList args.toList (s.fn H (ds ++ gs)).args [])
    (hvars : ∀ sp : Nat → Bool, DataW.TrodVars enc P W' sp s.vars (s.fn H (ds ++ gs)).vars [])
    (hk : W.keptBut W' (fun _ => False))
    (hok : ∀ (j : Nat) (t : TypeId) (r : Value), f.resultTypes[j]? = some t → (v.resultList f.resultTypes.size)[j]? = some r → Value.okWide P W' .any 0 t r) :
    s.post enc P f apart fresh handsOn again W args v W' := by
  refine ⟨ds, gs, [], [], [], [], hW, hres _ _ _, hargs _, hvars _, World.keptBut_mono (fun p hp => hp.elim) hk, fun _ => ?_⟩
  refine ⟨hok, _, _, ([] ++ []) ++ [], ⟨[] ++ [], [], trodAll_append (hargs _) (hres _ _ _), hvars _, rfl, ?_, ?_⟩, ?_⟩
  · intro b off hp; simp at hp
  · intro _; simp
  · intro p hp _; simp at hp

end Go.Ev
