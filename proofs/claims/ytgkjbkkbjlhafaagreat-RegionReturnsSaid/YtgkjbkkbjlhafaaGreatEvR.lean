/- Generic part R: the operations that need no world, all of them. (Printed by mkpure.py.) -/
import Derived.Test.YtgkjbkkbjlhafaaGreatEvQ
namespace Go.Ev

def CO.pure : CO → Bool
  | .move _ | .pick _ _ _ | .build _ _ | .nilchk _ | .ar _ _ _ | .cmp _ _ _ | .eqb _ _ _ | .eqs _ _ _ | .eqnil _ _ _ _ | .eqagg _ _ _ _ | .cat _ _ | .not _ | .neg _ | .inv _ | .conv _ _ | .mkiface _ _ | .mkfunc _ _
  | .fieldA _ _ | .field1 _ _ | .fieldN _ _ _ | .idxS _ _ _ | .idxA _ _ _ _ | .index1 _ _ _ | .indexN _ _ _ _ | .indexStr _ _ | .extract _ _ | .len _ | .lenstr _ | .mn _ _ | .mx _ _ | .slice _ _ _ _ _ | .sliceStr _ _ _ => true
  | _ => false

section
variable {Ω : Type} {P : Program} {Γ : Box} {μ : Emb} {ρ : Nat → Int} {M : Mem}

def PureX (P : Program) (μ : Emb) (ρ : Nat → Int) (a : Act) (o : Oper) (v : AV) : Prop := ∃ x, (∀ w, (execOp a.eval o).run P w = .ok (.value x) w) ∧ v.rel μ ρ x

theorem run_zero' {t : TypeId} {cs : List LV} (h : tzero P t = some cs) : ∃ v, (∀ w, (zeroValue t).run P w = .ok v w) ∧ clvs v.cells.toList = some cs := by
  unfold tzero at h
  split at h
  · rename_i i hi
    split at h
    · rename_i v hv; exact ⟨v, fun w => by simp [zeroValue, typeInfo, hi, hv], h⟩
    · cases h
  · cases h

theorem Still.next {s : Sem Value} {v : AV} (h : Still P μ ρ s v) : ∃ x, (∀ w, (do pure (.value (← s)) : Sem Next).run P w = .ok (.value x) w) ∧ v.rel μ ρ x := by
  obtain ⟨x, h1, h2⟩ := h
  exact ⟨x, fun w => by simp [Sem.run_bind, h1], h2⟩

theorem PureX.move {a : Act} {o : Oper} {v : AV} {x : Value} (he : execOp a.eval o = pure (.value x)) (h : v.rel μ ρ x) : PureX P μ ρ a o v := ⟨x, fun w => by rw [he]; rfl, h⟩

theorem pu_builtin (hρ : Γ.has ρ) {a : Act} {tm : T AV} (hT : TR μ ρ tm a.tmps) {b : Builtin} {ts : Array TypeId} {xs : Array Operand} {co : CO} (hc : compBuiltin P b ts.toList xs.toList = some co) (hpu : co.pure = true) {k : Option AV → Mem → Option Ω} {r : Ω}
    (h0 : evOp Γ co tm M k = some r) (ty : TypeId) : ∃ q, k (some q) M = some r ∧ Still P μ ρ (builtinV b ts ty (xs.map a.eval)) q := by
  cases b <;> simp only [compBuiltin] at hc <;> try (cases hc; done)
  case append =>
    split at hc
    case h_2 => cases hc
    rename_i t t' x y hts hxs
    split at hc
    case h_2 => cases hc
    rename_i e u v hu hx hy
    split at hc
    case h_2 => cases hc
    rename_i i hi
    split at hc
    case h_2 => cases hc
    rename_i z hz
    split at hc
    case h_2 => cases hc
    rename_i hb
    cases hc
    cases hpu
  case len =>
    split at hc
    case h_2 => cases hc
    rename_i t x hts hxs
    rw [one_of hxs, onet_of hts]
    split at hc
    · rename_i e u hu hx
      cases hc
      change (opdK tm u fun u => _) = some r at h0
      obtain ⟨p, h1, hp⟩ := opdK_ok hT hx h0
      obtain ⟨l, e1, h2⟩ := leafK_ok h1
      subst e1
      cases l <;> try (cases h2; done)
      · rename_i b off len esz cap
        obtain ⟨m, ad, c, _, _, _, _, _, e⟩ := hp
        rw [e]
        obtain ⟨h3, hf⟩ := lenOkK_ok h2
        exact ⟨_, h3, .st (x := goInt len) (by simp [builtinV, Builtin.len_, run_underlying hu]) ⟨_, rfl, hf, rfl⟩⟩
      · rw [hp]
        exact ⟨_, h2, .st (x := goInt 0) (by simp [builtinV, Builtin.len_, run_underlying hu]) ⟨0, rfl, rfl, rfl⟩⟩
    · rename_i u hu hx
      cases hc
      change (opdK tm u fun u => _) = some r at h0
      obtain ⟨p, h1, hp⟩ := opdK_ok hT hx h0
      obtain ⟨bs, s, h2, hs, e⟩ := strK_ok h1 hp
      rw [e]
      rw [nK_eq] at h2
      obtain ⟨h3, hf⟩ := lenOkK_ok h2
      exact ⟨_, h3, .st (x := goInt s.size) (by simp [builtinV, Builtin.len_, run_underlying hu]) ⟨_, rfl, hf, by rw [strIs_len hs]; rfl⟩⟩
    · cases hc; cases hpu
    · cases hc
  case min =>
    split at hc
    case h_2 => cases hc
    rename_i x y hxs
    split at hc
    case h_2 => cases hc
    rename_i u v hx hy
    cases hc
    rw [two_of hxs]
    exact pu_min hρ hT hx hy h0 ts ty
  case max =>
    split at hc
    case h_2 => cases hc
    rename_i x y hxs
    split at hc
    case h_2 => cases hc
    rename_i u v hx hy
    cases hc
    rw [two_of hxs]
    exact pu_max hρ hT hx hy h0 ts ty
  case delete =>
    split at hc
    case h_2 => cases hc
    rename_i t t2 x y hts hxs
    split at hc
    case h_2 => cases hc
    rename_i key elem u v hu hx hy
    simp only [Option.map_eq_some_iff] at hc
    obtain ⟨ks, hk, rfl⟩ := hc
    cases hpu
  case clear =>
    split at hc
    case h_2 => cases hc
    rename_i t x hts hxs
    split at hc
    case h_2 => cases hc
    rename_i e u hu hx
    simp only [Option.map_eq_some_iff] at hc
    obtain ⟨z, hz, rfl⟩ := hc
    cases hpu

theorem pu_op (hρ : Γ.has ρ) {a : Act} {tm : T AV} (hT : TR μ ρ tm a.tmps) {o : Oper} {co : CO} (hc : compOp P o.op = some co) (hpu : co.pure = true) {k : Option AV → Mem → Option Ω} {r : Ω} (h0 : evOp Γ co tm M k = some r) :
    ∃ v, k (some v) M = some r ∧ PureX P μ ρ a o v := by
  obtain ⟨dst, op, type, pos, after, guard⟩ := o
  change compOp P op = some co at hc
  cases op <;> simp only [compOp] at hc <;> try (cases hc; done)
  case move x =>
    simp only [Option.map_eq_some_iff] at hc
    obtain ⟨y, hy, rfl⟩ := hc
    obtain ⟨v, h1, hv⟩ := opdK_ok hT hy (k := fun v => k (some v) M) h0
    exact ⟨_, h1, PureX.move rfl hv⟩
  case assign x =>
    simp only [Option.map_eq_some_iff] at hc
    obtain ⟨y, hy, rfl⟩ := hc
    obtain ⟨v, h1, hv⟩ := opdK_ok hT hy (k := fun v => k (some v) M) h0
    exact ⟨_, h1, PureX.move rfl hv⟩
  case pick c x y =>
    split at hc
    case h_2 => cases hc
    rename_i c' x' y' hc' hx hy
    cases hc
    change (opdK tm c' fun v => _) = some r at h0
    obtain ⟨p, h1, hp⟩ := opdK_ok hT hc' h0
    obtain ⟨b, h2, e⟩ := boolK_ok h1 hp
    cases b with
    | true =>
      obtain ⟨v, h3, hv⟩ := opdK_ok hT hx (k := fun v => k (some v) M) h2
      exact ⟨_, h3, a.eval x, fun w => by simp [execOp, e, asBool], hv⟩
    | false =>
      obtain ⟨v, h3, hv⟩ := opdK_ok hT hy (k := fun v => k (some v) M) h2
      exact ⟨_, h3, a.eval y, fun w => by simp [execOp, e, asBool], hv⟩
  case alloc e =>
    simp only [Option.map_eq_some_iff] at hc
    obtain ⟨z, hz, rfl⟩ := hc
    cases hpu
  case box e x =>
    simp only [Option.map_eq_some_iff] at hc
    obtain ⟨y, hy, rfl⟩ := hc
    cases hpu
  case build t parts =>
    split at hc
    case h_2 => cases hc
    rename_i z hz
    obtain ⟨zv, hzv, hzc⟩ := run_zero' hz
    have hzr := clvs_ok hzc μ ρ
    split at hc
    · rename_i fs hu
      split at hc
      case h_2 => cases hc
      rename_i hall
      simp only [Option.map_eq_some_iff] at hc
      obtain ⟨qs, hq, rfl⟩ := hc
      change (fillK tm qs z fun cs => k (some (.agg cs)) M) = some r at h0
      obtain ⟨z', c', h1, h2, h3⟩ := fillK_ok hT _ (cparts_ok hq) hzr h0
      refine ⟨_, h1, Still.next (.st (x := .agg c') ?_ ⟨c'.toList, h3, by simp⟩)⟩
      have hpl := run_places (P := P) (fs := fs) (fun f hf => List.all_eq_true.1 hall f hf)
      have h2' : Instr.fill (fun i => (fs.map fun f => (f.offset, (tsize P f.type).getD 0))[i]?) zv.cells (parts.map fun p => (p.1, a.eval p.2)).toList = some c' := by simpa [fieldPlaces] using h2
      intro w
      simp only [Instr.build, Sem.run_bind, hzv, Result.andThen_ok, run_underlying hu, hpl, h2']
      rfl
    · rename_i n e hu
      split at hc
      case h_2 => cases hc
      rename_i n' hn
      simp only [Option.map_eq_some_iff] at hc
      obtain ⟨qs, hq, rfl⟩ := hc
      change (fillK tm qs z fun cs => k (some (.agg cs)) M) = some r at h0
      obtain ⟨z', c', h1, h2, h3⟩ := fillK_ok hT _ (cparts_ok hq) hzr h0
      refine ⟨_, h1, Still.next (.st (x := .agg c') ?_ ⟨c'.toList, h3, by simp⟩)⟩
      have h2' : Instr.fill (fun i => some (i * n', n')) zv.cells (parts.map fun p => (p.1, a.eval p.2)).toList = some c' := by simpa using h2
      intro w
      simp only [Instr.build, Sem.run_bind, hzv, Result.andThen_ok, run_underlying hu, run_size hn, h2']
      rfl
    · cases hc
  case buildSlice t len parts =>
    split at hc
    case h_2 => cases hc
    rename_i e hu
    split at hc
    case h_2 => cases hc
    rename_i z n hz hn
    split at hc
    case h_2 => cases hc
    rename_i hb
    rw [Bool.and_eq_true, Nat.ble_eq] at hb
    obtain ⟨hzl, hle⟩ := hb
    have hzl := Nat.eq_of_beq_eq_true hzl
    simp only [Option.map_eq_some_iff] at hc
    obtain ⟨qs, hq, rfl⟩ := hc
    cases hpu
  case load t x =>
    split at hc
    case h_2 => cases hc
    rename_i y b n hy hb hn
    cases b with
    | false => cases hc; cases hpu
    | true => cases hc; cases hpu
  case store t x y =>
    split at hc
    case h_2 => cases hc
    rename_i x' y' b n hx hy hb hn
    cases b with
    | false =>
      dsimp only at hc
      split at hc
      · cases hc; cases hpu
      · cases hc
    | true => cases hc; cases hpu
  case nilCheck x =>
    simp only [Option.map_eq_some_iff] at hc
    obtain ⟨y, hy, rfl⟩ := hc
    change (opdK tm y fun v => leafK v fun u => _) = some r at h0
    obtain ⟨v, h1, hv⟩ := opdK_ok hT hy h0
    obtain ⟨u, eu, h2⟩ := leafK_ok h1
    subst eu
    split at h2
    · rename_i t ht
      split at h2
      · refine ⟨_, h2, a.eval x, ?_, hv⟩
        cases u <;> simp only [isNil] at ht <;> try (cases ht; done)
        · obtain ⟨m, _, e⟩ := hv; simp [execOp, e]
        · obtain ⟨m, ad, c, _, _, _, _, _, e⟩ := hv; simp [execOp, e]
        · obtain ⟨m, _, e⟩ := hv; simp [execOp, e]
        · obtain ⟨m, _, e⟩ := hv; simp [execOp, e]
        · obtain ⟨m, _, e⟩ := hv; simp [execOp, e]
      · cases h2
    · cases h2
  case binOp op t x y yt =>
    obtain ⟨v, h1, h2⟩ := pu_bin hρ hc hT h0
    exact ⟨_, h1, Still.next h2⟩
  case unOp op t x =>
    cases op <;> simp only [Option.map_eq_some_iff] at hc <;> try (cases hc; done)
    · obtain ⟨y, hy, rfl⟩ := hc
      change (opdK tm y fun u => _) = some r at h0
      obtain ⟨v, h1, hv⟩ := opdK_ok hT hy h0
      obtain ⟨j, i, e, h2⟩ := intK_ok h1
      subst e
      split at h2
      · rename_i s hs; rw [siK_eq] at h2; exact ⟨_, h2, Still.next (pu_neg hρ hv hs)⟩
      · cases h2
    · obtain ⟨y, hy, rfl⟩ := hc
      change (opdK tm y fun u => _) = some r at h0
      obtain ⟨v, h1, hv⟩ := opdK_ok hT hy h0
      obtain ⟨j, i, e, h2⟩ := intK_ok h1
      subst e
      split at h2
      · rename_i s hs; rw [siK_eq] at h2; exact ⟨_, h2, Still.next (pu_inv hρ hv hs)⟩
      · cases h2
    · obtain ⟨y, hy, rfl⟩ := hc
      change (opdK tm y fun u => _) = some r at h0
      obtain ⟨v, h1, hv⟩ := opdK_ok hT hy h0
      obtain ⟨l, e, h2⟩ := leafK_ok h1
      subst e
      cases l <;> try (cases h2; done)
      · dsimp only at h2; rw [bK_eq] at h2; exact ⟨_, h2, Still.next (pu_not hv)⟩
      · exact ⟨_, h2, Still.next (pu_notTop hv)⟩
  case convert s d x =>
    split at hc
    case h_2 => cases hc
    rename_i k' j hs hd
    simp only [Option.map_eq_some_iff] at hc
    obtain ⟨y, hy, rfl⟩ := hc
    change (opdK tm y fun u => intK u fun _ a => _) = some r at h0
    obtain ⟨v, h1, hv⟩ := opdK_ok hT hy h0
    obtain ⟨j', i, e, h2⟩ := intK_ok h1
    subst e
    have key : k (some (.leaf (.int j (convSI Γ j i)))) M = some r := by
      cases i with
      | lit n => exact (siK_eq (SI.lit (wrapF j n)) fun s => k (some (.leaf (.int j s))) M) ▸ h2
      | lin c ts => exact (siK_eq (tidy Γ j c ts) fun s => k (some (.leaf (.int j s))) M) ▸ h2
      | rng l hh =>
        dsimp only at h2
        split at h2
        · rename_i s hs'
          rw [siK_eq] at h2
          have e : some (convSI Γ j (.rng l hh)) = some s := by
            rw [← hs']; simp only [convSI]
            cases (fits j l && fits j hh) <;> rfl
          cases e
          exact h2
        · cases h2
    exact ⟨_, key, Still.next (pu_conv hρ hv (by rw [hs]; rfl) hd)⟩
  case makeInterface t x =>
    split at hc
    case h_2 => cases hc
    rename_i ht
    simp only [Option.map_eq_some_iff] at hc
    obtain ⟨y, hy, rfl⟩ := hc
    change (opdK tm y fun u => _) = some r at h0
    obtain ⟨v, h1, hv⟩ := opdK_ok hT hy h0
    obtain ⟨l, e, h2⟩ := leafK_ok h1
    subst e
    exact ⟨_, h2, Still.next (pu_iface ht hv)⟩
  case makeFunc fn first captured =>
    split at hc
    case h_2 => cases hc
    rename_i f
    split at hc
    case h_2 => cases hc
    rename_i hf
    have hf := Nat.eq_of_beq_eq_true hf
    simp only [Option.map_eq_some_iff] at hc
    obtain ⟨ys, hy, rfl⟩ := hc
    change (opdsK tm ys fun vs => evOp.ptrsK vs fun cs => k (some (.leaf (.func f cs))) M) = some r at h0
    obtain ⟨vs, h1, hvs⟩ := opdsK_ok hT hy h0
    obtain ⟨cs, h2, hcs⟩ := ptrsK_ok hvs h1
    refine ⟨_, h2, Still.next (.st (x := .func (.func f) #[] (captured.toList.map a.eval).toArray) ?_ ⟨_, hcs, rfl⟩)⟩
    have : first = #[] := Array.eq_empty_of_size_eq_zero hf
    subst this
    have e : Array.map a.eval captured = (captured.toList.map a.eval).toArray := by rw [← Array.toList_map, Array.toArray_toList]
    simp [Instr.makeFunc, e]
  case makeMap t x =>
    cases x with
    | some _ => cases hc
    | none => cases hc; cases hpu
  case slice t x lo hi mx =>
    split at hc
    case h_2 => cases hc
    rename_i x' lo' hi' mx' hx hlo hhi hmx
    split at hc
    · rename_i e hu
      simp only [Option.map_eq_some_iff] at hc
      obtain ⟨esz, hn, rfl⟩ := hc
      change (opdK tm x' fun v => optK tm lo' (opd := opdK) fun lo => optK tm hi' (opd := opdK) fun hi => optK tm mx' (opd := opdK) fun mx => _) = some r at h0
      obtain ⟨v, h1, hv⟩ := opdK_ok hT hx h0
      obtain ⟨l, h2, hl⟩ := optK_ok hT hlo h1
      obtain ⟨h, h3, hh⟩ := optK_ok hT hhi h2
      obtain ⟨m, h4, hm⟩ := optK_ok hT hmx h3
      rcases sliceK_ok h4 hv with ⟨ev, h5⟩ | ⟨b, off, len, esz', cap, h5, hv2⟩
      · cases m with
        | some _ => cases h5
        | none =>
          cases mx with
          | some _ => exact hm.elim
          | none =>
            obtain ⟨_, _, h6, e1, e2, e3, e4⟩ := boundsK_ok h5
            refine ⟨_, h6, Still.next ?_⟩
            rw [ev]
            exact pu_sliceNil hu hn hl hh (by omega) (by omega)
      · split at h5
        · cases h5
        · rename_i hee
          have hee := Nat.eq_of_beq_eq_true hee
          subst hee
          cases m with
          | none =>
            cases mx with
            | some _ => exact hm.elim
            | none =>
              obtain ⟨l', u', h6, e1, e2, e3, e4⟩ := boundsK_ok h5
              subst e3; subst e4
              have := pu_slice (P := P) hu hn hv2 hl hh e1 e2
              rw [nK_eq, nK_eq] at h6
              cases cap with
              | none => exact ⟨_, h6, Still.next this⟩
              | some c => dsimp only at h6; rw [nK_eq] at h6; exact ⟨_, h6, Still.next this⟩
          | some m =>
            cases mx with
            | none => exact hm.elim
            | some mx =>
              cases h with
              | none => cases h5
              | some h =>
                cases hi with
                | none => exact hh.elim
                | some hi =>
                  dsimp only at h5
                  split at h5
                  · rename_i hb
                    rw [Bool.and_eq_true, Nat.ble_eq, Nat.ble_eq] at hb
                    obtain ⟨l', u', h6, e1, e2, e3, e4⟩ := boundsK_ok h5
                    subst e3
                    simp only [Option.getD_some] at e4
                    subst e4
                    rw [nK_eq, nK_eq, nK_eq] at h6
                    obtain ⟨jh, eh⟩ := hh
                    obtain ⟨jm, em⟩ := hm
                    exact ⟨_, h6, Still.next (pu_slice3 hu hn hv2 hl eh em e1 hb.1 hb.2)⟩
                  · cases h5
    · rename_i n e hu
      split at hc
      case h_2 => cases hc
      have hmxn : mx = none := by
        cases mx with
        | none => rfl
        | some q => simp only [copdO, Option.map_eq_some_iff] at hmx; obtain ⟨_, _, e⟩ := hmx; cases e
      subst hmxn
      simp only [Option.map_eq_some_iff] at hc
      obtain ⟨esz, hn, rfl⟩ := hc
      cases hpu
    · rename_i hu
      split at hc
      case h_2 => cases hc
      have hmxn : mx = none := by
        cases mx with
        | none => rfl
        | some q => simp only [copdO, Option.map_eq_some_iff] at hmx; obtain ⟨_, _, e⟩ := hmx; cases e
      subst hmxn
      cases hc
      change (opdK tm x' fun v => optK tm lo' (opd := opdK) fun lo => optK tm hi' (opd := opdK) fun hi => _) = some r at h0
      obtain ⟨v, h1, hv⟩ := opdK_ok hT hx h0
      obtain ⟨l, h2, hl⟩ := optK_ok hT hlo h1
      obtain ⟨h, h3, hh⟩ := optK_ok hT hhi h2
      obtain ⟨bs, s, h4, hs, ev⟩ := strK_ok h3 hv
      obtain ⟨l', u', h6, e1, e2, e3, e4⟩ := boundsK_ok h4
      subst e3; subst e4
      rw [dropK_eq] at h6
      split at h6
      · rw [takeK_eq] at h6
        split at h6
        · exact ⟨_, h6, Still.next (pu_sliceStr hu hs ev hl hh e1 e2)⟩
        · cases h6
      · cases h6
    · cases hc
  case fieldAddr s x f =>
    split at hc
    case h_2 => cases hc
    rename_i y fs hy hs
    split at hc
    case h_2 => cases hc
    rename_i fl hf
    split at hc
    case h_2 => cases hc
    rename_i n hn
    split at hc
    · cases hc
    · rename_i hz
      cases hc
      change (opdK tm y fun v => _) = some r at h0
      obtain ⟨v, h1, hv⟩ := opdK_ok hT hy h0
      obtain ⟨b, o, m, h2, hm, e⟩ := ptrK_ok h1 hv
      rw [nK_eq] at h2
      exact ⟨_, h2, Still.next (pu_fieldA hs hf hn (fun e => by subst e; simp at hz) hm e)⟩
  case field t x f =>
    split at hc
    case h_2 => cases hc
    rename_i y fs hy hs
    split at hc
    case h_2 => cases hc
    rename_i fl hf
    split at hc
    case h_2 => cases hc
    rename_i b n hb hn
    cases b with
    | false =>
      cases hc
      change (opdK tm y fun v => _) = some r at h0
      obtain ⟨v, h1, hv⟩ := opdK_ok hT hy h0
      obtain ⟨cs, e, h2⟩ := aggK_ok h1
      subst e
      obtain ⟨xs, hxs, ex⟩ := hv
      split at h2
      · rename_i z hz
        obtain ⟨q, g1, g2⟩ := pu_part (P := P) hxs hb hz
        exact ⟨_, h2, Still.next ⟨q, fun w => by rw [ex]; simpa [Instr.field, run_underlying hs, hf, asAgg] using g1 w, g2⟩⟩
      · cases h2
    | true =>
      cases hc
      change (opdK tm y fun v => _) = some r at h0
      obtain ⟨v, h1, hv⟩ := opdK_ok hT hy h0
      obtain ⟨cs, e, h2⟩ := aggK_ok h1
      subst e
      obtain ⟨xs, hxs, ex⟩ := hv
      rw [dropK_eq] at h2
      split at h2
      · rw [takeK_eq] at h2
        split at h2
        · obtain ⟨q, g1, g2⟩ := pu_partN (P := P) (off := fl.offset) hxs hb hn
          exact ⟨_, h2, Still.next ⟨q, fun w => by rw [ex]; simpa [Instr.field, run_underlying hs, hf, asAgg] using g1 w, g2⟩⟩
        · cases h2
      · cases h2
  case indexAddr t x i =>
    split at hc
    · rename_i x' i' e hx hi hu
      simp only [Option.map_eq_some_iff] at hc
      obtain ⟨esz, hn, rfl⟩ := hc
      change (opdK tm x' fun v => opdK tm i' fun u => _) = some r at h0
      obtain ⟨v, h1, hv⟩ := opdK_ok hT hx h0
      obtain ⟨u, h2, hi2⟩ := opdK_ok hT hi h1
      obtain ⟨j, n, h3, en⟩ := natK_ok h2 hi2
      rcases sliceK_ok h3 hv with ⟨_, h4⟩ | ⟨b, off, len, esz', cap, h4, hv2⟩
      · cases h4
      · split at h4
        · rename_i hb
          rw [Bool.and_eq_true, Nat.ble_eq] at hb
          have hee := Nat.eq_of_beq_eq_true hb.2
          subst hee
          rw [nK_eq] at h4
          exact ⟨_, h4, Still.next (pu_idxS hu hn hv2 en hb.1)⟩
        · cases h4
    · rename_i x' i' n' e hx hi hu
      simp only [Option.map_eq_some_iff] at hc
      obtain ⟨esz, hn, rfl⟩ := hc
      change (opdK tm x' fun v => opdK tm i' fun u => _) = some r at h0
      obtain ⟨v, h1, hv⟩ := opdK_ok hT hx h0
      obtain ⟨u, h2, hi2⟩ := opdK_ok hT hi h1
      obtain ⟨j, n, h3, en⟩ := natK_ok h2 hi2
      obtain ⟨b, off, m, h4, hm, ev⟩ := ptrK_ok h3 hv
      split at h4
      · rename_i hb
        rw [Nat.ble_eq] at hb
        rw [nK_eq] at h4
        exact ⟨_, h4, Still.next (pu_idxA hu hn hm ev en hb)⟩
      · cases h4
    · cases hc
  case index t x i =>
    split at hc
    · rename_i x' i' n' e hx hi hu
      split at hc
      case h_2 => cases hc
      rename_i b esz hb hn
      cases b with
      | false =>
        dsimp only at hc
        split at hc
        case h_2 => cases hc
        rename_i h1'
        have h1' := Nat.eq_of_beq_eq_true h1'
        subst h1'
        cases hc
        change (opdK tm x' fun v => opdK tm i' fun u => _) = some r at h0
        obtain ⟨v, h1, hv⟩ := opdK_ok hT hx h0
        obtain ⟨u, h2, hi2⟩ := opdK_ok hT hi h1
        obtain ⟨j, n, h3, en⟩ := natK_ok h2 hi2
        obtain ⟨cs, ec, h4⟩ := aggK_ok h3
        subst ec
        obtain ⟨xs, hxs, ex⟩ := hv
        split at h4
        · rename_i hlt
          rw [Nat.ble_eq] at hlt
          split at h4
          · rename_i z hz
            obtain ⟨q, g1, g2⟩ := pu_part (P := P) hxs hb hz
            exact ⟨_, h4, Still.next ⟨q, fun w => by rw [ex, en, run_index t e n' n j _ hu hlt hn, Nat.mul_one]; exact g1 w, g2⟩⟩
          · cases h4
        · cases h4
      | true =>
        cases hc
        change (opdK tm x' fun v => opdK tm i' fun u => _) = some r at h0
        obtain ⟨v, h1, hv⟩ := opdK_ok hT hx h0
        obtain ⟨u, h2, hi2⟩ := opdK_ok hT hi h1
        obtain ⟨j, n, h3, en⟩ := natK_ok h2 hi2
        obtain ⟨cs, ec, h4⟩ := aggK_ok h3
        subst ec
        obtain ⟨xs, hxs, ex⟩ := hv
        split at h4
        · rename_i hlt
          rw [Nat.ble_eq] at hlt
          rw [dropK_eq] at h4
          split at h4
          · rw [takeK_eq] at h4
            split at h4
            · obtain ⟨q, g1, g2⟩ := pu_partN (P := P) (off := n * esz) hxs hb hn
              exact ⟨_, h4, Still.next ⟨q, fun w => by rw [ex, en, run_index t e n' n j _ hu hlt hn]; exact g1 w, g2⟩⟩
            · cases h4
          · cases h4
        · cases h4
    · rename_i x' i' hx hi hu
      cases hc
      change (opdK tm x' fun v => opdK tm i' fun u => _) = some r at h0
      obtain ⟨v, h1, hv⟩ := opdK_ok hT hx h0
      obtain ⟨u, h2, hi2⟩ := opdK_ok hT hi h1
      obtain ⟨j, n, h3, en⟩ := natK_ok h2 hi2
      obtain ⟨bs, s, h4, hs, ev⟩ := strK_ok h3 hv
      split at h4
      · rename_i z hz; exact ⟨_, h4, Still.next (pu_indexStr hu hs ev en hz)⟩
      · cases h4
    · cases hc
  case lookup t x i ok =>
    split at hc
    case h_2 => cases hc
    rename_i x' i' key elem hx hi hu
    split at hc
    case h_2 => cases hc
    rename_i ks z hk hz hz'
    cases hc
    cases hpu
  case mapUpdate t m x v =>
    split at hc
    case h_2 => cases hc
    rename_i m' x' v' key elem hm hx hv hu
    simp only [Option.map_eq_some_iff] at hc
    obtain ⟨ks, hk, rfl⟩ := hc
    cases hpu
  case extract x n =>
    simp only [Option.map_eq_some_iff] at hc
    obtain ⟨y, hy, rfl⟩ := hc
    change (opdK tm y fun v => _) = some r at h0
    obtain ⟨v, h1, hv⟩ := opdK_ok hT hy h0
    cases v with
    | leaf _ => cases h1
    | agg _ => cases h1
    | tup vs =>
      dsimp only at h1
      split at h1
      · rename_i z hz
        rw [nth_eq] at hz
        obtain ⟨xs, hxs, ex⟩ := hv
        obtain ⟨u, hu, hr⟩ := hxs.get hz
        exact ⟨_, h1, Still.next (.st (x := u) (by rw [ex]; simp [Instr.extract, hu]) (V1.rel_av.2 hr))⟩
      · cases h1
  case call c =>
    split at hc
    case h_2 => cases hc
    rename_i b hb
    obtain ⟨q, h1, x, h2, h3⟩ := pu_builtin hρ hT hc hpu h0 type
    refine ⟨_, h1, x, ?_, h3⟩
    simp only [execOp, resolve, hb]
    cases b <;> simp only [compBuiltin] at hc <;> try (cases hc; done)
    all_goals (simp only [builtinV] at h2; simp [invoke, builtin, h2])

end

end Go.Ev
