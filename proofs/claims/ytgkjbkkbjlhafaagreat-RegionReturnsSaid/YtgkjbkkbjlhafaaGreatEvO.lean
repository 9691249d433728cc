/- Generic part O: the operations, all of them. -/
import Derived.Test.YtgkjbkkbjlhafaaGreatEvN
namespace Go.Ev

section
variable {Ω : Type} {P : Program} {Γ : Box} {μ : Emb} {ρ : Nat → Int} {M : Mem} {w : World}

theorem Done.move {v : Value} {x : AV} (hM : MR μ ρ M w) (h : x.rel μ ρ v) : Done P μ ρ M w (pure (.value v)) (some x) M := ⟨_, w, μ, rfl, h, hM, .refl _ μ w⟩

theorem fill_size (place : Nat → Option (Nat × Nat)) : ∀ (l : List (Nat × Value)) (c c' : Array Value), Instr.fill place c l = some c' → c'.size = c.size
  | [], c, c', h => by simp only [Instr.fill, Option.some.injEq] at h; rw [h]
  | p :: l, c, c', h => by
    obtain ⟨i, v⟩ := p
    simp only [Instr.fill] at h
    split at h
    · cases h
    · rename_i off size _
      split at h
      · cases h
      · rename_i hn
        have := fill_size place l _ _ h
        rw [this]
        have hle : off + v.cells.size ≤ c.size := by simp at hn; omega
        have e := congrArg List.length (fill_list off v c hle)
        simp only [Array.length_toList] at e
        rw [e, length_over _ _ _ (by simpa using hle), Array.length_toList]

theorem copds_map {xs : Array Operand} {a : Act} : (xs.map a.eval).toList = xs.toList.map a.eval := by simp

theorem ok_op (hρ : Γ.has ρ) (hM : MR μ ρ M w) {a : Act} {tm : T AV} (hT : TR μ ρ tm a.tmps) {o : Oper} {co : CO} (hc : compOp P o.op = some co) {k : Option AV → Mem → Option Ω} {r : Ω} (h0 : evOp Γ co tm M k = some r) :
    ∃ v M', k v M' = some r ∧ Done P μ ρ M w (execOp a.eval o) v M' := by
  obtain ⟨dst, op, type, pos, after, guard⟩ := o
  change compOp P op = some co at hc
  cases op <;> simp only [compOp] at hc <;> try (cases hc; done)
  case move x =>
    simp only [Option.map_eq_some_iff] at hc
    obtain ⟨y, hy, rfl⟩ := hc
    obtain ⟨v, h1, hv⟩ := opdK_ok hT hy (k := fun v => k (some v) M) h0
    exact ⟨_, _, h1, .move hM hv⟩
  case assign x =>
    simp only [Option.map_eq_some_iff] at hc
    obtain ⟨y, hy, rfl⟩ := hc
    obtain ⟨v, h1, hv⟩ := opdK_ok hT hy (k := fun v => k (some v) M) h0
    exact ⟨_, _, h1, .move hM hv⟩
  case pick c x y =>
    split at hc
    case h_2 => cases hc
    rename_i c' x' y' hc' hx hy
    cases hc
    change (opdK tm c' fun v => _) = some r at h0
    obtain ⟨p, h1, hp⟩ := opdK_ok hT hc' h0
    obtain ⟨b, h2, e⟩ := boolK_ok h1 hp
    cases b with
    | true =>
      obtain ⟨v, h3, hv⟩ := opdK_ok hT hx (k := fun v => k (some v) M) h2
      exact ⟨_, _, h3, .value (a.eval x), w, μ, by simp [execOp, e, asBool], hv, hM, .refl _ μ w⟩
    | false =>
      obtain ⟨v, h3, hv⟩ := opdK_ok hT hy (k := fun v => k (some v) M) h2
      exact ⟨_, _, h3, .value (a.eval y), w, μ, by simp [execOp, e, asBool], hv, hM, .refl _ μ w⟩
  case alloc e =>
    simp only [Option.map_eq_some_iff] at hc
    obtain ⟨z, hz, rfl⟩ := hc
    change M.addK (.cells z) (fun M' => k (some (.leaf (.ptr M.next 0))) M') = some r at h0
    rw [Mem.addK_eq] at h0
    obtain ⟨zv, hzv, hzc, _⟩ := run_zero hz w
    obtain ⟨x, w', μ', g1, g2, g3, g4⟩ := ok_new (P := P) hM (v := zv) (clvs_ok hzc μ ρ) e
    exact ⟨_, _, h0, DoneV.done ⟨x, w', μ', by simpa [Instr.alloc, hzv] using g1, g2, g3, g4⟩⟩
  case box e x =>
    simp only [Option.map_eq_some_iff] at hc
    obtain ⟨y, hy, rfl⟩ := hc
    change (opdK tm y fun v => _) = some r at h0
    obtain ⟨v, h1, hv⟩ := opdK_ok hT hy h0
    obtain ⟨cs, h2, hcs⟩ := cellsK_ok h1 hv
    rw [Mem.addK_eq] at h2
    exact ⟨_, _, h2, DoneV.done (ok_new hM hcs e)⟩
  case build t parts =>
    split at hc
    case h_2 => cases hc
    rename_i z hz
    obtain ⟨zv, hzv, hzc, _⟩ := run_zero hz w
    have hzr := clvs_ok hzc μ ρ
    split at hc
    · rename_i fs hu
      split at hc
      case h_2 => cases hc
      rename_i hall
      simp only [Option.map_eq_some_iff] at hc
      obtain ⟨qs, hq, rfl⟩ := hc
      change (fillK tm qs z fun cs => k (some (.agg cs)) M) = some r at h0
      obtain ⟨z', c', h1, h2, h3⟩ := fillK_ok hT _ (cparts_ok hq) hzr h0
      refine ⟨_, _, h1, DoneV.done (.still hM (x := .agg c') ?_ ⟨c'.toList, h3, by simp⟩)⟩
      have hpl := run_places (P := P) (fs := fs) (fun f hf => List.all_eq_true.1 hall f hf) w
      have h2' : Instr.fill (fun i => (fs.map fun f => (f.offset, (tsize P f.type).getD 0))[i]?) zv.cells (parts.map fun p => (p.1, a.eval p.2)).toList = some c' := by simpa [fieldPlaces] using h2
      simp only [Instr.build, Sem.run_bind, hzv, Result.andThen_ok, run_underlying hu, hpl, h2']
      rfl
    · rename_i n e hu
      split at hc
      case h_2 => cases hc
      rename_i n' hn
      simp only [Option.map_eq_some_iff] at hc
      obtain ⟨qs, hq, rfl⟩ := hc
      change (fillK tm qs z fun cs => k (some (.agg cs)) M) = some r at h0
      obtain ⟨z', c', h1, h2, h3⟩ := fillK_ok hT _ (cparts_ok hq) hzr h0
      refine ⟨_, _, h1, DoneV.done (.still hM (x := .agg c') ?_ ⟨c'.toList, h3, by simp⟩)⟩
      have h2' : Instr.fill (fun i => some (i * n', n')) zv.cells (parts.map fun p => (p.1, a.eval p.2)).toList = some c' := by simpa using h2
      simp only [Instr.build, Sem.run_bind, hzv, Result.andThen_ok, run_underlying hu, run_size hn, h2']
      rfl
    · cases hc
  case buildSlice t len parts =>
    split at hc
    case h_2 => cases hc
    rename_i e hu
    split at hc
    case h_2 => cases hc
    rename_i z n hz hn
    split at hc
    case h_2 => cases hc
    rename_i hb
    rw [Bool.and_eq_true, Nat.ble_eq] at hb
    obtain ⟨hzl, hle⟩ := hb
    have hzl := Nat.eq_of_beq_eq_true hzl
    simp only [Option.map_eq_some_iff] at hc
    obtain ⟨qs, hq, rfl⟩ := hc
    obtain ⟨zv, hzv, hzc, _⟩ := run_zero hz w
    have hzr := clvs_ok hzc μ ρ
    have hsz : zv.cells.size = n := by have := hzr.length; simp at this; omega
    have hrep : All2 (LV.rel μ ρ) (List.flatten (List.replicate len z)) (Builtin.zeroCells zv.cells len).toList := by rw [zeroCells_list]; exact All2.reps hzr len
    change (fillK tm qs (List.flatten (List.replicate len z)) fun cs => M.addK (.cells cs) fun M' => k (some (.leaf (.slice M.next 0 len n (some len)))) M') = some r at h0
    obtain ⟨z', c', h1, h2, h3⟩ := fillK_ok hT _ (cparts_ok hq) hrep h0
    rw [Mem.addK_eq] at h1
    obtain ⟨g1, g2⟩ := hM.allocCells h3 c' e (fun i x hx => by simpa using hx) (by simp)
    have hc' : c'.size = len * n := by
      have := fill_size _ _ _ _ h2
      rw [this, size_zeroCells, hsz]
    refine ⟨_, _, h1, DoneV.done ⟨.slice (some ⟨w.heap.size, 0, none⟩) len len, _, _, ?_, ⟨_, ⟨w.heap.size, 0, none⟩, len, Emb.set_same .., ⟨by simp only; omega, fun e => by cases e⟩, Nat.le_refl _, (fun x hx => by cases hx; rfl), fun _ => rfl, rfl⟩, g1, g2⟩⟩
    have h2' : Instr.fill (fun i => some (i * n, n)) (Builtin.zeroCells zv.cells len) (parts.map fun p => (p.1, a.eval p.2)).toList = some c' := by simpa using h2
    have hnle : ¬ (2 ^ 24 < len * n) := by omega
    unfold Instr.buildSlice
    simp only [Sem.run_bind, run_underlying hu, Result.andThen_ok, run_size hn]
    rw [Sem.run_ite, if_neg hnle]
    by_cases h0 : len * n = 0
    · have e0 : (Array.range (len * n)).map (fun i => (#[] : Array Value)[i % (#[] : Array Value).size]!) = Builtin.zeroCells zv.cells len := by
        have : (Builtin.zeroCells zv.cells len).size = 0 := by rw [size_zeroCells, hsz]; exact h0
        rw [h0, Array.eq_empty_of_size_eq_zero this]; simp
      simp only [Sem.run_bind, Sem.run_ite, if_pos h0, Sem.run_pure, Result.andThen_ok]
      rw [e0, h2']
      simp [newRow]
    · simp only [Sem.run_bind, Sem.run_ite, if_neg h0, Sem.run_pure, Result.andThen_ok, hzv]
      have e0 : (Array.range (len * n)).map (fun i => zv.cells[i % zv.cells.size]!) = Builtin.zeroCells zv.cells len := by unfold Builtin.zeroCells; rw [hsz]
      rw [e0, h2']
      simp [newRow]
  case load t x =>
    split at hc
    case h_2 => cases hc
    rename_i y b n hy hb hn
    cases b with
    | false =>
      cases hc
      change (opdK tm y fun v => _) = some r at h0
      obtain ⟨v, h1, hv⟩ := opdK_ok hT hy h0
      obtain ⟨b, off, m, h2, hm, e⟩ := ptrK_ok h1 hv
      obtain ⟨cs, hcs, h3⟩ := blkK_ok h2
      split at h3
      · rename_i z hz; exact ⟨_, _, h3, DoneV.done (ok_load1 hM hb hm e hcs hz)⟩
      · cases h3
    | true =>
      cases hc
      change (opdK tm y fun v => _) = some r at h0
      obtain ⟨v, h1, hv⟩ := opdK_ok hT hy h0
      obtain ⟨b, off, m, h2, hm, e⟩ := ptrK_ok h1 hv
      obtain ⟨cs, hcs, h3⟩ := blkK_ok h2
      rw [dropK_eq] at h3
      split at h3
      · rw [takeK_eq] at h3
        split at h3
        · rename_i hl; simp at hl; exact ⟨_, _, h3, DoneV.done (ok_loadN hM hb hn hm e hcs (by omega))⟩
        · cases h3
      · cases h3
  case store t x y =>
    split at hc
    case h_2 => cases hc
    rename_i x' y' b n hx hy hb hn
    cases b with
    | false =>
      dsimp only at hc
      split at hc
      case h_2 => cases hc
      rename_i hn1
      have hn1 := Nat.eq_of_beq_eq_true hn1
      subst hn1
      cases hc
      change (opdK tm x' fun v => _) = some r at h0
      obtain ⟨v, h1, hv⟩ := opdK_ok hT hx h0
      obtain ⟨b, off, m, h2, hm, e⟩ := ptrK_ok h1 hv
      obtain ⟨cs, hcs, h3⟩ := blkK_ok h2
      obtain ⟨u, h4, hu⟩ := opdK_ok hT hy h3
      obtain ⟨z, ez, h5⟩ := leafK_ok h4
      subst ez
      rw [setK_eq] at h5
      split at h5
      · rename_i hlt
        rw [Mem.putK_eq, ← over_one _ _ _ hlt] at h5
        have hone := LV.rel_one hu
        have hcell : (a.eval y).cells = #[a.eval y] := by cases hh : a.eval y <;> first | rfl | (rw [hh] at hone; simp [Value.oneCell'] at hone)
        exact ⟨_, _, h5, DoneU.done (ok_store hM hn hm e hcs (by rw [hcell]; exact .cons hu .nil) rfl (by omega))⟩
      · cases h5
    | true =>
      cases hc
      change (opdK tm x' fun v => _) = some r at h0
      obtain ⟨v, h1, hv⟩ := opdK_ok hT hx h0
      obtain ⟨b, off, m, h2, hm, e⟩ := ptrK_ok h1 hv
      obtain ⟨cs, hcs, h3⟩ := blkK_ok h2
      obtain ⟨u, h4, hu⟩ := opdK_ok hT hy h3
      obtain ⟨zs, ez, h5⟩ := aggK_ok h4
      subst ez
      split at h5
      · rename_i hl
        have hl := Nat.eq_of_beq_eq_true hl
        rw [overK_eq] at h5
        split at h5
        · rename_i hle
          rw [Mem.putK_eq] at h5
          obtain ⟨xs, hxs, exs⟩ := hu
          exact ⟨_, _, h5, DoneU.done (ok_store hM hn hm e hcs (by rw [exs]; simpa [Value.cells] using hxs) hl (by omega))⟩
        · cases h5
      · cases h5
  case nilCheck x =>
    simp only [Option.map_eq_some_iff] at hc
    obtain ⟨y, hy, rfl⟩ := hc
    change (opdK tm y fun v => leafK v fun u => _) = some r at h0
    obtain ⟨v, h1, hv⟩ := opdK_ok hT hy h0
    obtain ⟨u, eu, h2⟩ := leafK_ok h1
    subst eu
    split at h2
    · rename_i t ht
      split at h2
      · refine ⟨_, _, h2, .value (a.eval x), w, μ, ?_, hv, hM, .refl _ μ w⟩
        cases u <;> simp only [isNil] at ht <;> try (cases ht; done)
        · obtain ⟨m, _, e⟩ := hv; simp [execOp, e]
        · obtain ⟨m, ad, c, _, _, _, _, _, e⟩ := hv; simp [execOp, e]
        · obtain ⟨m, _, e⟩ := hv; simp [execOp, e]
        · obtain ⟨m, _, e⟩ := hv; simp [execOp, e]
        · obtain ⟨m, _, e⟩ := hv; simp [execOp, e]
      · cases h2
    · cases h2
  case binOp op t x y yt =>
    obtain ⟨v, M', h1, h2⟩ := ok_bin hρ hM hc hT h0
    exact ⟨_, _, h1, DoneV.done h2⟩
  case unOp op t x =>
    cases op <;> simp only [Option.map_eq_some_iff] at hc <;> try (cases hc; done)
    · obtain ⟨y, hy, rfl⟩ := hc
      change (opdK tm y fun u => _) = some r at h0
      obtain ⟨v, h1, hv⟩ := opdK_ok hT hy h0
      obtain ⟨j, i, e, h2⟩ := intK_ok h1
      subst e
      split at h2
      · rename_i s hs; rw [siK_eq] at h2; exact ⟨_, _, h2, DoneV.done (ok_neg hρ hM hv hs)⟩
      · cases h2
    · obtain ⟨y, hy, rfl⟩ := hc
      change (opdK tm y fun u => _) = some r at h0
      obtain ⟨v, h1, hv⟩ := opdK_ok hT hy h0
      obtain ⟨j, i, e, h2⟩ := intK_ok h1
      subst e
      split at h2
      · rename_i s hs; rw [siK_eq] at h2; exact ⟨_, _, h2, DoneV.done (ok_inv hρ hM hv hs)⟩
      · cases h2
    · obtain ⟨y, hy, rfl⟩ := hc
      change (opdK tm y fun u => _) = some r at h0
      obtain ⟨v, h1, hv⟩ := opdK_ok hT hy h0
      obtain ⟨l, e, h2⟩ := leafK_ok h1
      subst e
      cases l <;> try (cases h2; done)
      · dsimp only at h2; rw [bK_eq] at h2; exact ⟨_, _, h2, DoneV.done (ok_not hM hv)⟩
      · exact ⟨_, _, h2, DoneV.done (ok_notTop hM hv)⟩
  case convert s d x =>
    split at hc
    case h_2 => cases hc
    rename_i k' j hs hd
    simp only [Option.map_eq_some_iff] at hc
    obtain ⟨y, hy, rfl⟩ := hc
    change (opdK tm y fun u => intK u fun _ a => _) = some r at h0
    obtain ⟨v, h1, hv⟩ := opdK_ok hT hy h0
    obtain ⟨j', i, e, h2⟩ := intK_ok h1
    subst e
    have key : k (some (.leaf (.int j (convSI Γ j i)))) M = some r := by
      cases i with
      | lit n => exact (siK_eq (SI.lit (wrapF j n)) fun s => k (some (.leaf (.int j s))) M) ▸ h2
      | lin c ts => exact (siK_eq (tidy Γ j c ts) fun s => k (some (.leaf (.int j s))) M) ▸ h2
      | rng l hh =>
        dsimp only at h2
        split at h2
        · rename_i s hs'
          rw [siK_eq] at h2
          have e : some (convSI Γ j (.rng l hh)) = some s := by
            rw [← hs']; simp only [convSI]
            cases (fits j l && fits j hh) <;> rfl
          cases e
          exact h2
        · cases h2
    exact ⟨_, _, key, DoneV.done (ok_conv hρ hM hv (by rw [hs]; rfl) hd)⟩
  case makeInterface t x =>
    split at hc
    case h_2 => cases hc
    rename_i ht
    simp only [Option.map_eq_some_iff] at hc
    obtain ⟨y, hy, rfl⟩ := hc
    change (opdK tm y fun u => _) = some r at h0
    obtain ⟨v, h1, hv⟩ := opdK_ok hT hy h0
    obtain ⟨l, e, h2⟩ := leafK_ok h1
    subst e
    exact ⟨_, _, h2, DoneV.done (ok_iface hM ht hv)⟩
  case makeFunc fn first captured =>
    split at hc
    case h_2 => cases hc
    rename_i f
    split at hc
    case h_2 => cases hc
    rename_i hf
    have hf := Nat.eq_of_beq_eq_true hf
    simp only [Option.map_eq_some_iff] at hc
    obtain ⟨ys, hy, rfl⟩ := hc
    change (opdsK tm ys fun vs => evOp.ptrsK vs fun cs => k (some (.leaf (.func f cs))) M) = some r at h0
    obtain ⟨vs, h1, hvs⟩ := opdsK_ok hT hy h0
    obtain ⟨cs, h2, hcs⟩ := ptrsK_ok hvs h1
    refine ⟨_, _, h2, DoneV.done (.still hM (x := .func (.func f) #[] (captured.toList.map a.eval).toArray) ?_ ⟨_, hcs, rfl⟩)⟩
    have : first = #[] := Array.eq_empty_of_size_eq_zero hf
    subst this
    have e : Array.map a.eval captured = (captured.toList.map a.eval).toArray := by rw [← Array.toList_map, Array.toArray_toList]
    simp [Instr.makeFunc, e]
  case makeMap t x =>
    cases x with
    | some _ => cases hc
    | none =>
      cases hc
      change M.addK (.map []) (fun M' => k (some (.leaf (.map M.next))) M') = some r at h0
      rw [Mem.addK_eq] at h0
      exact ⟨_, _, h0, DoneV.done (ok_mkmap hM t)⟩
  case slice t x lo hi mx =>
    split at hc
    case h_2 => cases hc
    rename_i x' lo' hi' mx' hx hlo hhi hmx
    split at hc
    · rename_i e hu
      simp only [Option.map_eq_some_iff] at hc
      obtain ⟨esz, hn, rfl⟩ := hc
      change (opdK tm x' fun v => optK tm lo' (opd := opdK) fun lo => optK tm hi' (opd := opdK) fun hi => optK tm mx' (opd := opdK) fun mx => _) = some r at h0
      obtain ⟨v, h1, hv⟩ := opdK_ok hT hx h0
      obtain ⟨l, h2, hl⟩ := optK_ok hT hlo h1
      obtain ⟨h, h3, hh⟩ := optK_ok hT hhi h2
      obtain ⟨m, h4, hm⟩ := optK_ok hT hmx h3
      rcases sliceK_ok h4 hv with ⟨ev, h5⟩ | ⟨b, off, len, esz', cap, h5, hv2⟩
      · cases m with
        | some _ => cases h5
        | none =>
          cases mx with
          | some _ => exact hm.elim
          | none =>
            obtain ⟨_, _, h6, e1, e2, e3, e4⟩ := boundsK_ok h5
            refine ⟨_, _, h6, DoneV.done ?_⟩
            rw [ev]
            exact ok_sliceNil hM hu hn hl hh (by omega) (by omega)
      · split at h5
        · cases h5
        · rename_i hee
          have hee := Nat.eq_of_beq_eq_true hee
          subst hee
          cases m with
          | none =>
            cases mx with
            | some _ => exact hm.elim
            | none =>
              obtain ⟨l', u', h6, e1, e2, e3, e4⟩ := boundsK_ok h5
              subst e3; subst e4
              have := ok_slice (P := P) (w := w) hM hu hn hv2 hl hh e1 e2
              rw [nK_eq, nK_eq] at h6
              cases cap with
              | none => exact ⟨_, _, h6, DoneV.done this⟩
              | some c => dsimp only at h6; rw [nK_eq] at h6; exact ⟨_, _, h6, DoneV.done this⟩
          | some m =>
            cases mx with
            | none => exact hm.elim
            | some mx =>
              cases h with
              | none => cases h5
              | some h =>
                cases hi with
                | none => exact hh.elim
                | some hi =>
                  dsimp only at h5
                  split at h5
                  · rename_i hb
                    rw [Bool.and_eq_true, Nat.ble_eq, Nat.ble_eq] at hb
                    obtain ⟨l', u', h6, e1, e2, e3, e4⟩ := boundsK_ok h5
                    subst e3
                    simp only [Option.getD_some] at e4
                    subst e4
                    rw [nK_eq, nK_eq, nK_eq] at h6
                    obtain ⟨jh, eh⟩ := hh
                    obtain ⟨jm, em⟩ := hm
                    exact ⟨_, _, h6, DoneV.done (ok_slice3 hM hu hn hv2 hl eh em e1 hb.1 hb.2)⟩
                  · cases h5
    · rename_i n e hu
      split at hc
      case h_2 => cases hc
      have hmxn : mx = none := by
        cases mx with
        | none => rfl
        | some q => simp only [copdO, Option.map_eq_some_iff] at hmx; obtain ⟨_, _, e⟩ := hmx; cases e
      subst hmxn
      simp only [Option.map_eq_some_iff] at hc
      obtain ⟨esz, hn, rfl⟩ := hc
      change (opdK tm x' fun v => optK tm lo' (opd := opdK) fun lo => optK tm hi' (opd := opdK) fun hi => _) = some r at h0
      obtain ⟨v, h1, hv⟩ := opdK_ok hT hx h0
      obtain ⟨l, h2, hl⟩ := optK_ok hT hlo h1
      obtain ⟨h, h3, hh⟩ := optK_ok hT hhi h2
      obtain ⟨b, off, m, h4, hm, ev⟩ := ptrK_ok h3 hv
      obtain ⟨cs, hb, h5⟩ := blkK_ok h4
      split at h5
      · rename_i hle
        rw [Nat.ble_eq] at hle
        obtain ⟨l', u', h6, e1, e2, e3, e4⟩ := boundsK_ok h5
        subst e3; subst e4
        rw [nK_eq, nK_eq, nK_eq] at h6
        exact ⟨_, _, h6, DoneV.done (ok_sliceA hM hu hn hm ev hb hle hl hh e1 e2)⟩
      · cases h5
    · rename_i hu
      split at hc
      case h_2 => cases hc
      have hmxn : mx = none := by
        cases mx with
        | none => rfl
        | some q => simp only [copdO, Option.map_eq_some_iff] at hmx; obtain ⟨_, _, e⟩ := hmx; cases e
      subst hmxn
      cases hc
      change (opdK tm x' fun v => optK tm lo' (opd := opdK) fun lo => optK tm hi' (opd := opdK) fun hi => _) = some r at h0
      obtain ⟨v, h1, hv⟩ := opdK_ok hT hx h0
      obtain ⟨l, h2, hl⟩ := optK_ok hT hlo h1
      obtain ⟨h, h3, hh⟩ := optK_ok hT hhi h2
      obtain ⟨bs, s, h4, hs, ev⟩ := strK_ok h3 hv
      obtain ⟨l', u', h6, e1, e2, e3, e4⟩ := boundsK_ok h4
      subst e3; subst e4
      rw [dropK_eq] at h6
      split at h6
      · rw [takeK_eq] at h6
        split at h6
        · exact ⟨_, _, h6, DoneV.done (ok_sliceStr hM hu hs ev hl hh e1 e2)⟩
        · cases h6
      · cases h6
    · cases hc
  case fieldAddr s x f =>
    split at hc
    case h_2 => cases hc
    rename_i y fs hy hs
    split at hc
    case h_2 => cases hc
    rename_i fl hf
    split at hc
    case h_2 => cases hc
    rename_i n hn
    split at hc
    · cases hc
    · rename_i hz
      cases hc
      change (opdK tm y fun v => _) = some r at h0
      obtain ⟨v, h1, hv⟩ := opdK_ok hT hy h0
      obtain ⟨b, o, m, h2, hm, e⟩ := ptrK_ok h1 hv
      rw [nK_eq] at h2
      exact ⟨_, _, h2, DoneV.done (ok_fieldA hM hs hf hn (fun e => by subst e; simp at hz) hm e)⟩
  case field t x f =>
    split at hc
    case h_2 => cases hc
    rename_i y fs hy hs
    split at hc
    case h_2 => cases hc
    rename_i fl hf
    split at hc
    case h_2 => cases hc
    rename_i b n hb hn
    cases b with
    | false =>
      cases hc
      change (opdK tm y fun v => _) = some r at h0
      obtain ⟨v, h1, hv⟩ := opdK_ok hT hy h0
      obtain ⟨cs, e, h2⟩ := aggK_ok h1
      subst e
      obtain ⟨xs, hxs, ex⟩ := hv
      split at h2
      · rename_i z hz
        obtain ⟨q, w', μ', g1, g2, g3, g4⟩ := ok_part (P := P) (w := w) hM hxs hb hz
        exact ⟨_, _, h2, DoneV.done ⟨q, w', μ', by rw [ex]; simpa [Instr.field, run_underlying hs, hf, asAgg] using g1, g2, g3, g4⟩⟩
      · cases h2
    | true =>
      cases hc
      change (opdK tm y fun v => _) = some r at h0
      obtain ⟨v, h1, hv⟩ := opdK_ok hT hy h0
      obtain ⟨cs, e, h2⟩ := aggK_ok h1
      subst e
      obtain ⟨xs, hxs, ex⟩ := hv
      rw [dropK_eq] at h2
      split at h2
      · rw [takeK_eq] at h2
        split at h2
        · obtain ⟨q, w', μ', g1, g2, g3, g4⟩ := ok_partN (P := P) (w := w) (off := fl.offset) hM hxs hb hn
          exact ⟨_, _, h2, DoneV.done ⟨q, w', μ', by rw [ex]; simpa [Instr.field, run_underlying hs, hf, asAgg] using g1, g2, g3, g4⟩⟩
        · cases h2
      · cases h2
  case indexAddr t x i =>
    split at hc
    · rename_i x' i' e hx hi hu
      simp only [Option.map_eq_some_iff] at hc
      obtain ⟨esz, hn, rfl⟩ := hc
      change (opdK tm x' fun v => opdK tm i' fun u => _) = some r at h0
      obtain ⟨v, h1, hv⟩ := opdK_ok hT hx h0
      obtain ⟨u, h2, hi2⟩ := opdK_ok hT hi h1
      obtain ⟨j, n, h3, en⟩ := natK_ok h2 hi2
      rcases sliceK_ok h3 hv with ⟨_, h4⟩ | ⟨b, off, len, esz', cap, h4, hv2⟩
      · cases h4
      · split at h4
        · rename_i hb
          rw [Bool.and_eq_true, Nat.ble_eq] at hb
          have hee := Nat.eq_of_beq_eq_true hb.2
          subst hee
          rw [nK_eq] at h4
          exact ⟨_, _, h4, DoneV.done (ok_idxS hM hu hn hv2 en hb.1)⟩
        · cases h4
    · rename_i x' i' n' e hx hi hu
      simp only [Option.map_eq_some_iff] at hc
      obtain ⟨esz, hn, rfl⟩ := hc
      change (opdK tm x' fun v => opdK tm i' fun u => _) = some r at h0
      obtain ⟨v, h1, hv⟩ := opdK_ok hT hx h0
      obtain ⟨u, h2, hi2⟩ := opdK_ok hT hi h1
      obtain ⟨j, n, h3, en⟩ := natK_ok h2 hi2
      obtain ⟨b, off, m, h4, hm, ev⟩ := ptrK_ok h3 hv
      split at h4
      · rename_i hb
        rw [Nat.ble_eq] at hb
        rw [nK_eq] at h4
        exact ⟨_, _, h4, DoneV.done (ok_idxA hM hu hn hm ev en hb)⟩
      · cases h4
    · cases hc
  case index t x i =>
    split at hc
    · rename_i x' i' n' e hx hi hu
      split at hc
      case h_2 => cases hc
      rename_i b esz hb hn
      cases b with
      | false =>
        dsimp only at hc
        split at hc
        case h_2 => cases hc
        rename_i h1'
        have h1' := Nat.eq_of_beq_eq_true h1'
        subst h1'
        cases hc
        change (opdK tm x' fun v => opdK tm i' fun u => _) = some r at h0
        obtain ⟨v, h1, hv⟩ := opdK_ok hT hx h0
        obtain ⟨u, h2, hi2⟩ := opdK_ok hT hi h1
        obtain ⟨j, n, h3, en⟩ := natK_ok h2 hi2
        obtain ⟨cs, ec, h4⟩ := aggK_ok h3
        subst ec
        obtain ⟨xs, hxs, ex⟩ := hv
        split at h4
        · rename_i hlt
          rw [Nat.ble_eq] at hlt
          split at h4
          · rename_i z hz
            obtain ⟨q, w', μ', g1, g2, g3, g4⟩ := ok_part (P := P) (w := w) hM hxs hb hz
            exact ⟨_, _, h4, DoneV.done ⟨q, w', μ', by rw [ex, en, run_index t e n' n j _ hu hlt hn, Nat.mul_one]; exact g1, g2, g3, g4⟩⟩
          · cases h4
        · cases h4
      | true =>
        cases hc
        change (opdK tm x' fun v => opdK tm i' fun u => _) = some r at h0
        obtain ⟨v, h1, hv⟩ := opdK_ok hT hx h0
        obtain ⟨u, h2, hi2⟩ := opdK_ok hT hi h1
        obtain ⟨j, n, h3, en⟩ := natK_ok h2 hi2
        obtain ⟨cs, ec, h4⟩ := aggK_ok h3
        subst ec
        obtain ⟨xs, hxs, ex⟩ := hv
        split at h4
        · rename_i hlt
          rw [Nat.ble_eq] at hlt
          rw [dropK_eq] at h4
          split at h4
          · rw [takeK_eq] at h4
            split at h4
            · obtain ⟨q, w', μ', g1, g2, g3, g4⟩ := ok_partN (P := P) (w := w) (off := n * esz) hM hxs hb hn
              exact ⟨_, _, h4, DoneV.done ⟨q, w', μ', by rw [ex, en, run_index t e n' n j _ hu hlt hn]; exact g1, g2, g3, g4⟩⟩
            · cases h4
          · cases h4
        · cases h4
    · rename_i x' i' hx hi hu
      cases hc
      change (opdK tm x' fun v => opdK tm i' fun u => _) = some r at h0
      obtain ⟨v, h1, hv⟩ := opdK_ok hT hx h0
      obtain ⟨u, h2, hi2⟩ := opdK_ok hT hi h1
      obtain ⟨j, n, h3, en⟩ := natK_ok h2 hi2
      obtain ⟨bs, s, h4, hs, ev⟩ := strK_ok h3 hv
      split at h4
      · rename_i z hz; exact ⟨_, _, h4, DoneV.done (ok_indexStr hM hu hs ev en hz)⟩
      · cases h4
    · cases hc
  case lookup t x i ok =>
    split at hc
    case h_2 => cases hc
    rename_i x' i' key elem hx hi hu
    split at hc
    case h_2 => cases hc
    rename_i ks z hk hz hz'
    cases hc
    change (opdK tm x' fun v => opdK tm i' fun u => _) = some r at h0
    obtain ⟨v, h1, hv⟩ := opdK_ok hT hx h0
    obtain ⟨u, h2, hi2⟩ := opdK_ok hT hi h1
    obtain ⟨key', h3, hkey⟩ := v1K_ok h2 hi2
    obtain ⟨l, e, h4⟩ := leafK_ok h3
    subst e
    cases l <;> try (cases h4; done)
    · rename_i b
      obtain ⟨m, hm, e⟩ := hv
      obtain ⟨es, hb, h5⟩ := mapBK_ok h4
      split at h5
      · rename_i f hf
        have := ok_lookup (P := P) (w := w) hρ hM hu hk hz hz' hm hb e hkey hf ok
        split at h5
        · exact ⟨_, _, h5, DoneV.done this⟩
        · exact ⟨_, _, h5, DoneV.done this⟩
      · cases h5
    · exact ⟨_, _, h4, DoneV.done (ok_lookupNil hM hu hk hz hz' hv ok)⟩
  case mapUpdate t m x v =>
    split at hc
    case h_2 => cases hc
    rename_i m' x' v' key elem hm hx hv hu
    simp only [Option.map_eq_some_iff] at hc
    obtain ⟨ks, hk, rfl⟩ := hc
    change (opdK tm m' fun m => opdK tm x' fun u => opdK tm v' fun v => _) = some r at h0
    obtain ⟨p, h1, hp⟩ := opdK_ok hT hm h0
    obtain ⟨q, h2, hq⟩ := opdK_ok hT hx h1
    obtain ⟨s, h3, hs⟩ := opdK_ok hT hv h2
    obtain ⟨key', h4, hkey⟩ := v1K_ok h3 hq
    obtain ⟨val', h5, hval⟩ := v1K_ok h4 hs
    obtain ⟨l, e, h6⟩ := leafK_ok h5
    subst e
    cases l <;> try (cases h6; done)
    rename_i b
    obtain ⟨mm, hmm, e⟩ := hp
    obtain ⟨es, hb, h7⟩ := mapBK_ok h6
    split at h7
    · rename_i f hf
      have := ok_mapup (P := P) (w := w) hρ hM hu hk hmm hb e hkey hval hf
      split at h7
      · rename_i iv
        rw [nK_eq, setK_eq] at h7
        split at h7
        · rw [Mem.putK_eq] at h7; exact ⟨_, _, h7, DoneU.done this⟩
        · cases h7
      · rw [appK_eq, Mem.putK_eq] at h7
        exact ⟨_, _, h7, DoneU.done this⟩
    · cases h7
  case extract x n =>
    simp only [Option.map_eq_some_iff] at hc
    obtain ⟨y, hy, rfl⟩ := hc
    change (opdK tm y fun v => _) = some r at h0
    obtain ⟨v, h1, hv⟩ := opdK_ok hT hy h0
    cases v with
    | leaf _ => cases h1
    | agg _ => cases h1
    | tup vs =>
      dsimp only at h1
      split at h1
      · rename_i z hz
        rw [nth_eq] at hz
        obtain ⟨xs, hxs, ex⟩ := hv
        obtain ⟨u, hu, hr⟩ := hxs.get hz
        exact ⟨_, _, h1, DoneV.done (.still hM (x := u) (by rw [ex]; simp [Instr.extract, hu]) (V1.rel_av.2 hr))⟩
      · cases h1
  case call c =>
    split at hc
    case h_2 => cases hc
    rename_i b hb
    obtain ⟨q, M', h1, x, w', μ', h2, h3, h4, h5⟩ := ok_builtin hρ hM hT hc h0 type
    refine ⟨_, _, h1, .value x, w', μ', ?_, h3, h4, h5⟩
    simp only [execOp, resolve, hb]
    cases b <;> simp only [compBuiltin] at hc <;> try (cases hc; done)
    all_goals (simp only [builtinV] at h2; simp [invoke, builtin, h2])

end

end Go.Ev
