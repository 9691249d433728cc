/- Generic part S: the operations that look at the world and leave it as it is. (Printed by mksees.py.) -/
import Derived.Test.YtgkjbkkbjlhafaaGreatEvR
namespace Go.Ev

def CO.looks : CO → Bool
  | .load1 _ | .loadN _ _ | .lookup _ _ _ _ _ | .lenmap _ | .sliceA _ _ _ _ _ => true
  | _ => false

section
variable {Ω : Type} {P : Program} {Γ : Box} {μ : Emb} {ρ : Nat → Int} {M : Mem} {w : World}

def Sees (P : Program) (μ : Emb) (ρ : Nat → Int) (w : World) (s : Sem Value) (v : AV) : Prop := ∃ x, s.run P w = .ok x w ∧ v.rel μ ρ x
def SeesX (P : Program) (μ : Emb) (ρ : Nat → Int) (w : World) (a : Act) (o : Oper) (v : AV) : Prop := ∃ x, (execOp a.eval o).run P w = .ok (.value x) w ∧ v.rel μ ρ x

theorem Sees.st {s : Sem Value} {v : AV} {x : Value} (h : s.run P w = .ok x w) (hr : v.rel μ ρ x) : Sees P μ ρ w s v := ⟨x, h, hr⟩
theorem Sees.next {s : Sem Value} {v : AV} (h : Sees P μ ρ w s v) : ∃ x, (do pure (.value (← s)) : Sem Next).run P w = .ok (.value x) w ∧ v.rel μ ρ x := by
  obtain ⟨x, h1, h2⟩ := h
  exact ⟨x, by simp [h1], h2⟩

theorem se_load1 (hM : MR μ ρ M w) {t : TypeId} (ht : tagg P t = some false) {v : Value} {b : Pos} {off : Nat} {m : Loc} (hm : μ b = some m) (hv : v = .pointer (some ⟨m.blk, m.base + off, none⟩))
    {cs : List LV} (hb : M.blks.get b = some (.cells cs)) {x : LV} (hx : nth off cs = some x) : Sees P μ ρ w (Instr.loadAt t v) (.leaf x) := by
  subst hv
  rw [nth_eq] at hx
  obtain ⟨y, hy, hr⟩ := hM.cell hb hm hx
  exact .st (x := y) (by simp [Instr.loadAt, Instr.sureAddr, loadVar, run_agg ht, hy]) hr

theorem se_loadN (hM : MR μ ρ M w) {t : TypeId} {n : Nat} (ht : tagg P t = some true) (hn : tsize P t = some n) {v : Value} {b : Pos} {off : Nat} {m : Loc} (hm : μ b = some m) (hv : v = .pointer (some ⟨m.blk, m.base + off, none⟩))
    {cs : List LV} (hb : M.blks.get b = some (.cells cs)) (hle : off + n ≤ cs.length) : Sees P μ ρ w (Instr.loadAt t v) (.agg ((cs.drop off).take n)) := by
  subst hv
  obtain ⟨xs, h1, h2, _⟩ := hM.cells hb hm off n hle P
  exact .st (x := .agg xs.toArray) (by simp [Instr.loadAt, Instr.sureAddr, loadVar, run_agg ht, run_size hn, h1]) ⟨xs, h2, rfl⟩

theorem se_lookup (hρ : Γ.has ρ) (hM : MR μ ρ M w) {t key elem : TypeId} {ks : Bool} {z : V1} (ht : P.underlying t = some (.map key elem)) (hk : keyKind P key = some ks) (hz : zeroV1 P elem = some z) (hz' : zeroOk P elem = true)
    {b : Pos} {m : Loc} (hm : μ b = some m) {es : List (V1 × V1)} (hb : M.blks.get b = some (.map es)) {x : V1} {u v : Value} (hu : u = .map (some m.blk)) (hv : x.rel μ ρ v) {f : Option (Nat × V1)} (hf : findE Γ ks x es 0 = some f) (ok : Bool) :
    Sees P μ ρ w (Instr.lookup t u v ok) (match f with | some iv => (match ok with | true => .tup [iv.2, .leaf (.bool true)] | false => iv.2.av) | none => (match ok with | true => .tup [z, .leaf (.bool false)] | false => z.av)) := by
  subst hu
  obtain ⟨entries, clock, h1, hst, h2⟩ := hM.blk b _ m hb hm
  obtain ⟨d, hd, hdd⟩ := keyKind_desc hk
  obtain ⟨zv, hzv, hzr⟩ := run_zeroV1 (μ := μ) (ρ := ρ) hz hz' w
  rcases findE_ok hρ hdd hv h2 hf with ⟨rfl, g⟩ | ⟨n, y, x', rfl, g, g3, _⟩
  · refine .st (x := if ok then .tuple #[zv, .bool false] else zv) ?_ ?_
    · cases ok <;> simp [Instr.lookup, run_underlying ht, run_getMap h1, run_checkKey hk, run_findKey hd g, hzv]
    · cases ok
      · exact V1.rel_av.2 hzr
      · exact ⟨_, .cons hzr (.cons rfl .nil), rfl⟩
  · refine .st (x := if ok then .tuple #[x'.val, .bool true] else x'.val) ?_ ?_
    · cases ok <;> simp [Instr.lookup, run_underlying ht, run_getMap h1, run_checkKey hk, run_findKey hd g]
    · cases ok
      · exact V1.rel_av.2 g3
      · exact ⟨_, .cons g3 (.cons rfl .nil), rfl⟩

theorem se_lookupNil (hM : MR μ ρ M w) {t key elem : TypeId} {ks : Bool} {z : V1} (ht : P.underlying t = some (.map key elem)) (hk : keyKind P key = some ks) (hz : zeroV1 P elem = some z) (hz' : zeroOk P elem = true)
    {u v : Value} (hu : u = .map none) (ok : Bool) : Sees P μ ρ w (Instr.lookup t u v ok) (match ok with | true => .tup [z, .leaf (.bool false)] | false => z.av) := by
  subst hu
  obtain ⟨d, hd, hdd⟩ := keyKind_desc hk
  obtain ⟨zv, hzv, hzr⟩ := run_zeroV1 (μ := μ) (ρ := ρ) hz hz' w
  refine .st (x := if ok then .tuple #[zv, .bool false] else zv) ?_ ?_
  · have g : Instr.findNow d v [] 0 = some none := rfl
    cases ok <;> simp [Instr.lookup, run_underlying ht, run_checkKey hk, run_findKey hd g, hzv]
  · cases ok
    · exact V1.rel_av.2 hzr
    · exact ⟨_, .cons hzr (.cons rfl .nil), rfl⟩

theorem se_lenmap (hM : MR μ ρ M w) {t ty key elem : TypeId} (ht : P.underlying t = some (.map key elem)) {b : Pos} {m : Loc} (hm : μ b = some m) {es : List (V1 × V1)} (hb : M.blks.get b = some (.map es)) {u : Value} (hu : u = .map (some m.blk)) (hs : fits .i64 (Int.ofNat es.length) = true) :
    Sees P μ ρ w (Builtin.len_ #[t] ty #[u]) (.leaf (.int .i64 (.lit (Int.ofNat es.length)))) := by
  subst hu
  obtain ⟨entries, clock, h1, hst, h2⟩ := hM.blk b _ m hb hm
  have hlen := h2.length
  simp only [Array.length_toList] at hlen
  exact .st (x := goInt entries.size) (by simp [Builtin.len_, run_underlying ht, run_getMap h1]) ⟨_, rfl, hs, by rw [hlen]; rfl⟩

theorem se_sliceA (hM : MR μ ρ M w) {t e : TypeId} {n esz : Nat} (ht : P.underlying t = some (.array n e)) (hs : tsize P e = some esz) {b : Pos} {off : Nat} {m : Loc} (hm : μ b = some m) {u : Value} (hu : u = .pointer (some ⟨m.blk, m.base + off, none⟩)) {cs : List LV}
    (hb : M.blks.get b = some (.cells cs)) (hle : off + n * esz ≤ cs.length) {lo hi : Option Nat} {vlo vhi : Option Value} (hlo : BoundIs lo vlo) (hhi : BoundIs hi vhi) (h1 : lo.getD 0 ≤ hi.getD n) (h2 : hi.getD n ≤ n) :
    Sees P μ ρ w (Instr.sliceAt t u vlo vhi none) (.leaf (.slice b (off + lo.getD 0 * esz) (hi.getD n - lo.getD 0) esz (some (n - lo.getD 0)))) := by
  subst hu
  obtain ⟨ca, _, _, _, _, hlen, _, _⟩ := hM.blk b _ m hb hm
  refine .st ?_ (slice_rel (ρ := ρ) (c := n) hm (by omega) (a := ⟨m.blk, m.base + off, none⟩) (fun _ => rfl) h1 h2 (Nat.le_refl n) (fun x hx => by cases hx; rfl) fun e => by cases e)
  simp [Instr.sliceAt, run_underlying ht, Instr.sureAddr, run_bounds hlo hhi h1 h2, run_size hs]

theorem se_op (hρ : Γ.has ρ) (hM : MR μ ρ M w) {a : Act} {tm : T AV} (hT : TR μ ρ tm a.tmps) {o : Oper} {co : CO} (hc : compOp P o.op = some co) (hpu : co.looks = true) {k : Option AV → Mem → Option Ω} {r : Ω} (h0 : evOp Γ co tm M k = some r) :
    ∃ v, k (some v) M = some r ∧ SeesX P μ ρ w a o v := by
  obtain ⟨dst, op, type, pos, after, guard⟩ := o
  change compOp P op = some co at hc
  cases op <;> simp only [compOp] at hc <;> try (cases hc; done)
  case move x =>
    exfalso
    (repeat' (first | (cases hc; done) | (cases hc; cases hpu; done) | (simp only [Option.map_eq_some_iff] at hc; obtain ⟨_, _, hcr⟩ := hc; subst hcr; cases hpu; done) | split at hc | (unfold compBin at hc; split at hc)))
  case assign x =>
    exfalso
    (repeat' (first | (cases hc; done) | (cases hc; cases hpu; done) | (simp only [Option.map_eq_some_iff] at hc; obtain ⟨_, _, hcr⟩ := hc; subst hcr; cases hpu; done) | split at hc | (unfold compBin at hc; split at hc)))
  case pick c x y =>
    exfalso
    (repeat' (first | (cases hc; done) | (cases hc; cases hpu; done) | (simp only [Option.map_eq_some_iff] at hc; obtain ⟨_, _, hcr⟩ := hc; subst hcr; cases hpu; done) | split at hc | (unfold compBin at hc; split at hc)))
  case alloc e =>
    exfalso
    (repeat' (first | (cases hc; done) | (cases hc; cases hpu; done) | (simp only [Option.map_eq_some_iff] at hc; obtain ⟨_, _, hcr⟩ := hc; subst hcr; cases hpu; done) | split at hc | (unfold compBin at hc; split at hc)))
  case box e x =>
    exfalso
    (repeat' (first | (cases hc; done) | (cases hc; cases hpu; done) | (simp only [Option.map_eq_some_iff] at hc; obtain ⟨_, _, hcr⟩ := hc; subst hcr; cases hpu; done) | split at hc | (unfold compBin at hc; split at hc)))
  case build t parts =>
    exfalso
    (repeat' (first | (cases hc; done) | (cases hc; cases hpu; done) | (simp only [Option.map_eq_some_iff] at hc; obtain ⟨_, _, hcr⟩ := hc; subst hcr; cases hpu; done) | split at hc | (unfold compBin at hc; split at hc)))
  case buildSlice t len parts =>
    exfalso
    (repeat' (first | (cases hc; done) | (cases hc; cases hpu; done) | (simp only [Option.map_eq_some_iff] at hc; obtain ⟨_, _, hcr⟩ := hc; subst hcr; cases hpu; done) | split at hc | (unfold compBin at hc; split at hc)))
  case load t x =>
    split at hc
    case h_2 => cases hc
    rename_i y b n hy hb hn
    cases b with
    | false =>
      cases hc
      change (opdK tm y fun v => _) = some r at h0
      obtain ⟨v, h1, hv⟩ := opdK_ok hT hy h0
      obtain ⟨b, off, m, h2, hm, e⟩ := ptrK_ok h1 hv
      obtain ⟨cs, hcs, h3⟩ := blkK_ok h2
      split at h3
      · rename_i z hz; exact ⟨_, h3, Sees.next (se_load1 hM hb hm e hcs hz)⟩
      · cases h3
    | true =>
      cases hc
      change (opdK tm y fun v => _) = some r at h0
      obtain ⟨v, h1, hv⟩ := opdK_ok hT hy h0
      obtain ⟨b, off, m, h2, hm, e⟩ := ptrK_ok h1 hv
      obtain ⟨cs, hcs, h3⟩ := blkK_ok h2
      rw [dropK_eq] at h3
      split at h3
      · rw [takeK_eq] at h3
        split at h3
        · rename_i hl; simp at hl; exact ⟨_, h3, Sees.next (se_loadN hM hb hn hm e hcs (by omega))⟩
        · cases h3
      · cases h3
  case store t x y =>
    exfalso
    (repeat' (first | (cases hc; done) | (cases hc; cases hpu; done) | (simp only [Option.map_eq_some_iff] at hc; obtain ⟨_, _, hcr⟩ := hc; subst hcr; cases hpu; done) | split at hc | (unfold compBin at hc; split at hc)))
  case nilCheck x =>
    exfalso
    (repeat' (first | (cases hc; done) | (cases hc; cases hpu; done) | (simp only [Option.map_eq_some_iff] at hc; obtain ⟨_, _, hcr⟩ := hc; subst hcr; cases hpu; done) | split at hc | (unfold compBin at hc; split at hc)))
  case binOp op t x y yt =>
    exfalso
    (repeat' (first | (cases hc; done) | (cases hc; cases hpu; done) | (simp only [Option.map_eq_some_iff] at hc; obtain ⟨_, _, hcr⟩ := hc; subst hcr; cases hpu; done) | split at hc | (unfold compBin at hc; split at hc)))
  case unOp op t x =>
    exfalso
    cases op <;> (repeat' (first | (cases hc; done) | (cases hc; cases hpu; done) | (simp only [Option.map_eq_some_iff] at hc; obtain ⟨_, _, hcr⟩ := hc; subst hcr; cases hpu; done) | split at hc | (unfold compBin at hc; split at hc)))
  case convert s d x =>
    exfalso
    (repeat' (first | (cases hc; done) | (cases hc; cases hpu; done) | (simp only [Option.map_eq_some_iff] at hc; obtain ⟨_, _, hcr⟩ := hc; subst hcr; cases hpu; done) | split at hc | (unfold compBin at hc; split at hc)))
  case makeInterface t x =>
    exfalso
    (repeat' (first | (cases hc; done) | (cases hc; cases hpu; done) | (simp only [Option.map_eq_some_iff] at hc; obtain ⟨_, _, hcr⟩ := hc; subst hcr; cases hpu; done) | split at hc | (unfold compBin at hc; split at hc)))
  case makeFunc fn first captured =>
    exfalso
    (repeat' (first | (cases hc; done) | (cases hc; cases hpu; done) | (simp only [Option.map_eq_some_iff] at hc; obtain ⟨_, _, hcr⟩ := hc; subst hcr; cases hpu; done) | split at hc | (unfold compBin at hc; split at hc)))
  case makeMap t x =>
    exfalso
    (repeat' (first | (cases hc; done) | (cases hc; cases hpu; done) | (simp only [Option.map_eq_some_iff] at hc; obtain ⟨_, _, hcr⟩ := hc; subst hcr; cases hpu; done) | split at hc | (unfold compBin at hc; split at hc)))
  case slice t x lo hi mx =>
    split at hc
    case h_2 => cases hc
    rename_i x' lo' hi' mx' hx hlo hhi hmx
    split at hc
    · rename_i e hu
      simp only [Option.map_eq_some_iff] at hc
      obtain ⟨esz, hn, rfl⟩ := hc
      cases hpu
    · rename_i n e hu
      split at hc
      case h_2 => cases hc
      have hmxn : mx = none := by
        cases mx with
        | none => rfl
        | some q => simp only [copdO, Option.map_eq_some_iff] at hmx; obtain ⟨_, _, e⟩ := hmx; cases e
      subst hmxn
      simp only [Option.map_eq_some_iff] at hc
      obtain ⟨esz, hn, rfl⟩ := hc
      change (opdK tm x' fun v => optK tm lo' (opd := opdK) fun lo => optK tm hi' (opd := opdK) fun hi => _) = some r at h0
      obtain ⟨v, h1, hv⟩ := opdK_ok hT hx h0
      obtain ⟨l, h2, hl⟩ := optK_ok hT hlo h1
      obtain ⟨h, h3, hh⟩ := optK_ok hT hhi h2
      obtain ⟨b, off, m, h4, hm, ev⟩ := ptrK_ok h3 hv
      obtain ⟨cs, hb, h5⟩ := blkK_ok h4
      split at h5
      · rename_i hle
        rw [Nat.ble_eq] at hle
        obtain ⟨l', u', h6, e1, e2, e3, e4⟩ := boundsK_ok h5
        subst e3; subst e4
        rw [nK_eq, nK_eq, nK_eq] at h6
        exact ⟨_, h6, Sees.next (se_sliceA hM hu hn hm ev hb hle hl hh e1 e2)⟩
      · cases h5
    · rename_i hu
      split at hc
      case h_2 => cases hc
      have hmxn : mx = none := by
        cases mx with
        | none => rfl
        | some q => simp only [copdO, Option.map_eq_some_iff] at hmx; obtain ⟨_, _, e⟩ := hmx; cases e
      subst hmxn
      cases hc
      cases hpu
    · cases hc
  case fieldAddr s x f =>
    exfalso
    (repeat' (first | (cases hc; done) | (cases hc; cases hpu; done) | (simp only [Option.map_eq_some_iff] at hc; obtain ⟨_, _, hcr⟩ := hc; subst hcr; cases hpu; done) | split at hc | (unfold compBin at hc; split at hc)))
  case field t x f =>
    exfalso
    (repeat' (first | (cases hc; done) | (cases hc; cases hpu; done) | (simp only [Option.map_eq_some_iff] at hc; obtain ⟨_, _, hcr⟩ := hc; subst hcr; cases hpu; done) | split at hc | (unfold compBin at hc; split at hc)))
  case indexAddr t x i =>
    exfalso
    (repeat' (first | (cases hc; done) | (cases hc; cases hpu; done) | (simp only [Option.map_eq_some_iff] at hc; obtain ⟨_, _, hcr⟩ := hc; subst hcr; cases hpu; done) | split at hc | (unfold compBin at hc; split at hc)))
  case index t x i =>
    exfalso
    (repeat' (first | (cases hc; done) | (cases hc; cases hpu; done) | (simp only [Option.map_eq_some_iff] at hc; obtain ⟨_, _, hcr⟩ := hc; subst hcr; cases hpu; done) | split at hc | (unfold compBin at hc; split at hc)))
  case lookup t x i ok =>
    split at hc
    case h_2 => cases hc
    rename_i x' i' key elem hx hi hu
    split at hc
    case h_2 => cases hc
    rename_i ks z hk hz hz'
    cases hc
    change (opdK tm x' fun v => opdK tm i' fun u => _) = some r at h0
    obtain ⟨v, h1, hv⟩ := opdK_ok hT hx h0
    obtain ⟨u, h2, hi2⟩ := opdK_ok hT hi h1
    obtain ⟨key', h3, hkey⟩ := v1K_ok h2 hi2
    obtain ⟨l, e, h4⟩ := leafK_ok h3
    subst e
    cases l <;> try (cases h4; done)
    · rename_i b
      obtain ⟨m, hm, e⟩ := hv
      obtain ⟨es, hb, h5⟩ := mapBK_ok h4
      split at h5
      · rename_i f hf
        have := se_lookup (P := P) (w := w) hρ hM hu hk hz hz' hm hb e hkey hf ok
        split at h5
        · exact ⟨_, h5, Sees.next this⟩
        · exact ⟨_, h5, Sees.next this⟩
      · cases h5
    · exact ⟨_, h4, Sees.next (se_lookupNil hM hu hk hz hz' hv ok)⟩
  case mapUpdate t m x v =>
    exfalso
    (repeat' (first | (cases hc; done) | (cases hc; cases hpu; done) | (simp only [Option.map_eq_some_iff] at hc; obtain ⟨_, _, hcr⟩ := hc; subst hcr; cases hpu; done) | split at hc | (unfold compBin at hc; split at hc)))
  case extract x n =>
    exfalso
    (repeat' (first | (cases hc; done) | (cases hc; cases hpu; done) | (simp only [Option.map_eq_some_iff] at hc; obtain ⟨_, _, hcr⟩ := hc; subst hcr; cases hpu; done) | split at hc | (unfold compBin at hc; split at hc)))
  case call c =>
    split at hc
    case h_2 => cases hc
    rename_i b hb
    cases b <;> simp only [compBuiltin] at hc <;> try (cases hc; done)
    case len =>
      have hh : ∃ q, k (some q) M = some r ∧ Sees P μ ρ w (builtinV .len c.argTypes type (c.args.map a.eval)) q := by
        split at hc
        case h_2 => cases hc
        rename_i t x hts hxs
        rw [one_of hxs, onet_of hts]
        split at hc
        · cases hc; cases hpu
        · cases hc; cases hpu
        · rename_i key elem u hu hx
          cases hc
          change (opdK tm u fun u => _) = some r at h0
          obtain ⟨p, h1, hp⟩ := opdK_ok hT hx h0
          obtain ⟨l, e1, h2⟩ := leafK_ok h1
          subst e1
          cases l <;> try (cases h2; done)
          · rename_i b
            obtain ⟨m, hm, e⟩ := hp
            obtain ⟨es, hb, h3⟩ := mapBK_ok h2
            rw [nK_eq] at h3
            obtain ⟨h4, hf⟩ := lenOkK_ok h3
            exact ⟨_, h4, se_lenmap (ty := type) hM hu hm hb e hf⟩
          · rw [hp]
            exact ⟨_, h2, .st (x := goInt 0) (by simp [builtinV, Builtin.len_, run_underlying hu]) ⟨0, rfl, rfl, rfl⟩⟩
        · cases hc
      obtain ⟨q, h1, x, h2, h3⟩ := hh
      refine ⟨_, h1, x, ?_, h3⟩
      simp only [execOp, resolve, hb]
      simp only [builtinV] at h2
      simp [invoke, builtin, h2]
    all_goals
      repeat' (first | (cases hc; done) | (cases hc; cases hpu; done) | (simp only [Option.map_eq_some_iff] at hc; obtain ⟨_, _, hcr⟩ := hc; subst hcr; cases hpu; done) | split at hc)

end

end Go.Ev
