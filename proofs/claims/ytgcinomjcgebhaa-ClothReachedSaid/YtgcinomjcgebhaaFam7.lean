import Derived.Test.YtgcinomjcgebhaaFamM
set_option linter.all false
namespace Go.Fam
section
variable {P : Program} {F : Fence} {n : Nat}

/-- the operands stand for their abstract values -/
def OdsOk (P : Program) (S : Nat → Prop) (w : World) (O : OInfo) (ρ : Od → V) (ev : Operand → Value) (o : Oper) : Prop :=
  ∀ x ∈ o.op.operands, ∀ t od, rOd P t x = some od → Rep S w O (ρ od) (ev x)

theorem rOds_rep {S : Nat → Prop} {w : World} {O : OInfo} {ρ : Od → V} {ev : Operand → Value} : ∀ (xs : List Operand) (ts : List TypeId) (ods : List Od), rOds P xs ts = some ods →
    (∀ x ∈ xs, ∀ t od, rOd P t x = some od → Rep S w O (ρ od) (ev x)) → RepL S w O (ods.map ρ) (xs.map ev) ∧ ods.length = xs.length
  | [], ts, ods, h, _ => by simp [rOds] at h; subst h; simp [RepL]
  | x :: xs, [], ods, h, hr => by
    simp only [rOds, Option.bind_eq_bind, Option.bind_eq_some_iff, Option.pure_def, Option.some.injEq] at h
    obtain ⟨od, h1, ods', h2, rfl⟩ := h
    have := rOds_rep xs [] ods' h2 fun x hx => hr x (by simp [hx])
    simp only [List.map_cons, RepL, List.length_cons]
    exact ⟨⟨hr x (by simp) _ _ h1, this.1⟩, by omega⟩
  | x :: xs, t :: ts, ods, h, hr => by
    simp only [rOds, Option.bind_eq_bind, Option.bind_eq_some_iff, Option.pure_def, Option.some.injEq] at h
    obtain ⟨od, h1, ods', h2, rfl⟩ := h
    have := rOds_rep xs ts ods' h2 fun x hx => hr x (by simp [hx])
    simp only [List.map_cons, RepL, List.length_cons]
    exact ⟨⟨hr x (by simp) _ _ h1, this.1⟩, by omega⟩

theorem rParts_rep {S : Nat → Prop} {w : World} {O : OInfo} {ρ : Od → V} {ev : Operand → Value} {place : Nat → Option (Nat × Nat × TypeId)} : ∀ (ps : List (Nat × Operand)) (ods : List (Nat × Nat × Od)), rParts P place ps = some ods →
    (∀ x ∈ ps.map (·.2), ∀ t od, rOd P t x = some od → Rep S w O (ρ od) (ev x)) →
    Parts S w O (fun i => (place i).map fun x => (x.1, x.2.1)) (ods.map fun p => (p.1, p.2.1, ρ p.2.2)) (ps.map fun p => (p.1, ev p.2))
  | [], ods, h, _ => by simp [rParts] at h; subst h; exact .nil
  | (i, x) :: ps, ods, h, hr => by
    simp only [rParts, Option.bind_eq_bind, Option.bind_eq_some_iff, Option.pure_def, Option.some.injEq] at h
    obtain ⟨⟨off, sz, t⟩, h1, od, h2, ods', h3, rfl⟩ := h
    have := rParts_rep ps ods' h3 fun x hx => hr x (by simp at hx ⊢; exact .inr hx)
    exact .cons (by simp [h1]) (hr x (by simp) _ _ h2) this

theorem Parts.mapTo {S S' : Nat → Prop} {w : World} {O O' : OInfo} {place : Nat → Option (Nat × Nat)} (f : V → V) (hf : ∀ v c, Rep S w O v c → Rep S' w O' (f v) c) {vs : List (Nat × Nat × V)} {ps : List (Nat × Value)}
    (h : Parts S w O place vs ps) : Parts S' w O' place (vs.map fun p => (p.1, p.2.1, f p.2.2)) ps := by
  induction h with
  | nil => exact .nil
  | cons hp hr _ ih => exact .cons hp (hf _ _ hr) ih

theorem Parts.noref {S : Nat → Prop} {w : World} {O : OInfo} {hp : List Blk} {place : Nat → Option (Nat × Nat)} {vs : List (Nat × Nat × V)} {ps : List (Nat × Value)}
    (h : Parts S w O place vs ps) (hn : hasRefL (vs.map (·.2.2)) = false) : Parts S w noO place (vs.map fun p => (p.1, p.2.1, vw hp 8 p.2.2)) ps := by
  induction h with
  | nil => exact .nil
  | cons hp' hr _ ih =>
    simp only [List.map_cons, hasRefL, Bool.or_eq_false_iff] at hn
    exact .cons hp' (vw_noref 8 _ _ hn.1 (noref_rep _ _ hn.1 hr)) (ih hn.2)

theorem und_of_isAggB {t : TypeId} (h : isAggB P t = true) : ∃ d, P.underlying t = some d := by
  unfold isAggB at h
  cases hu : P.underlying t with
  | none => simp [hu] at h
  | some d => exact ⟨d, rfl⟩

theorem fieldsB_und {t : TypeId} {fs : Array Field} (h : fieldsB P t = some fs) : P.underlying t = some (.struct fs) := by
  unfold fieldsB at h
  split at h
  · rename_i fs' hu; cases h; exact hu
  · cases h

theorem elB_und {t e : TypeId} (h : elB P t = some e) : P.underlying t = some (.slice e) := by
  unfold elB at h
  split at h
  · rename_i e' hu; cases h; exact hu
  · cases h

theorem isI64_und {t : TypeId} (h : isI64 P t = true) : P.underlying t = some (.int .i64) := by
  unfold isI64 at h
  split at h
  · assumption
  · cases h

theorem curG_some {hp : List Blk} {id g : Nat} (h : curG hp id g = true) : ∃ vs, hp[id]? = some (.cells g vs) := by
  unfold curG at h
  split at h
  · rename_i g' vs hid; exact ⟨vs, by simpa [beq_iff_eq.1 h] using hid⟩
  · cases h

/-- ONE QUIET OPERATION -/
theorem q_sound {Γ : Gam} (hG : GOk P Γ) (hF : OpenF F) {pu : Bool} {o : Oper} {q : Q} (hr : resQ P pu o = some q) {S : Nat → Prop} {w : World} {O : OInfo} {hp : List Blk} (hm : Mat S w O hp)
    {a : Act} {ρ : Od → V} (hρ : OdsOk P S w O ρ a.eval o) (hok : (qv Γ (EqFlat P) hp q ρ).1) {K : Act → World → Prop} {Q' : Exit → Act → World → Prop}
    (hK : ∀ c S' w', Evol S S' w w' O O → Mat S' w' O hp → Rep S' w' O (qv Γ (EqFlat P) hp q ρ).2 c → K (a.put o.dst c) w') : o.wpIn F n P a w K Q' := by
  have val : ∀ c, (∀ d, o.op ≠ .defer d) → (execOp a.eval o).run P w = .ok (.value c) w → Rep S w O (qv Γ (EqFlat P) hp q ρ).2 c → o.wpIn F n P a w K Q' :=
    fun c hd hrun hv => wpIn_value hF hd hrun (hK c S w (Evol.refl S w O) hm hv)
  unfold resQ at hr
  unfold OdsOk at hρ
  cases hop : o.op <;> rw [hop] at hr hρ <;> simp only [Op.operands, List.mem_toArray, List.mem_cons, List.not_mem_nil, or_false, forall_eq_or_imp, forall_eq] at hρ <;>
    first | (simp at hr; done) | (try dsimp only at hr)
  case move x =>
    simp only [Option.map_eq_some_iff] at hr
    obtain ⟨od, h1, rfl⟩ := hr
    exact val (a.eval x) (by simp [hop]) (by simp [execOp, hop]) (by simpa [qv] using hρ _ _ h1)
  case assign x =>
    simp only [Option.map_eq_some_iff] at hr
    obtain ⟨od, h1, rfl⟩ := hr
    exact val (a.eval x) (by simp [hop]) (by simp [execOp, hop]) (by simpa [qv] using hρ _ _ h1)
  case pick c x y =>
    simp only [Option.bind_eq_bind, Option.bind_eq_some_iff, Option.pure_def, Option.some.injEq] at hr
    obtain ⟨c', hc, x', hx, y', hy, rfl⟩ := hr
    have r1 := hρ.1 _ _ hc
    have r2 := hρ.2.1 _ _ hx
    have r3 := hρ.2.2 _ _ hy
    simp only [qv] at hok
    split at hok
    · rename_i p hp'
      rw [hp'] at r1
      rcases pickV_val hok with ⟨p1, hp1, rfl, hv⟩ | ⟨p1, hp1, rfl, hv⟩
      · rw [hp1] at r2
        refine val (.bool p1) (by simp [hop]) ?_ (by simp only [qv, hp', hv, Rep])
        simp only [execOp, hop, rep_b r1, rep_b r2]
        simp [asBool]
      · rw [hp1] at r3
        refine val (.bool p1) (by simp [hop]) ?_ (by simp only [qv, hp', hv, Rep])
        simp only [execOp, hop, rep_b r1, rep_b r3]
        simp [asBool]
    · exact hok.elim
  case load t x =>
    simp only [Option.bind_eq_bind, Option.bind_eq_some_iff, Option.pure_def, Option.some.injEq] at hr
    obtain ⟨k, hk, x', hx, rfl⟩ := hr
    obtain ⟨c, hrun, hrep⟩ := ld_run hk hm (hρ _ _ hx) hok
    exact val c (by simp [hop]) (by simp [execOp, hop, hrun]) hrep
  case fieldAddr t x i =>
    simp only [Option.bind_eq_bind, Option.bind_eq_some_iff, Option.pure_def] at hr
    obtain ⟨fs, hfs, f, hf, hr⟩ := hr
    have hu := fieldsB_und hfs
    split at hr
    · simp at hr
    · rename_i hsz
      simp only [Option.bind_eq_some_iff, Option.some.injEq] at hr
      obtain ⟨x', hx, rfl⟩ := hr
      obtain ⟨s, hs⟩ : ∃ s, szB P f.type = some s := by
        cases h : szB P f.type with
        | none => simp [h] at hsz
        | some s => exact ⟨s, rfl⟩
      have h0 : s ≠ 0 := by intro h; subst h; simp [hs] at hsz
      have r1 := hρ _ _ hx
      simp only [qv] at hok
      split at hok
      · rename_i cs hcs
        rw [hcs] at r1
        simp only [Rep] at r1
        obtain ⟨blk, off, cur, e, fr, hc, hS, hh, hrl⟩ := r1
        refine val _ (by simp [hop]) (by simp [execOp, hop, hc, fad_run hu hf hs h0]; rfl) ?_
        simp only [qv, hcs, Rep]
        refine ⟨blk, off + f.offset, cur, e, fr, rfl, hS, hh, ?_⟩
        have := hrl.drop f.offset
        rwa [List.drop_drop] at this
      · rename_i id g o' hcs
        rw [hcs] at r1
        simp only [Rep] at r1
        obtain ⟨h1, gO, ob, hO, hg, hrr⟩ := r1
        obtain ⟨vs, hid⟩ := curG_some hok
        have hb := hm.blk id gO ob hO
        rw [hid] at hb
        simp only [BlkOk] at hb
        obtain ⟨b, hob, hc⟩ := hrr hb.1
        refine val _ (by simp [hop]) (by simp [execOp, hop, hc, fad_run hu hf hs h0]; rfl) ?_
        simp only [qv, hcs, Rep]
        exact ⟨rfl, gO, ob, hO, hg, fun _ => ⟨b, hob, rfl⟩⟩
      · exact hok.elim
  case field t x i =>
    simp only [Option.bind_eq_bind, Option.bind_eq_some_iff, Option.pure_def, Option.some.injEq] at hr
    obtain ⟨fs, hfs, f, hf, k, hk, x', hx, rfl⟩ := hr
    have hu := fieldsB_und hfs
    have r1 := hρ _ _ hx
    simp only [qv] at hok
    split at hok
    · rename_i cs hcs
      rw [hcs] at r1
      obtain ⟨c, hrun, hrep⟩ := fld_run hu hf hk r1 hok
      exact val c (by simp [hop]) (by simp [execOp, hop, hrun]) (by simpa only [qv, hcs] using hrep)
    · exact hok.elim
  case indexAddr t x i =>
    simp only [Option.bind_eq_bind, Option.bind_eq_some_iff, Option.pure_def, Option.some.injEq] at hr
    obtain ⟨es, hes, x', hx, i', hi, rfl⟩ := hr
    obtain ⟨c, hrun, hrep⟩ := iad_run hes hm (hρ.1 _ _ hx) (hρ.2 _ _ hi) hok
    exact val c (by simp [hop]) (by simp [execOp, hop, hrun]) hrep
  case extract x k =>
    simp only [Option.bind_eq_bind, Option.bind_eq_some_iff, Option.pure_def, Option.some.injEq] at hr
    obtain ⟨x', hx, rfl⟩ := hr
    have r1 := hρ _ _ hx
    simp only [qv] at hok
    split at hok
    · rename_i cs hcs
      rw [hcs] at r1
      simp only [Rep] at r1
      obtain ⟨ccs, hc, hn, hrl⟩ := r1
      obtain ⟨c, hc1, hc2⟩ := RepL.get _ _ k _ hrl (List.getElem?_eq_getElem hok)
      have hc1' : ccs[k]? = some c := by simpa using hc1
      refine val c (by simp [hop]) (by simp [execOp, hop, hc, Instr.extract, hc1']) ?_
      simp only [qv, hcs, List.getElem?_eq_getElem hok, Option.getD_some]
      exact hc2
    · exact hok.elim
  case nilCheck x =>
    simp only [Option.bind_eq_bind, Option.bind_eq_some_iff, Option.pure_def, Option.some.injEq] at hr
    obtain ⟨x', hx, rfl⟩ := hr
    have r1 := hρ _ _ hx
    simp only [qv] at hok
    split at hok
    · rename_i cs hcs
      rw [hcs] at r1
      have r1' := r1
      simp only [Rep] at r1'
      obtain ⟨blk, off, cur, e, fr, hc, _⟩ := r1'
      exact val (a.eval x) (by simp [hop]) (by simp [execOp, hop, hc]) (by simpa only [qv, hcs] using r1)
    · rename_i id g o' hcs
      rw [hcs] at r1
      have r1' := r1
      simp only [Rep] at r1'
      obtain ⟨_, gO, ob, hO, hle, hrr⟩ := r1'
      obtain ⟨vs, hid⟩ := curG_some hok
      have hb := hm.blk id gO ob hO
      rw [hid] at hb
      simp only [BlkOk] at hb
      obtain ⟨b, _, hc⟩ := hrr hb.1
      exact val (a.eval x) (by simp [hop]) (by simp [execOp, hop, hc]) (by simpa only [qv, hcs] using r1)
    · exact hok.elim
  case convert s d x =>
    split at hr
    · rename_i hsd
      simp only [Bool.and_eq_true] at hsd
      simp only [Option.bind_eq_bind, Option.bind_eq_some_iff, Option.pure_def, Option.some.injEq] at hr
      obtain ⟨x', hx, rfl⟩ := hr
      have r1 := hρ _ _ hx
      simp only [qv] at hok
      split at hok
      · rename_i k hk
        rw [hk] at r1
        have hc := rep_i r1
        have h1 := isI64_und hsd.1
        have h2 := isI64_und hsd.2
        have hin : inI k := by simpa only [qv, hk] using hok
        refine val (.int .i64 k) (by simp [hop]) (by simp [execOp, hop, hc, convert, run_underlying h1, run_underlying h2, Conv.intToInt, wrap_in hin]) (by simp [qv, hk, Rep])
      · exact hok.elim
    · cases hr
  case unOp op t x =>
    cases op <;> first | (simp at hr; done) | skip
    case not =>
      simp only [Option.map_eq_some_iff] at hr
      obtain ⟨x', hx, rfl⟩ := hr
      have r1 := hρ _ _ hx
      simp only [qv] at hok
      split at hok
      · rename_i p hp'
        rw [hp'] at r1
        exact val (.bool !p) (by simp [hop]) (by simp [execOp, hop, rep_b r1, Op.unary]) (by simp [qv, hp', Rep])
      · exact hok.elim
    case neg =>
      simp only [Option.map_eq_some_iff] at hr
      obtain ⟨x', hx, rfl⟩ := hr
      have r1 := hρ _ _ hx
      simp only [qv] at hok
      split at hok
      · rename_i p hp'
        rw [hp'] at r1
        have hz : IntKind.i64.wrap (0 - p) = -p := by rw [Int.zero_sub]; exact wrap_in hok
        exact val (.int .i64 (-p)) (by simp [hop]) (by simp only [execOp, hop, rep_i r1, Op.unary, Op.intArith, hz]; simp) (by simp [qv, hp', Rep])
      · exact hok.elim
  case binOp op t x y yt =>
    split at hr
    · rename_i hag
      have eqc : ∀ (ng : Bool), op = (if ng then .neq else .eql) → (∃ x' y', rOd P t x = some x' ∧ rOd P t y = some y' ∧ q = .eqs ng t x' y') → o.wpIn F n P a w K Q' := by
        rintro ng hopq ⟨x', y', hx, hy, rfl⟩
        have r1 := hρ.1 _ _ hx
        have r2 := hρ.2 _ _ hy
        simp only [qv] at hok
        split at hok
        · rename_i xs ys hxs hys
          rw [hxs] at r1
          rw [hys] at r2
          split at hok
          · rename_i m k hm' hk'
            have hrun := eqs_run (P := P) hopq hm' hk' hok.1 hok.2 r1 r2 (X := x) (Y := y)
            exact val (.bool (ng ^^ decide (m = k))) (by simp [hop]) (by simp only [execOp, hop, Sem.run_bind, Sem.run_pure]; simp only [Sem.run_bind] at hrun; rw [hrun]; rfl) (by simp only [qv, hxs, hys, hm', hk', Rep])
          · exact hok.elim
        · exact hok.elim
      split at hr
      · simp only [Option.bind_eq_bind, Option.bind_eq_some_iff, Option.pure_def, Option.some.injEq] at hr
        obtain ⟨x', hx, y', hy, rfl⟩ := hr
        exact eqc false rfl ⟨x', y', hx, hy, rfl⟩
      · simp only [Option.bind_eq_bind, Option.bind_eq_some_iff, Option.pure_def, Option.some.injEq] at hr
        obtain ⟨x', hx, y', hy, rfl⟩ := hr
        exact eqc true rfl ⟨x', y', hx, hy, rfl⟩
      · cases hr
    · split at hr
      · rename_i hbl
        have eqc : ∀ (ng : Bool), op = (if ng then .neq else .eql) → (∃ x' y', rOd P t x = some x' ∧ rOd P t y = some y' ∧ q = .bq ng x' y') → o.wpIn F n P a w K Q' := by
          rintro ng hopq ⟨x', y', hx, hy, rfl⟩
          have r1 := hρ.1 _ _ hx
          have r2 := hρ.2 _ _ hy
          simp only [qv] at hok
          split at hok
          · rename_i xs ys hxs hys
            rw [hxs] at r1
            rw [hys] at r2
            have hrun := bq_run (P := P) (w := w) hopq hbl (p := xs) (q := ys) (X := x) (Y := y)
            refine val (.bool (ng ^^ (xs == ys))) (by simp [hop]) ?_ (by simp only [qv, hxs, hys, Rep])
            simp only [execOp, hop, Sem.run_bind, Sem.run_pure, rep_b r1, rep_b r2]; simp only [Sem.run_bind] at hrun; rw [hrun]; rfl
          · exact hok.elim
        split at hr
        · simp only [Option.bind_eq_bind, Option.bind_eq_some_iff, Option.pure_def, Option.some.injEq] at hr
          obtain ⟨x', hx, y', hy, rfl⟩ := hr
          exact eqc false rfl ⟨x', y', hx, hy, rfl⟩
        · simp only [Option.bind_eq_bind, Option.bind_eq_some_iff, Option.pure_def, Option.some.injEq] at hr
          obtain ⟨x', hx, y', hy, rfl⟩ := hr
          exact eqc true rfl ⟨x', y', hx, hy, rfl⟩
        · cases hr
      · simp only [Option.bind_eq_bind, Option.bind_eq_some_iff, Option.pure_def, Option.some.injEq] at hr
        obtain ⟨x', hx, y', hy, rfl⟩ := hr
        obtain ⟨c, hrun, hrep⟩ := bin_run (t := t) (X := x) (Y := y) (hρ.1 _ _ hx) (hρ.2 _ _ hy) hok
        exact val c (by simp [hop]) (by simp only [execOp, hop, Sem.run_bind, Sem.run_pure]; simp only [Sem.run_bind] at hrun; rw [hrun]; rfl) hrep
  case makeFunc f first caps =>
    cases f <;> first | (simp at hr; done) | skip
    case func f =>
    dsimp only at hr
    split at hr
    · rename_i hz
      simp only [Option.bind_eq_bind, Option.bind_eq_some_iff, Option.pure_def, Option.some.injEq] at hr
      obtain ⟨ods, hods, rfl⟩ := hr
      have hfirst : first = #[] := Array.size_eq_zero_iff.1 hz
      subst hfirst
      have := rOds_rep _ _ _ hods (fun x hx => hρ x (by simpa using hx))
      refine val (.func (.func f) #[] (caps.map a.eval)) (by simp [hop]) (by simp [execOp, hop, Instr.makeFunc]) ?_
      simp only [qv, Rep]
      exact ⟨_, rfl, by simp [this.2], by simpa using this.1⟩
    · cases hr
  case slice t x lo hi mx =>
    cases mx <;> first | (simp at hr; done) | skip
    case none =>
    dsimp only at hr
    simp only [Option.bind_eq_bind, Option.bind_eq_some_iff, Option.pure_def, Option.some.injEq] at hr
    obtain ⟨es, hes, x', hx, lo', hlo, hi', hhi, rfl⟩ := hr
    have hmem : ∀ y, y ∈ #[x] ++ lo.toArray ++ hi.toArray ++ (none : Option Operand).toArray → ∀ t od, rOd P t y = some od → Rep S w O (ρ od) (a.eval y) := by simpa using hρ
    have rx := hmem x (by simp) _ _ hx
    have opt : ∀ (z : Option Operand) (z' : Option Od), (∀ y, z = some y → ∀ t od, rOd P t y = some od → Rep S w O (ρ od) (a.eval y)) → rOpt P 0 z = some z' →
        (∀ v, z'.map ρ = some v → ∃ c, z.map a.eval = some c ∧ Rep S w O v c) ∧ (z'.map ρ = none → z.map a.eval = none) := by
      intro z z' hz hzz
      cases z with
      | none => simp [rOpt] at hzz; subst hzz; simp
      | some y =>
        simp only [rOpt, Option.map_eq_some_iff] at hzz
        obtain ⟨od, h1, rfl⟩ := hzz
        simpa using hz y rfl _ _ h1
    obtain ⟨l1, l2⟩ := opt lo lo' (fun y hy => hmem y (by subst hy; simp)) hlo
    obtain ⟨h1, h2⟩ := opt hi hi' (fun y hy => hmem y (by subst hy; simp)) hhi
    obtain ⟨c, hrun, hrep⟩ := slc_run hes rx l1 l2 h1 h2 hok
    exact val c (by simp [hop]) (by simp [execOp, hop, hrun]) hrep
  case build t ps =>
    simp only [Option.bind_eq_bind, Option.bind_eq_some_iff] at hr
    obtain ⟨fs, hfs, hr⟩ := hr
    split at hr
    · rename_i hzz
      simp only [Bool.and_eq_true] at hzz
      simp only [Option.bind_eq_some_iff, Option.pure_def, Option.some.injEq] at hr
      obtain ⟨ods, hods, rfl⟩ := hr
      have hp := rParts_rep ps.toList ods hods (fun x hx => hρ x (by simpa using hx))
      simp only [qv] at hok hK val ⊢
      obtain ⟨c, hrun, hrep⟩ := bld_run (P := P) (fieldsB_und hfs) hzz.1 hzz.2 (ps := ps.map fun p => (p.1, a.eval p.2)) (by simpa using hp) hok
      exact val c (by simp [hop]) (by simp [execOp, hop, hrun]) hrep
    · cases hr
  case box t x =>
    split at hr
    · simp only [Option.bind_eq_bind, Option.bind_eq_some_iff, Option.pure_def, Option.some.injEq] at hr
      obtain ⟨x', hx, rfl⟩ := hr
      simp only [qv] at hok hK
      have r1 := hρ _ _ hx
      have r2 := vw_noref (hp := hp) 8 _ _ hok.1 (noref_rep _ _ hok.1 r1)
      obtain ⟨c1, c2, _⟩ := cells_rep r2 hok.2
      obtain ⟨hev, hmat⟩ := evol_alloc hm (a.eval x).cells t
      refine wpIn_value (w' := w.alloc (.cells (a.eval x).cells t)) (c := .pointer (some ⟨w.heap.size, 0, none⟩)) hF (by simp [hop]) (by simp [execOp, hop, Instr.box, newVar, newRow]) (hK _ _ _ hev hmat ?_)
      simp only [Rep]
      refine ⟨w.heap.size, 0, (a.eval x).cells, t, (0, 0), rfl, .inr rfl, heap_alloc_new w _, ?_⟩
      exact RepL.ext (S := S) (w := w) (O := noO) (O' := noO) ⟨fun k hk => ⟨.inl hk, heap_alloc_old w _ (hm.lt k hk)⟩, fun _ _ _ h => by cases h⟩ _ _ (by simpa using c1)
    · cases hr
  case buildSlice t k ps =>
    split at hr
    · simp only [Option.bind_eq_bind, Option.bind_eq_some_iff] at hr
      obtain ⟨e, he, es, hes, hr⟩ := hr
      split at hr
      · rename_i hc
        simp only [Option.bind_eq_some_iff, Option.pure_def, Option.some.injEq] at hr
        obtain ⟨ods, hods, rfl⟩ := hr
        have hpp := rParts_rep ps.toList ods hods (fun x hx => hρ x (by simpa using hx))
        simp only [qv] at hok hK
        obtain ⟨⟨hnr, _⟩, hok1, hok2⟩ := hok
        have hp2 := Parts.noref (hp := hp) hpp (by simpa [List.map_map, Function.comp_def] using hnr)
        simp only [Option.map_some, List.map_map, Function.comp_def] at hp2
        obtain ⟨cells, hrun, hc1, hc2, hc3, hc4⟩ := bsl_run (P := P) (k := k) (elB_und he) hes hc.1 hc.2.1 hc.2.2 (ps := ps.map fun p => (p.1, a.eval p.2)) (by simpa using hp2) hok1 hok2
        obtain ⟨hev, hmat⟩ := evol_alloc hm cells e
        refine wpIn_value (w' := w.alloc (.cells cells e)) (c := .slice (some ⟨w.heap.size, 0, none⟩) k k) hF (by simp [hop]) (by simp [execOp, hop, hrun]) (hK _ _ _ hev hmat ?_)
        simp only [Rep]
        refine ⟨_, k, by rw [chunk_length], by rw [chunk_length]; exact Nat.le_refl _, .inr ⟨w.heap.size, 0, cells, e, (0, 0), rfl, .inr rfl, heap_alloc_new w _, ?_⟩⟩
        refine RepRows.ext (S := S) (w := w) (O := noO) (O' := noO) ⟨fun j hj => ⟨.inl hj, heap_alloc_old w _ (hm.lt j hj)⟩, fun _ _ _ h => by cases h⟩ es _ _ ?_
        exact chunk_rows k 0 _ (by simpa using hc2) (by simpa using hc4) (by simpa using Nat.le_of_eq hc3.symm)
      · cases hr
    · cases hr
  case lookup t x k cok =>
    simp only [Option.bind_eq_bind, Option.bind_eq_some_iff] at hr
    obtain ⟨⟨kt, et⟩, hmap, hr⟩ := hr
    have hu := mapB_und hmap
    simp only at hr
    split at hr
    · rename_i hzz
      simp only [Bool.and_eq_true] at hzz
      simp only [Option.bind_eq_some_iff, Option.pure_def, Option.some.injEq] at hr
      obtain ⟨x', hx, k', hk, rfl⟩ := hr
      have r1 := hρ.1 _ _ hx
      have r2 := hρ.2 _ _ hk
      obtain ⟨z, hz1, hz2⟩ := zE_rep hzz.1 hzz.2
      simp only [qv] at hok val
      unfold lkpV at hok val
      split at hok
      · rename_i id g s l hxv hkv
        rw [hxv] at r1
        obtain ⟨hkc, hk1⟩ := keyL_rep hkv r2
        split at hok
        · rename_i st ks vs hid
          obtain ⟨b, es, hO, hc, hb, hes, hvs, hvl, hnd, hst1⟩ := mp_block hm r1 hid hok.1
          obtain ⟨hKI, rfl, rfl⟩ := keyIs_of hok.2 rfl hk1 hst1
          obtain ⟨v, hrun, hcase⟩ := lookup_run hu hKI hb hes.1 hz1 cok
          have hv : Rep S w O ((vs[ks.idxOf l]?).getD (zE P et)) v := by
            rcases hcase with ⟨_, e, he, rfl⟩ | ⟨h1, rfl⟩
            · obtain ⟨v', hv', hr'⟩ := val_get hvs he (by rw [hvl, mapEs_len hes])
              rw [hv']; exact hr'
            · rw [List.getElem?_eq_none (by rw [hvl, List.idxOf_eq_length h1]; exact Nat.le_refl _)]
              exact hz2 S w O
          refine val (if cok then .tuple #[v, .bool (decide (l ∈ ks))] else v) (by simp [hop]) (by simp [execOp, hop, hc, hkc, hrun]) ?_
          simp only [hxv, hkv, hid]
          cases cok with
          | false => simpa using hv
          | true =>
            simp only [if_true, Rep, RepL]
            exact ⟨_, rfl, rfl, hv, rfl, trivial⟩
        · exact hok.elim
      · exact hok.elim
    · cases hr
  case entry x =>
    simp only [Option.map_eq_some_iff] at hr
    obtain ⟨x', hx, rfl⟩ := hr
    have r1 := hρ _ _ hx
    simp only [qv] at hok val
    unfold entV at hok val
    split at hok
    · rename_i id g hxv
      rw [hxv] at r1
      split at hok
      · rename_i mid nn left j hid
        split at hok
        · rename_i st ks vs hmid
          obtain ⟨rfl, hn⟩ := hok
          simp only [Rep] at r1
          obtain ⟨_, g', ob, hO, _, h1⟩ := r1
          have hbk := hm.blk id g' ob hO
          rw [hid] at hbk
          simp only [BlkOk] at hbk
          obtain ⟨rfl, b, m, seen, rfl, hbi, hmp, hnd, hleft, hcur⟩ := hbk
          obtain ⟨b', hb', hc⟩ := h1 rfl
          cases hb'
          have hmp' : Rep S w O (.mp mid 0) (.map (some m)) := by simp only [Rep]; exact hmp
          obtain ⟨b2, es, hO2, hc2, hb2, hes, hvs, hvl, hnd2, hst1⟩ := mp_block hm hmp' hmid rfl
          cases hc2
          obtain ⟨hback, hjn⟩ := hcur j rfl
          have hes' := mapEs_len hes
          obtain ⟨e, he⟩ : ∃ e : MapEntry, es[j]? = some e := ⟨_, Array.getElem?_eq_getElem (by omega)⟩
          have hborn := hes.2 j e he
          obtain ⟨seen', rfl⟩ : ∃ seen' : Array Nat, seen = seen'.push e.born := by
            refine ⟨seen.pop, ?_⟩
            have hne : seen ≠ #[] := by rintro rfl; simp at hback
            have hpos : 0 < seen.size := by
              rcases Nat.eq_zero_or_pos seen.size with h | h
              · exact absurd (Array.eq_empty_of_size_eq_zero h) hne
              · exact h
            rw [hborn]
            rw [Array.back?_eq_getElem?] at hback
            apply Array.ext_getElem?
            intro i
            rw [Array.getElem?_push, Array.getElem?_pop, Array.size_pop]
            split
            · rename_i hi; rw [hi]; exact hback
            · rename_i hi
              split
              · rfl
              · exact Array.getElem?_eq_none (by omega)
          have hbn : (es.toList.map (·.born)).Nodup := by
            have : es.toList.map (·.born) = List.range es.size := by
              apply List.ext_getElem?
              intro i
              rw [List.getElem?_map, Array.getElem?_toList]
              cases he2 : es[i]? with
              | none => have := Array.getElem?_eq_none_iff.1 he2; simp [this]
              | some e2 => have := hes.2 i e2 he2; have hlt := (Array.getElem?_eq_some_iff.1 he2).1; simp [this, hlt]
            rw [this]; exact List.nodup_range
          have hrun := run_entry_at (P := P) w b m nn seen' es es.size e (by rw [hbi]; simp [hes', hn]) hb2 (by have := Array.mem_of_getElem? he; simpa using this) hbn
          obtain ⟨v, hv, hrv⟩ := val_get hvs he (by rw [hvl, hes'])
          have hk : e.key = keyC st (ks.getD j []) := by
            have := map_eq_get hes.1 j
            rw [Array.getElem?_toList, he] at this
            have hlt : j < ks.length := by omega
            simpa [List.getElem?_eq_getElem hlt] using this
          refine val (.tuple #[e.key, e.val]) (by simp [hop]) (by simp only [execOp, hop, hc, hrun, Sem.run_bind, Result.andThen_ok, Sem.run_pure]) ?_
          simp only [hxv, hid, hmid, Rep, RepL]
          refine ⟨_, rfl, rfl, ?_, ?_, trivial⟩
          · rw [hk]
            unfold keyV keyC
            cases st with
            | false => simp [Rep]
            | true =>
              simp only [if_true, Rep]
              exact ⟨_, rfl, by simp, RepL.map .i (Value.int .i64) _ fun x _ => by simp [Rep]⟩
          · rw [List.getD_eq_getElem?_getD, hv]; exact hrv
        · exact hok.elim
      · exact hok.elim
    · exact hok.elim
  case call c =>
    split at hr
    · -- len
      rename_i hcal
      split at hr
      · rename_i x t hargs htys
        have hmem : x ∈ c.operands := by
          simp only [Call.operands, Array.mem_append]
          exact .inr (by rw [← Array.mem_toList_iff, hargs]; simp)
        have ha : c.args = #[x] := by rw [← hargs]
        have ht : c.argTypes = #[t] := by rw [← htys]
        split at hr
        · rename_i ktet hmap
          obtain ⟨kt, et⟩ := ktet
          have hu := mapB_und hmap
          simp only [Option.map_eq_some_iff] at hr
          obtain ⟨x', hx, rfl⟩ := hr
          have r1 := hρ x hmem _ _ hx
          simp only [qv] at hok val
          unfold mlenV at hok val
          split at hok
          · rename_i id g hxv
            rw [hxv] at r1
            split at hok
            · rename_i st ks vs hid
              obtain ⟨b, es, hO, hc, hb, hes, _⟩ := mp_block hm r1 hid hok
              have hrun : (Builtin.len_ #[t] o.type #[.map (some b)]).run P w = .ok (.int .i64 ks.length) w := by
                have hg := run_getObj_map (P := P) (hb := hb)
                simp [Builtin.len_, run_underlying hu, hg, mapEs_len hes, goInt]
              exact val (.int .i64 ks.length) (by simp [hop]) (by simp [execOp, hop, resolve, hcal, ha, ht, invoke, builtin, hc, hrun]) (by simp [hxv, hid, Rep])
            · exact hok.elim
          · exact hok.elim
        · simp only [Option.bind_eq_bind, Option.bind_eq_some_iff, Option.pure_def, Option.some.injEq] at hr
          obtain ⟨e, he, x', hx, rfl⟩ := hr
          have r1 := hρ x hmem _ _ hx
          obtain ⟨v, hrun, hrep⟩ := len_run (P := P) (elB_und he) hm r1 hok (ty := o.type)
          exact val v (by simp [hop]) (by simp [execOp, hop, resolve, hcal, ha, ht, invoke, builtin, hrun]) hrep
      · cases hr
    · -- min
      rename_i hcal
      split at hr
      · rename_i x y hargs
        simp only [Option.bind_eq_bind, Option.bind_eq_some_iff, Option.pure_def, Option.some.injEq] at hr
        obtain ⟨x', hx, y', hy, rfl⟩ := hr
        have ha : c.args = #[x, y] := by rw [← hargs]
        have r1 := hρ x (by simp [Call.operands, ha]) _ _ hx
        have r2 := hρ y (by simp [Call.operands, ha]) _ _ hy
        simp only [qv] at hok
        split at hok
        · rename_i i j hi hj
          rw [hi] at r1
          rw [hj] at r2
          have e : (if j < i then j else i) = min i j := by split <;> omega
          exact val (.int .i64 (min i j)) (by simp [hop]) (by simp [execOp, hop, resolve, hcal, ha, invoke, builtin, Builtin.min_, Builtin.min2, rep_i r1, rep_i r2, e]) (by simp [qv, hi, hj, Rep])
        · exact hok.elim
      · cases hr
    · -- max
      rename_i hcal
      split at hr
      · rename_i x y hargs
        simp only [Option.bind_eq_bind, Option.bind_eq_some_iff, Option.pure_def, Option.some.injEq] at hr
        obtain ⟨x', hx, y', hy, rfl⟩ := hr
        have ha : c.args = #[x, y] := by rw [← hargs]
        have r1 := hρ x (by simp [Call.operands, ha]) _ _ hx
        have r2 := hρ y (by simp [Call.operands, ha]) _ _ hy
        simp only [qv] at hok
        split at hok
        · rename_i i j hi hj
          rw [hi] at r1
          rw [hj] at r2
          have e : (if j > i then j else i) = max i j := by split <;> omega
          exact val (.int .i64 (max i j)) (by simp [hop]) (by simp [execOp, hop, resolve, hcal, ha, invoke, builtin, Builtin.max_, Builtin.max2, rep_i r1, rep_i r2, e]) (by simp [qv, hi, hj, Rep])
        · exact hok.elim
      · cases hr
    · -- a function
      rename_i f hcal
      simp only [Option.bind_eq_bind, Option.bind_eq_some_iff, Option.pure_def, Option.some.injEq] at hr
      obtain ⟨f', hf, ods, hods, rfl⟩ := hr
      have r1 := hρ f (by simp [Call.operands, hcal]) _ _ hf
      have rs := rOds_rep _ _ _ hods (fun x hx => hρ x (by simp only [Call.operands, Array.mem_append]; exact .inr (by simpa using hx)))
      simp only [qv, callV] at hok hK
      split at hok
      · rename_i g caps hg
        rw [hg] at r1 hK
        simp only [Rep] at r1
        obtain ⟨ccs, hc, hn, hrl⟩ := r1
        have hall := RepL.append _ _ _ _ rs.1 (by simp [rs.2]) hrl
        obtain ⟨hen, hcall⟩ := call_sound hG hm (g := g) (as := ods.map ρ ++ caps) (cargs := c.args.map a.eval ++ ccs) (by simp [rs.2, hn]) (by simpa using hall) hok.1 hok.2.1 hok.2.2
        refine wpIn_enter (w' := w) (f := g) (args := c.args.map a.eval ++ ccs) hF (by simp [hop]) ?_ (hcall.mono ?_)
        · have hd : (resolve a.eval c o.type).run P w = .ok { target := .fn (.func g) ccs, args := c.args.map a.eval } w := by
            simp [resolve, hcal, hc, Deferred.ofValue]
          simp only [execOp, hop, Sem.run_bind, hd, Result.andThen_ok, invoke]
          exact hen _ _
        · rintro e w' ⟨v, S', rfl, hev, hmat, hrep⟩
          exact ⟨v, rfl, hK v S' w' hev hmat hrep⟩
      · exact hok.elim
    · cases hr
end
end Go.Fam
