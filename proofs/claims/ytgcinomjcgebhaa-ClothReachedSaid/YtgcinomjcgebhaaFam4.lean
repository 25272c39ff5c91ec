import Derived.Test.YtgcinomjcgebhaaFam3
set_option linter.all false
namespace Go.Fam
section
variable {P : Program} {F : Fence} {n : Nat}

theorem q_val {o : Oper} {a : Act} {S : Nat → Prop} {w : World} {O : OInfo} {hp : List Blk} {v : V} {c : Value} {K : Act → World → Prop} {Q' : Exit → Act → World → Prop} (hF : OpenF F)
    (hm : Mat S w O hp) (hd : ∀ c, o.op ≠ .defer c) (hr : (execOp a.eval o).run P w = .ok (.value c) w) (hv : Rep S w O v c)
    (hK : ∀ c S' w', Evol S S' w w' O O → Mat S' w' O hp → Rep S' w' O v c → K (a.put o.dst c) w') : o.wpIn F n P a w K Q' :=
  wpIn_value hF hd hr (hK c S w (Evol.refl S w O) hm hv)

theorem rep_i {S : Nat → Prop} {w : World} {O : OInfo} {x : Int} {c : Value} (h : Rep S w O (.i x) c) : c = .int .i64 x := by simpa [Rep] using h
theorem rep_b {S : Nat → Prop} {w : World} {O : OInfo} {x : Bool} {c : Value} (h : Rep S w O (.b x) c) : c = .bool x := by simpa [Rep] using h

theorem wrap_in {x : Int} (h : inI x) : IntKind.i64.wrap x = x := by
  unfold inI at h
  exact IntWalk.i64_in _ h

/-- arithmetic and comparisons -/
theorem bin_run {op : BinOp} {t : TypeId} {x y : V} {cx cy : Value} {S : Nat → Prop} {w : World} {O : OInfo} {X Y : Operand}
    (hx : Rep S w O x cx) (hy : Rep S w O y cy) (hok : (binV op x y).1) :
    ∃ c, (do eqGuard op t X Y cx cy; binOp op t cx cy : Sem Value).run P w = .ok c w ∧ Rep S w O (binV op x y).2 c := by
  cases x <;> cases y <;> first | (simp [binV] at hok; done) | skip
  case i.i p q =>
    rw [rep_i hx, rep_i hy]
    cases op <;> first | (simp [binV] at hok; done) | skip
    all_goals simp only [binV] at hok ⊢
    all_goals simp only [Rep, exists_eq_right]
    all_goals simp [eqGuard, binOp, Op.intArith, Op.intCmp, Op.intDiv, wrap_in, hok]
    case eql => by_cases h : p = q <;> simp [h]
    case neq => by_cases h : p = q <;> simp [h]

theorem bq_run {ng : Bool} {op : BinOp} (hop : op = if ng then .neq else .eql) {t : TypeId} (ht : isBool P t = true) {p q : Bool} {w : World} {X Y : Operand} :
    (do eqGuard op t X Y (.bool p) (.bool q); binOp op t (.bool p) (.bool q) : Sem Value).run P w = .ok (.bool (ng ^^ (p == q))) w := by
  have hu : P.underlying t = some .bool := by
    unfold isBool at ht
    split at ht
    · assumption
    · cases ht
  have he : (Op.equal t (.bool p) (.bool q)).run P w = .ok (p == q) w := by
    show (Op.equalIn (9999 + 1) t (.bool p) (.bool q)).run P w = _
    generalize 9999 = d
    simp [Op.equalIn, run_underlying hu]
  subst hop
  cases ng
  · have : (binOp .eql t (.bool p) (.bool q)) = (do pure (.bool (← Op.equal t (.bool p) (.bool q))) : Sem Value) := rfl
    simp [eqGuard, this, he]
  · have : (binOp .neq t (.bool p) (.bool q)) = (do pure (.bool (!(← Op.equal t (.bool p) (.bool q)))) : Sem Value) := rfl
    simp [eqGuard, this, he]

theorem intsOf_rep : ∀ (vs : List V) (m : List Int) (cs : List Value), intsOf vs = some m → ∀ S w O, RepL S w O vs cs → cs.length = vs.length → cs = m.map (Value.int .i64) ∧ m.length = vs.length := by
  intro vs
  induction vs with
  | nil => intro m cs h S w O _ hl; simp [intsOf] at h; subst h; simpa using hl
  | cons v vs ih =>
    intro m cs h S w O hr hl
    cases cs with
    | nil => simp [RepL] at hr
    | cons c cs =>
      cases v <;> first | (simp [intsOf] at h; done) | skip
      case i k =>
        simp [intsOf] at h
        obtain ⟨m', hm', rfl⟩ := h
        simp only [RepL] at hr
        have := ih m' cs hm' S w O hr.2 (by simpa using hl)
        simp [rep_i hr.1, this.1, this.2]

theorem eqs_run {ng : Bool} {op : BinOp} (hop : op = if ng then .neq else .eql) {t : TypeId} {xs ys : List V} {m k : List Int} (hm : intsOf xs = some m) (hk : intsOf ys = some k)
    (hE : EqFlat P t xs.length) (hl : xs.length = ys.length) {S : Nat → Prop} {w : World} {O : OInfo} {cx cy : Value} (hx : Rep S w O (.ag xs) cx) (hy : Rep S w O (.ag ys) cy) {X Y : Operand} :
    (do eqGuard op t X Y cx cy; binOp op t cx cy : Sem Value).run P w = .ok (.bool (ng ^^ decide (m = k))) w := by
  simp only [Rep] at hx hy
  obtain ⟨cxs, rfl, hn, hr⟩ := hx
  obtain ⟨cys, rfl, hn', hr'⟩ := hy
  obtain ⟨e1, l1⟩ := intsOf_rep _ _ _ hm S w O hr (by simpa using hn)
  obtain ⟨e2, l2⟩ := intsOf_rep _ _ _ hk S w O hr' (by simpa using hn')
  have e1' : cxs = (m.map (Value.int .i64)).toArray := by rw [← e1]
  have e2' : cys = (k.map (Value.int .i64)).toArray := by rw [← e2]
  obtain ⟨h1, h2⟩ := (hE.2 m k w l1 (by omega)).1 op X Y (by subst hop; cases ng <;> simp)
  rw [← e1', ← e2'] at h1 h2
  simp only [Sem.run_bind, h1, h2, Result.andThen_ok]
  subst hop
  cases ng <;> rfl

theorem ldB_und {t : TypeId} {k : Nat} (h : ldB P t = some k) : ∃ d, P.underlying t = some d := by
  unfold ldB at h
  split at h
  · rename_i ha
    unfold isAggB at ha
    cases hu : P.underlying t with
    | none => simp [hu] at ha
    | some d => exact ⟨d, rfl⟩
  · cases hu : P.underlying t with
    | none => simp [hu] at h
    | some d => exact ⟨d, rfl⟩

theorem ldB_one {t : TypeId} {k : Nat} (h : ldB P t = some k) : isAggB P t = false → k = 1 := by
  intro ha
  simp only [ldB, ha, Bool.false_eq_true, if_false, Option.map_eq_some_iff] at h
  obtain ⟨_, _, e⟩ := h
  exact e.symm

theorem ld_run {t : TypeId} {k : Nat} (ht : ldB P t = some k) {S : Nat → Prop} {w : World} {O : OInfo} {hp : List Blk} (hm : Mat S w O hp) {x : V} {cx : Value} (hx : Rep S w O x cx) (hok : (ldV hp (isAggB P t) k x).1) :
    ∃ c, (Instr.loadAt t cx).run P w = .ok c w ∧ Rep S w O (ldV hp (isAggB P t) k x).2 c := by
  obtain ⟨d, hu⟩ := ldB_und ht
  cases x <;> first | (simp [ldV] at hok; done) | skip
  case pa cs =>
    simp only [Rep] at hx
    obtain ⟨blk, off, cur, e, fr, rfl, hS, hh, hr⟩ := hx
    simp only [ldV] at hok ⊢
    have hl := RepL.length _ _ hr
    have hrun := run_loadVar_at (P := P) (off := off) hh ht hu (by omega)
    refine ⟨_, by simp only [Instr.loadAt, Instr.sureAddr, Sem.run_bind, Sem.run_pure, Result.andThen_ok]; exact hrun, ?_⟩
    have hr' := RepL.ext (S' := S) (w' := w) (O' := O) ⟨fun _ h => ⟨h, rfl⟩, fun _ _ _ h => by cases h⟩ _ _ hr
    exact rep_loaded hr' _ k hok (ldB_one ht)
  case ad id g off =>
    simp only [ldV] at hok ⊢
    split at hok
    · rename_i g' vs hid
      obtain ⟨hg, hk⟩ := hok
      subst hg
      simp only [Rep] at hx
      obtain ⟨_, gO, ob, hO, hle, hr⟩ := hx
      have hb := hm.blk id gO ob hO
      rw [hid] at hb
      simp only [BlkOk] at hb
      obtain ⟨b, rfl, rfl⟩ := hr hb.1
      obtain ⟨cur, e, hh, hrl, h1⟩ := hb.2
      have hd := hrl.drop off
      have hl := RepL.length _ _ hd
      have hk' : k ≤ (vs.drop off).length := by simp; omega
      have hrun := run_loadVar_at (P := P) (off := off) hh ht hu (by omega)
      refine ⟨_, by simp only [Instr.loadAt, Instr.sureAddr, Sem.run_bind, Sem.run_pure, Result.andThen_ok]; exact hrun, ?_⟩
      exact rep_loaded hd _ k hk' (ldB_one ht)
    · exact hok.elim

theorem fad_run {t : TypeId} {fs : Array Field} (hu : P.underlying t = some (.struct fs)) {i : Nat} {f : Field} (hf : fs[i]? = some f) {s : Nat} (hs : szB P f.type = some s) (h0 : s ≠ 0) (b off : Nat) (w : World) :
    (Instr.fieldAt t (.pointer (some ⟨b, off, none⟩)) i).run P w = .ok (.pointer (some ⟨b, off + f.offset, none⟩)) w := by
  have hadd : (⟨b, off, none⟩ : Addr).add f.offset = ⟨b, off + f.offset, none⟩ := by unfold Addr.add; split <;> simp_all
  simp [Instr.fieldAt, run_underlying hu, hf, Instr.sureAddr, fieldPlace, run_sizeOf' hs, h0, hadd]

theorem fld_run {t : TypeId} {fs : Array Field} (hu : P.underlying t = some (.struct fs)) {i : Nat} {f : Field} (hf : fs[i]? = some f) {k : Nat} (hk : ldB P f.type = some k)
    {S : Nat → Prop} {w : World} {O : OInfo} {cs : List V} {c : Value} (hx : Rep S w O (.ag cs) c) (hl : f.offset + k ≤ cs.length) :
    ∃ c', (Instr.field t c i).run P w = .ok c' w ∧ Rep S w O (if isAggB P f.type then .ag ((cs.drop f.offset).take k) else (cs.drop f.offset).headD .u) c' := by
  simp only [Rep] at hx
  obtain ⟨ccs, rfl, hn, hr⟩ := hx
  obtain ⟨d, hd⟩ := ldB_und hk
  have hdr := hr.drop f.offset
  have hlen : k ≤ (cs.drop f.offset).length := by simp; omega
  have hres := rep_loaded hdr (isAggB P f.type) k hlen (ldB_one hk)
  refine ⟨_, ?_, hres⟩
  simp only [Instr.field, Sem.run_bind, run_underlying hu, Result.andThen_ok, hf, asAgg, Sem.run_pure, part, run_isAgg' hd]
  by_cases ha : isAggB P f.type = true
  · have hs : szB P f.type = some k := by simpa [ldB, ha] using hk
    have he : ccs.extract f.offset (f.offset + k) = ((ccs.toList.drop f.offset).take k).toArray := by
      apply Array.ext'
      simp [List.extract]
    simp [ha, run_sizeOf' hs, he]
  · have h1 := ldB_one hk (by simpa using ha)
    subst h1
    have hlt : f.offset < ccs.size := by simp at hlen; omega
    have hh : (ccs.toList.drop f.offset).headD undef = ccs[f.offset] := by
      rw [List.headD_eq_head?_getD, List.head?_drop]
      simp [hlt]
    simp [ha, hlt]

theorem iad_run {t : TypeId} {es : Nat} (hes : esB P t = some es) {S : Nat → Prop} {w : World} {O : OInfo} {hp : List Blk} (hm : Mat S w O hp) {x i : V} {cx ci : Value} (hx : Rep S w O x cx) (hi : Rep S w O i ci) (hok : (iadV hp es x i).1) :
    ∃ c, (Instr.indexAt t cx ci).run P w = .ok c w ∧ Rep S w O (iadV hp es x i).2 c := by
  obtain ⟨e, hu, hs⟩ : ∃ e, P.underlying t = some (.slice e) ∧ szB P e = some es := by
    simp only [esB, elB, Option.bind_eq_some_iff] at hes
    obtain ⟨e, he, hs⟩ := hes
    split at he
    · rename_i e' hu; cases he; exact ⟨_, hu, hs⟩
    · cases he
  cases i <;> first | (simp [iadV] at hok; done) | skip
  case i k =>
  rw [rep_i hi]
  have hadd : ∀ b off, (⟨b, off, none⟩ : Addr).add (k.toNat * es) = ⟨b, off + k.toNat * es, none⟩ := by intro b off; unfold Addr.add; split <;> simp_all
  cases x <;> first | (simp [iadV] at hok; done) | skip
  case sl es' rows =>
    simp only [iadV] at hok ⊢
    obtain ⟨rfl, h0, hk⟩ := hok
    simp only [Rep] at hx
    obtain ⟨a, cap, rfl, _, hr⟩ := hx
    have hne : rows ≠ [] := by intro h; subst h; simp at hk; omega
    obtain ⟨blk, off, cur, e', fr, rfl, hS, hh, hrow⟩ := hr.resolve_left hne
    have hkn : k.toNat < rows.length := by omega
    refine ⟨.pointer (some ⟨blk, off + k.toNat * es', none⟩), ?_, ?_⟩
    · simp [Instr.indexAt, asIntOf, run_underlying hu, h0, hk, run_sizeOf' hs, hadd]
    · simp only [Rep]
      have hg : rows[k.toNat]? = some (rows.getD k.toNat []) := by simp [hkn]
      have := RepRows.get _ _ k.toNat _ hrow hg
      rw [List.drop_drop] at this
      exact ⟨blk, _, cur, e', fr, rfl, hS, hh, this.2⟩
  case rf id g off len es' =>
    simp only [iadV] at hok ⊢
    split at hok
    · rename_i g' vs hid
      obtain ⟨hg, rfl, h0, hk⟩ := hok
      subst hg
      simp only [Rep] at hx
      obtain ⟨_, gO, ob, hO, hle, hr⟩ := hx
      have hb := hm.blk id gO ob hO
      rw [hid] at hb
      simp only [BlkOk] at hb
      rcases hr hb.1 with ⟨b, cap, cur', e', rfl, hh', rfl, hlc, hsz⟩ | ⟨rfl, rfl, a, rfl⟩
      · refine ⟨.pointer (some ⟨b, off + k.toNat * es', none⟩), ?_, ?_⟩
        · simp [Instr.indexAt, asIntOf, run_underlying hu, h0, hk, run_sizeOf' hs, hadd]
        · simp only [Rep]
          exact ⟨rfl, gO, some b, hO, hle, fun _ => ⟨b, rfl, rfl⟩⟩
      · simp at hk; omega
    · exact hok.elim


theorem esB_und {t : TypeId} {es : Nat} (hes : esB P t = some es) : ∃ e, P.underlying t = some (.slice e) ∧ szB P e = some es := by
  simp only [esB, elB, Option.bind_eq_some_iff] at hes
  obtain ⟨e, he, hs⟩ := hes
  split at he
  · rename_i e' hu; cases he; exact ⟨_, hu, hs⟩
  · cases he

theorem len_run {t e : TypeId} (hu : P.underlying t = some (.slice e)) {ty : TypeId} {S : Nat → Prop} {w : World} {O : OInfo} {hp : List Blk} (hm : Mat S w O hp) {x : V} {cx : Value} (hx : Rep S w O x cx) (hok : (lenV hp x).1) :
    ∃ c, (Builtin.len_ #[t] ty #[cx]).run P w = .ok c w ∧ Rep S w O (lenV hp x).2 c := by
  cases x <;> first | (simp [lenV] at hok; done) | skip
  case z es =>
    simp only [Rep] at hx
    obtain ⟨a, rfl⟩ := hx
    exact ⟨.int .i64 0, by simp [Builtin.len_, run_underlying hu, goInt], by simp [lenV, Rep]⟩
  case sl es rows =>
    simp only [Rep] at hx
    obtain ⟨a, cap, rfl, _, _⟩ := hx
    exact ⟨.int .i64 rows.length, by simp [Builtin.len_, run_underlying hu, goInt], by simp [lenV, Rep]⟩
  case rf id g off len es =>
    simp only [lenV] at hok ⊢
    split at hok
    · rename_i g' vs hid
      have hg : g' = g := hok
      subst hg
      simp only [Rep] at hx
      obtain ⟨_, gO, ob, hO, hle, hr⟩ := hx
      have hb := hm.blk id gO ob hO
      rw [hid] at hb
      simp only [BlkOk] at hb
      rcases hr hb.1 with ⟨b, cap, cur', e', rfl, hh', rfl, hlc, hsz⟩ | ⟨rfl, rfl, a, rfl⟩
      · exact ⟨.int .i64 len, by simp [Builtin.len_, run_underlying hu, goInt], by simp [Rep]⟩
      · exact ⟨.int .i64 0, by simp [Builtin.len_, run_underlying hu, goInt], by simp [Rep]⟩
    · exact hok.elim

theorem slc_run {t : TypeId} {es : Nat} (hes : esB P t = some es) {S : Nat → Prop} {w : World} {O : OInfo} {x : V} {cx : Value} (hx : Rep S w O x cx)
    {lo hi : Option V} {clo chi : Option Value} (hlo : ∀ v, lo = some v → ∃ c, clo = some c ∧ Rep S w O v c) (hlo' : lo = none → clo = none) (hhi : ∀ v, hi = some v → ∃ c, chi = some c ∧ Rep S w O v c) (hhi' : hi = none → chi = none)
    (hok : (slcV es x lo hi).1) :
    ∃ c, (Instr.sliceAt t cx clo chi none).run P w = .ok c w ∧ Rep S w O (slcV es x lo hi).2 c := by
  obtain ⟨e, hu, hs⟩ := esB_und hes
  cases x <;> first | (simp [slcV] at hok; done) | skip
  case sl es' rows =>
  simp only [slcV] at hok ⊢
  split at hok
  · rename_i l h hl hh
    obtain ⟨rfl, h0, hlh, hhr⟩ := hok
    simp only [Rep] at hx
    obtain ⟨a, cap, rfl, hcap, hr⟩ := hx
    have bound : ∀ (c : Value) (k : Int) (y : Nat) code, c = .int .i64 k → 0 ≤ k → k ≤ y → (Instr.sliceBound c y code).run P w = .ok k.toNat w := by
      intro c k y code hc h0 h1
      subst hc
      simp [Instr.sliceBound, asIntOf, h0, h1]
    have hchi : (chi = none ∧ h = rows.length) ∨ chi = some (.int .i64 h) := by
      cases hi with
      | none => left; simp only [intOr, Option.some.injEq] at hh; exact ⟨hhi' rfl, hh.symm⟩
      | some v =>
        right
        obtain ⟨c, rfl, hc⟩ := hhi v rfl
        cases v <;> simp [intOr] at hh
        subst hh
        rw [rep_i hc]
    have hclo : (clo = none ∧ l = 0) ∨ clo = some (.int .i64 l) := by
      cases lo with
      | none => left; simp only [intOr, Option.some.injEq] at hl; exact ⟨hlo' rfl, hl.symm⟩
      | some v =>
        right
        obtain ⟨c, rfl, hc⟩ := hlo v rfl
        cases v <;> simp [intOr] at hl
        subst hl
        rw [rep_i hc]
    clear hlo hlo' hhi hhi' hl hh
    have hb : (Instr.sliceBounds true rows.length cap clo chi none).run P w = .ok (l.toNat, h.toNat, cap) w := by
      have b1 := bound (.int .i64 h) h cap .sliceAcap rfl (by omega) (by omega)
      have b2 := bound (.int .i64 l) l h.toNat .sliceB rfl (by omega) (by omega)
      unfold Instr.sliceBounds
      rcases hchi with ⟨rfl, rfl⟩ | rfl <;> rcases hclo with ⟨rfl, rfl⟩ | rfl <;> simp_all
    refine ⟨.slice (if cap = l.toNat then a else a.map (·.add (l.toNat * es'))) (h.toNat - l.toNat) (cap - l.toNat), ?_, ?_⟩
    · simp [Instr.sliceAt, Instr.slice, run_underlying hu, hb, run_sizeOf' hs]
    · simp only [Rep]
      have hlen : ((rows.take h.toNat).drop l.toNat).length = h.toNat - l.toNat := by simp; omega
      refine ⟨_, _, by rw [hlen], by rw [hlen]; omega, ?_⟩
      by_cases he : h.toNat - l.toNat = 0
      · left; exact List.eq_nil_of_length_eq_zero (by omega)
      · right
        have hne : rows ≠ [] := by intro h'; subst h'; simp at hhr; omega
        obtain ⟨blk, off, cur, e', fr, rfl, hS, hhp, hrow⟩ := hr.resolve_left hne
        have hcl : cap ≠ l.toNat := by omega
        have hadd : (⟨blk, off, none⟩ : Addr).add (l.toNat * es') = ⟨blk, off + l.toNat * es', none⟩ := by unfold Addr.add; split <;> simp_all
        refine ⟨blk, off + l.toNat * es', cur, e', fr, by simp [hcl, hadd], hS, hhp, ?_⟩
        have := (hrow.take h.toNat).drop l.toNat
        rwa [List.drop_drop] at this
  · exact hok.elim
end
end Go.Fam
