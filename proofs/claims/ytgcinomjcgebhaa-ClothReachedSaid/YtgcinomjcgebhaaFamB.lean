import Derived.Test.YtgcinomjcgebhaaFam15
import Derived.ProofKit
import Derived.OpenShut
set_option linter.all false
/- From a given input to values: what is read is what the logic represents. -/
namespace Go.Fam
open Go.ChangeShapes Go.WideShapes Go.ChangeAt Go.RowKit
variable {P : Program} {W : World} {H : Type} {enc : TypeId × Value → H} {α β : Type}
/-- all blocks that are there -/
def there (W : World) : Nat → Prop := fun n => n < W.heap.size
/-- values of type t, read at W, lie as e says -/
def Rd (enc : TypeId × Value → H) (P : Program) (W : World) (t : TypeId) (e : α → List V) (ok : α → Prop) : Prop :=
  ∀ fuel (cs : List Value) d ps, DataW.trod enc P W 0 (fun _ => true) true fuel t cs = some (d, ps) → ∃ a, ok a ∧ (e a).length = cs.length ∧ RepL (there W) W noO (e a) cs ∧ ∀ c ∈ cs, c.oneCell' = true
theorem Rd.map {t : TypeId} {e : α → List V} {ok : α → Prop} (h : Rd enc P W t e ok) {e' : β → List V} {ok' : β → Prop} (g : α → β) (he : ∀ a, e' (g a) = e a) (hok : ∀ a, ok a → ok' (g a)) : Rd enc P W t e' ok' := by
  intro fuel cs d ps hd
  obtain ⟨a, h1, h2, h3, h4⟩ := h fuel cs d ps hd
  exact ⟨g a, hok a h1, by rw [he]; exact h2, by rw [he]; exact h3, h4⟩
theorem rd_int {t : TypeId} (hu : P.underlying t = some (.int .i64)) : Rd enc P W t (fun n : Int => [.i n]) inI := by
  intro fuel cs d ps h
  cases fuel with
  | zero => simp [DataW.trod] at h
  | succ fuel =>
    unfold DataW.trod at h
    split at h <;> rename_i heq <;> (try rw [hu] at heq) <;> first | (cases heq; done) | skip
    · cases heq
      rename_i k' n
      split at h
      · rename_i hk
        obtain ⟨rfl, hw⟩ := hk
        refine ⟨n, ?_, rfl, by simp [RepL, Rep], by simp [Value.oneCell']⟩
        simp [Lit.wf, IntKind.min, IntKind.max, IntKind.signed, IntKind.bits] at hw
        unfold inI
        omega
      · cases h
    · cases h
theorem rd_struct {t : TypeId} {fs : Array Field} (hu : P.underlying t = some (.struct fs)) {e : α → List V} {ok : α → Prop}
    (hf : ∀ fuel (cs : List Value) xs, cs.length = P.cellsOf t → (fs.toList.mapM fun f => DataW.trod enc P W 0 (fun _ => true) true fuel f.type ((cs.drop f.offset).take (P.cellsOf f.type))) = some xs →
      ∃ a, ok a ∧ (e a).length = cs.length ∧ RepL (there W) W noO (e a) cs ∧ ∀ c ∈ cs, c.oneCell' = true) : Rd enc P W t e ok := by
  intro fuel cs d ps h
  cases fuel with
  | zero => simp [DataW.trod] at h
  | succ fuel =>
    unfold DataW.trod at h
    split at h <;> rename_i heq <;> (try rw [hu] at heq) <;> first | (cases heq; done) | skip
    · cases heq
      split at h
      · rename_i hl
        simp only [Option.map_eq_some_iff] at h
        obtain ⟨xs, hx, _⟩ := h
        exact hf fuel _ xs hl hx
      · cases h
    · cases h
/-- fields, from an offset on, of n cells -/
def RdF (enc : TypeId × Value → H) (P : Program) (W : World) (n : Nat) (fs : List Field) (off : Nat) (e : α → List V) (ok : α → Prop) : Prop :=
  ∀ fuel (cs : List Value) xs, cs.length = n → (fs.mapM fun f => DataW.trod enc P W 0 (fun _ => true) true fuel f.type ((cs.drop f.offset).take (P.cellsOf f.type))) = some xs →
    ∃ a, ok a ∧ (e a).length = (cs.drop off).length ∧ RepL (there W) W noO (e a) (cs.drop off) ∧ ∀ c ∈ cs.drop off, c.oneCell' = true
theorem rdF_nil {n off : Nat} (h : n ≤ off) : RdF enc P W n [] off (fun _ : Unit => []) (fun _ => True) := by
  intro fuel cs xs hl _
  have : cs.drop off = [] := by rw [List.drop_eq_nil_iff]; omega
  exact ⟨(), trivial, by rw [this]; rfl, by simp [RepL], by rw [this]; simp⟩
theorem rdF_cons {n off k : Nat} {f : Field} {fs : List Field} {e1 : α → List V} {ok1 : α → Prop} {e2 : β → List V} {ok2 : β → Prop} (h1 : f.offset = off) (h2 : P.cellsOf f.type = k) (hr : Rd enc P W f.type e1 ok1)
    (hs : RdF enc P W n fs (off + k) e2 ok2) : RdF enc P W n (f :: fs) off (fun p : α × β => e1 p.1 ++ e2 p.2) (fun p => ok1 p.1 ∧ ok2 p.2) := by
  intro fuel cs xs hl h
  rw [List.mapM_cons] at h
  cases hx : DataW.trod enc P W 0 (fun _ => true) true fuel f.type ((cs.drop f.offset).take (P.cellsOf f.type)) with
  | none => simp [hx] at h
  | some x =>
    cases hxs : fs.mapM (fun f => DataW.trod enc P W 0 (fun _ => true) true fuel f.type ((cs.drop f.offset).take (P.cellsOf f.type))) with
    | none => simp [hx, hxs] at h
    | some ys =>
      rw [h1, h2] at hx
      obtain ⟨a, a1, a2, a3, a4⟩ := hr fuel _ x.1 x.2 hx
      obtain ⟨b, b1, b2, b3, b4⟩ := hs fuel cs ys hl hxs
      have e : cs.drop off = (cs.drop off).take k ++ cs.drop (off + k) := by rw [← List.drop_drop, List.take_append_drop]
      refine ⟨(a, b), ⟨a1, b1⟩, ?_, ?_, ?_⟩
      · rw [e, List.length_append, List.length_append, a2, b2]
      · rw [e]; exact RepL.append _ _ _ _ a3 a2.symm b3
      · rw [e]
        intro c hc
        rcases List.mem_append.1 hc with hc | hc
        · exact a4 c hc
        · exact b4 c hc
theorem RdF.rd {t : TypeId} {fs : Array Field} (hu : P.underlying t = some (.struct fs)) {e : α → List V} {ok : α → Prop} (h : RdF enc P W (P.cellsOf t) fs.toList 0 e ok) : Rd enc P W t e ok :=
  rd_struct hu fun fuel cs xs hl hx => by simpa using h fuel cs xs hl hx
theorem rows_of {es : Nat} {e : α → List V} {ok : α → Prop} {cur : List Value} : ∀ (len off : Nat), (∀ i, i < len → ∃ x, ok x ∧ (e x).length = es ∧ (∀ c ∈ (cur.drop (off + i * es)).take es, c.oneCell' = true) ∧ RepL (there W) W noO (e x) (cur.drop (off + i * es))) →
    ∃ l : List α, l.length = len ∧ (∀ x ∈ l, ok x) ∧ RepRows (there W) W es (l.map e) (cur.drop off)
  | 0, _, _ => ⟨[], rfl, by simp, by simp [RepRows]⟩
  | len + 1, off, h => by
    obtain ⟨x, x1, x2, x3, x4⟩ := h 0 (by omega)
    obtain ⟨l, l1, l2, l3⟩ := rows_of len (off + es) fun i hi => by
      have := h (i + 1) (by omega)
      rwa [Nat.succ_mul, show off + (i * es + es) = off + es + i * es by omega] at this
    simp only [Nat.zero_mul, Nat.add_zero] at x3 x4
    refine ⟨x :: l, by simp [l1], ?_, ?_⟩
    · intro y hy
      rcases List.mem_cons.1 hy with rfl | hy
      · exact x1
      · exact l2 y hy
    · simp only [List.map_cons, RepRows]
      exact ⟨⟨x2, x3⟩, x4, by rw [List.drop_drop]; exact l3⟩
theorem rd_slice {t el : TypeId} {es : Nat} {e : α → List V} {ok : α → Prop} (hu : P.underlying t = some (.slice el)) (hk : P.cellsOf el = es) (h0 : es ≠ 0) (he : Rd enc P W el e ok) :
    Rd enc P W t (fun l : List α => [.sl es (l.map e)]) (fun l => (∀ x ∈ l, ok x) ∧ l.length ≤ maxLen) := by
  intro fuel cs d ps h
  cases fuel with
  | zero => simp [DataW.trod] at h
  | succ fuel =>
    unfold DataW.trod at h
    split at h <;> rename_i heq <;> (try rw [hu] at heq) <;> first | (cases heq; done) | skip
    · exact ⟨[], by simp, rfl, by simp [RepL, Rep], by simp [Value.oneCell']⟩
    · cases heq
      rename_i a len cap
      split at h
      · rename_i hb
        obtain ⟨_, hlc, hcm⟩ := hb
        rw [Option.bind_eq_some_iff] at h
        obtain ⟨elems, hel, _⟩ := h
        have hlen := mapM_some_length hel
        simp only [List.length_range] at hlen
        have hget : ∀ i, i < len → ∃ row x, W.cells? 0 (a.add (i * es)) es = some row ∧ ok x ∧ (e x).length = es ∧ RepL (there W) W noO (e x) row ∧ ∀ c ∈ row, c.oneCell' = true := by
          intro i hi
          have h1 := mapM_some_get hel i i (by simp [hi])
          rw [List.getElem?_eq_getElem (by omega), hk, Option.bind_eq_some_iff] at h1
          obtain ⟨row, hrow, hx⟩ := h1
          obtain ⟨x, x1, x2, x3, x4⟩ := he fuel row _ _ hx
          exact ⟨row, x, hrow, x1, by rw [x2]; exact (World.cells?_some hrow).2.1, x3, x4⟩
        cases len with
        | zero => exact ⟨[], by simp, rfl, by simp [RepL, Rep], by simp [Value.oneCell']⟩
        | succ len =>
          obtain ⟨blk, off, spot⟩ := a
          obtain ⟨row0, _, hrow0, _⟩ := hget 0 (by omega)
          have hc0 := (World.cells?_some hrow0).2.2 0 (by omega)
          have hl0 := (World.cells?_some hrow0).2.1
          rw [List.getElem?_eq_getElem (by omega)] at hc0
          simp only [Nat.zero_mul, Addr.add, if_true, World.cell?] at hc0
          cases hbk : W.heap[blk]? with
          | none => rw [hbk] at hc0; cases hc0
          | some o =>
            rw [hbk] at hc0
            cases o <;> first | (cases hc0; done) | skip
            rename_i cur elt fr
            cases spot with
            | some s => simp at hc0
            | none =>
              have hrows : ∀ i, i < len + 1 → ∃ x, ok x ∧ (e x).length = es ∧ (∀ c ∈ (cur.toList.drop (off + i * es)).take es, c.oneCell' = true) ∧ RepL (there W) W noO (e x) (cur.toList.drop (off + i * es)) := by
                intro i hi
                obtain ⟨row, x, hrow, x1, x2, x3, x4⟩ := hget i hi
                obtain ⟨_, r2, r3⟩ := World.cells?_some hrow
                have hadd : ∀ m, (⟨blk, off, none⟩ : Addr).add m = ⟨blk, off + m, none⟩ := by
                  intro m; unfold Addr.add; split
                  · subst m; rfl
                  · rfl
                have hrw : row = (cur.toList.drop (off + i * es)).take es := by
                  apply List.ext_getElem?
                  intro j
                  by_cases hj : j < es
                  · have := r3 j hj
                    rw [hadd, show (⟨blk, off + i * es, none⟩ : Addr).add j = ⟨blk, off + i * es + j, none⟩ from by unfold Addr.add; split <;> simp_all] at this
                    simp only [World.cell?, hbk, Option.isSome_none, Bool.false_eq_true, if_false] at this
                    rw [← this, List.getElem?_take, if_pos hj, List.getElem?_drop, Array.getElem?_toList]
                  · rw [List.getElem?_eq_none (by omega), List.getElem?_eq_none (by simp; omega)]
                refine ⟨x, x1, x2, by rw [← hrw]; exact x4, ?_⟩
                have := RepL.more (e x) row ((cur.toList.drop (off + i * es)).drop es) x3
                rwa [hrw, List.take_append_drop] at this
              obtain ⟨l, l1, l2, l3⟩ := rows_of (len + 1) off hrows
              refine ⟨l, ⟨l2, by rw [l1]; omega⟩, rfl, ?_, by simp [Value.oneCell']⟩
              simp only [RepL, Rep, and_true]
              refine ⟨_, cap, by rw [List.length_map, l1], by simp; omega, .inr ⟨blk, off, cur, elt, fr, rfl, ?_, hbk, l3⟩⟩
              exact (Array.getElem?_eq_some_iff.1 hbk).1
      · cases h
    · cases h
/-- fields, given as types and offsets -/
def RdP (enc : TypeId × Value → H) (P : Program) (W : World) (n : Nat) (ps : List (TypeId × Nat)) (off : Nat) (e : α → List V) (ok : α → Prop) : Prop :=
  ∀ fs : List Field, fs.map (fun f => (f.type, f.offset)) = ps → RdF enc P W n fs off e ok
theorem rdP_nil {n off : Nat} (h : n ≤ off) : RdP enc P W n [] off (fun _ : Unit => []) (fun _ => True) := by
  intro fs hf
  have : fs = [] := by simpa using hf
  subst this
  exact rdF_nil h
theorem rdP_cons {n off k : Nat} {t : TypeId} {ps : List (TypeId × Nat)} {e1 : α → List V} {ok1 : α → Prop} {e2 : β → List V} {ok2 : β → Prop} (h2 : P.cellsOf t = k) (hr : Rd enc P W t e1 ok1)
    (hs : RdP enc P W n ps (off + k) e2 ok2) : RdP enc P W n ((t, off) :: ps) off (fun p : α × β => e1 p.1 ++ e2 p.2) (fun p => ok1 p.1 ∧ ok2 p.2) := by
  intro fs hf
  cases fs with
  | nil => cases hf
  | cons f fs =>
    simp only [List.map_cons, List.cons.injEq, Prod.mk.injEq] at hf
    obtain ⟨⟨rfl, ho⟩, hf⟩ := hf
    exact rdF_cons ho h2 hr (hs fs hf)
theorem RdP.rd {t : TypeId} {fs : Array Field} {n : Nat} {ps : List (TypeId × Nat)} (hu : P.underlying t = some (.struct fs)) (hn : P.cellsOf t = n) (hp : fs.toList.map (fun f => (f.type, f.offset)) = ps) {e : α → List V} {ok : α → Prop} (h : RdP enc P W n ps 0 e ok) : Rd enc P W t e ok := by
  subst hn
  exact RdF.rd hu (h _ hp)
/-- a value, as an argument -/
def RdV (enc : TypeId × Value → H) (P : Program) (W : World) (t : TypeId) (e : α → V) (ok : α → Prop) : Prop :=
  ∀ v d ps base, DataW.Trod enc P W 0 (fun _ => true) true t v d ps → Value.okWide P W .any base t v → ∃ a, ok a ∧ Rep (there W) W noO (e a) v
theorem Rd.agg {t : TypeId} {fs : Array Field} (hu : P.underlying t = some (.struct fs)) {e : α → List V} {ok : α → Prop} (h : Rd enc P W t e ok) : RdV enc P W t (fun a => .ag (e a)) ok := by
  rintro v d ps base ⟨fuel, hf⟩ hw
  obtain ⟨cs, rfl, _⟩ := okWide_struct hu hw
  obtain ⟨a, h1, h2, h3, _⟩ := h fuel _ d ps hf
  exact ⟨a, h1, cs, rfl, by simpa [Value.cells] using h2.symm, by simpa [Value.cells] using h3⟩
theorem Rd.one {t : TypeId} {e : α → V} {ok : α → Prop} (hone : ∀ v base, Value.okWide P W .any base t v → v.oneCell' = true) (h : Rd enc P W t (fun a => [e a]) ok) : RdV enc P W t e ok := by
  rintro v d ps base ⟨fuel, hf⟩ hw
  have hc := hone v base hw
  have hcs : v.cells.toList = [v] := by cases v <;> simp [Value.oneCell'] at hc <;> rfl
  rw [hcs] at hf
  obtain ⟨a, h1, _, h3, _⟩ := h fuel _ d ps hf
  simp only [RepL, and_true] at h3
  exact ⟨a, h1, h3⟩
theorem one_int {t : TypeId} (hu : P.underlying t = some (.int .i64)) (v : Value) (base : Nat) (h : Value.okWide P W .any base t v) : v.oneCell' = true := by
  obtain ⟨n, rfl⟩ := okWide_int hu h; rfl
theorem one_slice {t el : TypeId} (hu : P.underlying t = some (.slice el)) (v : Value) (base : Nat) (h : Value.okWide P W .any base t v) : v.oneCell' = true := by
  obtain ⟨a, l, c, rfl⟩ := okWide_slice hu h; rfl
/-- all arguments -/
def RdA (enc : TypeId × Value → H) (P : Program) (W : World) (ts : List TypeId) (e : α → List V) (ok : α → Prop) : Prop :=
  ∀ vs ds ps base, DataW.TrodAll enc P W 0 (fun _ => true) true ts vs ds ps → (∀ (j : Nat) t v, ts[j]? = some t → vs[j]? = some v → Value.okWide P W .any base t v) → ∃ a, ok a ∧ (e a).length = vs.length ∧ RepL (there W) W noO (e a) vs
theorem rdA_nil : RdA enc P W [] (fun _ : Unit => []) (fun _ => True) := by
  intro vs ds ps base h _
  obtain ⟨rfl, _, _⟩ := trodAll_nil h
  exact ⟨(), trivial, rfl, by simp [RepL]⟩
theorem rdA_cons {t : TypeId} {ts : List TypeId} {e1 : α → V} {ok1 : α → Prop} {e2 : β → List V} {ok2 : β → Prop} (h1 : RdV enc P W t e1 ok1) (h2 : RdA enc P W ts e2 ok2) :
    RdA enc P W (t :: ts) (fun p : α × β => e1 p.1 :: e2 p.2) (fun p => ok1 p.1 ∧ ok2 p.2) := by
  intro vs ds ps base h hv
  obtain ⟨v, vs', d, ds', p, q, rfl, rfl, rfl, ha, hb⟩ := trodAll_cons h
  obtain ⟨a, a1, a2⟩ := h1 v d p base ha (hv 0 t v rfl rfl)
  obtain ⟨b, b1, b2, b3⟩ := h2 vs' ds' q base hb fun j t v hj hv' => hv (j + 1) t v (by simpa using hj) (by simpa using hv')
  exact ⟨(a, b), ⟨a1, b1⟩, by simp [b2], a2, b3⟩
theorem trodAll_stays (hl : laidOutB P = true) {W' : World} {sp' : Nat → Bool} : ∀ {ts : List TypeId} {vs : List Value} {ds : List (DataW H)} {ps : List MemPlace}, (ts.all fun t => P.readableRec t && decide (t < P.types.size)) = true →
    DataW.TrodAll enc P W 0 (fun _ => true) true ts vs ds ps → (∀ p ∈ ps, W.sameAt W' p) → (∀ p ∈ ps, sp' p.block = true) → DataW.TrodAll enc P W' 0 sp' true ts vs ds ps
  | [], vs, ds, ps, _, h, _, _ => by
    obtain ⟨rfl, rfl, rfl⟩ := trodAll_nil h
    exact trodAll_mk0
  | t :: ts, vs, ds, ps, hr, h, hs, hsp => by
    obtain ⟨v, vs', d, ds', p, q, rfl, rfl, rfl, ha, hb⟩ := trodAll_cons h
    simp only [List.all_cons, Bool.and_eq_true, decide_eq_true_eq] at hr
    exact trodAll_cons_mk (WideElems.Trod_stays hl hr.1.1 hr.1.2 ha (fun x hx => hs x (by simp [hx])) fun x hx => hsp x (by simp [hx]))
      (trodAll_stays hl hr.2 hb (fun x hx => hs x (by simp [hx])) fun x hx => hsp x (by simp [hx]))
theorem keptBut_below {W' : World} (h : Below W.heap.size W W') (may : MemPlace → Prop) : W.keptBut W' may := by
  refine ⟨h.os, h.output, fun i hi => ?_⟩
  rw [h.block i hi]
  cases W.heap[i]? with
  | none => rfl
  | some o => cases o <;> first | exact ⟨rfl, rfl, rfl, fun _ _ => rfl⟩ | exact .inr ⟨rfl, rfl⟩ | rfl
/-- THE BRIDGE: a law that is a pure call giving true, for all values that can be read -/
theorem bridge {F : FuncId} {fn : Func} {s : ChangeSpec} {fresh : Bool} (hl : laidOutB P = true) {e : α → List V} {ok : α → Prop} {ts : List TypeId} (hts : fn.params.toList = ts) (hrd : ∀ W, RdA enc P W ts e ok)
    (hreads : (ts.all fun t => P.readableRec t && decide (t < P.types.size)) = true) (hvars : s.vars = []) (hfn : ∀ ds : List (DataW H), ds.length = ts.length → s.fn H ds = { results := [.lit (.bool true)], args := ds })
    {tb : TypeId} (hres : fn.resultTypes = #[tb]) (hb : P.underlying tb = some .bool) (hlaw : ∀ a, ok a → PureCall P F (e a) (.b true))
    {W : World} {base : Nat} {args : Array Value} {ds gs : List (DataW H)} {before : List MemPlace}
    (hval : ∀ (j : Nat) t v, fn.params[j]? = some t → args[j]? = some v → Value.okWide P W .any base t v) (hW : DataW.Whole enc P fn.params.toList s.vars false W args.toList ds gs before) :
    Calls P F args W fun e' W' => ∃ v, e' = .returned v ∧ s.post enc P fn false fresh false false W args v W' := by
  have hW' := hW
  obtain ⟨p, q, hA, hV, rfl, hfz, hnd⟩ := hW
  have hlt : ∀ x ∈ p ++ q, x.block < W.heap.size := hW'.lt
  rw [hts] at hA
  have hlen : ds.length = ts.length ∧ args.toList.length = ts.length := by
    have : ∀ (ts : List TypeId) (vs : List Value) (ds : List (DataW H)) (ps : List MemPlace), DataW.TrodAll enc P W 0 (fun _ => true) true ts vs ds ps → ds.length = ts.length ∧ vs.length = ts.length := by
      intro ts
      induction ts with
      | nil => intro vs ds ps h; obtain ⟨rfl, rfl, rfl⟩ := trodAll_nil h; exact ⟨rfl, rfl⟩
      | cons t ts ih =>
        intro vs ds ps h
        obtain ⟨v, vs', d, ds', p, q, rfl, rfl, rfl, _, hb⟩ := trodAll_cons h
        have := ih _ _ _ hb
        simp [this.1, this.2]
    exact this _ _ _ _ hA
  rw [hvars] at hV
  obtain ⟨rfl, rfl⟩ : gs = [] ∧ q = [] := trodVars_none hV
  obtain ⟨a, h1, h2, h3⟩ := hrd W _ _ _ base hA fun j t v hj hv => hval j t v (by rw [← hts] at hj; simpa using hj) (by simpa using hv)
  refine (hlaw a h1 (there W) W args (fun _ h => h) (by simpa using h2.symm) h3).mono ?_
  rintro e' W' ⟨c, rfl, hev, hrep⟩
  simp only [Rep] at hrep
  subst hrep
  have hbl : Below W.heap.size W W' := ⟨hev.os, hev.tape, hev.output, hev.size, fun k hk => hev.old k hk (by rintro ⟨id, g, h⟩; cases h)⟩
  have hfe : s.fn H (ds ++ []) = { results := [.lit (.bool true)], args := ds } := by rw [List.append_nil]; exact hfn ds hlen.1
  refine ⟨_, rfl, post_of_same (pa := p) (pv := []) hW' (fun b sp hd => ?_) (fun sp hsp => ?_) (fun sp hsp => ?_) rfl (keptBut_below hbl _) hev.fz (ok_one hres rfl (okWide_bool_mk hb _))⟩
  · rw [hfe, hres]
    exact trodAll_mk1 (shut_bool hb true)
  · rw [hfe, hts]
    exact trodAll_stays hl hreads hA (fun x hx => hbl.same (hlt x (by simp [hx]))) fun x hx => hsp x (by simp [hx])
  · rw [hfe, hvars]
    rfl
end Go.Fam
