import Derived.Test.YtgcinomjcgebhaaG2
import Derived.Laws.StructEq
import Derived.ProofKit
import Derived.OpenShut
import Derived.Test.YtgcinomjcgebhaaRows
import Derived.Test.YtgcinomjcgebhaaChecked
set_option linter.all false
/- '==' on structs of integers, and such structs as keys. -/
namespace Go.Fam
variable {P : Program}
/-- the size of a type whose values are integers, or structs of such; none: another type -/
def flatT (P : Program) : Nat → TypeId → Option Nat
  | 0, _ => none
  | d + 1, t => match P.underlying t with
    | some (.int .i64) => some 1
    | some (.struct fs) => if P.stoodInHeld t || (szB P t).isNone then none else
      match fs.toList.foldlM (fun off f => if f.name == "_" || f.offset != off then none else (flatT P d f.type).map (off + ·)) 0 with
      | some n => if szB P t == some n then some n else none
      | none => none
    | _ => none
def flatV (P : Program) (t : TypeId) (xs : List Int) : Value := if isAggB P t then .agg (xs.map (Value.int .i64)).toArray else .int .i64 (xs.headD 0)
structure FlatOk (P : Program) (d : Nat) (t : TypeId) (n : Nat) : Prop where
  eq : ∀ d', d ≤ d' → ∀ (xs ys : List Int) (w : World), xs.length = n → ys.length = n → (Op.equalIn d' t (flatV P t xs) (flatV P t ys)).run P w = .ok (decide (xs = ys)) w
  key : ∀ d', d ≤ d' → ∀ (xs : List Int) (e : Bool) (w : World), xs.length = n → (Instr.checkKey e d' t (flatV P t xs)).run P w = .ok () w
  part : ∀ (xs : List Int) (off : Nat) (w : World), off + n ≤ xs.length → (part t (xs.map (Value.int .i64)).toArray off).run P w = .ok (flatV P t ((xs.drop off).take n)) w
theorem take_drop_split {α : Type} (xs : List α) (off k : Nat) : xs.drop off = (xs.drop off).take k ++ xs.drop (off + k) := by
  rw [← List.drop_drop, List.take_append_drop]
theorem flatFs_eq {d : Nat} (ih : ∀ t n, flatT P d t = some n → FlatOk P d t n) : ∀ (fs : List Field) (off n : Nat),
    fs.foldlM (fun off f => if f.name == "_" || f.offset != off then none else (flatT P d f.type).map (off + ·)) off = some n →
    off ≤ n ∧ ∀ (d' : Nat), d ≤ d' → ∀ (xs ys : List Int) (w : World), xs.length = n → ys.length = n →
      (Op.eqFields d' (xs.map (Value.int .i64)).toArray (ys.map (Value.int .i64)).toArray fs).run P w = .ok (decide (xs.drop off = ys.drop off)) w ∧
      ∀ e, (forIn fs PUnit.unit fun f (_ : PUnit) => (if f.name ≠ "_" then (do let c ← part f.type (xs.map (Value.int .i64)).toArray f.offset; Instr.checkKey e d' f.type c; pure (ForInStep.yield PUnit.unit) : Sem (ForInStep PUnit)) else pure (ForInStep.yield PUnit.unit))).run P w = .ok PUnit.unit w
  | [], off, n, h => by
    simp at h; subst h
    refine ⟨Nat.le_refl _, fun d' _ xs ys w hx hy => ⟨?_, fun e => by simp⟩⟩
    have h1 : xs.drop off = [] := by rw [List.drop_eq_nil_iff]; omega
    have h2 : ys.drop off = [] := by rw [List.drop_eq_nil_iff]; omega
    simp [Op.eqFields, h1, h2]
  | f :: fs, off, n, h => by
    rw [List.foldlM_cons] at h
    by_cases h1 : f.name = "_"
    · simp [h1] at h
    by_cases h2 : f.offset = off
    · cases h3 : flatT P d f.type with
      | none => simp [h1, h2, h3] at h
      | some k =>
        have hc : (f.name == "_" || f.offset != off) = false := by simp [h1, h2]
        rw [hc] at h
        simp only [Bool.false_eq_true, if_false, h3, Option.map_some] at h
        change List.foldlM _ (off + k) fs = some n at h
        obtain ⟨hle, hrest⟩ := flatFs_eq ih fs (off + k) n h
        have hf := ih _ _ h3
        refine ⟨by omega, fun d' hd xs ys w hx hy => ?_⟩
        have hp1 := hf.part xs off w (by omega)
        have hp2 := hf.part ys off w (by omega)
        have hl1 : ((xs.drop off).take k).length = k := by simp; omega
        have hl2 : ((ys.drop off).take k).length = k := by simp; omega
        have he := hf.eq d' hd ((xs.drop off).take k) ((ys.drop off).take k) w hl1 hl2
        obtain ⟨hr1, hr2⟩ := hrest d' hd xs ys w hx hy
        refine ⟨?_, fun e => ?_⟩
        · simp only [Op.eqFields, if_pos (show f.name ≠ "_" from h1), Sem.run_bind, h2, hp1, hp2, he, Result.andThen_ok]
          by_cases e : (xs.drop off).take k = (ys.drop off).take k
          · simp only [e, decide_true, Bool.not_true, Bool.false_eq_true, if_false, hr1]
            congr 1
            rw [decide_eq_decide]
            rw [take_drop_split xs off k, take_drop_split ys off k, e]
            exact List.append_cancel_left_eq _ _ _ ▸ Iff.rfl
          · simp only [e, decide_false, Bool.not_false, if_true, Sem.run_pure]
            congr 1
            symm
            rw [decide_eq_false_iff_not]
            intro hc
            exact e (by rw [hc])
        · have hk := hf.key d' hd ((xs.drop off).take k) e w hl1
          simp only [List.forIn_cons, if_pos (show f.name ≠ "_" from h1), Sem.run_bind, h2, hp1, hk, Result.andThen_ok, Sem.run_pure]
          exact hr2 e
    · simp [h1, h2] at h
theorem flatT_ok : ∀ (d : Nat) (t : TypeId) (n : Nat), flatT P d t = some n → FlatOk P d t n
  | 0, _, _, h => by simp [flatT] at h
  | d + 1, t, n, h => by
    rw [flatT] at h
    cases hu : P.underlying t with
    | none => simp [hu] at h
    | some desc =>
      rw [hu] at h
      cases desc <;> first | (simp at h; done) | skip
      · rename_i k
        cases k <;> first | (simp at h; done) | skip
        simp at h; subst h
        have ha : isAggB P t = false := by simp [isAggB, hu]
        refine ⟨fun d' hd xs ys w hx hy => ?_, fun d' hd xs e w hx => ?_, fun xs off w hx => ?_⟩
        · obtain ⟨d', rfl⟩ : ∃ k, d' = k + 1 := ⟨d' - 1, by omega⟩
          match xs, ys, hx, hy with
          | [a], [b], _, _ =>
            simp only [flatV, ha, if_false, Bool.false_eq_true, List.headD_cons]
            rw [run_equalIn_int w d' t .i64 .i64 a b hu]
            congr 1
            rw [Bool.eq_iff_iff]; simp
        · obtain ⟨d', rfl⟩ : ∃ k, d' = k + 1 := ⟨d' - 1, by omega⟩
          simp [Instr.checkKey, run_underlying hu, flatV, ha]
        · have hlt : off < xs.length := by omega
          simp only [part, Sem.run_bind, run_isAgg' hu, Result.andThen_ok, ha, flatV, Bool.false_eq_true, if_false]
          have h1 : ((xs.drop off).take 1).headD 0 = xs[off] := by rw [List.drop_eq_getElem_cons hlt]; rfl
          rw [h1]
          simp [hlt]
      · rename_i fs
        simp only at h
        by_cases hs : (P.stoodInHeld t || (szB P t).isNone) = true
        · simp [hs] at h
        · rw [if_neg hs] at h
          simp at hs
          have ha : isAggB P t = true := by simp [isAggB, hu]
          split at h
          · rename_i m hm
            split at h
            · rename_i hsz
              simp at h hsz; subst h
              obtain ⟨_, hfs⟩ := flatFs_eq (fun t n => flatT_ok d t n) fs.toList 0 m hm
              have hff : P.fieldsOf t = fs := by simp [Program.fieldsOf, hu]
              refine ⟨fun d' hd xs ys w hx hy => ?_, fun d' hd xs e w hx => ?_, fun xs off w hx => ?_⟩
              · obtain ⟨d', rfl⟩ : ∃ k, d' = k + 1 := ⟨d' - 1, by omega⟩
                simp only [flatV, ha, if_true]
                rw [run_equalIn_struct w d' t _ _ (by rw [hff]; exact hu) hs.1, hff, (hfs d' (by omega) xs ys w hx hy).1]
                simp
              · obtain ⟨d', rfl⟩ : ∃ k, d' = k + 1 := ⟨d' - 1, by omega⟩
                have := (hfs d' (by omega) xs xs w hx hx).2 e
                simp only [flatV, ha, if_true, Instr.checkKey, Sem.run_bind, run_underlying hu, Result.andThen_ok]
                rw [← Array.forIn_toList]
                rw [this]; rfl
              · simp only [part, Sem.run_bind, run_isAgg' hu, Result.andThen_ok, ha, flatV, if_true, run_sizeOf' hsz, Sem.run_pure]
                congr 2
                apply Array.ext'
                simp [List.map_drop, List.map_take]
            · simp at h
          · simp at h
theorem EqFlat.of {t : TypeId} {n : Nat} {fs : Array Field} (hu : P.underlying t = some (.struct fs)) (hf : flatT P 9 t = some n) (hg : P.eqGuardType P.depth t = false) : EqFlat P t n := by
  have ho := flatT_ok 9 t n hf
  have ha : isAggB P t = true := by simp [isAggB, hu]
  have hv : ∀ xs, flatV P t xs = .agg (xs.map (Value.int .i64)).toArray := fun xs => by simp [flatV, ha]
  refine ⟨⟨fs, hu⟩, fun xs ys w hx hy => ⟨fun op x y hop => ⟨run_eqGuard_agg w op t x y _ _ hg, ?_⟩, ?_, fun e => ?_⟩⟩
  · have := ho.eq 10000 (by decide) xs ys w hx hy
    rw [hv, hv] at this
    rcases hop with rfl | rfl
    · rw [run_eql_struct, this]; simp [Result.andThen, show (BinOp.eql == BinOp.neq) = false from rfl]
    · rw [run_neq_struct, this]; simp [Result.andThen]
  · have := ho.eq 10000 (by decide) xs ys w hx hy
    rw [hv, hv] at this
    exact this
  · have := ho.key 10000 (by decide) xs e w hx
    rw [hv] at this
    exact this
end Go.Fam
/- From a given input to values: what is read is what the logic represents. -/
namespace Go.Fam
open Go.ChangeShapes Go.WideShapes Go.ChangeAt Go.RowKit
variable {P : Program} {W : World} {H : Type} {enc : TypeId × Value → H} {α β : Type}
/-- all blocks that are there -/
def there (W : World) : Nat → Prop := fun n => n < W.heap.size
/-- values of type t, read at W, lie as e says -/
def Rd (enc : TypeId × Value → H) (P : Program) (W : World) (t : TypeId) (e : α → List V) (ok : α → Prop) : Prop :=
  ∀ fuel (cs : List Value) d ps, DataW.trod enc P W 0 (fun _ => true) true fuel t cs = some (d, ps) → ∃ a, ok a ∧ (e a).length = cs.length ∧ RepL (there W) W noO (e a) cs ∧ ∀ c ∈ cs, c.oneCell' = true
theorem Rd.map {t : TypeId} {e : α → List V} {ok : α → Prop} (h : Rd enc P W t e ok) {e' : β → List V} {ok' : β → Prop} (g : α → β) (he : ∀ a, e' (g a) = e a) (hok : ∀ a, ok a → ok' (g a)) : Rd enc P W t e' ok' := by
  intro fuel cs d ps hd
  obtain ⟨a, h1, h2, h3, h4⟩ := h fuel cs d ps hd
  exact ⟨g a, hok a h1, by rw [he]; exact h2, by rw [he]; exact h3, h4⟩
theorem rd_int {t : TypeId} (hu : P.underlying t = some (.int .i64)) : Rd enc P W t (fun n : Int => [.i n]) inI := by
  intro fuel cs d ps h
  cases fuel with
  | zero => simp [DataW.trod] at h
  | succ fuel =>
    unfold DataW.trod at h
    split at h <;> rename_i heq <;> (try rw [hu] at heq) <;> first | (cases heq; done) | skip
    · cases heq
      rename_i k' n
      split at h
      · rename_i hk
        obtain ⟨rfl, hw⟩ := hk
        refine ⟨n, ?_, rfl, by simp [RepL, Rep], by simp [Value.oneCell']⟩
        simp [Lit.wf, IntKind.min, IntKind.max, IntKind.signed, IntKind.bits] at hw
        unfold inI
        omega
      · cases h
    · cases h
theorem rd_struct {t : TypeId} {fs : Array Field} (hu : P.underlying t = some (.struct fs)) {e : α → List V} {ok : α → Prop}
    (hf : ∀ fuel (cs : List Value) xs, cs.length = P.cellsOf t → (fs.toList.mapM fun f => DataW.trod enc P W 0 (fun _ => true) true fuel f.type ((cs.drop f.offset).take (P.cellsOf f.type))) = some xs →
      ∃ a, ok a ∧ (e a).length = cs.length ∧ RepL (there W) W noO (e a) cs ∧ ∀ c ∈ cs, c.oneCell' = true) : Rd enc P W t e ok := by
  intro fuel cs d ps h
  cases fuel with
  | zero => simp [DataW.trod] at h
  | succ fuel =>
    unfold DataW.trod at h
    split at h <;> rename_i heq <;> (try rw [hu] at heq) <;> first | (cases heq; done) | skip
    · cases heq
      split at h
      · rename_i hl
        simp only [Option.map_eq_some_iff] at h
        obtain ⟨xs, hx, _⟩ := h
        exact hf fuel _ xs hl hx
      · cases h
    · cases h
/-- fields, from an offset on, of n cells -/
def RdF (enc : TypeId × Value → H) (P : Program) (W : World) (n : Nat) (fs : List Field) (off : Nat) (e : α → List V) (ok : α → Prop) : Prop :=
  ∀ fuel (cs : List Value) xs, cs.length = n → (fs.mapM fun f => DataW.trod enc P W 0 (fun _ => true) true fuel f.type ((cs.drop f.offset).take (P.cellsOf f.type))) = some xs →
    ∃ a, ok a ∧ (e a).length = (cs.drop off).length ∧ RepL (there W) W noO (e a) (cs.drop off) ∧ ∀ c ∈ cs.drop off, c.oneCell' = true
theorem rdF_nil {n off : Nat} (h : n ≤ off) : RdF enc P W n [] off (fun _ : Unit => []) (fun _ => True) := by
  intro fuel cs xs hl _
  have : cs.drop off = [] := by rw [List.drop_eq_nil_iff]; omega
  exact ⟨(), trivial, by rw [this]; rfl, by simp [RepL], by rw [this]; simp⟩
theorem rdF_cons {n off k : Nat} {f : Field} {fs : List Field} {e1 : α → List V} {ok1 : α → Prop} {e2 : β → List V} {ok2 : β → Prop} (h1 : f.offset = off) (h2 : P.cellsOf f.type = k) (hr : Rd enc P W f.type e1 ok1)
    (hs : RdF enc P W n fs (off + k) e2 ok2) : RdF enc P W n (f :: fs) off (fun p : α × β => e1 p.1 ++ e2 p.2) (fun p => ok1 p.1 ∧ ok2 p.2) := by
  intro fuel cs xs hl h
  rw [List.mapM_cons] at h
  cases hx : DataW.trod enc P W 0 (fun _ => true) true fuel f.type ((cs.drop f.offset).take (P.cellsOf f.type)) with
  | none => simp [hx] at h
  | some x =>
    cases hxs : fs.mapM (fun f => DataW.trod enc P W 0 (fun _ => true) true fuel f.type ((cs.drop f.offset).take (P.cellsOf f.type))) with
    | none => simp [hx, hxs] at h
    | some ys =>
      rw [h1, h2] at hx
      obtain ⟨a, a1, a2, a3, a4⟩ := hr fuel _ x.1 x.2 hx
      obtain ⟨b, b1, b2, b3, b4⟩ := hs fuel cs ys hl hxs
      have e : cs.drop off = (cs.drop off).take k ++ cs.drop (off + k) := by rw [← List.drop_drop, List.take_append_drop]
      refine ⟨(a, b), ⟨a1, b1⟩, ?_, ?_, ?_⟩
      · rw [e, List.length_append, List.length_append, a2, b2]
      · rw [e]; exact RepL.append _ _ _ _ a3 a2.symm b3
      · rw [e]
        intro c hc
        rcases List.mem_append.1 hc with hc | hc
        · exact a4 c hc
        · exact b4 c hc
theorem RdF.rd {t : TypeId} {fs : Array Field} (hu : P.underlying t = some (.struct fs)) {e : α → List V} {ok : α → Prop} (h : RdF enc P W (P.cellsOf t) fs.toList 0 e ok) : Rd enc P W t e ok :=
  rd_struct hu fun fuel cs xs hl hx => by simpa using h fuel cs xs hl hx
theorem rows_of {es : Nat} {e : α → List V} {ok : α → Prop} {cur : List Value} : ∀ (len off : Nat), (∀ i, i < len → ∃ x, ok x ∧ (e x).length = es ∧ (∀ c ∈ (cur.drop (off + i * es)).take es, c.oneCell' = true) ∧ RepL (there W) W noO (e x) (cur.drop (off + i * es))) →
    ∃ l : List α, l.length = len ∧ (∀ x ∈ l, ok x) ∧ RepRows (there W) W es (l.map e) (cur.drop off)
  | 0, _, _ => ⟨[], rfl, by simp, by simp [RepRows]⟩
  | len + 1, off, h => by
    obtain ⟨x, x1, x2, x3, x4⟩ := h 0 (by omega)
    obtain ⟨l, l1, l2, l3⟩ := rows_of len (off + es) fun i hi => by
      have := h (i + 1) (by omega)
      rwa [Nat.succ_mul, show off + (i * es + es) = off + es + i * es by omega] at this
    simp only [Nat.zero_mul, Nat.add_zero] at x3 x4
    refine ⟨x :: l, by simp [l1], ?_, ?_⟩
    · intro y hy
      rcases List.mem_cons.1 hy with rfl | hy
      · exact x1
      · exact l2 y hy
    · simp only [List.map_cons, RepRows]
      exact ⟨⟨x2, x3⟩, x4, by rw [List.drop_drop]; exact l3⟩
theorem rd_slice {t el : TypeId} {es : Nat} {e : α → List V} {ok : α → Prop} (hu : P.underlying t = some (.slice el)) (hk : P.cellsOf el = es) (h0 : es ≠ 0) (he : Rd enc P W el e ok) :
    Rd enc P W t (fun l : List α => [.sl es (l.map e)]) (fun l => (∀ x ∈ l, ok x) ∧ l.length ≤ maxLen) := by
  intro fuel cs d ps h
  cases fuel with
  | zero => simp [DataW.trod] at h
  | succ fuel =>
    unfold DataW.trod at h
    split at h <;> rename_i heq <;> (try rw [hu] at heq) <;> first | (cases heq; done) | skip
    · exact ⟨[], by simp, rfl, by simp [RepL, Rep], by simp [Value.oneCell']⟩
    · cases heq
      rename_i a len cap
      split at h
      · rename_i hb
        obtain ⟨_, hlc, hcm⟩ := hb
        rw [Option.bind_eq_some_iff] at h
        obtain ⟨elems, hel, _⟩ := h
        have hlen := mapM_some_length hel
        simp only [List.length_range] at hlen
        have hget : ∀ i, i < len → ∃ row x, W.cells? 0 (a.add (i * es)) es = some row ∧ ok x ∧ (e x).length = es ∧ RepL (there W) W noO (e x) row ∧ ∀ c ∈ row, c.oneCell' = true := by
          intro i hi
          have h1 := mapM_some_get hel i i (by simp [hi])
          rw [List.getElem?_eq_getElem (by omega), hk, Option.bind_eq_some_iff] at h1
          obtain ⟨row, hrow, hx⟩ := h1
          obtain ⟨x, x1, x2, x3, x4⟩ := he fuel row _ _ hx
          exact ⟨row, x, hrow, x1, by rw [x2]; exact (World.cells?_some hrow).2.1, x3, x4⟩
        cases len with
        | zero => exact ⟨[], by simp, rfl, by simp [RepL, Rep], by simp [Value.oneCell']⟩
        | succ len =>
          obtain ⟨blk, off, spot⟩ := a
          obtain ⟨row0, _, hrow0, _⟩ := hget 0 (by omega)
          have hc0 := (World.cells?_some hrow0).2.2 0 (by omega)
          have hl0 := (World.cells?_some hrow0).2.1
          rw [List.getElem?_eq_getElem (by omega)] at hc0
          simp only [Nat.zero_mul, Addr.add, if_true, World.cell?] at hc0
          cases hbk : W.heap[blk]? with
          | none => rw [hbk] at hc0; cases hc0
          | some o =>
            rw [hbk] at hc0
            cases o <;> first | (cases hc0; done) | skip
            rename_i cur elt fr
            cases spot with
            | some s => simp at hc0
            | none =>
              have hrows : ∀ i, i < len + 1 → ∃ x, ok x ∧ (e x).length = es ∧ (∀ c ∈ (cur.toList.drop (off + i * es)).take es, c.oneCell' = true) ∧ RepL (there W) W noO (e x) (cur.toList.drop (off + i * es)) := by
                intro i hi
                obtain ⟨row, x, hrow, x1, x2, x3, x4⟩ := hget i hi
                obtain ⟨_, r2, r3⟩ := World.cells?_some hrow
                have hadd : ∀ m, (⟨blk, off, none⟩ : Addr).add m = ⟨blk, off + m, none⟩ := by
                  intro m; unfold Addr.add; split
                  · subst m; rfl
                  · rfl
                have hrw : row = (cur.toList.drop (off + i * es)).take es := by
                  apply List.ext_getElem?
                  intro j
                  by_cases hj : j < es
                  · have := r3 j hj
                    rw [hadd, show (⟨blk, off + i * es, none⟩ : Addr).add j = ⟨blk, off + i * es + j, none⟩ from by unfold Addr.add; split <;> simp_all] at this
                    simp only [World.cell?, hbk, Option.isSome_none, Bool.false_eq_true, if_false] at this
                    rw [← this, List.getElem?_take, if_pos hj, List.getElem?_drop, Array.getElem?_toList]
                  · rw [List.getElem?_eq_none (by omega), List.getElem?_eq_none (by simp; omega)]
                refine ⟨x, x1, x2, by rw [← hrw]; exact x4, ?_⟩
                have := RepL.more (e x) row ((cur.toList.drop (off + i * es)).drop es) x3
                rwa [hrw, List.take_append_drop] at this
              obtain ⟨l, l1, l2, l3⟩ := rows_of (len + 1) off hrows
              refine ⟨l, ⟨l2, by rw [l1]; omega⟩, rfl, ?_, by simp [Value.oneCell']⟩
              simp only [RepL, Rep, and_true]
              refine ⟨_, cap, by rw [List.length_map, l1], by simp; omega, .inr ⟨blk, off, cur, elt, fr, rfl, ?_, hbk, l3⟩⟩
              exact (Array.getElem?_eq_some_iff.1 hbk).1
      · cases h
    · cases h
/-- fields, given as types and offsets -/
def RdP (enc : TypeId × Value → H) (P : Program) (W : World) (n : Nat) (ps : List (TypeId × Nat)) (off : Nat) (e : α → List V) (ok : α → Prop) : Prop :=
  ∀ fs : List Field, fs.map (fun f => (f.type, f.offset)) = ps → RdF enc P W n fs off e ok
theorem rdP_nil {n off : Nat} (h : n ≤ off) : RdP enc P W n [] off (fun _ : Unit => []) (fun _ => True) := by
  intro fs hf
  have : fs = [] := by simpa using hf
  subst this
  exact rdF_nil h
theorem rdP_cons {n off k : Nat} {t : TypeId} {ps : List (TypeId × Nat)} {e1 : α → List V} {ok1 : α → Prop} {e2 : β → List V} {ok2 : β → Prop} (h2 : P.cellsOf t = k) (hr : Rd enc P W t e1 ok1)
    (hs : RdP enc P W n ps (off + k) e2 ok2) : RdP enc P W n ((t, off) :: ps) off (fun p : α × β => e1 p.1 ++ e2 p.2) (fun p => ok1 p.1 ∧ ok2 p.2) := by
  intro fs hf
  cases fs with
  | nil => cases hf
  | cons f fs =>
    simp only [List.map_cons, List.cons.injEq, Prod.mk.injEq] at hf
    obtain ⟨⟨rfl, ho⟩, hf⟩ := hf
    exact rdF_cons ho h2 hr (hs fs hf)
theorem RdP.rd {t : TypeId} {fs : Array Field} {n : Nat} {ps : List (TypeId × Nat)} (hu : P.underlying t = some (.struct fs)) (hn : P.cellsOf t = n) (hp : fs.toList.map (fun f => (f.type, f.offset)) = ps) {e : α → List V} {ok : α → Prop} (h : RdP enc P W n ps 0 e ok) : Rd enc P W t e ok := by
  subst hn
  exact RdF.rd hu (h _ hp)
/-- a value, as an argument -/
def RdV (enc : TypeId × Value → H) (P : Program) (W : World) (t : TypeId) (e : α → V) (ok : α → Prop) : Prop :=
  ∀ v d ps base, DataW.Trod enc P W 0 (fun _ => true) true t v d ps → Value.okWide P W .any base t v → ∃ a, ok a ∧ Rep (there W) W noO (e a) v
theorem Rd.agg {t : TypeId} {fs : Array Field} (hu : P.underlying t = some (.struct fs)) {e : α → List V} {ok : α → Prop} (h : Rd enc P W t e ok) : RdV enc P W t (fun a => .ag (e a)) ok := by
  rintro v d ps base ⟨fuel, hf⟩ hw
  obtain ⟨cs, rfl, _⟩ := okWide_struct hu hw
  obtain ⟨a, h1, h2, h3, _⟩ := h fuel _ d ps hf
  exact ⟨a, h1, cs, rfl, by simpa [Value.cells] using h2.symm, by simpa [Value.cells] using h3⟩
theorem Rd.one {t : TypeId} {e : α → V} {ok : α → Prop} (hone : ∀ v base, Value.okWide P W .any base t v → v.oneCell' = true) (h : Rd enc P W t (fun a => [e a]) ok) : RdV enc P W t e ok := by
  rintro v d ps base ⟨fuel, hf⟩ hw
  have hc := hone v base hw
  have hcs : v.cells.toList = [v] := by cases v <;> simp [Value.oneCell'] at hc <;> rfl
  rw [hcs] at hf
  obtain ⟨a, h1, _, h3, _⟩ := h fuel _ d ps hf
  simp only [RepL, and_true] at h3
  exact ⟨a, h1, h3⟩
/-- all arguments -/
def RdA (enc : TypeId × Value → H) (P : Program) (W : World) (ts : List TypeId) (e : α → List V) (ok : α → Prop) : Prop :=
  ∀ vs ds ps base, DataW.TrodAll enc P W 0 (fun _ => true) true ts vs ds ps → (∀ (j : Nat) t v, ts[j]? = some t → vs[j]? = some v → Value.okWide P W .any base t v) → ∃ a, ok a ∧ (e a).length = vs.length ∧ RepL (there W) W noO (e a) vs
theorem rdA_nil : RdA enc P W [] (fun _ : Unit => []) (fun _ => True) := by
  intro vs ds ps base h _
  obtain ⟨rfl, _, _⟩ := trodAll_nil h
  exact ⟨(), trivial, rfl, by simp [RepL]⟩
theorem rdA_cons {t : TypeId} {ts : List TypeId} {e1 : α → V} {ok1 : α → Prop} {e2 : β → List V} {ok2 : β → Prop} (h1 : RdV enc P W t e1 ok1) (h2 : RdA enc P W ts e2 ok2) :
    RdA enc P W (t :: ts) (fun p : α × β => e1 p.1 :: e2 p.2) (fun p => ok1 p.1 ∧ ok2 p.2) := by
  intro vs ds ps base h hv
  obtain ⟨v, vs', d, ds', p, q, rfl, rfl, rfl, ha, hb⟩ := trodAll_cons h
  obtain ⟨a, a1, a2⟩ := h1 v d p base ha (hv 0 t v rfl rfl)
  obtain ⟨b, b1, b2, b3⟩ := h2 vs' ds' q base hb fun j t v hj hv' => hv (j + 1) t v (by simpa using hj) (by simpa using hv')
  exact ⟨(a, b), ⟨a1, b1⟩, by simp [b2], a2, b3⟩
theorem trodAll_stays (hl : laidOutB P = true) {W' : World} {sp' : Nat → Bool} : ∀ {ts : List TypeId} {vs : List Value} {ds : List (DataW H)} {ps : List MemPlace}, (ts.all fun t => P.readableRec t && decide (t < P.types.size)) = true →
    DataW.TrodAll enc P W 0 (fun _ => true) true ts vs ds ps → (∀ p ∈ ps, W.sameAt W' p) → (∀ p ∈ ps, sp' p.block = true) → DataW.TrodAll enc P W' 0 sp' true ts vs ds ps
  | [], vs, ds, ps, _, h, _, _ => by
    obtain ⟨rfl, rfl, rfl⟩ := trodAll_nil h
    exact trodAll_mk0
  | t :: ts, vs, ds, ps, hr, h, hs, hsp => by
    obtain ⟨v, vs', d, ds', p, q, rfl, rfl, rfl, ha, hb⟩ := trodAll_cons h
    simp only [List.all_cons, Bool.and_eq_true, decide_eq_true_eq] at hr
    exact trodAll_cons_mk (WideElems.Trod_stays hl hr.1.1 hr.1.2 ha (fun x hx => hs x (by simp [hx])) fun x hx => hsp x (by simp [hx]))
      (trodAll_stays hl hr.2 hb (fun x hx => hs x (by simp [hx])) fun x hx => hsp x (by simp [hx]))
theorem keptBut_below {W' : World} (h : Below W.heap.size W W') (may : MemPlace → Prop) : W.keptBut W' may := by
  refine ⟨h.os, h.output, fun i hi => ?_⟩
  rw [h.block i hi]
  cases W.heap[i]? with
  | none => rfl
  | some o => cases o <;> first | exact ⟨rfl, rfl, rfl, fun _ _ => rfl⟩ | exact .inr ⟨rfl, rfl⟩ | rfl
/-- THE BRIDGE: a law that is a pure call giving true, for all values that can be read -/
theorem bridge {F : FuncId} {fn : Func} {s : ChangeSpec} {fresh : Bool} (hl : laidOutB P = true) {e : α → List V} {ok : α → Prop} {ts : List TypeId} (hts : fn.params.toList = ts) (hrd : ∀ W, RdA enc P W ts e ok)
    (hreads : (ts.all fun t => P.readableRec t && decide (t < P.types.size)) = true) (hvars : s.vars = []) (hfn : ∀ ds : List (DataW H), ds.length = ts.length → s.fn H ds = { results := [.lit (.bool true)], args := ds })
    {tb : TypeId} (hres : fn.resultTypes = #[tb]) (hb : P.underlying tb = some .bool) (hlaw : ∀ a, ok a → PureCall P F (e a) (.b true))
    {W : World} {base : Nat} {args : Array Value} {ds gs : List (DataW H)} {before : List MemPlace}
    (hval : ∀ (j : Nat) t v, fn.params[j]? = some t → args[j]? = some v → Value.okWide P W .any base t v) (hW : DataW.Whole enc P fn.params.toList s.vars false W args.toList ds gs before) :
    Calls P F args W fun e' W' => ∃ v, e' = .returned v ∧ s.post enc P fn false fresh false false W args v W' := by
  have hW' := hW
  obtain ⟨p, q, hA, hV, rfl, hfz, hnd⟩ := hW
  have hlt : ∀ x ∈ p ++ q, x.block < W.heap.size := hW'.lt
  rw [hts] at hA
  have hlen : ds.length = ts.length ∧ args.toList.length = ts.length := by
    have : ∀ (ts : List TypeId) (vs : List Value) (ds : List (DataW H)) (ps : List MemPlace), DataW.TrodAll enc P W 0 (fun _ => true) true ts vs ds ps → ds.length = ts.length ∧ vs.length = ts.length := by
      intro ts
      induction ts with
      | nil => intro vs ds ps h; obtain ⟨rfl, rfl, rfl⟩ := trodAll_nil h; exact ⟨rfl, rfl⟩
      | cons t ts ih =>
        intro vs ds ps h
        obtain ⟨v, vs', d, ds', p, q, rfl, rfl, rfl, _, hb⟩ := trodAll_cons h
        have := ih _ _ _ hb
        simp [this.1, this.2]
    exact this _ _ _ _ hA
  rw [hvars] at hV
  obtain ⟨rfl, rfl⟩ : gs = [] ∧ q = [] := trodVars_none hV
  obtain ⟨a, h1, h2, h3⟩ := hrd W _ _ _ base hA fun j t v hj hv => hval j t v (by rw [← hts] at hj; simpa using hj) (by simpa using hv)
  refine (hlaw a h1 (there W) W args (fun _ h => h) (by simpa using h2.symm) h3).mono ?_
  rintro e' W' ⟨c, rfl, hev, hrep⟩
  simp only [Rep] at hrep
  subst hrep
  have hbl : Below W.heap.size W W' := ⟨hev.os, hev.tape, hev.output, hev.size, fun k hk => hev.old k hk (by rintro ⟨id, g, h⟩; cases h)⟩
  have hfe : s.fn H (ds ++ []) = { results := [.lit (.bool true)], args := ds } := by rw [List.append_nil]; exact hfn ds hlen.1
  refine ⟨_, rfl, post_of_same (pa := p) (pv := []) hW' (fun b sp hd => ?_) (fun sp hsp => ?_) (fun sp hsp => ?_) rfl (keptBut_below hbl _) hev.fz (ok_one hres rfl (okWide_bool_mk hb _))⟩
  · rw [hfe, hres]
    exact trodAll_mk1 (shut_bool hb true)
  · rw [hfe, hts]
    exact trodAll_stays hl hreads hA (fun x hx => hbl.same (hlt x (by simp [hx]))) fun x hx => hsp x (by simp [hx])
  · rw [hfe, hvars]
    rfl
end Go.Fam
set_option linter.unusedSimpArgs false
set_option linter.unusedVariables false
namespace Go.C02
open Go.Fam Go.Proofs Go.ChangeAt
variable {H : Type} {enc : TypeId × Value → H} {W : World}
theorem uInt : Try.prog.underlying 3 = some (.int .i64) := by kernel_rfl
theorem rdInt : Rd enc Try.prog W 3 eI inI := rd_int uInt
theorem rdSpan : Rd enc Try.prog W 34 eSpan (fun _ => True) :=
  (RdP.rd (fs := Try.prog.fieldsOf 34) (n := 2) (ps := [(3, 0), (3, 1)]) (by kernel_rfl) (by kernel_rfl) (by kernel_rfl)
    (rdP_cons (k := 1) (by kernel_rfl) rdInt (rdP_cons (k := 1) (by kernel_rfl) rdInt (rdP_nil (by decide))))).map (fun p => ⟨p.1, p.2.1⟩) (fun _ => rfl) fun _ _ => trivial
theorem rdStrip : Rd enc Try.prog W 52 eStrip (fun _ => True) :=
  (RdP.rd (fs := Try.prog.fieldsOf 52) (n := 3) (ps := [(3, 0), (34, 1)]) (by kernel_rfl) (by kernel_rfl) (by kernel_rfl)
    (rdP_cons (k := 1) (by kernel_rfl) rdInt (rdP_cons (k := 2) (by kernel_rfl) rdSpan (rdP_nil (by decide))))).map (fun p => ⟨p.1, p.2.1⟩) (fun _ => rfl) fun _ _ => trivial
theorem rdStrips : Rd enc Try.prog W 55 (fun l : List Strip => [.sl 3 (l.map eStrip)]) (fun _ => True) :=
  (rd_slice (el := 52) (es := 3) (by kernel_rfl) (by kernel_rfl) (by decide) rdStrip).map id (fun _ => rfl) fun _ _ => trivial
theorem rdInts : Rd enc Try.prog W 23 (fun l : List Int => [.sl 1 (l.map eI)]) (fun l => ∀ x ∈ l, inI x) :=
  (rd_slice (el := 3) (es := 1) (by kernel_rfl) (by kernel_rfl) (by decide) rdInt).map id (fun _ => rfl) fun _ h => h.1
theorem rdSpans : Rd enc Try.prog W 24 (fun l : List Span => [.sl 2 (l.map eSpan)]) (fun _ => True) :=
  (rd_slice (el := 34) (es := 2) (by kernel_rfl) (by kernel_rfl) (by decide) rdSpan).map id (fun _ => rfl) fun _ _ => trivial
theorem rdBolt : Rd enc Try.prog W 57 eBolt (fun _ => True) :=
  (RdP.rd (fs := Try.prog.fieldsOf 57) (n := 4) (ps := [(34, 0), (55, 2), (3, 3)]) (by kernel_rfl) (by kernel_rfl) (by kernel_rfl)
    (rdP_cons (k := 2) (by kernel_rfl) rdSpan (rdP_cons (k := 1) (by kernel_rfl) rdStrips (rdP_cons (k := 1) (by kernel_rfl) rdInt (rdP_nil (by decide)))))).map (fun p => ⟨p.1, p.2.1, p.2.2.1⟩) (fun _ => rfl) fun _ _ => trivial
theorem rdBolts : Rd enc Try.prog W 22 (fun l : List Bolt => [.sl 4 (l.map eBolt)]) (fun _ => True) :=
  (rd_slice (el := 57) (es := 4) (by kernel_rfl) (by kernel_rfl) (by decide) rdBolt).map id (fun _ => rfl) fun _ _ => trivial
theorem rdDome : Rd enc Try.prog W 26 eDome (fun _ => True) :=
  (RdP.rd (fs := Try.prog.fieldsOf 26) (n := 6) (ps := [(22, 0), (23, 1), (3, 2), (24, 3), (23, 4), (3, 5)]) (by kernel_rfl) (by kernel_rfl) (by kernel_rfl)
    (rdP_cons (k := 1) (by kernel_rfl) rdBolts (rdP_cons (k := 1) (by kernel_rfl) rdInts (rdP_cons (k := 1) (by kernel_rfl) rdInt
      (rdP_cons (k := 1) (by kernel_rfl) rdSpans (rdP_cons (k := 1) (by kernel_rfl) rdInts (rdP_cons (k := 1) (by kernel_rfl) rdInt (rdP_nil (by decide))))))))).map
    (fun p => ⟨p.1, p.2.1, p.2.2.1, p.2.2.2.1, p.2.2.2.2.1, p.2.2.2.2.2.1⟩) (fun _ => rfl) fun _ _ => trivial
theorem aDome : RdV enc Try.prog W 26 (fun d => .ag (eDome d)) (fun _ => True) := rdDome.agg (fs := Try.prog.fieldsOf 26) (by kernel_rfl)
theorem own : ownKnob Try.prog.godebug = none := by kernel_rfl
theorem laid : laidOutB Try.prog = true := by kernel_rfl
end Go.C02
/- Resolved code, printed by program (wip/tools/mkrc.py). -/
set_option maxRecDepth 8000
namespace Go.C02
open Go.Fam Go.Proofs
/- ferrule/ferrulelaw02.ClothBetween: params [26, 3, 3], free 0, slots 93 -/
/- ferrule/ferrulelaw02.ClothRounds: params [26, 3], free 0, slots 93 -/
/- ferrule/ferrulelaw02.ClothCuts: params [26, 3], free 0, slots 67 -/
/- ferrule/ferrulelaw02.ClothCurve: params [26], free 0, slots 63 -/
/- ferrule/ferrulelaw02.ClothTrue: params [26, 23, 3], free 0, slots 131 -/
/- ferrule/ferrulelaw02.ClothReached: params [26, 23, 3], free 0, slots 137 -/
/- ferrule/ferrulelaw02.ClothMore: params [26, 52, 54], free 0, slots 217 -/
def rc9 : RC :=
  (.seq (.reg false [⟨(some 3), none, [0], none, .q (.box (.t 0))⟩,
    ⟨(some 4), none, [1], none, .q (.box (.t 1))⟩,
    ⟨(some 5), none, [2], none, .q (.box (.t 2))⟩,
    ⟨(some 6), none, [], none, .q (.mv (.k (.b false)))⟩])
  (.keep [3, 4, 5] (.seq (.seq (.reg true [⟨(some 25), none, [3], none, .q (.ld true 6 (.t 3))⟩,
    ⟨(some 26), none, [5], none, .q (.fad 1 (.t 5))⟩,
    ⟨(some 27), none, [26], none, .q (.ld false 1 (.t 26))⟩,
    ⟨(some 28), none, [25, 27], none, .q (.call (.k (.fn 15 [])) [(.t 25), (.t 27)])⟩,
    ⟨(some 29), none, [28], none, .q (.not (.t 28))⟩,
    ⟨(some 30), none, [29], none, .q (.mv (.t 29))⟩,
    ⟨(some 31), (some (30, false)), [5], none, .q (.fad 0 (.t 5))⟩,
    ⟨(some 32), (some (30, false)), [31], none, .q (.ld false 1 (.t 31))⟩,
    ⟨(some 33), (some (30, false)), [32], none, .q (.bin .lss (.t 32) (.k (.i 0)))⟩,
    ⟨(some 34), none, [30, 33], none, .q (.pick (.t 30) (.k (.b true)) (.t 33))⟩,
    ⟨(some 35), none, [34], none, .q (.mv (.t 34))⟩,
    ⟨(some 36), (some (35, false)), [5], none, .q (.fad 0 (.t 5))⟩,
    ⟨(some 37), (some (35, false)), [36], none, .q (.ld false 1 (.t 36))⟩,
    ⟨(some 38), (some (35, false)), [3], none, .q (.fad 0 (.t 3))⟩,
    ⟨(some 39), (some (35, false)), [38], none, .q (.ld false 1 (.t 38))⟩,
    ⟨(some 40), (some (35, false)), [39], none, .q (.len (.t 39))⟩,
    ⟨(some 41), (some (35, false)), [37, 40], none, .q (.bin .geq (.t 37) (.t 40))⟩,
    ⟨(some 42), none, [35, 41], none, .q (.pick (.t 35) (.k (.b true)) (.t 41))⟩,
    ⟨(some 43), none, [42], none, .q (.mv (.t 42))⟩,
    ⟨(some 44), (some (43, false)), [3], none, .q (.fad 0 (.t 3))⟩,
    ⟨(some 45), (some (43, false)), [44], none, .q (.ld false 1 (.t 44))⟩,
    ⟨(some 46), (some (43, false)), [5], none, .q (.fad 0 (.t 5))⟩,
    ⟨(some 47), (some (43, false)), [46], none, .q (.ld false 1 (.t 46))⟩,
    ⟨(some 48), (some (43, false)), [45, 47], none, .q (.iad 4 (.t 45) (.t 47))⟩,
    ⟨(some 49), (some (43, false)), [48], none, .q (.fad 2 (.t 48))⟩,
    ⟨(some 50), (some (43, false)), [49], none, .q (.ld false 1 (.t 49))⟩,
    ⟨(some 51), (some (43, false)), [50], none, .q (.len (.t 50))⟩,
    ⟨(some 52), (some (43, false)), [51], none, .q (.bin .geq (.t 51) (.k (.i 8)))⟩,
    ⟨(some 53), none, [43, 52], none, .q (.pick (.t 43) (.k (.b true)) (.t 52))⟩])
  (.keep [3, 4, 5, 53] (.cond (.t 53)
    (.seq (.reg false [⟨(some 54), none, [], none, .q (.call (.k (.fn 16 [])) [])⟩,
      ⟨(some 6), none, [54], none, .q (.mv (.t 54))⟩])
    .ret)
    .skip)))
  (.keep [3, 4, 5] (.seq (.reg false [⟨(some 55), none, [3], none, .q (.ld true 6 (.t 3))⟩,
    ⟨(some 56), none, [55], none, .q (.call (.k (.fn 22 [])) [(.t 55)])⟩,
    ⟨(some 7), none, [], none, .w (.alc [(.z 4), (.z 1), (.i 0), (.z 2), (.z 1), (.i 0)])⟩,
    ⟨none, none, [7, 56], none, .w (.st 6 (.t 7) (.t 56))⟩])
  (.keep [3, 4, 5, 7] (.seq (.any false 1 [⟨⟨(some 57), none, [7], none, .q (.fad 0 (.t 7))⟩, [], []⟩,
    ⟨⟨(some 58), none, [57], none, .q (.ld false 1 (.t 57))⟩, [], [0]⟩,
    ⟨⟨(some 59), none, [5], none, .q (.fad 0 (.t 5))⟩, [], []⟩,
    ⟨⟨(some 60), none, [59], none, .q (.ld false 1 (.t 59))⟩, [], [2]⟩,
    ⟨⟨(some 61), none, [7], none, .q (.fad 0 (.t 7))⟩, [], []⟩,
    ⟨⟨(some 62), none, [61], none, .q (.ld false 1 (.t 61))⟩, [], [4]⟩,
    ⟨⟨(some 63), none, [5], none, .q (.fad 0 (.t 5))⟩, [], []⟩,
    ⟨⟨(some 64), none, [63], none, .q (.ld false 1 (.t 63))⟩, [], [6]⟩,
    ⟨⟨(some 65), none, [62, 64], none, .q (.iad 4 (.t 62) (.t 64))⟩, [], [5, 4, 7, 6]⟩,
    ⟨⟨(some 66), none, [65], none, .q (.fad 2 (.t 65))⟩, [], [8, 5, 4, 7, 6]⟩,
    ⟨⟨(some 67), none, [66], none, .q (.ld false 1 (.t 66))⟩, [], [9, 8, 5, 4, 7, 6]⟩,
    ⟨⟨(some 68), none, [4], none, .q (.ld true 3 (.t 4))⟩, [], []⟩,
    ⟨⟨(some 69), none, [68], none, .q (.bsl 3 1 [(.i 0), (.i 0), (.i 0)] [(0, 3, (.t 68))])⟩, [], [11]⟩,
    ⟨⟨(some 70), none, [67, 69], (some 0), .w (.app 3 (.t 67) (.t 69))⟩, [0, 1, 2, 3], [10, 9, 8, 5, 4, 7, 6, 12, 11]⟩,
    ⟨⟨(some 71), none, [58, 60], none, .q (.iad 4 (.t 58) (.t 60))⟩, [], [1, 0, 3, 2, 4, 5, 6, 7, 8, 9, 10, 11, 12, 13]⟩,
    ⟨⟨(some 72), none, [71], none, .q (.fad 2 (.t 71))⟩, [], [14, 1, 0, 3, 2, 4, 5, 6, 7, 8, 9, 10, 11, 12, 13]⟩,
    ⟨⟨none, none, [72, 70], none, .w (.st 1 (.t 72) (.t 70))⟩, [], [15, 14, 1, 0, 3, 2, 4, 5, 6, 7, 8, 9, 10, 11, 12, 13]⟩])
  (.keep [3, 5, 7] (.seq (.seq (.reg false [⟨(some 73), none, [7], none, .q (.ld true 6 (.t 7))⟩,
    ⟨(some 74), none, [73], none, .q (.call (.k (.fn 39 [])) [(.t 73)])⟩,
    ⟨(some 75), none, [74], none, .q (.bin .neq (.t 74) (.k (.i 0)))⟩])
  (.keep [3, 5, 7, 75] (.cond (.t 75)
    (.seq (.reg false [⟨(some 76), none, [], none, .q (.call (.k (.fn 16 [])) [])⟩,
      ⟨(some 6), none, [76], none, .q (.mv (.t 76))⟩])
    .ret)
    .skip)))
  (.keep [3, 5, 7] (.seq (.reg false [⟨(some 78), none, [3], none, .q (.ld true 6 (.t 3))⟩,
    ⟨(some 79), none, [5], none, .q (.fad 0 (.t 5))⟩,
    ⟨(some 80), none, [79], none, .q (.ld false 1 (.t 79))⟩,
    ⟨(some 81), none, [78, 80], none, .q (.call (.k (.fn 36 [])) [(.t 78), (.t 80)])⟩,
    ⟨(some 77), none, [81], none, .q (.mv (.t 81))⟩,
    ⟨(some 82), none, [77], none, .q (.ext (.t 77) 0)⟩,
    ⟨(some 83), none, [77], none, .q (.ext (.t 77) 1)⟩,
    ⟨(some 8), none, [82], none, .q (.mv (.t 82))⟩,
    ⟨(some 9), none, [83], none, .q (.mv (.t 83))⟩])
  (.keep [3, 5, 7, 8, 9] (.seq (.reg false [⟨(some 85), none, [7], none, .q (.ld true 6 (.t 7))⟩,
    ⟨(some 86), none, [5], none, .q (.fad 0 (.t 5))⟩,
    ⟨(some 87), none, [86], none, .q (.ld false 1 (.t 86))⟩,
    ⟨(some 88), none, [85, 87], none, .q (.call (.k (.fn 36 [])) [(.t 85), (.t 87)])⟩,
    ⟨(some 84), none, [88], none, .q (.mv (.t 88))⟩,
    ⟨(some 89), none, [84], none, .q (.ext (.t 84) 0)⟩,
    ⟨(some 90), none, [84], none, .q (.ext (.t 84) 1)⟩,
    ⟨(some 10), none, [89], none, .q (.mv (.t 89))⟩,
    ⟨(some 11), none, [90], none, .q (.mv (.t 90))⟩])
  (.keep [3, 5, 7, 8, 9, 10, 11] (.seq (.seq (.reg false [⟨(some 91), none, [11], none, .q (.mv (.t 11))⟩,
    ⟨(some 92), none, [91], none, .q (.bin .neq (.t 91) (.k (.i 0)))⟩])
  (.keep [3, 5, 7, 8, 9, 10, 11, 92] (.cond (.t 92)
    (.seq (.reg true [⟨(some 93), none, [11], none, .q (.mv (.t 11))⟩,
      ⟨(some 94), none, [93], none, .q (.bin .eql (.t 93) (.k (.i 3)))⟩,
      ⟨(some 95), none, [94], none, .q (.mv (.t 94))⟩,
      ⟨(some 96), (some (95, true)), [], none, .q (.call (.k (.fn 16 [])) [])⟩,
      ⟨(some 97), none, [95, 96], none, .q (.pick (.t 95) (.t 96) (.k (.b false)))⟩,
      ⟨(some 6), none, [97], none, .q (.mv (.t 97))⟩])
    .ret)
    .skip)))
  (.keep [3, 5, 7, 8, 9, 10] (.seq (.reg false [⟨(some 99), none, [3], none, .q (.ld true 6 (.t 3))⟩,
    ⟨(some 100), none, [5], none, .q (.fad 1 (.t 5))⟩,
    ⟨(some 101), none, [100], none, .q (.ld false 1 (.t 100))⟩,
    ⟨(some 102), none, [99, 101], none, .q (.call (.k (.fn 23 [])) [(.t 99), (.t 101)])⟩,
    ⟨(some 98), none, [102], none, .q (.mv (.t 102))⟩,
    ⟨(some 103), none, [98], none, .q (.ext (.t 98) 0)⟩,
    ⟨(some 104), none, [98], none, .q (.ext (.t 98) 1)⟩,
    ⟨(some 12), none, [], none, .w (.alc [(.i 0), (.i 0)])⟩,
    ⟨none, none, [12, 103], none, .w (.st 2 (.t 12) (.t 103))⟩,
    ⟨(some 13), none, [104], none, .q (.mv (.t 104))⟩])
  (.keep [3, 5, 7, 8, 9, 10, 12, 13] (.seq (.reg false [⟨(some 106), none, [7], none, .q (.ld true 6 (.t 7))⟩,
    ⟨(some 107), none, [5], none, .q (.fad 1 (.t 5))⟩,
    ⟨(some 108), none, [107], none, .q (.ld false 1 (.t 107))⟩,
    ⟨(some 109), none, [106, 108], none, .q (.call (.k (.fn 23 [])) [(.t 106), (.t 108)])⟩,
    ⟨(some 105), none, [109], none, .q (.mv (.t 109))⟩,
    ⟨(some 110), none, [105], none, .q (.ext (.t 105) 0)⟩,
    ⟨(some 111), none, [105], none, .q (.ext (.t 105) 1)⟩,
    ⟨(some 14), none, [], none, .w (.alc [(.i 0), (.i 0)])⟩,
    ⟨none, none, [14, 110], none, .w (.st 2 (.t 14) (.t 110))⟩,
    ⟨(some 15), none, [111], none, .q (.mv (.t 111))⟩])
  (.keep [3, 5, 7, 8, 9, 10, 12, 13, 14, 15] (.seq (.reg false [⟨(some 113), none, [3], none, .q (.ld true 6 (.t 3))⟩,
    ⟨(some 114), none, [5], none, .q (.fad 1 (.t 5))⟩,
    ⟨(some 115), none, [114], none, .q (.ld false 1 (.t 114))⟩,
    ⟨(some 116), none, [113, 115], none, .q (.call (.k (.fn 17 [])) [(.t 113), (.t 115)])⟩,
    ⟨(some 112), none, [116], none, .q (.mv (.t 116))⟩,
    ⟨(some 117), none, [112], none, .q (.ext (.t 112) 0)⟩,
    ⟨(some 118), none, [112], none, .q (.ext (.t 112) 1)⟩,
    ⟨(some 16), none, [117], none, .q (.mv (.t 117))⟩,
    ⟨(some 17), none, [118], none, .q (.mv (.t 118))⟩])
  (.keep [3, 5, 7, 8, 9, 10, 12, 13, 14, 15, 16, 17] (.seq (.reg false [⟨(some 120), none, [7], none, .q (.ld true 6 (.t 7))⟩,
    ⟨(some 121), none, [5], none, .q (.fad 1 (.t 5))⟩,
    ⟨(some 122), none, [121], none, .q (.ld false 1 (.t 121))⟩,
    ⟨(some 123), none, [120, 122], none, .q (.call (.k (.fn 17 [])) [(.t 120), (.t 122)])⟩,
    ⟨(some 119), none, [123], none, .q (.mv (.t 123))⟩,
    ⟨(some 124), none, [119], none, .q (.ext (.t 119) 0)⟩,
    ⟨(some 125), none, [119], none, .q (.ext (.t 119) 1)⟩,
    ⟨(some 18), none, [124], none, .q (.mv (.t 124))⟩,
    ⟨(some 19), none, [125], none, .q (.mv (.t 125))⟩])
  (.keep [3, 5, 7, 8, 9, 10, 12, 13, 14, 15, 16, 17, 18, 19] (.seq (.seq (.reg true [⟨(some 126), none, [9], none, .q (.mv (.t 9))⟩,
    ⟨(some 127), none, [126], none, .q (.bin .neq (.t 126) (.k (.i 0)))⟩,
    ⟨(some 128), none, [127], none, .q (.mv (.t 127))⟩,
    ⟨(some 129), (some (128, false)), [13], none, .q (.mv (.t 13))⟩,
    ⟨(some 130), (some (128, false)), [129], none, .q (.bin .neq (.t 129) (.k (.i 0)))⟩,
    ⟨(some 131), none, [128, 130], none, .q (.pick (.t 128) (.k (.b true)) (.t 130))⟩,
    ⟨(some 132), none, [131], none, .q (.mv (.t 131))⟩,
    ⟨(some 133), (some (132, false)), [15], none, .q (.mv (.t 15))⟩,
    ⟨(some 134), (some (132, false)), [133], none, .q (.bin .neq (.t 133) (.k (.i 0)))⟩,
    ⟨(some 135), none, [132, 134], none, .q (.pick (.t 132) (.k (.b true)) (.t 134))⟩,
    ⟨(some 136), none, [135], none, .q (.mv (.t 135))⟩,
    ⟨(some 137), (some (136, false)), [17], none, .q (.mv (.t 17))⟩,
    ⟨(some 138), (some (136, false)), [137], none, .q (.bin .neq (.t 137) (.k (.i 0)))⟩,
    ⟨(some 139), none, [136, 138], none, .q (.pick (.t 136) (.k (.b true)) (.t 138))⟩,
    ⟨(some 140), none, [139], none, .q (.mv (.t 139))⟩,
    ⟨(some 141), (some (140, false)), [19], none, .q (.mv (.t 19))⟩,
    ⟨(some 142), (some (140, false)), [141], none, .q (.bin .neq (.t 141) (.k (.i 0)))⟩,
    ⟨(some 143), none, [140, 142], none, .q (.pick (.t 140) (.k (.b true)) (.t 142))⟩,
    ⟨(some 144), none, [143], none, .q (.mv (.t 143))⟩,
    ⟨(some 145), (some (144, false)), [14], none, .q (.fad 0 (.t 14))⟩,
    ⟨(some 146), (some (144, false)), [145], none, .q (.ld false 1 (.t 145))⟩,
    ⟨(some 147), (some (144, false)), [12], none, .q (.fad 0 (.t 12))⟩,
    ⟨(some 148), (some (144, false)), [147], none, .q (.ld false 1 (.t 147))⟩,
    ⟨(some 149), (some (144, false)), [146, 148], none, .q (.bin .lss (.t 146) (.t 148))⟩,
    ⟨(some 150), none, [144, 149], none, .q (.pick (.t 144) (.k (.b true)) (.t 149))⟩,
    ⟨(some 151), none, [150], none, .q (.mv (.t 150))⟩,
    ⟨(some 152), (some (151, false)), [14], none, .q (.fad 1 (.t 14))⟩,
    ⟨(some 153), (some (151, false)), [152], none, .q (.ld false 1 (.t 152))⟩,
    ⟨(some 154), (some (151, false)), [12], none, .q (.fad 1 (.t 12))⟩,
    ⟨(some 155), (some (151, false)), [154], none, .q (.ld false 1 (.t 154))⟩,
    ⟨(some 156), (some (151, false)), [153, 155], none, .q (.bin .gtr (.t 153) (.t 155))⟩,
    ⟨(some 157), none, [151, 156], none, .q (.pick (.t 151) (.k (.b true)) (.t 156))⟩,
    ⟨(some 158), none, [157], none, .q (.mv (.t 157))⟩,
    ⟨(some 159), (some (158, false)), [16], none, .q (.mv (.t 16))⟩,
    ⟨(some 160), (some (158, false)), [159], none, .q (.bin .neq (.t 159) (.k (.i 3)))⟩,
    ⟨(some 161), (some (158, false)), [160], none, .q (.mv (.t 160))⟩,
    ⟨(some 162), (some (161, true)), [16], none, .q (.mv (.t 16))⟩,
    ⟨(some 163), (some (161, true)), [18], none, .q (.mv (.t 18))⟩,
    ⟨(some 164), (some (161, true)), [162, 163], none, .q (.bin .neq (.t 162) (.t 163))⟩,
    ⟨(some 165), (some (158, false)), [161, 164], none, .q (.pick (.t 161) (.t 164) (.k (.b false)))⟩,
    ⟨(some 166), none, [158, 165], none, .q (.pick (.t 158) (.k (.b true)) (.t 165))⟩])
  (.keep [3, 5, 7, 8, 10, 166] (.cond (.t 166)
    (.seq (.reg false [⟨(some 6), none, [], none, .q (.mv (.k (.b false)))⟩])
    .ret)
    .skip)))
  (.keep [3, 5, 7, 8, 10] (.seq (.seq (.reg false [⟨(some 20), none, [], none, .q (.mv (.k (.i 0)))⟩])
  (.keep [3, 5, 7, 8, 10, 20] (.block 0 (.loop [3, 5, 7, 8, 10, 20] none (.seq (.seq (.reg false [⟨(some 167), none, [20], none, .q (.mv (.t 20))⟩,
    ⟨(some 168), none, [10], none, .q (.mv (.t 10))⟩,
    ⟨(some 169), none, [168], none, .q (.len (.t 168))⟩,
    ⟨(some 170), none, [167, 169], none, .q (.bin .lss (.t 167) (.t 169))⟩])
  (.keep [3, 5, 7, 8, 10, 20, 170] (.cond (.t 170)
    .skip
    (.exit 0))))
  (.keep [3, 5, 7, 8, 10, 20] (.seq (.block 1 (.seq (.reg false [⟨(some 173), none, [8], none, .q (.mv (.t 8))⟩,
    ⟨(some 174), none, [10], none, .q (.mv (.t 10))⟩,
    ⟨(some 175), none, [20], none, .q (.mv (.t 20))⟩,
    ⟨(some 176), none, [174, 175], none, .q (.iad 1 (.t 174) (.t 175))⟩,
    ⟨(some 177), none, [176], none, .q (.ld false 1 (.t 176))⟩,
    ⟨(some 178), none, [173, 177], none, .q (.call (.k (.fn 37 [])) [(.t 173), (.t 177)])⟩,
    ⟨(some 179), none, [178], none, .q (.not (.t 178))⟩])
  (.keep [3, 5, 7, 8, 10, 20, 179] (.cond (.t 179)
    (.seq (.reg false [⟨(some 6), none, [], none, .q (.mv (.k (.b false)))⟩])
    .ret)
    .skip))))
  (.keep [3, 5, 7, 8, 10, 20] (.reg false [⟨(some 171), none, [20], none, .q (.mv (.t 20))⟩,
    ⟨(some 172), none, [171], none, .q (.bin .add (.t 171) (.k (.i 1)))⟩,
    ⟨(some 20), none, [172], none, .q (.mv (.t 172))⟩])))))))))
  (.keep [3, 5, 7] (.seq (.reg false [⟨(some 181), none, [3], none, .q (.ld true 6 (.t 3))⟩,
    ⟨(some 182), none, [5], none, .q (.fad 1 (.t 5))⟩,
    ⟨(some 183), none, [182], none, .q (.ld false 1 (.t 182))⟩,
    ⟨(some 184), none, [181, 183], none, .q (.call (.k (.fn 19 [])) [(.t 181), (.t 183)])⟩,
    ⟨(some 180), none, [184], none, .q (.mv (.t 184))⟩,
    ⟨(some 185), none, [180], none, .q (.ext (.t 180) 0)⟩,
    ⟨(some 186), none, [180], none, .q (.ext (.t 180) 1)⟩,
    ⟨(some 21), none, [], none, .w (.alc [(.i 0), (.i 0)])⟩,
    ⟨none, none, [21, 185], none, .w (.st 2 (.t 21) (.t 185))⟩,
    ⟨(some 22), none, [186], none, .q (.mv (.t 186))⟩])
  (.keep [5, 7, 21, 22] (.seq (.reg false [⟨(some 188), none, [7], none, .q (.ld true 6 (.t 7))⟩,
    ⟨(some 189), none, [5], none, .q (.fad 1 (.t 5))⟩,
    ⟨(some 190), none, [189], none, .q (.ld false 1 (.t 189))⟩,
    ⟨(some 191), none, [188, 190], none, .q (.call (.k (.fn 19 [])) [(.t 188), (.t 190)])⟩,
    ⟨(some 187), none, [191], none, .q (.mv (.t 191))⟩,
    ⟨(some 192), none, [187], none, .q (.ext (.t 187) 0)⟩,
    ⟨(some 193), none, [187], none, .q (.ext (.t 187) 1)⟩,
    ⟨(some 23), none, [], none, .w (.alc [(.i 0), (.i 0)])⟩,
    ⟨none, none, [23, 192], none, .w (.st 2 (.t 23) (.t 192))⟩,
    ⟨(some 24), none, [193], none, .q (.mv (.t 193))⟩])
  (.keep [21, 22, 23, 24] (.seq (.reg true [⟨(some 194), none, [22], none, .q (.mv (.t 22))⟩,
    ⟨(some 195), none, [194], none, .q (.bin .neq (.t 194) (.k (.i 0)))⟩,
    ⟨(some 196), none, [195], none, .q (.mv (.t 195))⟩,
    ⟨(some 197), (some (196, false)), [24], none, .q (.mv (.t 24))⟩,
    ⟨(some 198), (some (196, false)), [197], none, .q (.bin .eql (.t 197) (.k (.i 0)))⟩,
    ⟨(some 199), (some (196, false)), [198], none, .q (.mv (.t 198))⟩,
    ⟨(some 200), (some (199, true)), [23], none, .q (.fad 0 (.t 23))⟩,
    ⟨(some 201), (some (199, true)), [200], none, .q (.ld false 1 (.t 200))⟩,
    ⟨(some 202), (some (199, true)), [21], none, .q (.fad 0 (.t 21))⟩,
    ⟨(some 203), (some (199, true)), [202], none, .q (.ld false 1 (.t 202))⟩,
    ⟨(some 204), (some (199, true)), [201, 203], none, .q (.bin .leq (.t 201) (.t 203))⟩,
    ⟨(some 205), (some (196, false)), [199, 204], none, .q (.pick (.t 199) (.t 204) (.k (.b false)))⟩,
    ⟨(some 206), (some (196, false)), [205], none, .q (.mv (.t 205))⟩,
    ⟨(some 207), (some (206, true)), [23], none, .q (.fad 1 (.t 23))⟩,
    ⟨(some 208), (some (206, true)), [207], none, .q (.ld false 1 (.t 207))⟩,
    ⟨(some 209), (some (206, true)), [21], none, .q (.fad 1 (.t 21))⟩,
    ⟨(some 210), (some (206, true)), [209], none, .q (.ld false 1 (.t 209))⟩,
    ⟨(some 211), (some (206, true)), [208, 210], none, .q (.bin .geq (.t 208) (.t 210))⟩,
    ⟨(some 212), (some (196, false)), [206, 211], none, .q (.pick (.t 206) (.t 211) (.k (.b false)))⟩,
    ⟨(some 213), none, [196, 212], none, .q (.pick (.t 196) (.k (.b true)) (.t 212))⟩,
    ⟨(some 214), none, [213], none, .q (.mv (.t 213))⟩,
    ⟨(some 215), (some (214, true)), [], none, .q (.call (.k (.fn 16 [])) [])⟩,
    ⟨(some 216), none, [214, 215], none, .q (.pick (.t 214) (.t 215) (.k (.b false)))⟩,
    ⟨(some 6), none, [216], none, .q (.mv (.t 216))⟩])
  .ret)))))))))))))))))))))))))))))))))
def pu9 : List Nat := [3, 4, 5, 69]
def rs9 : List RV := [.t 6]
theorem cc9 : comp Try.prog pu9 (Try.f9.ntmps, 0) 0 1 rc9 (Try.f9.body.getD .skip) = some rc9 := by kernel_rfl
theorem cb9 : Try.f9.body = some (Try.f9.body.getD .skip) := by kernel_rfl
theorem cs9 : resRV Try.prog Try.f9.results.toList = some rs9 := by kernel_rfl
theorem cn9 : 3 ≤ Try.f9.ntmps := by decide
/- ferrule/ferrulelaw02.ClothWider: params [26, 3, 61], free 0, slots 159 -/
/- ferrule/ferrulelaw02.ClothOrder: params [26, 3, 54], free 0, slots 240 -/
/- ferrule/ferrulelaw02.ClothBest: params [26, 23, 3], free 0, slots 165 -/
/- ferrule/ferrulelaw02.ClothFalse: params [26, 54, 3], free 0, slots 166 -/
/- ferrule/ferrulelaw02.ClothStretch: params [26, 3], free 0, slots 74 -/
/- ferrule/ferrulelaw02.ready: params [26, 3], free 0, slots 24 -/
def rc15 : RC :=
  (.seq (.reg false [⟨(some 2), none, [0], none, .q (.box (.t 0))⟩,
    ⟨(some 4), none, [], none, .q (.mv (.k (.b false)))⟩])
  (.keep [1, 2] (.seq (.reg true [⟨(some 5), none, [2], none, .q (.ld true 6 (.t 2))⟩,
    ⟨(some 6), none, [5], none, .q (.call (.k (.fn 21 [])) [(.t 5)])⟩,
    ⟨(some 7), none, [6], none, .q (.not (.t 6))⟩,
    ⟨(some 8), none, [7], none, .q (.mv (.t 7))⟩,
    ⟨(some 9), (some (8, true)), [2], none, .q (.ld true 6 (.t 2))⟩,
    ⟨(some 10), (some (8, true)), [9], none, .q (.call (.k (.fn 39 [])) [(.t 9)])⟩,
    ⟨(some 11), (some (8, true)), [10], none, .q (.bin .eql (.t 10) (.k (.i 0)))⟩,
    ⟨(some 12), none, [8, 11], none, .q (.pick (.t 8) (.t 11) (.k (.b false)))⟩,
    ⟨(some 13), none, [12], none, .q (.mv (.t 12))⟩,
    ⟨(some 14), (some (13, true)), [1], none, .q (.mv (.t 1))⟩,
    ⟨(some 15), (some (13, true)), [14], none, .q (.bin .geq (.t 14) (.k (.i 0)))⟩,
    ⟨(some 16), none, [13, 15], none, .q (.pick (.t 13) (.t 15) (.k (.b false)))⟩,
    ⟨(some 17), none, [16], none, .q (.mv (.t 16))⟩,
    ⟨(some 18), (some (17, true)), [1], none, .q (.mv (.t 1))⟩,
    ⟨(some 19), (some (17, true)), [2], none, .q (.fad 3 (.t 2))⟩,
    ⟨(some 20), (some (17, true)), [19], none, .q (.ld false 1 (.t 19))⟩,
    ⟨(some 21), (some (17, true)), [20], none, .q (.len (.t 20))⟩,
    ⟨(some 22), (some (17, true)), [18, 21], none, .q (.bin .lss (.t 18) (.t 21))⟩,
    ⟨(some 23), none, [17, 22], none, .q (.pick (.t 17) (.t 22) (.k (.b false)))⟩,
    ⟨(some 4), none, [23], none, .q (.mv (.t 23))⟩])
  .ret)))
def pu15 : List Nat := [2]
def rs15 : List RV := [.t 4]
theorem cc15 : comp Try.prog pu15 (Try.f15.ntmps, 0) 0 1 rc15 (Try.f15.body.getD .skip) = some rc15 := by kernel_rfl
theorem cb15 : Try.f15.body = some (Try.f15.body.getD .skip) := by kernel_rfl
theorem cs15 : resRV Try.prog Try.f15.results.toList = some rs15 := by kernel_rfl
theorem cn15 : 2 ≤ Try.f15.ntmps := by decide
/- ferrule/ferrulelaw02.works: params [], free 0, slots 83 -/
def rc16 : RC :=
  (.seq (.reg false [⟨(some 0), none, [], none, .q (.mv (.k (.b false)))⟩])
  (.keep [] (.seq (.reg false [⟨(some 12), none, [], none, .o (.k (.fn 44 [])) []⟩,
    ⟨(some 1), none, [], none, .w (.alc [(.z 4), (.z 1), (.i 0), (.z 2), (.z 1), (.i 0)])⟩,
    ⟨none, none, [1, 12], none, .w (.st 6 (.t 1) (.t 12))⟩])
  (.keep [1] (.seq (.reg false [⟨(some 14), none, [1], none, .q (.ld true 6 (.t 1))⟩,
    ⟨(some 15), none, [14], none, .q (.call (.k (.fn 23 [])) [(.t 14), (.k (.i 2))])⟩,
    ⟨(some 13), none, [15], none, .q (.mv (.t 15))⟩,
    ⟨(some 16), none, [13], none, .q (.ext (.t 13) 0)⟩,
    ⟨(some 17), none, [13], none, .q (.ext (.t 13) 1)⟩,
    ⟨(some 2), none, [], none, .w (.alc [(.i 0), (.i 0)])⟩,
    ⟨none, none, [2, 16], none, .w (.st 2 (.t 2) (.t 16))⟩,
    ⟨(some 3), none, [17], none, .q (.mv (.t 17))⟩])
  (.keep [1, 2, 3] (.seq (.reg false [⟨(some 19), none, [1], none, .q (.ld true 6 (.t 1))⟩,
    ⟨(some 20), none, [19], none, .q (.call (.k (.fn 17 [])) [(.t 19), (.k (.i 1))])⟩,
    ⟨(some 18), none, [20], none, .q (.mv (.t 20))⟩,
    ⟨(some 21), none, [18], none, .q (.ext (.t 18) 0)⟩,
    ⟨(some 22), none, [18], none, .q (.ext (.t 18) 1)⟩,
    ⟨(some 4), none, [21], none, .q (.mv (.t 21))⟩,
    ⟨(some 5), none, [22], none, .q (.mv (.t 22))⟩])
  (.keep [1, 2, 3, 4, 5] (.seq (.reg false [⟨(some 24), none, [1], none, .q (.ld true 6 (.t 1))⟩,
    ⟨(some 25), none, [24], none, .q (.call (.k (.fn 19 [])) [(.t 24), (.k (.i 1))])⟩,
    ⟨(some 23), none, [25], none, .q (.mv (.t 25))⟩,
    ⟨(some 26), none, [23], none, .q (.ext (.t 23) 0)⟩,
    ⟨(some 27), none, [23], none, .q (.ext (.t 23) 1)⟩,
    ⟨(some 6), none, [], none, .w (.alc [(.i 0), (.i 0)])⟩,
    ⟨none, none, [6, 26], none, .w (.st 2 (.t 6) (.t 26))⟩,
    ⟨(some 7), none, [27], none, .q (.mv (.t 27))⟩])
  (.keep [1, 2, 3, 4, 5, 6, 7] (.seq (.reg false [⟨(some 29), none, [1], none, .q (.ld true 6 (.t 1))⟩,
    ⟨(some 30), none, [29], none, .o (.k (.fn 26 [])) [(.t 29)]⟩,
    ⟨(some 28), none, [30], none, .q (.mv (.t 30))⟩,
    ⟨(some 31), none, [28], none, .q (.ext (.t 28) 0)⟩,
    ⟨(some 32), none, [28], none, .q (.ext (.t 28) 1)⟩,
    ⟨(some 8), none, [31], none, .q (.mv (.t 31))⟩,
    ⟨(some 9), none, [32], none, .q (.mv (.t 32))⟩])
  (.keep [1, 2, 3, 4, 5, 6, 7, 8, 9] (.seq (.reg false [⟨(some 33), none, [1], none, .q (.fad 3 (.t 1))⟩,
    ⟨(some 34), none, [33], none, .q (.ld false 1 (.t 33))⟩,
    ⟨(some 35), none, [], none, .q (.bld [(.i 0), (.i 0)] [(0, 1, (.k (.i 800))), (1, 1, (.k (.i 808)))])⟩,
    ⟨(some 36), none, [34], none, .q (.iad 2 (.t 34) (.k (.i 2)))⟩,
    ⟨none, none, [36, 35], none, .w (.st 2 (.t 36) (.t 35))⟩])
  (.keep [1, 2, 3, 4, 5, 6, 7, 8, 9] (.seq (.reg false [⟨(some 38), none, [1], none, .q (.ld true 6 (.t 1))⟩,
    ⟨(some 39), none, [38], none, .q (.call (.k (.fn 31 [])) [(.t 38)])⟩,
    ⟨(some 37), none, [39], none, .q (.mv (.t 39))⟩,
    ⟨(some 40), none, [37], none, .q (.ext (.t 37) 0)⟩,
    ⟨(some 41), none, [37], none, .q (.ext (.t 37) 1)⟩,
    ⟨(some 10), none, [40], none, .q (.mv (.t 40))⟩,
    ⟨(some 11), none, [41], none, .q (.mv (.t 41))⟩])
  (.keep [2, 3, 4, 5, 6, 7, 8, 9, 10, 11] (.seq (.reg true [⟨(some 42), none, [3], none, .q (.mv (.t 3))⟩,
    ⟨(some 43), none, [42], none, .q (.bin .eql (.t 42) (.k (.i 0)))⟩,
    ⟨(some 44), none, [43], none, .q (.mv (.t 43))⟩,
    ⟨(some 45), (some (44, true)), [5], none, .q (.mv (.t 5))⟩,
    ⟨(some 46), (some (44, true)), [45], none, .q (.bin .eql (.t 45) (.k (.i 0)))⟩,
    ⟨(some 47), none, [44, 46], none, .q (.pick (.t 44) (.t 46) (.k (.b false)))⟩,
    ⟨(some 48), none, [47], none, .q (.mv (.t 47))⟩,
    ⟨(some 49), (some (48, true)), [7], none, .q (.mv (.t 7))⟩,
    ⟨(some 50), (some (48, true)), [49], none, .q (.bin .eql (.t 49) (.k (.i 0)))⟩,
    ⟨(some 51), none, [48, 50], none, .q (.pick (.t 48) (.t 50) (.k (.b false)))⟩,
    ⟨(some 52), none, [51], none, .q (.mv (.t 51))⟩,
    ⟨(some 53), (some (52, true)), [9], none, .q (.mv (.t 9))⟩,
    ⟨(some 54), (some (52, true)), [53], none, .q (.bin .eql (.t 53) (.k (.i 0)))⟩,
    ⟨(some 55), none, [52, 54], none, .q (.pick (.t 52) (.t 54) (.k (.b false)))⟩,
    ⟨(some 56), none, [55], none, .q (.mv (.t 55))⟩,
    ⟨(some 57), (some (56, true)), [11], none, .q (.mv (.t 11))⟩,
    ⟨(some 58), (some (56, true)), [57], none, .q (.bin .eql (.t 57) (.k (.i 0)))⟩,
    ⟨(some 59), none, [56, 58], none, .q (.pick (.t 56) (.t 58) (.k (.b false)))⟩,
    ⟨(some 60), none, [59], none, .q (.mv (.t 59))⟩,
    ⟨(some 61), (some (60, true)), [2], none, .q (.ld true 2 (.t 2))⟩,
    ⟨(some 62), (some (60, true)), [], none, .q (.bld [(.i 0), (.i 0)] [(0, 1, (.k (.i 802))), (1, 1, (.k (.i 808)))])⟩,
    ⟨(some 63), (some (60, true)), [61, 62], none, .q (.eqs false 34 (.t 61) (.t 62))⟩,
    ⟨(some 64), none, [60, 63], none, .q (.pick (.t 60) (.t 63) (.k (.b false)))⟩,
    ⟨(some 65), none, [64], none, .q (.mv (.t 64))⟩,
    ⟨(some 66), (some (65, true)), [4], none, .q (.mv (.t 4))⟩,
    ⟨(some 67), (some (65, true)), [66], none, .q (.bin .eql (.t 66) (.k (.i 1)))⟩,
    ⟨(some 68), none, [65, 67], none, .q (.pick (.t 65) (.t 67) (.k (.b false)))⟩,
    ⟨(some 69), none, [68], none, .q (.mv (.t 68))⟩,
    ⟨(some 70), (some (69, true)), [6], none, .q (.ld true 2 (.t 6))⟩,
    ⟨(some 71), (some (69, true)), [], none, .q (.bld [(.i 0), (.i 0)] [(0, 1, (.k (.i 160))), (1, 1, (.k (.i 171)))])⟩,
    ⟨(some 72), (some (69, true)), [70, 71], none, .q (.eqs false 34 (.t 70) (.t 71))⟩,
    ⟨(some 73), none, [69, 72], none, .q (.pick (.t 69) (.t 72) (.k (.b false)))⟩,
    ⟨(some 74), none, [73], none, .q (.mv (.t 73))⟩,
    ⟨(some 75), (some (74, true)), [8], none, .q (.mv (.t 8))⟩,
    ⟨(some 76), (some (74, true)), [], none, .q (.bsl 1 1 [(.i 0)] [(0, 1, (.k (.i 2)))])⟩,
    ⟨(some 77), (some (74, true)), [75, 76], none, .q (.call (.k (.fn 28 [])) [(.t 75), (.t 76)])⟩,
    ⟨(some 78), none, [74, 77], none, .q (.pick (.t 74) (.t 77) (.k (.b false)))⟩,
    ⟨(some 79), none, [78], none, .q (.mv (.t 78))⟩,
    ⟨(some 80), (some (79, true)), [10], none, .q (.mv (.t 10))⟩,
    ⟨(some 81), (some (79, true)), [80], none, .q (.bin .eql (.t 80) (.k (.i 480)))⟩,
    ⟨(some 82), none, [79, 81], none, .q (.pick (.t 79) (.t 81) (.k (.b false)))⟩,
    ⟨(some 0), none, [82], none, .q (.mv (.t 82))⟩])
  .ret)))))))))))))))))
def pu16 : List Nat := [1000012, 1000030, 76]
def rs16 : List RV := [.t 0]
theorem cc16 : comp Try.prog pu16 (Try.f16.ntmps, 0) 0 1 rc16 (Try.f16.body.getD .skip) = some rc16 := by kernel_rfl
theorem cb16 : Try.f16.body = some (Try.f16.body.getD .skip) := by kernel_rfl
theorem cs16 : resRV Try.prog Try.f16.results.toList = some rs16 := by kernel_rfl
theorem cn16 : 0 ≤ Try.f16.ntmps := by decide
/- ferrule/cloth.Tight: params [26, 3], free 0, slots 27 -/
def rc17 : RC :=
  (.seq (.reg false [⟨(some 2), none, [0], none, .q (.box (.t 0))⟩,
    ⟨(some 4), none, [], none, .q (.mv (.k (.i 0)))⟩,
    ⟨(some 5), none, [], none, .q (.mv (.k (.i 0)))⟩])
  (.keep [1, 2] (.seq (.any false 0 [⟨⟨(some 9), none, [2], none, .q (.ld true 6 (.t 2))⟩, [], []⟩,
    ⟨⟨(some 10), none, [2], none, .q (.ld true 6 (.t 2))⟩, [], []⟩,
    ⟨⟨(some 11), none, [1], none, .q (.mv (.t 1))⟩, [], []⟩,
    ⟨⟨(some 12), none, [10, 11], none, .q (.call (.k (.fn 46 [])) [(.t 10), (.t 11)])⟩, [], [1, 2]⟩,
    ⟨⟨(some 13), none, [9, 12], none, .q (.call (.k (.fn 45 [])) [(.t 9), (.t 12)])⟩, [], [0, 3, 1, 2]⟩,
    ⟨⟨(some 8), none, [13], none, .q (.mv (.t 13))⟩, [], [4, 0, 3, 1, 2]⟩,
    ⟨⟨(some 14), none, [8], none, .q (.ext (.t 8) 0)⟩, [], [5, 4, 0, 3, 1, 2]⟩,
    ⟨⟨(some 15), none, [8], none, .q (.ext (.t 8) 1)⟩, [], [5, 4, 0, 3, 1, 2]⟩,
    ⟨⟨(some 6), none, [14], none, .q (.mv (.t 14))⟩, [], [6, 5, 4, 0, 3, 1, 2]⟩,
    ⟨⟨(some 7), none, [15], none, .q (.mv (.t 15))⟩, [], [7, 5, 4, 0, 3, 1, 2, 8, 6]⟩])
  (.keep [1, 2, 6, 7] (.seq (.seq (.reg false [⟨(some 16), none, [7], none, .q (.mv (.t 7))⟩,
    ⟨(some 17), none, [16], none, .q (.bin .neq (.t 16) (.k (.i 0)))⟩])
  (.keep [1, 2, 6, 7, 17] (.cond (.t 17)
    (.seq (.reg false [⟨(some 18), none, [7], none, .q (.mv (.t 7))⟩,
      ⟨(some 4), none, [], none, .q (.mv (.k (.i 0)))⟩,
      ⟨(some 5), none, [18], none, .q (.mv (.t 18))⟩])
    .ret)
    .skip)))
  (.keep [1, 2, 6] (.seq (.reg false [⟨(some 19), none, [6], none, .q (.mv (.t 6))⟩,
    ⟨(some 20), none, [1], none, .q (.mv (.t 1))⟩,
    ⟨(some 21), none, [2], none, .q (.fad 4 (.t 2))⟩,
    ⟨(some 22), none, [21], none, .q (.ld false 1 (.t 21))⟩,
    ⟨(some 23), none, [1], none, .q (.mv (.t 1))⟩,
    ⟨(some 24), none, [22, 23], none, .q (.iad 1 (.t 22) (.t 23))⟩,
    ⟨(some 25), none, [24], none, .q (.ld false 1 (.t 24))⟩,
    ⟨(some 26), none, [19, 20, 25], none, .q (.call (.k (.fn 47 [])) [(.t 19), (.t 20), (.t 25)])⟩,
    ⟨(some 4), none, [26], none, .q (.mv (.t 26))⟩,
    ⟨(some 5), none, [], none, .q (.mv (.k (.i 0)))⟩])
  .ret)))))))
def pu17 : List Nat := [2]
def rs17 : List RV := [.t 4, .t 5]
theorem cc17 : comp Try.prog pu17 (Try.f17.ntmps, 0) 0 1 rc17 (Try.f17.body.getD .skip) = some rc17 := by kernel_rfl
theorem cb17 : Try.f17.body = some (Try.f17.body.getD .skip) := by kernel_rfl
theorem cs17 : resRV Try.prog Try.f17.results.toList = some rs17 := by kernel_rfl
theorem cn17 : 2 ≤ Try.f17.ntmps := by decide
/- ferrule/ferrulelaw02.cutTo: params [26, 3, 3], free 0, slots 16 -/
def rc18 : RC :=
  (.seq (.reg false [⟨(some 3), none, [0], none, .q (.box (.t 0))⟩,
    ⟨(some 6), none, [], none, .w (.alc [(.z 4), (.z 1), (.i 0), (.z 2), (.z 1), (.i 0)])⟩])
  (.keep [1, 2, 3, 6] (.seq (.reg false [⟨(some 8), none, [3], none, .q (.ld true 6 (.t 3))⟩,
    ⟨(some 9), none, [8], none, .o (.k (.fn 22 [])) [(.t 8)]⟩,
    ⟨(some 7), none, [], none, .w (.alc [(.z 4), (.z 1), (.i 0), (.z 2), (.z 1), (.i 0)])⟩,
    ⟨none, none, [7, 9], none, .w (.st 6 (.t 7) (.t 9))⟩])
  (.keep [1, 2, 6, 7] (.seq (.reg false [⟨(some 10), none, [7], none, .q (.fad 4 (.t 7))⟩,
    ⟨(some 11), none, [10], none, .q (.ld false 1 (.t 10))⟩,
    ⟨(some 12), none, [1], none, .q (.mv (.t 1))⟩,
    ⟨(some 13), none, [2], none, .q (.mv (.t 2))⟩,
    ⟨(some 14), none, [11, 12], none, .q (.iad 1 (.t 11) (.t 12))⟩,
    ⟨none, none, [14, 13], none, .w (.st 1 (.t 14) (.t 13))⟩])
  (.keep [6, 7] (.seq (.reg false [⟨(some 15), none, [7], none, .q (.ld true 6 (.t 7))⟩,
    ⟨none, none, [6, 15], none, .w (.st 6 (.t 6) (.t 15))⟩])
  .ret)))))))
def pu18 : List Nat := [1000009, 3]
def rs18 : List RV := [.c 6 true 6]
theorem cc18 : comp Try.prog pu18 (Try.f18.ntmps, 0) 0 1 rc18 (Try.f18.body.getD .skip) = some rc18 := by kernel_rfl
theorem cb18 : Try.f18.body = some (Try.f18.body.getD .skip) := by kernel_rfl
theorem cs18 : resRV Try.prog Try.f18.results.toList = some rs18 := by kernel_rfl
theorem cn18 : 3 ≤ Try.f18.ntmps := by decide
/- ferrule/cloth.Cut: params [26, 3], free 0, slots 32 -/
def rc19 : RC :=
  (.seq (.reg false [⟨(some 2), none, [0], none, .q (.box (.t 0))⟩,
    ⟨(some 4), none, [], none, .w (.alc [(.i 0), (.i 0)])⟩,
    ⟨(some 5), none, [], none, .q (.mv (.k (.i 0)))⟩])
  (.keep [1, 2, 4] (.seq (.any false 0 [⟨⟨(some 11), none, [2], none, .q (.ld true 6 (.t 2))⟩, [], []⟩,
    ⟨⟨(some 12), none, [2], none, .q (.ld true 6 (.t 2))⟩, [], []⟩,
    ⟨⟨(some 13), none, [1], none, .q (.mv (.t 1))⟩, [], []⟩,
    ⟨⟨(some 14), none, [12, 13], none, .q (.call (.k (.fn 46 [])) [(.t 12), (.t 13)])⟩, [], [1, 2]⟩,
    ⟨⟨(some 15), none, [11, 14], none, .q (.call (.k (.fn 45 [])) [(.t 11), (.t 14)])⟩, [], [0, 3, 1, 2]⟩,
    ⟨⟨(some 10), none, [15], none, .q (.mv (.t 15))⟩, [], [4, 0, 3, 1, 2]⟩,
    ⟨⟨(some 16), none, [10], none, .q (.ext (.t 10) 0)⟩, [], [5, 4, 0, 3, 1, 2]⟩,
    ⟨⟨(some 17), none, [10], none, .q (.ext (.t 10) 1)⟩, [], [5, 4, 0, 3, 1, 2]⟩,
    ⟨⟨(some 6), none, [16], none, .q (.mv (.t 16))⟩, [], [6, 5, 4, 0, 3, 1, 2]⟩,
    ⟨⟨(some 7), none, [17], none, .q (.mv (.t 17))⟩, [], [7, 5, 4, 0, 3, 1, 2, 8, 6]⟩])
  (.keep [1, 4, 6, 7] (.seq (.seq (.reg false [⟨(some 18), none, [7], none, .q (.mv (.t 7))⟩,
    ⟨(some 19), none, [18], none, .q (.bin .neq (.t 18) (.k (.i 0)))⟩])
  (.keep [1, 4, 6, 7, 19] (.cond (.t 19)
    (.seq (.reg false [⟨(some 20), none, [], none, .q (.bld [(.i 0), (.i 0)] [])⟩,
      ⟨(some 21), none, [7], none, .q (.mv (.t 7))⟩,
      ⟨none, none, [4, 20], none, .w (.st 2 (.t 4) (.t 20))⟩,
      ⟨(some 5), none, [21], none, .q (.mv (.t 21))⟩])
    .ret)
    .skip)))
  (.keep [1, 4, 6] (.seq (.reg false [⟨(some 23), none, [6], none, .q (.mv (.t 6))⟩,
    ⟨(some 24), none, [1], none, .q (.mv (.t 1))⟩,
    ⟨(some 25), none, [23, 24], none, .q (.call (.k (.fn 48 [])) [(.t 23), (.t 24)])⟩,
    ⟨(some 22), none, [25], none, .q (.mv (.t 25))⟩,
    ⟨(some 26), none, [22], none, .q (.ext (.t 22) 0)⟩,
    ⟨(some 27), none, [22], none, .q (.ext (.t 22) 1)⟩,
    ⟨(some 8), none, [], none, .w (.alc [(.i 0), (.i 0)])⟩,
    ⟨none, none, [8, 26], none, .w (.st 2 (.t 8) (.t 26))⟩,
    ⟨(some 9), none, [27], none, .q (.mv (.t 27))⟩])
  (.keep [4, 8, 9] (.seq (.seq (.reg false [⟨(some 28), none, [9], none, .q (.mv (.t 9))⟩,
    ⟨(some 29), none, [28], none, .q (.not (.t 28))⟩])
  (.keep [4, 8, 29] (.cond (.t 29)
    (.seq (.reg false [⟨(some 30), none, [], none, .q (.bld [(.i 0), (.i 0)] [])⟩,
      ⟨none, none, [4, 30], none, .w (.st 2 (.t 4) (.t 30))⟩,
      ⟨(some 5), none, [], none, .q (.mv (.k (.i 3)))⟩])
    .ret)
    .skip)))
  (.keep [4, 8] (.seq (.reg false [⟨(some 31), none, [8], none, .q (.ld true 2 (.t 8))⟩,
    ⟨none, none, [4, 31], none, .w (.st 2 (.t 4) (.t 31))⟩,
    ⟨(some 5), none, [], none, .q (.mv (.k (.i 0)))⟩])
  .ret)))))))))))
def pu19 : List Nat := [2]
def rs19 : List RV := [.c 4 true 2, .t 5]
theorem cc19 : comp Try.prog pu19 (Try.f19.ntmps, 0) 0 1 rc19 (Try.f19.body.getD .skip) = some rc19 := by kernel_rfl
theorem cb19 : Try.f19.body = some (Try.f19.body.getD .skip) := by kernel_rfl
theorem cs19 : resRV Try.prog Try.f19.results.toList = some rs19 := by kernel_rfl
theorem cn19 : 2 ≤ Try.f19.ntmps := by decide
/- ferrule/ferrulelaw02.holds: params [34, 3], free 0, slots 15 -/
def rc20 : RC :=
  (.seq (.reg false [⟨(some 2), none, [0], none, .q (.box (.t 0))⟩,
    ⟨(some 4), none, [], none, .q (.mv (.k (.b false)))⟩])
  (.keep [1, 2] (.seq (.reg true [⟨(some 5), none, [2], none, .q (.fad 0 (.t 2))⟩,
    ⟨(some 6), none, [5], none, .q (.ld false 1 (.t 5))⟩,
    ⟨(some 7), none, [1], none, .q (.mv (.t 1))⟩,
    ⟨(some 8), none, [6, 7], none, .q (.bin .leq (.t 6) (.t 7))⟩,
    ⟨(some 9), none, [8], none, .q (.mv (.t 8))⟩,
    ⟨(some 10), (some (9, true)), [1], none, .q (.mv (.t 1))⟩,
    ⟨(some 11), (some (9, true)), [2], none, .q (.fad 1 (.t 2))⟩,
    ⟨(some 12), (some (9, true)), [11], none, .q (.ld false 1 (.t 11))⟩,
    ⟨(some 13), (some (9, true)), [10, 12], none, .q (.bin .leq (.t 10) (.t 12))⟩,
    ⟨(some 14), none, [9, 13], none, .q (.pick (.t 9) (.t 13) (.k (.b false)))⟩,
    ⟨(some 4), none, [14], none, .q (.mv (.t 14))⟩])
  .ret)))
def pu20 : List Nat := [2]
def rs20 : List RV := [.t 4]
theorem cc20 : comp Try.prog pu20 (Try.f20.ntmps, 0) 0 1 rc20 (Try.f20.body.getD .skip) = some rc20 := by kernel_rfl
theorem cb20 : Try.f20.body = some (Try.f20.body.getD .skip) := by kernel_rfl
theorem cs20 : resRV Try.prog Try.f20.results.toList = some rs20 := by kernel_rfl
theorem cn20 : 2 ≤ Try.f20.ntmps := by decide
/- ferrule/ferrulelaw02.Far: params [26], free 0, slots 99 -/
def rc21 : RC :=
  (.seq (.reg false [⟨(some 1), none, [0], none, .q (.box (.t 0))⟩,
    ⟨(some 2), none, [], none, .q (.mv (.k (.b false)))⟩])
  (.keep [1] (.seq (.seq (.reg true [⟨(some 8), none, [1], none, .q (.fad 0 (.t 1))⟩,
    ⟨(some 9), none, [8], none, .q (.ld false 1 (.t 8))⟩,
    ⟨(some 10), none, [9], none, .q (.len (.t 9))⟩,
    ⟨(some 11), none, [10], none, .q (.bin .gtr (.t 10) (.k (.i 20)))⟩,
    ⟨(some 12), none, [11], none, .q (.mv (.t 11))⟩,
    ⟨(some 13), (some (12, false)), [1], none, .q (.fad 1 (.t 1))⟩,
    ⟨(some 14), (some (12, false)), [13], none, .q (.ld false 1 (.t 13))⟩,
    ⟨(some 15), (some (12, false)), [14], none, .q (.len (.t 14))⟩,
    ⟨(some 16), (some (12, false)), [15], none, .q (.bin .gtr (.t 15) (.k (.i 60)))⟩,
    ⟨(some 17), none, [12, 16], none, .q (.pick (.t 12) (.k (.b true)) (.t 16))⟩,
    ⟨(some 18), none, [17], none, .q (.mv (.t 17))⟩,
    ⟨(some 19), (some (18, false)), [1], none, .q (.fad 3 (.t 1))⟩,
    ⟨(some 20), (some (18, false)), [19], none, .q (.ld false 1 (.t 19))⟩,
    ⟨(some 21), (some (18, false)), [20], none, .q (.len (.t 20))⟩,
    ⟨(some 22), (some (18, false)), [21], none, .q (.bin .gtr (.t 21) (.k (.i 60)))⟩,
    ⟨(some 23), none, [18, 22], none, .q (.pick (.t 18) (.k (.b true)) (.t 22))⟩,
    ⟨(some 24), none, [23], none, .q (.mv (.t 23))⟩,
    ⟨(some 25), (some (24, false)), [1], none, .q (.fad 4 (.t 1))⟩,
    ⟨(some 26), (some (24, false)), [25], none, .q (.ld false 1 (.t 25))⟩,
    ⟨(some 27), (some (24, false)), [26], none, .q (.len (.t 26))⟩,
    ⟨(some 28), (some (24, false)), [27], none, .q (.bin .gtr (.t 27) (.k (.i 60)))⟩,
    ⟨(some 29), none, [24, 28], none, .q (.pick (.t 24) (.k (.b true)) (.t 28))⟩])
  (.keep [1, 29] (.cond (.t 29)
    (.seq (.reg false [⟨(some 2), none, [], none, .q (.mv (.k (.b true)))⟩])
    .ret)
    .skip)))
  (.keep [1] (.seq (.seq (.reg false [⟨(some 3), none, [], none, .q (.mv (.k (.i 0)))⟩])
  (.keep [1, 3] (.block 0 (.loop [1, 3] none (.seq (.seq (.reg false [⟨(some 30), none, [3], none, .q (.mv (.t 3))⟩,
    ⟨(some 31), none, [1], none, .q (.fad 0 (.t 1))⟩,
    ⟨(some 32), none, [31], none, .q (.ld false 1 (.t 31))⟩,
    ⟨(some 33), none, [32], none, .q (.len (.t 32))⟩,
    ⟨(some 34), none, [30, 33], none, .q (.bin .lss (.t 30) (.t 33))⟩])
  (.keep [1, 3, 34] (.cond (.t 34)
    .skip
    (.exit 0))))
  (.keep [1, 3] (.seq (.block 1 (.seq (.reg false [⟨(some 37), none, [1], none, .q (.fad 0 (.t 1))⟩,
    ⟨(some 38), none, [37], none, .q (.ld false 1 (.t 37))⟩,
    ⟨(some 39), none, [3], none, .q (.mv (.t 3))⟩,
    ⟨(some 40), none, [38, 39], none, .q (.iad 4 (.t 38) (.t 39))⟩,
    ⟨(some 41), none, [40], none, .q (.fad 2 (.t 40))⟩,
    ⟨(some 42), none, [41], none, .q (.ld false 1 (.t 41))⟩,
    ⟨(some 43), none, [42], none, .q (.len (.t 42))⟩,
    ⟨(some 44), none, [43], none, .q (.bin .gtr (.t 43) (.k (.i 60)))⟩])
  (.keep [1, 3, 44] (.cond (.t 44)
    (.seq (.reg false [⟨(some 2), none, [], none, .q (.mv (.k (.b true)))⟩])
    .ret)
    .skip))))
  (.keep [1, 3] (.reg false [⟨(some 35), none, [3], none, .q (.mv (.t 3))⟩,
    ⟨(some 36), none, [35], none, .q (.bin .add (.t 35) (.k (.i 1)))⟩,
    ⟨(some 3), none, [36], none, .q (.mv (.t 36))⟩])))))))))
  (.keep [1] (.seq (.seq (.reg false [⟨(some 45), none, [1], none, .q (.ld true 6 (.t 1))⟩,
    ⟨(some 46), none, [45], none, .q (.call (.k (.fn 39 [])) [(.t 45)])⟩,
    ⟨(some 47), none, [46], none, .q (.bin .neq (.t 46) (.k (.i 0)))⟩])
  (.keep [1, 47] (.cond (.t 47)
    (.seq (.reg false [⟨(some 2), none, [], none, .q (.mv (.k (.b false)))⟩])
    .ret)
    .skip)))
  (.keep [1] (.seq (.reg false [⟨(some 4), none, [], none, .q (.mv (.k (.i 1)))⟩])
  (.keep [1, 4] (.seq (.seq (.reg false [⟨(some 5), none, [], none, .q (.mv (.k (.i 0)))⟩])
  (.keep [1, 4, 5] (.block 2 (.loop [1, 4, 5] none (.seq (.seq (.reg false [⟨(some 48), none, [5], none, .q (.mv (.t 5))⟩,
    ⟨(some 49), none, [1], none, .q (.fad 0 (.t 1))⟩,
    ⟨(some 50), none, [49], none, .q (.ld false 1 (.t 49))⟩,
    ⟨(some 51), none, [50], none, .q (.len (.t 50))⟩,
    ⟨(some 52), none, [48, 51], none, .q (.bin .lss (.t 48) (.t 51))⟩])
  (.keep [1, 4, 5, 52] (.cond (.t 52)
    .skip
    (.exit 2))))
  (.keep [1, 4, 5] (.seq (.block 3 (.seq (.reg false [⟨(some 6), none, [], none, .q (.mv (.k (.i 0)))⟩])
  (.keep [1, 4, 5, 6] (.seq (.seq (.reg false [⟨(some 55), none, [1], none, .q (.fad 0 (.t 1))⟩,
    ⟨(some 56), none, [55], none, .q (.ld false 1 (.t 55))⟩,
    ⟨(some 57), none, [5], none, .q (.mv (.t 5))⟩,
    ⟨(some 58), none, [56, 57], none, .q (.iad 4 (.t 56) (.t 57))⟩,
    ⟨(some 59), none, [58], none, .q (.fad 0 (.t 58))⟩,
    ⟨(some 60), none, [59], none, .q (.fad 0 (.t 59))⟩,
    ⟨(some 61), none, [60], none, .q (.ld false 1 (.t 60))⟩,
    ⟨(some 7), none, [61], none, .q (.mv (.t 61))⟩])
  (.keep [1, 4, 5, 6, 7] (.block 4 (.loop [1, 4, 5, 6, 7] none (.seq (.seq (.reg false [⟨(some 62), none, [7], none, .q (.mv (.t 7))⟩,
    ⟨(some 63), none, [1], none, .q (.fad 0 (.t 1))⟩,
    ⟨(some 64), none, [63], none, .q (.ld false 1 (.t 63))⟩,
    ⟨(some 65), none, [5], none, .q (.mv (.t 5))⟩,
    ⟨(some 66), none, [64, 65], none, .q (.iad 4 (.t 64) (.t 65))⟩,
    ⟨(some 67), none, [66], none, .q (.fad 0 (.t 66))⟩,
    ⟨(some 68), none, [67], none, .q (.fad 1 (.t 67))⟩,
    ⟨(some 69), none, [68], none, .q (.ld false 1 (.t 68))⟩,
    ⟨(some 70), none, [62, 69], none, .q (.bin .leq (.t 62) (.t 69))⟩])
  (.keep [1, 4, 5, 6, 7, 70] (.cond (.t 70)
    .skip
    (.exit 4))))
  (.keep [1, 4, 5, 6, 7] (.seq (.block 5 (.seq (.reg false [⟨(some 73), none, [1], none, .q (.fad 0 (.t 1))⟩,
    ⟨(some 74), none, [73], none, .q (.ld false 1 (.t 73))⟩,
    ⟨(some 75), none, [5], none, .q (.mv (.t 5))⟩,
    ⟨(some 76), none, [74, 75], none, .q (.iad 4 (.t 74) (.t 75))⟩,
    ⟨(some 77), none, [76], none, .q (.ld true 4 (.t 76))⟩,
    ⟨(some 78), none, [7], none, .q (.mv (.t 7))⟩,
    ⟨(some 79), none, [77, 78], none, .q (.call (.k (.fn 49 [])) [(.t 77), (.t 78)])⟩])
  (.keep [1, 4, 5, 6, 7, 79] (.cond (.t 79)
    (.reg false [⟨(some 80), none, [6], none, .q (.mv (.t 6))⟩,
      ⟨(some 81), none, [80], none, .q (.bin .add (.t 80) (.k (.i 1)))⟩,
      ⟨(some 6), none, [81], none, .q (.mv (.t 81))⟩])
    .skip))))
  (.keep [1, 4, 5, 6, 7] (.reg false [⟨(some 71), none, [7], none, .q (.mv (.t 7))⟩,
    ⟨(some 72), none, [71], none, .q (.bin .add (.t 71) (.k (.i 1)))⟩,
    ⟨(some 7), none, [72], none, .q (.mv (.t 72))⟩])))))))))
  (.keep [1, 4, 5, 6] (.reg false [⟨(some 82), none, [4], none, .q (.mv (.t 4))⟩,
    ⟨(some 83), none, [6], none, .q (.mv (.t 6))⟩,
    ⟨(some 84), none, [82, 83], none, .q (.bin .mul (.t 82) (.t 83))⟩,
    ⟨(some 4), none, [84], none, .q (.mv (.t 84))⟩]))))))
  (.keep [1, 4, 5] (.reg false [⟨(some 53), none, [5], none, .q (.mv (.t 5))⟩,
    ⟨(some 54), none, [53], none, .q (.bin .add (.t 53) (.k (.i 1)))⟩,
    ⟨(some 5), none, [54], none, .q (.mv (.t 54))⟩])))))))))
  (.keep [1, 4] (.seq (.reg true [⟨(some 85), none, [4], none, .q (.mv (.t 4))⟩,
    ⟨(some 86), none, [85], none, .q (.bin .gtr (.t 85) (.k (.i 49)))⟩,
    ⟨(some 87), none, [86], none, .q (.mv (.t 86))⟩,
    ⟨(some 88), (some (87, false)), [1], none, .q (.fad 1 (.t 1))⟩,
    ⟨(some 89), (some (87, false)), [88], none, .q (.ld false 1 (.t 88))⟩,
    ⟨(some 90), (some (87, false)), [89], none, .q (.len (.t 89))⟩,
    ⟨(some 91), (some (87, false)), [90], none, .q (.bin .gtr (.t 90) (.k (.i 8)))⟩,
    ⟨(some 92), none, [87, 91], none, .q (.pick (.t 87) (.k (.b true)) (.t 91))⟩,
    ⟨(some 93), none, [92], none, .q (.mv (.t 92))⟩,
    ⟨(some 94), (some (93, false)), [1], none, .q (.fad 3 (.t 1))⟩,
    ⟨(some 95), (some (93, false)), [94], none, .q (.ld false 1 (.t 94))⟩,
    ⟨(some 96), (some (93, false)), [95], none, .q (.len (.t 95))⟩,
    ⟨(some 97), (some (93, false)), [96], none, .q (.bin .gtr (.t 96) (.k (.i 4)))⟩,
    ⟨(some 98), none, [93, 97], none, .q (.pick (.t 93) (.k (.b true)) (.t 97))⟩,
    ⟨(some 2), none, [98], none, .q (.mv (.t 98))⟩])
  .ret)))))))))))))
def pu21 : List Nat := [1]
def rs21 : List RV := [.t 2]
theorem cc21 : comp Try.prog pu21 (Try.f21.ntmps, 0) 0 1 rc21 (Try.f21.body.getD .skip) = some rc21 := by kernel_rfl
theorem cb21 : Try.f21.body = some (Try.f21.body.getD .skip) := by kernel_rfl
theorem cs21 : resRV Try.prog Try.f21.results.toList = some rs21 := by kernel_rfl
theorem cn21 : 1 ≤ Try.f21.ntmps := by decide
/- ferrule/ferruleref02.Copy: params [26], free 0, slots 47 -/
def rc22 : RC :=
  (.seq (.reg false [⟨(some 1), none, [0], none, .q (.box (.t 0))⟩,
    ⟨(some 2), none, [], none, .w (.alc [(.z 4), (.z 1), (.i 0), (.z 2), (.z 1), (.i 0)])⟩])
  (.keep [1, 2] (.seq (.reg false [⟨(some 5), none, [1], none, .q (.ld true 6 (.t 1))⟩,
    ⟨(some 3), none, [], none, .w (.alc [(.z 4), (.z 1), (.i 0), (.z 2), (.z 1), (.i 0)])⟩,
    ⟨none, none, [3, 5], none, .w (.st 6 (.t 3) (.t 5))⟩])
  (.keep [1, 2, 3] (.seq (.reg false [⟨(some 6), none, [], none, .w (.bso 4 0 [(.i 0), (.i 0), (.z 3), (.i 0)] [])⟩,
    ⟨(some 7), none, [1], none, .q (.fad 0 (.t 1))⟩,
    ⟨(some 8), none, [7], none, .q (.ld false 1 (.t 7))⟩,
    ⟨(some 9), none, [6, 8], none, .w (.app 4 (.t 6) (.t 8))⟩,
    ⟨(some 10), none, [3], none, .q (.fad 0 (.t 3))⟩,
    ⟨none, none, [10, 9], none, .w (.st 1 (.t 10) (.t 9))⟩])
  (.keep [1, 2, 3] (.seq (.seq (.reg false [⟨(some 4), none, [], none, .q (.mv (.k (.i 0)))⟩])
  (.keep [1, 2, 3, 4] (.block 0 (.loop [1, 2, 3, 4] (some 3) (.seq (.seq (.reg false [⟨(some 11), none, [4], none, .q (.mv (.t 4))⟩,
    ⟨(some 12), none, [3], none, .q (.fad 0 (.t 3))⟩,
    ⟨(some 13), none, [12], none, .q (.ld false 1 (.t 12))⟩,
    ⟨(some 14), none, [13], none, .q (.len (.t 13))⟩,
    ⟨(some 15), none, [11, 14], none, .q (.bin .lss (.t 11) (.t 14))⟩])
  (.keep [1, 2, 3, 4, 15] (.cond (.t 15)
    .skip
    (.exit 0))))
  (.keep [1, 2, 3, 4] (.seq (.block 1 (.any false 2 [⟨⟨(some 18), none, [3], none, .q (.fad 0 (.t 3))⟩, [], []⟩,
    ⟨⟨(some 19), none, [18], none, .q (.ld false 1 (.t 18))⟩, [], [0]⟩,
    ⟨⟨(some 20), none, [4], none, .q (.mv (.t 4))⟩, [], []⟩,
    ⟨⟨(some 21), none, [], (some 0), .w (.bso 3 0 [(.i 0), (.i 0), (.i 0)] [])⟩, [0, 1, 2], []⟩,
    ⟨⟨(some 22), none, [1], none, .q (.fad 0 (.t 1))⟩, [3], []⟩,
    ⟨⟨(some 23), none, [22], none, .q (.ld false 1 (.t 22))⟩, [3], [4]⟩,
    ⟨⟨(some 24), none, [4], none, .q (.mv (.t 4))⟩, [3], []⟩,
    ⟨⟨(some 25), none, [23, 24], none, .q (.iad 4 (.t 23) (.t 24))⟩, [3], [5, 4, 6]⟩,
    ⟨⟨(some 26), none, [25], none, .q (.fad 2 (.t 25))⟩, [3], [7, 5, 4, 6]⟩,
    ⟨⟨(some 27), none, [26], none, .q (.ld false 1 (.t 26))⟩, [3], [8, 7, 5, 4, 6]⟩,
    ⟨⟨(some 28), none, [21, 27], (some 1), .w (.app 3 (.t 21) (.t 27))⟩, [0, 1, 2], [3, 9, 8, 7, 5, 4, 6]⟩,
    ⟨⟨(some 29), none, [19, 20], none, .q (.iad 4 (.t 19) (.t 20))⟩, [], [1, 0, 2, 3, 4, 5, 6, 7, 8, 9, 10]⟩,
    ⟨⟨(some 30), none, [29], none, .q (.fad 2 (.t 29))⟩, [], [11, 1, 0, 2, 3, 4, 5, 6, 7, 8, 9, 10]⟩,
    ⟨⟨none, none, [30, 28], none, .w (.st 1 (.t 30) (.t 28))⟩, [], [12, 11, 1, 0, 2, 3, 4, 5, 6, 7, 8, 9, 10]⟩]))
  (.drp 3 (.keep [1, 2, 3, 4] (.reg false [⟨(some 16), none, [4], none, .q (.mv (.t 4))⟩,
    ⟨(some 17), none, [16], none, .q (.bin .add (.t 16) (.k (.i 1)))⟩,
    ⟨(some 4), none, [17], none, .q (.mv (.t 17))⟩]))))))))))
  (.keep [1, 2, 3] (.seq (.any false 6 [⟨⟨(some 31), none, [], (some 0), .w (.bso 1 0 [(.i 0)] [])⟩, [], []⟩,
    ⟨⟨(some 32), none, [1], none, .q (.fad 1 (.t 1))⟩, [0], []⟩,
    ⟨⟨(some 33), none, [32], none, .q (.ld false 1 (.t 32))⟩, [0], [1]⟩,
    ⟨⟨(some 34), none, [31, 33], (some 1), .w (.app 1 (.t 31) (.t 33))⟩, [], [0, 2, 1]⟩,
    ⟨⟨(some 35), none, [], (some 2), .w (.bso 2 0 [(.i 0), (.i 0)] [])⟩, [0, 1, 2, 3], []⟩,
    ⟨⟨(some 36), none, [1], none, .q (.fad 3 (.t 1))⟩, [0, 3, 4], []⟩,
    ⟨⟨(some 37), none, [36], none, .q (.ld false 1 (.t 36))⟩, [0, 3, 4], [5]⟩,
    ⟨⟨(some 38), none, [35, 37], (some 3), .w (.app 2 (.t 35) (.t 37))⟩, [], [4, 6, 5, 3, 0, 2, 1]⟩,
    ⟨⟨(some 39), none, [], (some 4), .w (.bso 1 0 [(.i 0)] [])⟩, [0, 1, 2, 3, 4, 5, 6, 7], []⟩,
    ⟨⟨(some 40), none, [1], none, .q (.fad 4 (.t 1))⟩, [0, 3, 4, 7, 8], []⟩,
    ⟨⟨(some 41), none, [40], none, .q (.ld false 1 (.t 40))⟩, [0, 3, 4, 7, 8], [9]⟩,
    ⟨⟨(some 42), none, [39, 41], (some 5), .w (.app 1 (.t 39) (.t 41))⟩, [], [8, 10, 9, 7, 4, 6, 5, 3, 0, 2, 1]⟩,
    ⟨⟨(some 43), none, [3], none, .q (.fad 1 (.t 3))⟩, [4, 7, 8, 11], [0, 1, 2, 3]⟩,
    ⟨⟨none, none, [43, 34], none, .w (.st 1 (.t 43) (.t 34))⟩, [], [12, 0, 1, 2, 3, 11, 8, 10, 9, 7, 4, 6, 5]⟩,
    ⟨⟨(some 44), none, [3], none, .q (.fad 3 (.t 3))⟩, [], [0, 1, 2, 3, 4, 5, 6, 7, 12, 13, 11, 8, 10, 9]⟩,
    ⟨⟨none, none, [44, 38], none, .w (.st 1 (.t 44) (.t 38))⟩, [], [14, 0, 1, 2, 3, 4, 5, 6, 7, 12, 13, 11, 8, 10, 9]⟩,
    ⟨⟨(some 45), none, [3], none, .q (.fad 4 (.t 3))⟩, [], [0, 1, 2, 3, 4, 5, 6, 7, 8, 9, 10, 11, 12, 13, 14, 15]⟩,
    ⟨⟨none, none, [45, 42], none, .w (.st 1 (.t 45) (.t 42))⟩, [], [16, 0, 1, 2, 3, 4, 5, 6, 7, 8, 9, 10, 11, 12, 13, 14, 15]⟩])
  (.keep [2, 3] (.seq (.reg false [⟨(some 46), none, [3], none, .q (.ld true 6 (.t 3))⟩,
    ⟨none, none, [2, 46], none, .w (.st 6 (.t 2) (.t 46))⟩])
  .ret)))))))))))
def pu22 : List Nat := [1]
def rs22 : List RV := [.c 2 true 6]
theorem cc22 : comp Try.prog pu22 (Try.f22.ntmps, 0) 0 1 rc22 (Try.f22.body.getD .skip) = some rc22 := by kernel_rfl
theorem cb22 : Try.f22.body = some (Try.f22.body.getD .skip) := by kernel_rfl
theorem cs22 : resRV Try.prog Try.f22.results.toList = some rs22 := by kernel_rfl
theorem cn22 : 1 ≤ Try.f22.ntmps := by decide
/- ferrule/cloth.Round: params [26, 3], free 0, slots 27 -/
def rc23 : RC :=
  (.seq (.reg false [⟨(some 2), none, [0], none, .q (.box (.t 0))⟩,
    ⟨(some 4), none, [], none, .w (.alc [(.i 0), (.i 0)])⟩,
    ⟨(some 5), none, [], none, .q (.mv (.k (.i 0)))⟩])
  (.keep [1, 2, 4] (.seq (.any false 0 [⟨⟨(some 9), none, [2], none, .q (.ld true 6 (.t 2))⟩, [], []⟩,
    ⟨⟨(some 10), none, [2], none, .q (.ld true 6 (.t 2))⟩, [], []⟩,
    ⟨⟨(some 11), none, [1], none, .q (.mv (.t 1))⟩, [], []⟩,
    ⟨⟨(some 12), none, [10, 11], none, .q (.call (.k (.fn 46 [])) [(.t 10), (.t 11)])⟩, [], [1, 2]⟩,
    ⟨⟨(some 13), none, [9, 12], none, .q (.call (.k (.fn 45 [])) [(.t 9), (.t 12)])⟩, [], [0, 3, 1, 2]⟩,
    ⟨⟨(some 8), none, [13], none, .q (.mv (.t 13))⟩, [], [4, 0, 3, 1, 2]⟩,
    ⟨⟨(some 14), none, [8], none, .q (.ext (.t 8) 0)⟩, [], [5, 4, 0, 3, 1, 2]⟩,
    ⟨⟨(some 15), none, [8], none, .q (.ext (.t 8) 1)⟩, [], [5, 4, 0, 3, 1, 2]⟩,
    ⟨⟨(some 6), none, [14], none, .q (.mv (.t 14))⟩, [], [6, 5, 4, 0, 3, 1, 2]⟩,
    ⟨⟨(some 7), none, [15], none, .q (.mv (.t 15))⟩, [], [7, 5, 4, 0, 3, 1, 2, 8, 6]⟩])
  (.keep [1, 2, 4, 6, 7] (.seq (.seq (.reg false [⟨(some 16), none, [7], none, .q (.mv (.t 7))⟩,
    ⟨(some 17), none, [16], none, .q (.bin .neq (.t 16) (.k (.i 0)))⟩])
  (.keep [1, 2, 4, 6, 7, 17] (.cond (.t 17)
    (.seq (.reg false [⟨(some 18), none, [], none, .q (.bld [(.i 0), (.i 0)] [])⟩,
      ⟨(some 19), none, [7], none, .q (.mv (.t 7))⟩,
      ⟨none, none, [4, 18], none, .w (.st 2 (.t 4) (.t 18))⟩,
      ⟨(some 5), none, [19], none, .q (.mv (.t 19))⟩])
    .ret)
    .skip)))
  (.keep [1, 2, 4, 6] (.seq (.reg false [⟨(some 20), none, [6], none, .q (.mv (.t 6))⟩,
    ⟨(some 21), none, [2], none, .q (.fad 4 (.t 2))⟩,
    ⟨(some 22), none, [21], none, .q (.ld false 1 (.t 21))⟩,
    ⟨(some 23), none, [1], none, .q (.mv (.t 1))⟩,
    ⟨(some 24), none, [22, 23], none, .q (.iad 1 (.t 22) (.t 23))⟩,
    ⟨(some 25), none, [24], none, .q (.ld false 1 (.t 24))⟩,
    ⟨(some 26), none, [20, 25], none, .q (.call (.k (.fn 50 [])) [(.t 20), (.t 25)])⟩,
    ⟨none, none, [4, 26], none, .w (.st 2 (.t 4) (.t 26))⟩,
    ⟨(some 5), none, [], none, .q (.mv (.k (.i 0)))⟩])
  .ret)))))))
def pu23 : List Nat := [2]
def rs23 : List RV := [.c 4 true 2, .t 5]
theorem cc23 : comp Try.prog pu23 (Try.f23.ntmps, 0) 0 1 rc23 (Try.f23.body.getD .skip) = some rc23 := by kernel_rfl
theorem cb23 : Try.f23.body = some (Try.f23.body.getD .skip) := by kernel_rfl
theorem cs23 : resRV Try.prog Try.f23.results.toList = some rs23 := by kernel_rfl
theorem cn23 : 2 ≤ Try.f23.ntmps := by decide
/- ferrule/ferruleref02.Round: params [26, 3], free 0, slots 61 -/
def rc24 : RC :=
  (.seq (.reg false [⟨(some 2), none, [0], none, .q (.box (.t 0))⟩,
    ⟨(some 4), none, [], none, .w (.alc [(.i 0), (.i 0)])⟩,
    ⟨(some 5), none, [], none, .q (.mv (.k (.i 0)))⟩])
  (.keep [1, 2, 4] (.seq (.reg false [⟨(some 12), none, [2], none, .q (.ld true 6 (.t 2))⟩,
    ⟨(some 13), none, [1], none, .q (.mv (.t 1))⟩,
    ⟨(some 14), none, [12, 13], none, .q (.call (.k (.fn 51 [])) [(.t 12), (.k (.i 0)), (.t 13)])⟩,
    ⟨(some 11), none, [14], none, .q (.mv (.t 14))⟩,
    ⟨(some 15), none, [11], none, .q (.ext (.t 11) 0)⟩,
    ⟨(some 16), none, [11], none, .q (.ext (.t 11) 1)⟩,
    ⟨(some 6), none, [15], none, .q (.mv (.t 15))⟩,
    ⟨(some 7), none, [16], none, .q (.mv (.t 16))⟩])
  (.keep [1, 2, 4, 6, 7] (.seq (.seq (.reg false [⟨(some 17), none, [7], none, .q (.mv (.t 7))⟩,
    ⟨(some 18), none, [17], none, .q (.bin .neq (.t 17) (.k (.i 0)))⟩])
  (.keep [1, 2, 4, 6, 7, 18] (.cond (.t 18)
    (.seq (.reg false [⟨(some 19), none, [], none, .q (.bld [(.i 0), (.i 0)] [])⟩,
      ⟨(some 20), none, [7], none, .q (.mv (.t 7))⟩,
      ⟨none, none, [4, 19], none, .w (.st 2 (.t 4) (.t 19))⟩,
      ⟨(some 5), none, [20], none, .q (.mv (.t 20))⟩])
    .ret)
    .skip)))
  (.keep [1, 2, 4, 6] (.seq (.any false 0 [⟨⟨(some 21), none, [2], none, .q (.ld true 6 (.t 2))⟩, [], []⟩,
    ⟨⟨(some 22), none, [2], none, .q (.fad 4 (.t 2))⟩, [], []⟩,
    ⟨⟨(some 23), none, [22], none, .q (.ld false 1 (.t 22))⟩, [], [1]⟩,
    ⟨⟨(some 24), none, [1], none, .q (.mv (.t 1))⟩, [], []⟩,
    ⟨⟨(some 25), none, [23, 24], none, .q (.iad 1 (.t 23) (.t 24))⟩, [], [2, 1, 3]⟩,
    ⟨⟨(some 26), none, [25], none, .q (.ld false 1 (.t 25))⟩, [], [4, 2, 1, 3]⟩,
    ⟨⟨(some 27), none, [6], none, .q (.mv (.t 6))⟩, [], []⟩,
    ⟨⟨(some 28), none, [27], none, .q (.iad 1 (.t 27) (.k (.i 0)))⟩, [], [6]⟩,
    ⟨⟨(some 29), none, [28], none, .q (.ld false 1 (.t 28))⟩, [], [7, 6]⟩,
    ⟨⟨(some 30), none, [21, 26, 29], none, .q (.call (.k (.fn 38 [])) [(.t 21), (.t 26), (.t 29)])⟩, [], [0, 5, 4, 2, 1, 3, 8, 7, 6]⟩,
    ⟨⟨(some 8), none, [30], none, .q (.mv (.t 30))⟩, [], [9, 0, 5, 4, 2, 1, 3, 8, 7, 6]⟩])
  (.keep [1, 2, 4, 6, 8] (.seq (.reg false [⟨(some 31), none, [8], none, .q (.mv (.t 8))⟩,
    ⟨(some 32), none, [8], none, .q (.mv (.t 8))⟩,
    ⟨(some 33), none, [31, 32], none, .q (.bld [(.i 0), (.i 0)] [(0, 1, (.t 31)), (1, 1, (.t 32))])⟩,
    ⟨(some 9), none, [], none, .w (.alc [(.i 0), (.i 0)])⟩,
    ⟨none, none, [9, 33], none, .w (.st 2 (.t 9) (.t 33))⟩])
  (.keep [1, 2, 4, 6, 9] (.seq (.seq (.reg false [⟨(some 10), none, [], none, .q (.mv (.k (.i 0)))⟩])
  (.keep [1, 2, 4, 6, 9, 10] (.block 0 (.loop [1, 2, 4, 6, 9, 10] none (.seq (.seq (.reg false [⟨(some 34), none, [10], none, .q (.mv (.t 10))⟩,
    ⟨(some 35), none, [6], none, .q (.mv (.t 6))⟩,
    ⟨(some 36), none, [35], none, .q (.len (.t 35))⟩,
    ⟨(some 37), none, [34, 36], none, .q (.bin .lss (.t 34) (.t 36))⟩])
  (.keep [1, 2, 4, 6, 9, 10, 37] (.cond (.t 37)
    .skip
    (.exit 0))))
  (.keep [1, 2, 4, 6, 9, 10] (.seq (.block 1 (.seq (.any false 0 [⟨⟨(some 40), none, [2], none, .q (.ld true 6 (.t 2))⟩, [], []⟩,
    ⟨⟨(some 41), none, [2], none, .q (.fad 4 (.t 2))⟩, [], []⟩,
    ⟨⟨(some 42), none, [41], none, .q (.ld false 1 (.t 41))⟩, [], [1]⟩,
    ⟨⟨(some 43), none, [1], none, .q (.mv (.t 1))⟩, [], []⟩,
    ⟨⟨(some 44), none, [42, 43], none, .q (.iad 1 (.t 42) (.t 43))⟩, [], [2, 1, 3]⟩,
    ⟨⟨(some 45), none, [44], none, .q (.ld false 1 (.t 44))⟩, [], [4, 2, 1, 3]⟩,
    ⟨⟨(some 46), none, [6], none, .q (.mv (.t 6))⟩, [], []⟩,
    ⟨⟨(some 47), none, [10], none, .q (.mv (.t 10))⟩, [], []⟩,
    ⟨⟨(some 48), none, [46, 47], none, .q (.iad 1 (.t 46) (.t 47))⟩, [], [6, 7]⟩,
    ⟨⟨(some 49), none, [48], none, .q (.ld false 1 (.t 48))⟩, [], [8, 6, 7]⟩,
    ⟨⟨(some 50), none, [40, 45, 49], none, .q (.call (.k (.fn 38 [])) [(.t 40), (.t 45), (.t 49)])⟩, [], [0, 5, 4, 2, 1, 3, 9, 8, 6, 7]⟩,
    ⟨⟨(some 8), none, [50], none, .q (.mv (.t 50))⟩, [], [10, 0, 5, 4, 2, 1, 3, 9, 8, 6, 7]⟩])
  (.keep [1, 2, 4, 6, 8, 9, 10] (.reg false [⟨(some 51), none, [9], none, .q (.fad 0 (.t 9))⟩,
    ⟨(some 52), none, [51], none, .q (.ld false 1 (.t 51))⟩,
    ⟨(some 53), none, [8], none, .q (.mv (.t 8))⟩,
    ⟨(some 54), none, [52, 53], none, .q (.mn (.t 52) (.t 53))⟩,
    ⟨(some 55), none, [9], none, .q (.fad 1 (.t 9))⟩,
    ⟨(some 56), none, [55], none, .q (.ld false 1 (.t 55))⟩,
    ⟨(some 57), none, [8], none, .q (.mv (.t 8))⟩,
    ⟨(some 58), none, [56, 57], none, .q (.mx (.t 56) (.t 57))⟩,
    ⟨(some 59), none, [54, 58], none, .q (.bld [(.i 0), (.i 0)] [(0, 1, (.t 54)), (1, 1, (.t 58))])⟩,
    ⟨none, none, [9, 59], none, .w (.st 2 (.t 9) (.t 59))⟩]))))
  (.keep [1, 2, 4, 6, 9, 10] (.reg false [⟨(some 38), none, [10], none, .q (.mv (.t 10))⟩,
    ⟨(some 39), none, [38], none, .q (.bin .add (.t 38) (.k (.i 1)))⟩,
    ⟨(some 10), none, [39], none, .q (.mv (.t 39))⟩])))))))))
  (.keep [4, 9] (.seq (.reg false [⟨(some 60), none, [9], none, .q (.ld true 2 (.t 9))⟩,
    ⟨none, none, [4, 60], none, .w (.st 2 (.t 4) (.t 60))⟩,
    ⟨(some 5), none, [], none, .q (.mv (.k (.i 0)))⟩])
  .ret)))))))))))))
def pu24 : List Nat := [2]
def rs24 : List RV := [.c 4 true 2, .t 5]
theorem cc24 : comp Try.prog pu24 (Try.f24.ntmps, 0) 0 1 rc24 (Try.f24.body.getD .skip) = some rc24 := by kernel_rfl
theorem cb24 : Try.f24.body = some (Try.f24.body.getD .skip) := by kernel_rfl
theorem cs24 : resRV Try.prog Try.f24.results.toList = some rs24 := by kernel_rfl
theorem cn24 : 2 ≤ Try.f24.ntmps := by decide
/- ferrule/ferruleref02.Tight: params [26, 3], free 0, slots 32 -/
def rc25 : RC :=
  (.seq (.reg false [⟨(some 2), none, [0], none, .q (.box (.t 0))⟩,
    ⟨(some 4), none, [], none, .q (.mv (.k (.i 0)))⟩,
    ⟨(some 5), none, [], none, .q (.mv (.k (.i 0)))⟩])
  (.keep [1, 2] (.seq (.reg false [⟨(some 9), none, [2], none, .q (.ld true 6 (.t 2))⟩,
    ⟨(some 10), none, [1], none, .q (.mv (.t 1))⟩,
    ⟨(some 11), none, [9, 10], none, .q (.call (.k (.fn 51 [])) [(.t 9), (.k (.i 0)), (.t 10)])⟩,
    ⟨(some 8), none, [11], none, .q (.mv (.t 11))⟩,
    ⟨(some 12), none, [8], none, .q (.ext (.t 8) 0)⟩,
    ⟨(some 13), none, [8], none, .q (.ext (.t 8) 1)⟩,
    ⟨(some 6), none, [12], none, .q (.mv (.t 12))⟩,
    ⟨(some 7), none, [13], none, .q (.mv (.t 13))⟩])
  (.keep [1, 2, 6, 7] (.seq (.seq (.reg false [⟨(some 14), none, [7], none, .q (.mv (.t 7))⟩,
    ⟨(some 15), none, [14], none, .q (.bin .neq (.t 14) (.k (.i 0)))⟩])
  (.keep [1, 2, 6, 7, 15] (.cond (.t 15)
    (.seq (.reg false [⟨(some 16), none, [7], none, .q (.mv (.t 7))⟩,
      ⟨(some 4), none, [], none, .q (.mv (.k (.i 0)))⟩,
      ⟨(some 5), none, [16], none, .q (.mv (.t 16))⟩])
    .ret)
    .skip)))
  (.keep [1, 2, 6] (.seq (.seq (.any false 0 [⟨⟨(some 17), none, [2], none, .q (.ld true 6 (.t 2))⟩, [], []⟩,
    ⟨⟨(some 18), none, [6], none, .q (.mv (.t 6))⟩, [], []⟩,
    ⟨⟨(some 19), none, [1], none, .q (.mv (.t 1))⟩, [], []⟩,
    ⟨⟨(some 20), none, [2], none, .q (.fad 4 (.t 2))⟩, [], []⟩,
    ⟨⟨(some 21), none, [20], none, .q (.ld false 1 (.t 20))⟩, [], [3]⟩,
    ⟨⟨(some 22), none, [1], none, .q (.mv (.t 1))⟩, [], []⟩,
    ⟨⟨(some 23), none, [21, 22], none, .q (.iad 1 (.t 21) (.t 22))⟩, [], [4, 3, 5]⟩,
    ⟨⟨(some 24), none, [23], none, .q (.ld false 1 (.t 23))⟩, [], [6, 4, 3, 5]⟩,
    ⟨⟨(some 25), none, [17, 18, 19, 24], none, .q (.call (.k (.fn 52 [])) [(.t 17), (.t 18), (.t 19), (.t 24)])⟩, [], [0, 1, 2, 7, 6, 4, 3, 5]⟩])
  (.keep [6, 25] (.block 0 (.seq (.reg false [⟨(some 27), none, [6], none, .q (.mv (.t 6))⟩,
    ⟨(some 28), none, [27], none, .q (.len (.t 27))⟩,
    ⟨(some 29), none, [25, 28], none, .q (.bin .eql (.t 25) (.t 28))⟩,
    ⟨(some 26), none, [29], none, .q (.mv (.t 29))⟩])
  (.keep [25, 26] (.cond (.t 26)
    (.seq (.reg false [⟨(some 4), none, [], none, .q (.mv (.k (.i 1)))⟩,
      ⟨(some 5), none, [], none, .q (.mv (.k (.i 0)))⟩])
    .ret)
    (.seq (.reg false [⟨(some 31), none, [25], none, .q (.bin .eql (.t 25) (.k (.i 0)))⟩,
      ⟨(some 30), none, [31], none, .q (.mv (.t 31))⟩])
    (.keep [30] (.cond (.t 30)
      (.seq (.reg false [⟨(some 4), none, [], none, .q (.mv (.k (.i 2)))⟩,
        ⟨(some 5), none, [], none, .q (.mv (.k (.i 0)))⟩])
      .ret)
      .skip)))))))))
  (.keep [] (.seq (.reg false [⟨(some 4), none, [], none, .q (.mv (.k (.i 3)))⟩,
    ⟨(some 5), none, [], none, .q (.mv (.k (.i 0)))⟩])
  .ret)))))))))
def pu25 : List Nat := [2]
def rs25 : List RV := [.t 4, .t 5]
theorem cc25 : comp Try.prog pu25 (Try.f25.ntmps, 0) 0 1 rc25 (Try.f25.body.getD .skip) = some rc25 := by kernel_rfl
theorem cb25 : Try.f25.body = some (Try.f25.body.getD .skip) := by kernel_rfl
theorem cs25 : resRV Try.prog Try.f25.results.toList = some rs25 := by kernel_rfl
theorem cn25 : 2 ≤ Try.f25.ntmps := by decide
/- ferrule/cloth.Loose: params [26], free 0, slots 36 -/
def rc26 : RC :=
  (.seq (.reg false [⟨(some 1), none, [0], none, .q (.box (.t 0))⟩,
    ⟨(some 2), none, [], none, .q (.mv (.k (.z 1)))⟩,
    ⟨(some 3), none, [], none, .q (.mv (.k (.i 0)))⟩])
  (.keep [1] (.seq (.reg false [⟨(some 10), none, [1], none, .q (.ld true 6 (.t 1))⟩,
    ⟨(some 11), none, [10], none, .q (.call (.k (.fn 45 [])) [(.t 10), (.k (.b true))])⟩,
    ⟨(some 9), none, [11], none, .q (.mv (.t 11))⟩,
    ⟨(some 12), none, [9], none, .q (.ext (.t 9) 0)⟩,
    ⟨(some 13), none, [9], none, .q (.ext (.t 9) 1)⟩,
    ⟨(some 4), none, [12], none, .q (.mv (.t 12))⟩,
    ⟨(some 5), none, [13], none, .q (.mv (.t 13))⟩])
  (.keep [1, 4, 5] (.seq (.seq (.reg false [⟨(some 14), none, [5], none, .q (.mv (.t 5))⟩,
    ⟨(some 15), none, [14], none, .q (.bin .neq (.t 14) (.k (.i 0)))⟩])
  (.keep [1, 4, 5, 15] (.cond (.t 15)
    (.seq (.reg false [⟨(some 16), none, [5], none, .q (.mv (.t 5))⟩,
      ⟨(some 2), none, [], none, .q (.mv (.k (.z 1)))⟩,
      ⟨(some 3), none, [16], none, .q (.mv (.t 16))⟩])
    .ret)
    .skip)))
  (.keep [1, 4] (.seq (.reg false [⟨(some 6), none, [], none, .q (.mv (.k (.z 1)))⟩])
  (.keep [1, 4, 6] (.seq (.seq (.reg false [⟨(some 17), none, [1], none, .q (.fad 4 (.t 1))⟩,
    ⟨(some 18), none, [17], none, .q (.ld false 1 (.t 17))⟩,
    ⟨(some 19), none, [18], none, .q (.len (.t 18))⟩,
    ⟨(some 20), none, [], none, .q (.mv (.k (.i 0)))⟩])
  (.keep [4, 6, 18, 19, 20] (.block 0 (.own 6 1 (.loop [4, 6, 18, 19, 20] none (.seq (.reg false [⟨(some 21), none, [20, 19], none, .q (.bin .lss (.t 20) (.t 19))⟩])
  (.keep [4, 6, 18, 19, 20, 21] (.seq (.cond (.t 21)
    .skip
    (.exit 0))
  (.keep [4, 6, 18, 19, 20] (.seq (.block 1 (.seq (.reg false [⟨(some 22), none, [20], none, .q (.mv (.t 20))⟩,
    ⟨(some 23), none, [18, 20], none, .q (.iad 1 (.t 18) (.t 20))⟩,
    ⟨(some 24), none, [23], none, .q (.ld false 1 (.t 23))⟩,
    ⟨(some 7), none, [22], none, .q (.mv (.t 22))⟩,
    ⟨(some 8), none, [24], none, .q (.mv (.t 24))⟩])
  (.keep [4, 6, 7, 8, 18, 19, 20] (.seq (.reg false [⟨(some 25), none, [4], none, .q (.mv (.t 4))⟩,
    ⟨(some 26), none, [7], none, .q (.mv (.t 7))⟩,
    ⟨(some 27), none, [8], none, .q (.mv (.t 8))⟩,
    ⟨(some 28), none, [25, 26, 27], none, .q (.call (.k (.fn 47 [])) [(.t 25), (.t 26), (.t 27)])⟩,
    ⟨(some 29), none, [28], none, .q (.bin .neq (.t 28) (.k (.i 1)))⟩])
  (.keep [4, 6, 7, 18, 19, 20, 29] (.cond (.t 29)
    (.reg false [⟨(some 30), none, [6], none, .q (.mv (.t 6))⟩,
      ⟨(some 31), none, [7], none, .q (.mv (.t 7))⟩,
      ⟨(some 32), none, [31], none, .q (.bsl 1 1 [(.i 0)] [(0, 1, (.t 31))])⟩,
      ⟨(some 33), none, [30, 32], none, .w (.app 1 (.t 30) (.t 32))⟩,
      ⟨(some 6), none, [33], none, .q (.mv (.t 33))⟩])
    .skip))))))
  (.keep [4, 6, 18, 19, 20] (.reg false [⟨(some 34), none, [20], none, .q (.bin .add (.t 20) (.k (.i 1)))⟩,
    ⟨(some 20), none, [34], none, .q (.mv (.t 34))⟩]))))))))))))
  (.keep [6] (.seq (.reg false [⟨(some 35), none, [6], none, .q (.mv (.t 6))⟩,
    ⟨(some 2), none, [35], none, .q (.mv (.t 35))⟩,
    ⟨(some 3), none, [], none, .q (.mv (.k (.i 0)))⟩])
  .ret)))))))))))
def pu26 : List Nat := [1, 32]
def rs26 : List RV := [.t 2, .t 3]
theorem cc26 : comp Try.prog pu26 (Try.f26.ntmps, 0) 0 1 rc26 (Try.f26.body.getD .skip) = some rc26 := by kernel_rfl
theorem cb26 : Try.f26.body = some (Try.f26.body.getD .skip) := by kernel_rfl
theorem cs26 : resRV Try.prog Try.f26.results.toList = some rs26 := by kernel_rfl
theorem cn26 : 1 ≤ Try.f26.ntmps := by decide
/- ferrule/ferruleref02.Loose: params [26], free 0, slots 38 -/
def rc27 : RC :=
  (.seq (.reg false [⟨(some 1), none, [0], none, .q (.box (.t 0))⟩,
    ⟨(some 2), none, [], none, .q (.mv (.k (.z 1)))⟩,
    ⟨(some 3), none, [], none, .q (.mv (.k (.i 0)))⟩])
  (.keep [1] (.seq (.seq (.reg false [⟨(some 11), none, [1], none, .q (.ld true 6 (.t 1))⟩,
    ⟨(some 12), none, [11], none, .q (.call (.k (.fn 51 [])) [(.t 11), (.k (.i 0)), (.k (.i 0))])⟩,
    ⟨(some 10), none, [12], none, .q (.mv (.t 12))⟩,
    ⟨(some 13), none, [10], none, .q (.ext (.t 10) 0)⟩,
    ⟨(some 14), none, [10], none, .q (.ext (.t 10) 1)⟩,
    ⟨(some 4), none, [13], none, .q (.mv (.t 13))⟩,
    ⟨(some 5), none, [14], none, .q (.mv (.t 14))⟩])
  (.keep [1, 5] (.seq (.reg false [⟨(some 15), none, [5], none, .q (.mv (.t 5))⟩,
    ⟨(some 16), none, [15], none, .q (.bin .neq (.t 15) (.k (.i 0)))⟩])
  (.keep [1, 5, 16] (.cond (.t 16)
    (.seq (.reg false [⟨(some 17), none, [5], none, .q (.mv (.t 5))⟩,
      ⟨(some 2), none, [], none, .q (.mv (.k (.z 1)))⟩,
      ⟨(some 3), none, [17], none, .q (.mv (.t 17))⟩])
    .ret)
    .skip)))))
  (.keep [1] (.seq (.reg false [⟨(some 6), none, [], none, .q (.mv (.k (.z 1)))⟩])
  (.keep [1, 6] (.seq (.seq (.reg false [⟨(some 7), none, [], none, .q (.mv (.k (.i 0)))⟩])
  (.keep [1, 6, 7] (.block 0 (.own 6 1 (.loop [1, 6, 7] none (.seq (.seq (.reg false [⟨(some 18), none, [7], none, .q (.mv (.t 7))⟩,
    ⟨(some 19), none, [1], none, .q (.fad 3 (.t 1))⟩,
    ⟨(some 20), none, [19], none, .q (.ld false 1 (.t 19))⟩,
    ⟨(some 21), none, [20], none, .q (.len (.t 20))⟩,
    ⟨(some 22), none, [18, 21], none, .q (.bin .lss (.t 18) (.t 21))⟩])
  (.keep [1, 6, 7, 22] (.cond (.t 22)
    .skip
    (.exit 0))))
  (.keep [1, 6, 7] (.seq (.block 1 (.seq (.reg false [⟨(some 26), none, [1], none, .q (.ld true 6 (.t 1))⟩,
    ⟨(some 27), none, [7], none, .q (.mv (.t 7))⟩,
    ⟨(some 28), none, [26, 27], none, .q (.call (.k (.fn 25 [])) [(.t 26), (.t 27)])⟩,
    ⟨(some 25), none, [28], none, .q (.mv (.t 28))⟩,
    ⟨(some 29), none, [25], none, .q (.ext (.t 25) 0)⟩,
    ⟨(some 30), none, [25], none, .q (.ext (.t 25) 1)⟩,
    ⟨(some 8), none, [29], none, .q (.mv (.t 29))⟩,
    ⟨(some 9), none, [30], none, .q (.mv (.t 30))⟩])
  (.keep [1, 6, 7, 8] (.seq (.reg false [⟨(some 31), none, [8], none, .q (.mv (.t 8))⟩,
    ⟨(some 32), none, [31], none, .q (.bin .neq (.t 31) (.k (.i 1)))⟩])
  (.keep [1, 6, 7, 32] (.cond (.t 32)
    (.reg false [⟨(some 33), none, [6], none, .q (.mv (.t 6))⟩,
      ⟨(some 34), none, [7], none, .q (.mv (.t 7))⟩,
      ⟨(some 35), none, [34], none, .q (.bsl 1 1 [(.i 0)] [(0, 1, (.t 34))])⟩,
      ⟨(some 36), none, [33, 35], none, .w (.app 1 (.t 33) (.t 35))⟩,
      ⟨(some 6), none, [36], none, .q (.mv (.t 36))⟩])
    .skip))))))
  (.keep [1, 6, 7] (.reg false [⟨(some 23), none, [7], none, .q (.mv (.t 7))⟩,
    ⟨(some 24), none, [23], none, .q (.bin .add (.t 23) (.k (.i 1)))⟩,
    ⟨(some 7), none, [24], none, .q (.mv (.t 24))⟩]))))))))))
  (.keep [6] (.seq (.reg false [⟨(some 37), none, [6], none, .q (.mv (.t 6))⟩,
    ⟨(some 2), none, [37], none, .q (.mv (.t 37))⟩,
    ⟨(some 3), none, [], none, .q (.mv (.k (.i 0)))⟩])
  .ret)))))))))
def pu27 : List Nat := [1, 35]
def rs27 : List RV := [.t 2, .t 3]
theorem cc27 : comp Try.prog pu27 (Try.f27.ntmps, 0) 0 1 rc27 (Try.f27.body.getD .skip) = some rc27 := by kernel_rfl
theorem cb27 : Try.f27.body = some (Try.f27.body.getD .skip) := by kernel_rfl
theorem cs27 : resRV Try.prog Try.f27.results.toList = some rs27 := by kernel_rfl
theorem cn27 : 1 ≤ Try.f27.ntmps := by decide
/- ferrule/ferrulelaw02.sameInts: params [23, 23], free 0, slots 26 -/
def rc28 : RC :=
  (.seq (.reg false [⟨(some 4), none, [], none, .q (.mv (.k (.b false)))⟩])
  (.keep [0, 1] (.seq (.seq (.reg false [⟨(some 6), none, [0], none, .q (.mv (.t 0))⟩,
    ⟨(some 7), none, [6], none, .q (.len (.t 6))⟩,
    ⟨(some 8), none, [1], none, .q (.mv (.t 1))⟩,
    ⟨(some 9), none, [8], none, .q (.len (.t 8))⟩,
    ⟨(some 10), none, [7, 9], none, .q (.bin .neq (.t 7) (.t 9))⟩])
  (.keep [0, 1, 10] (.cond (.t 10)
    (.seq (.reg false [⟨(some 4), none, [], none, .q (.mv (.k (.b false)))⟩])
    .ret)
    .skip)))
  (.keep [0, 1] (.seq (.seq (.reg false [⟨(some 5), none, [], none, .q (.mv (.k (.i 0)))⟩])
  (.keep [0, 1, 5] (.block 0 (.loop [0, 1, 5] none (.seq (.seq (.reg false [⟨(some 11), none, [5], none, .q (.mv (.t 5))⟩,
    ⟨(some 12), none, [0], none, .q (.mv (.t 0))⟩,
    ⟨(some 13), none, [12], none, .q (.len (.t 12))⟩,
    ⟨(some 14), none, [11, 13], none, .q (.bin .lss (.t 11) (.t 13))⟩])
  (.keep [0, 1, 5, 14] (.cond (.t 14)
    .skip
    (.exit 0))))
  (.keep [0, 1, 5] (.seq (.block 1 (.seq (.any false 0 [⟨⟨(some 17), none, [0], none, .q (.mv (.t 0))⟩, [], []⟩,
    ⟨⟨(some 18), none, [5], none, .q (.mv (.t 5))⟩, [], []⟩,
    ⟨⟨(some 19), none, [17, 18], none, .q (.iad 1 (.t 17) (.t 18))⟩, [], [0, 1]⟩,
    ⟨⟨(some 20), none, [19], none, .q (.ld false 1 (.t 19))⟩, [], [2, 0, 1]⟩,
    ⟨⟨(some 21), none, [1], none, .q (.mv (.t 1))⟩, [], []⟩,
    ⟨⟨(some 22), none, [5], none, .q (.mv (.t 5))⟩, [], []⟩,
    ⟨⟨(some 23), none, [21, 22], none, .q (.iad 1 (.t 21) (.t 22))⟩, [], [4, 5]⟩,
    ⟨⟨(some 24), none, [23], none, .q (.ld false 1 (.t 23))⟩, [], [6, 4, 5]⟩,
    ⟨⟨(some 25), none, [20, 24], none, .q (.bin .neq (.t 20) (.t 24))⟩, [], [3, 2, 0, 1, 7, 6, 4, 5]⟩])
  (.keep [0, 1, 5, 25] (.cond (.t 25)
    (.seq (.reg false [⟨(some 4), none, [], none, .q (.mv (.k (.b false)))⟩])
    .ret)
    .skip))))
  (.keep [0, 1, 5] (.reg false [⟨(some 15), none, [5], none, .q (.mv (.t 5))⟩,
    ⟨(some 16), none, [15], none, .q (.bin .add (.t 15) (.k (.i 1)))⟩,
    ⟨(some 5), none, [16], none, .q (.mv (.t 16))⟩])))))))))
  (.keep [] (.seq (.reg false [⟨(some 4), none, [], none, .q (.mv (.k (.b true)))⟩])
  .ret)))))))
def pu28 : List Nat := []
def rs28 : List RV := [.t 4]
theorem cc28 : comp Try.prog pu28 (Try.f28.ntmps, 0) 0 1 rc28 (Try.f28.body.getD .skip) = some rc28 := by kernel_rfl
theorem cb28 : Try.f28.body = some (Try.f28.body.getD .skip) := by kernel_rfl
theorem cs28 : resRV Try.prog Try.f28.results.toList = some rs28 := by kernel_rfl
theorem cn28 : 2 ≤ Try.f28.ntmps := by decide
/- ferrule/ferrulelaw02.same: params [26, 26], free 0, slots 130 -/
def rc29 : RC :=
  (.seq (.reg false [⟨(some 2), none, [0], none, .q (.box (.t 0))⟩,
    ⟨(some 3), none, [1], none, .q (.box (.t 1))⟩,
    ⟨(some 4), none, [], none, .q (.mv (.k (.b false)))⟩])
  (.keep [2, 3] (.seq (.seq (.reg true [⟨(some 10), none, [2], none, .q (.fad 0 (.t 2))⟩,
    ⟨(some 11), none, [10], none, .q (.ld false 1 (.t 10))⟩,
    ⟨(some 12), none, [11], none, .q (.len (.t 11))⟩,
    ⟨(some 13), none, [3], none, .q (.fad 0 (.t 3))⟩,
    ⟨(some 14), none, [13], none, .q (.ld false 1 (.t 13))⟩,
    ⟨(some 15), none, [14], none, .q (.len (.t 14))⟩,
    ⟨(some 16), none, [12, 15], none, .q (.bin .neq (.t 12) (.t 15))⟩,
    ⟨(some 17), none, [16], none, .q (.mv (.t 16))⟩,
    ⟨(some 18), (some (17, false)), [2], none, .q (.fad 1 (.t 2))⟩,
    ⟨(some 19), (some (17, false)), [18], none, .q (.ld false 1 (.t 18))⟩,
    ⟨(some 20), (some (17, false)), [3], none, .q (.fad 1 (.t 3))⟩,
    ⟨(some 21), (some (17, false)), [20], none, .q (.ld false 1 (.t 20))⟩,
    ⟨(some 22), (some (17, false)), [19, 21], none, .q (.call (.k (.fn 28 [])) [(.t 19), (.t 21)])⟩,
    ⟨(some 23), (some (17, false)), [22], none, .q (.not (.t 22))⟩,
    ⟨(some 24), none, [17, 23], none, .q (.pick (.t 17) (.k (.b true)) (.t 23))⟩,
    ⟨(some 25), none, [24], none, .q (.mv (.t 24))⟩,
    ⟨(some 26), (some (25, false)), [2], none, .q (.fad 2 (.t 2))⟩,
    ⟨(some 27), (some (25, false)), [26], none, .q (.ld false 1 (.t 26))⟩,
    ⟨(some 28), (some (25, false)), [3], none, .q (.fad 2 (.t 3))⟩,
    ⟨(some 29), (some (25, false)), [28], none, .q (.ld false 1 (.t 28))⟩,
    ⟨(some 30), (some (25, false)), [27, 29], none, .q (.bin .neq (.t 27) (.t 29))⟩,
    ⟨(some 31), none, [25, 30], none, .q (.pick (.t 25) (.k (.b true)) (.t 30))⟩,
    ⟨(some 32), none, [31], none, .q (.mv (.t 31))⟩,
    ⟨(some 33), (some (32, false)), [2], none, .q (.fad 3 (.t 2))⟩,
    ⟨(some 34), (some (32, false)), [33], none, .q (.ld false 1 (.t 33))⟩,
    ⟨(some 35), (some (32, false)), [34], none, .q (.len (.t 34))⟩,
    ⟨(some 36), (some (32, false)), [3], none, .q (.fad 3 (.t 3))⟩,
    ⟨(some 37), (some (32, false)), [36], none, .q (.ld false 1 (.t 36))⟩,
    ⟨(some 38), (some (32, false)), [37], none, .q (.len (.t 37))⟩,
    ⟨(some 39), (some (32, false)), [35, 38], none, .q (.bin .neq (.t 35) (.t 38))⟩,
    ⟨(some 40), none, [32, 39], none, .q (.pick (.t 32) (.k (.b true)) (.t 39))⟩,
    ⟨(some 41), none, [40], none, .q (.mv (.t 40))⟩,
    ⟨(some 42), (some (41, false)), [2], none, .q (.fad 4 (.t 2))⟩,
    ⟨(some 43), (some (41, false)), [42], none, .q (.ld false 1 (.t 42))⟩,
    ⟨(some 44), (some (41, false)), [3], none, .q (.fad 4 (.t 3))⟩,
    ⟨(some 45), (some (41, false)), [44], none, .q (.ld false 1 (.t 44))⟩,
    ⟨(some 46), (some (41, false)), [43, 45], none, .q (.call (.k (.fn 28 [])) [(.t 43), (.t 45)])⟩,
    ⟨(some 47), (some (41, false)), [46], none, .q (.not (.t 46))⟩,
    ⟨(some 48), none, [41, 47], none, .q (.pick (.t 41) (.k (.b true)) (.t 47))⟩,
    ⟨(some 49), none, [48], none, .q (.mv (.t 48))⟩,
    ⟨(some 50), (some (49, false)), [2], none, .q (.fad 5 (.t 2))⟩,
    ⟨(some 51), (some (49, false)), [50], none, .q (.ld false 1 (.t 50))⟩,
    ⟨(some 52), (some (49, false)), [3], none, .q (.fad 5 (.t 3))⟩,
    ⟨(some 53), (some (49, false)), [52], none, .q (.ld false 1 (.t 52))⟩,
    ⟨(some 54), (some (49, false)), [51, 53], none, .q (.bin .neq (.t 51) (.t 53))⟩,
    ⟨(some 55), none, [49, 54], none, .q (.pick (.t 49) (.k (.b true)) (.t 54))⟩])
  (.keep [2, 3, 55] (.cond (.t 55)
    (.seq (.reg false [⟨(some 4), none, [], none, .q (.mv (.k (.b false)))⟩])
    .ret)
    .skip)))
  (.keep [2, 3] (.seq (.seq (.reg false [⟨(some 5), none, [], none, .q (.mv (.k (.i 0)))⟩])
  (.keep [2, 3, 5] (.block 0 (.loop [2, 3, 5] none (.seq (.seq (.reg false [⟨(some 56), none, [5], none, .q (.mv (.t 5))⟩,
    ⟨(some 57), none, [2], none, .q (.fad 3 (.t 2))⟩,
    ⟨(some 58), none, [57], none, .q (.ld false 1 (.t 57))⟩,
    ⟨(some 59), none, [58], none, .q (.len (.t 58))⟩,
    ⟨(some 60), none, [56, 59], none, .q (.bin .lss (.t 56) (.t 59))⟩])
  (.keep [2, 3, 5, 60] (.cond (.t 60)
    .skip
    (.exit 0))))
  (.keep [2, 3, 5] (.seq (.block 1 (.seq (.any false 0 [⟨⟨(some 63), none, [2], none, .q (.fad 3 (.t 2))⟩, [], []⟩,
    ⟨⟨(some 64), none, [63], none, .q (.ld false 1 (.t 63))⟩, [], [0]⟩,
    ⟨⟨(some 65), none, [5], none, .q (.mv (.t 5))⟩, [], []⟩,
    ⟨⟨(some 66), none, [64, 65], none, .q (.iad 2 (.t 64) (.t 65))⟩, [], [1, 0, 2]⟩,
    ⟨⟨(some 67), none, [66], none, .q (.ld true 2 (.t 66))⟩, [], [3, 1, 0, 2]⟩,
    ⟨⟨(some 68), none, [3], none, .q (.fad 3 (.t 3))⟩, [], []⟩,
    ⟨⟨(some 69), none, [68], none, .q (.ld false 1 (.t 68))⟩, [], [5]⟩,
    ⟨⟨(some 70), none, [5], none, .q (.mv (.t 5))⟩, [], []⟩,
    ⟨⟨(some 71), none, [69, 70], none, .q (.iad 2 (.t 69) (.t 70))⟩, [], [6, 5, 7]⟩,
    ⟨⟨(some 72), none, [71], none, .q (.ld true 2 (.t 71))⟩, [], [8, 6, 5, 7]⟩,
    ⟨⟨(some 73), none, [67, 72], none, .q (.eqs true 34 (.t 67) (.t 72))⟩, [], [4, 3, 1, 0, 2, 9, 8, 6, 5, 7]⟩])
  (.keep [2, 3, 5, 73] (.cond (.t 73)
    (.seq (.reg false [⟨(some 4), none, [], none, .q (.mv (.k (.b false)))⟩])
    .ret)
    .skip))))
  (.keep [2, 3, 5] (.reg false [⟨(some 61), none, [5], none, .q (.mv (.t 5))⟩,
    ⟨(some 62), none, [61], none, .q (.bin .add (.t 61) (.k (.i 1)))⟩,
    ⟨(some 5), none, [62], none, .q (.mv (.t 62))⟩])))))))))
  (.keep [2, 3] (.seq (.seq (.reg false [⟨(some 6), none, [], none, .q (.mv (.k (.i 0)))⟩])
  (.keep [2, 3, 6] (.block 2 (.loop [2, 3, 6] (some 0) (.seq (.seq (.reg false [⟨(some 74), none, [6], none, .q (.mv (.t 6))⟩,
    ⟨(some 75), none, [2], none, .q (.fad 0 (.t 2))⟩,
    ⟨(some 76), none, [75], none, .q (.ld false 1 (.t 75))⟩,
    ⟨(some 77), none, [76], none, .q (.len (.t 76))⟩,
    ⟨(some 78), none, [74, 77], none, .q (.bin .lss (.t 74) (.t 77))⟩])
  (.keep [2, 3, 6, 78] (.cond (.t 78)
    .skip
    (.exit 2))))
  (.keep [2, 3, 6] (.seq (.block 3 (.seq (.any false 2 [⟨⟨(some 81), none, [2], none, .q (.fad 0 (.t 2))⟩, [], []⟩,
    ⟨⟨(some 82), none, [81], none, .q (.ld false 1 (.t 81))⟩, [], [0]⟩,
    ⟨⟨(some 83), none, [6], none, .q (.mv (.t 6))⟩, [], []⟩,
    ⟨⟨(some 84), none, [82, 83], none, .q (.iad 4 (.t 82) (.t 83))⟩, [], [1, 0, 2]⟩,
    ⟨⟨(some 85), none, [84], none, .q (.ld true 4 (.t 84))⟩, [], [3, 1, 0, 2]⟩,
    ⟨⟨(some 86), none, [3], none, .q (.fad 0 (.t 3))⟩, [], []⟩,
    ⟨⟨(some 87), none, [86], none, .q (.ld false 1 (.t 86))⟩, [], [5]⟩,
    ⟨⟨(some 88), none, [6], none, .q (.mv (.t 6))⟩, [], []⟩,
    ⟨⟨(some 89), none, [87, 88], none, .q (.iad 4 (.t 87) (.t 88))⟩, [], [6, 5, 7]⟩,
    ⟨⟨(some 90), none, [89], none, .q (.ld true 4 (.t 89))⟩, [], [8, 6, 5, 7]⟩,
    ⟨⟨(some 7), none, [], (some 0), .w (.alc [(.i 0), (.i 0), (.z 3), (.i 0)])⟩, [0, 1, 2, 3, 4, 5, 6, 7, 8, 9], []⟩,
    ⟨⟨(some 8), none, [], (some 1), .w (.alc [(.i 0), (.i 0), (.z 3), (.i 0)])⟩, [0, 1, 2, 3, 4, 5, 6, 7, 8, 9, 10], []⟩,
    ⟨⟨none, none, [7, 85], none, .w (.st 4 (.t 7) (.t 85))⟩, [5, 6, 7, 8, 9], [10, 4, 3, 1, 0, 2, 11]⟩,
    ⟨⟨none, none, [8, 90], none, .w (.st 4 (.t 8) (.t 90))⟩, [], [11, 9, 8, 6, 5, 7, 12, 10, 4, 3, 1, 0, 2]⟩])
  (.keep [2, 3, 6, 7, 8] (.seq (.seq (.reg true [⟨(some 91), none, [7], none, .q (.fad 0 (.t 7))⟩,
    ⟨(some 92), none, [91], none, .q (.ld true 2 (.t 91))⟩,
    ⟨(some 93), none, [8], none, .q (.fad 0 (.t 8))⟩,
    ⟨(some 94), none, [93], none, .q (.ld true 2 (.t 93))⟩,
    ⟨(some 95), none, [92, 94], none, .q (.eqs true 34 (.t 92) (.t 94))⟩,
    ⟨(some 96), none, [95], none, .q (.mv (.t 95))⟩,
    ⟨(some 97), (some (96, false)), [7], none, .q (.fad 3 (.t 7))⟩,
    ⟨(some 98), (some (96, false)), [97], none, .q (.ld false 1 (.t 97))⟩,
    ⟨(some 99), (some (96, false)), [8], none, .q (.fad 3 (.t 8))⟩,
    ⟨(some 100), (some (96, false)), [99], none, .q (.ld false 1 (.t 99))⟩,
    ⟨(some 101), (some (96, false)), [98, 100], none, .q (.bin .neq (.t 98) (.t 100))⟩,
    ⟨(some 102), none, [96, 101], none, .q (.pick (.t 96) (.k (.b true)) (.t 101))⟩,
    ⟨(some 103), none, [102], none, .q (.mv (.t 102))⟩,
    ⟨(some 104), (some (103, false)), [7], none, .q (.fad 2 (.t 7))⟩,
    ⟨(some 105), (some (103, false)), [104], none, .q (.ld false 1 (.t 104))⟩,
    ⟨(some 106), (some (103, false)), [105], none, .q (.len (.t 105))⟩,
    ⟨(some 107), (some (103, false)), [8], none, .q (.fad 2 (.t 8))⟩,
    ⟨(some 108), (some (103, false)), [107], none, .q (.ld false 1 (.t 107))⟩,
    ⟨(some 109), (some (103, false)), [108], none, .q (.len (.t 108))⟩,
    ⟨(some 110), (some (103, false)), [106, 109], none, .q (.bin .neq (.t 106) (.t 109))⟩,
    ⟨(some 111), none, [103, 110], none, .q (.pick (.t 103) (.k (.b true)) (.t 110))⟩])
  (.keep [2, 3, 6, 7, 8, 111] (.cond (.t 111)
    (.seq (.reg false [⟨(some 4), none, [], none, .q (.mv (.k (.b false)))⟩])
    .ret)
    .skip)))
  (.keep [2, 3, 6, 7, 8] (.seq (.reg false [⟨(some 9), none, [], none, .q (.mv (.k (.i 0)))⟩])
  (.keep [2, 3, 6, 7, 8, 9] (.block 4 (.loop [2, 3, 6, 7, 8, 9] none (.seq (.seq (.reg false [⟨(some 112), none, [9], none, .q (.mv (.t 9))⟩,
    ⟨(some 113), none, [7], none, .q (.fad 2 (.t 7))⟩,
    ⟨(some 114), none, [113], none, .q (.ld false 1 (.t 113))⟩,
    ⟨(some 115), none, [114], none, .q (.len (.t 114))⟩,
    ⟨(some 116), none, [112, 115], none, .q (.bin .lss (.t 112) (.t 115))⟩])
  (.keep [2, 3, 6, 7, 8, 9, 116] (.cond (.t 116)
    .skip
    (.exit 4))))
  (.keep [2, 3, 6, 7, 8, 9] (.seq (.block 5 (.seq (.any false 0 [⟨⟨(some 119), none, [7], none, .q (.fad 2 (.t 7))⟩, [], []⟩,
    ⟨⟨(some 120), none, [119], none, .q (.ld false 1 (.t 119))⟩, [], [0]⟩,
    ⟨⟨(some 121), none, [9], none, .q (.mv (.t 9))⟩, [], []⟩,
    ⟨⟨(some 122), none, [120, 121], none, .q (.iad 3 (.t 120) (.t 121))⟩, [], [1, 0, 2]⟩,
    ⟨⟨(some 123), none, [122], none, .q (.ld true 3 (.t 122))⟩, [], [3, 1, 0, 2]⟩,
    ⟨⟨(some 124), none, [8], none, .q (.fad 2 (.t 8))⟩, [], []⟩,
    ⟨⟨(some 125), none, [124], none, .q (.ld false 1 (.t 124))⟩, [], [5]⟩,
    ⟨⟨(some 126), none, [9], none, .q (.mv (.t 9))⟩, [], []⟩,
    ⟨⟨(some 127), none, [125, 126], none, .q (.iad 3 (.t 125) (.t 126))⟩, [], [6, 5, 7]⟩,
    ⟨⟨(some 128), none, [127], none, .q (.ld true 3 (.t 127))⟩, [], [8, 6, 5, 7]⟩,
    ⟨⟨(some 129), none, [123, 128], none, .q (.eqs true 52 (.t 123) (.t 128))⟩, [], [4, 3, 1, 0, 2, 9, 8, 6, 5, 7]⟩])
  (.keep [2, 3, 6, 7, 8, 9, 129] (.cond (.t 129)
    (.seq (.reg false [⟨(some 4), none, [], none, .q (.mv (.k (.b false)))⟩])
    .ret)
    .skip))))
  (.keep [2, 3, 6, 7, 8, 9] (.reg false [⟨(some 117), none, [9], none, .q (.mv (.t 9))⟩,
    ⟨(some 118), none, [117], none, .q (.bin .add (.t 117) (.k (.i 1)))⟩,
    ⟨(some 9), none, [118], none, .q (.mv (.t 118))⟩]))))))))))))))
  (.drp 0 (.keep [2, 3, 6] (.reg false [⟨(some 79), none, [6], none, .q (.mv (.t 6))⟩,
    ⟨(some 80), none, [79], none, .q (.bin .add (.t 79) (.k (.i 1)))⟩,
    ⟨(some 6), none, [80], none, .q (.mv (.t 80))⟩]))))))))))
  (.keep [] (.seq (.reg false [⟨(some 4), none, [], none, .q (.mv (.k (.b true)))⟩])
  .ret)))))))))
def pu29 : List Nat := [2, 3]
def rs29 : List RV := [.t 4]
theorem cc29 : comp Try.prog pu29 (Try.f29.ntmps, 0) 0 1 rc29 (Try.f29.body.getD .skip) = some rc29 := by kernel_rfl
theorem cb29 : Try.f29.body = some (Try.f29.body.getD .skip) := by kernel_rfl
theorem cs29 : resRV Try.prog Try.f29.results.toList = some rs29 := by kernel_rfl
theorem cn29 : 2 ≤ Try.f29.ntmps := by decide
end Go.C02
