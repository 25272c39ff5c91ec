import Derived.Test.YtgcinomjcgebhaaFam15
import Derived.Laws.StructEq
set_option linter.all false
/- '==' on structs of integers, and such structs as keys. -/
namespace Go.Fam
variable {P : Program}
/-- the size of a type whose values are integers, or structs of such; none: another type -/
def flatT (P : Program) : Nat → TypeId → Option Nat
  | 0, _ => none
  | d + 1, t => match P.underlying t with
    | some (.int .i64) => some 1
    | some (.struct fs) => if P.stoodInHeld t || (szB P t).isNone then none else
      match fs.toList.foldlM (fun off f => if f.name == "_" || f.offset != off then none else (flatT P d f.type).map (off + ·)) 0 with
      | some n => if szB P t == some n then some n else none
      | none => none
    | _ => none
def flatV (P : Program) (t : TypeId) (xs : List Int) : Value := if isAggB P t then .agg (xs.map (Value.int .i64)).toArray else .int .i64 (xs.headD 0)
structure FlatOk (P : Program) (d : Nat) (t : TypeId) (n : Nat) : Prop where
  eq : ∀ d', d ≤ d' → ∀ (xs ys : List Int) (w : World), xs.length = n → ys.length = n → (Op.equalIn d' t (flatV P t xs) (flatV P t ys)).run P w = .ok (decide (xs = ys)) w
  key : ∀ d', d ≤ d' → ∀ (xs : List Int) (e : Bool) (w : World), xs.length = n → (Instr.checkKey e d' t (flatV P t xs)).run P w = .ok () w
  part : ∀ (xs : List Int) (off : Nat) (w : World), off + n ≤ xs.length → (part t (xs.map (Value.int .i64)).toArray off).run P w = .ok (flatV P t ((xs.drop off).take n)) w
theorem take_drop_split {α : Type} (xs : List α) (off k : Nat) : xs.drop off = (xs.drop off).take k ++ xs.drop (off + k) := by
  rw [← List.drop_drop, List.take_append_drop]
theorem flatFs_eq {d : Nat} (ih : ∀ t n, flatT P d t = some n → FlatOk P d t n) : ∀ (fs : List Field) (off n : Nat),
    fs.foldlM (fun off f => if f.name == "_" || f.offset != off then none else (flatT P d f.type).map (off + ·)) off = some n →
    off ≤ n ∧ ∀ (d' : Nat), d ≤ d' → ∀ (xs ys : List Int) (w : World), xs.length = n → ys.length = n →
      (Op.eqFields d' (xs.map (Value.int .i64)).toArray (ys.map (Value.int .i64)).toArray fs).run P w = .ok (decide (xs.drop off = ys.drop off)) w ∧
      ∀ e, (forIn fs PUnit.unit fun f (_ : PUnit) => (if f.name ≠ "_" then (do let c ← part f.type (xs.map (Value.int .i64)).toArray f.offset; Instr.checkKey e d' f.type c; pure (ForInStep.yield PUnit.unit) : Sem (ForInStep PUnit)) else pure (ForInStep.yield PUnit.unit))).run P w = .ok PUnit.unit w
  | [], off, n, h => by
    simp at h; subst h
    refine ⟨Nat.le_refl _, fun d' _ xs ys w hx hy => ⟨?_, fun e => by simp⟩⟩
    have h1 : xs.drop off = [] := by rw [List.drop_eq_nil_iff]; omega
    have h2 : ys.drop off = [] := by rw [List.drop_eq_nil_iff]; omega
    simp [Op.eqFields, h1, h2]
  | f :: fs, off, n, h => by
    rw [List.foldlM_cons] at h
    by_cases h1 : f.name = "_"
    · simp [h1] at h
    by_cases h2 : f.offset = off
    · cases h3 : flatT P d f.type with
      | none => simp [h1, h2, h3] at h
      | some k =>
        have hc : (f.name == "_" || f.offset != off) = false := by simp [h1, h2]
        rw [hc] at h
        simp only [Bool.false_eq_true, if_false, h3, Option.map_some] at h
        change List.foldlM _ (off + k) fs = some n at h
        obtain ⟨hle, hrest⟩ := flatFs_eq ih fs (off + k) n h
        have hf := ih _ _ h3
        refine ⟨by omega, fun d' hd xs ys w hx hy => ?_⟩
        have hp1 := hf.part xs off w (by omega)
        have hp2 := hf.part ys off w (by omega)
        have hl1 : ((xs.drop off).take k).length = k := by simp; omega
        have hl2 : ((ys.drop off).take k).length = k := by simp; omega
        have he := hf.eq d' hd ((xs.drop off).take k) ((ys.drop off).take k) w hl1 hl2
        obtain ⟨hr1, hr2⟩ := hrest d' hd xs ys w hx hy
        refine ⟨?_, fun e => ?_⟩
        · simp only [Op.eqFields, if_pos (show f.name ≠ "_" from h1), Sem.run_bind, h2, hp1, hp2, he, Result.andThen_ok]
          by_cases e : (xs.drop off).take k = (ys.drop off).take k
          · simp only [e, decide_true, Bool.not_true, Bool.false_eq_true, if_false, hr1]
            congr 1
            rw [decide_eq_decide]
            rw [take_drop_split xs off k, take_drop_split ys off k, e]
            exact List.append_cancel_left_eq _ _ _ ▸ Iff.rfl
          · simp only [e, decide_false, Bool.not_false, if_true, Sem.run_pure]
            congr 1
            symm
            rw [decide_eq_false_iff_not]
            intro hc
            exact e (by rw [hc])
        · have hk := hf.key d' hd ((xs.drop off).take k) e w hl1
          simp only [List.forIn_cons, if_pos (show f.name ≠ "_" from h1), Sem.run_bind, h2, hp1, hk, Result.andThen_ok, Sem.run_pure]
          exact hr2 e
    · simp [h1, h2] at h
theorem flatT_ok : ∀ (d : Nat) (t : TypeId) (n : Nat), flatT P d t = some n → FlatOk P d t n
  | 0, _, _, h => by simp [flatT] at h
  | d + 1, t, n, h => by
    rw [flatT] at h
    cases hu : P.underlying t with
    | none => simp [hu] at h
    | some desc =>
      rw [hu] at h
      cases desc <;> first | (simp at h; done) | skip
      · rename_i k
        cases k <;> first | (simp at h; done) | skip
        simp at h; subst h
        have ha : isAggB P t = false := by simp [isAggB, hu]
        refine ⟨fun d' hd xs ys w hx hy => ?_, fun d' hd xs e w hx => ?_, fun xs off w hx => ?_⟩
        · obtain ⟨d', rfl⟩ : ∃ k, d' = k + 1 := ⟨d' - 1, by omega⟩
          match xs, ys, hx, hy with
          | [a], [b], _, _ =>
            simp only [flatV, ha, if_false, Bool.false_eq_true, List.headD_cons]
            rw [run_equalIn_int w d' t .i64 .i64 a b hu]
            congr 1
            rw [Bool.eq_iff_iff]; simp
        · obtain ⟨d', rfl⟩ : ∃ k, d' = k + 1 := ⟨d' - 1, by omega⟩
          simp [Instr.checkKey, run_underlying hu, flatV, ha]
        · have hlt : off < xs.length := by omega
          simp only [part, Sem.run_bind, run_isAgg' hu, Result.andThen_ok, ha, flatV, Bool.false_eq_true, if_false]
          have h1 : ((xs.drop off).take 1).headD 0 = xs[off] := by rw [List.drop_eq_getElem_cons hlt]; rfl
          rw [h1]
          simp [hlt]
      · rename_i fs
        simp only at h
        by_cases hs : (P.stoodInHeld t || (szB P t).isNone) = true
        · simp [hs] at h
        · rw [if_neg hs] at h
          simp at hs
          have ha : isAggB P t = true := by simp [isAggB, hu]
          split at h
          · rename_i m hm
            split at h
            · rename_i hsz
              simp at h hsz; subst h
              obtain ⟨_, hfs⟩ := flatFs_eq (fun t n => flatT_ok d t n) fs.toList 0 m hm
              have hff : P.fieldsOf t = fs := by simp [Program.fieldsOf, hu]
              refine ⟨fun d' hd xs ys w hx hy => ?_, fun d' hd xs e w hx => ?_, fun xs off w hx => ?_⟩
              · obtain ⟨d', rfl⟩ : ∃ k, d' = k + 1 := ⟨d' - 1, by omega⟩
                simp only [flatV, ha, if_true]
                rw [run_equalIn_struct w d' t _ _ (by rw [hff]; exact hu) hs.1, hff, (hfs d' (by omega) xs ys w hx hy).1]
                simp
              · obtain ⟨d', rfl⟩ : ∃ k, d' = k + 1 := ⟨d' - 1, by omega⟩
                have := (hfs d' (by omega) xs xs w hx hx).2 e
                simp only [flatV, ha, if_true, Instr.checkKey, Sem.run_bind, run_underlying hu, Result.andThen_ok]
                rw [← Array.forIn_toList]
                rw [this]; rfl
              · simp only [part, Sem.run_bind, run_isAgg' hu, Result.andThen_ok, ha, flatV, if_true, run_sizeOf' hsz, Sem.run_pure]
                congr 2
                apply Array.ext'
                simp [List.map_drop, List.map_take]
            · simp at h
          · simp at h
theorem EqFlat.of {t : TypeId} {n : Nat} {fs : Array Field} (hu : P.underlying t = some (.struct fs)) (hf : flatT P 9 t = some n) (hg : P.eqGuardType P.depth t = false) : EqFlat P t n := by
  have ho := flatT_ok 9 t n hf
  have ha : isAggB P t = true := by simp [isAggB, hu]
  have hv : ∀ xs, flatV P t xs = .agg (xs.map (Value.int .i64)).toArray := fun xs => by simp [flatV, ha]
  refine ⟨⟨fs, hu⟩, fun xs ys w hx hy => ⟨fun op x y hop => ⟨run_eqGuard_agg w op t x y _ _ hg, ?_⟩, ?_, fun e => ?_⟩⟩
  · have := ho.eq 10000 (by decide) xs ys w hx hy
    rw [hv, hv] at this
    rcases hop with rfl | rfl
    · rw [run_eql_struct, this]; simp [Result.andThen, show (BinOp.eql == BinOp.neq) = false from rfl]
    · rw [run_neq_struct, this]; simp [Result.andThen]
  · have := ho.eq 10000 (by decide) xs ys w hx hy
    rw [hv, hv] at this
    exact this
  · have := ho.key 10000 (by decide) xs e w hx
    rw [hv] at this
    exact this
end Go.Fam
