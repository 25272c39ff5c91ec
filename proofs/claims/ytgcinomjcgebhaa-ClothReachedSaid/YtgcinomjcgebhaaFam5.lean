import Derived.Test.YtgcinomjcgebhaaFam4
set_option linter.all false
namespace Go.Fam
section
variable {P : Program} {F : Fence} {n : Nat}

theorem cells_rep {S : Nat → Prop} {w : World} {O : OInfo} {v : V} {c : Value} (h : Rep S w O v c) (hs : solid v = true) :
    RepL S w O v.cells c.cells.toList ∧ c.cells.size = v.cells.length ∧ (v.cells.all cellOk = true → ∀ x ∈ c.cells.toList, x.oneCell' = true) := by
  by_cases hag : ∃ cs, v = .ag cs
  · obtain ⟨cs, rfl⟩ := hag
    have h' := h
    simp only [Rep] at h
    obtain ⟨ccs, rfl, hn, hr⟩ := h
    refine ⟨by simpa [V.cells, Value.cells] using hr, by simpa [V.cells, Value.cells] using hn, fun hall => ?_⟩
    simp only [V.cells, Value.cells] at hall ⊢
    clear h' hs
    have hn' : ccs.toList.length = cs.length := by simpa using hn
    revert hn' hall
    generalize ccs.toList = l at hr ⊢
    clear hn
    induction cs generalizing l with
    | nil => intro hall hn' x hx; have : l = [] := List.eq_nil_of_length_eq_zero (by simpa using hn'); subst this; cases hx
    | cons v vs ih =>
      intro hall hn'
      cases l with
      | nil => simp [RepL] at hr
      | cons c cs =>
        simp only [RepL] at hr
        simp only [List.all_cons, Bool.and_eq_true] at hall
        intro x hx
        rcases List.mem_cons.1 hx with rfl | hx
        · exact hr.1.one (by cases v <;> simp_all [cellOk])
        · exact ih cs hr.2 hall.2 (by simpa using hn') x hx
  · have h1 : c.oneCell' = true := h.one (by cases v <;> simp_all [solid])
    have hv : v.cells = [v] := by cases v <;> simp_all [V.cells]
    have hc : c.cells = #[c] := by cases c <;> simp_all [Value.cells, Value.oneCell']
    rw [hv, hc]
    exact ⟨by simp [RepL, h], by simp, by simp [h1]⟩

theorem fold_set (off : Nat) : ∀ (l : List Value) (k : Nat) (cs : Array Value), off + k + l.length ≤ cs.size →
    ((l.zipIdx k).foldl (fun (cs : Array Value) (x : Value × Nat) => cs.setIfInBounds (off + x.2) x.1) cs).toList = cs.toList.take (off + k) ++ l ++ cs.toList.drop (off + k + l.length)
  | [], k, cs, h => by simp
  | c :: l, k, cs, h => by
    simp only [List.zipIdx_cons, List.foldl_cons]
    simp only [List.length_cons] at h
    rw [fold_set off l (k + 1) _ (by simp; omega)]
    have hlt : off + k < cs.toList.length := by simp; omega
    simp only [Array.toList_setIfInBounds, List.length_cons]
    have e1 : off + (k + 1) = off + k + 1 := by omega
    rw [e1]
    rw [List.take_set, List.drop_set, if_pos (by omega)]
    have e2 : (cs.toList.take (off + k + 1)).set (off + k) c = cs.toList.take (off + k) ++ [c] := by
      rw [List.take_succ_eq_append_getElem hlt]
      have e4 : (cs.toList.take (off + k)).length = off + k := by simp at hlt ⊢; omega
      rw [List.set_append_right _ _ (by omega), e4]
      simp
    rw [e2]
    have e3 : off + k + 1 + l.length = off + k + (l.length + 1) := by omega
    rw [e3]
    simp

theorem RepL.putAt {S : Nat → Prop} {w : World} {O : OInfo} {vs ns : List V} {cs ms : List Value} (h : RepL S w O vs cs) (hn : RepL S w O ns ms) (hl : ms.length = ns.length) (hcs : cs.length = vs.length) (off : Nat) (hoff : off + ns.length ≤ vs.length) :
    RepL S w O (Fam.putAt off ns vs) (cs.take off ++ ms ++ cs.drop (off + ms.length)) ∧ (Fam.putAt off ns vs).length = vs.length := by
  unfold Fam.putAt
  refine ⟨?_, by simp; omega⟩
  refine RepL.append _ _ _ _ (RepL.append _ _ _ _ (RepL.take_both off _ _ (h.take off) (by simp; omega)) (by simp; omega) hn) (by simp; omega) ?_
  rw [hl]
  exact h.drop _

/-- the parts of a literal, as values and as data -/
inductive Parts (S : Nat → Prop) (w : World) (O : OInfo) (place : Nat → Option (Nat × Nat)) : List (Nat × Nat × V) → List (Nat × Value) → Prop
  | nil : Parts S w O place [] []
  | cons {off sz i : Nat} {v : V} {c : Value} {vs : List (Nat × Nat × V)} {cs : List (Nat × Value)} (hp : place i = some (off, sz)) (hr : Rep S w O v c) (h : Parts S w O place vs cs) : Parts S w O place ((off, sz, v) :: vs) ((i, c) :: cs)

theorem fill_rep {S : Nat → Prop} {w : World} {O : OInfo} {place : Nat → Option (Nat × Nat)} {vs : List (Nat × Nat × V)} {ps : List (Nat × Value)} (hp : Parts S w O place vs ps) :
    ∀ (zs : List V) (cs : Array Value), RepL S w O zs cs.toList → cs.size = zs.length → partsOk zs.length vs →
      ∃ cells, Instr.fill place cs ps = some cells ∧ cells.size = zs.length ∧ RepL S w O (foldParts vs zs) cells.toList ∧ (foldParts vs zs).length = zs.length ∧
        (partsOne vs → (∀ c ∈ cs.toList, c.oneCell' = true) → ∀ c ∈ cells.toList, c.oneCell' = true) := by
  induction hp with
  | nil => intro zs cs h hl _; exact ⟨cs, rfl, hl, h, rfl, fun _ h1 => h1⟩
  | @cons off sz i v c vs ps hpl hr hp ih =>
    intro zs cs h hl hok
    simp only [partsOk] at hok
    obtain ⟨⟨hs, hsz, hoff⟩, hok⟩ := hok
    obtain ⟨r1, r2, r3⟩ := cells_rep hr hs
    have hset := fold_set off c.cells.toList 0 cs (by simp; omega)
    simp only [Nat.add_zero] at hset
    have hput := h.putAt (ns := v.cells) (ms := c.cells.toList) r1 (by simpa using r2) (by simpa using hl) off (by omega)
    rw [← hset] at hput
    have hsize : (c.cells.toList.zipIdx.foldl (fun (cs : Array Value) (x : Value × Nat) => cs.setIfInBounds (off + x.2) x.1) cs).size = (putAt off v.cells zs).length := by
      rw [← Array.length_toList, hset, hput.2]; simp; omega
    obtain ⟨cells, hf, hc1, hc2, hc3, hc4⟩ := ih _ _ hput.1 hsize (by rw [hput.2]; exact hok)
    refine ⟨cells, ?_, hc1.trans hput.2, hc2, hc3.trans hput.2, fun hone h1 => ?_⟩
    · unfold Instr.fill
      rw [hpl]
      simp only
      rw [if_neg (by simp; omega)]
      rw [← hf]
      congr 1
      rw [← Array.foldl_toList]
      simp
    · simp only [partsOne] at hone
      refine hc4 hone.2 ?_
      rw [hset]
      intro x hx
      rcases List.mem_append.1 hx with hx | hx
      · rcases List.mem_append.1 hx with hx | hx
        · exact h1 x (List.mem_of_mem_take hx)
        · exact r3 hone.1 x hx
      · exact h1 x (List.mem_of_mem_drop hx)

theorem zOk_zero {t : TypeId} (h : zOk P t = true) : ∃ i z, P.info? t = some i ∧ i.zero = some z ∧ zChk (zV P 9 t) z.cells.toList = true ∧ szB P t = some z.cells.size := by
  unfold zOk at h
  split at h
  · rename_i z hz
    simp only [Option.bind_eq_some_iff] at hz
    obtain ⟨i, hi, hz⟩ := hz
    simp only [Bool.and_eq_true, beq_iff_eq] at h
    exact ⟨i, z, hi, hz, h⟩
  · cases h

theorem bld_run {t : TypeId} {fs : Array Field} (hu : P.underlying t = some (.struct fs)) (hz : zOk P t = true) (hsz : fs.all (fun f => (szB P f.type).isSome) = true)
    {S : Nat → Prop} {w : World} {O : OInfo} {vs : List (Nat × Nat × V)} {ps : Array (Nat × Value)}
    (hp : Parts S w O (fun i => (fPlace P fs i).map fun x => (x.1, x.2.1)) vs ps.toList) (hok : partsOk (zV P 9 t).length vs) :
    ∃ c, (Instr.build t ps).run P w = .ok c w ∧ Rep S w O (.ag (foldParts vs (zV P 9 t))) c := by
  obtain ⟨i, z, hi, hzz, hch, hzs⟩ := zOk_zero hz
  obtain ⟨z1, z2, z3⟩ := zChk_ok _ _ hch S w O
  obtain ⟨cells, hf, hc1, hc2, hc3, _⟩ := fill_rep hp _ z.cells z1 (by simpa using z3.symm) hok
  have hplaces : ∃ places, fs.toList.mapM (fun f : Field => (P.info? f.type).map fun i => (f.offset, i.size)) = some places ∧
      (fun i => places.toArray[i]?) = (fun i => (fPlace P fs i).map fun x => (x.1, x.2.1)) := by
    have hall : ∀ f : Field, f ∈ fs.toList → (szB P f.type).isSome = true := fun f hf => Array.all_eq_true_iff_forall_mem.1 hsz f (by simpa using hf)
    have key : ∀ l : List Field, (∀ f : Field, f ∈ l → (szB P f.type).isSome = true) → ∃ places : List (Nat × Nat), l.mapM (fun f : Field => (P.info? f.type).map fun i => (f.offset, i.size)) = some places ∧
        ∀ i : Nat, places[i]? = (do let f : Field ← l[i]?; return (f.offset, ← szB P f.type) : Option (Nat × Nat)) := by
      intro l
      induction l with
      | nil => intro _; exact ⟨[], rfl, fun i => by simp⟩
      | cons f l ih =>
        intro h
        obtain ⟨places, h1, h2⟩ := ih fun f hf => h f (by simp [hf])
        have hf := h f (by simp)
        simp only [szB, Option.isSome_map] at hf
        obtain ⟨j, hj⟩ := Option.isSome_iff_exists.1 hf
        refine ⟨(f.offset, j.size) :: places, by simp [hj, h1], fun i => ?_⟩
        cases i with
        | zero => simp [szB, hj]
        | succ i => simpa using h2 i
    obtain ⟨places, h1, h2⟩ := key fs.toList hall
    refine ⟨places, h1, funext fun i => ?_⟩
    have := h2 i
    simp only [List.getElem?_toArray, this, fPlace]
    cases hfi : fs[i]? with
    | none => simp [hfi]
    | some f =>
      cases hs : szB P f.type <;> simp [hfi, hs]
  obtain ⟨places, hpl, hpe⟩ := hplaces
  refine ⟨.agg cells, ?_, ?_⟩
  · refine run_build w t ps cells ?_
    unfold Program.built
    simp only [hi, hu, hzz, hpl]
    rw [hpe]
    exact hf
  · simp only [Rep]
    exact ⟨cells, rfl, by rw [hc1, hc3], hc2⟩

theorem RepL.flatten {S : Nat → Prop} {w : World} {O : OInfo} {zs : List V} {cs : List Value} (h : RepL S w O zs cs) (hl : cs.length = zs.length) : ∀ n, RepL S w O (List.replicate n zs).flatten (List.replicate n cs).flatten ∧ (List.replicate n cs).flatten.length = (List.replicate n zs).flatten.length
  | 0 => by simp [RepL]
  | n + 1 => by
    have ih := RepL.flatten h hl n
    simp only [List.replicate_succ, List.flatten_cons]
    exact ⟨RepL.append _ _ _ _ h hl ih.1, by simp only [List.length_append, ih.2, hl]⟩

theorem range_rep (z : Array Value) (hz : 0 < z.size) : ∀ n, ((Array.range (n * z.size)).map fun i => z[i % z.size]!).toList = (List.replicate n z.toList).flatten := by
  intro n
  apply List.ext_getElem?
  intro j
  have key : ∀ (n : Nat) (l : List Value), l ≠ [] → ∀ j, j < n * l.length → (List.replicate n l).flatten[j]? = l[j % l.length]? := by
    intro n l hl
    induction n with
    | zero => intro j hj; simp at hj
    | succ n ih =>
      intro j hj
      simp only [List.replicate_succ, List.flatten_cons]
      by_cases h : j < l.length
      · rw [List.getElem?_append_left h, Nat.mod_eq_of_lt h]
      · rw [List.getElem?_append_right (by omega), ih _ (by rw [Nat.succ_mul] at hj; omega)]
        congr 1
        rw [Nat.mod_eq_sub_mod (a := j) (by omega)]
  by_cases hj : j < n * z.size
  · rw [key n z.toList (by intro h; simp at h; subst h; simp at hz) j (by simpa using hj)]
    have hm : j % z.size < z.size := Nat.mod_lt _ hz
    simp [hj, hm]
  · have h1 : ((Array.range (n * z.size)).map fun i => z[i % z.size]!).toList.length = n * z.size := by simp
    rw [List.getElem?_eq_none (by omega)]
    symm
    rw [List.getElem?_eq_none]
    have : ∀ n : Nat, (List.replicate n z.toList).flatten.length = n * z.size := by
      intro n
      induction n with
      | zero => simp
      | succ n ih => simp only [List.replicate_succ, List.flatten_cons, List.length_append, ih, Array.length_toList, Nat.succ_mul]; omega
    rw [this]; omega

theorem bsl_run {t e : TypeId} {es k : Nat} (hu : P.underlying t = some (.slice e)) (hs : szB P e = some es) (h0 : es ≠ 0) (hfit : k * es ≤ 16777216) (hz : zOk P e = true)
    {S : Nat → Prop} {w : World} {O : OInfo} {vs : List (Nat × Nat × V)} {ps : Array (Nat × Value)}
    (hp : Parts S w O (fun i => some (i * es, es)) vs ps.toList) (hok : partsOk (k * es) vs) (hone : partsOne vs) :
    ∃ cells, (Instr.buildSlice t k ps).run P w = .ok (.slice (some ⟨w.heap.size, 0, none⟩) k k) (w.alloc (.cells cells e)) ∧ cells.size = k * es ∧
      RepL S w O (foldParts vs (List.replicate k (zV P 9 e)).flatten) cells.toList ∧ (foldParts vs (List.replicate k (zV P 9 e)).flatten).length = k * es ∧ (∀ c ∈ cells.toList, c.oneCell' = true) := by
  obtain ⟨i, z, hi, hzz, hch, hzs⟩ := zOk_zero hz
  obtain ⟨z1, z2, z3⟩ := zChk_ok _ _ hch S w O
  have hies : i.size = es := by simpa [szB, hi] using hs
  have hflat := RepL.flatten (S := S) (w := w) (O := O) z1 (by simpa using z3.symm) k
  have hze : z.cells.size = es := by rw [hs] at hzs; exact (Option.some.inj hzs).symm
  have hrep : ∀ (l : List V) (m : Nat), (List.replicate m l).flatten.length = m * l.length := by
    intro l m
    induction m with
    | zero => simp
    | succ m ih => simp only [List.replicate_succ, List.flatten_cons, List.length_append, ih, Nat.succ_mul]; omega
  have hlen : (List.replicate k (zV P 9 e)).flatten.length = k * es := by rw [hrep, z3]; simp [hze]
  have hrange := range_rep z.cells (by omega) k
  rw [hze] at hrange
  have hinit : RepL S w O (List.replicate k (zV P 9 e)).flatten ((Array.range (k * es)).map fun i => z.cells[i % es]!).toList := by rw [hrange]; exact hflat.1
  have hone0 : ∀ c ∈ ((Array.range (k * es)).map fun i => z.cells[i % es]!).toList, c.oneCell' = true := by
    rw [hrange]
    intro c hc
    rw [List.mem_flatten] at hc
    obtain ⟨l, hl, hc⟩ := hc
    rw [List.eq_of_mem_replicate hl] at hc
    exact z2 c hc
  obtain ⟨cells, hf, hc1, hc2, hc3, hc4⟩ := fill_rep hp _ ((Array.range (k * es)).map fun i => z.cells[i % es]!) hinit (by simp [hlen]) (by rw [hlen]; exact hok)
  refine ⟨cells, ?_, by rw [hc1, hlen], hc2, by rw [hc3, hlen], hc4 hone hone0⟩
  have hnot : ¬ (k * es > 2 ^ 24) := by omega
  by_cases hk : k = 0
  · subst hk
    have hr0 : Array.range 0 = #[] := rfl
    have hf' : Instr.fill (fun i => some (i * es, es)) #[] ps.toList = some cells := by simpa [hr0] using hf
    simp [Instr.buildSlice, run_underlying hu, run_sizeOf' hs, hr0, hf', newRow]
  · have hne : k * es ≠ 0 := Nat.mul_ne_zero hk h0
    have hzr : (zeroValue e).run P w = .ok z w := by simp [zeroValue, typeInfo, hi, hzz]
    simp only [Instr.buildSlice, Sem.run_bind, run_underlying hu, Result.andThen_ok, run_sizeOf' hs, if_neg hnot, if_neg hne, hzr, Sem.run_pure, hze]
    simp [hf, newRow]
end
end Go.Fam
