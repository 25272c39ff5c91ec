import Derived.Test.YtgcinomjcgebhaaFam6
set_option linter.all false
/- Maps: what the program's operations on them do. -/
namespace Go.Fam
section
variable {P : Program}
def putK (ks : List (List Int)) (l : List Int) : List (List Int) := if l ∈ ks then ks else ks ++ [l]
def putVs {α : Type} (ks : List (List Int)) (vs : List α) (l : List Int) (v : α) : List α := if l ∈ ks then vs.set (ks.idxOf l) v else vs ++ [v]

/-- a key, as the program sees it -/
def KeyIs (P : Program) (kt : TypeId) (sk : Bool) (ks : List (List Int)) (l : List Int) : Prop :=
  (sk = false → P.underlying kt = some (.int .i64) ∧ l.length = 1 ∧ ∀ k ∈ ks, k.length = 1) ∧ (sk = true → EqFlat P kt l.length ∧ ∀ k ∈ ks, k.length = l.length)

theorem one_eq {l : List Int} (h : l.length = 1) : l = [l.headD 0] := by
  match l, h with
  | [x], _ => rfl

theorem findNow_run (x : Int) : ∀ (es : List MapEntry) (ks : List (List Int)) (i : Nat), es.map (·.key) = ks.map (keyC false) → (∀ k ∈ ks, k.length = 1) →
    ∃ r, Instr.findNow (.int .i64) (.int .i64 x) es i = some r ∧ (([x] ∈ ks ∧ ∃ e, es[ks.idxOf [x]]? = some e ∧ r = some (i + ks.idxOf [x], e.val)) ∨ ([x] ∉ ks ∧ r = none))
  | [], ks, i, h, _ => by
    have : ks = [] := by simpa using h.symm
    subst this
    exact ⟨none, rfl, .inr ⟨by simp, rfl⟩⟩
  | e :: es, [], i, h, _ => by simp at h
  | e :: es, k :: ks, i, h, h1 => by
    simp only [List.map_cons, List.cons.injEq] at h
    obtain ⟨he, h⟩ := h
    have hk := one_eq (h1 k (by simp))
    have hkey : e.key = .int .i64 (k.headD 0) := by rw [he]; rfl
    by_cases hx : x = k.headD 0
    · refine ⟨some (i, e.val), ?_, .inl ⟨by rw [hk, ← hx]; simp, e, ?_, ?_⟩⟩
      · simp [Instr.findNow, hkey, Instr.sameNow, hx]
      · rw [hk, ← hx]; simp
      · rw [hk, ← hx]; simp
    · obtain ⟨r, hr, hcase⟩ := findNow_run x es ks (i + 1) h (fun k' hk' => h1 k' (by simp [hk']))
      have hne : k ≠ [x] := by rintro rfl; exact hx rfl
      refine ⟨r, ?_, ?_⟩
      · have hx' : (x == k.headD 0) = false := beq_false_of_ne hx
        simp only [Instr.findNow, hkey, Instr.sameNow, if_true, hx', hr]
      · have hidx : (k :: ks).idxOf [x] = ks.idxOf [x] + 1 := by rw [List.idxOf_cons, beq_false_of_ne hne]; rfl
        rw [hidx]
        rcases hcase with ⟨h2, e', he', hr'⟩ | ⟨h2, hr'⟩
        · exact .inl ⟨by simp [h2], e', by simpa using he', by rw [hr']; congr 2; omega⟩
        · exact .inr ⟨by simp [h2, Ne.symm hne], hr'⟩

theorem findAsking_run {kt : TypeId} {l : List Int} (hE : EqFlat P kt l.length) (w : World) : ∀ (es : List MapEntry) (ks : List (List Int)) (i : Nat), es.map (·.key) = ks.map (keyC true) → (∀ k ∈ ks, k.length = l.length) →
    ∃ r, (Instr.findAsking kt (keyC true l) es i).run P w = .ok r w ∧ ((l ∈ ks ∧ ∃ e, es[ks.idxOf l]? = some e ∧ r = some (i + ks.idxOf l, e.val)) ∨ (l ∉ ks ∧ r = none))
  | [], ks, i, h, _ => by
    have : ks = [] := by simpa using h.symm
    subst this
    exact ⟨none, by simp [Instr.findAsking], .inr ⟨by simp, rfl⟩⟩
  | e :: es, [], i, h, _ => by simp at h
  | e :: es, k :: ks, i, h, h1 => by
    simp only [List.map_cons, List.cons.injEq] at h
    obtain ⟨he, h⟩ := h
    have heq := (hE.2 l k w rfl (h1 k (by simp))).2.1
    have hkey : e.key = .agg (k.map (Value.int .i64)).toArray := by rw [he]; rfl
    by_cases hx : l = k
    · subst hx
      refine ⟨some (i, e.val), ?_, .inl ⟨by simp, e, by simp, by simp⟩⟩
      simp only [Instr.findAsking, hkey, keyC, if_true, Sem.run_bind, heq, Result.andThen_ok]
      simp
    · obtain ⟨r, hr, hcase⟩ := findAsking_run hE w es ks (i + 1) h (fun k' hk' => h1 k' (by simp [hk']))
      refine ⟨r, ?_, ?_⟩
      · simp only [keyC, if_true] at hr
        simp only [Instr.findAsking, hkey, keyC, if_true, Sem.run_bind, heq, Result.andThen_ok]
        simp [hx, hr]
      · have hidx : (k :: ks).idxOf l = ks.idxOf l + 1 := by rw [List.idxOf_cons, beq_false_of_ne (Ne.symm hx)]; rfl
        rw [hidx]
        rcases hcase with ⟨h2, e', he', hr'⟩ | ⟨h2, hr'⟩
        · exact .inl ⟨by simp [h2], e', by simpa using he', by rw [hr']; congr 2; omega⟩
        · exact .inr ⟨by simp [h2, hx], hr'⟩

theorem findKey_run {kt : TypeId} {sk : Bool} {ks : List (List Int)} {l : List Int} (hK : KeyIs P kt sk ks l) (w : World) {es : List MapEntry} (h : es.map (·.key) = ks.map (keyC sk)) :
    ∃ r, (Instr.findKey kt (keyC sk l) es).run P w = .ok r w ∧ ((l ∈ ks ∧ ∃ e, es[ks.idxOf l]? = some e ∧ r = some (ks.idxOf l, e.val)) ∨ (l ∉ ks ∧ r = none)) := by
  cases sk with
  | false =>
    obtain ⟨hu, hl, h1⟩ := hK.1 rfl
    have hl' := one_eq hl
    obtain ⟨r, hr, hc⟩ := findNow_run (l.headD 0) es ks 0 h h1
    rw [← hl'] at hc
    refine ⟨r, ?_, by simpa using hc⟩
    simp only [Instr.findKey, keyC, Sem.run_bind, run_underlying hu, Result.andThen_ok, Bool.false_eq_true, if_false, hr, Sem.run_pure]
  | true =>
    obtain ⟨hE, h1⟩ := hK.2 rfl
    obtain ⟨fs, hu⟩ := hE.1
    cases es with
    | nil =>
      have : ks = [] := by simpa using h.symm
      subst this
      refine ⟨none, ?_, .inr ⟨by simp, rfl⟩⟩
      simp [Instr.findKey, run_underlying hu, Instr.findNow]
    | cons e es =>
      obtain ⟨r, hr, hc⟩ := findAsking_run hE w (e :: es) ks 0 h h1
      refine ⟨r, ?_, by simpa using hc⟩
      cases ks with
      | nil => simp at h
      | cons k ks =>
        have hkey : e.key = .agg (k.map (Value.int .i64)).toArray := by simp only [List.map_cons, List.cons.injEq] at h; rw [h.1]; rfl
        simp only [Instr.findKey, Sem.run_bind, run_underlying hu, Result.andThen_ok, Instr.findNow, keyC, if_true, hkey, Instr.sameNow]
        simpa only [keyC, if_true] using hr

theorem checkKey_run {kt : TypeId} {sk : Bool} {ks : List (List Int)} {l : List Int} (hK : KeyIs P kt sk ks l) (e : Bool) (w : World) : (Instr.checkKey e 10000 kt (keyC sk l)).run P w = .ok () w := by
  cases sk with
  | false =>
    obtain ⟨hu, hl, h1⟩ := hK.1 rfl
    obtain ⟨m, hm⟩ : ∃ m, 10000 = m + 1 := ⟨9999, rfl⟩
    rw [hm]
    simp [Instr.checkKey, run_underlying hu, keyC]
  | true => exact ((hK.2 rfl).1.2 l l w rfl rfl).2.2 e

theorem sameBits_key (sk : Bool) (l : List Int) : Instr.sameBits 10000 (keyC sk l) (keyC sk l) = true := by
  obtain ⟨m, hm⟩ : ∃ m, 10000 = m + 1 + 1 := ⟨9998, rfl⟩
  rw [hm]
  cases sk with
  | false => simp [keyC, Instr.sameBits]
  | true =>
    simp only [keyC, if_true, Instr.sameBits, beq_self_eq_true, Bool.true_and]
    rw [List.all_eq_true]
    rintro ⟨x, y⟩ hxy
    have : ∀ (l : List Int) (x y : Value), (x, y) ∈ (l.map (Value.int .i64)).zip (l.map (Value.int .i64)) → ∃ n, x = .int .i64 n ∧ y = .int .i64 n := by
      intro l
      induction l with
      | nil => intro x y h; simp at h
      | cons n l ih =>
        intro x y h
        simp only [List.map_cons, List.zip_cons_cons, List.mem_cons, Prod.mk.injEq] at h
        rcases h with ⟨rfl, rfl⟩ | h
        · exact ⟨n, rfl, rfl⟩
        · exact ih x y h
    obtain ⟨n, rfl, rfl⟩ := this l x y (by simpa using hxy)
    simp [Instr.sameBits]

theorem lookup_run {t kt et : TypeId} (ht : P.underlying t = some (.map kt et)) {sk : Bool} {ks : List (List Int)} {l : List Int} (hK : KeyIs P kt sk ks l) {w : World} {b : Nat} {es : Array MapEntry} {clock : Nat}
    (hb : w.heap[b]? = some (.map es clock)) (hes : es.toList.map (·.key) = ks.map (keyC sk)) {z : Value} (hz : ∀ w, (zeroValue et).run P w = .ok z w) (ok : Bool) :
    ∃ v, (Instr.lookup t (.map (some b)) (keyC sk l) ok).run P w = .ok (if ok then .tuple #[v, .bool (decide (l ∈ ks))] else v) w ∧ ((l ∈ ks ∧ ∃ e, es[ks.idxOf l]? = some e ∧ v = e.val) ∨ (l ∉ ks ∧ v = z)) := by
  obtain ⟨r, hr, hc⟩ := findKey_run hK w hes
  have hck := checkKey_run hK es.isEmpty w
  have hg := run_getObj_map (P := P) (hb := hb)
  rcases hc with ⟨h1, e, he, hr'⟩ | ⟨h1, hr'⟩
  · subst hr'
    refine ⟨e.val, ?_, .inl ⟨h1, e, by simpa using he, rfl⟩⟩
    simp only [Instr.lookup, Sem.run_bind, run_underlying ht, Result.andThen_ok, hg, Sem.run_pure, hck, hr]
    cases ok <;> simp [h1]
  · subst hr'
    refine ⟨z, ?_, .inr ⟨h1, rfl⟩⟩
    simp only [Instr.lookup, Sem.run_bind, run_underlying ht, Result.andThen_ok, hg, Sem.run_pure, hck, hr, hz]
    cases ok <;> simp [h1]

theorem map_eq_get {α β : Type} {f : α → β} {l : List α} {m : List β} (h : l.map f = m) (i : Nat) : (l[i]?).map f = m[i]? := by rw [← h, List.getElem?_map]

/-- an entry's value set -/
theorem es_set {sk : Bool} {ks : List (List Int)} {l : List Int} {es : Array MapEntry} (h : MapEs sk ks es) (hl : l ∈ ks) (v : Value) :
    MapEs sk ks (es.modify (ks.idxOf l) fun e => { e with val := v }) ∧ (es.modify (ks.idxOf l) fun e => { e with val := v }).toList.map (·.val) = (es.toList.map (·.val)).set (ks.idxOf l) v ∧
      (es.modify (ks.idxOf l) fun e => { e with key := keyC sk l, val := v }) = (es.modify (ks.idxOf l) fun e => { e with val := v }) ∧ (es.modify (ks.idxOf l) fun e => { e with key := keyC sk l }) = es ∧
      (es.modify (ks.idxOf l) fun e => { e with val := v }).size = es.size := by
  have hlt : ks.idxOf l < ks.length := List.idxOf_lt_length_of_mem hl
  have hlen : es.size = ks.length := by have := congrArg List.length h.1; simpa using this
  have hkey : ∀ e, es[ks.idxOf l]? = some e → e.key = keyC sk l := by
    intro e he
    have := map_eq_get h.1 (ks.idxOf l)
    rw [Array.getElem?_toList, he] at this
    simp only [Option.map_some, List.getElem?_map, List.getElem?_eq_getElem hlt, Option.map_some, List.getElem_idxOf hlt, Option.some.injEq] at this
    exact this
  have hmod : ∀ (f : MapEntry → MapEntry) (i : Nat), (es.modify (ks.idxOf l) f)[i]? = if ks.idxOf l = i then (es[i]?).map f else es[i]? := by
    intro f i
    rw [Array.getElem?_modify]
  have hk2 : (es.modify (ks.idxOf l) fun e => { e with key := keyC sk l }) = es := by
    apply Array.ext_getElem?
    intro i
    rw [hmod]
    split
    · rename_i hi
      subst hi
      cases he : es[ks.idxOf l]? with
      | none => rfl
      | some e => simp only [Option.map_some, Option.some.injEq]; rw [← hkey e he]
    · rfl
  have hk1 : (es.modify (ks.idxOf l) fun e => { e with key := keyC sk l, val := v }) = (es.modify (ks.idxOf l) fun e => { e with val := v }) := by
    apply Array.ext_getElem?
    intro i
    rw [hmod, hmod]
    split
    · rename_i hi
      subst hi
      cases he : es[ks.idxOf l]? with
      | none => rfl
      | some e => simp only [Option.map_some, Option.some.injEq]; rw [← hkey e he]
    · rfl
  refine ⟨⟨?_, ?_⟩, ?_, hk1, hk2, by simp⟩
  · rw [← h.1]
    apply List.ext_getElem?
    intro i
    simp only [List.getElem?_map, Array.getElem?_toList, hmod]
    split
    · cases es[i]? <;> rfl
    · rfl
  · intro i e he
    rw [hmod] at he
    split at he
    · cases he2 : es[i]? with
      | none => rw [he2] at he; cases he
      | some e' => rw [he2] at he; simp only [Option.map_some, Option.some.injEq] at he; subst he; exact h.2 i e' he2
    · exact h.2 i e he
  · apply List.ext_getElem?
    intro i
    simp only [List.getElem?_map, Array.getElem?_toList, hmod, List.getElem?_set, List.length_map, Array.length_toList]
    split
    · rename_i hi
      subst hi
      rw [if_pos (by omega)]
      obtain ⟨e, he⟩ : ∃ e, es[ks.idxOf l]? = some e := ⟨_, Array.getElem?_eq_getElem (by omega)⟩
      rw [he]; rfl
    · rfl

theorem es_push {sk : Bool} {ks : List (List Int)} {es : Array MapEntry} (h : MapEs sk ks es) (l : List Int) (v : Value) :
    MapEs sk (ks ++ [l]) (es.push { key := keyC sk l, val := v, born := es.size }) ∧ (es.push { key := keyC sk l, val := v, born := es.size }).toList.map (·.val) = es.toList.map (·.val) ++ [v] := by
  refine ⟨⟨by simp [h.1], ?_⟩, by simp⟩
  intro i e he
  rw [Array.getElem?_push] at he
  split at he
  · rename_i hi; simp only [Option.some.injEq] at he; subst he; exact hi.symm
  · exact h.2 i e he

theorem mapUpdate_run {t kt et : TypeId} (ht : P.underlying t = some (.map kt et)) {sk : Bool} {ks : List (List Int)} {l : List Int} (hK : KeyIs P kt sk ks l) {w : World} {b : Nat} {es : Array MapEntry}
    (hb : w.heap[b]? = some (.map es es.size)) (hes : MapEs sk ks es) (v : Value) :
    ∃ es' : Array MapEntry, (Instr.mapUpdate t (.map (some b)) (keyC sk l) v).run P w = .ok () (w.putObj b (.map es' es'.size)) ∧ MapEs sk (putK ks l) es' ∧ es'.toList.map (·.val) = putVs ks (es.toList.map (·.val)) l v := by
  obtain ⟨r, hr, hc⟩ := findKey_run hK w hes.1
  have hck := checkKey_run hK false w
  have hg := run_getObj_map (P := P) (hb := hb)
  have hset : ∀ o, (setObj b o).run P w = .ok () (w.putObj b o) := fun o => by simp [setObj, Sem.run, hb, World.putObj]
  rcases hc with ⟨h1, e, he, hr'⟩ | ⟨h1, hr'⟩
  · subst hr'
    obtain ⟨g1, g2, g3, g4, g5⟩ := es_set hes h1 v
    refine ⟨_, ?_, by rw [putK, if_pos h1]; exact g1, by rw [putVs, if_pos h1]; exact g2⟩
    have he' : es[ks.idxOf l]? = some e := by simpa using he
    have hkey : e.key = keyC sk l := by
      have := map_eq_get hes.1 (ks.idxOf l)
      have hlt : ks.idxOf l < ks.length := List.idxOf_lt_length_of_mem h1
      rw [Array.getElem?_toList, he'] at this
      simpa [List.getElem?_eq_getElem hlt] using this
    simp only [Instr.mapUpdate, Sem.run_bind, run_underlying ht, Result.andThen_ok, hg, hck, hr, he', Option.map_some, Option.getD_some, hkey, Instr.keyThatStays, sameBits_key, if_true, Sem.run_pure, hset, g3]
    rw [g5]
  · subst hr'
    obtain ⟨g1, g2⟩ := es_push hes l v
    refine ⟨_, ?_, by rw [putK, if_neg h1]; exact g1, by rw [putVs, if_neg h1]; exact g2⟩
    simp only [Instr.mapUpdate, Sem.run_bind, run_underlying ht, Result.andThen_ok, hg, hck, hr, hset]
    simp

/-- the value that an entry holds, or the zero value -/
theorem mapEntry_run {t kt et : TypeId} (ht : P.underlying t = some (.map kt et)) {sk : Bool} {ks : List (List Int)} {l : List Int} (hK : KeyIs P kt sk ks l) {w : World} {b : Nat} {es : Array MapEntry}
    (hb : w.heap[b]? = some (.map es es.size)) (hes : MapEs sk ks es) {z : Value} (hz : ∀ w, (zeroValue et).run P w = .ok z w) :
    ∃ (es' : Array MapEntry) (v : Value), (Instr.mapEntry t (.map (some b)) (keyC sk l)).run P w = .ok (.tuple #[v, .int .i64 (ks.idxOf l)]) (w.putObj b (.map es' es'.size)) ∧ MapEs sk (putK ks l) es' ∧
      ((l ∈ ks ∧ (∃ e, es[ks.idxOf l]? = some e ∧ v = e.val) ∧ es'.toList.map (·.val) = es.toList.map (·.val)) ∨ (l ∉ ks ∧ v = z ∧ es'.toList.map (·.val) = es.toList.map (·.val) ++ [z])) := by
  obtain ⟨r, hr, hc⟩ := findKey_run hK w hes.1
  have hck := checkKey_run hK false w
  have hg := run_getObj_map (P := P) (hb := hb)
  have hset : ∀ o, (setObj b o).run P w = .ok () (w.putObj b o) := fun o => by simp [setObj, Sem.run, hb, World.putObj]
  rcases hc with ⟨h1, e, he, hr'⟩ | ⟨h1, hr'⟩
  · subst hr'
    obtain ⟨g1, g2, g3, g4, g5⟩ := es_set hes h1 e.val
    have he' : es[ks.idxOf l]? = some e := by simpa using he
    have hkey : e.key = keyC sk l := by
      have := map_eq_get hes.1 (ks.idxOf l)
      have hlt : ks.idxOf l < ks.length := List.idxOf_lt_length_of_mem h1
      rw [Array.getElem?_toList, he'] at this
      simpa [List.getElem?_eq_getElem hlt] using this
    refine ⟨es, e.val, ?_, by rw [putK, if_pos h1]; exact hes, .inl ⟨h1, ⟨e, he', rfl⟩, rfl⟩⟩
    simp only [Instr.mapEntry, Sem.run_bind, run_underlying ht, Result.andThen_ok, hg, hck, hr, he', Option.map_some, Option.getD_some, hkey, Instr.keyThatStays, sameBits_key, if_true, Sem.run_pure, hset, g4, hes.2 _ _ he']
    simp [goInt]
  · subst hr'
    obtain ⟨g1, g2⟩ := es_push hes l z
    refine ⟨_, z, ?_, by rw [putK, if_neg h1]; exact g1, .inr ⟨h1, rfl, g2⟩⟩
    have hidx : ks.idxOf l = es.size := by
      rw [List.idxOf_eq_length h1]
      have := congrArg List.length hes.1
      simpa using this.symm
    simp only [Instr.mapEntry, Sem.run_bind, run_underlying ht, Result.andThen_ok, hg, hck, hr, hset, hz, hidx]
    simp [goInt]

theorem entryStore_run {t : TypeId} {sk : Bool} {ks : List (List Int)} {w : World} {b : Nat} {es : Array MapEntry} (hb : w.heap[b]? = some (.map es es.size)) (hes : MapEs sk ks es) {i : Int} (h0 : 0 ≤ i) (hi : i < es.size) (v : Value) :
    (Instr.entryStore t (.map (some b)) (.int .i64 i) v).run P w = .ok () (w.putObj b (.map (es.modify i.toNat fun e => { e with val := v }) es.size)) := by
  have hg := run_getObj_map (P := P) (hb := hb)
  have hset : ∀ o, (setObj b o).run P w = .ok () (w.putObj b o) := fun o => by simp [setObj, Sem.run, hb, World.putObj]
  have hf : es.findIdx? (fun e => (e.born : Int) == i) = some i.toNat := by
    rw [Array.findIdx?_eq_some_iff_getElem]
    have hlt : i.toNat < es.size := by omega
    refine ⟨hlt, ?_, ?_⟩
    · have := hes.2 i.toNat es[i.toNat] (Array.getElem?_eq_getElem hlt)
      simp [this]; omega
    · intro j hj
      have := hes.2 j es[j] (Array.getElem?_eq_getElem (by omega))
      simp [this]; omega
  simp only [Instr.entryStore, Sem.run_bind, Sem.run_pure, Result.andThen_ok, hg, asInt, asIntOf, hf, hset]

theorem keyL_rep {S : Nat → Prop} {w : World} {O : OInfo} {v : V} {c : Value} {s : Bool} {l : List Int} (h : keyL v = some (s, l)) (hr : Rep S w O v c) : c = keyC s l ∧ (s = false → l.length = 1) := by
  cases v <;> first | (simp [keyL] at h; done) | skip
  case i x =>
    simp only [keyL, Option.some.injEq, Prod.mk.injEq] at h
    obtain ⟨rfl, rfl⟩ := h
    exact ⟨by rw [rep_i hr]; rfl, fun _ => rfl⟩
  case ag cs =>
    simp only [keyL, Option.map_eq_some_iff, Prod.mk.injEq] at h
    obtain ⟨l', hl, rfl, rfl⟩ := h
    simp only [Rep] at hr
    obtain ⟨ccs, rfl, hn, hr⟩ := hr
    obtain ⟨e1, _⟩ := intsOf_rep _ _ _ hl S w O hr (by simpa using hn)
    refine ⟨?_, fun h => by cases h⟩
    simp only [keyC, if_true]
    rw [← e1]

theorem keyIs_of {kt : TypeId} {sk st : Bool} {ks : List (List Int)} {s : Bool} {l : List Int} (hf : keyFits (EqFlat P) kt sk st ks s l) (hsk : sk = !isI64 P kt) (h1 : s = false → l.length = 1) (h2 : st = false → ∀ k ∈ ks, k.length = 1) :
    KeyIs P kt sk ks l ∧ s = sk ∧ st = sk := by
  obtain ⟨rfl, rfl, hE⟩ := hf
  refine ⟨⟨fun h => ⟨?_, h1 h, h2 h⟩, hE⟩, rfl, rfl⟩
  have : isI64 P kt = true := by rw [h] at hsk; simpa using hsk.symm
  unfold isI64 at this
  split at this
  · rename_i hu; exact hu
  · cases this

theorem zE_rep {t : TypeId} (hz : zOk P t = true) (hs : zShape P t = true) : ∃ z, (∀ w, (zeroValue t).run P w = .ok z w) ∧ ∀ S w O, Rep S w O (zE P t) z := by
  obtain ⟨i, z, hi, hzz, hch, hsz⟩ := zOk_zero hz
  refine ⟨z, fun w => by simp [zeroValue, typeInfo, hi, hzz], fun S w O => ?_⟩
  obtain ⟨z1, z2, z3⟩ := zChk_ok _ _ hch S w O
  unfold zShape at hs
  simp only [hi, Option.bind_some, hzz] at hs
  unfold zE
  cases z with
  | agg cs =>
    simp only at hs
    rw [if_pos hs]
    simp only [Rep]
    exact ⟨cs, rfl, z3.symm, z1⟩
  | tuple cs => cases hs
  | _ =>
    have hs' : isAggB P t = false := by simpa using hs
    rw [hs', if_neg (by simp)]
    have := z1.head (by rw [z3]; exact Nat.le_refl 1)
    simpa [Value.cells] using this

theorem mapB_und {t kt et : TypeId} (h : mapB P t = some (kt, et)) : P.underlying t = some (.map kt et) := by
  unfold mapB at h
  split at h
  · rename_i k e hu; simp only [Option.some.injEq, Prod.mk.injEq] at h; rw [hu, h.1, h.2]
  · cases h

theorem mapEs_len {st : Bool} {ks : List (List Int)} {es : Array MapEntry} (h : MapEs st ks es) : es.size = ks.length := by
  have := congrArg List.length h.1
  simpa using this

/-- a map's block, behind a value -/
theorem mp_block {S : Nat → Prop} {w : World} {O : OInfo} {hp : List Blk} (hm : Mat S w O hp) {id g : Nat} {c : Value} (hr : Rep S w O (.mp id g) c) {st : Bool} {ks : List (List Int)} {vs : List V} (hid : hp[id]? = some (.map st ks vs)) (hg : g = 0) :
    ∃ b es, O id = some (0, some b) ∧ c = .map (some b) ∧ w.heap[b]? = some (.map es es.size) ∧ MapEs st ks es ∧ RepL S w O vs (es.toList.map (·.val)) ∧ vs.length = ks.length ∧ ks.Nodup ∧ (st = false → ∀ k ∈ ks, k.length = 1) := by
  subst hg
  simp only [Rep] at hr
  obtain ⟨_, g', ob, hO, _, h1⟩ := hr
  have hb := hm.blk id g' ob hO
  rw [hid] at hb
  simp only [BlkOk] at hb
  obtain ⟨rfl, b, es, rfl, h2⟩ := hb
  obtain ⟨b', hb', hc⟩ := h1 rfl
  cases hb'
  exact ⟨b, es, hO, hc, h2⟩

theorem val_get {S : Nat → Prop} {w : World} {O : OInfo} {vs : List V} {es : Array MapEntry} (h : RepL S w O vs (es.toList.map (·.val))) {i : Nat} {e : MapEntry} (he : es[i]? = some e) (hl : vs.length = es.size) :
    ∃ v, vs[i]? = some v ∧ Rep S w O v e.val := by
  have hlt : i < es.size := (Array.getElem?_eq_some_iff.1 he).1
  obtain ⟨v, hv⟩ : ∃ v, vs[i]? = some v := ⟨_, List.getElem?_eq_getElem (by omega)⟩
  obtain ⟨c, hc, hr⟩ := RepL.get _ _ i v h hv
  rw [List.getElem?_map, Array.getElem?_toList, he] at hc
  cases hc
  exact ⟨v, hv, hr⟩
theorem putK_nodup {ks : List (List Int)} {l : List Int} (h : ks.Nodup) : (putK ks l).Nodup := by
  unfold putK
  split
  · exact h
  · rename_i hl
    rw [List.nodup_append]
    exact ⟨h, by simp, fun a ha b hb => by simp at hb; subst hb; rintro rfl; exact hl ha⟩
theorem putK_one {sk : Bool} {ks : List (List Int)} {l : List Int} (h1 : sk = false → l.length = 1) (h : sk = false → ∀ k ∈ ks, k.length = 1) : sk = false → ∀ k ∈ putK ks l, k.length = 1 := by
  intro hs k hk
  unfold putK at hk
  split at hk
  · exact h hs k hk
  · rcases List.mem_append.1 hk with hk | hk
    · exact h hs k hk
    · simp at hk; subst hk; exact h1 hs
theorem es_put {sk : Bool} {ks : List (List Int)} {es : Array MapEntry} (h : MapEs sk ks es) {i : Nat} (hi : i < ks.length) (v : Value) :
    MapEs sk ks (es.modify i fun e => { e with val := v }) ∧ (es.modify i fun e => { e with val := v }).toList.map (·.val) = (es.toList.map (·.val)).set i v := by
  have hlen := mapEs_len h
  refine ⟨⟨?_, ?_⟩, ?_⟩
  · rw [← h.1]
    apply List.ext_getElem?
    intro j
    simp only [List.getElem?_map, Array.getElem?_toList, Array.getElem?_modify]
    split
    · cases es[j]? <;> rfl
    · rfl
  · intro j e he
    rw [Array.getElem?_modify] at he
    split at he
    · cases he2 : es[j]? with
      | none => rw [he2] at he; cases he
      | some e' => rw [he2] at he; simp only [Option.map_some, Option.some.injEq] at he; subst he; exact h.2 j e' he2
    · exact h.2 j e he
  · apply List.ext_getElem?
    intro j
    simp only [List.getElem?_map, Array.getElem?_toList, Array.getElem?_modify, List.getElem?_set, List.length_map, Array.length_toList]
    split
    · rename_i hij
      subst hij
      rw [if_pos (by omega)]
      obtain ⟨e, he⟩ : ∃ e, es[i]? = some e := ⟨_, Array.getElem?_eq_getElem (by omega)⟩
      rw [he]; rfl
    · rfl
end
end Go.Fam
