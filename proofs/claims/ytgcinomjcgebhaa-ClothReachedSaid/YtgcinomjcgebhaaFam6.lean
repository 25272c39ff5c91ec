import Derived.Test.YtgcinomjcgebhaaFam5
set_option linter.all false
namespace Go.Fam
section
variable {P : Program} {F : Fence} {n : Nat}

mutual
theorem noref_rep {S : Nat → Prop} {w : World} {O : OInfo} : ∀ (v : V) (c : Value), hasRef v = false → Rep S w O v c → Rep S w noO v c
  | .u, _, _, _ => by simp [Rep]
  | .b _, c, _, h => by simpa only [Rep] using h
  | .i _, c, _, h => by simpa only [Rep] using h
  | .z _, c, _, h => by simpa only [Rep] using h
  | .sl _ _, c, _, h => by simpa only [Rep] using h
  | .pa _, c, _, h => by simpa only [Rep] using h
  | .pn, c, _, h => by simpa only [Rep] using h
  | .yl _, c, _, h => by simpa only [Rep] using h
  | .ag cs, c, hn, h => by
    simp only [hasRef] at hn
    simp only [Rep] at h ⊢
    obtain ⟨ccs, hc, hl, hr⟩ := h
    exact ⟨ccs, hc, hl, norefL_rep cs _ hn hr⟩
  | .tp cs, c, hn, h => by
    simp only [hasRef] at hn
    simp only [Rep] at h ⊢
    obtain ⟨ccs, hc, hl, hr⟩ := h
    exact ⟨ccs, hc, hl, norefL_rep cs _ hn hr⟩
  | .fn f cs, c, hn, h => by
    simp only [hasRef] at hn
    simp only [Rep] at h ⊢
    obtain ⟨ccs, hc, hl, hr⟩ := h
    exact ⟨ccs, hc, hl, norefL_rep cs _ hn hr⟩
  | .ad _ _ _, _, hn, _ => by simp [hasRef] at hn
  | .rf _ _ _ _ _, _, hn, _ => by simp [hasRef] at hn
  | .mp _ _, _, hn, _ => by simp [hasRef] at hn
  | .it _ _, _, hn, _ => by simp [hasRef] at hn
  | .gv q v, c, hn, h => by
    simp only [hasRef] at hn
    simp only [Rep] at h ⊢
    exact ⟨fun hq => noref_rep v c hn (h.1 hq), h.2⟩
theorem norefL_rep {S : Nat → Prop} {w : World} {O : OInfo} : ∀ (vs : List V) (cs : List Value), hasRefL vs = false → RepL S w O vs cs → RepL S w noO vs cs
  | [], _, _, _ => by simp [RepL]
  | _ :: _, [], _, h => by simp [RepL] at h
  | v :: vs, c :: cs, hn, h => by
    simp only [hasRefL, Bool.or_eq_false_iff] at hn
    simp only [RepL] at h ⊢
    exact ⟨noref_rep v c hn.1 h.1, norefL_rep vs cs hn.2 h.2⟩
end

theorem hasRefL_mem : ∀ (vs : List V), hasRefL vs = false → ∀ v ∈ vs, hasRef v = false := by
  intro vs
  induction vs with
  | nil => intro _ v hv; cases hv
  | cons v vs ih =>
    intro h x hx
    simp only [hasRefL, Bool.or_eq_false_iff] at h
    rcases List.mem_cons.1 hx with rfl | hx
    · exact h.1
    · exact ih h.2 x hx

/-- seen as data, a value without references of ours means the same -/
theorem vw_noref {S : Nat → Prop} {w : World} {hp : List Blk} : ∀ (n : Nat) (v : V) (c : Value), hasRef v = false → Rep S w noO v c → Rep S w noO (vw hp n v) c := by
  intro n
  induction n with
  | zero => intro v c _ _; simp [vw, Rep]
  | succ n ih =>
    have ihL : ∀ (vs : List V) (cs : List Value), hasRefL vs = false → RepL S w noO vs cs → RepL S w noO (vs.map (vw hp n)) cs := by
      intro vs
      induction vs with
      | nil => intro cs _ _; simp [RepL]
      | cons v vs ihv =>
        intro cs hn h
        cases cs with
        | nil => simp [RepL] at h
        | cons c cs =>
          simp only [hasRefL, Bool.or_eq_false_iff] at hn
          simp only [RepL] at h
          simp only [List.map_cons, RepL]
          exact ⟨ih v c hn.1 h.1, ihv cs hn.2 h.2⟩
    intro v c hn h
    cases v with
    | z es =>
      simp only [vw, Rep] at h ⊢
      obtain ⟨a, rfl⟩ := h
      exact ⟨a, 0, rfl, by simp, .inl trivial⟩
    | ag cs =>
      simp only [hasRef] at hn
      simp only [vw, Rep] at h ⊢
      obtain ⟨ccs, hc, hl, hr⟩ := h
      exact ⟨ccs, hc, by simpa using hl, ihL _ _ hn hr⟩
    | tp cs =>
      simp only [hasRef] at hn
      simp only [vw, Rep] at h ⊢
      obtain ⟨ccs, hc, hl, hr⟩ := h
      exact ⟨ccs, hc, by simpa using hl, ihL _ _ hn hr⟩
    | fn f cs =>
      simp only [hasRef] at hn
      simp only [vw, Rep] at h ⊢
      obtain ⟨ccs, hc, hl, hr⟩ := h
      exact ⟨ccs, hc, by simpa using hl, ihL _ _ hn hr⟩
    | gv q v =>
      simp only [hasRef] at hn
      simp only [vw, Rep] at h ⊢
      exact ⟨fun hq => ih v c hn (h.1 hq), h.2⟩
    | ad _ _ _ => simp [hasRef] at hn
    | rf _ _ _ _ _ => simp [hasRef] at hn
    | mp _ _ => simp [hasRef] at hn
    | it _ _ => simp [hasRef] at hn
    | _ => simpa [vw] using h

mutual
theorem flat_rep {S S' : Nat → Prop} {w w' : World} {O O' : OInfo} : ∀ (v : V) (c : Value), flat v = true → Rep S w O v c → Rep S' w' O' v c
  | .b _, c, _, h => by simpa only [Rep] using h
  | .i _, c, _, h => by simpa only [Rep] using h
  | .z _, c, _, h => by simpa only [Rep] using h
  | .pn, c, _, h => by simpa only [Rep] using h
  | .ag cs, c, hn, h => by
    simp only [flat] at hn
    simp only [Rep] at h ⊢
    obtain ⟨ccs, hc, hl, hr⟩ := h
    exact ⟨ccs, hc, hl, flatL_rep cs _ hn hr⟩
  | .tp cs, c, hn, h => by
    simp only [flat] at hn
    simp only [Rep] at h ⊢
    obtain ⟨ccs, hc, hl, hr⟩ := h
    exact ⟨ccs, hc, hl, flatL_rep cs _ hn hr⟩
  | .u, _, hn, _ => by simp [flat] at hn
  | .sl _ _, _, hn, _ => by simp [flat] at hn
  | .pa _, _, hn, _ => by simp [flat] at hn
  | .fn _ _, _, hn, _ => by simp [flat] at hn
  | .yl _, _, hn, _ => by simp [flat] at hn
  | .ad _ _ _, _, hn, _ => by simp [flat] at hn
  | .rf _ _ _ _ _, _, hn, _ => by simp [flat] at hn
  | .mp _ _, _, hn, _ => by simp [flat] at hn
  | .it _ _, _, hn, _ => by simp [flat] at hn
  | .gv _ _, _, hn, _ => by simp [flat] at hn
theorem flatL_rep {S S' : Nat → Prop} {w w' : World} {O O' : OInfo} : ∀ (vs : List V) (cs : List Value), flatL vs = true → RepL S w O vs cs → RepL S' w' O' vs cs
  | [], _, _, _ => by simp [RepL]
  | _ :: _, [], _, h => by simp [RepL] at h
  | v :: vs, c :: cs, hn, h => by
    simp only [flatL, Bool.and_eq_true] at hn
    simp only [RepL] at h ⊢
    exact ⟨flat_rep v c hn.1 h.1, flatL_rep vs cs hn.2 h.2⟩
end

theorem rep_noO {S : Nat → Prop} {w : World} {O : OInfo} {v : V} {c : Value} (h : Rep S w noO v c) : Rep S w O v c :=
  Rep.ext ⟨fun _ h => ⟨h, rfl⟩, fun _ _ _ h => by cases h⟩ v c h

/-- a pure call among blocks of ours -/
theorem call_sound {Γ : Gam} (hG : GOk P Γ) {S : Nat → Prop} {w : World} {O : OInfo} {hp : List Blk} (hm : Mat S w O hp) {g : Nat} {as : List V} {cargs : Array Value}
    (hsz : cargs.size = as.length) (hr : RepL S w O as cargs.toList) (hg6 : g < 1000000) (hok : (Γ g (as.map (vw hp 8))).1) (hfl : hasRefL as = true → flat (Γ g (as.map (vw hp 8))).2 = true) :
    Enters P g ∧ Calls P g cargs w fun e w' => ∃ c S', e = .returned c ∧ Evol S S' w w' O O ∧ Mat S' w' O hp ∧ Rep S' w' O (Γ g (as.map (vw hp 8))).2 c := by
  obtain ⟨hen, hpc⟩ := hG.pure g _ hg6 hok
  refine ⟨hen, ?_⟩
  have fin : ∀ (S1 : Nat → Prop) (w' : World), (∀ k, S k → S1 k) → Evol S1 (Sfr S1 w w') w w' noO noO → Evol S (Sfr S w w') w w' O O ∧ Mat (Sfr S w w') w' O hp := by
    intro S1 w' hsub hev
    have hold : ∀ k, k < w.heap.size → w'.heap[k]? = w.heap[k]? := fun k hk => hev.old k hk (by rintro ⟨id, g, h⟩; cases h)
    have hx : Ext S (Sfr S w w') w w' O O := ⟨fun k hk => ⟨.inl hk, (hev.ext.keep k (hsub k hk)).2⟩, fun id g ob ho => ⟨g, ob, ho, Nat.le_refl _, fun _ => ⟨rfl, fun b cur e hb hh =>
      ⟨cur, (hold b (by subst hb; exact (hm.own id g b ho).1)).trans hh, rfl⟩⟩⟩⟩
    refine ⟨⟨hx, hev.os, hev.tape, hev.output, hev.size, hev.fz, fun k hk _ => hold k hk, fun _ h => .inl h, ?_⟩, ?_⟩
    · rintro k (hk | hk)
      · exact .inl hk
      · exact .inr (.inr hk.1)
    · refine hm.keep hx hev.size (fun b ⟨id, g, hb⟩ => hold b (hm.own id g b hb).1) ?_ ?_
      · rintro k (hk | hk)
        · exact Nat.lt_of_lt_of_le (hm.lt k hk) hev.size
        · exact hk.2
      · rintro k (hk | hk) ⟨id, g, hb⟩
        · exact (hm.own id g k hb).2 hk
        · have := (hm.own id g k hb).1; omega
  by_cases href : hasRefL as = true
  · have hr' : RepL (fun k => S k ∨ Own O k) w noO (as.map (vw hp 8)) cargs.toList := RepL.mapTo _ (fun v c h => vw_rep hm 8 v c h) _ _ hr
    refine (hpc (fun k => S k ∨ Own O k) w cargs ?_ (by simpa using hsz) hr').mono ?_
    · rintro k (hk | ⟨id, g, hk⟩)
      · exact hm.lt k hk
      · exact (hm.own id g k hk).1
    · rintro e w' ⟨c, rfl, hev, hrep⟩
      obtain ⟨h1, h2⟩ := fin _ w' (fun k hk => .inl hk) hev
      exact ⟨c, _, rfl, h1, h2, flat_rep _ _ (hfl href) hrep⟩
  · have href' : hasRefL as = false := by simpa using href
    have hr1 : RepL S w noO (as.map (vw hp 8)) cargs.toList := by
      have h0 := norefL_rep _ _ href' hr
      clear hr hok hfl hpc hsz href hen fin
      revert h0 href'
      generalize cargs.toList = cs
      induction as generalizing cs with
      | nil => intro _ _; simp [RepL]
      | cons v vs ih =>
        intro hn h
        cases cs with
        | nil => simp [RepL] at h
        | cons c cs =>
          simp only [hasRefL, Bool.or_eq_false_iff] at hn
          simp only [RepL] at h
          simp only [List.map_cons, RepL]
          exact ⟨vw_noref 8 v c hn.1 h.1, ih cs hn.2 h.2⟩
    refine (hpc S w cargs hm.lt (by simpa using hsz) hr1).mono ?_
    rintro e w' ⟨c, rfl, hev, hrep⟩
    obtain ⟨h1, h2⟩ := fin _ w' (fun k hk => hk) hev
    exact ⟨c, _, rfl, h1, h2, rep_noO hrep⟩
end
end Go.Fam
