import Derived.Test.YtgcinomjcgebhaaFam14
set_option linter.all false
/- Rules by which the simplifier runs resolved code. -/
namespace Go.Fam
theorem upd_some (fr : List (Nat × V)) (d : Nat) (v : V) : upd (lkp fr) (some d) v = lkp ((d, v) :: fr) := rfl
theorem upd_none (fr : Nat → V) (v : V) : upd fr none v = fr := rfl
theorem lkp_cons (fr : List (Nat × V)) (d t : Nat) (v : V) : lkp ((d, v) :: fr) t = if t = d then v else lkp fr t := rfl
theorem lkp_nil (t : Nat) : lkp [] t = .u := rfl
theorem vw_i (hp : List Blk) (n : Nat) (x : Int) : vw hp (n + 1) (.i x) = .i x := rfl
theorem vw_b (hp : List Blk) (n : Nat) (x : Bool) : vw hp (n + 1) (.b x) = .b x := rfl
theorem vw_u (hp : List Blk) (n : Nat) : vw hp n .u = .u := by cases n <;> rfl
theorem vw_pn (hp : List Blk) (n : Nat) : vw hp (n + 1) .pn = .pn := rfl
theorem vw_z (hp : List Blk) (n : Nat) (e : Nat) : vw hp (n + 1) (.z e) = .sl e [] := rfl
theorem vw_sl (hp : List Blk) (n : Nat) (e : Nat) (r : List (List V)) : vw hp (n + 1) (.sl e r) = .sl e r := rfl
theorem vw_pa (hp : List Blk) (n : Nat) (r : List V) : vw hp (n + 1) (.pa r) = .pa r := rfl
theorem vw_ag (hp : List Blk) (n : Nat) (r : List V) : vw hp (n + 1) (.ag r) = .ag (r.map (vw hp n)) := rfl
theorem vw_tp (hp : List Blk) (n : Nat) (r : List V) : vw hp (n + 1) (.tp r) = .tp (r.map (vw hp n)) := rfl
theorem vw_fn (hp : List Blk) (n f : Nat) (r : List V) : vw hp (n + 1) (.fn f r) = .fn f (r.map (vw hp n)) := rfl
theorem vw_ad (hp : List Blk) (n id g off : Nat) : vw hp (n + 1) (.ad id g off) = match hp[id]? with
      | some (.cells g' vs) => if g' = g then .pa ((vs.drop off).map (vw hp n)) else .u
      | _ => .u := rfl
theorem vw_rf (hp : List Blk) (n id g off len es : Nat) : vw hp (n + 1) (.rf id g off len es) = match hp[id]? with
      | some (.cells g' vs) => if g' = g ∧ off + len * es ≤ vs.length then .sl es ((chunk es vs off len).map fun r => r.map (vw hp n)) else .u
      | _ => .u := rfl
theorem vw8 (hp : List Blk) (v : V) : vw hp 8 v = vw hp (7 + 1) v := rfl
section
variable {Γ : Gam} {E : TypeId → Nat → Prop} {g : Bool} {base : Nat}
theorem run_nil (σ : St) (K : St → Prop) : runR Γ E g base [] σ K = K σ := rfl
theorem run_cons (o : RO) (l : List RO) (σ : St) (K : St → Prop) : runR Γ E g base (o :: l) σ K = ((step Γ E g base o σ).1 ∧ runR Γ E g base l (step Γ E g base o σ).2 K) := rfl
theorem step_q (d : Option Nat) (gd : Option (Nat × Bool)) (ts : List Nat) (nid : Option Nat) (q : Q) (σ : St) :
    step Γ E false base ⟨d, gd, ts, nid, .q q⟩ σ = ((qv Γ E σ.hp q (evO σ.fr)).1, ⟨upd σ.fr d (qv Γ E σ.hp q (evO σ.fr)).2, σ.hp⟩) := rfl
theorem eff_q (d : Option Nat) (gd : Option (Nat × Bool)) (ts : List Nat) (nid : Option Nat) (q : Q) (σ : St) :
    eff Γ E false base ⟨d, gd, ts, nid, .q q⟩ σ = ((qv Γ E σ.hp q (evO σ.fr)).1, (qv Γ E σ.hp q (evO σ.fr)).2, none) := rfl
variable {Q : Exit → St → Prop} {σ : St}
theorem ru_skip : wpR Γ E .skip Q σ = Q .normal σ := rfl
theorem ru_reg (l : List RO) : wpR Γ E (.reg g l) Q σ = runR Γ E g 0 l σ (Q .normal) := rfl
theorem ru_any (m : Nat) (l : List AnyOp) : wpR Γ E (.any g m l) Q σ = runX Γ E g σ.hp.length l [] ⟨σ.fr, σ.hp ++ List.replicate m .hole⟩ (Q .normal) := rfl
theorem ru_seq (a b : RC) : wpR Γ E (.seq a b) Q σ = wpR Γ E a (thenQ (wpR Γ E b Q) Q) σ := rfl
theorem ru_cond (c : Od) (a b : RC) : wpR Γ E (.cond c a b) Q σ = match evO σ.fr c with
    | .b t => (t = true → wpR Γ E a Q σ) ∧ (t = false → wpR Γ E b Q σ)
    | _ => False := rfl
theorem ru_block (id : Nat) (a : RC) : wpR Γ E (.block id a) Q σ = wpR Γ E a (blockQ id Q) σ := rfl
theorem ru_exit (id : Nat) : wpR Γ E (.exit id) Q σ = Q (.exit id) σ := rfl
theorem ru_ret : wpR Γ E .ret Q σ = Q .ret σ := rfl
theorem ru_keep (l : List Nat) (a : RC) : wpR Γ E (.keep l a) Q σ = wpR Γ E a Q ⟨lkp (l.map fun t => (t, σ.fr t)), σ.hp⟩ := rfl
theorem ru_drp (n : Nat) (a : RC) : wpR Γ E (.drp n a) Q σ = wpR Γ E a Q ⟨fun t => cutV σ.hp n (σ.fr t), cutH n σ.hp⟩ := rfl
theorem ru_own (t es : Nat) (a : RC) : wpR Γ E (.own t es a) Q σ = match σ.fr t with
    | .z _ => wpR Γ E a Q ⟨upd σ.fr (some t) (.rf σ.hp.length 0 0 0 es), σ.hp ++ [.cells 0 []]⟩
    | _ => False := rfl
theorem ru_ownc (t off es : Nat) (a : RC) : wpR Γ E (.ownc t off es a) Q σ = match σ.fr t with
    | .ad id g o => match σ.hp[id]? with
      | some (.cells g' vs) => match vs[o + off]? with
        | some (.z _) => g' = g ∧ wpR Γ E a Q ⟨σ.fr, σ.hp.set id (.cells g (vs.set (o + off) (.rf σ.hp.length 0 0 0 es))) ++ [.cells 0 []]⟩
        | _ => False
      | _ => False
    | _ => False := rfl
theorem ru_swp (i j : Nat) (a : RC) : wpR Γ E (.swp i j a) Q σ = (i < σ.hp.length ∧ j < σ.hp.length ∧ wpR Γ E a Q ⟨fun t => renV (sw i j) (σ.fr t), swH i j σ.hp⟩) := rfl
theorem ru_nxt (d m it : Nat) : wpR Γ E (.nxt d m it) Q σ = match σ.fr it with
    | .it id g => match σ.hp[id]? with
      | some (.iter mid n left _) => match σ.hp[mid]? with
        | some (.map _ ks _) => g = 0 ∧ ks.length = n ∧ (left = [] → Q .normal ⟨upd (upd σ.fr (some d) .u) (some m) (.b false), σ.hp⟩) ∧
            ∀ j ∈ left, Q .normal ⟨upd (upd σ.fr (some d) .u) (some m) (.b true), σ.hp.set id (.iter mid n (left.erase j) (some j))⟩
        | _ => False
      | _ => False
    | _ => False := rfl
theorem ru_yrg (l1 : List RO) (y : RO) (ks : List Nat) (l2 : List RO) : wpR Γ E (.yrg g l1 y ks l2) Q σ = runR Γ E g 0 l1 σ fun σ1 => match condB σ1.fr y.gd with
    | none => False
    | some false => runR Γ E g 0 l2 ⟨upd σ1.fr y.dst (.gv false .u), σ1.hp⟩ (Q .normal)
    | some true => match y.x with
      | .o f args => match opv g σ1.fr f, σ1.hp with
        | .yl l, [.gh caps (some (x :: rest))] => needW g y σ1.fr ∧ caps[0]? = some (.yl l) ∧ args.map (opv g σ1.fr) = x ∧ flatL x = true ∧ (∀ t ∈ ks, sfree (σ1.fr t) = true ∨ caps[t]? = some (σ1.fr t)) ∧
            ∀ b, runR Γ E g 0 l2 ⟨upd (lkp (slots ks σ1.fr)) y.dst (yres y.gd b), [.gh caps (if b then some rest else none)]⟩ (Q .normal)
        | _, _ => False
      | _ => False := rfl
theorem ru_crl (l1 : List RO) (y : RO) (l2 : List RO) : wpR Γ E (.crl g l1 y l2) Q σ = runR Γ E g 0 l1 σ fun σ1 => match y.x with
    | .o f args => match opv g σ1.fr f with
      | .fn gf caps => needW g y σ1.fr ∧ gf < 1000000 ∧ hasRefL (args.map (opv g σ1.fr) ++ caps) = false ∧ (Γ (3000000 + gf) ((args.map (opv g σ1.fr) ++ caps).map (vw σ1.hp 8))).1 ∧
          ∀ r bs, (Γ (4000000 + gf) (.tp (r :: bs) :: (args.map (opv g σ1.fr) ++ caps).map (vw σ1.hp 8))).1 →
            runR Γ E g 0 l2 ⟨upd σ1.fr y.dst (shV σ1.hp.length r), σ1.hp ++ (bs.map vB).map (shB σ1.hp.length)⟩ (Q .normal)
      | _ => False
    | _ => False := rfl
theorem cut_lkp (hp : List Blk) (n : Nat) : ∀ L : List (Nat × V), (fun t => cutV hp n (lkp L t)) = lkp (L.map fun p => (p.1, cutV hp n p.2))
  | [] => by funext t; simp [lkp, cutV]
  | (k, v) :: L => by
    funext t
    have := congrFun (cut_lkp hp n L) t
    simp only [lkp, List.map_cons]
    split
    · rfl
    · exact this
theorem ren_lkp (f : Nat → Nat) : ∀ L : List (Nat × V), (fun t => renV f (lkp L t)) = lkp (L.map fun p => (p.1, renV f p.2))
  | [] => by funext t; simp [lkp, renV]
  | (k, v) :: L => by
    funext t
    have := congrFun (ren_lkp f L) t
    simp only [lkp, List.map_cons]
    split
    · rfl
    · exact this

theorem ru_mid {a b : RC} (M : St → Prop) (h1 : wpR Γ E a (thenQ M Q) σ) (h2 : ∀ σ', M σ' → wpR Γ E b Q σ') : wpR Γ E (.mid a b) Q σ := ⟨M, h1, h2⟩
theorem ru_loop {l : List Nat} {d : Option Nat} {a : RC} (I : Nat → St → Prop) (h0 : ∃ k, I k (kp l d σ)) (h : ∀ k σ', I k σ' → wpR Γ E a (thenQ (fun σ'' => ∃ j, j < k ∧ I j (kp l d σ'')) Q) σ') :
    wpR Γ E (.loop l d a) Q σ := ⟨I, h0, h⟩

theorem runR_mono {K K' : St → Prop} (hK : ∀ σ, K σ → K' σ) : ∀ (l : List RO) (σ : St), runR Γ E g base l σ K → runR Γ E g base l σ K'
  | [], σ, h => hK σ h
  | _ :: l, _, h => ⟨h.1, runR_mono hK l _ h.2⟩
theorem runX_mono {K K' : St → Prop} (hK : ∀ σ, K σ → K' σ) : ∀ (l : List AnyOp) (ds : List FP) (σ : St), runX Γ E g base l ds σ K → runX Γ E g base l ds σ K'
  | [], _, σ, h => hK σ h
  | _ :: l, _, _, h => ⟨h.1, h.2.1, runX_mono hK l _ _ h.2.2⟩
theorem wpR_mono : ∀ (r : RC) (Q Q' : Exit → St → Prop) (σ : St), (∀ e σ, Q e σ → Q' e σ) → wpR Γ E r Q σ → wpR Γ E r Q' σ := by
  intro r
  induction r with
  | skip => intro Q Q' σ h hw; exact h _ _ hw
  | reg g l => intro Q Q' σ h hw; exact runR_mono (h _) l σ hw
  | any g m l => intro Q Q' σ h hw; exact runX_mono (h _) l [] _ hw
  | seq a b iha ihb =>
    intro Q Q' σ h hw
    refine iha _ _ σ (fun e σ' he => ?_) hw
    cases e <;> first | exact h _ _ he | exact ihb _ _ _ h he
  | mid a b iha ihb =>
    intro Q Q' σ h hw
    obtain ⟨M, h1, h2⟩ := hw
    refine ⟨M, iha _ _ σ (fun e σ' he => ?_) h1, fun σ' hM => ihb _ _ _ h (h2 σ' hM)⟩
    cases e <;> first | exact h _ _ he | exact he
  | cond c a b iha ihb =>
    intro Q Q' σ h hw
    simp only [wpR] at hw ⊢
    cases hc : evO σ.fr c <;> simp only [hc] at hw ⊢ <;> try exact hw
    exact ⟨fun ht => iha _ _ _ h (hw.1 ht), fun ht => ihb _ _ _ h (hw.2 ht)⟩
  | block id a iha =>
    intro Q Q' σ h hw
    refine iha _ _ σ (fun e σ' he => ?_) hw
    cases e <;> first | exact h _ _ he | skip
    simp only [blockQ] at he ⊢
    split
    · rename_i hi; rw [if_pos hi] at he; exact h _ _ he
    · rename_i hi; rw [if_neg hi] at he; exact h _ _ he
  | loop l d a iha =>
    intro Q Q' σ h hw
    obtain ⟨I, h0, h1⟩ := hw
    refine ⟨I, h0, fun k σ' hI => iha _ _ σ' (fun e σ'' he => ?_) (h1 k σ' hI)⟩
    cases e <;> first | exact h _ _ he | exact he
  | exit id => intro Q Q' σ h hw; exact h _ _ hw
  | ret => intro Q Q' σ h hw; exact h _ _ hw
  | keep l a iha => intro Q Q' σ h hw; exact iha _ _ _ h hw
  | drp n a iha => intro Q Q' σ h hw; exact iha _ _ _ h hw
  | own t es a iha =>
    intro Q Q' σ h hw
    simp only [wpR] at hw ⊢
    cases ht : σ.fr t <;> simp only [ht] at hw ⊢ <;> try exact hw
    exact iha _ _ _ h hw
  | ownc t off es a iha =>
    intro Q Q' σ h hw
    simp only [wpR] at hw ⊢
    cases ht : σ.fr t <;> simp only [ht] at hw ⊢ <;> try exact hw
    case ad id g o =>
      cases hid : σ.hp[id]? with
      | none => simp [hid] at hw
      | some bk =>
        cases bk <;> simp only [hid] at hw ⊢ <;> try exact hw
        case cells g' vs =>
          cases hv : vs[o + off]? with
          | none => simp [hv] at hw
          | some v => cases v <;> simp only [hv] at hw ⊢ <;> first | exact hw | exact ⟨hw.1, iha _ _ _ h hw.2⟩
  | swp i j a iha => intro Q Q' σ h hw; exact ⟨hw.1, hw.2.1, iha _ _ _ h hw.2.2⟩
  | nxt d m it =>
    intro Q Q' σ h hw
    simp only [wpR] at hw ⊢
    cases ht : σ.fr it <;> simp only [ht] at hw ⊢ <;> try exact hw
    case it id g =>
      cases hid : σ.hp[id]? with
      | none => simp [hid] at hw
      | some bk =>
        cases bk <;> simp only [hid] at hw ⊢ <;> try exact hw
        case iter mid n left cur =>
          cases hm : σ.hp[mid]? with
          | none => simp [hm] at hw
          | some bk2 =>
            cases bk2 <;> simp only [hm] at hw ⊢ <;> try exact hw
            case map st ks vs => exact ⟨hw.1, hw.2.1, fun hl => h _ _ (hw.2.2.1 hl), fun j hj => h _ _ (hw.2.2.2 j hj)⟩
  | rfn f ps lo b a ihb iha =>
    intro Q Q' σ h hw
    simp only [wpR] at hw ⊢
    split at hw
    · rename_i gf caps hf
      split at hw
      · rename_i ok ys hΓ
        obtain ⟨h1, h2, h3, h4, I, h5, h6, h7⟩ := hw
        refine ⟨h1, h2, h3, h4, I, h5, fun k x hp hx hI => ihb _ _ _ (fun e σ' he => ?_) (h6 k x hp hx hI), fun hp hI => h _ _ (h7 hp hI)⟩
        cases e <;> first | exact he | skip
        refine iha _ _ _ (fun e σ'' he' => ?_) he
        cases e <;> first | exact he' | exact h _ _ he'
      · exact hw
    · exact hw
  | yrg g l1 y ks l2 =>
    intro Q Q' σ h hw
    refine runR_mono (fun σ1 hw => ?_) l1 σ hw
    split at hw
    · exact hw.elim
    · exact runR_mono (h _) l2 _ hw
    · split at hw
      · split at hw
        · exact ⟨hw.1, hw.2.1, hw.2.2.1, hw.2.2.2.1, hw.2.2.2.2.1, fun b => runR_mono (h _) l2 _ (hw.2.2.2.2.2 b)⟩
        · exact hw.elim
      · exact hw.elim
  | crl g l1 y l2 =>
    intro Q Q' σ h hw
    refine runR_mono (fun σ1 hw => ?_) l1 σ hw
    split at hw
    · split at hw
      · exact ⟨hw.1, hw.2.1, hw.2.2.1, hw.2.2.2.1, fun r bs hR => runR_mono (h _) l2 _ (hw.2.2.2.2 r bs hR)⟩
      · exact hw.elim
    · exact hw.elim

/-- the entries that are still to come -/
def leftN (n : Nat) (pre : List Nat) : List Nat := (List.range n).filter fun k => !pre.contains k
theorem leftN_nil (n : Nat) : leftN n [] = List.range n := by simp [leftN]
theorem mem_leftN {n : Nat} {pre : List Nat} {j : Nat} : j ∈ leftN n pre ↔ j < n ∧ j ∉ pre := by simp [leftN]
theorem leftN_erase {n : Nat} {pre : List Nat} {j : Nat} (h : j ∈ leftN n pre) : (leftN n pre).erase j = leftN n (pre ++ [j]) := by
  unfold leftN
  rw [List.Nodup.erase_eq_filter (List.Nodup.sublist List.filter_sublist List.nodup_range), List.filter_filter]
  apply List.filter_congr
  intro x _
  simp only [List.contains_append, Bool.not_or]
  rw [Bool.and_comm]
  congr 1
  simp
  rw [Bool.eq_iff_iff]
  simp
theorem perm_leftN {n : Nat} {pre : List Nat} (hnd : pre.Nodup) (hlt : ∀ j ∈ pre, j < n) (h : leftN n pre = []) : pre.Perm (List.range n) := by
  rw [List.perm_ext_iff_of_nodup hnd List.nodup_range]
  intro j
  constructor
  · intro hj; simpa using hlt j hj
  · intro hj
    by_cases hp : j ∈ pre
    · exact hp
    · have : j ∈ leftN n pre := mem_leftN.2 ⟨by simpa using hj, hp⟩
      rw [h] at this; cases this
theorem nodup_len {n : Nat} {pre : List Nat} (hnd : pre.Nodup) (hlt : ∀ j ∈ pre, j < n) : pre.length ≤ n := by
  induction n generalizing pre with
  | zero => cases pre with | nil => simp | cons j l => have := hlt j (by simp); omega
  | succ n ih =>
    by_cases hn : n ∈ pre
    · have h1 := List.length_erase_of_mem hn
      have h2 := ih (pre := pre.erase n) (hnd.erase n) fun j hj => by
        rw [hnd.mem_erase_iff] at hj
        have := hlt j hj.2
        have := hj.1
        omega
      have := List.length_pos_of_mem hn
      omega
    · have h2 := ih (pre := pre) hnd fun j hj => by
        have := hlt j hj
        have : j ≠ n := by rintro rfl; exact hn hj
        omega
      omega

/-- a range over a map: S pre is the state at the head when the entries pre have come, in this order -/
theorem ru_range {l : List Nat} {d : Option Nat} {a : RC} (n : Nat) (S : List Nat → St) (C : List Nat → Prop) (h0 : kp l d σ = S []) (c0 : C [])
    (hs : ∀ pre, pre.Nodup → (∀ j ∈ pre, j < n) → C pre → wpR Γ E a (thenQ (fun σ'' => ∃ j, j ∈ leftN n pre ∧ C (pre ++ [j]) ∧ kp l d σ'' = S (pre ++ [j])) Q) (S pre)) : wpR Γ E (.loop l d a) Q σ := by
  refine ru_loop (fun k σ => ∃ pre : List Nat, pre.Nodup ∧ (∀ j ∈ pre, j < n) ∧ k = n - pre.length ∧ C pre ∧ σ = S pre) ⟨n, [], List.nodup_nil, (by simp), by simp, c0, h0⟩ ?_
  rintro k _ ⟨pre, hnd, hlt, rfl, hc, rfl⟩
  refine wpR_mono _ _ _ _ (fun e σ he => ?_) (hs pre hnd hlt hc)
  cases e <;> first | exact he | skip
  obtain ⟨j, hj, hc', hk⟩ := he
  obtain ⟨hjn, hjp⟩ := mem_leftN.1 hj
  have hnd' : (pre ++ [j]).Nodup := by
    rw [List.nodup_append]
    exact ⟨hnd, by simp, fun a ha b hb => by simp at hb; subst hb; rintro rfl; exact hjp ha⟩
  have hlt' : ∀ i ∈ pre ++ [j], i < n := by
    intro i hi
    rcases List.mem_append.1 hi with hi | hi
    · exact hlt i hi
    · simp at hi; omega
  have := nodup_len hnd' hlt'
  rw [List.length_append, List.length_singleton] at this
  exact ⟨n - (pre ++ [j]).length, by simp; omega, pre ++ [j], hnd', hlt', rfl, hc', hk⟩

/-- a range over a function: I k says what the blocks are when k values have come -/
theorem ru_rfn {f : Od} {ps : List Nat} {lo : Nat} {b a : RC} {gf : Nat} {caps : List V} {ok : Prop} {ys : List (List V)} (hf : evO σ.fr f = .fn gf caps) (hΓ : Γ (2000000 + gf) (caps.map (vw σ.hp 8)) = (ok, .sl 0 ys)) (h6 : gf < 1000000) (hok : ok)
    (href : hasRefL caps = false) (hlen : ∀ x ∈ ys, x.length = ps.length) (I : Nat → List Blk → Prop) (h0 : I 0 (cutH lo σ.hp))
    (hs : ∀ k x hp, ys[k]? = some x → I k hp → wpR Γ E b (rnQ (wpR Γ E a (rndQ Q lo (fun t => cutV σ.hp lo (σ.fr t)) (I (k + 1))))) ⟨updL (fun t => cutV σ.hp lo (σ.fr t)) ps x, hp⟩)
    (he : ∀ hp, I ys.length hp → Q .normal ⟨fun t => cutV σ.hp lo (σ.fr t), hp⟩) : wpR Γ E (.rfn f ps lo b a) Q σ := by
  simp only [wpR, hf, hΓ]
  exact ⟨h6, hok, href, hlen, I, h0, hs, he⟩
/-- likewise, the blocks known -/
theorem ru_rfnC {f : Od} {ps : List Nat} {lo : Nat} {b a : RC} {gf : Nat} {caps : List V} {ok : Prop} {ys : List (List V)} (H : Nat → List Blk) (C : Nat → Prop) (hf : evO σ.fr f = .fn gf caps) (hΓ : Γ (2000000 + gf) (caps.map (vw σ.hp 8)) = (ok, .sl 0 ys)) (h6 : gf < 1000000) (hok : ok)
    (href : hasRefL caps = false) (hlen : ∀ x ∈ ys, x.length = ps.length) (h0 : cutH lo σ.hp = H 0) (c0 : C 0)
    (hs : ∀ k x, ys[k]? = some x → C k → wpR Γ E b (rnQ (wpR Γ E a (rndQ Q lo (fun t => cutV σ.hp lo (σ.fr t)) (fun hp => C (k + 1) ∧ hp = H (k + 1))))) ⟨updL (fun t => cutV σ.hp lo (σ.fr t)) ps x, H k⟩)
    (he : C ys.length → Q .normal ⟨fun t => cutV σ.hp lo (σ.fr t), H ys.length⟩) : wpR Γ E (.rfn f ps lo b a) Q σ := by
  refine ru_rfn hf hΓ h6 hok href hlen (fun k hp => C k ∧ hp = H k) ⟨c0, h0⟩ ?_ ?_
  · rintro k x hp hx ⟨hc, rfl⟩
    exact hs k x hx hc
  · rintro hp ⟨hc, rfl⟩
    exact he hc

/-- a loop that counts: S i is the state at the head of round i; the test of round n leaves -/
theorem ru_count {l : List Nat} {d : Option Nat} {a : RC} (n : Nat) (S : Nat → St) (h0 : kp l d σ = S 0) (hs : ∀ i, i < n → wpR Γ E a (thenQ (fun σ'' => kp l d σ'' = S (i + 1)) Q) (S i))
    (he : wpR Γ E a (thenQ (fun _ => False) Q) (S n)) : wpR Γ E (.loop l d a) Q σ := by
  refine ru_loop (fun k σ => ∃ i, i ≤ n ∧ k = n - i ∧ σ = S i) ⟨n, 0, Nat.zero_le _, rfl, h0⟩ ?_
  rintro k _ ⟨i, hi, rfl, rfl⟩
  by_cases h : i < n
  · refine wpR_mono _ _ _ _ (fun e σ he => ?_) (hs i h)
    cases e <;> first | exact he | skip
    exact ⟨n - (i + 1), by omega, i + 1, h, rfl, he⟩
  · have : i = n := by omega
    subst this
    refine wpR_mono _ _ _ _ (fun e σ he => ?_) he
    cases e <;> first | exact he | exact he.elim
theorem ru_countC {l : List Nat} {d : Option Nat} {a : RC} (n : Nat) (S : Nat → St) (C : Nat → Prop) (h0 : kp l d σ = S 0) (c0 : C 0) (hs : ∀ i, i < n → C i → wpR Γ E a (thenQ (fun σ'' => C (i + 1) ∧ kp l d σ'' = S (i + 1)) Q) (S i))
    (he : C n → wpR Γ E a (thenQ (fun _ => False) Q) (S n)) : wpR Γ E (.loop l d a) Q σ := by
  refine ru_loop (fun k σ => ∃ i, i ≤ n ∧ k = n - i ∧ C i ∧ σ = S i) ⟨n, 0, Nat.zero_le _, rfl, c0, h0⟩ ?_
  rintro k _ ⟨i, hi, rfl, hc, rfl⟩
  by_cases h : i < n
  · refine wpR_mono _ _ _ _ (fun e σ he => ?_) (hs i h hc)
    cases e <;> first | exact he | skip
    exact ⟨n - (i + 1), by omega, i + 1, h, rfl, he.1, he.2⟩
  · have : i = n := by omega
    subst this
    refine wpR_mono _ _ _ _ (fun e σ he => ?_) (he hc)
    cases e <;> first | exact he | exact he.elim
end
theorem chunk1 (es : Nat) (vs : List V) : chunk es vs 0 1 = [vs.take es] := by simp [chunk]
theorem ite_f (p : Prop) [Decidable p] (x : Bool) : (if p then x else false) = (decide p && x) := by by_cases h : p <;> simp [h]
theorem ite_t (p : Prop) [Decidable p] (x : Bool) : (if p then true else x) = (decide p || x) := by by_cases h : p <;> simp [h]
theorem all_take_succ {α : Type} {p : α → Bool} {l : List α} {i : Nat} {x : α} (h : l[i]? = some x) : (l.take (i + 1)).all p = ((l.take i).all p && p x) := by
  rw [List.take_add_one, h]; simp
theorem all_of_mem {α : Type} {p : α → Bool} {l : List α} {i : Nat} {x : α} (h : l[i]? = some x) (hx : p x = false) : l.all p = false := by
  rw [List.all_eq_false]; exact ⟨x, List.mem_of_getElem? h, by simp [hx]⟩
end Go.Fam
