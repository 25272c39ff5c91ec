import Derived.Test.YtgcinomjcgebhaaC02F
set_option linter.all false
set_option linter.unusedSimpArgs false
set_option linter.unusedVariables false
namespace Go.C02
open Go.Fam Go.Proofs
variable {Γ : Gam}
def okStrip (_ : Unit) : Prop := True
def prStrip (_ : Unit) : Strip → Bool := isStrip
def okBolt (_ : Unit) : Prop := True
def prBolt (_ : Unit) : Bolt → Bool := isBolt
def okSpan (_ : Unit) : Prop := True
def prSpan (_ : Unit) : Span → Bool := roundOk
def okInt (k : Dome × Bool) : Prop := if k.2 then k.1.bolts.length < 1000000 else inI (2 * k.1.loss)
def prInt (k : Dome × Bool) : Int → Bool := if k.2 then goreOk k.1 else widthOk k.1
def D0 : Dome := ⟨[], [], 0, [], [], 0⟩
def aC : V → List V | .ag cs => cs | _ => []
def pC : V → List V | .pa cs => cs | _ => []

/-! ### all[Strip] -/
def cvStrip (k : Unit) : V := .fn 80 []
def dkStrip : V → Unit := fun _ => ()
theorem dkStrip_e (k : Unit) : dkStrip (cvStrip k) = k := rfl
def capStrip (k : Unit) : List V := []
theorem capStrip_v (k : Unit) (n : Nat) : (capStrip k).map (vw [] (n + 1)) = capStrip k := rfl
theorem capStrip_r (k : Unit) : hasRefL (capStrip k) = false := rfl
def eCStrip (a : Strip × Unit) : List V := [.ag (eStrip a.1), .pa [cvStrip a.2]]
def dCStrip : List V → Strip × Unit | [v, .pa [c]] => (dStrip (aC v), dkStrip c) | _ => (⟨0, ⟨0, 0⟩⟩, ())
theorem dCStrip_e (a : Strip × Unit) : dCStrip (eCStrip a) = a := by obtain ⟨x, k⟩ := a; simp only [eCStrip, dCStrip, dkStrip_e]; simp [aC, dStrip_e]
def eXStrip (a : List Strip × Unit) : List V := [.sl 3 (a.1.map eStrip), .fn 87 [.pa [cvStrip a.2]]]
def dXStrip : List V → List Strip × Unit | [.sl _ rows, .fn _ [.pa [c]]] => (rows.map dStrip, dkStrip c) | _ => ([], ())
theorem dXStrip_e (a : List Strip × Unit) : dXStrip (eXStrip a) = a := by obtain ⟨x, k⟩ := a; simp only [eXStrip, dXStrip, dkStrip_e, map_de dStrip_e]
def eLStrip (a : List Strip × Unit) : List V := [.sl 3 (a.1.map eStrip), cvStrip a.2]
def dLStrip : List V → List Strip × Unit | [.sl _ rows, c] => (rows.map dStrip, dkStrip c) | _ => ([], ())
theorem dLStrip_e (a : List Strip × Unit) : dLStrip (eLStrip a) = a := by obtain ⟨x, k⟩ := a; simp only [eLStrip, dLStrip, dkStrip_e, map_de dStrip_e]
def okLStrip (a : List Strip × Unit) : Prop := a.1.length < 10000000 ∧ okStrip a.2
def r87 : List V → Prop × V := fnG eCStrip dCStrip (fun a => okStrip a.2) (fun a => !prStrip a.2 a.1) .b
def r90 : List V → Prop × V := fnG eXStrip dXStrip okLStrip (fun a => idxOf (fun x => !prStrip a.2 x) a.1) .i
def r86 : List V → Prop × V := fnG eXStrip dXStrip okLStrip (fun a => a.1.any fun x => !prStrip a.2 x) .b
def r79 : List V → Prop × V := fnG eLStrip dLStrip okLStrip (fun a => a.1.all (prStrip a.2)) .b
def famStrip (Γ : Gam) : Gam := (((Γ.ext 87 r87).ext 90 r90).ext 86 r86).ext 79 r79
theorem famStrip_ok (hG : GOk Try.prog Γ) (hb : ∀ (k : Unit) (x : Strip), okStrip k → Γ 80 (V.ag (eStrip x) :: capStrip k) = (True, .b (prStrip k x))) : GOk Try.prog (famStrip Γ) := by
  have g1 : GOk Try.prog (Γ.ext 87 r87) := hG.ext (fun a w => Try.call87 a w) (fnG_ok fun a h => P87 hG a.1 _ (by decide) _ _ (capStrip_v a.2 7) (capStrip_r a.2) (hb a.2 a.1 h))
  have g2 : GOk Try.prog ((Γ.ext 87 r87).ext 90 r90) := g1.ext (fun a w => Try.call90 a w) (fnG_ok fun a h => P90 g1 a.1 _ (by decide) _ _ rfl rfl h.1 fun x hx =>
    (show (Γ.ext 87 r87) 87 _ = r87 (eCStrip (x, a.2)) from rfl).trans ((fnG_at (x, a.2) (dCStrip_e _)).trans (by rw [eq_true h.2])))
  have g3 : GOk Try.prog (((Γ.ext 87 r87).ext 90 r90).ext 86 r86) := g2.ext (fun a w => Try.call86 a w) (fnG_ok fun a h => P86 g2 a.1 _ _ _ rfl rfl
    ((show ((Γ.ext 87 r87).ext 90 r90) 90 _ = r90 (eXStrip a) from rfl).trans ((fnG_at a (dXStrip_e _)).trans (by rw [eq_true h]))))
  exact g3.ext (fun a w => Try.call79 a w) (fnG_ok fun a h => P79 g3 a.1 _ _ _ (capStrip_v a.2 6) (capStrip_r a.2)
    ((show (((Γ.ext 87 r87).ext 90 r90).ext 86 r86) 86 _ = r86 (eXStrip a) from rfl).trans ((fnG_at a (dXStrip_e _)).trans (by rw [eq_true h]))))
theorem famStrip_all (Γ : Gam) (l : List Strip) (k : Unit) : famStrip Γ 79 [.sl 3 (l.map eStrip), cvStrip k] = (okLStrip (l, k), .b (l.all (prStrip k))) :=
  (show famStrip Γ 79 _ = r79 (eLStrip (l, k)) from rfl).trans (fnG_at (l, k) (dLStrip_e _))

/-! ### all[Bolt] -/
def cvBolt (k : Unit) : V := .fn 64 []
def dkBolt : V → Unit := fun _ => ()
theorem dkBolt_e (k : Unit) : dkBolt (cvBolt k) = k := rfl
def capBolt (k : Unit) : List V := []
theorem capBolt_v (k : Unit) (n : Nat) : (capBolt k).map (vw [] (n + 1)) = capBolt k := rfl
theorem capBolt_r (k : Unit) : hasRefL (capBolt k) = false := rfl
def eCBolt (a : Bolt × Unit) : List V := [.ag (eBolt a.1), .pa [cvBolt a.2]]
def dCBolt : List V → Bolt × Unit | [v, .pa [c]] => (dBolt (aC v), dkBolt c) | _ => (⟨⟨0, 0⟩, [], 0⟩, ())
theorem dCBolt_e (a : Bolt × Unit) : dCBolt (eCBolt a) = a := by obtain ⟨x, k⟩ := a; simp only [eCBolt, dCBolt, dkBolt_e]; simp [aC, dBolt_e]
def eXBolt (a : List Bolt × Unit) : List V := [.sl 4 (a.1.map eBolt), .fn 78 [.pa [cvBolt a.2]]]
def dXBolt : List V → List Bolt × Unit | [.sl _ rows, .fn _ [.pa [c]]] => (rows.map dBolt, dkBolt c) | _ => ([], ())
theorem dXBolt_e (a : List Bolt × Unit) : dXBolt (eXBolt a) = a := by obtain ⟨x, k⟩ := a; simp only [eXBolt, dXBolt, dkBolt_e, map_de dBolt_e]
def eLBolt (a : List Bolt × Unit) : List V := [.sl 4 (a.1.map eBolt), cvBolt a.2]
def dLBolt : List V → List Bolt × Unit | [.sl _ rows, c] => (rows.map dBolt, dkBolt c) | _ => ([], ())
theorem dLBolt_e (a : List Bolt × Unit) : dLBolt (eLBolt a) = a := by obtain ⟨x, k⟩ := a; simp only [eLBolt, dLBolt, dkBolt_e, map_de dBolt_e]
def okLBolt (a : List Bolt × Unit) : Prop := a.1.length < 10000000 ∧ okBolt a.2
def r78 : List V → Prop × V := fnG eCBolt dCBolt (fun a => okBolt a.2) (fun a => !prBolt a.2 a.1) .b
def r85 : List V → Prop × V := fnG eXBolt dXBolt okLBolt (fun a => idxOf (fun x => !prBolt a.2 x) a.1) .i
def r77 : List V → Prop × V := fnG eXBolt dXBolt okLBolt (fun a => a.1.any fun x => !prBolt a.2 x) .b
def r63 : List V → Prop × V := fnG eLBolt dLBolt okLBolt (fun a => a.1.all (prBolt a.2)) .b
def famBolt (Γ : Gam) : Gam := (((Γ.ext 78 r78).ext 85 r85).ext 77 r77).ext 63 r63
theorem famBolt_ok (hG : GOk Try.prog Γ) (hb : ∀ (k : Unit) (x : Bolt), okBolt k → Γ 64 (V.ag (eBolt x) :: capBolt k) = (True, .b (prBolt k x))) : GOk Try.prog (famBolt Γ) := by
  have g1 : GOk Try.prog (Γ.ext 78 r78) := hG.ext (fun a w => Try.call78 a w) (fnG_ok fun a h => P78 hG a.1 _ (by decide) _ _ (capBolt_v a.2 7) (capBolt_r a.2) (hb a.2 a.1 h))
  have g2 : GOk Try.prog ((Γ.ext 78 r78).ext 85 r85) := g1.ext (fun a w => Try.call85 a w) (fnG_ok fun a h => P85 g1 a.1 _ (by decide) _ _ rfl rfl h.1 fun x hx =>
    (show (Γ.ext 78 r78) 78 _ = r78 (eCBolt (x, a.2)) from rfl).trans ((fnG_at (x, a.2) (dCBolt_e _)).trans (by rw [eq_true h.2])))
  have g3 : GOk Try.prog (((Γ.ext 78 r78).ext 85 r85).ext 77 r77) := g2.ext (fun a w => Try.call77 a w) (fnG_ok fun a h => P77 g2 a.1 _ _ _ rfl rfl
    ((show ((Γ.ext 78 r78).ext 85 r85) 85 _ = r85 (eXBolt a) from rfl).trans ((fnG_at a (dXBolt_e _)).trans (by rw [eq_true h]))))
  exact g3.ext (fun a w => Try.call63 a w) (fnG_ok fun a h => P63 g3 a.1 _ _ _ (capBolt_v a.2 6) (capBolt_r a.2)
    ((show (((Γ.ext 78 r78).ext 85 r85).ext 77 r77) 77 _ = r77 (eXBolt a) from rfl).trans ((fnG_at a (dXBolt_e _)).trans (by rw [eq_true h]))))
theorem famBolt_all (Γ : Gam) (l : List Bolt) (k : Unit) : famBolt Γ 63 [.sl 4 (l.map eBolt), cvBolt k] = (okLBolt (l, k), .b (l.all (prBolt k))) :=
  (show famBolt Γ 63 _ = r63 (eLBolt (l, k)) from rfl).trans (fnG_at (l, k) (dLBolt_e _))

/-! ### all[Span] -/
def cvSpan (k : Unit) : V := .fn 72 []
def dkSpan : V → Unit := fun _ => ()
theorem dkSpan_e (k : Unit) : dkSpan (cvSpan k) = k := rfl
def capSpan (k : Unit) : List V := []
theorem capSpan_v (k : Unit) (n : Nat) : (capSpan k).map (vw [] (n + 1)) = capSpan k := rfl
theorem capSpan_r (k : Unit) : hasRefL (capSpan k) = false := rfl
def eCSpan (a : Span × Unit) : List V := [.ag (eSpan a.1), .pa [cvSpan a.2]]
def dCSpan : List V → Span × Unit | [v, .pa [c]] => (dSpan (aC v), dkSpan c) | _ => (⟨0, 0⟩, ())
theorem dCSpan_e (a : Span × Unit) : dCSpan (eCSpan a) = a := by obtain ⟨x, k⟩ := a; simp only [eCSpan, dCSpan, dkSpan_e]; simp [aC, dSpan_e]
def eXSpan (a : List Span × Unit) : List V := [.sl 2 (a.1.map eSpan), .fn 84 [.pa [cvSpan a.2]]]
def dXSpan : List V → List Span × Unit | [.sl _ rows, .fn _ [.pa [c]]] => (rows.map dSpan, dkSpan c) | _ => ([], ())
theorem dXSpan_e (a : List Span × Unit) : dXSpan (eXSpan a) = a := by obtain ⟨x, k⟩ := a; simp only [eXSpan, dXSpan, dkSpan_e, map_de dSpan_e]
def eLSpan (a : List Span × Unit) : List V := [.sl 2 (a.1.map eSpan), cvSpan a.2]
def dLSpan : List V → List Span × Unit | [.sl _ rows, c] => (rows.map dSpan, dkSpan c) | _ => ([], ())
theorem dLSpan_e (a : List Span × Unit) : dLSpan (eLSpan a) = a := by obtain ⟨x, k⟩ := a; simp only [eLSpan, dLSpan, dkSpan_e, map_de dSpan_e]
def okLSpan (a : List Span × Unit) : Prop := a.1.length < 10000000 ∧ okSpan a.2
def r84 : List V → Prop × V := fnG eCSpan dCSpan (fun a => okSpan a.2) (fun a => !prSpan a.2 a.1) .b
def r89 : List V → Prop × V := fnG eXSpan dXSpan okLSpan (fun a => idxOf (fun x => !prSpan a.2 x) a.1) .i
def r83 : List V → Prop × V := fnG eXSpan dXSpan okLSpan (fun a => a.1.any fun x => !prSpan a.2 x) .b
def r76 : List V → Prop × V := fnG eLSpan dLSpan okLSpan (fun a => a.1.all (prSpan a.2)) .b
def famSpan (Γ : Gam) : Gam := (((Γ.ext 84 r84).ext 89 r89).ext 83 r83).ext 76 r76
theorem famSpan_ok (hG : GOk Try.prog Γ) (hb : ∀ (k : Unit) (x : Span), okSpan k → Γ 72 (V.ag (eSpan x) :: capSpan k) = (True, .b (prSpan k x))) : GOk Try.prog (famSpan Γ) := by
  have g1 : GOk Try.prog (Γ.ext 84 r84) := hG.ext (fun a w => Try.call84 a w) (fnG_ok fun a h => P84 hG a.1 _ (by decide) _ _ (capSpan_v a.2 7) (capSpan_r a.2) (hb a.2 a.1 h))
  have g2 : GOk Try.prog ((Γ.ext 84 r84).ext 89 r89) := g1.ext (fun a w => Try.call89 a w) (fnG_ok fun a h => P89 g1 a.1 _ (by decide) _ _ rfl rfl h.1 fun x hx =>
    (show (Γ.ext 84 r84) 84 _ = r84 (eCSpan (x, a.2)) from rfl).trans ((fnG_at (x, a.2) (dCSpan_e _)).trans (by rw [eq_true h.2])))
  have g3 : GOk Try.prog (((Γ.ext 84 r84).ext 89 r89).ext 83 r83) := g2.ext (fun a w => Try.call83 a w) (fnG_ok fun a h => P83 g2 a.1 _ _ _ rfl rfl
    ((show ((Γ.ext 84 r84).ext 89 r89) 89 _ = r89 (eXSpan a) from rfl).trans ((fnG_at a (dXSpan_e _)).trans (by rw [eq_true h]))))
  exact g3.ext (fun a w => Try.call76 a w) (fnG_ok fun a h => P76 g3 a.1 _ _ _ (capSpan_v a.2 6) (capSpan_r a.2)
    ((show (((Γ.ext 84 r84).ext 89 r89).ext 83 r83) 83 _ = r83 (eXSpan a) from rfl).trans ((fnG_at a (dXSpan_e _)).trans (by rw [eq_true h]))))
theorem famSpan_all (Γ : Gam) (l : List Span) (k : Unit) : famSpan Γ 76 [.sl 2 (l.map eSpan), cvSpan k] = (okLSpan (l, k), .b (l.all (prSpan k))) :=
  (show famSpan Γ 76 _ = r76 (eLSpan (l, k)) from rfl).trans (fnG_at (l, k) (dLSpan_e _))

/-! ### all[Int] -/
def cvInt (k : (Dome × Bool)) : V := .fn (if k.2 then 71 else 74) [.pa (eDome k.1)]
def dkInt : V → (Dome × Bool) | .fn f caps => (dDome (pC (caps.headD .u)), f == 71) | _ => (D0, false)
theorem dkInt_e (k : (Dome × Bool)) : dkInt (cvInt k) = k := by obtain ⟨d, b⟩ := k; cases b <;> simp [dkInt, cvInt, pC, dDome_e]
def capInt (k : (Dome × Bool)) : List V := [.pa (eDome k.1)]
theorem capInt_v (k : (Dome × Bool)) (n : Nat) : (capInt k).map (vw [] (n + 1)) = capInt k := rfl
theorem capInt_r (k : (Dome × Bool)) : hasRefL (capInt k) = false := rfl
def eCInt (a : Int × (Dome × Bool)) : List V := [.i a.1, .pa [cvInt a.2]]
def dCInt : List V → Int × (Dome × Bool) | [v, .pa [c]] => (gI v, dkInt c) | _ => (0, (D0, false))
theorem dCInt_e (a : Int × (Dome × Bool)) : dCInt (eCInt a) = a := by obtain ⟨x, k⟩ := a; simp only [eCInt, dCInt, dkInt_e]; simp [gI]
def eXInt (a : List Int × (Dome × Bool)) : List V := [.sl 1 (a.1.map eI), .fn 82 [.pa [cvInt a.2]]]
def dXInt : List V → List Int × (Dome × Bool) | [.sl _ rows, .fn _ [.pa [c]]] => (rows.map dI, dkInt c) | _ => ([], (D0, false))
theorem dXInt_e (a : List Int × (Dome × Bool)) : dXInt (eXInt a) = a := by obtain ⟨x, k⟩ := a; simp only [eXInt, dXInt, dkInt_e, map_de dI_eI]
def eLInt (a : List Int × (Dome × Bool)) : List V := [.sl 1 (a.1.map eI), cvInt a.2]
def dLInt : List V → List Int × (Dome × Bool) | [.sl _ rows, c] => (rows.map dI, dkInt c) | _ => ([], (D0, false))
theorem dLInt_e (a : List Int × (Dome × Bool)) : dLInt (eLInt a) = a := by obtain ⟨x, k⟩ := a; simp only [eLInt, dLInt, dkInt_e, map_de dI_eI]
def okLInt (a : List Int × (Dome × Bool)) : Prop := a.1.length < 10000000 ∧ okInt a.2
def r82 : List V → Prop × V := fnG eCInt dCInt (fun a => okInt a.2) (fun a => !prInt a.2 a.1) .b
def r88 : List V → Prop × V := fnG eXInt dXInt okLInt (fun a => idxOf (fun x => !prInt a.2 x) a.1) .i
def r81 : List V → Prop × V := fnG eXInt dXInt okLInt (fun a => a.1.any fun x => !prInt a.2 x) .b
def r75 : List V → Prop × V := fnG eLInt dLInt okLInt (fun a => a.1.all (prInt a.2)) .b
def famInt (Γ : Gam) : Gam := (((Γ.ext 82 r82).ext 88 r88).ext 81 r81).ext 75 r75
theorem famInt_ok (hG : GOk Try.prog Γ) (hb : ∀ (k : (Dome × Bool)) (x : Int), okInt k → Γ (if k.2 then 71 else 74) (V.i x :: capInt k) = (True, .b (prInt k x))) : GOk Try.prog (famInt Γ) := by
  have g1 : GOk Try.prog (Γ.ext 82 r82) := hG.ext (fun a w => Try.call82 a w) (fnG_ok fun a h => P82 hG a.1 _ (by split <;> decide) _ _ (capInt_v a.2 7) (capInt_r a.2) (hb a.2 a.1 h))
  have g2 : GOk Try.prog ((Γ.ext 82 r82).ext 88 r88) := g1.ext (fun a w => Try.call88 a w) (fnG_ok fun a h => P88 g1 a.1 _ (by decide) _ _ rfl rfl h.1 fun x hx =>
    (show (Γ.ext 82 r82) 82 _ = r82 (eCInt (x, a.2)) from rfl).trans ((fnG_at (x, a.2) (dCInt_e _)).trans (by rw [eq_true h.2])))
  have g3 : GOk Try.prog (((Γ.ext 82 r82).ext 88 r88).ext 81 r81) := g2.ext (fun a w => Try.call81 a w) (fnG_ok fun a h => P81 g2 a.1 _ _ _ rfl rfl
    ((show ((Γ.ext 82 r82).ext 88 r88) 88 _ = r88 (eXInt a) from rfl).trans ((fnG_at a (dXInt_e _)).trans (by rw [eq_true h]))))
  exact g3.ext (fun a w => Try.call75 a w) (fnG_ok fun a h => P75 g3 a.1 _ _ _ (capInt_v a.2 6) (capInt_r a.2)
    ((show (((Γ.ext 82 r82).ext 88 r88).ext 81 r81) 81 _ = r81 (eXInt a) from rfl).trans ((fnG_at a (dXInt_e _)).trans (by rw [eq_true h]))))
theorem famInt_all (Γ : Gam) (l : List Int) (k : (Dome × Bool)) : famInt Γ 75 [.sl 1 (l.map eI), cvInt k] = (okLInt (l, k), .b (l.all (prInt k))) :=
  (show famInt Γ 75 _ = r75 (eLInt (l, k)) from rfl).trans (fnG_at (l, k) (dLInt_e _))
end Go.C02
