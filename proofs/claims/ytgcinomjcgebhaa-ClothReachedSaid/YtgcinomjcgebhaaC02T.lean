import Derived.Test.YtgcinomjcgebhaaFam15
set_option linter.all false
/- Chapter 02: the data, and how it lies in cells. -/
namespace Go.C02
open Go.Fam
structure Span where
  low : Int
  high : Int
  deriving DecidableEq
structure Strip where
  long : Int
  pulled : Span
  deriving DecidableEq
structure Bolt where
  stretch : Span
  strips : List Strip
  wrong : Int
  deriving DecidableEq
structure Dome where
  bolts : List Bolt
  gores : List Int
  loss : Int
  rounds : List Span
  widths : List Int
  slope : Int
  deriving DecidableEq
structure Tent where
  dome : Dome
  can : List (List Int)

def eI (n : Int) : List V := [.i n]
def eIs (l : List Int) : V := .sl 1 (l.map eI)
def eSpan (s : Span) : List V := [.i s.low, .i s.high]
def eStrip (s : Strip) : List V := [.i s.long, .i s.pulled.low, .i s.pulled.high]
def eBolt (b : Bolt) : List V := [.i b.stretch.low, .i b.stretch.high, .sl 3 (b.strips.map eStrip), .i b.wrong]
def eDome (d : Dome) : List V := [.sl 4 (d.bolts.map eBolt), .sl 1 (d.gores.map eI), .i d.loss, .sl 2 (d.rounds.map eSpan), .sl 1 (d.widths.map eI), .i d.slope]
def eCan (l : List Int) : List V := [.sl 1 (l.map eI)]
def eTent (t : Tent) : List V := eDome t.dome ++ [.sl 1 (t.can.map eCan)]

def gI : V → Int | .i n => n | _ => 0
def gR : V → List (List V) | .sl _ r => r | _ => []
def dI (r : List V) : Int := gI (r.headD .u)
def dSpan : List V → Span | [a, b] => ⟨gI a, gI b⟩ | _ => ⟨0, 0⟩
def dStrip : List V → Strip | [a, b, c] => ⟨gI a, ⟨gI b, gI c⟩⟩ | _ => ⟨0, ⟨0, 0⟩⟩
def dBolt : List V → Bolt | [a, b, c, d] => ⟨⟨gI a, gI b⟩, (gR c).map dStrip, gI d⟩ | _ => ⟨⟨0, 0⟩, [], 0⟩
def dDome : List V → Dome | [a, b, c, d, e, f] => ⟨(gR a).map dBolt, (gR b).map dI, gI c, (gR d).map dSpan, (gR e).map dI, gI f⟩ | _ => ⟨[], [], 0, [], [], 0⟩
def dCan (r : List V) : List Int := (gR (r.headD .u)).map dI
def dTent : List V → Tent | [a, b, c, d, e, f, g] => ⟨dDome [a, b, c, d, e, f], (gR g).map dCan⟩ | _ => ⟨dDome [], []⟩

theorem map_de {α : Type} {e : α → List V} {d : List V → α} (h : ∀ x, d (e x) = x) (l : List α) : (l.map e).map d = l := by
  rw [List.map_map]; conv => rhs; rw [← List.map_id l]
  exact List.map_congr_left fun x _ => h x
theorem dI_eI (n : Int) : dI (eI n) = n := rfl
theorem dSpan_e (s : Span) : dSpan (eSpan s) = s := rfl
theorem dStrip_e (s : Strip) : dStrip (eStrip s) = s := rfl
theorem dBolt_e (b : Bolt) : dBolt (eBolt b) = b := by simp [dBolt, eBolt, gI, gR, Function.comp_def, dStrip_e]
theorem dDome_e (d : Dome) : dDome (eDome d) = d := by simp [dDome, eDome, gI, gR, Function.comp_def, dBolt_e, dI_eI, dSpan_e]
theorem dCan_e (l : List Int) : dCan (eCan l) = l := by simp [dCan, eCan, gR, Function.comp_def, dI_eI]
theorem dTent_e (t : Tent) : dTent (eTent t) = t := by
  have := dDome_e t.dome
  unfold eDome at this
  simp [dTent, eTent, eDome, this, gR, Function.comp_def, dCan_e]

theorem spanE (s : Span) : (⟨s.low, s.high⟩ : Span) = s := rfl
theorem stripE (s : Strip) : (⟨s.long, s.pulled⟩ : Strip) = s := rfl
theorem boltE (s : Bolt) : (⟨s.stretch, s.strips, s.wrong⟩ : Bolt) = s := rfl
theorem domeE (s : Dome) : (⟨s.bolts, s.gores, s.loss, s.rounds, s.widths, s.slope⟩ : Dome) = s := rfl

theorem tentE (s : Tent) : (⟨s.dome, s.can⟩ : Tent) = s := rfl

/-- a typed function -/
def fnG {A B : Type} (e : A → List V) (d : List V → A) (ok : A → Prop) (g : A → B) (eb : B → V) : List V → Prop × V := fun vs => (e (d vs) = vs ∧ ok (d vs), eb (g (d vs)))
theorem fnG_ok {P : Program} {A B : Type} {e : A → List V} {d : List V → A} {ok : A → Prop} {g : A → B} {eb : B → V} {f : Nat} (h : ∀ a, ok a → PureCall P f (e a) (eb (g a))) (vs : List V) (hv : (fnG e d ok g eb vs).1) :
    PureCall P f vs (fnG e d ok g eb vs).2 := by
  have := h (d vs) hv.2
  rw [hv.1] at this
  exact this
theorem fnG_at {A B : Type} {e : A → List V} {d : List V → A} {ok : A → Prop} {g : A → B} {eb : B → V} (a : A) (h : d (e a) = a) : fnG e d ok g eb (e a) = (ok a, eb (g a)) := by
  simp [fnG, h]
end Go.C02
