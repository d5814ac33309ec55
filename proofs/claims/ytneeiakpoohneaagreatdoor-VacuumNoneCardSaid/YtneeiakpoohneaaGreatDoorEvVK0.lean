/- The closed facts of a row, each under a name of its own, and how they join. -/
import Derived.Test.YtneeiakpoohneaaGreatDoorCards
import Derived.Test.YtneeiakpoohneaaGreatDoorTie
import Derived.JoinedOf
set_option linter.all false
namespace Go.Proofs.YtneeiakpoohneaaGreatDoor.vacuumNone
open Go
def fct0 (P : Program) (f : FuncId) (fn : Func) (s : ChangeSpec) (c : OpenClaim) : Bool := c.wf (OpenSpec.ofChange s)
def fct1 (P : Program) (f : FuncId) (fn : Func) (s : ChangeSpec) (c : OpenClaim) : Bool := laidOutB P
def fct2 (P : Program) (f : FuncId) (fn : Func) (s : ChangeSpec) (c : OpenClaim) : Bool := mapsRowed P
def fct3 (P : Program) (f : FuncId) (fn : Func) (s : ChangeSpec) (c : OpenClaim) : Bool := fn.params.all (P.readableRec ·)
def fct4 (P : Program) (f : FuncId) (fn : Func) (s : ChangeSpec) (c : OpenClaim) : Bool := namedTie P c.named s.vars
def fct5 (P : Program) (f : FuncId) (fn : Func) (s : ChangeSpec) (c : OpenClaim) : Bool := c.stops == []
def fct6 (P : Program) (f : FuncId) (fn : Func) (s : ChangeSpec) (c : OpenClaim) : Bool := P.stops == []
def fct7 (P : Program) (f : FuncId) (fn : Func) (s : ChangeSpec) (c : OpenClaim) : Bool := c.knobs == []
def fct8 (P : Program) (f : FuncId) (fn : Func) (s : ChangeSpec) (c : OpenClaim) : Bool := P.stopKnobs == []
def fct9 (P : Program) (f : FuncId) (fn : Func) (s : ChangeSpec) (c : OpenClaim) : Bool := c.inPlace == P.inPlace f
def fct10 (P : Program) (f : FuncId) (fn : Func) (s : ChangeSpec) (c : OpenClaim) : Bool := c.unfollowed == P.unfollowed f
def fct11 (P : Program) (f : FuncId) (fn : Func) (s : ChangeSpec) (c : OpenClaim) : Bool := c.recurses == P.recurses f
def fct12 (P : Program) (f : FuncId) (fn : Func) (s : ChangeSpec) (c : OpenClaim) : Bool := c.named == P.varsNamed f
def fct13 (P : Program) (f : FuncId) (fn : Func) (s : ChangeSpec) (c : OpenClaim) : Bool := c.maps == (fn.params.toList ++ s.plain.varTypes P).any (P.mapsRec ·)
def fct14 (P : Program) (f : FuncId) (fn : Func) (s : ChangeSpec) (c : OpenClaim) : Bool := c.ifaces == (fn.params.toList ++ s.plain.varTypes P).any (P.ifacesRec ·)
def fct15 (P : Program) (f : FuncId) (fn : Func) (s : ChangeSpec) (c : OpenClaim) : Bool := c.mapsOut == P.mapsAmong fn.resultTypes.toList
def fct16 (P : Program) (f : FuncId) (fn : Func) (s : ChangeSpec) (c : OpenClaim) : Bool := c.loops == (fn.params.toList ++ s.plain.varTypes P).any (P.loopsFrom ·)
def fct17 (P : Program) (f : FuncId) (fn : Func) (s : ChangeSpec) (c : OpenClaim) : Bool := c.wideKeys == (fn.params.toList ++ s.plain.varTypes P ++ fn.resultTypes.toList).any (P.wideKeysFrom ·)
def fct18 (P : Program) (f : FuncId) (fn : Func) (s : ChangeSpec) (c : OpenClaim) : Bool := s.vars.all (P.varReadable ·)
def fct19 (P : Program) (f : FuncId) (fn : Func) (s : ChangeSpec) (c : OpenClaim) : Bool := fn.resultTypes.all (fun t => P.readableRec t && decide (t < P.types.size))
def fct20 (P : Program) (f : FuncId) (fn : Func) (s : ChangeSpec) (c : OpenClaim) : Bool := c.ifacesOut == fn.resultTypes.toList.any (P.ifacesRec ·)
def fct21 (P : Program) (f : FuncId) (fn : Func) (s : ChangeSpec) (c : OpenClaim) : Bool := c.loopsOut == fn.resultTypes.toList.any (P.loopsFrom ·)
def fct22 (P : Program) (f : FuncId) (fn : Func) (s : ChangeSpec) (c : OpenClaim) : Bool := c.plainKeys == P.plainKeys
def fct23 (P : Program) (f : FuncId) (fn : Func) (s : ChangeSpec) (c : OpenClaim) : Bool := c.shortTexts.isNone
def fct24 (P : Program) (f : FuncId) (fn : Func) (s : ChangeSpec) (c : OpenClaim) : Bool := P.stopsHeard
def fct25 (P : Program) (f : FuncId) (fn : Func) (s : ChangeSpec) (c : OpenClaim) : Bool := P.mayEnter
def fct26 (P : Program) (f : FuncId) (fn : Func) (s : ChangeSpec) (c : OpenClaim) : Bool := c.lifted == P.liftsFinal
def fct27 (P : Program) (f : FuncId) (fn : Func) (s : ChangeSpec) (c : OpenClaim) : Bool := P.make == some c.make
def fct28 (P : Program) (f : FuncId) (fn : Func) (s : ChangeSpec) (c : OpenClaim) : Bool := c.kinds == (if c.domain.isEmpty then [] else fn.params.toList.map fun t => match P.underlying t with | some (.int k) => some k | _ => none)
def fct29 (P : Program) (f : FuncId) (fn : Func) (s : ChangeSpec) (c : OpenClaim) : Bool := c.pinned == c.pinnedBy
def fct30 (P : Program) (f : FuncId) (fn : Func) (s : ChangeSpec) (c : OpenClaim) : Bool := c.veiled == (fn.params.toList ++ s.plain.varTypes P ++ fn.resultTypes.toList).any (P.veiledRec ·)
def fct31 (P : Program) (f : FuncId) (fn : Func) (s : ChangeSpec) (c : OpenClaim) : Bool := c.veiledFits P fn.params.toList (fn.params.toList ++ s.plain.varTypes P ++ fn.resultTypes.toList)
theorem and_mk {a b : Bool} (ha : a = true) (hb : b = true) : (a && b) = true := by rw [ha, hb]; rfl
theorem joined (P : Program) (f : FuncId) (fn : Func) (s : ChangeSpec) (c : OpenClaim) (h0 : fct0 P f fn s c = true) (h1 : fct1 P f fn s c = true) (h2 : fct2 P f fn s c = true) (h3 : fct3 P f fn s c = true) (h4 : fct4 P f fn s c = true) (h5 : fct5 P f fn s c = true) (h6 : fct6 P f fn s c = true) (h7 : fct7 P f fn s c = true) (h8 : fct8 P f fn s c = true) (h9 : fct9 P f fn s c = true) (h10 : fct10 P f fn s c = true) (h11 : fct11 P f fn s c = true) (h12 : fct12 P f fn s c = true) (h13 : fct13 P f fn s c = true) (h14 : fct14 P f fn s c = true) (h15 : fct15 P f fn s c = true) (h16 : fct16 P f fn s c = true) (h17 : fct17 P f fn s c = true) (h18 : fct18 P f fn s c = true) (h19 : fct19 P f fn s c = true) (h20 : fct20 P f fn s c = true) (h21 : fct21 P f fn s c = true) (h22 : fct22 P f fn s c = true) (h23 : fct23 P f fn s c = true) (h24 : fct24 P f fn s c = true) (h25 : fct25 P f fn s c = true) (h26 : fct26 P f fn s c = true) (h27 : fct27 P f fn s c = true) (h28 : fct28 P f fn s c = true) (h29 : fct29 P f fn s c = true) (h30 : fct30 P f fn s c = true) (h31 : fct31 P f fn s c = true) : joinedFacts P f fn s c = true := by
  unfold joinedFacts
  exact and_mk (and_mk (and_mk (and_mk (and_mk (and_mk (and_mk (and_mk (and_mk (and_mk (and_mk (and_mk (and_mk (and_mk (and_mk (and_mk (and_mk (and_mk (and_mk (and_mk (and_mk (and_mk (and_mk (and_mk (and_mk (and_mk (and_mk (and_mk (and_mk (and_mk (and_mk h0 h1) h2) h3) h4) h5) h6) h7) h8) h9) h10) h11) h12) h13) h14) h15) h16) h17) h18) h19) h20) h21) h22) h23) h24) h25) h26) h27) h28) h29) h30) h31
end Go.Proofs.YtneeiakpoohneaaGreatDoor.vacuumNone
