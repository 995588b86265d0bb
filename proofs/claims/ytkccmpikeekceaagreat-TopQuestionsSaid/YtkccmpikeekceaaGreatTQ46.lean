/- ev: alive, run. -/
import Derived.Test.YtkccmpikeekceaaGreatTQ45
/- ev: alive, run. -/
section
namespace Go.Ev.Tb
def isT (r : Rs) : Bool := match r with | some (.v (.c (.b true)), _) => true | _ => false
theorem alive_ok : isT (evCall (K5 Go.Proofs.Tryz.prog) (evC Go.Proofs.Tryz.prog (K5 Go.Proofs.Tryz.prog) 100000) 6 [] { H := .e, nx := 0, lg := [] }) = true := by decide +kernel
end Go.Ev.Tb
end
