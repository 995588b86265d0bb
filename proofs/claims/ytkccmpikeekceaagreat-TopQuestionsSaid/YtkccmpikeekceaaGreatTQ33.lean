/- ev: entries tC2, run. -/
import Derived.Test.YtkccmpikeekceaaGreatTQ22
import Derived.Test.YtkccmpikeekceaaGreatProg
/- ev: entries tC2, run. -/
section
namespace Go.Ev.Tb
theorem tC2_ok : tC2.all (chkE Go.Proofs.Tryz.prog (K2 Go.Proofs.Tryz.prog) 100000) = true := by decide +kernel
end Go.Ev.Tb
end
