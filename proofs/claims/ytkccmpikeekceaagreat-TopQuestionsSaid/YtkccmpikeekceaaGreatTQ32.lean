/- ev: entries tC1, run. -/
import Derived.Test.YtkccmpikeekceaaGreatTQ22
import Derived.Test.YtkccmpikeekceaaGreatProg
/- ev: entries tC1, run. -/
section
namespace Go.Ev.Tb
theorem tC1_ok : tC1.all (chkE Go.Proofs.Tryz.prog (K2 Go.Proofs.Tryz.prog) 100000) = true := by decide +kernel
end Go.Ev.Tb
end
