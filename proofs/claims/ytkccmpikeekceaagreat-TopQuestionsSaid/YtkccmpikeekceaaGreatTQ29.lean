/- ev: entries tB2, run. -/
import Derived.Test.YtkccmpikeekceaaGreatTQ22
import Derived.Test.YtkccmpikeekceaaGreatProg
/- ev: entries tB2, run. -/
section
namespace Go.Ev.Tb
theorem tB2_ok : tB2.all (chkE Go.Proofs.Tryz.prog (K1 Go.Proofs.Tryz.prog) 100000) = true := by decide +kernel
end Go.Ev.Tb
end
