/- ev: entries tA4, run. -/
import Derived.Test.YtkccmpikeekceaaGreatTQ22
import Derived.Test.YtkccmpikeekceaaGreatProg
/- ev: entries tA4, run. -/
section
namespace Go.Ev.Tb
theorem tA4_ok : tA4.all (chkE Go.Proofs.Tryz.prog (KB Go.Proofs.Tryz.prog) 100000) = true := by decide +kernel
end Go.Ev.Tb
end
