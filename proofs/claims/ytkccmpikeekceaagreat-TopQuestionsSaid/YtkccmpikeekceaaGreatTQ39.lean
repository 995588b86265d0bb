/- ev: entries m6, run. -/
import Derived.Test.YtkccmpikeekceaaGreatTQ22
import Derived.Test.YtkccmpikeekceaaGreatProg
/- ev: entries m6, run. -/
section
namespace Go.Ev.Tb
theorem m6_ok : m6.all (fun e => chkM Go.Proofs.Tryz.prog (K3 Go.Proofs.Tryz.prog) 100000 mem n0 e && okE n0 e) = true := by decide +kernel
end Go.Ev.Tb
end
