/- Awake, by the kernel. -/
import Derived.Test.YtjhofnkoicdpnaaTab
set_option linter.all false
namespace Go.Proofs.Ytjhofnkoicdpnaa.Law
open Go Go.Ev Go.Ev.Sx Go.Proofs
set_option maxRecDepth 100000 in
theorem awake : awakeB tabT 60 38 = true := by decide +kernel
end Go.Proofs.Ytjhofnkoicdpnaa.Law
