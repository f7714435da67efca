/- Scales in part, run on names by the kernel. -/
import Derived.Test.YtijiddndddjleaaRunScalesk1
noncomputable section
set_option linter.all false
namespace Go.Proofs.Ytijiddndddjleaa.Law
open Go Go.Ev Go.Ev.Sx Go.Proofs
set_option maxHeartbeats 0 in
theorem runScales_k3 : asks (tabF tabT) ct 80 cScales.pg (cScales.pargs.map (argS st.1)) (cutS st.2 0 3 9223372036854775807) hScales_k1 (resOK cScales.rs cScales.ks) = true := by decide +kernel
end Go.Proofs.Ytijiddndddjleaa.Law
end
