/- Awake, by the kernel. -/
import Derived.Test.YtijiddndddjleaaTab
noncomputable section
set_option linter.all false
namespace Go.Proofs.Ytijiddndddjleaa.Law
open Go Go.Ev Go.Ev.Sx Go.Proofs
set_option maxRecDepth 100000 in
theorem awake : awakeB tabT 60 39 = true := by decide +kernel
end Go.Proofs.Ytijiddndddjleaa.Law
end
