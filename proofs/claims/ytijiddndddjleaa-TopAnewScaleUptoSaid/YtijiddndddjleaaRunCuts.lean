/- Cuts, run on names by the kernel. -/
import Derived.Test.YtijiddndddjleaaRun
noncomputable section
set_option linter.all false
namespace Go.Proofs.Ytijiddndddjleaa.Law
open Go Go.Ev Go.Ev.Sx Go.Proofs
def hCuts : List Hint := [ .inv ⟨[1, 9, 10], [(11, .w false [vI 12])], [13, 12, 11, 10, 9, 8, 7, 6, 5, 4], [], [(0, ⟨3, 1, (.cons ii .nil), nL 3, some (nL 12, (.cons (.int .i64 zL ⟨9000, []⟩) .nil)), [], false⟩)], [(12, 0, 8)], [dL 3 12], 13, 14, 10, dL 3 12⟩, .inv ⟨[1, 9, 10], [(11, .w false [vI 13])], [13, 12, 11, 10, 9, 8, 7, 6, 5, 4], [], [(1, ⟨71, 2, (.cons ii (.cons ii .nil)), nL 4, some (nL 13, (.cons (.int .i64 zL ⟨(-1), [(3, 1)]⟩) (.cons (.int .i64 zL ⟨(-1), [(3, 1)]⟩) .nil))), [], false⟩)], [(13, 0, 8)], [dL 4 13], 14, 14, 11, dL 4 13⟩, .unroll 14, .inv ⟨[1, 0, 7], [(8, .w false [vI 14])], [16, 15, 14, 13, 12, 11, 10, 9, 8, 7, 6, 5, 4], [], [], [(14, 0, 29)], [dL 5 14, ⟨(-1), [(5, 1), (14, (-1))]⟩], 15, 17, 12, dL 5 14⟩, .inv ⟨[2, 4, 3, 10, 11], [(12, .w false [vI 17]), (5, .w false [.bool (.k 12 false)])], [20, 19, 18, 8, 17, 16, 15, 14, 13, 12, 11, 10, 9, 7, 6, 5, 4], [(21, .cells 81 [.ty ii, .ty ii, .ty ii, .ty ii, .ty ii, .ty ii, .ty ii, .ty ii])], [], [(17, 0, 8)], [dL 3 17], 18, 22, 13, dL 3 17⟩, .inv ⟨[2, 4, 3, 10, 11], [(12, .w false [vI 17]), (5, .w false [.bool (.k 12 false)])], [20, 19, 18, 8, 17, 16, 15, 14, 13, 12, 11, 10, 9, 7, 6, 5, 4], [(21, .cells 81 [.ty ii, .ty ii, .ty ii, .ty ii, .ty ii, .ty ii, .ty ii, .ty ii])], [], [(17, 0, 8)], [dL 3 17], 18, 22, 13, dL 3 17⟩, .inv ⟨[2, 4, 3, 10, 11], [(12, .w false [vI 17]), (5, .w false [.bool (.k 12 false)])], [20, 19, 18, 8, 17, 16, 15, 14, 13, 12, 11, 10, 9, 7, 6, 5, 4], [(21, .cells 81 [.ty ii, .ty ii, .ty ii, .ty ii, .ty ii, .ty ii, .ty ii, .ty ii])], [], [(17, 0, 8)], [dL 3 17], 18, 22, 13, dL 3 17⟩]
theorem runCuts : asks (tabF tabT) ct 80 cCuts.pg (cCuts.pargs.map (argS st.1)) st.2 hCuts (resOK cCuts.rs cCuts.ks) = true := by decide +kernel
end Go.Proofs.Ytijiddndddjleaa.Law
end
