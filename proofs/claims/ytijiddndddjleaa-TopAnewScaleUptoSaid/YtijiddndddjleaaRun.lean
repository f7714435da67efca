/- The package's functions, run on names by the kernel. -/
import Derived.Test.YtijiddndddjleaaTab
noncomputable section
set_option linter.all false
namespace Go.Proofs.Ytijiddndddjleaa.Law
open Go Go.Ev Go.Ev.Sx Go.Proofs
def ct : Ct := fun g a S => bif Nat.beq g 42 then some (outCt a S) else none
theorem ctOK : CtOK (tabF tabT) (fun _ _ _ => none) ct := ct_one (outP_of (o1 := 75) (cf := 74) (ix := 90) (ti := 3) rfl rfl rfl rfl fun _ _ _ => rfl)
abbrev ii : Ty := .int .i64 ⟨(-9223372036854775808), []⟩ ⟨9223372036854775807, []⟩
def st : List C × SS := (Ev.Sx.start kt).getD ([], SS.zero)
theorem stOK : Ev.Sx.start kt = some (st.1, st.2) := by rfl
abbrev vI (n : Nat) : C := .int .i64 ⟨0, [(n, 1)]⟩
abbrev uI (n : Nat) : Nat × Int × Int := (n, (-9223372036854775808), 9223372036854775807)
abbrev pI (n : Nat) : Nat × Int × Int := (n, 0, 2147483647)
abbrev nL (n : Nat) : L := ⟨0, [(n, 1)]⟩
abbrev dL (a b : Nat) : L := ⟨0, [(a, 1), (b, (-1))]⟩
abbrev eL (a b : Nat) : L := ⟨0, [(a, (-1)), (b, 1)]⟩
abbrev zL : L := ⟨0, []⟩
def hCheck : List Hint := [ .inv ⟨[1, 9, 10], [(11, .w false [vI 12])], [8, 7, 6, 5, 4], [], [(0, ⟨3, 1, (.cons ii .nil), nL 3, some (nL 12, (.cons (.int .i64 zL ⟨9000, []⟩) .nil)), [], false⟩)], [(12, 0, 8)], [dL 3 12], 13, 9, 9, dL 3 12⟩, .inv ⟨[1, 9, 10], [(11, .w false [vI 13])], [8, 7, 6, 5, 4], [], [(1, ⟨71, 2, (.cons ii (.cons ii .nil)), nL 4, some (nL 13, (.cons (.int .i64 zL ⟨(-1), [(3, 1)]⟩) (.cons (.int .i64 zL ⟨(-1), [(3, 1)]⟩) .nil))), [], false⟩)], [(13, 0, 8)], [dL 4 13], 14, 9, 10, dL 4 13⟩]
theorem runCheck : asks (tabF tabT) ct 80 cCheck.pg (cCheck.pargs.map (argS st.1)) st.2 hCheck (resOK cCheck.rs cCheck.ks) = true := by decide +kernel
end Go.Proofs.Ytijiddndddjleaa.Law
end
