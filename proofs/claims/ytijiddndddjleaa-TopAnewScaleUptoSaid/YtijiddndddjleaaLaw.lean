/- The law of scale: true, whatever comes in. -/
import Derived.Test.YtijiddndddjleaaPlain
import Derived.Test.YtijiddndddjleaaRunCuts
import Derived.Test.YtijiddndddjleaaRunFalse
import Derived.Test.YtijiddndddjleaaRunFlat
import Derived.Test.YtijiddndddjleaaRunGreatest
import Derived.Test.YtijiddndddjleaaRunLeast
import Derived.Test.YtijiddndddjleaaRunScalesk1
import Derived.Test.YtijiddndddjleaaRunScalesk2
import Derived.Test.YtijiddndddjleaaRunScalesk3
import Derived.Test.YtijiddndddjleaaRunApart
import Derived.Test.YtijiddndddjleaaRunTell
import Derived.Test.YtijiddndddjleaaAwake
import Derived.WalkKit
import Derived.ProofKit
import Derived.OpenShut
import Derived.JoinedCond
set_option linter.unusedVariables false
set_option linter.unusedSimpArgs false
noncomputable section
set_option linter.all false
namespace Go.Proofs.Ytijiddndddjleaa.Law
open Go Go.Ev Go.Ev.Sx Go.Proofs
open Go.ChangeShapes Go.WideShapes Go.ChangeAt Go.RowKit

section
variable {σ0 : Store} {vs : List Value} {M : Nat}

theorem shape1 (hro : RoAll σ0) (hlen : vs.length = kt.length) (hM : M ≤ 2 ^ 20) (hk : Ev.KR σ0 (KT.ofL kt) vs M) {c : Clo} (hc : c ∈ cl) {hs : List Hint} (hsum : sumW c.rs = c.ks.length)
    (h : asks (tabF tabT) ct 80 c.pg (c.pargs.map (argS st.1)) st.2 hs (resOK c.rs c.ks) = true) : ∃ r cells, Canon Try.prog σ0 c.pg (c.pargs.map (argV (cellAt vs))) r ∧ Shape σ0 c.rs c.ks r cells :=
  canon_shape fok mixed (fun _ _ e => e) ctOK stOK (by decide) hsum h hro (fun V => KR_PT hM hk) hlen fun p hp => by
    have := facts.pn c hc p hp
    rw [hlen]; exact this

theorem shape2 (hro : RoAll σ0) (hlen : vs.length = kt.length) (hM : M ≤ 2 ^ 20) (hk : Ev.KR σ0 (KT.ofL kt) vs M) {c : Clo} (hc : c ∈ cl) (hsum : sumW c.rs = c.ks.length) {x : Nat} {a b : Int} (hx : Go.Ev.Sx.look x st.2.iv = some (a, b)) {parts : List (Int × Int)} (hcov : ∀ m : Int, a ≤ m → m ≤ b → ∃ p ∈ parts, p.1 ≤ m ∧ m ≤ p.2)
    (h : ∀ p ∈ parts, ∃ hs, asks (tabF tabT) ct 80 c.pg (c.pargs.map (argS st.1)) (cutS st.2 x p.1 p.2) hs (resOK c.rs c.ks) = true) : ∃ r cells, Canon Try.prog σ0 c.pg (c.pargs.map (argV (cellAt vs))) r ∧ Shape σ0 c.rs c.ks r cells :=
  canon_cut fok mixed (fun _ _ e => e) ctOK stOK (by decide) hsum hx hcov h hro (fun V => KR_PT hM hk) hlen fun p hp => by
    have := facts.pn c hc p hp
    rw [hlen]; exact this

theorem shapes (hro : RoAll σ0) (hlow : ∀ v ∈ vs, Low σ0.size v ∧ okSh v = true) (hlen : vs.length = kt.length) (hM : M ≤ 2 ^ 20) (hk : Ev.KR σ0 (KT.ofL kt) vs M) :
    ∀ c ∈ cl, ∃ r cells, Canon Try.prog σ0 c.pg (c.pargs.map (argV (cellAt vs))) r ∧ Shape σ0 c.rs c.ks r cells := by
  intro c hc
  have hc' := hc
  simp only [cl, List.mem_cons, List.not_mem_nil, or_false] at hc
  rcases hc with rfl | rfl | rfl | rfl | rfl | rfl | rfl | rfl | rfl
  · exact shape1 hro hlen hM hk hc' rfl runCheck
  · exact shape1 hro hlen hM hk hc' rfl runCuts
  · exact shape1 hro hlen hM hk hc' rfl runFalse
  · exact shape1 hro hlen hM hk hc' rfl runFlat
  · exact shape1 hro hlen hM hk hc' rfl runGreatest
  · exact shape1 hro hlen hM hk hc' rfl runLeast
  · refine shape2 hro hlen hM hk hc' rfl (x := 0) (a := (-9223372036854775808)) (b := 9223372036854775807) rfl (parts := [((-9223372036854775808), 1), (2, 2), (3, 9223372036854775807)]) (fun m h1 h2 => if q0 : m ≤ 1 then ⟨((-9223372036854775808), 1), by simp, by omega, q0⟩ else if q1 : m ≤ 2 then ⟨(2, 2), by simp, by omega, q1⟩ else ⟨(3, 9223372036854775807), by simp, by omega, h2⟩) ?_
    intro p hp
    simp only [List.mem_cons, List.not_mem_nil, or_false] at hp
    rcases hp with rfl | rfl | rfl
    · exact ⟨_, runScales_k1⟩
    · exact ⟨_, runScales_k2⟩
    · exact ⟨_, runScales_k3⟩
  · exact shape1 hro hlen hM hk hc' rfl runApart
  · exact shape1 hro hlen hM hk hc' rfl runTell

theorem law (hro : RoAll σ0) (hlow : ∀ v ∈ vs, Low σ0.size v ∧ okSh v = true) (hlen : vs.length = kt.length) (hM : M ≤ 2 ^ 20) (hk : Ev.KR σ0 (KT.ofL kt) vs M) :
    WC FT (theHook Try.prog σ0 vs cl 39) (.func 3) [.agg vs.toArray] (fun v σ' => v = .bool true) σ0 := by
  have h := allOK
  cases ho : hxAll (hxF cCheck) 30 4 with
  | none => rw [ho] at h; cases h
  | some out =>
    rw [ho] at h
    exact law_true facts hro hlow hlen hM hk (ag := 5) (sm := 38) (al := 4) rfl topOK agOK smOK (by decide) (by decide) (by decide) ho h (shapes hro hlow hlen hM hk) (awake_canon fok mixed awake σ0)
end

theorem bulk (H : Type) : Bulk (H := H) Rows.uptoBulk Rows.uptoBulkAll where
  lit := fun l => by cases l <;> simp [Rows.uptoBulk]
  nil := by simp [Rows.uptoBulk]
  slice := fun es sp => by simp [Rows.uptoBulk]
  agg := fun ps => by simp [Rows.uptoBulk]
  nil0 := by simp [Rows.uptoBulkAll]
  cons := fun d r => by simp [Rows.uptoBulkAll]
theorem bulk1 (H : Type) : ∀ d : DataW H, 1 ≤ Rows.uptoBulk d := fun d => by
  cases d with
  | lit l => exact (bulk H).lit l
  | _ => simp [Rows.uptoBulk]

theorem own : ownKnob Try.prog.godebug = none := by kernel_rfl
theorem hkt : kts false Try.prog 40 31 = some kt := by kernel_rfl
theorem ser : Try.prog.readableRec 31 = true := by kernel_rfl
theorem laid : laidOutB Try.prog = true := by kernel_rfl
theorem many : 31 < Try.prog.types.size := of_decide_eq_true (by kernel_rfl)
theorem nft : (3 : FuncId) ≠ 39 ∧ ∀ c ∈ cl, (3 : FuncId) ≠ c.pg := by decide

theorem res3 : Try.f3.resultTypes = #[4] := by kernel_rfl
theorem sv : Rows.topAnewScaleSpec.vars = [] := rfl
theorem sf (H : Type) (d : DataW H) : Rows.topAnewScaleSpec.fn H [d] = { results := [.lit (.bool true)], args := [d] } := rfl
set_option maxRecDepth 100000 in
theorem contract (H : Type) (enc : TypeId × Value → H) (W : World) (base : Nat) (args : Array Value) (ds gs : List (DataW H)) (before : List MemPlace)
    (hval : ∀ (j : Nat) t v, Try.f3.params[j]? = some t → args[j]? = some v → Value.okWide Try.prog W .any base t v)
    (hW : DataW.Whole enc Try.prog Try.f3.params.toList Rows.topAnewScaleSpec.vars false W args.toList ds gs before) (hk : Rows.uptoSmall H (ds ++ gs) = true) :
    Calls Try.prog 3 args W fun e W' => ∃ v, e = .returned v ∧ Rows.topAnewScaleSpec.post enc Try.prog Try.f3 false true false false W args v W' := by
  have hb : Rows.uptoBulkAll (ds ++ gs) ≤ 2 ^ 20 := of_decide_eq_true hk
  have L := @law_contract Try.prog laid mixed FT fok ht cl 39 3 nft kt 31 4 40 hkt _ Try.underlying31 Try.underlying4 ser many Try.f3 Try.params3 res3 (fun σ0 vs M a b c d e => law a b c d e) Rows.topAnewScaleSpec sv sf H enc Rows.uptoBulk Rows.uptoBulkAll (bulk H) (bulk1 H) W base args ds gs before false true false false
  exact L hval hW hb

set_option maxRecDepth 100000 in
theorem lifted (os : Os) (started : os.Started) (H : Type) (enc : TypeId × Value → H) (F : Stop.Interp) :
    ReturnsInHanded {} Try.checked os 3 .any ((Rows.OpenSpec.upto Rows.topAnewScaleSpec).pre6 enc Try.prog Try.f3 Rows.topAnewScaleUptoRow.domain false) (((Rows.OpenSpec.upto Rows.topAnewScaleSpec).at F).post enc Try.prog Try.f3 false true false false) := by
  refine returnsInHanded_of_cond (C := Try.checked) (s := Rows.OpenSpec.upto Rows.topAnewScaleSpec) (k := Rows.uptoSmall) rfl own started (by kernel_rfl) Try.func3
    (OpenSpec.witness (enc := enc) (C := Try.checked) (s := Rows.OpenSpec.upto Rows.topAnewScaleSpec) (k := Rows.uptoSmall) rfl false ⟨#[], #[.agg #[.int .i64 0, .int .i64 0, .int .i64 0, .slice none 0 0, .slice none 0 0, .int .i64 0, .int .i64 0, .int .i64 0, .int .i64 0, .int .i64 0, .slice none 0 0, .slice none 0 0]], []⟩ 8 (by kernel_rfl) (by kernel_rfl) (by kernel_rfl)
      (x := ([.agg [.agg [.lit (.int .i64 0), .lit (.int .i64 0), .lit (.int .i64 0), .nil, .nil], .agg [.lit (.int .i64 0), .lit (.int .i64 0)], .agg [.lit (.int .i64 0), .lit (.int .i64 0)], .lit (.int .i64 0), .nil, .nil]], [], [])) (by kernel_rfl) rfl (by kernel_rfl)) ?_
  intro W base args ds gs before hval hW _ hk _
  exact contract H enc W base args ds gs before hval hW hk

theorem p1 : Try.pinned.checked.prog.funcNamed Rows.topAnewScaleUptoRow.func = some 3 := by kernel_rfl
theorem p2 : joinedFacts Try.pinned.checked.prog 3 Try.f3 (OpenSpec.bare (Rows.OpenSpec.upto Rows.topAnewScaleSpec)) Rows.topAnewScaleUptoRow = true := by kernel_rfl
theorem p3 : Try.f3.isInstance Try.pinned.checked.prog Rows.topAnewScaleUptoRow.origin Rows.topAnewScaleUptoRow.targs := of_decide_eq_true (by kernel_rfl)
theorem p4 : Try.f3.isWrapper Try.pinned.checked.prog Rows.topAnewScaleUptoRow.wrapper Rows.topAnewScaleUptoRow.mainSum := by
  unfold Func.isWrapper; first | (rw [if_pos (by decide +kernel)]; kernel_rfl) | (rw [if_neg (by decide +kernel)]; exact ⟨rfl, rfl⟩)
theorem proved : Rows.TopAnewScaleUptoSaid :=
  OpenClaim.holds_of_cond 3 Try.f3 rfl rfl rfl rfl rfl rfl rfl ⟨rfl, rfl, rfl, rfl, rfl⟩ rfl rfl rfl rfl rfl p1 Try.func3 p2 p3 p4
    (fun os started H enc _ F => lifted os started H enc F)
end Go.Proofs.Ytijiddndddjleaa.Law
end
