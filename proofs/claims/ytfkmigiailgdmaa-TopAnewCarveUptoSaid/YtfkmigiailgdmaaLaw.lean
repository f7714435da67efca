/- The law of carve: true, whatever comes in. -/
import Derived.Test.YtfkmigiailgdmaaPlain
import Derived.Test.YtfkmigiailgdmaaRun
import Derived.Test.YtfkmigiailgdmaaAwake
import Derived.WalkKit
import Derived.ProofKit
import Derived.OpenShut
import Derived.JoinedCond
set_option linter.unusedVariables false
set_option linter.unusedSimpArgs false
set_option linter.all false
namespace Go.Proofs.Ytfkmigiailgdmaa.Law
open Go Go.Ev Go.Ev.Sx Go.Proofs
open Go.ChangeShapes Go.WideShapes Go.ChangeAt Go.RowKit

section
variable {σ0 : Store} {vs : List Value} {M : Nat}

theorem shape1 (hlen : vs.length = kt.length) (hM : M ≤ 2 ^ 20) (hk : Ev.KR σ0 (KT.ofL kt) vs M) {c : Clo} (hc : c ∈ cl) {hs : List Hint} (hsum : sumW c.rs = c.ks.length)
    (h : asks (tabF tabT) ct 40 c.pg (c.pargs.map (argS st.1)) st.2 hs (resOK c.rs c.ks) = true) : ∃ r cells, Canon Try.prog σ0 c.pg (c.pargs.map (argV (cellAt vs))) r ∧ Shape σ0 c.rs c.ks r cells :=
  canon_shape fok mixed (fun _ _ e => e) ctOK stOK (by decide) hsum h (fun V => KR_PT hM hk) hlen fun p hp => by
    have := facts.pn c hc p hp
    rw [hlen]; exact this

theorem shape_three {r : Value × Store} {cells : List Value} (h : Shape σ0 [(false, 1), (false, 1), (false, 1)] [.int .i64, .int .i64, .int .i64] r cells) : three r.1 := by
  obtain ⟨v1, t1, m1, m2, e1, ⟨x, _, f1, _⟩, ⟨v2, t2, m3, m4, e2, ⟨y, _, f2, _⟩, ⟨v3, t3, m5, m6, e3, ⟨z, _, f3, _⟩, _⟩, _⟩, _⟩ := h.nr
  have hv := h.val
  subst e1; cases f1
  subst e2; cases f2
  subst e3; cases f3
  exact ⟨x, y, z, hv⟩

theorem prev (hro : RoAll σ0) (hlow : ∀ v ∈ vs, Low σ0.size v ∧ okSh v = true) (hlen : vs.length = kt.length) (hM : M ≤ 2 ^ 20) (hk : Ev.KR σ0 (KT.ofL kt) vs M) :
    ∃ r cells, Canon Try.prog σ0 cPrevents.pg (cPrevents.pargs.map (argV (cellAt vs))) r ∧ Shape σ0 cPrevents.rs cPrevents.ks r cells := by
  obtain ⟨r1, cells1, hc1, hs1⟩ := shape1 hlen hM hk (c := cCheck) (by simp [cl]) rfl runCheck
  obtain ⟨v0, tl, m1, m2, e0, ⟨stt, _, f0, s1, s2, _⟩, ⟨v1, tl1, m3, m4, e1, hsl, _, _⟩, hm⟩ := hk
  subst e0; cases f0
  subst e1
  obtain ⟨q, n, cap, _, f1, hn, hcap, hq⟩ := hsl
  cases f1
  have hargs : cPrevents.pargs.map (argV (cellAt (.int .i64 stt :: .slice q n cap :: tl1))) = [.agg #[.int .i64 stt, .slice q n cap]] := rfl
  have hargs1 : cCheck.pargs.map (argV (cellAt (.int .i64 stt :: .slice q n cap :: tl1))) = [.agg #[.int .i64 stt, .slice q n cap]] := rfl
  rw [hargs1] at hc1
  rw [hargs]
  have hcap' : cap < 2 ^ 20 := by omega
  have hqs : ∀ a, q = some a → a.spot = none := by
    intro a ha
    rcases hq with ⟨hq, _⟩ | ⟨blk, c, m, hq, _⟩
    · rw [hq] at ha; cases ha
    · rw [hq] at ha; cases ha; rfl
  have hso : ∀ l h, l < h → h ≤ n → ∃ r, Canon Try.prog σ0 48 [.agg #[.int .i64 stt, subV q cap l h]] r ∧ Ext σ0 r.2 ∧ ∃ b, r.1 = .bool b := by
    intro l h hl hh
    have hpt : ∀ V, PT V (fun x => x < σ0.size) σ0 (kt2.map KT.ty) [.int .i64 stt, subV q cap l h] := by
      intro V
      refine ⟨⟨stt, _, _, _, rfl, L.ev_num _, L.ev_num _, by rw [← kmin_eq]; exact s1, by rw [← kmax_eq]; exact s2⟩, _, _, rfl, ?_, _, _, rfl, trivial⟩
      unfold subV
      rw [if_neg (by omega)]
      refine ⟨_, _, _, _, _, _, rfl, L.ev_num _, L.ev_num _, by omega, by omega, ⟨by omega, by unfold INF; omega⟩, ?_⟩
      rcases hq with ⟨_, hq, _⟩ | ⟨blk, c, m, a1, a2, a3, a4, a5⟩
      · omega
      · subst a1
        have hw : (KT.cons (.int .i64) (.cons (.int .i64) (.cons (.int .i64) .nil))).w = 3 := rfl
        rw [hw] at a3
        refine .inr ⟨blk, 0 + l * 3, _, c, by rw [Option.map_some, addr_add], Store.get_lt a2, a2, ?_, fun i hi => ?_⟩
        · show 0 + l * 3 + (h - l) * 3 ≤ c.length
          have := Nat.mul_le_mul_right 3 hh
          rw [Nat.sub_mul]
          have : l * 3 ≤ h * 3 := Nat.mul_le_mul_right 3 (by omega)
          omega
        · have hli : l + i < n := by omega
          have := sumN_le (m := m) hli
          have h4 := KR_VT (V := V) (by omega) (a4 (l + i) hli)
          have he : 0 + l * 3 + i * 3 = (l + i) * 3 := by omega
          show VT _ _ _ _ (c.drop (0 + l * 3 + i * 3))
          rw [he]
          exact h4
    obtain ⟨r, cells, hc, hs⟩ := canon_shape fok mixed (fun _ _ e => e) ctOK st2OK (by decide) rfl runSome hpt rfl (fun p hp => by
      simp at hp; subst hp
      exact ⟨fun i hi => by simp at hi; rcases hi with rfl | rfl <;> simp, fun h => by cases h⟩)
    refine ⟨r, hc, hs.ext, ?_⟩
    obtain ⟨v, t, m1, m2, e1, ⟨b, _, f1, _⟩, _⟩ := hs.nr
    have hv := hs.val
    subst e1; cases f1
    exact ⟨b, hv⟩
  obtain ⟨r, h1, h2, h3⟩ := prev_canon (F := FT) fok mixed hro (f := 19) (ck := 7) (so := 48) rfl (by decide) (by decide) (by decide) (st := stt) (q := q) (n := n) (cap := cap) hn hcap' (hlow _ (by simp)).1 hqs ⟨r1, hc1, hs1.ext, shape_three hs1⟩ hso
  obtain ⟨cells, h4⟩ := three_shape h2 h3
  exact ⟨r, cells, h1, h4⟩

theorem shapes (hro : RoAll σ0) (hlow : ∀ v ∈ vs, Low σ0.size v ∧ okSh v = true) (hlen : vs.length = kt.length) (hM : M ≤ 2 ^ 20) (hk : Ev.KR σ0 (KT.ofL kt) vs M) :
    ∀ c ∈ cl, ∃ r cells, Canon Try.prog σ0 c.pg (c.pargs.map (argV (cellAt vs))) r ∧ Shape σ0 c.rs c.ks r cells := by
  intro c hc
  have hc' := hc
  simp only [cl, List.mem_cons, List.not_mem_nil, or_false] at hc
  rcases hc with rfl | rfl | rfl | rfl | rfl | rfl | rfl | rfl | rfl
  · exact shape1 hlen hM hk hc' rfl runCheck
  · exact shape1 hlen hM hk hc' rfl runWhy
  · exact shape1 hlen hM hk hc' rfl runBounds
  · exact prev hro hlow hlen hM hk
  · exact shape1 hlen hM hk hc' rfl runNeed
  · exact shape1 hlen hM hk hc' rfl runPlaster
  · exact shape1 hlen hM hk hc' rfl runPasses
  · exact shape1 hlen hM hk hc' rfl runCarved
  · exact shape1 hlen hM hk hc' rfl runBest

theorem law (hro : RoAll σ0) (hlow : ∀ v ∈ vs, Low σ0.size v ∧ okSh v = true) (hlen : vs.length = kt.length) (hM : M ≤ 2 ^ 20) (hk : Ev.KR σ0 (KT.ofL kt) vs M) :
    WC FT (theHook Try.prog σ0 vs cl 38) (.func 3) [.agg vs.toArray] (fun v σ' => v = .bool true) σ0 := by
  have h := allOK
  cases ho : hxAll (hxF cCheck) 30 4 with
  | none => rw [ho] at h; cases h
  | some out =>
    rw [ho] at h
    exact law_true facts hro hlow hlen hM hk (ag := 5) (sm := 37) (al := 4) rfl topOK agOK smOK (by decide) (by decide) (by decide) ho h (shapes hro hlow hlen hM hk) (awake_canon fok mixed awake σ0)
end

theorem bulk (H : Type) : Bulk (H := H) Rows.uptoBulk Rows.uptoBulkAll where
  lit := fun l => by cases l <;> simp [Rows.uptoBulk]
  nil := by simp [Rows.uptoBulk]
  slice := fun es sp => by simp [Rows.uptoBulk]
  agg := fun ps => by simp [Rows.uptoBulk]
  nil0 := by simp [Rows.uptoBulkAll]
  cons := fun d r => by simp [Rows.uptoBulkAll]
theorem bulk1 (H : Type) : ∀ d : DataW H, 1 ≤ Rows.uptoBulk d := fun d => by
  cases d with
  | lit l => exact (bulk H).lit l
  | _ => simp [Rows.uptoBulk]

theorem own : ownKnob Try.prog.godebug = none := by kernel_rfl
theorem hkt : kts false Try.prog 40 28 = some kt := by kernel_rfl
theorem ser : Try.prog.readableRec 28 = true := by kernel_rfl
theorem laid : laidOutB Try.prog = true := by kernel_rfl
theorem many : 28 < Try.prog.types.size := of_decide_eq_true (by kernel_rfl)
theorem nft : (3 : FuncId) ≠ 38 ∧ ∀ c ∈ cl, (3 : FuncId) ≠ c.pg := by decide

theorem res3 : Try.f3.resultTypes = #[4] := by kernel_rfl
theorem sv : Rows.topAnewCarveSpec.vars = [] := rfl
theorem sf (H : Type) (d : DataW H) : Rows.topAnewCarveSpec.fn H [d] = { results := [.lit (.bool true)], args := [d] } := rfl
set_option maxRecDepth 100000 in
theorem contract (H : Type) (enc : TypeId × Value → H) (W : World) (base : Nat) (args : Array Value) (ds gs : List (DataW H)) (before : List MemPlace)
    (hval : ∀ (j : Nat) t v, Try.f3.params[j]? = some t → args[j]? = some v → Value.okWide Try.prog W .any base t v)
    (hW : DataW.Whole enc Try.prog Try.f3.params.toList Rows.topAnewCarveSpec.vars false W args.toList ds gs before) (hk : Rows.uptoSmall H (ds ++ gs) = true) :
    Calls Try.prog 3 args W fun e W' => ∃ v, e = .returned v ∧ Rows.topAnewCarveSpec.post enc Try.prog Try.f3 false true false false W args v W' := by
  have hb : Rows.uptoBulkAll (ds ++ gs) ≤ 2 ^ 20 := of_decide_eq_true hk
  have L := @law_contract Try.prog laid mixed FT fok ht cl 38 3 nft kt 28 4 40 hkt _ Try.underlying28 Try.underlying4 ser many Try.f3 Try.params3 res3 (fun σ0 vs M a b c d e => law a b c d e) Rows.topAnewCarveSpec sv sf H enc Rows.uptoBulk Rows.uptoBulkAll (bulk H) (bulk1 H) W base args ds gs before false true false false
  exact L hval hW hb

set_option maxRecDepth 100000 in
theorem lifted (os : Os) (started : os.Started) (H : Type) (enc : TypeId × Value → H) (F : Stop.Interp) :
    ReturnsInHanded {} Try.checked os 3 .any ((Rows.OpenSpec.upto Rows.topAnewCarveSpec).pre6 enc Try.prog Try.f3 Rows.topAnewCarveUptoRow.domain false) (((Rows.OpenSpec.upto Rows.topAnewCarveSpec).at F).post enc Try.prog Try.f3 false true false false) := by
  refine returnsInHanded_of_cond (C := Try.checked) (s := Rows.OpenSpec.upto Rows.topAnewCarveSpec) (k := Rows.uptoSmall) rfl own started (by kernel_rfl) Try.func3
    (OpenSpec.witness (enc := enc) (C := Try.checked) (s := Rows.OpenSpec.upto Rows.topAnewCarveSpec) (k := Rows.uptoSmall) rfl false ⟨#[], #[.agg #[.int .i64 0, .slice none 0 0, .slice none 0 0, .slice none 0 0, .bool false]], []⟩ 8 (by kernel_rfl) (by kernel_rfl) (by kernel_rfl)
      (x := ([.agg [.agg [.lit (.int .i64 0), .nil], .nil, .nil, .lit (.bool false)]], [], [])) (by kernel_rfl) rfl (by kernel_rfl)) ?_
  intro W base args ds gs before hval hW _ hk _
  exact contract H enc W base args ds gs before hval hW hk

theorem proved : Rows.TopAnewCarveUptoSaid :=
  OpenClaim.holds_of_cond 3 Try.f3 rfl rfl rfl rfl rfl rfl rfl ⟨rfl, rfl, rfl, rfl, rfl⟩ rfl rfl rfl rfl rfl (by kernel_rfl) Try.func3 (by kernel_rfl)
    (of_decide_eq_true (by kernel_rfl)) (by unfold Func.isWrapper; first | (rw [if_pos (by decide +kernel)]; kernel_rfl) | (rw [if_neg (by decide +kernel)]; exact ⟨rfl, rfl⟩))
    (fun os started H enc _ F => lifted os started H enc F)
end Go.Proofs.Ytfkmigiailgdmaa.Law
