/- What is plain to see of the law's calls of 'again'. -/
import Derived.Test.YtjhofnkoicdpnaaTab
set_option linter.all false
namespace Go.Proofs.Ytjhofnkoicdpnaa.Law
open Go Go.Ev Go.Ev.Sx Go.Proofs
noncomputable abbrev FT : FuncId → Option EFunc := tabF tabT
noncomputable abbrev hxF : Clo → HX := mkHx FT 38 cl kdL kt.length
theorem kdOK : ∀ p ∈ kdL, KdOK FT ht.int p.1 p.2 := by
  intro p hp
  simp only [kdL, List.mem_cons, List.not_mem_nil, or_false] at hp
  rcases hp with rfl | rfl | rfl | rfl | rfl <;> rfl
theorem wkOK : ∀ p ∈ wkL, WkOK FT p.1 p.2 := by
  intro p hp
  simp only [wkL, List.mem_cons, List.not_mem_nil, or_false] at hp
  rcases hp with rfl | rfl | rfl | rfl <;> rfl
theorem okCheck : cloOK hxF (mkWk wkL) kt.length cCheck = true := by decide +kernel
theorem okCheckLegend : cloOK hxF (mkWk wkL) kt.length cCheckLegend = true := by decide +kernel
theorem okBands : cloOK hxF (mkWk wkL) kt.length cBands = true := by decide +kernel
theorem okUnsure : cloOK hxF (mkWk wkL) kt.length cUnsure = true := by decide +kernel
theorem okMeets : cloOK hxF (mkWk wkL) kt.length cMeets = true := by decide +kernel
theorem okPaint : cloOK hxF (mkWk wkL) kt.length cPaint = true := by decide +kernel
theorem okMistaken : cloOK hxF (mkWk wkL) kt.length cMistaken = true := by decide +kernel
theorem okBest : cloOK hxF (mkWk wkL) kt.length cBest = true := by decide +kernel
theorem clOK : ∀ c ∈ cl, cloOK hxF (mkWk wkL) kt.length c = true := by
  intro c hc
  simp only [cl, List.mem_cons, List.not_mem_nil, or_false] at hc
  rcases hc with rfl | rfl | rfl | rfl | rfl | rfl | rfl | rfl
  · exact okCheck
  · exact okCheckLegend
  · exact okBands
  · exact okUnsure
  · exact okMeets
  · exact okPaint
  · exact okMistaken
  · exact okBest
theorem one : ∀ c ∈ cl, ∀ c' ∈ cl, c.pg = c'.pg → c = c' := by
  intro c hc c' hc' h
  simp only [cl, List.mem_cons, List.not_mem_nil, or_false] at hc hc'
  rcases hc with rfl | rfl | rfl | rfl | rfl | rfl | rfl | rfl <;> rcases hc' with rfl | rfl | rfl | rfl | rfl | rfl | rfl | rfl <;> first | rfl | (exact absurd h (by decide))
theorem facts : Facts Try.prog FT ht cl 38 hxF (mkWk wkL) kt.length kt := mk_facts (by decide +kernel) one kdOK wkOK clOK
theorem topOK : FT 3 = some (topFn 28 ht.hp kt.length 4 5 37 38 cCheck.g ([cCheckLegend, cBands, cUnsure, cMeets, cPaint, cMistaken, cBest].map (·.g))) := rfl
theorem agOK : FT 5 = some (againFn ht.hp 37) := rfl
theorem smOK : FT 37 = some (sameFn ht.hp) := rfl
theorem allOK : (match hxAll (hxF cCheck) 30 4 with
    | some out => fitRow out 0 (KT.ofL kt)
    | none => false) = true := by decide +kernel
end Go.Proofs.Ytjhofnkoicdpnaa.Law
