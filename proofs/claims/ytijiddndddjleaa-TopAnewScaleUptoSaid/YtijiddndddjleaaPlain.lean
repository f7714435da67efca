/- What is plain to see of the law's calls of 'again'. -/
import Derived.Test.YtijiddndddjleaaTab
noncomputable section
set_option linter.all false
namespace Go.Proofs.Ytijiddndddjleaa.Law
open Go Go.Ev Go.Ev.Sx Go.Proofs
noncomputable abbrev FT : FuncId → Option EFunc := tabF tabT
noncomputable abbrev hxF : Clo → HX := mkHx FT 39 cl kdL kt.length
theorem kdOK : ∀ p ∈ kdL, KdOK FT ht p.1 p.2 := by
  intro p hp
  simp only [kdL, List.mem_cons, List.not_mem_nil, or_false] at hp
  rcases hp with rfl | rfl | rfl | rfl | rfl | rfl <;> rfl
theorem wkOK : ∀ p ∈ wkL, WkOK FT p.1 p.2 := by
  intro p hp
  simp only [wkL, List.mem_cons, List.not_mem_nil, or_false] at hp
  rcases hp with rfl | rfl | rfl <;> rfl
theorem okCheck : cloOK hxF (mkWk wkL) kt.length cCheck = true := by decide +kernel
theorem okCuts : cloOK hxF (mkWk wkL) kt.length cCuts = true := by decide +kernel
theorem okFalse : cloOK hxF (mkWk wkL) kt.length cFalse = true := by decide +kernel
theorem okFlat : cloOK hxF (mkWk wkL) kt.length cFlat = true := by decide +kernel
theorem okGreatest : cloOK hxF (mkWk wkL) kt.length cGreatest = true := by decide +kernel
theorem okLeast : cloOK hxF (mkWk wkL) kt.length cLeast = true := by decide +kernel
theorem okScales : cloOK hxF (mkWk wkL) kt.length cScales = true := by decide +kernel
theorem okApart : cloOK hxF (mkWk wkL) kt.length cApart = true := by decide +kernel
theorem okTell : cloOK hxF (mkWk wkL) kt.length cTell = true := by decide +kernel
theorem clOK : ∀ c ∈ cl, cloOK hxF (mkWk wkL) kt.length c = true := by
  intro c hc
  simp only [cl, List.mem_cons, List.not_mem_nil, or_false] at hc
  rcases hc with rfl | rfl | rfl | rfl | rfl | rfl | rfl | rfl | rfl
  · exact okCheck
  · exact okCuts
  · exact okFalse
  · exact okFlat
  · exact okGreatest
  · exact okLeast
  · exact okScales
  · exact okApart
  · exact okTell
theorem one : ∀ c ∈ cl, ∀ c' ∈ cl, c.pg = c'.pg → c = c' := by
  intro c hc c' hc' h
  simp only [cl, List.mem_cons, List.not_mem_nil, or_false] at hc hc'
  rcases hc with rfl | rfl | rfl | rfl | rfl | rfl | rfl | rfl | rfl <;> rcases hc' with rfl | rfl | rfl | rfl | rfl | rfl | rfl | rfl | rfl <;> first | rfl | (exact absurd h (by decide))
theorem facts : Facts Try.prog FT ht cl 39 hxF (mkWk wkL) kt.length kt := mk_facts (by decide +kernel) one kdOK wkOK clOK
theorem topOK : FT 3 = some (topFn 31 ht.hp kt.length 4 5 38 39 cCheck.g ([cCuts, cFalse, cFlat, cGreatest, cLeast, cScales, cApart, cTell].map (·.g))) := rfl
theorem agOK : FT 5 = some (againFn ht.hp 38) := rfl
theorem smOK : FT 38 = some (sameFn ht.hp) := rfl
theorem allOK : (match hxAll (hxF cCheck) 30 4 with
    | some out => fitRow out 0 (KT.ofL kt)
    | none => false) = true := by decide +kernel
end Go.Proofs.Ytijiddndddjleaa.Law
end
