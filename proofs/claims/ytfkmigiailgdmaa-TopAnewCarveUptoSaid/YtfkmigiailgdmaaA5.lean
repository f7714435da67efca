/- The evaluator, the symbolic evaluator and their soundness, part 5 of 6: for every program and every world. -/
import Derived.Test.YtfkmigiailgdmaaA4
set_option linter.all false
set_option linter.unusedVariables false
set_option linter.unusedSimpArgs false
section SxX
namespace Go.Ev.Sx
variable {F : FuncId → Option EFunc} {H : Caller}
variable {V V' : Val} {U U' : Nat → Prop} {S S' : SS} {σ σ' : Store} {a : Env}
theorem sxOpsD_ok {K : CallF} (hK : KOK F H K) {Y : Ys} {base bid np : Nat} : ∀ {ops : List EOp} {S : SS} {V : Val} {U : Nat → Prop} {σ : Store} {a : Env} (hY : CX F H V U σ Y) (g : G V U S σ) (he : GE V U σ S.env a)
    (hpre : ∀ m, m < np → V.α (bid + m) = some (some (base + m, 0))) (hin : ops.all (fun o => preIn np o.op) = true) {h : List SS} {hC : List Store} (hh : F2 (HistR V U σ) h hC) {ls : List Lk} {lC : List Look} (hl : F2 (LookR V U σ) ls lC)
    {hs hs' : Hs} {l : List SS}, sxOpsD K Y bid ops S h ls hs = some (l, hs') → WW F H base ops (fun a' σ' hC' lC' => lC'.all (stable hC') = true ∧ OutO V U S σ l a' σ') a σ hC lC := by
  intro ops
  induction ops with
  | nil =>
    intro S V U σ a hY g he hpre hin h hC hh ls lC hl hs hs' l hx
    simp only [sxOpsD] at hx
    cases hb : ls.all (lkOK h) with
    | false => rw [hb] at hx; cases hx
    | true =>
      rw [hb] at hx
      simp only [cond_true, Option.some.injEq, Prod.mk.injEq] at hx; obtain ⟨rfl, rfl⟩ := hx
      refine sW_nil ⟨?_, S, List.mem_cons_self, V, U, g, he, .refl ..⟩
      rw [List.all_eq_true]
      intro L hL
      obtain ⟨i, hi, hLi⟩ := List.getElem_of_mem hL
      have hlen := hl.len
      have hki : ls[i]? = some (ls[i]'(by omega)) := List.getElem?_eq_getElem (by omega)
      obtain ⟨L', h1, h2⟩ := hl.get hki
      rw [List.getElem?_eq_getElem hi, hLi] at h1; cases h1
      exact lk_stable hh h2 (List.all_eq_true.1 hb _ (List.getElem_mem _))
  | cons o os ih =>
    intro S V U σ a hY g he hpre hin h hC hh ls lC hl hs hs' l hx
    simp only [sxOpsD] at hx
    simp only [List.all_cons, Bool.and_eq_true] at hin
    have hpre' : ∀ m, o.op = .pre m → V.α (bid + m) = some (some (base + m, 0)) := by
      intro m e
      have := hin.1
      rw [e] at this
      exact hpre m (by simpa [preIn, Nat.blt_eq] using this)
    cases hst : sxStep K Y bid o S hs with
    | none => rw [hst] at hx; cases hx
    | some r =>
      obtain ⟨l1, h1⟩ := r
      rw [hst] at hx
      simp only at hx
      have hist : ∀ {V1 : Val} {U1 : Nat → Prop} {S1 : SS} {σ1 : Store}, G V1 U1 S1 σ1 → Sta V U σ V1 U1 σ1 → F2 (HistR V1 U1 σ1) (bif o.op.loud then h ++ [S1] else h) (if o.op.loud then hC ++ [σ1] else hC) := by
        intro V1 U1 S1 σ1 g1 st
        have h1 := hh.imp (Q := HistR V1 U1 σ1) fun _ _ q => q.sta st
        cases o.op.loud with
        | true => exact F2.app h1 ⟨⟨V1, U1, g1, ⟨.refl _, fun _ h => h, fun _ _ => rfl⟩⟩, trivial⟩
        | false => exact h1
      rcases sxStep_ok hK hY g he hpre' hst with ⟨hw, v, σ', ⟨N, hN⟩, S1, hm, V1, U1, q1, q2, q3, q4⟩ | ⟨hw, S1, hm, q1, q2, q3⟩
      · obtain ⟨x1, zs, x2, hz, hzy⟩ := thr_mem hx (true, S1) hm
        have st := q2.sta g
        have hlk : F2 (LookR V1 U1 σ') (lkAdd o S (true, S1) ls) (match o.win with
            | some (lo, hi) => if o.op.looks then ⟨o.op, a, v, lo, hi⟩ :: lC else lC
            | none => lC) := by
          have h1 := hl.imp (Q := LookR V1 U1 σ') fun _ _ q => q.sta st
          unfold lkAdd
          cases hwin : o.win with
          | none => exact h1
          | some w =>
            obtain ⟨lo, hi⟩ := w
            simp only [Bool.and_true]
            cases hlo : o.op.looks with
            | false => exact h1
            | true =>
              refine ⟨⟨rfl, rfl, rfl, V, U, σ, σ', g, he, st, ?_, ?_⟩, h1⟩
              · have := hN N (Nat.le_refl _)
                rw [← this]
                cases hop : o.op <;> rw [hop] at hlo <;> first | rfl | cases hlo
              · simp only
                cases hd : o.dst with
                | none => trivial
                | some d =>
                  simp only
                  cases hle : look d S1.env with
                  | none => trivial
                  | some sv => exact q4 d sv hd hle
        obtain ⟨a2, σ2, h2, l2, ⟨M, hM⟩, hq1, hq2⟩ := ih (hY.sta st) q1 q3 (fun m hm => q2.le.α _ _ (hpre m hm)) hin.2 (hist q1 st) hlk hz
        refine ⟨a2, σ2, h2, l2, ⟨max N M, fun n hn => ?_⟩, hq1, hq2.lift q2 hzy⟩
        simp only [evOpsD, hw, if_true, hN n (by omega)]
        have := hM n (by omega)
        cases hlo : o.op.looks <;> rw [hlo] at this <;> (try simp only [Bool.false_eq_true, if_false, if_true] at this ⊢) <;> exact this
      · obtain ⟨x1, zs, x2, hz, hzy⟩ := thr_mem hx (false, S1) hm
        have st := q2.sta g
        have hlk : F2 (LookR V U σ) (lkAdd o S (false, S1) ls) lC := by
          unfold lkAdd
          cases o.win with
          | none => exact hl
          | some w => obtain ⟨lo, hi⟩ := w; simpa using hl
        obtain ⟨a2, σ2, h2, l2, ⟨M, hM⟩, hq1, hq2⟩ := ih (hY.sta st) q1 q3 hpre hin.2 (hist q1 st) hlk hz
        refine ⟨a2, σ2, h2, l2, ⟨M, fun n hn => ?_⟩, hq1, hq2.lift q2 hzy⟩
        simp only [evOpsD, hw, Bool.false_eq_true, if_false]
        exact hM n hn
theorem preS_ok : ∀ {pre : List (TypeId × List Value)} {S S1 : SS} {V : Val} {σ : Store} (g : G V U S σ), preS pre S = some S1 → ∃ V', G V' U S1 (allocs pre σ) ∧ Kp V U S σ V' U S1 (allocs pre σ) ∧ S1.env = S.env ∧ ∀ m, m < pre.length → V'.α (S.nb + m) = some (some (σ.size + m, 0)) := by
  intro pre
  induction pre with
  | nil => intro S S1 V σ g h; simp only [preS, Option.some.injEq] at h; subst h; exact ⟨V, g, .refl .., rfl, fun m hm => by cases hm⟩
  | cons p pre ih =>
    intro S S1 V σ g h
    obtain ⟨e, z⟩ := p
    simp only [preS] at h
    cases hc : constCs z with
    | none => rw [hc] at h; cases h
    | some cs =>
      rw [hc] at h
      simp only at h
      obtain ⟨V1, g1, k1, hα, _⟩ := alloc_cells (e := e) g (constCs_ok hc)
      obtain ⟨V2, g2, k2, e2, h2⟩ := ih g1 h
      refine ⟨V2, g2, k1.trans k2, e2, fun m hm => ?_⟩
      cases m with
      | zero => simpa using k2.le.α _ _ hα
      | succ m =>
        have := h2 m (by simpa using hm)
        rw [show (newBlock S (.cells e cs)).2.nb = S.nb + 1 from rfl, Store.size_alloc] at this
        rw [show S.nb + (m + 1) = S.nb + 1 + m by omega, show σ.size + (m + 1) = σ.size + 1 + m by omega]; exact this
theorem prep_ok (h : LH) (g : G V U S σ) : ∃ U', G V U' (prep h S) σ ∧ Kp V U S σ V U' (prep h S) σ ∧ (prep h S).env = S.env := by
  have pc : ∀ (vs : List (Nat × VW)) (c d : C) {S : SS} {U : Nat → Prop} (g : G V U S σ), ∃ U', G V U' (prepC vs S c d) σ ∧ Kp V U S σ V U' (prepC vs S c d) σ ∧ (prepC vs S c d).env = S.env := by
    intro vs c d S U g
    cases c with
    | sl x b off len e cp =>
      simp only [prepC]
      cases (look b vs).isSome with
      | true => exact freezeC_ok g d
      | false => exact ⟨U, g, .refl .., rfl⟩
    | _ => exact ⟨U, g, .refl .., rfl⟩
  have pcs : ∀ (vs : List (Nat × VW)) (cs ds : List C) {S : SS} {U : Nat → Prop} (g : G V U S σ), ∃ U', G V U' (prepCs vs S cs ds) σ ∧ Kp V U S σ V U' (prepCs vs S cs ds) σ ∧ (prepCs vs S cs ds).env = S.env := by
    intro vs cs
    induction cs with
    | nil => intro ds S U g; cases ds <;> exact ⟨U, g, .refl .., rfl⟩
    | cons c cs ih =>
      intro ds S U g
      cases ds with
      | nil => exact ⟨U, g, .refl .., rfl⟩
      | cons d ds =>
        obtain ⟨U1, g1, k1, e1⟩ := pc vs c d g
        obtain ⟨U2, g2, k2, e2⟩ := ih ds g1
        exact ⟨U2, g2, k1.trans k2, e2.trans e1⟩
  have pe : ∀ (vs : List (Nat × VW)) (l : List (Nat × SV)) {S : SS} {U : Nat → Prop} (g : G V U S σ), ∃ U', G V U' (prepEnv vs S l) σ ∧ Kp V U S σ V U' (prepEnv vs S l) σ ∧ (prepEnv vs S l).env = S.env := by
    intro vs l
    induction l with
    | nil => intro S U g; exact ⟨U, g, .refl .., rfl⟩
    | cons p l ih =>
      intro S U g
      obtain ⟨t, sv⟩ := p
      cases sv with
      | w gg cs =>
        simp only [prepEnv]
        split
        · rename_i gg' ds _
          obtain ⟨U1, g1, k1, e1⟩ := pcs vs cs ds g
          obtain ⟨U2, g2, k2, e2⟩ := ih g1
          exact ⟨U2, g2, k1.trans k2, e2.trans e1⟩
        · exact ih g
      | tup _ => exact ih g
      | any => exact ih g
  have ph : ∀ (vs : List (Nat × VW)) (l : List (Nat × HE)) {S : SS} {U : Nat → Prop} (g : G V U S σ), ∃ U', G V U' (prepHeap vs S l) σ ∧ Kp V U S σ V U' (prepHeap vs S l) σ ∧ (prepHeap vs S l).env = S.env := by
    intro vs l
    induction l with
    | nil => intro S U g; exact ⟨U, g, .refl .., rfl⟩
    | cons p l ih =>
      intro S U g
      obtain ⟨b, he⟩ := p
      cases he with
      | cells e cs =>
        simp only [prepHeap]
        split
        · rename_i e' ds _
          obtain ⟨U1, g1, k1, e1⟩ := pcs vs cs ds g
          obtain ⟨U2, g2, k2, e2⟩ := ih g1
          exact ⟨U2, g2, k1.trans k2, e2.trans e1⟩
        · exact ih g
      | _ => exact ih g
  unfold prep
  split
  · exact ⟨U, g, .refl .., rfl⟩
  · obtain ⟨U1, g1, k1, e1⟩ := pe h.vws h.env g
    obtain ⟨U2, g2, k2, e2⟩ := ph h.vws h.heap g1
    exact ⟨U2, g2, k1.trans k2, e2.trans e1⟩
def Out (V : Val) (U : Nat → Prop) (S : SS) (σ : Store) (l : List (Ex × SS)) (e : Ex) (a' : Env) (σ' : Store) : Prop :=
  ∃ S', (e, S') ∈ l ∧ ∃ V' U', G V' U' S' σ' ∧ GE V' U' σ' S'.env a' ∧ Kp V U S σ V' U' S' σ'
theorem Out.lift {V1 : Val} {U1 : Nat → Prop} {S1 : SS} {σ1 : Store} (k : Kp V U S σ V1 U1 S1 σ1) {l l' : List (Ex × SS)} (hl : ∀ s ∈ l, s ∈ l') {e : Ex} {a' : Env} {σ' : Store} (h : Out V1 U1 S1 σ1 l e a' σ') : Out V U S σ l' e a' σ' := by
  obtain ⟨S', h1, V', U', h2, h3, h4⟩ := h
  exact ⟨S', hl _ h1, V', U', h2, h3, k.trans h4⟩
theorem head_ok {S0 : SS} {h : LH} {V0 : Val} {U0 : Nat → Prop} {σ0 : Store} (g0 : G V0 U0 S0 σ0) {S2 : SS} {V2 : Val} {U2 : Nat → Prop} {σ2 : Store} (st : Sta V0 U0 σ0 V2 U2 σ2) (g2 : G V2 U2 S2 σ2) (he2 : GE V2 U2 σ2 S2.env a) {θ : Th} (hf : fits S0 h S2 θ = true)
    (k0 : Kp V U S σ V0 U0 S0 σ0) (k2 : Kp V U S σ V2 U2 S2 σ2) :
    G (Vh V2 θ) U2 (head S0 h) σ2 ∧ GE (Vh V2 θ) U2 σ2 (head S0 h).env a ∧ Kp V U S σ (Vh V2 θ) U2 (head S0 h) σ2 ∧ Sta V0 U0 σ0 (Vh V2 θ) U2 σ2 := by
  obtain ⟨le, gh, geh, own, _⟩ := fits_ok hf g0 st g2 he2
  refine ⟨gh, geh, ⟨k0.le.trans le, k2.ule, k2.unew, k2.size, k2.same, fun l hl => k2.own l (own l hl)⟩, ⟨le, st.ule, st.same⟩⟩
theorem exEq_iff {a b : Ex} : exEq a b = true ↔ a = b := by
  cases a <;> cases b <;> simp [exEq]
theorem unr_ok {b : EC} {body : SS → Hs → Res (Ex × SS)} {Y : Ys} (hb : ∀ {S : SS} {V : Val} {U : Nat → Prop} {σ : Store} {a : Env} (hY : CX F H V U σ Y) (g : G V U S σ) (he : GE V U σ S.env a) {hs hs' : Hs} {l : List (Ex × SS)}, body S hs = some (l, hs') → WB F H b (Out V U S σ l) a σ) :
    ∀ (n : Nat) {S : SS} {V : Val} {U : Nat → Prop} {σ : Store} {a : Env} (hY : CX F H V U σ Y) (g : G V U S σ) (he : GE V U σ S.env a) {hs hs' : Hs} {l : List (Ex × SS)}, unr body n S hs = some (l, hs') → WL F H b (fun e a' σ' => e ≠ .norm ∧ Out V U S σ l e a' σ') a σ := by
  intro n
  induction n with
  | zero => intro S V U σ a hY g he hs hs' l h; cases h
  | succ n ih =>
    intro S V U σ a hY g he hs hs' l h
    simp only [unr] at h
    cases hbd : body S hs with
    | none => rw [hbd] at h; cases h
    | some r =>
      obtain ⟨l1, h1⟩ := r
      rw [hbd] at h
      simp only at h
      refine WL_step ((hb hY g he hbd).mono fun e a' σ' hq => ?_)
      obtain ⟨S1, hm, V1, U1, q1, q2, q3⟩ := hq
      obtain ⟨x1, zs, x2, hz, hzy⟩ := thr_mem h (e, S1) hm
      cases e with
      | norm =>
        obtain ⟨e2, a2, σ2, hr, hne, hq⟩ := ih (hY.sta (q3.sta g)) q1 q2 hz
        exact ⟨e2, a2, σ2, hr, hne, hq.lift q3 hzy⟩
      | exit id =>
        simp only [Option.some.injEq, Prod.mk.injEq] at hz; obtain ⟨rfl, rfl⟩ := hz
        exact ⟨by simp, S1, hzy _ List.mem_cons_self, V1, U1, q1, q2, q3⟩
      | ret =>
        simp only [Option.some.injEq, Prod.mk.injEq] at hz; obtain ⟨rfl, rfl⟩ := hz
        exact ⟨by simp, S1, hzy _ List.mem_cons_self, V1, U1, q1, q2, q3⟩
theorem WL.mono {b : EC} {Q Q' : Ex → Env → Store → Prop} (h : WL F H b Q a σ) (hq : ∀ e a' σ', Q e a' σ' → Q' e a' σ') : WL F H b Q' a σ := by
  obtain ⟨e, a', σ', h1, h2⟩ := h; exact ⟨e, a', σ', h1, hq _ _ _ h2⟩
theorem pendOf_ok {p : Option EC} {e : Ex} (h : pendOf p = some e) : p = pendEx e := by
  unfold pendOf at h
  split at h <;> first | (cases h; rfl) | cases h
theorem sxCode_ok {K : CallF} (hK : KOK F H K) {Y : Ys} : ∀ {c : EC} {S : SS} {V : Val} {U : Nat → Prop} {σ : Store} {a : Env} (hY : CX F H V U σ Y) (g : G V U S σ) (he : GE V U σ S.env a) {hs hs' : Hs} {l : List (Ex × SS)}, sxCode K Y c S hs = some (l, hs') → WB F H c (Out V U S σ l) a σ := by
  intro c
  induction c with
  | skip =>
    intro S V U σ a hY g he hs hs' l h
    simp only [sxCode, Option.some.injEq, Prod.mk.injEq] at h; obtain ⟨rfl, rfl⟩ := h
    exact WB_skip ⟨S, List.mem_cons_self, V, U, g, he, .refl ..⟩
  | exit id =>
    intro S V U σ a hY g he hs hs' l h
    simp only [sxCode, Option.some.injEq, Prod.mk.injEq] at h; obtain ⟨rfl, rfl⟩ := h
    exact WB_exit ⟨S, List.mem_cons_self, V, U, g, he, .refl ..⟩
  | ret =>
    intro S V U σ a hY g he hs hs' l h
    simp only [sxCode, Option.some.injEq, Prod.mk.injEq] at h; obtain ⟨rfl, rfl⟩ := h
    exact WB_ret ⟨S, List.mem_cons_self, V, U, g, he, .refl ..⟩
  | stuck => intro S V U σ a hY g he hs hs' l h; cases h
  | reg ops =>
    intro S V U σ a hY g he hs hs' l h
    simp only [sxCode] at h
    cases ho : sxOps K Y ops S hs with
    | none => rw [ho] at h; cases h
    | some r =>
      obtain ⟨l1, h1⟩ := r
      rw [ho] at h
      simp only [Option.some.injEq, Prod.mk.injEq] at h; obtain ⟨rfl, rfl⟩ := h
      refine WB_reg ((sxOps_ok hK hY g he ho).mono fun a' σ' hq => ?_)
      obtain ⟨S1, hm, hq⟩ := hq
      exact ⟨S1, List.mem_map.2 ⟨S1, hm, rfl⟩, hq⟩
  | regD pre ops =>
    intro S V U σ a hY g he hs hs' l h
    simp only [sxCode] at h
    cases hin : ops.all (fun o => preIn pre.length o.op) with
    | false => rw [hin] at h; cases h
    | true =>
      rw [hin] at h
      simp only [cond_true] at h
      cases hp : preS pre S with
      | none => rw [hp] at h; cases h
      | some S1 =>
        rw [hp] at h
        simp only at h
        obtain ⟨V1, g0, k0, e0, hα⟩ := preS_ok g hp
        obtain ⟨U1, g1, kf, ef⟩ := freezeCs_ok (winC (fun _ _ _ _ _ => none) ⟨[], []⟩ S.nb ops S1 []) g0
        have k1 := k0.trans kf
        have e1 := ef.trans e0
        generalize freezeCs S1 (winC (fun _ _ _ _ _ => none) ⟨[], []⟩ S.nb ops S1 []) = S1 at *
        cases ho : sxOpsD K Y S.nb ops S1 [S1] [] hs with
        | none => rw [ho] at h; cases h
        | some r =>
          obtain ⟨l1, h1⟩ := r
          rw [ho] at h
          simp only [Option.some.injEq, Prod.mk.injEq] at h; obtain ⟨rfl, rfl⟩ := h
          have st := k1.sta g
          have hww := sxOpsD_ok (np := pre.length) hK (hY.sta st) g1 (by rw [e1]; exact GE_sta st he) hα hin (h := [S1]) (hC := [allocs pre σ]) ⟨⟨V1, U1, g1, ⟨.refl _, fun _ h => h, fun _ _ => rfl⟩⟩, trivial⟩ (ls := []) (lC := []) trivial ho
          refine WB_regW ?_
          obtain ⟨a2, σ2, h2, l2, hr, hq1, hq2⟩ := hww
          refine ⟨a2, σ2, h2, l2, hr, hq1, ?_⟩
          obtain ⟨S2, hm, hq⟩ := hq2
          obtain ⟨V2, U2, r1, r2, r3⟩ := hq
          exact ⟨S2, List.mem_map.2 ⟨S2, hm, rfl⟩, V2, U2, r1, r2, k1.trans r3⟩
  | seq x y ihx ihy =>
    intro S V U σ a hY g he hs hs' l h
    simp only [sxCode] at h
    cases hx : sxCode K Y x S hs with
    | none => rw [hx] at h; cases h
    | some r =>
      obtain ⟨l1, h1⟩ := r
      rw [hx] at h
      simp only at h
      refine WB_seq ((ihx hY g he hx).mono fun e a' σ' hq => ?_)
      obtain ⟨S1, hm, V1, U1, q1, q2, q3⟩ := hq
      obtain ⟨x1, zs, x2, hz, hzy⟩ := thr_mem h (e, S1) hm
      cases e with
      | norm => exact (ihy (hY.sta (q3.sta g)) q1 q2 hz).mono fun e a' σ' hq => hq.lift q3 hzy
      | exit id =>
        simp only [Option.some.injEq, Prod.mk.injEq] at hz; obtain ⟨rfl, rfl⟩ := hz
        exact ⟨S1, hzy _ List.mem_cons_self, V1, U1, q1, q2, q3⟩
      | ret =>
        simp only [Option.some.injEq, Prod.mk.injEq] at hz; obtain ⟨rfl, rfl⟩ := hz
        exact ⟨S1, hzy _ List.mem_cons_self, V1, U1, q1, q2, q3⟩
  | cond c x y ihx ihy =>
    intro S V U σ a hY g he hs hs' l h
    cases c with
    | tmp t =>
      simp only [sxCode] at h
      cases hsp : splitT S t with
      | none => rw [hsp] at h; cases h
      | some sl =>
        rw [hsp] at h
        simp only at h
        obtain ⟨b, hb, S1, hm, g1, k1, he1⟩ := splitT_ok g he hsp
        obtain ⟨x1, zs, x2, hz, hzy⟩ := thr_mem h (b, S1) hm
        refine WB_cond (b := b) hb ?_
        cases b with
        | true => exact (ihx (hY.sta (k1.sta g)) g1 he1 hz).mono fun e a' σ' hq => hq.lift k1 hzy
        | false => exact (ihy (hY.sta (k1.sta g)) g1 he1 hz).mono fun e a' σ' hq => hq.lift k1 hzy
    | const v =>
      cases v with
      | bool b =>
        simp only [sxCode] at h
        refine WB_cond (b := b) rfl ?_
        cases b with
        | true => exact ihx hY g he h
        | false => exact ihy hY g he h
      | _ => cases h
    | global _ => cases h
    | func _ => cases h
  | block id b ih =>
    intro S V U σ a hY g he hs hs' l h
    simp only [sxCode] at h
    cases hb : sxCode K Y b S hs with
    | none => rw [hb] at h; cases h
    | some r =>
      obtain ⟨l1, h1⟩ := r
      rw [hb] at h
      simp only [Option.some.injEq, Prod.mk.injEq] at h; obtain ⟨rfl, rfl⟩ := h
      refine WB_block ((ih hY g he hb).mono fun e a' σ' hq => ?_)
      obtain ⟨S1, hm, hq⟩ := hq
      by_cases hee : e = .exit id
      · rw [if_pos hee]
        exact ⟨S1, List.mem_map.2 ⟨(e, S1), hm, by simp [hee, exEq]⟩, hq⟩
      · rw [if_neg hee]
        refine ⟨S1, List.mem_map.2 ⟨(e, S1), hm, ?_⟩, hq⟩
        have : exEq e (.exit id) = false := by
          cases hx : exEq e (.exit id) with
          | false => rfl
          | true => exact absurd (exEq_iff.1 hx) hee
        simp [this]
  | loop b ih =>
    intro S V U σ a hY g he hs hs' l h
    simp only [sxCode] at h
    split at h
    · rename_i n h0
      exact WB_loop (WL.mono (unr_ok (fun hY g he => ih hY g he) n hY g he h) fun e a' σ' hq => hq.2)
    · rename_i lh h0
      obtain ⟨U0, g0, k0, e0⟩ := prep_ok lh g
      generalize hS0 : prep lh S = S0 at *
      cases hf : (fits S0 lh S0 (theta S0 lh S0) && (lh.meas.sub' S0 (theta S0 lh S0)).isSome) with
      | false => rw [hf] at h; cases h
      | true =>
        rw [hf] at h
        simp only [cond_true] at h
        rw [Bool.and_eq_true] at hf
        cases hb : sxCode K Y b (head S0 lh) h0 with
        | none => rw [hb] at h; cases h
        | some r =>
          obtain ⟨l1, h1⟩ := r
          rw [hb] at h
          simp only at h
          have st0 : Sta V U0 σ V U0 σ := ⟨.refl _, fun _ h => h, fun _ _ => rfl⟩
          have he0 : GE V U0 σ S0.env a := by rw [e0]; exact GE_sta (k0.sta g) he
          obtain ⟨gh, geh, kh, sth⟩ := head_ok (S := S) (σ := σ) (U := U) g0 st0 g0 he0 hf.1 k0 k0
          obtain ⟨mm, hmm⟩ := Option.isSome_iff_exists.1 hf.2
          obtain ⟨m0, _, hm0⟩ := sub_ok g0 hmm
          refine WB_loop_inv (fun k a1 σ1 => ∃ V1 U1 m, k = m.toNat ∧ lh.meas.ev V1.ρ = some m ∧ G V1 U1 (head S0 lh) σ1 ∧ GE V1 U1 σ1 (head S0 lh).env a1 ∧ Kp V U S σ V1 U1 (head S0 lh) σ1 ∧ Sta V U0 σ V1 U1 σ1) ?_ (k := m0.toNat) ⟨_, U0, m0, rfl, hm0, gh, geh, kh, sth⟩
          rintro k a1 σ1 ⟨V1, U1, m, rfl, hm, g1, ge1, k1, s1⟩
          refine (ih (hY.sta (k1.sta g)) g1 ge1 hb).mono fun e a' σ' hq => ?_
          obtain ⟨S2, hmem, V2, U2, q1, q2, q3⟩ := hq
          obtain ⟨x1, zs, x2, hz, hzy⟩ := thr_mem h (e, S2) hmem
          cases e with
          | norm =>
            simp only at hz
            cases hbk : back S0 lh (prep lh S2) with
            | false => rw [hbk] at hz; cases hz
            | true =>
              unfold back at hbk
              simp only [Bool.and_eq_true] at hbk
              obtain ⟨U3, g3, k3, e3⟩ := prep_ok lh q1
              have k13 := q3.trans k3
              have s3 : Sta V U0 σ V2 U3 σ' := s1.trans (k13.sta g1)
              have he3 : GE V2 U3 σ' (prep lh S2).env a' := by rw [e3]; exact GE_sta (k3.sta q1) q2
              obtain ⟨gh', geh', kh', sth'⟩ := head_ok (S := S) (σ := σ) (U := U) g0 s3 g3 he3 hbk.1 k0 (k1.trans k13)
              have hls := hbk.2
              unfold lesser at hls
              cases hsub : lh.meas.sub' (prep lh S2) (theta S0 lh (prep lh S2)) with
              | none => rw [hsub] at hls; cases hls
              | some mm2 =>
                rw [hsub] at hls
                simp only [Bool.and_eq_true] at hls
                obtain ⟨d2, d3⟩ := hls
                obtain ⟨m2, hm2, hm2'⟩ := sub_ok g3 hsub
                have hmV2 := L.ev_mono k13.le.ρ hm
                have r1 := g3.ent d2 (L.ev_addc _ hmV2)
                have r2 := g3.ent d3 (L.ev_addc _ (L.ev_sub hmV2 hm2))
                exact ⟨m2.toNat, by omega, _, U3, m2, rfl, hm2', gh', geh', kh', sth'⟩
          | exit id =>
            simp only [Option.some.injEq, Prod.mk.injEq] at hz; obtain ⟨rfl, rfl⟩ := hz
            exact ⟨S2, hzy _ List.mem_cons_self, V2, U2, q1, q2, k1.trans q3⟩
          | ret =>
            simp only [Option.some.injEq, Prod.mk.injEq] at hz; obtain ⟨rfl, rfl⟩ := hz
            exact ⟨S2, hzy _ List.mem_cons_self, V2, U2, q1, q2, k1.trans q3⟩
    · cases h
  | rangeF f ps as b ihas ihb =>
    intro S V U σ a hY g he hs hs' l h
    simp only [sxCode] at h
    cases hc : S.cell f with
    | none => rw [hc] at h; cases h
    | some c =>
      rw [hc] at h
      simp only at h
      split at h
      · rename_i hm
        have hcr := cell_ok he hc
        generalize hV' : ({ V with α := setF V.α S.nb (some (σ.size, 0)), lp := setF V.lp S.nb (a, ps, as, b) } : Val) = V' at *
        have le : V.le V' := by
          subst hV'
          exact ⟨.refl _, le_setF (g.fb _ (Nat.le_refl _)).1 _, .refl _, le_setF (g.fb _ (Nat.le_refl _)).2 _⟩
        have hα : V'.α = setF V.α S.nb (some (σ.size, 0)) := by subst hV'; rfl
        have hlp : V'.lp = setF V.lp S.nb (a, ps, as, b) := by subst hV'; rfl
        have hlpn : V'.lp S.nb = some (a, ps, as, b) := by rw [hlp]; exact setF_at _ _ _
        have hαn : V'.α S.nb = some (some (σ.size, 0)) := by rw [hα]; exact setF_at _ _ _
        obtain ⟨g1, k1⟩ := G.alloc (he := .loop .ready none) (o := .loop a ps as b .ready none) g le hα (by subst hV'; rfl) (by subst hV'; rfl)
          (by rw [hlp]; exact setF_ge (fun x hx => (g.fb x hx).2) _)
          ⟨σ.size, 0, a, ps, as, b, hαn, hlpn, by rw [Store.get_alloc, if_pos rfl]⟩
        have st := k1.sta g
        have hY' : CX F H V' U (σ.alloc (.loop a ps as b .ready none)) { Y with ys := (S.nb, ⟨S.env, ps, as, b⟩) :: Y.ys } := by
          refine ⟨fun b' y hb' => ?_, (hY.sta st).rs⟩
          rw [look_cons] at hb'
          by_cases hbb : b' = S.nb
          · rw [if_pos hbb] at hb'; cases hb'; subst hbb
            exact ⟨a, hlpn, GE_sta st he⟩
          · rw [if_neg hbb] at hb'; exact (hY.sta st).ys b' y hb'
        cases hcv : callV K { Y with ys := (S.nb, ⟨S.env, ps, as, b⟩) :: Y.ys } c [one (.yld S.nb)] (newBlock S (.loop .ready none)).2 hs with
        | none => rw [hcv] at h; cases h
        | some r =>
          obtain ⟨l1, h1⟩ := r
          rw [hcv] at h
          simp only at h
          obtain ⟨v, σ1, hrun, sv, S2, hmem, V2, U2, g2, k2, _, _⟩ := callV_ok hK hY' g1 hcv (CR_sta st _ _ hcr) (vals := [.func (.yield σ.size) #[] #[]]) ⟨⟨_, rfl, σ.size, 0, hαn, rfl⟩, trivial⟩
          obtain ⟨x1, zs, x2, hz, hzy⟩ := thr_mem h (sv, S2) hmem
          simp only at hz
          cases hgh : S2.getH S.nb with
          | none => rw [hgh] at hz; cases hz
          | some he2 =>
            rw [hgh] at hz
            cases he2 with
            | loop st2 pend =>
              simp only at hz
              cases hbz : stEq st2 .busy with
              | true => rw [hbz] at hz; cases hz
              | false =>
                rw [hbz] at hz
                simp only [cond_false] at hz
                cases hpe : pendOf pend with
                | none => rw [hpe] at hz; cases hz
                | some e =>
                  rw [hpe] at hz
                  simp only [Option.some.injEq, Prod.mk.injEq] at hz; obtain ⟨rfl, rfl⟩ := hz
                  have hnb : st2 ≠ .busy := by intro e; subst e; cases hbz
                  obtain ⟨blk, of, tm, ps', as', bd', r1, r2, r3⟩ := g2.heap S.nb _ hgh
                  rw [k2.le.α _ _ hαn] at r1; cases r1
                  rw [k2.le.lp _ _ hlpn] at r2; cases r2
                  have hsz : σ.size < σ1.size := by have := k2.size; rw [Store.size_alloc] at this; omega
                  obtain ⟨g3, k3⟩ := G.set (σ' := σ1.set σ.size (.loop a ps as b .exhausted pend)) (he := .gone) g2 hgh rfl (k2.le.α _ _ hαn)
                    (fun l hl => by rw [Store.get_set _ _ _ _ hsz, if_neg hl]) (Store.size_set _ _ _) trivial
                  have kk := k1.trans (k2.trans k3)
                  have hend : Out V U S σ l e a (σ1.set σ.size (.loop a ps as b .exhausted pend)) :=
                    ⟨_, hzy _ List.mem_cons_self, V2, U2, g3.env _, GE_sta (kk.sta g) he, kk.env2 _⟩
                  cases c with
                  | fn x =>
                    obtain ⟨hx1, fid, p, q, hfv⟩ := hcr
                    refine WB_rangeF (g := fid) (first := p) (caps := q) hfv ⟨v, σ1, ?_, a, ps, as, b, st2, pend, e, r3, hnb, pendOf_ok hpe, hend⟩
                    obtain ⟨N, hN⟩ := hrun
                    refine ⟨N, fun n hn => ?_⟩
                    have := hN n hn
                    rw [hfv] at this
                    simpa only [evCallV] using this
                  | gfn fid =>
                    have hfv : a.eval f = .func (.func fid) #[] #[] := hcr
                    refine WB_rangeF (g := fid) (first := #[]) (caps := #[]) hfv ⟨v, σ1, ?_, a, ps, as, b, st2, pend, e, r3, hnb, pendOf_ok hpe, hend⟩
                    obtain ⟨N, hN⟩ := hrun
                    refine ⟨N, fun n hn => ?_⟩
                    have := hN n hn
                    rw [hfv] at this
                    simpa only [evCallV] using this
                  | _ => simp at hm
            | _ => cases hz
      · cases h
end Go.Ev.Sx
end SxX
section SxY
namespace Go.Ev.Sx
variable {F : FuncId → Option EFunc} {H : Caller}
variable {V V' : Val} {U U' : Nat → Prop} {S S' : SS} {σ σ' : Store} {a : Env}
theorem resS_ok : ∀ {rs : List (Tmp × Option (Option Nat))} {S S1 : SS} {V : Val} (g : G V U S σ) (he : GE V U σ S.env a) {svs : List SV}, resS S rs = some (svs, S1) →
    ∃ vs V1, resultsE rs a σ = some vs ∧ G V1 U S1 σ ∧ Kp V U S σ V1 U S1 σ ∧ F2 (SVR V1 U σ) svs vs := by
  intro rs
  induction rs with
  | nil => intro S S1 V g he svs h; simp only [resS, Option.some.injEq, Prod.mk.injEq] at h; obtain ⟨rfl, rfl⟩ := h; exact ⟨[], V, rfl, g, .refl .., trivial⟩
  | cons p r ih =>
    intro S S1 V g he svs h
    obtain ⟨t, c⟩ := p
    cases c with
    | none =>
      simp only [resS] at h
      cases hl : look t S.env with
      | none => rw [hl] at h; cases h
      | some v =>
        rw [hl] at h
        cases hr : resS S r with
        | none => rw [hr] at h; cases h
        | some q =>
          obtain ⟨vs, S2⟩ := q
          rw [hr] at h
          simp only [Option.some.injEq, Prod.mk.injEq] at h; obtain ⟨rfl, rfl⟩ := h
          obtain ⟨ws, V1, h1, h2, h3, h4⟩ := ih g he hr
          refine ⟨a.get t :: ws, V1, ?_, h2, h3, SVR_sta (h3.sta g) _ _ (he t v hl), h4⟩
          unfold resultsE at h1 ⊢
          rw [List.mapM_cons, h1]; rfl
    | some n =>
      simp only [resS] at h
      cases hl : S.cell (.tmp t) with
      | none => rw [hl] at h; cases h
      | some c =>
        rw [hl] at h
        cases c with
        | ptr b off =>
          simp only at h
          cases hld : loadS S b off n with
          | none => rw [hld] at h; cases h
          | some q =>
            obtain ⟨v, S2⟩ := q
            rw [hld] at h
            simp only at h
            cases hr : resS S2 r with
            | none => rw [hr] at h; cases h
            | some q =>
              obtain ⟨vs, S3⟩ := q
              rw [hr] at h
              simp only [Option.some.injEq, Prod.mk.injEq] at h; obtain ⟨rfl, rfl⟩ := h
              obtain ⟨o, blk, of, h1, h2, h3⟩ := cell_ok he hl
              obtain ⟨w, V1, q1, q2, q3, q4, q5⟩ := loadS_ok g hld h2 h1
              obtain ⟨ws, V2, r1, r2, r3, r4⟩ := ih q2 (by rw [q4]; exact GE_sta (q3.sta g) he) hr
              refine ⟨w :: ws, V2, ?_, r2, q3.trans r3, SVR_sta (r3.sta q2) _ _ q5, r4⟩
              have h3' : a.get t = .pointer (some ⟨blk, of + o, none⟩) := h3
              unfold resultsE at r1 ⊢
              rw [List.mapM_cons, r1]
              simp only [h3', q1]; rfl
        | _ => cases h
theorem wsOf_ok : ∀ {svs : List SV} {vs : List Value} {ws : List (Bool × List C)}, F2 (SVR V U σ) svs vs → wsOf svs = some ws → F2 (WR V U σ) ws vs
  | [], [], _, _, h => by simp only [wsOf, Option.some.injEq] at h; subst h; trivial
  | .w g cs :: r, v :: vs, ws, hf, h => by
    simp only [wsOf] at h
    cases hr : wsOf r with
    | none => rw [hr] at h; cases h
    | some q => rw [hr] at h; simp only [Option.map_some, Option.some.injEq] at h; subst h; exact ⟨hf.1, wsOf_ok hf.2 hr⟩
  | .tup _ :: _, _, _, _, h => by cases h
  | .any :: _, _, _, _, h => by cases h
theorem packS_ok {svs : List SV} {vs : List Value} {sv : SV} (hf : F2 (SVR V U σ) svs vs) (h : packS svs = some sv) : SVR V U σ sv (packE vs) := by
  have tupk : ∀ {svs : List SV} {vs : List Value}, F2 (SVR V U σ) svs vs → (wsOf svs).map .tup = some sv → SVR V U σ sv (.tuple vs.toArray) := by
    intro svs vs hf h
    cases hr : wsOf svs with
    | none => rw [hr] at h; cases h
    | some ws => rw [hr] at h; simp only [Option.map_some, Option.some.injEq] at h; subst h; exact ⟨vs, rfl, wsOf_ok hf hr⟩
  match svs, vs, hf, h with
  | [], [], hf, h => exact tupk (svs := []) (vs := []) trivial h
  | [x], [v], hf, h => simp only [packS, Option.some.injEq] at h; subst h; exact hf.1
  | x :: y :: r, v :: w :: vs, hf, h => exact tupk (svs := x :: y :: r) (vs := v :: w :: vs) hf h
theorem foldl_set_get : ∀ (vs : List Value) (i : Nat) (e : Env) (t : Nat), t < i → Env.get ((vs.zipIdx i).foldl (fun e (p : Value × Nat) => T.set e p.2 p.1) e) t = e.get t := by
  intro vs
  induction vs with
  | nil => intro i e t h; rfl
  | cons v vs ih =>
    intro i e t h
    rw [List.zipIdx_cons, List.foldl_cons, ih (i + 1) _ t (by omega)]
    rw [Env.get_put, if_neg (by omega)]
theorem argsEnv_ok' : ∀ {args : List SV} {vals : List Value} (i : Nat) (e : Env), F2 (SVR V U σ) args vals → ∀ t sv, look t (argsEnv i args) = some sv → SVR V U σ sv (Env.get ((vals.zipIdx i).foldl (fun e (p : Value × Nat) => T.set e p.2 p.1) e) t) := by
  intro args
  induction args with
  | nil => intro vals i e hf t sv h; cases h
  | cons x r ih =>
    intro vals i e hf t sv h
    cases vals with
    | nil => cases hf
    | cons v vs =>
      rw [argsEnv, look_cons] at h
      rw [List.zipIdx_cons, List.foldl_cons]
      by_cases ht : t = i
      · rw [if_pos ht] at h; cases h; subst ht
        rw [foldl_set_get _ _ _ _ (Nat.lt_succ_self _), Env.get_put, if_pos rfl]
        exact hf.1
      · rw [if_neg ht] at h
        exact ih (i + 1) _ hf.2 t sv h
theorem argsEnv_ok {args : List SV} {vals : List Value} (hf : F2 (SVR V U σ) args vals) : GE V U σ (argsEnv 0 args) (envOf vals) := by
  intro t sv h
  exact argsEnv_ok' 0 _ hf t sv h
theorem zipEnv_ok : ∀ {ps : List Tmp} {args : List SV} {vals : List Value} {env : List (Nat × SV)} {tm : Env}, F2 (SVR V U σ) args vals → GE V U σ env tm →
    GE V U σ ((ps.zip args).reverse ++ env) ((ps.zip vals).foldl (fun e (x : Tmp × Value) => T.set e x.1 x.2) tm) := by
  intro ps
  induction ps with
  | nil => intro args vals env tm hf he; simpa using he
  | cons p ps ih =>
    intro args vals env tm hf he
    cases args with
    | nil => cases vals with
      | nil => simpa using he
      | cons _ _ => cases hf
    | cons x xs => cases vals with
      | nil => cases hf
      | cons v vs =>
        simp only [List.zip_cons_cons, List.reverse_cons, List.foldl_cons, List.append_assoc, List.singleton_append]
        refine ih hf.2 (fun t sv h => ?_)
        rw [look_cons] at h
        rw [Env.get_put]
        by_cases ht : t = p
        · rw [if_pos ht] at h ⊢; cases h; exact hf.1
        · rw [if_neg ht] at h ⊢; exact he t sv h
def CallR' (V : Val) (U : Nat → Prop) (S : SS) (σ : Store) (l : List (SV × SS)) (v : Value) (σ' : Store) : Prop :=
  ∃ sv S', (sv, S') ∈ l ∧ ∃ V' U', G V' U' S' σ' ∧ Kp V U S σ V' U' S' σ' ∧ SVR V' U' σ' sv v
theorem runB_ok {code : EC → SS → Hs → Res (Ex × SS)} {fn : EFunc} (hc : ∀ {hs hs' : Hs} {l : List (Ex × SS)}, code fn.body S hs = some (l, hs') → WB F H fn.body (Out V U S σ l) a σ)
    {hs hs' : Hs} {l : List (SV × SS)} (h : runB code fn S hs = some (l, hs')) :
    WB F H fn.body (fun e a σ' => (e = .norm ∨ e = .ret) ∧ ∃ vs, resultsE fn.results a σ' = some vs ∧ CallR' V U S σ l (packE vs) σ') a σ := by
  unfold runB at h
  cases hb : code fn.body S hs with
  | none => rw [hb] at h; cases h
  | some r =>
    obtain ⟨l1, h1⟩ := r
    rw [hb] at h
    simp only at h
    refine (hc hb).mono fun e a' σ' hq => ?_
    obtain ⟨S1, hm, V1, U1, q1, q2, q3⟩ := hq
    obtain ⟨x1, zs, x2, hz, hzy⟩ := thr_mem h (e, S1) hm
    have fin : (match resS S1 fn.results with
        | some (vs, S1) => match packS vs with
          | some v => some ([(v, S1)], x1)
          | none => none
        | none => none) = some (zs, x2) → ∃ vs, resultsE fn.results a' σ' = some vs ∧ CallR' V U S σ l (packE vs) σ' := by
      intro hz
      cases hr : resS S1 fn.results with
      | none => rw [hr] at hz; cases hz
      | some q =>
        obtain ⟨svs, S2⟩ := q
        rw [hr] at hz
        simp only at hz
        cases hp : packS svs with
        | none => rw [hp] at hz; cases hz
        | some sv =>
          rw [hp] at hz
          simp only [Option.some.injEq, Prod.mk.injEq] at hz; obtain ⟨rfl, rfl⟩ := hz
          obtain ⟨vs, V2, r1, r2, r3, r4⟩ := resS_ok q1 q2 hr
          exact ⟨vs, r1, sv, S2, hzy _ List.mem_cons_self, V2, U1, r2, q3.trans r3, packS_ok r4 hp⟩
    cases e with
    | norm => exact ⟨.inl rfl, fin hz⟩
    | ret => exact ⟨.inr rfl, fin hz⟩
    | exit id => cases hz
def CtOK (F : FuncId → Option EFunc) (H : Caller) (ct : Ct) : Prop :=
  ∀ f args S l, ct f args S = some (some l) → ∀ V U σ vals, G V U S σ → F2 (SVR V U σ) args vals → WC F H (.func f) vals (CallR' V U S σ l) σ
theorem WC.mono {f : Callee} {args : List Value} {Q Q' : Value → Store → Prop} (h : WC F H f args Q σ) (hq : ∀ v σ', Q v σ' → Q' v σ') : WC F H f args Q' σ := by
  obtain ⟨v, σ', h1, h2⟩ := h; exact ⟨v, σ', h1, hq _ _ h2⟩
theorem CallR'.env {e : List (Nat × SV)} {l : List (SV × SS)} {v : Value} (h : CallR' V U { S with env := e } σ l v σ') : CallR V U S σ (l.map fun p => (p.1, { p.2 with env := S.env })) v σ' := by
  obtain ⟨sv, S1, hm, V1, U1, q1, q2, q3⟩ := h
  exact ⟨sv, { S1 with env := S.env }, List.mem_map.2 ⟨_, hm, rfl⟩, V1, U1, q1.env _, (q2.env1).env2 _, q3, rfl⟩
theorem CallR'.env0 {l : List (SV × SS)} {v : Value} (h : CallR' V U S σ l v σ') : CallR V U S σ (l.map fun p => (p.1, { p.2 with env := S.env })) v σ' := by
  obtain ⟨sv, S1, hm, V1, U1, q1, q2, q3⟩ := h
  exact ⟨sv, { S1 with env := S.env }, List.mem_map.2 ⟨_, hm, rfl⟩, V1, U1, q1.env _, q2.env2 _, q3, rfl⟩
theorem inl_ok {K : CallF} (hK : KOK F H K) {Y : Ys} {f : FuncId} {fn : EFunc} (hf : F f = some fn) (hH : ∀ c args σ, H c args σ = none) {args : List SV} {vals : List Value} (hl : args.length ≤ fn.ntmps) (hY : CX F H V U σ Y) (g : G V U S σ) (hv : F2 (SVR V U σ) args vals)
    {hs hs' : Hs} {l : List (SV × SS)} (h : (match runB (sxCode K Y) fn { S with env := argsEnv 0 args } hs with
              | some (l, h1) => some (l.map fun p => (p.1, { p.2 with env := S.env }), h1)
              | none => none) = some (l, hs')) : WC F H (.func f) vals (CallR V U S σ l) σ := by
  cases hr : runB (sxCode K Y) fn { S with env := argsEnv 0 args } hs with
  | none => rw [hr] at h; cases h
  | some q =>
    obtain ⟨l1, h1⟩ := q
    rw [hr] at h
    simp only [Option.some.injEq, Prod.mk.injEq] at h; obtain ⟨rfl, rfl⟩ := h
    refine WC_func hf (hH _ _ _) (by have := hv.len; omega) ((runB_ok (a := envOf vals) (fun hb => sxCode_ok hK hY (g.env _) (argsEnv_ok hv) hb) hr).mono fun e a' σ' hq => ?_)
    obtain ⟨he, vs, h1, h2⟩ := hq
    exact ⟨he, vs, h1, h2.env⟩
theorem yield_ok {K : CallF} (hK : KOK F H K) {Y : Ys} (hH : ∀ c args σ, H c args σ = none) {b : Nat} {args : List SV} {vals : List Value} (hY : CX F H V U σ Y) (g : G V U S σ) (hv : F2 (SVR V U σ) args vals) {hs hs' : Hs} {l : List (SV × SS)}
    (h : (match S.getH b, look b Y.ys with
      | some (.loop .ready _), some y => bif Nat.beq y.ps.length args.length then
          (match sxCode K Y y.as { S with env := (y.ps.zip args).reverse ++ y.env } hs with
           | some (l, h1) => thr (fun (p : Ex × SS) hs => match p.1, p.2.getH b with
              | .norm, some (.loop .ready none) => (match sxCode K Y y.body (p.2.setH b (.loop .busy none)) hs with
                | some (l2, h2) => bif l2.all (fun q => isLoopH (q.2.getH b)) then some (l2.map fun q => (one (.bool (.c (exEq q.1 .norm))), { q.2 with env := S.env, heap := (b, .loop (bif exEq q.1 .norm then .ready else .done) (pendEx q.1)) :: q.2.heap }), h2) else none
                | none => none)
              | _, _ => none) l h1
           | none => none) else none
      | _, _ => none) = some (l, hs')) {blk of : Nat} (hα : V.α b = some (some (blk, of))) : WC F H (.yield blk) vals (CallR V U S σ l) σ := by
  split at h
  · rename_i pend y hg hy
    cases hlen : Nat.beq y.ps.length args.length with
    | false => rw [hlen] at h; cases h
    | true =>
      rw [hlen] at h
      simp only [cond_true] at h
      have hlen := Nat.eq_of_beq_eq_true hlen
      cases ha : sxCode K Y y.as { S with env := (y.ps.zip args).reverse ++ y.env } hs with
      | none => rw [ha] at h; cases h
      | some q =>
        obtain ⟨l1, h1⟩ := q
        rw [ha] at h
        simp only at h
        obtain ⟨tm, hlp, hge⟩ := hY.ys b y hy
        obtain ⟨blk', of', tm', ps', as', bd', e1, e2, e3⟩ := g.heap b _ hg
        rw [hα] at e1; cases e1
        rw [hlp] at e2; cases e2
        refine WC_yield (hH _ _ _) e3 (by rw [hlen]; exact hv.len) ?_
        refine (sxCode_ok hK hY (g.env _) (zipEnv_ok hv hge) ha).mono fun e a1 σ1 hq => ?_
        obtain ⟨S1, hm, V1, U1, q1, q2, q3⟩ := hq
        obtain ⟨x1, zs, x2, hz, hzy⟩ := thr_mem h (e, S1) hm
        simp only at hz
        split at hz
        · rename_i hg1
          have hα1 := q3.le.α _ _ hα
          have hlp1 := q3.le.lp _ _ hlp
          obtain ⟨blk', of', tm', ps', as', bd', e1, e2, e4⟩ := q1.heap b _ hg1
          rw [hα1] at e1; cases e1
          rw [hlp1] at e2; cases e2
          refine ⟨rfl, _, _, _, _, _, e4, ?_⟩
          have hblk1 : blk < σ1.size := Own.lt q1 ⟨b, _, of, hg1, rfl, hα1⟩
          obtain ⟨g2, k2⟩ := G.set (σ' := σ1.set blk (.loop tm y.ps y.as y.body .busy none)) (he := .loop .busy none) q1 hg1 rfl hα1
            (fun l hl => by rw [Store.get_set _ _ _ _ hblk1, if_neg hl]) (Store.size_set _ _ _) ⟨blk, of, tm, y.ps, y.as, y.body, hα1, hlp1, by rw [Store.get_set _ _ _ _ hblk1, if_pos rfl]⟩
          have k02 := q3.trans k2
          have s02 : Sta V U σ V1 U1 (σ1.set blk (.loop tm y.ps y.as y.body .busy none)) := k02.sta (g.env _)
          cases hb : sxCode K Y y.body (S1.setH b (.loop .busy none)) x1 with
          | none => rw [hb] at hz; cases hz
          | some q =>
            obtain ⟨l2, h2⟩ := q
            rw [hb] at hz
            simp only at hz
            cases hall : l2.all (fun q => isLoopH (q.2.getH b)) with
            | false => rw [hall] at hz; cases hz
            | true =>
              rw [hall] at hz
              simp only [cond_true, Option.some.injEq, Prod.mk.injEq] at hz; obtain ⟨rfl, rfl⟩ := hz
              refine (sxCode_ok hK (hY.sta s02) g2 (GE_sta (k2.sta q1) q2) hb).mono fun e2 a2 σ2 hq => ?_
              obtain ⟨S2, hm2, V2, U2, r1, r2, r3⟩ := hq
              have hil := List.all_eq_true.1 hall _ hm2
              have hα2 := r3.le.α _ _ hα1
              have hlp2 := r3.le.lp _ _ hlp1
              cases hg2 : S2.getH b with
              | none => rw [hg2] at hil; cases hil
              | some he2 =>
                rw [hg2] at hil
                cases he2 with
                | loop st2 pd2 =>
                  obtain ⟨blk', of', tm', ps', as', bd', e1, e2', e5⟩ := r1.heap b _ hg2
                  rw [hα2] at e1; cases e1
                  rw [hlp2] at e2'; cases e2'
                  refine ⟨_, _, _, _, _, _, e5, ?_⟩
                  have hblk2 : blk < σ2.size := Own.lt r1 ⟨b, _, of, hg2, rfl, hα2⟩
                  have hcd : (bif exEq e2 .norm then LoopState.ready else .done) = (if e2 = .norm then .ready else .done) := by cases e2 <;> simp [exEq]
                  obtain ⟨g3, k3⟩ := G.set (σ' := σ2.set blk (.loop tm y.ps y.as y.body (if e2 = .norm then .ready else .done) (pendEx e2))) (he := .loop (bif exEq e2 .norm then .ready else .done) (pendEx e2)) r1 hg2 rfl hα2
                    (fun l hl => by rw [Store.get_set _ _ _ _ hblk2, if_neg hl]) (Store.size_set _ _ _) ⟨blk, of, tm, y.ps, y.as, y.body, hα2, hlp2, by rw [Store.get_set _ _ _ _ hblk2, if_pos rfl, hcd]⟩
                  refine ⟨one (.bool (.c (exEq e2 .norm))), _, hzy _ (List.mem_map.2 ⟨(e2, S2), hm2, rfl⟩), V2, U2, g3.env _, ((k02.trans (r3.trans k3)).env1).env2 _, ⟨_, rfl, exEq e2 .norm, rfl, ?_⟩, rfl⟩
                  cases e2 <;> simp [exEq]
                | _ => cases hil
        · cases hz
  · cases h
end Go.Ev.Sx
end SxY
section SxZ
namespace Go.Ev.Sx
variable {F : FuncId → Option EFunc} {H : Caller}
variable {V V' : Val} {U U' : Nat → Prop} {S S' : SS} {σ σ' : Store} {a : Env}
def mixF {α : Type} (f g : Nat → Option α) (n0 n k d : Nat) (x : Nat) : Option α :=
  if x < n then (if x < n0 then f x else g x) else if x - n < d then f (k + (x - n)) else none
section
variable {α : Type} {f g : Nat → Option α} {n0 n k d : Nat}
theorem mix_le (h1 : ∀ x a, x < n0 → g x = some a → f x = some a) (h2 : ∀ x, n ≤ x → g x = none) : Le g (mixF f g n0 n k d) := by
  intro x a e
  have : x < n := by
    by_cases hx : x < n
    · exact hx
    · rw [h2 x (by omega)] at e; cases e
  unfold mixF
  rw [if_pos this]
  split
  · rename_i hx; exact h1 x a hx e
  · exact e
theorem mix_new {i : Nat} (h : i < d) : mixF f g n0 n k d (n + i) = f (k + i) := by
  unfold mixF
  rw [if_neg (by omega), show n + i - n = i by omega, if_pos h]
theorem mix_none {x : Nat} (h : n + d ≤ x) : mixF f g n0 n k d x = none := by
  unfold mixF
  rw [if_neg (by omega), if_neg (by omega)]
theorem mix_old {x : Nat} (h : x < n0) (hn : n0 ≤ n) : mixF f g n0 n k d x = f x := by
  unfold mixF
  rw [if_pos (by omega), if_pos h]
end
theorem upTo_succ (a n : Nat) : upTo a (n + 1) = upTo a n ++ [a + n] := rfl
theorem look_new {α : Type} {f : Nat → α} {a : Nat} {r : List (Nat × α)} (x : Nat) : ∀ d, look x ((upTo 0 d).map (fun i => (a + i, f i)) ++ r) = if a ≤ x ∧ x < a + d then some (f (x - a)) else look x r := by
  intro d
  induction d generalizing r with
  | zero => rw [if_neg (by omega)]; rfl
  | succ d ih =>
    rw [upTo_succ, List.map_append, List.append_assoc, ih]
    by_cases h1 : a ≤ x ∧ x < a + d
    · rw [if_pos h1, if_pos (by omega)]
    · rw [if_neg h1]
      simp only [List.map_cons, List.map_nil, List.singleton_append, Nat.zero_add, look_cons]
      by_cases h2 : x = a + d
      · subst h2; rw [if_pos rfl, if_pos (by omega)]; congr 1; congr 1; omega
      · rw [if_neg h2, if_neg (by omega)]
structure Bk (V2 V' : Val) (θ : Th) (h : LH) (k0 : Nat) : Prop where
  ρ : Le (Vh V' θ).ρ V2.ρ
  α : ∀ b b', sB θ b = some b' → V'.α b' = V2.α b
  κ : ∀ x y v, sK θ h k0 x = some y → V2.κ x = some v → V'.κ y = some v
section
variable {V2 : Val} {θ : Th} {h : LH} {k0 : Nat}
theorem Bk.sub (bk : Bk V2 V' θ h k0) (g : G V' U S σ) {l m : L} (e : l.sub' S θ = some m) {n : Int} (hn : l.ev V2.ρ = some n) : m.ev V'.ρ = some n := by
  obtain ⟨k, h1, h2⟩ := sub_ok g e
  have := L.ev_mono bk.ρ h2
  rw [hn] at this; cases this; exact h1
theorem Bk.ty (bk : Bk V2 V' θ h k0) (g : G V' U S σ) : ∀ {t u : Ty}, subTy S θ t = some u → ∀ {l : List Value}, VT V2 U σ t l → VT V' U σ u l := by
  intro t
  induction t with
  | int k lo hi =>
    intro u h l hv
    simp only [subTy] at h
    split at h
    · rename_i x y h1 h2
      simp only [Option.some.injEq] at h; subst h
      obtain ⟨n, tl, p, q, e, e1, e2, e3⟩ := hv
      exact ⟨n, tl, p, q, e, bk.sub g h1 e1, bk.sub g h2 e2, e3⟩
    · cases h
  | bool => intro u h l hv; simp only [subTy, Option.some.injEq] at h; subst h; exact hv
  | str => intro u h l hv; simp only [subTy, Option.some.injEq] at h; subst h; exact hv
  | nil => intro u h l hv; simp only [subTy, Option.some.injEq] at h; subst h; trivial
  | cons t1 t2 ih1 ih2 =>
    intro u h l hv
    simp only [subTy] at h
    split at h
    · rename_i x y h1 h2
      simp only [Option.some.injEq] at h; subst h
      obtain ⟨r1, x', tl, e, r2⟩ := hv
      exact ⟨ih1 h1 r1, x', tl, e, ih2 h2 r2⟩
    · cases h
  | sl e esz p lo hi ih =>
    intro u h l hv
    simp only [subTy] at h
    split at h
    · rename_i q x y h0 h1 h2
      simp only [Option.some.injEq] at h; subst h
      obtain ⟨q', n, cap, tl, p', r', e1, e2, e3, e4, e5, e6, e7⟩ := hv
      refine ⟨q', n, cap, tl, p', r', e1, bk.sub g h1 e2, bk.sub g h2 e3, e4, e5, e6, ?_⟩
      rcases e7 with e7 | ⟨blk, o, st, c, k1, k2, k3, k4, k5⟩
      · exact .inl e7
      · exact .inr ⟨blk, o, st, c, k1, k2, k3, k4, fun i hi => ih h0 (k5 i hi)⟩
    · cases h
theorem Bk.at (bk : Bk V2 V' θ h k0) {b b' e o : Nat} (hb : sB θ b = some b') {p : Option Addr} (ha : At V2 b e o p) : At V' b' e o p := by
  obtain ⟨blk, of, h1, h2⟩ := ha
  exact ⟨blk, of, by rw [bk.α _ _ hb]; exact h1, h2⟩
theorem Bk.sat (bk : Bk V2 V' θ h k0) {b b' e o : Nat} (hb : sB θ b = some b') {p : Option Addr} (ha : Sat V2 b e o p) : Sat V' b' e o p := by
  rcases ha with ha | ⟨o', h1, h2⟩
  · exact .inl ha
  · exact .inr ⟨o', h1, bk.at hb h2⟩
theorem Bk.slr (bk : Bk V2 V' θ h k0) {b b' e o : Nat} (hb : sB θ b = some b') {cp : Cap} {p : Option Addr} {n cap : Nat} (hs : SlR V2 b e o cp p n cap) : SlR V' b' e o cp p n cap := by
  cases cp with
  | inf =>
    rcases hs with ⟨h1, h2⟩ | ⟨h1, h2⟩
    · exact .inl ⟨by rw [bk.α _ _ hb]; exact h1, h2⟩
    · exact .inr ⟨bk.at hb h1, h2⟩
  | full => exact ⟨hs.1, hs.2.1, fun e => bk.at hb (hs.2.2.1 e), bk.sat hb hs.2.2.2⟩
  | any => exact ⟨hs.1, hs.2.1, fun e => bk.at hb (hs.2.2.1 e), bk.sat hb hs.2.2.2⟩
  | unk => exact ⟨hs.1, fun e => bk.at hb (hs.2.1 e), bk.sat hb hs.2.2⟩
theorem Bk.c (bk : Bk V2 V' θ h k0) (g : G V' U S σ) {c d : C} (e : sC θ h k0 S c = some d) {v : Value} (hv : CR V2 U σ c v) (hold : ∀ x, x < θ.nk → ∀ v, V2.κ x = some v → V'.κ x = some v) (holdb : ∀ b, b < θ.nb → V'.α b = V2.α b) : CR V' U σ d v := by
  cases c with
  | int k l =>
    simp only [sC] at e
    cases h1 : l.sub' S θ with
    | none => rw [h1] at e; cases e
    | some m =>
      rw [h1] at e; simp only [Option.map_some, Option.some.injEq] at e; subst e
      obtain ⟨n, q1, q2⟩ := hv
      exact ⟨n, bk.sub g h1 q1, q2⟩
  | bool b =>
    cases b with
    | c b => simp only [sC, Option.some.injEq] at e; subst e; exact hv
    | k x n =>
      simp only [sC] at e
      cases h1 : sK θ h k0 x with
      | none => rw [h1] at e; cases e
      | some y =>
        rw [h1] at e; simp only [Option.map_some, Option.some.injEq] at e; subst e
        obtain ⟨z, ⟨w, q1, q3⟩, q2⟩ := hv
        exact ⟨z, ⟨w, bk.κ _ _ _ h1 q1, q3⟩, q2⟩
    | _ => cases e
  | str x =>
    simp only [sC] at e
    cases h1 : sK θ h k0 x with
    | none => rw [h1] at e; cases e
    | some y =>
      rw [h1] at e; simp only [Option.map_some, Option.some.injEq] at e; subst e
      exact ⟨bk.κ _ _ _ h1 hv.1, hv.2⟩
  | strc s => simp only [sC, Option.some.injEq] at e; subst e; exact hv
  | ptr b o =>
    simp only [sC] at e
    split at e
    · rename_i b' o' h1 h2
      simp only [Option.some.injEq] at e; subst e
      obtain ⟨n, blk, of, q1, q2, q3⟩ := hv
      exact ⟨n, blk, of, bk.sub g h2 q1, by rw [bk.α _ _ h1]; exact q2, q3⟩
    · cases e
  | sl x b o n ee cp =>
    simp only [sC] at e
    split at e
    · rename_i y b' o' n' h1 h2 h3 h4
      simp only [Option.some.injEq] at e; subst e
      obtain ⟨p, n, cap, o, q1, q2, q3, q4, q5⟩ := hv
      exact ⟨p, n, cap, o, bk.κ _ _ _ h1 q1, q2, bk.sub g h4 q3, bk.sub g h3 q4, bk.slr h2 q5⟩
    · cases e
  | nilsl => simp only [sC, Option.some.injEq] at e; subst e; exact hv
  | nilptr => simp only [sC, Option.some.injEq] at e; subst e; exact hv
  | nilmap => simp only [sC, Option.some.injEq] at e; subst e; exact hv
  | nilfn => simp only [sC, Option.some.injEq] at e; subst e; exact hv
  | nilif => simp only [sC, Option.some.injEq] at e; subst e; exact hv
  | map b =>
    simp only [sC] at e
    cases h1 : sB θ b with
    | none => rw [h1] at e; cases e
    | some y =>
      rw [h1] at e; simp only [Option.map_some, Option.some.injEq] at e; subst e
      obtain ⟨blk, of, q1, q2⟩ := hv
      exact ⟨blk, of, by rw [bk.α _ _ h1]; exact q1, q2⟩
  | fn x =>
    simp only [sC] at e
    cases h1 : Nat.ble θ.nk x with
    | true => rw [h1] at e; cases e
    | false =>
      rw [h1] at e; simp only [cond_false, Option.some.injEq] at e; subst e
      exact ⟨hold x (by have : ¬ θ.nk ≤ x := fun e => by rw [ble_iff.2 e] at h1; cases h1
                        omega) _ hv.1, hv.2⟩
  | gfn f => simp only [sC, Option.some.injEq] at e; subst e; exact hv
  | yld b =>
    simp only [sC] at e
    cases h1 : Nat.ble θ.nb b with
    | true => rw [h1] at e; cases e
    | false =>
      rw [h1] at e; simp only [cond_false, Option.some.injEq] at e; subst e
      obtain ⟨blk, of, q1, q2⟩ := hv
      exact ⟨blk, of, by rw [holdb b (by have : ¬ θ.nb ≤ b := fun e => by rw [ble_iff.2 e] at h1; cases h1
                                         omega)]; exact q1, q2⟩
  | ty t =>
    simp only [sC] at e
    cases h1 : subTy S θ t with
    | none => rw [h1] at e; cases e
    | some u =>
      rw [h1] at e; simp only [Option.map_some, Option.some.injEq] at e; subst e
      exact ⟨bk.ty g h1 hv.1, hv.2⟩
theorem Bk.cs (bk : Bk V2 V' θ h k0) (hold : ∀ x, x < θ.nk → ∀ v, V2.κ x = some v → V'.κ x = some v) (holdb : ∀ b, b < θ.nb → V'.α b = V2.α b) (g : G V' U S σ) : ∀ {cs ds : List C}, sCs θ h k0 S cs = some ds → ∀ {vs : List Value}, F2 (CR V2 U σ) cs vs → F2 (CR V' U σ) ds vs
  | [], ds, e, vs, hv => by
    simp only [sCs, Option.some.injEq] at e; subst e
    cases vs with
    | nil => trivial
    | cons _ _ => cases hv
  | c :: cs, ds, e, vs, hv => by
    simp only [sCs] at e
    split at e
    · rename_i d ds' h1 h2
      simp only [Option.some.injEq] at e; subst e
      cases vs with
      | nil => cases hv
      | cons v vs => exact ⟨bk.c g h1 hv.1 hold holdb, Bk.cs bk hold holdb g h2 hv.2⟩
    · cases e
theorem Bk.w (bk : Bk V2 V' θ h k0) (hold : ∀ x, x < θ.nk → ∀ v, V2.κ x = some v → V'.κ x = some v) (holdb : ∀ b, b < θ.nb → V'.α b = V2.α b) (g : G V' U S σ) {gg : Bool} {cs ds : List C} (e : sCs θ h k0 S cs = some ds) {v : Value} (hv : WR V2 U σ (gg, cs) v) : WR V' U σ (gg, ds) v := by
  cases gg with
  | true =>
    obtain ⟨vs, h1, h2⟩ := hv
    exact ⟨vs, h1, bk.cs hold holdb g e h2⟩
  | false =>
    obtain ⟨c, h1, h2⟩ := hv
    simp only at h1; subst h1
    simp only [sCs] at e
    cases hc : sC θ h k0 S c with
    | none => rw [hc] at e; cases e
    | some d => rw [hc] at e; simp only [Option.some.injEq] at e; subst e; exact ⟨d, rfl, bk.c g hc h2 hold holdb⟩
theorem Bk.ws (bk : Bk V2 V' θ h k0) (hold : ∀ x, x < θ.nk → ∀ v, V2.κ x = some v → V'.κ x = some v) (holdb : ∀ b, b < θ.nb → V'.α b = V2.α b) (g : G V' U S σ) : ∀ {cs ds : List (Bool × List C)}, sWs θ h k0 S cs = some ds → ∀ {vs : List Value}, F2 (WR V2 U σ) cs vs → F2 (WR V' U σ) ds vs
  | [], ds, e, vs, hv => by
    simp only [sWs, Option.some.injEq] at e; subst e
    cases vs with
    | nil => trivial
    | cons _ _ => cases hv
  | (gg, c) :: cs, ds, e, vs, hv => by
    simp only [sWs] at e
    split at e
    · rename_i d ds' h1 h2
      simp only [Option.some.injEq] at e; subst e
      cases vs with
      | nil => cases hv
      | cons v vs => exact ⟨bk.w hold holdb g h1 hv.1, Bk.ws bk hold holdb g h2 hv.2⟩
    · cases e
theorem Bk.sv (bk : Bk V2 V' θ h k0) (hold : ∀ x, x < θ.nk → ∀ v, V2.κ x = some v → V'.κ x = some v) (holdb : ∀ b, b < θ.nb → V'.α b = V2.α b) (g : G V' U S σ) {x y : SV} (e : sSV θ h k0 S x = some y) {v : Value} (hv : SVR V2 U σ x v) : SVR V' U σ y v := by
  cases x with
  | w gg cs =>
    simp only [sSV] at e
    cases h1 : sCs θ h k0 S cs with
    | none => rw [h1] at e; cases e
    | some ds => rw [h1] at e; simp only [Option.map_some, Option.some.injEq] at e; subst e; exact bk.w hold holdb g h1 hv
  | tup ws =>
    simp only [sSV] at e
    cases h1 : sWs θ h k0 S ws with
    | none => rw [h1] at e; cases e
    | some ds =>
      rw [h1] at e; simp only [Option.map_some, Option.some.injEq] at e; subst e
      obtain ⟨vs, q1, q2⟩ := hv
      exact ⟨vs, q1, bk.ws hold holdb g h1 q2⟩
  | any => simp only [sSV, Option.some.injEq] at e; subst e; trivial
theorem Bk.he (bk : Bk V2 V' θ h k0) (hold : ∀ x, x < θ.nk → ∀ v, V2.κ x = some v → V'.κ x = some v) (holdb : ∀ b, b < θ.nb → V'.α b = V2.α b) (g : G V' U S σ) {b b' : Nat} (hb : sB θ b = some b') {x y : HE} (e : sHE θ h k0 S x = some y) (hr : HR V2 U σ b x) : HR V' U σ b' y := by
  have hα := bk.α _ _ hb
  cases x with
  | cells ee cs =>
    simp only [sHE] at e
    cases h1 : sCs θ h k0 S cs with
    | none => rw [h1] at e; cases e
    | some ds =>
      rw [h1] at e; simp only [Option.map_some, Option.some.injEq] at e; subst e
      obtain ⟨blk, vs, q1, q2, q3⟩ := hr
      exact ⟨blk, vs, by rw [hα]; exact q1, q2, bk.cs hold holdb g h1 q3⟩
  | arr gr ee esz pat n =>
    simp only [sHE] at e
    split at e
    · rename_i q m h1 h2
      simp only [Option.some.injEq] at e; subst e
      obtain ⟨N, q1, q2, q3⟩ := hr
      refine ⟨N, bk.sub g h2 q1, q2, ?_⟩
      rcases q3 with ⟨r1, r2, r3⟩ | ⟨blk, vs, r1, r2, r3, r4⟩
      · exact .inl ⟨r1, by rw [hα]; exact r2, r3⟩
      · exact .inr ⟨blk, vs, by rw [hα]; exact r1, r2, r3, fun i hi => bk.ty g h1 (r4 i hi)⟩
    · cases e
  | map ks gg t =>
    simp only [sHE] at e
    cases h1 : subTy S θ t with
    | none => rw [h1] at e; cases e
    | some u =>
      rw [h1] at e; simp only [Option.map_some, Option.some.injEq] at e; subst e
      obtain ⟨blk, of, es, clk, q1, q2, q3⟩ := hr
      refine ⟨blk, of, es, clk, by rw [hα]; exact q1, q2, fun en hen => ⟨(q3 en hen).1, ?_⟩⟩
      have hw := width_sub h1
      have he := (q3 en hen).2
      unfold EntR at he ⊢
      split
      · rename_i hg; rw [if_pos hg] at he
        obtain ⟨vs, r1, r2, r3⟩ := he
        exact ⟨vs, r1, bk.ty g h1 r2, by rw [hw]; exact r3⟩
      · rename_i hg; rw [if_neg hg] at he
        exact ⟨bk.ty g h1 he.1, by rw [hw]; exact he.2⟩
  | map0 =>
    simp only [sHE, Option.some.injEq] at e; subst e
    obtain ⟨blk, of, clk, q1, q2⟩ := hr
    exact ⟨blk, of, clk, by rw [hα]; exact q1, q2⟩
  | loop _ _ => cases e
  | gone => simp only [sHE, Option.some.injEq] at e; subst e; trivial
end
theorem sHeap_look {θ : Th} {h : LH} {k0 : Nat} : ∀ {l l' : List (Nat × HE)}, sHeap θ h k0 S l = some l' → ∀ {b' : Nat} {he' : HE}, look b' l' = some he' → ∃ b he, look b l = some he ∧ sB θ b = some b' ∧ sHE θ h k0 S he = some he' := by
  intro l
  induction l with
  | nil => intro l' e b' he' hl; simp only [sHeap, Option.some.injEq] at e; subst e; cases hl
  | cons p l ih =>
    intro l' e b' he' hl
    obtain ⟨b, he⟩ := p
    simp only [sHeap] at e
    split at e
    · rename_i c he1 r' h1 h2 h3
      simp only [Option.some.injEq] at e; subst e
      rw [look_cons] at hl
      by_cases hb : b' = c
      · rw [if_pos hb] at hl; cases hl; subst hb
        exact ⟨b, he, by rw [look_cons, if_pos rfl], h1, h2⟩
      · rw [if_neg hb] at hl
        obtain ⟨b2, he2, q1, q2, q3⟩ := ih h3 hl
        refine ⟨b2, he2, ?_, q2, q3⟩
        rw [look_cons, if_neg (fun e => ?_)]
        · exact q1
        · subst e; rw [h1] at q2; cases q2; exact hb rfl
    · cases e
theorem sVws_look {θ : Th} : ∀ {l l' : List (Nat × VW)}, sVws S θ l = some l' → ∀ {b' : Nat} {w' : VW}, look b' l' = some w' → ∃ b w p n, look b l = some w ∧ sB θ b = some b' ∧ subTy S θ w.pat = some p ∧ w.n.sub' S θ = some n ∧ w.pre = none ∧ w.memo = [] ∧ w' = ⟨w.e, w.esz, p, n, none, []⟩ := by
  intro l
  induction l with
  | nil => intro l' e b' he' hl; simp only [sVws, Option.some.injEq] at e; subst e; cases hl
  | cons p l ih =>
    intro l' e b' w' hl
    obtain ⟨b, w⟩ := p
    simp only [sVws] at e
    split at e
    · rename_i c p n r' h1 h2 h3 h4
      cases hc : (w.pre.isNone && w.memo.isEmpty) with
      | false => rw [hc] at e; cases e
      | true =>
        rw [hc] at e
        simp only [cond_true, Option.some.injEq] at e; subst e
        rw [Bool.and_eq_true] at hc
        rw [look_cons] at hl
        by_cases hb : b' = c
        · rw [if_pos hb] at hl; cases hl; subst hb
          exact ⟨b, w, p, n, by rw [look_cons, if_pos rfl], h1, h2, h3, by simpa using hc.1, by simpa using hc.2, rfl⟩
        · rw [if_neg hb] at hl
          obtain ⟨b2, w2, p2, n2, q1, q2, q3⟩ := ih h4 hl
          refine ⟨b2, w2, p2, n2, ?_, q2, q3⟩
          rw [look_cons, if_neg (fun e => ?_)]
          · exact q1
          · subst e; rw [h1] at q2; cases q2; exact hb rfl
    · cases e
theorem sIv_mem {h : LH} : ∀ {l l' : Iv}, sIv h S l = some l' → ∀ {x' : Nat} {lo hi : Int}, (x', lo, hi) ∈ l' → ∃ x, h.nx ≤ x ∧ x' = S.nx + (x - h.nx) ∧ (x, lo, hi) ∈ l := by
  intro l
  induction l with
  | nil => intro l' e x' lo hi hm; simp only [sIv, Option.some.injEq] at e; subst e; cases hm
  | cons p l ih =>
    intro l' e x' lo hi hm
    obtain ⟨x, lo1, hi1⟩ := p
    simp only [sIv] at e
    split at e
    · rename_i r' h1
      cases hb : Nat.ble h.nx x with
      | false => rw [hb] at e; cases e
      | true =>
        rw [hb] at e
        simp only [cond_true, Option.some.injEq] at e; subst e
        rcases List.mem_cons.1 hm with e | hm
        · cases e; exact ⟨x, ble_iff.1 hb, rfl, List.mem_cons_self⟩
        · obtain ⟨y, q1, q2, q3⟩ := ih h1 hm
          exact ⟨y, q1, q2, List.mem_cons_of_mem _ q3⟩
    · cases e
theorem sLs_mem {θ : Th} : ∀ {l l' : List L}, sLs S θ l = some l' → ∀ {m : L}, m ∈ l' → ∃ f, f ∈ l ∧ f.sub' S θ = some m := by
  intro l
  induction l with
  | nil => intro l' e m hm; simp only [sLs, Option.some.injEq] at e; subst e; cases hm
  | cons p l ih =>
    intro l' e m hm
    simp only [sLs] at e
    split at e
    · rename_i x s h1 h2
      simp only [Option.some.injEq] at e; subst e
      rcases List.mem_cons.1 hm with e | hm
      · subst e; exact ⟨p, List.mem_cons_self, h1⟩
      · obtain ⟨f, q1, q2⟩ := ih h2 hm
        exact ⟨f, List.mem_cons_of_mem _ q1, q2⟩
    · cases e
theorem goneH_mem {θ : Th} {b' : Nat} : ∀ {l : List (Nat × HE)} {b : Nat} {he : HE}, (b, he) ∈ l → he ≠ .gone → θ.b b = some (some b') → ∃ r, look b' (goneH θ l) = some r := by
  intro l
  induction l with
  | nil => intro b he hm; cases hm
  | cons p l ih =>
    intro b he hm hne hb
    obtain ⟨c, hc⟩ := p
    rcases List.mem_cons.1 hm with e | hm
    · cases e
      unfold goneH
      split
      · rename_i e; cases e
      · rename_i e; cases e; exact absurd rfl hne
      · rename_i e; cases e
        rw [hb]; exact ⟨.gone, by simp only [look_cons, if_true]⟩
    · obtain ⟨r, hr⟩ := ih hm hne hb
      unfold goneH
      split
      · rename_i e; cases e
      · rename_i e; cases e; exact ⟨r, hr⟩
      · rename_i e; cases e
        split
        · rename_i c' _
          rw [look_cons]
          by_cases hx : b' = c'
          · rw [if_pos hx]; exact ⟨_, rfl⟩
          · rw [if_neg hx]; exact ⟨r, hr⟩
        · exact ⟨r, hr⟩
theorem goneH_gone {θ : Th} {b' : Nat} {he : HE} : ∀ {l : List (Nat × HE)}, look b' (goneH θ l) = some he → he = .gone := by
  intro l
  induction l with
  | nil => intro h; cases h
  | cons p l ih =>
    intro h
    unfold goneH at h
    split at h
    · cases h
    · rename_i e; cases e; exact ih h
    · rename_i e; cases e
      split at h
      · rw [look_cons] at h
        split at h
        · cases h; rfl
        · exact ih h
      · exact ih h
end Go.Ev.Sx
end SxZ
section SxZ2
namespace Go.Ev.Sx
variable {F : FuncId → Option EFunc} {H : Caller}
variable {V V' : Val} {U U' : Nat → Prop} {S S' : SS} {σ σ' : Store} {a : Env}
theorem fits_nums {S0 : SS} {h : LH} {θ : Th} (hf : fits S0 h S θ = true) : keysLt h.nx θ.xs = true ∧ keysLt h.nb θ.bs = true ∧ keysLt h.nk θ.ks = true ∧ θ.nx = S0.nx ∧ θ.nb = S0.nb ∧ θ.nk = S0.nk ∧ S0.nx ≤ S.nx ∧ S0.nb ≤ S.nb ∧ S0.nk ≤ S.nk ∧ S0.nx ≤ h.nx ∧ S0.nb ≤ h.nb ∧ S0.nk ≤ h.nk := by
  unfold fits at hf
  simp only [Bool.and_eq_true] at hf
  obtain ⟨⟨⟨⟨⟨⟨⟨⟨⟨⟨⟨⟨⟨⟨⟨⟨⟨k1, k2⟩, k3⟩, t1⟩, t2⟩, t3⟩, m1⟩, m2⟩, m3⟩, m4⟩, m5⟩, m6⟩, n1⟩, n2⟩, n3⟩, n4⟩, n5⟩, n6⟩ := hf
  exact ⟨k1, k2, k3, beqN t1, beqN t2, beqN t3, bleN n1, bleN n2, bleN n3, bleN n4, bleN n5, bleN n6⟩
theorem fits_img {S0 : SS} {h : LH} {θ : Th} (hf : fits S0 h S θ = true) {b : Nat} {hh : HE} {l p : Nat} (hl : look b (head S0 h).heap = some hh) (ho : hh.own = true) (ha : (Vh V θ).α b = some (some (l, p))) :
    ∃ b' h', θ.b b = some (some b') ∧ look b' S.heap = some h' ∧ h'.own = true ∧ V.α b' = some (some (l, p)) := by
  unfold fits at hf
  simp only [Bool.and_eq_true] at hf
  obtain ⟨⟨⟨⟨⟨⟨⟨⟨⟨⟨⟨⟨⟨⟨⟨⟨⟨k1, k2⟩, k3⟩, t1⟩, t2⟩, t3⟩, m1⟩, m2⟩, m3⟩, m4⟩, m5⟩, m6⟩, n1⟩, n2⟩, n3⟩, n4⟩, n5⟩, n6⟩ := hf
  have hne : hh ≠ .gone := fun e => by subst e; cases ho
  obtain ⟨hloop, hc⟩ := mHeap_mem m2 (look_mem hl) hne
  rcases hc with ⟨b', h', q1, q2, q3⟩ | ⟨q1, _⟩
  · refine ⟨b', h', ?_, q2, ?_, ?_⟩
    · unfold isBk at q1
      split at q1
      · rename_i x e; rw [e, beqN q1]
      · cases q1
    · cases h' with
      | gone => cases hh with
        | gone => cases ho
        | loop st p => cases p <;> cases q3
        | _ => cases q3
      | _ => rfl
    · rw [← isBk_ok (V := V) q1]; exact ha
  · rw [isAbs_ok q1] at ha; cases ha
def Val.tot (V : Val) (nb nk : Nat) : Val :=
  { V with α := fun b => if b < nb then some ((V.α b).getD none) else V.α b, κ := fun x => if x < nk then some ((V.κ x).getD .nilFunc) else V.κ x }
theorem tot_le {nb nk : Nat} : V.le (V.tot nb nk) := by
  refine ⟨.refl _, fun x p h => ?_, fun x p h => ?_, .refl _⟩
  · show (if x < nb then _ else _) = _
    rw [h]; simp
  · show (if x < nk then _ else _) = _
    rw [h]; simp
theorem tot_α {nb nk b : Nat} {p : Nat × Nat} (h : (V.tot nb nk).α b = some (some p)) : V.α b = some (some p) := by
  replace h : (if b < nb then some ((V.α b).getD none) else V.α b) = some (some p) := h
  split at h
  · cases hv : V.α b with
    | none => rw [hv] at h; simp at h
    | some q => rw [hv] at h; simpa using h
  · exact h
theorem G.tot (g : G V U S σ) : G (V.tot S.nb S.nk) U S σ := by
  have s : Sta V U σ (V.tot S.nb S.nk) U σ := .of_le tot_le
  have own : ∀ l, Own (V.tot S.nb S.nk) S l → Own V S l := fun l ⟨b, he, p, h1, h2, h3⟩ => ⟨b, he, p, h1, h2, tot_α h3⟩
  refine ⟨g.iv, g.facts, fun b he h => HR_sta s (fun _ _ _ _ => rfl) (g.heap b he h), fun b b' h1 h2 l p p' e1 e2 o1 o2 a1 a2 => g.inj b b' h1 h2 l p p' e1 e2 o1 o2 (tot_α a1) (tot_α a2), fun l hl => g.nu l (own l hl), fun b w hw => VwR_sta s (g.vws b w hw), fun x k hk => KR_sta s (g.clos x k hk), g.fx, fun x hx => ⟨?_, (g.fb x hx).2⟩, fun x hx => ?_, g.uin⟩
  · show (if x < S.nb then _ else _) = _
    rw [if_neg (by omega)]; exact (g.fb x hx).1
  · show (if x < S.nk then _ else _) = _
    rw [if_neg (by omega)]; exact g.fk x hx
theorem post_ok {rc : RC} {Sa S1 : SS} {θ0 : Th} {v' : SV} (h : post rc Sa θ0 = some (v', S1)) (hf : fits rc.S rc.pre Sa θ0 = true) {Vt : Val} {Ua : Nat → Prop} {σa : Store} (g : G Vt Ua Sa σa)
    (tb : ∀ b, b < Sa.nb → ∃ p, Vt.α b = some p) (tk : ∀ x, x < Sa.nk → ∃ v, Vt.κ x = some v) {V2 : Val} {U2 : Nat → Prop} {v : Value} (g2 : G V2 U2 (head (head rc.S rc.pre) rc.post) σ')
    (he2 : GE V2 U2 σ' (head (head rc.S rc.pre) rc.post).env (envOf [v])) (k2 : Kp (Vh Vt θ0) Ua (head rc.S rc.pre) σa V2 U2 (head (head rc.S rc.pre) rc.post) σ') : CallR' Vt Ua Sa σa [(v', S1)] v σ' := by
  obtain ⟨kx, kb, kk, tx, tB, tK, ax, ab, ak, bx, bb, bK⟩ := fits_nums hf
  unfold post at h
  simp only at h
  generalize hθ : thetaPost θ0 rc.pre rc.post Sa = θ at h
  cases hck : (okTh Sa θ0 && Nat.ble rc.pre.nx rc.post.nx && Nat.ble rc.pre.nb rc.post.nb && Nat.ble rc.pre.nk rc.post.nk) with
  | false => rw [hck] at h; cases h
  | true =>
    rw [hck] at h
    simp only [cond_true] at h
    simp only [Bool.and_eq_true] at hck
    obtain ⟨⟨⟨c1, c2⟩, c3⟩, c4⟩ := hck
    have c2 := bleN c2; have c3 := bleN c3; have c4 := bleN c4
    unfold okTh at c1
    rw [Bool.and_eq_true, List.all_eq_true, List.all_eq_true] at c1
    obtain ⟨ox, ob⟩ := c1
    cases hiv : sIv rc.pre Sa rc.post.iv with
    | none => rw [hiv] at h; cases h
    | some iv =>
      rw [hiv] at h
      simp only at h
      generalize hV' : (⟨mixF V2.ρ Vt.ρ θ0.nx Sa.nx rc.pre.nx (rc.post.nx - rc.pre.nx), mixF V2.α Vt.α θ0.nb Sa.nb rc.pre.nb (rc.post.nb - rc.pre.nb), mixF V2.κ Vt.κ θ0.nk Sa.nk rc.pre.nk (rc.post.nk - rc.pre.nk), Vt.lp⟩ : Val) = V'
      have eρ : V'.ρ = mixF V2.ρ Vt.ρ θ0.nx Sa.nx rc.pre.nx (rc.post.nx - rc.pre.nx) := by subst hV'; rfl
      have eα : V'.α = mixF V2.α Vt.α θ0.nb Sa.nb rc.pre.nb (rc.post.nb - rc.pre.nb) := by subst hV'; rfl
      have eκ : V'.κ = mixF V2.κ Vt.κ θ0.nk Sa.nk rc.pre.nk (rc.post.nk - rc.pre.nk) := by subst hV'; rfl
      have elp : V'.lp = Vt.lp := by subst hV'; rfl
      have oldρ : ∀ x a, x < θ0.nx → Vt.ρ x = some a → V2.ρ x = some a := fun x a hx e => k2.le.ρ _ _ (by show (if θ0.nx ≤ x then _ else _) = _; rw [if_neg (by omega)]; exact e)
      have oldα : ∀ x a, x < θ0.nb → Vt.α x = some a → V2.α x = some a := fun x a hx e => k2.le.α _ _ (by show (if θ0.nb ≤ x then _ else _) = _; rw [if_neg (by omega)]; exact e)
      have oldκ : ∀ x a, x < θ0.nk → Vt.κ x = some a → V2.κ x = some a := fun x a hx e => k2.le.κ _ _ (by show (if θ0.nk ≤ x then _ else _) = _; rw [if_neg (by omega)]; exact e)
      have le : Vt.le V' := ⟨by rw [eρ]; exact mix_le oldρ g.fx, by rw [eα]; exact mix_le oldα (fun x hx => (g.fb x hx).1), by rw [eκ]; exact mix_le oldκ g.fk, by rw [elp]; exact .refl _⟩
      have hx2 : ∀ x, rc.post.nx ≤ x → V2.ρ x = none := g2.fx
      have hk2 : ∀ x, rc.post.nk ≤ x → V2.κ x = none := g2.fk
      have θnx : θ.nx = θ0.nx := by subst hθ; rfl
      have θnb : θ.nb = θ0.nb := by subst hθ; rfl
      have θnk : θ.nk = θ0.nk := by subst hθ; rfl
      have θks : θ.ks = θ0.ks := by subst hθ; rfl
      have lx : ∀ x, look x θ.xs = if rc.pre.nx ≤ x ∧ x < rc.pre.nx + (rc.post.nx - rc.pre.nx) then some (L.var (Sa.nx + (x - rc.pre.nx))) else look x θ0.xs := by
        intro x; subst hθ; exact look_new (f := fun i => L.var (Sa.nx + i)) x _
      have lb : ∀ x, look x θ.bs = if rc.pre.nb ≤ x ∧ x < rc.pre.nb + (rc.post.nb - rc.pre.nb) then some (some (Sa.nb + (x - rc.pre.nb))) else look x θ0.bs := by
        intro x; subst hθ; exact look_new (f := fun i => some (Sa.nb + i)) x _
      have bk : Bk V2 V' θ rc.pre Sa.nk := by
        refine ⟨fun x n hx => ?_, fun b b' hb => ?_, fun x y w hy hw => ?_⟩
        · replace hx : (if θ.nx ≤ x then (look x θ.xs).bind fun l => l.ev V'.ρ else V'.ρ x) = some n := hx
          rw [θnx] at hx
          by_cases hn : θ0.nx ≤ x
          · rw [if_pos hn, lx] at hx
            split at hx
            · rename_i hnew
              replace hx : (L.var (Sa.nx + (x - rc.pre.nx))).ev V'.ρ = some n := hx
              obtain ⟨s, hs, e⟩ := L.ev_some.1 hx
              obtain ⟨w, z, h1, h2, h3⟩ := evT_cons.1 hs
              have h4 := L.ev_var h1
              rw [hx] at h4; cases h4
              rw [eρ, mix_new (by omega), show rc.pre.nx + (x - rc.pre.nx) = x by omega] at h1
              exact h1
            · cases hl : look x θ0.xs with
              | none => rw [hl] at hx; cases hx
              | some l =>
                rw [hl] at hx
                replace hx : l.ev V'.ρ = some n := hx
                obtain ⟨m, hm⟩ := g.defd (ox _ (look_mem hl))
                have := L.ev_mono le.ρ hm
                rw [hx] at this; cases this
                refine k2.le.ρ _ _ ?_
                show (if θ0.nx ≤ x then _ else _) = _
                rw [if_pos hn, hl]; exact hm
          · rw [if_neg hn, eρ, mix_old (by omega) (by omega)] at hx; exact hx
        · unfold sB Th.b at hb
          rw [θnb] at hb
          cases hbl : Nat.ble θ0.nb b with
          | false =>
            rw [hbl] at hb
            simp only [cond_false, Option.some.injEq] at hb; subst hb
            have : ¬ θ0.nb ≤ b := fun e => by rw [ble_iff.2 e] at hbl; cases hbl
            rw [eα]; exact mix_old (by omega) (by omega)
          | true =>
            rw [hbl] at hb
            simp only [cond_true] at hb
            have hbn := ble_iff.1 hbl
            rw [lb] at hb
            by_cases hnew : rc.pre.nb ≤ b ∧ b < rc.pre.nb + (rc.post.nb - rc.pre.nb)
            · rw [if_pos hnew] at hb
              simp only [Option.some.injEq] at hb; subst hb
              rw [eα, mix_new (by omega), show rc.pre.nb + (b - rc.pre.nb) = b by omega]
            · rw [if_neg hnew] at hb
              cases hl : look b θ0.bs with
              | none => rw [hl] at hb; cases hb
              | some q =>
                rw [hl] at hb
                cases q with
                | none => cases hb
                | some b2 =>
                  simp only [Option.some.injEq] at hb; subst hb
                  have hlt : b2 < Sa.nb := by have := ob _ (look_mem hl); simpa [Nat.blt_eq] using this
                  obtain ⟨p, hp⟩ := tb b2 hlt
                  have h2 : V2.α b = some p := k2.le.α _ _ (by show (if θ0.nb ≤ b then _ else _) = _; rw [if_pos hbn, hl]; exact hp)
                  rw [h2, le.α _ _ hp]
        · unfold sK at hy
          cases h1 : Nat.ble rc.pre.nk x with
          | true =>
            rw [h1] at hy
            simp only [cond_true, Option.some.injEq] at hy; subst hy
            have h1 := ble_iff.1 h1
            have h3 : x < rc.post.nk := by
              by_cases hh : x < rc.post.nk
              · exact hh
              · rw [hk2 x (by omega)] at hw; cases hw
            rw [eκ, mix_new (by omega), show rc.pre.nk + (x - rc.pre.nk) = x by omega]; exact hw
          | false =>
            rw [h1] at hy
            simp only [cond_false] at hy
            rw [θnk, θks] at hy
            cases h3 : Nat.ble θ0.nk x with
            | false =>
              rw [h3] at hy
              simp only [cond_false, Option.some.injEq] at hy; subst hy
              have : ¬ θ0.nk ≤ x := fun e => by rw [ble_iff.2 e] at h3; cases h3
              rw [eκ, mix_old (by omega) (by omega)]; exact hw
            | true =>
              rw [h3] at hy
              simp only [cond_true] at hy
              have h3 := ble_iff.1 h3
              have fin : ∀ c, look x θ0.ks = some c → valC Vt c = Vt.κ y → y < Sa.nk → V'.κ y = some w := by
                intro c hc hvc hlt
                obtain ⟨u, hu⟩ := tk y hlt
                have h5 : V2.κ x = some u := k2.le.κ _ _ (by show (if θ0.nk ≤ x then _ else _) = _; rw [if_pos h3, hc]; show valC Vt c = _; rw [hvc]; exact hu)
                rw [hw] at h5; cases h5
                exact le.κ _ _ hu
              split at hy
              · rename_i z hz
                cases hb : Nat.blt z Sa.nk with
                | false => rw [hb] at hy; cases hy
                | true => rw [hb] at hy; simp only [cond_true, Option.some.injEq] at hy; subst hy; exact fin _ hz rfl (by simpa [Nat.blt_eq] using hb)
              · rename_i z _ _ _ _ _ hz
                cases hb : Nat.blt z Sa.nk with
                | false => rw [hb] at hy; cases hy
                | true => rw [hb] at hy; simp only [cond_true, Option.some.injEq] at hy; subst hy; exact fin _ hz rfl (by simpa [Nat.blt_eq] using hb)
              · cases hy
      have hold : ∀ x, x < θ.nk → ∀ v, V2.κ x = some v → V'.κ x = some v := fun x hx v hv => by rw [eκ, mix_old (by omega) (by omega)]; exact hv
      have holdb : ∀ b, b < θ.nb → V'.α b = V2.α b := fun b hb => by rw [eα, mix_old (by omega) (by omega)]
      have givs : IvOK V'.ρ (iv ++ Sa.iv) := by
        refine IvOK.append (fun x lo hi hm => ?_) (g.iv.mono le.ρ)
        obtain ⟨y, h1, rfl, h3⟩ := sIv_mem hiv hm
        obtain ⟨n, q1, q2⟩ := g2.iv y lo hi (List.mem_append_left _ h3)
        have h4 : y < rc.post.nx := by
          by_cases hh : y < rc.post.nx
          · exact hh
          · rw [hx2 y (by omega)] at q1; cases q1
        exact ⟨n, by rw [eρ, mix_new (by omega), show rc.pre.nx + (y - rc.pre.nx) = y by omega]; exact q1, q2⟩
      have fx' : ∀ x, Sa.nx + (rc.post.nx - rc.pre.nx) ≤ x → V'.ρ x = none := fun x hx => by rw [eρ]; exact mix_none hx
      have fb' : ∀ x, Sa.nb + (rc.post.nb - rc.pre.nb) ≤ x → V'.α x = none ∧ V'.lp x = none := fun x hx => ⟨by rw [eα]; exact mix_none hx, by rw [elp]; exact (g.fb x (by omega)).2⟩
      have fk' : ∀ x, Sa.nk + (rc.post.nk - rc.pre.nk) ≤ x → V'.κ x = none := fun x hx => by rw [eκ]; exact mix_none hx
      generalize hT : ({ env := [], heap := [], vws := [], clos := [], iv := iv ++ Sa.iv, facts := [], nx := Sa.nx + (rc.post.nx - rc.pre.nx), nb := Sa.nb + (rc.post.nb - rc.pre.nb), nk := Sa.nk + (rc.post.nk - rc.pre.nk) } : SS) = T at h
      have gT : G V' U2 T σ' := by
        subst hT
        exact ⟨givs, fun f hf => (by cases hf), fun b he hb => (by cases hb), fun b b' h1 h2 l p p' e1 => (by cases e1), fun l ⟨b, he, p, h1, _⟩ => (by cases h1), fun b w hw => (by cases hw), fun x k hk => (by cases hk), fx', fb', fk', g2.uin⟩
      split at h
      · rename_i w hp vw fs e1 e2 e3 e4
        cases hsv : sSV θ rc.pre Sa.nk T w with
        | none => rw [hsv] at h; cases h
        | some w' =>
          rw [hsv] at h
          simp only [Option.some.injEq, Prod.mk.injEq] at h; obtain ⟨rfl, rfl⟩ := h
          have ownSa : ∀ l, Own (Vh Vt θ0) (head rc.S rc.pre) l → Own Vt Sa l := by
            rintro l ⟨b, hh, p, h1, h2, h3⟩
            obtain ⟨b', h', q1, q2, q3, q4⟩ := fits_img hf h1 h2 h3
            exact ⟨b', h', p, q2, q3, q4⟩
          have sta : Sta Vt Ua σa V' U2 σ' := ⟨le, k2.ule, fun l hl => k2.same l (g.uin l hl) fun ho => g.nu l (ownSa l ho) hl⟩
          have lk : ∀ b he, look b (hp ++ goneH θ0 (head rc.S rc.pre).heap ++ Sa.heap) = some he → (∃ b0 he0, look b0 (head (head rc.S rc.pre) rc.post).heap = some he0 ∧ sB θ b0 = some b ∧ sHE θ rc.pre Sa.nk T he0 = some he) ∨ he = .gone ∨
              (look b Sa.heap = some he ∧ look b (goneH θ0 (head rc.S rc.pre).heap) = none) := by
            intro b he hl
            rw [look_append, look_append] at hl
            cases h1 : look b hp with
            | some x => rw [h1] at hl; simp only [Option.some.injEq] at hl; subst hl; exact .inl (sHeap_look e2 h1)
            | none =>
              rw [h1] at hl
              simp only at hl
              cases h2 : look b (goneH θ0 (head rc.S rc.pre).heap) with
              | some x => rw [h2] at hl; simp only [Option.some.injEq] at hl; subst hl; exact .inr (.inl (goneH_gone h2))
              | none => rw [h2] at hl; exact .inr (.inr ⟨hl, rfl⟩)
          have sown : ∀ {he0 he : HE}, sHE θ rc.pre Sa.nk T he0 = some he → he.own = true → he0.own = true := by
            intro he0 he e ho
            cases he0 with
            | gone => simp only [sHE, Option.some.injEq] at e; subst e; cases ho
            | _ => rfl
          have oldno : ∀ b he l p, look b Sa.heap = some he → look b (goneH θ0 (head rc.S rc.pre).heap) = none → he.own = true → Vt.α b = some (some (l, p)) → ¬ Own (Vh Vt θ0) (head rc.S rc.pre) l := by
            rintro b he l p h1 h2 h3 h4 ⟨b1, hh, p1, q1, q2, q3⟩
            obtain ⟨b', h', r1, r2, r3, r4⟩ := fits_img hf q1 q2 q3
            have : b = b' := g.inj b b' he h' l p p1 h1 r2 h3 r3 h4 r4
            subst this
            obtain ⟨r, hr⟩ := goneH_mem (look_mem q1) (fun e => by subst e; cases q2) r1
            rw [h2] at hr; cases hr
          have αold : ∀ b he q, look b Sa.heap = some he → he.own = true → V'.α b = some q → Vt.α b = some q := by
            intro b he q h1 h2 h3
            have hlt : b < Sa.nb := by
              by_cases hh : b < Sa.nb
              · exact hh
              · have := g.noh (by omega) _ h1; subst this; cases h2
            obtain ⟨p, hp⟩ := tb b hlt
            rw [le.α _ _ hp] at h3; cases h3; exact hp
          have own' : ∀ l, Own V' { T with heap := hp ++ goneH θ0 (head rc.S rc.pre).heap ++ Sa.heap, vws := vw ++ Sa.vws, clos := Sa.clos, facts := fs ++ Sa.facts } l → Own V2 (head (head rc.S rc.pre) rc.post) l ∨ (Own Vt Sa l ∧ ¬ Own (Vh Vt θ0) (head rc.S rc.pre) l) := by
            rintro l ⟨b, he, p, h1, h2, h3⟩
            rcases lk b he h1 with ⟨b0, he0, q1, q2, q3⟩ | rfl | ⟨q1, q2⟩
            · rw [bk.α _ _ q2] at h3
              exact .inl ⟨b0, he0, p, q1, sown q3 h2, h3⟩
            · cases h2
            · have h3 := αold b he _ q1 h2 h3
              exact .inr ⟨⟨b, he, p, q1, h2, h3⟩, oldno b he l p q1 q2 h2 h3⟩
          have lt2 : ∀ l, Own V2 (head (head rc.S rc.pre) rc.post) l → Own (Vh Vt θ0) (head rc.S rc.pre) l ∨ σa.size ≤ l := k2.own
          refine ⟨w', _, List.mem_singleton.2 rfl, V', U2, ⟨?_, ?_, fun b he hl => ?_, fun b b' h1 h2 l p p' f1 f2 o1 o2 a1 a2 => ?_, fun l hl => ?_, fun b x hx => ?_, fun x k hk => KR_sta sta (g.clos x k hk), ?_, ?_, ?_, g2.uin⟩, ⟨le, k2.ule, fun l hl => ?_, k2.size, fun l hl hn => ?_, fun l hl => ?_⟩, ?_⟩
          · exact givs
          · intro f hf'
            rcases List.mem_append.1 hf' with hf' | hf'
            · obtain ⟨f0, q1, q2⟩ := sLs_mem e4 hf'
              obtain ⟨n, r1, r2⟩ := g2.facts f0 (List.mem_append_left _ q1)
              exact ⟨n, bk.sub gT q2 r1, r2⟩
            · exact g.facts.mono le.ρ f hf'
          · rcases lk b he hl with ⟨b0, he0, q1, q2, q3⟩ | rfl | ⟨q1, q2⟩
            · exact bk.he hold holdb gT q2 q3 (g2.heap b0 he0 q1)
            · trivial
            · exact HR_sta sta (fun l p ho ha => k2.same l (Own.lt g ⟨b, he, p, q1, ho, ha⟩) (oldno b he l p q1 q2 ho ha)) (g.heap b he q1)
          · rcases lk b h1 f1 with ⟨b0, he0, q1, q2, q3⟩ | rfl | ⟨q1, q2⟩
            · rw [bk.α _ _ q2] at a1
              rcases lk b' h2 f2 with ⟨b1, he1, r1, r2, r3⟩ | rfl | ⟨r1, r2⟩
              · rw [bk.α _ _ r2] at a2
                have := g2.inj b0 b1 he0 he1 l p p' q1 r1 (sown q3 o1) (sown r3 o2) a1 a2
                subst this
                rw [q2] at r2; exact Option.some.inj r2
              · cases o2
              · have a2 := αold b' h2 _ r1 o2 a2
                rcases lt2 l ⟨b0, he0, p, q1, sown q3 o1, a1⟩ with h | h
                · exact absurd h (oldno b' h2 l p' r1 r2 o2 a2)
                · have := Own.lt g ⟨b', h2, p', r1, o2, a2⟩; omega
            · cases o1
            · have a1 := αold b h1 _ q1 o1 a1
              rcases lk b' h2 f2 with ⟨b1, he1, r1, r2, r3⟩ | rfl | ⟨r1, r2⟩
              · rw [bk.α _ _ r2] at a2
                rcases lt2 l ⟨b1, he1, p', r1, sown r3 o2, a2⟩ with h | h
                · exact absurd h (oldno b h1 l p q1 q2 o1 a1)
                · have := Own.lt g ⟨b, h1, p, q1, o1, a1⟩; omega
              · cases o2
              · exact g.inj b b' h1 h2 l p p' q1 r1 o1 o2 a1 (αold b' h2 _ r1 o2 a2)
          · rcases own' l hl with h | ⟨h1, h2⟩
            · exact g2.nu l h
            · intro hu
              rcases k2.unew l hu with q | q | q
              · exact g.nu l h1 q
              · exact h2 q
              · have := Own.lt g h1; omega
          · replace hx : look b (vw ++ Sa.vws) = some x := hx
            rw [look_append] at hx
            cases h1 : look b vw with
            | none => rw [h1] at hx; exact VwR_sta sta (g.vws b x hx)
            | some y =>
              rw [h1] at hx
              simp only [Option.some.injEq] at hx; subst hx
              obtain ⟨b0, w0, p, n, q1, q2, q3, q4, q5, q6, rfl⟩ := sVws_look e3 h1
              have hq : look b0 (head (head rc.S rc.pre) rc.post).vws = some w0 := by
                show look b0 (rc.post.vws ++ _) = _
                rw [look_append, q1]
              obtain ⟨N, r1, r2, r3⟩ := g2.vws b0 w0 hq
              refine ⟨N, bk.sub gT q4 r1, fun _ _ e => (by cases e), ?_⟩
              rcases r3 with ⟨s1, s2, s3⟩ | ⟨blk, o, st, vs, s1, s2, s3, s4, s5, s6, s7⟩
              · exact .inl ⟨by rw [bk.α _ _ q2]; exact s1, s2, rfl⟩
              · exact .inr ⟨blk, o, st, vs, by rw [bk.α _ _ q2]; exact s1, s2, s3, s4, fun i hi => bk.ty gT q3 (s5 i hi), fun _ _ e => (by cases e), fun _ _ e => (by cases e)⟩
          · exact fx'
          · exact fb'
          · exact fk'
          · rcases k2.unew l hl with q | q | q
            · exact .inl q
            · exact .inr (.inl (ownSa l q))
            · exact .inr (.inr q)
          · exact k2.same l hl fun h => hn (ownSa l h)
          · rcases own' l hl with h | ⟨h1, h2⟩
            · rcases lt2 l h with q | q
              · exact .inl (ownSa l q)
              · exact .inr q
            · exact .inl h1
          · refine bk.sv hold holdb gT hsv ?_
            have := he2 0 w (by show look 0 (rc.post.env ++ _) = _; rw [look_append, e1]; rfl)
            exact this
      · cases h
end Go.Ev.Sx
end SxZ2
section SxZ3
namespace Go.Ev.Sx
variable {F : FuncId → Option EFunc} {H : Caller}
variable {V V' : Val} {U U' : Nat → Prop} {S S' : SS} {σ σ' : Store} {a : Env}
theorem findR_ok {f : FuncId} {rc : RC} : ∀ {l : List RC}, findR f l = some rc → rc ∈ l ∧ rc.f = f := by
  intro l
  induction l with
  | nil => intro h; cases h
  | cons r l ih =>
    intro h
    simp only [findR] at h
    cases hb : Nat.beq r.f f with
    | true => rw [hb] at h; simp only [cond_true, Option.some.injEq] at h; subst h; exact ⟨List.mem_cons_self, Nat.eq_of_beq_eq_true hb⟩
    | false => rw [hb] at h; exact ⟨List.mem_cons_of_mem _ (ih h).1, (ih h).2⟩
theorem Kp.tot (g : G V U S σ) : Kp V U S σ (V.tot S.nb S.nk) U S σ :=
  ⟨tot_le, fun _ h => h, fun _ h => .inl h, Nat.le_refl _, fun _ _ _ => rfl, fun l ⟨b, he, p, h1, h2, h3⟩ => .inl ⟨b, he, p, h1, h2, tot_α h3⟩⟩
theorem CallR'.lift {V1 : Val} {U1 : Nat → Prop} {S1 : SS} {σ1 : Store} (k : Kp V U S σ V1 U1 S1 σ1) {l : List (SV × SS)} {v : Value} (h : CallR' V1 U1 S1 σ1 l v σ') : CallR' V U S σ l v σ' := by
  obtain ⟨sv, S2, h1, V2, U2, h2, h3, h4⟩ := h
  exact ⟨sv, S2, h1, V2, U2, h2, k.trans h3, h4⟩
theorem use_ok {rc : RC} {args : List SV} {vals : List Value} (g : G V U S σ) (hv : F2 (SVR V U σ) args vals) {V0 : Val} {U0 : Nat → Prop} {σ0 : Store} (g0 : G V0 U0 rc.S σ0) {U1 : Nat → Prop} {Sa : SS}
    (g1 : G V U1 Sa σ) (k1 : Kp V U S σ V U1 Sa σ) (e1 : Sa.env = argsEnv 0 args) (st : Sta V0 U0 σ0 V U1 σ) {θ : Th} (hf : fits rc.S rc.pre Sa θ = true) {w : SV} {S1 : SS} (hp : post rc Sa θ = some (w, S1)) {m : L} (hsub : rc.pre.meas.sub' Sa θ = some m)
    (hw : ∀ V1 m1, Sta V0 U0 σ0 V1 U1 σ → G V1 U1 (head rc.S rc.pre) σ → GE V1 U1 σ (head rc.S rc.pre).env (envOf vals) → m.ev V.ρ = some m1 → rc.pre.meas.ev V1.ρ = some m1 → WC F H (.func rc.f) vals (PostR rc V1 U1 σ) σ) :
    WC F H (.func rc.f) vals (CallR V U S σ [(w, { S1 with env := S.env })]) σ := by
  have gt := g1.tot
  have st1 : Sta V0 U0 σ0 (V.tot Sa.nb Sa.nk) U1 σ := st.trans (.of_le tot_le)
  have het : GE (V.tot Sa.nb Sa.nk) U1 σ Sa.env (envOf vals) := by
    rw [e1]; exact GE_sta ((k1.sta g).trans (.of_le tot_le)) (argsEnv_ok hv)
  obtain ⟨le, gh, geh, own, _⟩ := fits_ok hf g0 st1 gt het
  obtain ⟨m1, hm1, hm2⟩ := sub_ok gt hsub
  refine (hw _ m1 ⟨le, st1.ule, st1.same⟩ gh geh hm1 hm2).mono fun v σ' hq => ?_
  obtain ⟨V2, U2, q1, q2, q3⟩ := hq
  have := post_ok hp hf gt (fun b hb => ⟨_, by show (if b < Sa.nb then _ else _) = _; rw [if_pos hb]⟩) (fun x hx => ⟨_, by show (if x < Sa.nk then _ else _) = _; rw [if_pos hx]⟩) q1 q2 q3
  exact (this.lift (k1.trans (Kp.tot g1))).env0
theorem con_ok {K : CallF} (hK : KOK F H K) {Y : Ys} {f : FuncId} {fn : EFunc} (hF : F f = some fn) (hH : ∀ c args σ, H c args σ = none) {n : Nat} (hn : n ≤ fn.ntmps) {Sa : SS} {h h2 : LH} {U1 : Nat → Prop} (g1 : G V U1 Sa σ) (hY : CX F H V U1 σ Y)
    {hs hs' : Hs} {l : List (SV × SS)} (hr : runB (sxCode K { Y with rs := ⟨f, n, Sa, h, h2⟩ :: Y.rs }) fn (head Sa h) hs = some (l, hs'))
    (hl : l.all (fun p => let S1 := prep h2 { p.2 with env := [(0, p.1)] }; fits (head Sa h) h2 S1 (theta (head Sa h) h2 S1)) = true) :
    ∀ (k : Nat) V1 U2 σ1 m1 args, m1.toNat = k → Sta V U1 σ V1 U2 σ1 → G V1 U2 (head Sa h) σ1 → GE V1 U2 σ1 (head Sa h).env (envOf args) → h.meas.ev V1.ρ = some m1 → args.length = n → WC F H (.func f) args (PostR ⟨f, n, Sa, h, h2⟩ V1 U2 σ1) σ1 := by
  intro k
  induction k using Nat.strongRecOn with
  | ind k ih =>
    intro V1 U2 σ1 m1 args hk st gh geh hm hlen
    have hY' : CX F H V1 U2 σ1 { Y with rs := ⟨f, n, Sa, h, h2⟩ :: Y.rs } := by
      refine ⟨(hY.sta st).ys, fun rc hrc => ?_⟩
      rcases List.mem_cons.1 hrc with e | hrc
      · subst e
        refine ⟨V, U1, σ, m1, g1, st, hm, fun V3 U3 σ3 m3 args3 s3 g3 ge3 hm3 hlt hl3 => ?_⟩
        exact ih m3.toNat (by omega) V3 U3 σ3 m3 args3 rfl s3 g3 ge3 hm3 hl3
      · exact (hY.sta st).rs rc hrc
    refine WC_func hF (hH _ _ _) (by omega) ((runB_ok (a := envOf args) (fun hb => sxCode_ok hK hY' gh geh hb) hr).mono fun e a' σ' hq => ?_)
    obtain ⟨he, vs, q1, q2⟩ := hq
    refine ⟨he, vs, q1, ?_⟩
    obtain ⟨sv, S2, p1, V2, U3, p2, p3, p4⟩ := q2
    have hfit := List.all_eq_true.1 hl _ p1
    simp only at hfit
    obtain ⟨U4, g4, k4, e4⟩ := prep_ok h2 (p2.env [(0, sv)])
    have k04 : Kp V1 U2 (head Sa h) σ1 V2 U4 (prep h2 { S2 with env := [(0, sv)] }) σ' := (p3.env2 _).trans k4
    have he4 : GE V2 U4 σ' (prep h2 { S2 with env := [(0, sv)] }).env (envOf [packE vs]) := by
      rw [e4]; exact GE_sta (k4.sta (p2.env _)) (argsEnv_ok (args := [sv]) ⟨p4, trivial⟩)
    obtain ⟨r1, r2, r3, _⟩ := head_ok gh (k04.sta gh) g4 he4 hfit (.refl ..) k04
    exact ⟨_, U4, r1, r2, r3⟩
theorem sxFn_ok {tab : FuncId → Option EFunc} {ct : Ct} (hT : ∀ f fn, tab f = some fn → F f = some fn) (hC : CtOK F H ct) (hH : ∀ c args σ, H c args σ = none) : ∀ n, KOK F H (sxFn tab ct n) := by
  intro n
  induction n with
  | zero => intro Y f args S hs l hs' h; cases h
  | succ n ih =>
    intro Y f args S hs l hs' h V U σ vals hY g hv
    cases f with
    | yield b =>
      intro blk of hα
      exact yield_ok ih hH hY g hv h hα
    | func f =>
      simp only
      simp only [sxFn] at h
      cases hct : ct f args S with
      | some r =>
        rw [hct] at h
        cases r with
        | none => cases h
        | some l0 =>
          simp only [Option.some.injEq, Prod.mk.injEq] at h; obtain ⟨rfl, rfl⟩ := h
          exact (hC _ _ _ _ hct V U σ vals g hv).mono fun v σ' hq => hq.env0
      | none =>
        rw [hct] at h
        simp only at h
        cases hr : findR f Y.rs with
        | some rc =>
          rw [hr] at h
          simp only at h
          obtain ⟨hmem, rfl⟩ := findR_ok hr
          obtain ⟨U1, g1, k1, e1⟩ := prep_ok rc.pre (g.env (argsEnv 0 args))
          generalize prep rc.pre { S with env := argsEnv 0 args } = Sa at *
          generalize theta rc.S rc.pre Sa = θ at *
          cases hc : (Nat.beq args.length rc.n && fits rc.S rc.pre Sa θ && lesser rc.pre Sa θ) with
          | false => rw [hc] at h; cases h
          | true =>
            rw [hc] at h
            simp only [cond_true] at h
            simp only [Bool.and_eq_true] at hc
            obtain ⟨⟨hlen, hf⟩, hls⟩ := hc
            cases hp : post rc Sa θ with
            | none => rw [hp] at h; cases h
            | some q =>
              obtain ⟨w, S1⟩ := q
              rw [hp] at h
              simp only [Option.some.injEq, Prod.mk.injEq] at h; obtain ⟨rfl, rfl⟩ := h
              obtain ⟨V0, U0, σ0, mi, r1, r2, r3, r4⟩ := hY.rs rc hmem
              unfold lesser at hls
              cases hsub : rc.pre.meas.sub' Sa θ with
              | none => rw [hsub] at hls; cases hls
              | some m =>
                rw [hsub] at hls
                simp only [Bool.and_eq_true] at hls
                obtain ⟨d2, d3⟩ := hls
                refine use_ok g hv r1 g1 k1.env1 e1 (r2.trans (k1.env1.sta g)) hf hp hsub fun V1 m1 s1 gh geh hm hm1 => ?_
                have z1 := g1.ent d2 (L.ev_addc _ r3)
                have z2 := g1.ent d3 (L.ev_addc _ (L.ev_sub r3 hm))
                refine r4 V1 U1 σ m1 vals s1 gh geh hm1 (by omega) ?_
                have := Nat.eq_of_beq_eq_true hlen
                rw [← hv.len]; exact this
        | none =>
          rw [hr] at h
          simp only at h
          cases ht : tab f with
          | none => rw [ht] at h; cases h
          | some fn =>
            rw [ht] at h
            simp only at h
            cases hb : Nat.ble args.length fn.ntmps with
            | false => rw [hb] at h; cases h
            | true =>
              rw [hb] at h
              simp only [cond_true] at h
              have hbl := bleN hb
              split at h
              · rename_i g2 h1 h2 h0
                cases hfg : Nat.beq f g2 with
                | false => rw [hfg] at h; exact inl_ok ih (hT _ _ ht) hH hbl hY g hv h
                | true =>
                  rw [hfg] at h
                  simp only [cond_true] at h
                  obtain ⟨U1, g1, k1, e1⟩ := prep_ok h1 (g.env (argsEnv 0 args))
                  generalize prep h1 { S with env := argsEnv 0 args } = Sa at *
                  cases hc : (fits Sa h1 Sa (theta Sa h1 Sa) && (h1.meas.sub' Sa (theta Sa h1 Sa)).isSome) with
                  | false => rw [hc] at h; cases h
                  | true =>
                    rw [hc] at h
                    simp only [cond_true] at h
                    rw [Bool.and_eq_true] at hc
                    cases hrb : runB (sxCode (sxFn tab ct n) { Y with rs := ⟨f, args.length, Sa, h1, h2⟩ :: Y.rs }) fn (head Sa h1) h0 with
                    | none => rw [hrb] at h; cases h
                    | some q =>
                      obtain ⟨l1, hs1⟩ := q
                      rw [hrb] at h
                      simp only at h
                      cases hall : l1.all (fun p => fits (head Sa h1) h2 (prep h2 { p.2 with env := [(0, p.1)] }) (theta (head Sa h1) h2 (prep h2 { p.2 with env := [(0, p.1)] }))) with
                      | false => rw [hall] at h; cases h
                      | true =>
                        rw [hall] at h
                        simp only [cond_true] at h
                        cases hp : post ⟨f, args.length, Sa, h1, h2⟩ Sa (theta Sa h1 Sa) with
                        | none => rw [hp] at h; cases h
                        | some q =>
                          obtain ⟨w, S1⟩ := q
                          rw [hp] at h
                          simp only [Option.some.injEq, Prod.mk.injEq] at h; obtain ⟨rfl, rfl⟩ := h
                          obtain ⟨m, hm⟩ := Option.isSome_iff_exists.1 hc.2
                          have hcon := con_ok ih (hT _ _ ht) hH hbl g1 (hY.sta (k1.env1.sta g)) hrb hall
                          refine use_ok (rc := ⟨f, args.length, Sa, h1, h2⟩) g hv g1 g1 k1.env1 e1 ⟨.refl _, fun _ h => h, fun _ _ => rfl⟩ hc.1 hp hm fun V1 m1 s1 gh geh hm0 hm1 => ?_
                          exact hcon _ V1 U1 σ m1 vals rfl s1 gh geh hm1 hv.len.symm
              · exact inl_ok ih (hT _ _ ht) hH hbl hY g hv h
end Go.Ev.Sx
end SxZ3
section SxCt
namespace Go.Ev.Sx
def within (S : SS) (lo hi : L) : List C → Option SS
  | [] => some S
  | .int .i64 l :: r => within ((S.assume (l.sub lo)).assume (hi.sub l)) lo hi r
  | _ => none
def isI : Ty → Bool
  | .cons (.int .i64 _ _) .nil => true
  | _ => false
def outRow (lo hi : L) (S : SS) : C → Option (List (SV × SS))
  | .nilsl => some [(one (.bool (.c false)), S)]
  | .sl _ b off len e _ => bif Nat.beq e 1 && S.ent ((L.num (2 ^ 31)).sub len) then (match S.getH b with
      | some (.cells _ cs) => match isN off, isN len with
        | some o, some n => bif Nat.ble (o + n) cs.length then (match within S lo hi ((cs.drop o).take n) with
          | some S1 => some [(one (.bool (.c true)), S), (one (.bool (.c false)), S1)]
          | none => none) else none
        | _, _ => none
      | some (.arr _ _ z p n) => bif Nat.beq z 1 && isI p && S.ent ((n.sub off).sub len) then some [(one (.bool (.c true)), S), (one (.bool (.c false)), S)] else none
      | _ => match S.getV b with
        | some w => bif Nat.beq w.esz 1 && isI w.pat && off.z && len.beq w.n then
            some [(one (.bool (.c true)), S), (one (.bool (.c false)), S.setV b ⟨w.e, 1, .cons (.int .i64 lo hi) .nil, w.n, none, w.memo⟩)] else none
        | none => none) else none
  | _ => none
def outCt (args : List SV) (S : SS) : Option (List (SV × SS)) :=
  match args with
  | [.w false [.int .i64 lo], .w false [.int .i64 hi], .w false [c]] => outRow lo hi S c
  | _ => none
end Go.Ev.Sx
end SxCt
section SxCtOk
namespace Go.Ev.Sx
variable {F : FuncId → Option EFunc} {H : Caller}
variable {V V' : Val} {U U' : Nat → Prop} {S S' : SS} {σ σ' τ : Store} {a : Env}
theorem G.ext (g : G V U S σ) (hx : Ext σ τ) : G V U S τ ∧ Kp V U S σ V U S τ := by
  have s : Sta V U σ V U τ := ⟨.refl _, fun _ h => h, fun l hl => hx.same l (g.uin l hl)⟩
  exact ⟨⟨g.iv, g.facts, fun b he h => HR_sta s (fun l p ho ha => hx.same l (Own.lt g ⟨b, he, p, h, ho, ha⟩)) (g.heap b he h), g.inj, g.nu, fun b w hw => VwR_sta s (g.vws b w hw), fun x k hk => KR_sta s (g.clos x k hk), g.fx, g.fb, g.fk, fun l hl => Nat.lt_of_lt_of_le (g.uin l hl) hx.size⟩,
    ⟨.refl _, fun _ h => h, fun _ h => .inl h, hx.size, fun l hl _ => hx.same l hl, fun l h => .inl h⟩⟩
def OutP (F : FuncId → Option EFunc) (H : Caller) (f : FuncId) : Prop :=
  ∀ (σ : Store) (lo hi : Int) (v : Value) (xs : List Int), SAt σ 1 v xs.length (xs.map (Value.int .i64)) → xs.length ≤ 2 ^ 31 →
    WC F H (.func f) [.int .i64 lo, .int .i64 hi, v] (fun r τ => ∃ b, r = .bool b ∧ (b = false ↔ ∀ x ∈ xs, lo ≤ x ∧ x ≤ hi) ∧ Ext σ τ) σ
theorem SlR_sat {b e o : Nat} {cp : Cap} {p : Option Addr} {n cap : Nat} (h : SlR V b e o cp p n cap) : (n ≠ 0 → At V b e o p) ∧ Sat V b e o p := by
  cases cp with
  | inf =>
    rcases h with ⟨_, h2, h3, _⟩ | ⟨h1, _⟩
    · exact ⟨fun e => absurd h3 e, .inl h2⟩
    · exact ⟨fun _ => h1, .inr ⟨o, Nat.le_refl _, h1⟩⟩
  | full => exact ⟨h.2.2.1, h.2.2.2⟩
  | any => exact ⟨h.2.2.1, h.2.2.2⟩
  | unk => exact ⟨fun e => h.2.1 (.inl e), h.2.2⟩
theorem row_none {b o : Nat} {cp : Cap} {p : Option Addr} {k cap : Nat} (h : SlR V b 1 o cp p k cap) (hα : V.α b = some none) (hk : k = 0) : SAt σ 1 (.slice p k cap) k [] := by
  obtain ⟨_, h2⟩ := SlR_sat h
  subst hk
  rcases h2 with rfl | ⟨o', _, blk, of, h3, _⟩
  · exact .nil cap
  · rw [hα] at h3; cases h3
theorem row_some {b o : Nat} {cp : Cap} {p : Option Addr} {k cap : Nat} (h : SlR V b 1 o cp p k cap) {blk of : Nat} {st : St} {e : TypeId} {vs : List Value} (hα : V.α b = some (some (blk, of))) (hg : σ.get blk = some (.cells st e vs)) (hl : of + o + k ≤ vs.length) :
    SAt σ 1 (.slice p k cap) k ((vs.drop (of + o)).take k) := by
  obtain ⟨h1, h2⟩ := SlR_sat h
  by_cases hk : k = 0
  · subst hk
    rcases h2 with rfl | ⟨o', hle, blk', of', h3, rfl⟩
    · simpa using SAt.nil cap
    · rw [hα] at h3; cases h3
      have := SAt.at (esz := 1) blk (of + o' * 1) 0 cap st e vs hg (by omega)
      simpa using this
  · obtain ⟨blk', of', h3, rfl⟩ := h1 hk
    rw [hα] at h3; cases h3
    have := SAt.at (esz := 1) blk (of + o * 1) k cap st e vs hg (by omega)
    simpa using this
theorem ints_row (vs : List Value) : ∀ (k o : Nat), (∀ i, i < k → ∃ n tl, vs.drop (o + i) = .int .i64 n :: tl) → ∃ xs : List Int, xs.length = k ∧ (vs.drop o).take k = xs.map (Value.int .i64) ∧ (k ≠ 0 → o + k ≤ vs.length) ∧ ∀ i n tl, i < k → vs.drop (o + i) = .int .i64 n :: tl → n ∈ xs := by
  intro k
  induction k with
  | zero => intro o _; exact ⟨[], rfl, by simp, fun e => absurd rfl e, fun i n tl hi => by omega⟩
  | succ k ih =>
    intro o h
    obtain ⟨n, tl, h0⟩ := h 0 (by omega)
    obtain ⟨xs, h1, h2, h3, h4⟩ := ih (o + 1) (fun i hi => by have := h (i + 1) (by omega); rwa [show o + (i + 1) = o + 1 + i by omega] at this)
    rw [Nat.add_zero] at h0
    have ht : vs.drop (o + 1) = tl := by rw [← List.drop_drop, h0]; rfl
    have hlen : o < vs.length := by
      by_cases hh : o < vs.length
      · exact hh
      · rw [List.drop_eq_nil_of_le (by omega)] at h0; cases h0
    refine ⟨n :: xs, by simp [h1], ?_, fun _ => ?_, fun i m tl' hi hd => ?_⟩
    · rw [h0, List.take_succ_cons, List.map_cons, ← h2, ht]
    · by_cases hk : k = 0
      · omega
      · have := h3 hk; omega
    · cases i with
      | zero => rw [Nat.add_zero, h0] at hd; cases hd; exact List.mem_cons_self
      | succ i => exact List.mem_cons_of_mem _ (h4 i m tl' (by omega) (by rw [← hd]; congr 1; omega))
theorem within_ok {lo hi : L} {x y : Int} (h1 : lo.ev V.ρ = some x) (h2 : hi.ev V.ρ = some y) : ∀ {cs : List C} {S S1 : SS}, within S lo hi cs = some S1 → ∀ {vs : List Value}, F2 (CR V U σ) cs vs →
    ∃ xs : List Int, vs = xs.map (Value.int .i64) ∧ ∀ {τ : Store}, G V U S τ → (∀ z ∈ xs, x ≤ z ∧ z ≤ y) → G V U S1 τ ∧ Kp V U S τ V U S1 τ := by
  intro cs
  induction cs with
  | nil =>
    intro S S1 h vs hv
    simp only [within, Option.some.injEq] at h; subst h
    cases vs with
    | nil => exact ⟨[], rfl, fun g _ => ⟨g, .refl ..⟩⟩
    | cons _ _ => cases hv
  | cons c cs ih =>
    intro S S1 h vs hv
    cases vs with
    | nil => cases hv
    | cons v vs =>
      unfold within at h
      split at h
      · rename_i e; cases e
      · rename_i l r e; cases e
        obtain ⟨n, q1, rfl⟩ := hv.1
        obtain ⟨xs, rfl, q2⟩ := ih h hv.2
        refine ⟨n :: xs, rfl, fun g hz => ?_⟩
        obtain ⟨z1, z2⟩ := hz n List.mem_cons_self
        obtain ⟨g1, k1⟩ := g.assume (L.ev_sub q1 h1) (by omega)
        obtain ⟨g2, k2⟩ := g1.assume (L.ev_sub h2 q1) (by omega)
        obtain ⟨g3, k3⟩ := q2 g2 fun z hz' => hz z (List.mem_cons_of_mem _ hz')
        exact ⟨g3, k1.trans (k2.trans k3)⟩
      · cases h
theorem isI_VT {t : Ty} (h : isI t = true) {l : List Value} (hv : VT V U σ t l) : ∃ n tl, l = .int .i64 n :: tl := by
  unfold isI at h
  split at h
  · obtain ⟨⟨n, tl, _, _, e, _⟩, _⟩ := hv; exact ⟨n, tl, e⟩
  · cases h
theorem outRow_ok {f : FuncId} (hO : OutP F H f) {lo hi : L} {c : C} {l : List (SV × SS)} (h : outRow lo hi S c = some l) {v3 : Value} (g : G V U S σ) {x y : Int} (hx : lo.ev V.ρ = some x) (hy : hi.ev V.ρ = some y) (hc3 : CR V U σ c v3) :
    WC F H (.func f) [.int .i64 x, .int .i64 y, v3] (CallR' V U S σ l) σ := by
  have bool_ok : ∀ (b : Bool) (τ : Store), SVR V U τ (one (.bool (.c b))) (.bool b) := fun b τ => ⟨_, rfl, b, rfl, rfl⟩
  have fin : ∀ (xs : List Int) (Sf : SS), SAt σ 1 v3 xs.length (xs.map (Value.int .i64)) → xs.length ≤ 2 ^ 31 → (∀ τ, G V U S τ → Ext σ τ → (∀ z ∈ xs, x ≤ z ∧ z ≤ y) → G V U Sf τ ∧ Kp V U S τ V U Sf τ) →
      l = [(one (.bool (.c true)), S), (one (.bool (.c false)), Sf)] → WC F H (.func f) [.int .i64 x, .int .i64 y, v3] (CallR' V U S σ l) σ := by
    intro xs Sf hs hn hf hl
    subst hl
    refine (hO σ x y v3 xs hs hn).mono fun r τ hq => ?_
    obtain ⟨b, rfl, hb, hext⟩ := hq
    obtain ⟨g1, k1⟩ := g.ext hext
    cases b with
    | true => exact ⟨_, S, List.mem_cons_self, V, U, g1, k1, bool_ok _ _⟩
    | false =>
      obtain ⟨g2, k2⟩ := hf τ g1 hext (hb.1 rfl)
      exact ⟨_, Sf, List.mem_cons_of_mem _ List.mem_cons_self, V, U, g2, k1.trans k2, bool_ok _ _⟩
  unfold outRow at h
  split at h
  · simp only [Option.some.injEq] at h; subst h
    have hv3 : v3 = .slice none 0 0 := hc3
    subst hv3
    refine (hO σ x y _ [] (.nil 0) (by simp)).mono fun r τ hq => ?_
    obtain ⟨b, rfl, hb, hext⟩ := hq
    obtain ⟨g1, k1⟩ := g.ext hext
    have : b = false := hb.2 fun z hz => by cases hz
    subst this
    exact ⟨_, S, List.mem_cons_self, V, U, g1, k1, bool_ok _ _⟩
  · rename_i xn b off len e cp
    obtain ⟨p, k, cap, o, _, rfl, hlen, hoff, hsl⟩ := hc3
    cases hck : (Nat.beq e 1 && S.ent ((L.num (2 ^ 31)).sub len)) with
    | false => rw [hck] at h; cases h
    | true =>
      rw [hck] at h
      simp only [cond_true] at h
      rw [Bool.and_eq_true] at hck
      have he := beqN hck.1
      subst he
      have hk31 := g.ent hck.2 (L.ev_sub (L.ev_num _) hlen)
      have hk : k ≤ 2 ^ 31 := by omega
      split at h
      · rename_i ty cs hh
        split at h
        · rename_i o' n' ho' hn'
          have r1 := isN_ev (ρ := V.ρ) ho'
          have r2 := isN_ev (ρ := V.ρ) hn'
          rw [hoff] at r1; rw [hlen] at r2
          have r1 : o = o' := by have := Option.some.inj r1; omega
          have r2 : k = n' := by have := Option.some.inj r2; omega
          subst r1 r2
          cases hle : Nat.ble (o + k) cs.length with
          | false => rw [hle] at h; cases h
          | true =>
            rw [hle] at h
            simp only [cond_true] at h
            have hle := bleN hle
            cases hw : within S lo hi ((cs.drop o).take k) with
            | none => rw [hw] at h; cases h
            | some S1 =>
              rw [hw] at h
              simp only [Option.some.injEq] at h
              obtain ⟨blk, vs, q1, q2, q3⟩ := g.heap b _ hh
              have hlv := q3.len
              have hsat := row_some (σ := σ) hsl q1 q2 (by omega)
              rw [Nat.zero_add] at hsat
              obtain ⟨xs, z1, z2⟩ := within_ok hx hy hw ((q3.drop o).take k)
              have hxl : xs.length = k := by
                have := congrArg List.length z1
                simp only [List.length_take, List.length_drop, List.length_map] at this
                omega
              subst hxl
              rw [z1] at hsat
              exact fin xs S1 hsat hk (fun τ gτ _ hz => z2 gτ hz) h.symm
        · cases h
      · rename_i gr ty z pt n hh
        cases hc : (Nat.beq z 1 && isI pt && S.ent ((n.sub off).sub len)) with
        | false => rw [hc] at h; cases h
        | true =>
          rw [hc] at h
          simp only [cond_true, Option.some.injEq] at h
          simp only [Bool.and_eq_true] at hc
          obtain ⟨⟨w1, w2⟩, w3⟩ := hc
          have w1 := beqN w1
          subst w1
          obtain ⟨N, q1, _, q3⟩ := g.heap b _ hh
          have hN := g.ent w3 (L.ev_sub (L.ev_sub q1 hoff) hlen)
          rcases q3 with ⟨_, s2, s3⟩ | ⟨blk, vs, s1, s2, s3, s4⟩
          · have hk0 : k = 0 := by omega
            refine fin [] S (by subst hk0; exact row_none hsl s2 rfl) (by simp) (fun τ gτ _ _ => ⟨gτ, .refl ..⟩) h.symm
          · obtain ⟨xs, z1, z2, z3, z4⟩ := ints_row vs k o (fun i hi => isI_VT w2 (by have := s4 (o + i) (by omega); rwa [Nat.mul_one] at this))
            have hsat := row_some (σ := σ) hsl s1 s2 (by omega)
            rw [Nat.zero_add, z2] at hsat
            subst z1
            exact fin xs S hsat hk (fun τ gτ _ _ => ⟨gτ, .refl ..⟩) h.symm
      · cases hgv : S.getV b with
        | none => rw [hgv] at h; cases h
        | some w =>
          rw [hgv] at h
          simp only at h
          cases hc : (Nat.beq w.esz 1 && isI w.pat && off.z && len.beq w.n) with
          | false => rw [hc] at h; cases h
          | true =>
            rw [hc] at h
            simp only [cond_true, Option.some.injEq] at h
            simp only [Bool.and_eq_true] at hc
            obtain ⟨⟨⟨w1, w2⟩, w3⟩, w4⟩ := hc
            have w1 := beqN w1
            have w4 := L.beq_eq w4
            have ho0 : o = 0 := by have := L.z_ev (ρ := V.ρ) w3; rw [hoff] at this; have := Option.some.inj this; omega
            subst ho0
            obtain ⟨N, q1, q2, q3⟩ := g.vws b w hgv
            have hNk : k = N := by rw [← w4, hlen] at q1; have := Option.some.inj q1; omega
            subst hNk
            rcases q3 with ⟨s1, s2, s3⟩ | ⟨blk, o, st, vs, s1, s2, s3, s4, s5, s6, s7⟩
            · refine fin [] (S.setV b ⟨w.e, 1, .cons (.int .i64 lo hi) .nil, w.n, none, w.memo⟩) (by subst s2; exact row_none hsl s1 rfl) (by simp) (fun τ gτ _ _ => gτ.setV ⟨k, q1, fun _ _ e => (by cases e), .inl ⟨s1, s2, s3⟩⟩) h.symm
            · rw [w1] at s4 s5 s7
              obtain ⟨xs, z1, z2, z3, z4⟩ := ints_row vs k o (fun i hi => isI_VT w2 (by have := s5 i hi; rwa [Nat.mul_one] at this))
              have hsat := row_some (σ := σ) hsl s1 s3 (by omega)
              rw [Nat.add_zero, z2] at hsat
              have hxl := z1
              subst z1
              refine fin xs (S.setV b ⟨w.e, 1, .cons (.int .i64 lo hi) .nil, w.n, none, w.memo⟩) hsat hk (fun τ gτ hext hz => gτ.setV ⟨xs.length, q1, fun _ _ e => (by cases e), .inr ⟨blk, o, st, vs, s1, s2, by rw [hext.same blk (g.uin _ s2)]; exact s3, s4, fun i hi => ?_, fun _ _ e => (by cases e), fun i cs hm => ?_⟩⟩) h.symm
              · obtain ⟨n, tl, hd⟩ := isI_VT w2 (s5 i hi)
                rw [Nat.mul_one] at hd ⊢
                obtain ⟨y1, y2⟩ := hz n (z4 i n tl hi hd)
                exact ⟨⟨n, tl, x, y, hd, hx, hy, y1, y2⟩, _, tl, hd, trivial⟩
              · obtain ⟨I, t1, t2, t3⟩ := s7 i cs hm
                exact ⟨I, t1, t2, t3.imp fun c v hcv => CR_sta ⟨.refl _, fun _ h => h, fun l hl => hext.same l (g.uin l hl)⟩ _ _ hcv⟩
  · cases h
theorem outCt_ok {f : FuncId} (hO : OutP F H f) {args : List SV} {l : List (SV × SS)} (h : outCt args S = some l) {vals : List Value} (g : G V U S σ) (hv : F2 (SVR V U σ) args vals) : WC F H (.func f) vals (CallR' V U S σ l) σ := by
  unfold outCt at h
  split at h
  · rename_i lo hi c
    cases vals with
    | nil => cases hv
    | cons v1 vals =>
      obtain ⟨hv1, hv⟩ := hv
      cases vals with
      | nil => cases hv
      | cons v2 vals =>
        obtain ⟨hv2, hv⟩ := hv
        cases vals with
        | nil => cases hv
        | cons v3 vals =>
          obtain ⟨hv3, hv⟩ := hv
          cases vals with
          | cons _ _ => cases hv
          | nil =>
            obtain ⟨c1, e1, hc1⟩ := hv1
            obtain ⟨c2, e2, hc2⟩ := hv2
            obtain ⟨c3, e3, hc3⟩ := hv3
            have e1 := (List.cons.inj e1).1
            have e2 := (List.cons.inj e2).1
            have e3 := (List.cons.inj e3).1
            subst e1 e2 e3
            obtain ⟨x, hx, rfl⟩ := hc1
            obtain ⟨y, hy, rfl⟩ := hc2
            exact outRow_ok hO h g hx hy hc3
  · cases h
theorem outP_of {f o1 cf ix : FuncId} {ti : TypeId} (hF : F f = some (outFn ti o1 cf)) (hF1 : F o1 = some out1Fn) (hFc : F cf = some (containsFn ix)) (hFi : F ix = some (indexFn 1 none)) (hH : ∀ c args σ, H c args σ = none) : OutP F H f :=
  fun σ lo hi v xs hv hn => out_ok hF hF1 hFc hFi (fun g _ args σ => hH _ _ _) hv hn
end Go.Ev.Sx
end SxCtOk
section SxTot
namespace Go.Ev.Sx
variable {F : FuncId → Option EFunc} {H : Caller}
def asks (tab : FuncId → Option EFunc) (ct : Ct) (n : Nat) (f : FuncId) (args : List SV) (S : SS) (hs : List Hint) (ok : SV → SS → Bool) : Bool :=
  match sxFn tab ct n ⟨[], []⟩ (.func f) args S hs with
  | some (l, _) => l.all fun p => ok p.1 p.2
  | none => false
theorem asks_ok {tab : FuncId → Option EFunc} {ct : Ct} (hT : ∀ f fn, tab f = some fn → F f = some fn) (hC : CtOK F H ct) (hH : ∀ c args σ, H c args σ = none) {n : Nat} {f : FuncId} {args : List SV} {S : SS} {hs : List Hint} {ok : SV → SS → Bool}
    (h : asks tab ct n f args S hs ok = true) {V : Val} {U : Nat → Prop} {σ : Store} {vals : List Value} (g : G V U S σ) (hv : F2 (SVR V U σ) args vals) :
    WC F H (.func f) vals (fun v σ' => ∃ sv S', ok sv S' = true ∧ ∃ V' U', G V' U' S' σ' ∧ Kp V U S σ V' U' S' σ' ∧ SVR V' U' σ' sv v) σ := by
  unfold asks at h
  cases hx : sxFn tab ct n ⟨[], []⟩ (.func f) args S hs with
  | none => rw [hx] at h; cases h
  | some r =>
    obtain ⟨l, h1⟩ := r
    rw [hx] at h
    have hK : WC F H (.func f) vals (CallR V U S σ l) σ := sxFn_ok hT hC hH n _ _ _ _ _ _ _ hx V U σ vals ⟨fun b y hb => (by cases hb), fun rc hr => (by cases hr)⟩ g hv
    refine hK.mono fun v σ' hq => ?_
    obtain ⟨sv, S', hm, V', U', q1, q2, q3, _⟩ := hq
    exact ⟨sv, S', List.all_eq_true.1 h _ hm, V', U', q1, q2, q3⟩
theorem ct_one {f : FuncId} (hO : OutP F H f) : CtOK F H (fun g as S => bif Nat.beq g f then some (outCt as S) else none) := by
  intro g as S l h V U σ vals gg hv
  replace h : (bif Nat.beq g f then some (outCt as S) else none) = some (some l) := h
  cases hb : Nat.beq g f with
  | false => rw [hb] at h; cases h
  | true =>
    rw [hb] at h
    have := Nat.eq_of_beq_eq_true hb
    subst this
    simp only [cond_true, Option.some.injEq] at h
    exact outCt_ok hO h gg hv
end Go.Ev.Sx
end SxTot
section EvHx
namespace Go.Ev
def hget {α : Type} (x : Nat) : List (Nat × α) → Option α
  | [] => none
  | (y, a) :: r => if x = y then some a else hget x r
inductive HV where
  | k (x : Value)
  | nm (i : Nat)
  | box (b o : Nat)
  | hp
  | clo (f : FuncId) (bs : List Nat)
inductive HW where
  | w (g : Bool) (cs : List HV)
  | tup (l : List (Bool × List HV))
  | any
inductive PIs where
  | nil
  | int (c : HV) (r : PIs)
  | bool (c : HV) (r : PIs)
  | lst (c : HV) (esz base : Nat) (el r : PIs)
def PIs.app : PIs → PIs → PIs
  | .nil, q => q
  | .int c r, q => .int c (r.app q)
  | .bool c r, q => .bool c (r.app q)
  | .lst c e b el r, q => .lst c e b el (r.app q)
theorem PIs.app_nil : ∀ p : PIs, p.app .nil = p
  | .nil => rfl
  | .int c r => by simp [PIs.app, PIs.app_nil r]
  | .bool c r => by simp [PIs.app, PIs.app_nil r]
  | .lst c e b el r => by simp [PIs.app, PIs.app_nil r]
theorem PIs.app_assoc : ∀ p q r : PIs, (p.app q).app r = p.app (q.app r)
  | .nil, _, _ => rfl
  | .int c p, q, r => by simp [PIs.app, PIs.app_assoc p]
  | .bool c p, q, r => by simp [PIs.app, PIs.app_assoc p]
  | .lst c e b el p, q, r => by simp [PIs.app, PIs.app_assoc p]
structure HS where
  env : List (Nat × HW)
  bx : List (Nat × List HV)
  lo : Nat
  nb : Nat
  nn : Nat
  used : Bool
  out : PIs
inductive HK where
  | int | bool
  | puts (esz : Nat) (sh : Option Nat)
  | code
structure HX where
  tab : FuncId → Option EFunc
  kd : FuncId → HK
  pg : FuncId
  pargs : List (Bool × List Nat)
  rs : List (Bool × Nat)
  nx : Nat
def simpleK : Value → Bool
  | .int _ _ | .bool _ | .nilFunc | .slice none 0 0 => true
  | _ => false
def HS.val (S : HS) : Operand → Option HW
  | .tmp t => hget t S.env
  | .const v => if simpleK v then some (.w false [.k v]) else none
  | .func f => some (.w false [.clo f []])
  | .global _ => none
def HS.cell (S : HS) (x : Operand) : Option HV := match S.val x with
  | some (.w false [c]) => some c
  | _ => none
def HS.vals (S : HS) : List Operand → Option (List HW)
  | [] => some []
  | x :: r => match S.val x, S.vals r with
    | some v, some vs => some (v :: vs)
    | _, _ => none
def HS.boxes (S : HS) : List Operand → Option (List Nat)
  | [] => some []
  | x :: r => match S.cell x, S.boxes r with
    | some (.box b 0), some bs => some (b :: bs)
    | _, _ => none
def HS.put (S : HS) (d : Option Tmp) (v : HW) : HS := match d with
  | some t => { S with env := (t, v) :: S.env }
  | none => S
def hxI (op : I) (S : HS) : Option (HW × HS) :=
  match op with
  | .mov x => (S.val x).map (·, S)
  | .ext x i => match S.val x with
    | some (.tup l) => (l[i]?).map fun p => (.w p.1 p.2, S)
    | _ => none
  | .addOff x o => match S.cell x with
    | some (.box b p) => some (.w false [.box b (p + o)], S)
    | _ => none
  | .nilc x => match S.cell x with
    | some (.box b p) => some (.w false [.box b p], S)
    | some .hp => some (.w false [.hp], S)
    | some (.clo f bs) => some (.w false [.clo f bs], S)
    | _ => none
  | .load n x => match S.cell x with
    | some (.box b o) => match hget b S.bx with
      | some cs => match n with
        | none => match cs[o]? with
          | some c => some (.w false [c], S)
          | none => none
        | some m => if o + m ≤ cs.length then some (.w true ((cs.drop o).take m), S) else none
      | none => none
    | _ => none
  | .store n x v => match S.cell x, S.val v with
    | some (.box b o), some (.w g vs) => match hget b S.bx with
      | some cs => if vs.length = n ∧ o + n ≤ cs.length ∧ S.lo ≤ b then some (.any, { S with bx := (b, cs.take o ++ vs ++ cs.drop (o + n)) :: S.bx }) else none
      | none => none
    | _, _ => none
  | .alloc e z => if z.all simpleK then some (.w false [.box S.nb 0], { S with nb := S.nb + 1, bx := (S.nb, z.map .k) :: S.bx }) else none
  | .box e x => match S.val x with
    | some (.w g cs) => some (.w false [.box S.nb 0], { S with nb := S.nb + 1, bx := (S.nb, cs) :: S.bx })
    | _ => none
  | .mkf f [] caps => (S.boxes caps).map fun bs => (.w false [.clo f bs], S)
  | _ => none
def names (i n : Nat) : List HV := (List.range n).map fun j => .nm (i + j)
def resNames : Nat → List (Bool × Nat) → List (Bool × List HV)
  | _, [] => []
  | i, (g, n) :: r => (g, names i n) :: resNames (i + n) r
def sumW : List (Bool × Nat) → Nat
  | [] => 0
  | (_, n) :: r => n + sumW r
def resHW (i : Nat) (rs : List (Bool × Nat)) : HW := match resNames i rs with
  | [(g, cs)] => .w g cs
  | l => .tup l
def isNms : List HV → List Nat → Bool
  | [], [] => true
  | .nm i :: r, j :: s => i == j && isNms r s
  | _, _ => false
def argsAre : List HW → List (Bool × List Nat) → Bool
  | [], [] => true
  | .w g cs :: r, (h, is) :: s => (g == h) && isNms cs is && argsAre r s
  | _, _ => false
abbrev HFn := FuncId → List HW → HS → Option (HW × HS)
def hxOp (K : HFn) (op : I) (S : HS) : Option (HW × HS) :=
  match op with
  | .call f args => match S.cell f, S.vals args with
    | some (.clo g []), some vs => K g vs S
    | _, _ => none
  | op => hxI op S
def hxOps (K : HFn) : List EOp → HS → Option HS
  | [], S => some S
  | o :: os, S => if o.guard.isSome then none else match hxOp K o.op S with
    | some (v, S1) => hxOps K os (S1.put o.dst v)
    | none => none
def hxCode (K : HFn) : EC → HS → Option (Bool × HS)
  | .skip, S => some (false, S)
  | .ret, S => some (true, S)
  | .reg ops, S => (hxOps K ops S).map (false, ·)
  | .seq x y, S => match hxCode K x S with
    | some (false, S1) => hxCode K y S1
    | r => r
  | _, _ => none
def argsHW : Nat → List HW → List (Nat × HW)
  | _, [] => []
  | i, v :: r => (i, v) :: argsHW (i + 1) r
def hxFn (X : HX) : Nat → HFn
  | 0, _, _, _ => none
  | n + 1, f, args, S =>
    match X.kd f with
    | .int => match args with
      | [.w false [.hp], .w false [c]] => some (.any, { S with out := S.out.app (.int c .nil) })
      | _ => none
    | .bool => match args with
      | [.w false [.hp], .w false [c]] => some (.any, { S with out := S.out.app (.bool c .nil) })
      | _ => none
    | .puts esz sh => match args with
      | [.w false [.hp], .w false [c], .w false [.clo g []]] =>
        if ¬ (X.nx ≤ S.nn ∧ 0 < esz ∧ (sh = some esz ∨ sh = none ∧ esz = 1)) then none else
        match hxFn X n g [.w false [.hp], .w sh.isSome (names S.nn esz)] { env := [], bx := [], lo := 0, nb := 0, nn := S.nn + esz, used := S.used, out := .nil } with
        | some (_, S1) => some (.any, { S with out := S.out.app (.lst c esz S.nn S1.out .nil) })
        | none => none
      | _ => none
    | .code =>
      if f = X.pg then
        if S.used = false ∧ S.nn = X.nx ∧ argsAre args X.pargs = true then some (resHW X.nx X.rs, { S with used := true, nn := X.nx + sumW X.rs }) else none
      else match X.tab f with
        | some fn => if args.length ≤ fn.ntmps then
            match hxCode (hxFn X n) fn.body { S with env := argsHW 0 args } with
            | some (_, S1) => match fn.results with
              | [] => some (.any, { S1 with env := S.env })
              | [(t, none)] => match hget t S1.env with
                | some v => some (v, { S1 with env := S.env })
                | none => none
              | _ => none
            | none => none
          else none
        | none => none
def mv (d n : Nat) : Value → Value
  | .slice (some p) l c => .slice (some ⟨sb d n p.block, p.off, p.spot⟩) l c
  | .pointer (some p) => .pointer (some ⟨sb d n p.block, p.off, p.spot⟩)
  | v => v
def lowV (n : Nat) (v : Value) : Prop := ∀ l, blockOf v = some l → l < n
theorem mv_low {d n : Nat} {v : Value} (h : lowV n v) : mv d n v = v := by
  unfold mv
  split
  · rename_i p l c; have := h p.block rfl; simp [sb, this]
  · rename_i p; have := h p.block rfl; simp [sb, this]
  · rfl
theorem oneC_mv {d n : Nat} {v : Value} (h : oneC v = true) : oneC (mv d n v) = true := by
  unfold mv; split <;> first | rfl | exact h
section
variable {σ0 : Store} {V : Nat → Value} {β : Nat → Option Nat} {η d : Nat} {u : Bool}
def HVR (σ0 : Store) (u : Bool) (d : Nat) (V : Nat → Value) (β : Nat → Option Nat) (η : Nat) : HV → Value → Prop
  | .k x, y => y = x ∧ simpleK x = true
  | .nm i, y => y = mv d σ0.size (V i) ∧ oneC (V i) = true ∧ (u = false → lowV σ0.size (V i))
  | .box b o, y => ∃ k, β b = some k ∧ y = .pointer (some ⟨k, o, none⟩)
  | .hp, y => y = .pointer (some ⟨η, 0, none⟩)
  | .clo f bs, y => ∃ ks : List Nat, L2 (fun b k => β b = some k) bs ks ∧ y = .func (.func f) #[] (ks.map fun k => Value.pointer (some ⟨k, 0, none⟩)).toArray
def HPR (σ0 : Store) (u : Bool) (d : Nat) (V : Nat → Value) (β : Nat → Option Nat) (η : Nat) (p : Bool × List HV) (y : Value) : Prop :=
  match p.1 with
  | true => ∃ vs, y = .agg vs.toArray ∧ L2 (HVR σ0 u d V β η) p.2 vs
  | false => ∃ c, p.2 = [c] ∧ HVR σ0 u d V β η c y
def HWR (σ0 : Store) (u : Bool) (d : Nat) (V : Nat → Value) (β : Nat → Option Nat) (η : Nat) : HW → Value → Prop
  | .w g cs, y => HPR σ0 u d V β η (g, cs) y
  | .tup l, y => ∃ vs, y = .tuple vs.toArray ∧ L2 (HPR σ0 u d V β η) l vs
  | .any, _ => True
theorem HVR.one {c : HV} {y : Value} (h : HVR σ0 u d V β η c y) : oneC y = true := by
  cases c with
  | k x => obtain ⟨rfl, h⟩ := h; cases y <;> first | rfl | simp [simpleK] at h
  | nm i => obtain ⟨rfl, h, _⟩ := h; exact oneC_mv h
  | box b o => obtain ⟨k, _, rfl⟩ := h; rfl
  | hp => cases h; rfl
  | clo f bs => obtain ⟨ks, _, rfl⟩ := h; rfl
structure Up (b : Nat) (u : Bool) (d : Nat) (β : Nat → Option Nat) (u' : Bool) (d' : Nat) (β' : Nat → Option Nat) : Prop where
  hu : u = true → u' = true ∧ d' = d
  β : ∀ b k, β b = some k → β' b = some k
  new : u = false → u' = true → b ≤ d'
theorem Up.refl (b : Nat) (u : Bool) (d : Nat) (β : Nat → Option Nat) : Up b u d β u d β := ⟨fun h => ⟨h, rfl⟩, fun _ _ h => h, fun h h' => by rw [h] at h'; cases h'⟩
theorem Up.trans {b : Nat} {u1 u2 u3 : Bool} {d1 d2 d3 : Nat} {β1 β2 β3 : Nat → Option Nat} (a : Up b u1 d1 β1 u2 d2 β2) (c : Up b u2 d2 β2 u3 d3 β3) : Up b u1 d1 β1 u3 d3 β3 :=
  ⟨fun h => by obtain ⟨h1, h2⟩ := a.hu h; obtain ⟨h3, h4⟩ := c.hu h1; exact ⟨h3, h4.trans h2⟩, fun k x h => c.β _ _ (a.β _ _ h), fun h h' => by
    cases e : u2 with
    | true => have := a.new h e; have := (c.hu e).2; omega
    | false => exact c.new e h'⟩
theorem HVR.up {b : Nat} {u' : Bool} {d' : Nat} {β' : Nat → Option Nat} (x : Up b u d β u' d' β') {c : HV} {y : Value} (h : HVR σ0 u d V β η c y) : HVR σ0 u' d' V β' η c y := by
  cases c with
  | k x => exact h
  | nm i =>
    obtain ⟨rfl, h1, h2⟩ := h
    cases hu : u with
    | true =>
      obtain ⟨q1, q2⟩ := x.hu hu
      subst q1; subst q2
      exact ⟨rfl, h1, fun e => by cases e⟩
    | false =>
      have hl := h2 hu
      exact ⟨by rw [mv_low hl, mv_low hl], h1, fun _ => hl⟩
  | box b o => obtain ⟨k, hk, rfl⟩ := h; exact ⟨k, x.β _ _ hk, rfl⟩
  | hp => exact h
  | clo f bs => obtain ⟨ks, hk, rfl⟩ := h; exact ⟨ks, hk.mono fun _ _ h => x.β _ _ h, rfl⟩
theorem HPR.up {b : Nat} {u' : Bool} {d' : Nat} {β' : Nat → Option Nat} (x : Up b u d β u' d' β') {p : Bool × List HV} {y : Value} (h : HPR σ0 u d V β η p y) : HPR σ0 u' d' V β' η p y := by
  obtain ⟨g, cs⟩ := p
  cases g with
  | true => obtain ⟨vs, rfl, h⟩ := h; exact ⟨vs, rfl, h.mono fun _ _ h => h.up x⟩
  | false => obtain ⟨c, h1, h⟩ := h; exact ⟨c, h1, h.up x⟩
theorem HWR.up {b : Nat} {u' : Bool} {d' : Nat} {β' : Nat → Option Nat} (x : Up b u d β u' d' β') {w : HW} {y : Value} (h : HWR σ0 u d V β η w y) : HWR σ0 u' d' V β' η w y := by
  cases w with
  | w g cs => exact HPR.up x h
  | tup l => obtain ⟨vs, rfl, h⟩ := h; exact ⟨vs, rfl, h.mono fun _ _ h => h.up x⟩
  | any => trivial
end
def hv (V : Nat → Value) : HV → Value
  | .nm i => V i
  | .k x => x
  | _ => undefE
def bindN (V : Nat → Value) (base n : Nat) (cs : List Value) : Nat → Value := fun i => if base ≤ i ∧ i < base + n then cs.getD (i - base) undefE else V i
def PIs.sem (τ0 : Nat → List Value) (D : Nat → Prop) : PIs → (Nat → Value) → List Value → List Value → Prop
  | .nil, _, A, B => A = [] ∧ B = []
  | .int c r, V, A, B => ∃ k n A', hv V c = .int k n ∧ A = .int k n :: A' ∧ r.sem τ0 D V A' B
  | .bool c r, V, A, B => ∃ b A', hv V c = .bool b ∧ A = .int .i64 (if b then 1 else 0) :: A' ∧ r.sem τ0 D V A' B
  | .lst c esz base el r, V, A, B => ∃ p n cap, ∃ Ai Bi : Nat → List Value, ∃ A' B', hv V c = .slice p n cap ∧ n ≤ 2 ^ 31 ∧
      ((p = none ∧ n = 0) ∨ ∃ l o, p = some ⟨l, o, none⟩ ∧ D l ∧ o + n * esz ≤ (τ0 l).length ∧ (∀ v ∈ τ0 l, okSh v = true) ∧ ∀ i, i < n → el.sem τ0 D (bindN V base esz ((τ0 l).drop (o + i * esz))) (Ai i) (Bi i)) ∧
      A = .int .i64 n :: (catN Ai n ++ A') ∧ B = catN Bi n ++ B' ∧ r.sem τ0 D V A' B'
theorem sem_app {τ0 : Nat → List Value} {D : Nat → Prop} : ∀ {p q : PIs} {V : Nat → Value} {A B : List Value}, (p.app q).sem τ0 D V A B ↔ ∃ A1 B1 A2 B2, p.sem τ0 D V A1 B1 ∧ q.sem τ0 D V A2 B2 ∧ A = A1 ++ A2 ∧ B = B1 ++ B2
  | .nil, q, V, A, B => by
    constructor
    · intro h; exact ⟨[], [], A, B, ⟨rfl, rfl⟩, h, rfl, rfl⟩
    · rintro ⟨A1, B1, A2, B2, ⟨rfl, rfl⟩, h, rfl, rfl⟩; exact h
  | .int c r, q, V, A, B => by
    constructor
    · rintro ⟨k, n, A', h1, rfl, h2⟩
      obtain ⟨A1, B1, A2, B2, a, b, rfl, rfl⟩ := sem_app.1 h2
      exact ⟨_, _, A2, B2, ⟨k, n, A1, h1, rfl, a⟩, b, rfl, rfl⟩
    · rintro ⟨A1, B1, A2, B2, ⟨k, n, A', h1, rfl, a⟩, b, rfl, rfl⟩
      exact ⟨k, n, A' ++ A2, h1, rfl, sem_app.2 ⟨_, _, _, _, a, b, rfl, rfl⟩⟩
  | .bool c r, q, V, A, B => by
    constructor
    · rintro ⟨k, A', h1, rfl, h2⟩
      obtain ⟨A1, B1, A2, B2, a, b, rfl, rfl⟩ := sem_app.1 h2
      exact ⟨_, _, A2, B2, ⟨k, A1, h1, rfl, a⟩, b, rfl, rfl⟩
    · rintro ⟨A1, B1, A2, B2, ⟨k, A', h1, rfl, a⟩, b, rfl, rfl⟩
      exact ⟨k, A' ++ A2, h1, rfl, sem_app.2 ⟨_, _, _, _, a, b, rfl, rfl⟩⟩
  | .lst c e base el r, q, V, A, B => by
    constructor
    · rintro ⟨p, n, cap, Ai, Bi, A', B', h1, h2, h3, rfl, rfl, h4⟩
      obtain ⟨A1, B1, A2, B2, a, b, rfl, rfl⟩ := sem_app.1 h4
      exact ⟨_, _, A2, B2, ⟨p, n, cap, Ai, Bi, A1, B1, h1, h2, h3, rfl, rfl, a⟩, b, by simp, by simp⟩
    · rintro ⟨A1, B1, A2, B2, ⟨p, n, cap, Ai, Bi, A', B', h1, h2, h3, rfl, rfl, a⟩, b, rfl, rfl⟩
      exact ⟨p, n, cap, Ai, Bi, A' ++ A2, B' ++ B2, h1, h2, h3, by simp, by simp, sem_app.2 ⟨_, _, _, _, a, b, rfl, rfl⟩⟩
end Go.Ev
end EvHx
section EvHx2
namespace Go.Ev
theorem Ext.grow {σ0 σ : Store} (h : Ext σ0 σ) (o : EObj) : Ext σ0 (σ.alloc o) :=
  ⟨by have := h.size; rw [Store.size_alloc]; omega, fun l hl => by have := h.size; rw [Store.get_alloc, if_neg (by omega)]; exact h.same l hl⟩
structure HG (t : HT) (σ0 : Store) (τ0 : Nat → List Value) (D : Nat → Prop) (V : Nat → Value) (d : Nat) (β : Nat → Option Nat) (η : Nat) (σs : Store) (sn0 ss0 : Value) (N B : List Value) (S : HS) (σ : Store) : Prop where
  hp : ∃ sn ss, HAt t σ η N B sn ss ∧ KeepH σs σ η sn0 ss0 sn ss ∧ ∀ l, ownH η sn ss l → σ0.size ≤ l ∧ (∀ l0, D l0 → (S.used = true ∨ l0 < σ0.size) → l ≠ sb d σ0.size l0) ∧ ∀ b, β b ≠ some l
  x0 : Ext σ0 σ
  lk : ∀ l0, D l0 → (S.used = true ∨ l0 < σ0.size) → ∃ st e, σ.get (sb d σ0.size l0) = some (.cells st e ((τ0 l0).map (mv d σ0.size))) ∧ (σ0.size ≤ l0 → st ≠ .ro)
  bx : ∀ b cs, hget b S.bx = some cs → ∃ k e vs, β b = some k ∧ σ.get k = some (.cells .rw e vs) ∧ L2 (HVR σ0 S.used d V β η) cs vs
  inj : ∀ b b' k, β b = some k → β b' = some k → b = b'
  bk : ∀ b k, β b = some k → σ0.size ≤ k ∧ k < σ.size ∧ (∀ l0, D l0 → (S.used = true ∨ l0 < σ0.size) → k ≠ sb d σ0.size l0) ∧ (S.lo ≤ b → σs.size ≤ k) ∧ b < S.nb
def GEh (σ0 : Store) (V : Nat → Value) (d : Nat) (β : Nat → Option Nat) (η : Nat) (S : HS) (a : Env) : Prop := ∀ t w, hget t S.env = some w → HWR σ0 S.used d V β η w (a.get t)
section
variable {t : HT} {σ0 : Store} {τ0 : Nat → List Value} {D : Nat → Prop} {V : Nat → Value} {d : Nat} {β : Nat → Option Nat} {η : Nat} {σs : Store} {sn0 ss0 : Value} {N B : List Value} {S : HS} {σ : Store} {a : Env}
theorem val_h (ge : GEh σ0 V d β η S a) {x : Operand} {w : HW} (h : S.val x = some w) : HWR σ0 S.used d V β η w (a.eval x) := by
  cases x with
  | tmp t => exact ge t w h
  | const v =>
    simp only [HS.val] at h
    split at h
    · rename_i hs
      cases h
      exact ⟨_, rfl, rfl, hs⟩
    · cases h
  | func f => cases h; exact ⟨_, rfl, [], .nil, rfl⟩
  | global g => cases h
theorem cell_h (ge : GEh σ0 V d β η S a) {x : Operand} {c : HV} (h : S.cell x = some c) : HVR σ0 S.used d V β η c (a.eval x) := by
  unfold HS.cell at h
  split at h
  · rename_i c' hc
    cases h
    obtain ⟨c2, h1, h2⟩ := val_h ge hc
    cases h1; exact h2
  · cases h
theorem vals_h (ge : GEh σ0 V d β η S a) : ∀ {xs : List Operand} {ws : List HW}, S.vals xs = some ws → L2 (HWR σ0 S.used d V β η) ws (xs.map a.eval)
  | [], ws, h => by cases h; exact .nil
  | x :: r, ws, h => by
    simp only [HS.vals] at h
    split at h
    · rename_i v vs h1 h2
      cases h
      exact .cons (val_h ge h1) (vals_h ge h2)
    · cases h
theorem boxes_h (ge : GEh σ0 V d β η S a) : ∀ {xs : List Operand} {bs : List Nat}, S.boxes xs = some bs → ∃ ks : List Nat, L2 (fun b k => β b = some k) bs ks ∧ xs.map a.eval = ks.map fun k => Value.pointer (some ⟨k, 0, none⟩)
  | [], bs, h => by cases h; exact ⟨[], .nil, rfl⟩
  | x :: r, bs, h => by
    simp only [HS.boxes] at h
    split at h
    · rename_i b bs' h1 h2
      cases h
      obtain ⟨k, hk, he⟩ := cell_h ge h1
      obtain ⟨ks, h3, h4⟩ := boxes_h ge h2
      exact ⟨k :: ks, .cons hk h3, by simp [he, h4]⟩
    · cases h
theorem GEh.put (ge : GEh σ0 V d β η S a) {o : Option Tmp} {w : HW} {v : Value} (h : HWR σ0 S.used d V β η w v) : GEh σ0 V d β η (S.put o w) (a.put o v) := by
  cases o with
  | none => exact ge
  | some x =>
    intro t w' ht
    simp only [HS.put, hget] at ht
    simp only [Env.put, Env.get_put]
    by_cases e : t = x
    · subst e
      simp only [if_true, Option.some.injEq] at ht; subst ht
      rw [if_pos rfl]; exact h
    · rw [if_neg e] at ht ⊢
      exact ge t w' ht
theorem L2.all_one {u : Bool} : ∀ {cs : List HV} {vs : List Value}, L2 (HVR σ0 u d V β η) cs vs → vs.all oneC = true
  | _, _, .nil => rfl
  | _, _, .cons h hs => by simp only [List.all_cons, h.one, L2.all_one hs, Bool.and_self]
theorem vcells_h {u : Bool} {g : Bool} {cs : List HV} {y : Value} (h : HWR σ0 u d V β η (.w g cs) y) : L2 (HVR σ0 u d V β η) cs (vcells y) := by
  cases g with
  | true => obtain ⟨vs, rfl, h⟩ := h; exact h
  | false =>
    obtain ⟨c, h1, h⟩ := h
    simp only at h1; subst h1
    have : vcells y = [y] := by
      have := h.one
      cases y <;> first | rfl | cases this
    rw [this]; exact .cons h .nil
theorem HG.newBox (g : HG t σ0 τ0 D V d β η σs sn0 ss0 N B S σ) {cs : List HV} {vs : List Value} (hv : L2 (HVR σ0 S.used d V β η) cs vs) (e : TypeId) :
    ∃ β', Up (σs.size - σ0.size) S.used d β S.used d β' ∧ β' S.nb = some σ.size ∧ HG t σ0 τ0 D V d β' η σs sn0 ss0 N B { S with nb := S.nb + 1, bx := (S.nb, cs) :: S.bx } (σ.alloc (.cells .rw e vs)) := by
  have hup : Up (σs.size - σ0.size) S.used d β S.used d (fun b => if b = S.nb then some σ.size else β b) := ⟨fun h => ⟨h, rfl⟩, fun b k h => by
    have := (g.bk b k h).2.2.2.2
    show (if b = S.nb then _ else _) = _
    rw [if_neg (by omega)]; exact h, fun h h' => by rw [h] at h'; cases h'⟩
  obtain ⟨sn, ss, hA, hk, ho⟩ := g.hp
  refine ⟨fun b => if b = S.nb then some σ.size else β b, hup, if_pos rfl, ⟨⟨sn, ss, hA.alloc _, hk.trans (KeepH.alloc ..), fun l hl => ?_⟩, g.x0.grow _, fun l0 hd hu => ?_, fun b cs' hb => ?_, fun b b' k h1 h2 => ?_, fun b k h => ?_⟩⟩
  · obtain ⟨o1, o2, o3⟩ := ho l hl
    refine ⟨o1, o2, fun b hb => ?_⟩
    have hb' : (if b = S.nb then some σ.size else β b) = some l := hb
    split at hb'
    · cases hb'; have := hA.lt hl; omega
    · exact o3 b hb'
  · obtain ⟨st, e', h1, h2⟩ := g.lk l0 hd hu
    exact ⟨st, e', by rw [Store.get_alloc, if_neg (by have := Store.get_lt h1; omega)]; exact h1, h2⟩
  · have hb' : (if b = S.nb then some cs else hget b S.bx) = some cs' := hb
    split at hb'
    · rename_i hb0
      cases hb'
      exact ⟨σ.size, e, vs, if_pos hb0, by rw [Store.get_alloc, if_pos rfl], hv.mono fun _ _ h => h.up hup⟩
    · obtain ⟨k, e', vs', h1, h2, h3⟩ := g.bx b cs' hb'
      exact ⟨k, e', vs', hup.β _ _ h1, by rw [Store.get_alloc, if_neg (by have := Store.get_lt h2; omega)]; exact h2, h3.mono fun _ _ h => h.up hup⟩
  · have h1' : (if b = S.nb then some σ.size else β b) = some k := h1
    have h2' : (if b' = S.nb then some σ.size else β b') = some k := h2
    split at h1'
    · split at h2'
      · omega
      · cases h1'; have := (g.bk _ _ h2').2.1; omega
    · split at h2'
      · cases h2'; have := (g.bk _ _ h1').2.1; omega
      · exact g.inj _ _ _ h1' h2'
  · have h' : (if b = S.nb then some σ.size else β b) = some k := h
    split at h'
    · rename_i hb0
      cases h'
      refine ⟨g.x0.size, by rw [Store.size_alloc]; omega, fun l0 hd hu => ?_, fun _ => hk.size, by show b < S.nb + 1; omega⟩
      obtain ⟨st, e', h1, h2⟩ := g.lk l0 hd hu
      have := Store.get_lt h1; omega
    · obtain ⟨q1, q2, q3, q4, q5⟩ := g.bk b k h'
      exact ⟨q1, by rw [Store.size_alloc]; omega, q3, q4, by show b < S.nb + 1; omega⟩
theorem L2.take_drop {α γ : Type} {R : α → γ → Prop} {xs : List α} {ys : List γ} (h : L2 R xs ys) (o n : Nat) : L2 R ((xs.drop o).take n) ((ys.drop o).take n) := (h.drop o).take n
theorem hxI_ok (g : HG t σ0 τ0 D V d β η σs sn0 ss0 N B S σ) (ge : GEh σ0 V d β η S a) {op : I} {w : HW} {S1 : HS} (h : hxI op S = some (w, S1)) :
    op.isCall = false ∧ S1.out = S.out ∧ S1.used = S.used ∧ S1.lo = S.lo ∧ S1.nn = S.nn ∧ S1.env = S.env ∧ ∃ v σ' β', evI op a σ = some (v, σ') ∧ Up (σs.size - σ0.size) S.used d β S.used d β' ∧ HG t σ0 τ0 D V d β' η σs sn0 ss0 N B S1 σ' ∧ HWR σ0 S.used d V β' η w v := by
  cases op with
  | mov x =>
    simp only [hxI, Option.map_eq_some_iff, Prod.mk.injEq] at h
    obtain ⟨w', h1, rfl, rfl⟩ := h
    exact ⟨rfl, rfl, rfl, rfl, rfl, rfl, _, σ, β, rfl, .refl _ _ _ _, g, val_h ge h1⟩
  | ext x i =>
    simp only [hxI] at h
    split at h
    · rename_i l hx
      simp only [Option.map_eq_some_iff, Prod.mk.injEq] at h
      obtain ⟨p, hp, rfl, rfl⟩ := h
      obtain ⟨vs, he, hl⟩ := val_h ge hx
      obtain ⟨y, hy, hr⟩ := hl.get hp
      refine ⟨rfl, rfl, rfl, rfl, rfl, rfl, y, σ, β, ?_, .refl _ _ _ _, g, hr⟩
      simp only [evI, he]
      simp [hy]
    · cases h
  | addOff x o =>
    simp only [hxI] at h
    split at h
    · rename_i b p hx
      cases h
      obtain ⟨k, hk, he⟩ := cell_h ge hx
      exact ⟨rfl, rfl, rfl, rfl, rfl, rfl, _, σ, β, by simp only [evI, he, addr_add], .refl _ _ _ _, g, _, rfl, k, hk, rfl⟩
    · cases h
  | nilc x =>
    simp only [hxI] at h
    split at h
    · rename_i b p hx
      cases h
      obtain ⟨k, hk, he⟩ := cell_h ge hx
      exact ⟨rfl, rfl, rfl, rfl, rfl, rfl, _, σ, β, by simp only [evI, he], .refl _ _ _ _, g, _, rfl, k, hk, rfl⟩
    · rename_i hx
      cases h
      have he : a.eval x = .pointer (some ⟨η, 0, none⟩) := cell_h ge hx
      exact ⟨rfl, rfl, rfl, rfl, rfl, rfl, _, σ, β, by simp only [evI, he], .refl _ _ _ _, g, _, rfl, rfl⟩
    · rename_i f bs hx
      cases h
      obtain ⟨ks, hk, he⟩ := cell_h ge hx
      exact ⟨rfl, rfl, rfl, rfl, rfl, rfl, _, σ, β, by simp only [evI, he], .refl _ _ _ _, g, _, rfl, ks, hk, rfl⟩
    · cases h
  | load n x =>
    simp only [hxI] at h
    split at h
    · rename_i b o hx
      split at h
      · rename_i cs hb
        obtain ⟨k, hk, he⟩ := cell_h ge hx
        obtain ⟨k', e, vs, hk', hg, hl⟩ := g.bx b cs hb
        rw [hk] at hk'; cases hk'
        split at h
        · split at h
          · rename_i c hc
            cases h
            obtain ⟨y, hy, hr⟩ := hl.get hc
            exact ⟨rfl, rfl, rfl, rfl, rfl, rfl, y, σ, β, by simp only [evI, he, loadE, hg, hy, Option.map_some], .refl _ _ _ _, g, _, rfl, hr⟩
          · cases h
        · rename_i m
          split at h
          · rename_i hle
            cases h
            refine ⟨rfl, rfl, rfl, rfl, rfl, rfl, .agg ((vs.drop o).take m).toArray, σ, β, ?_, .refl _ _ _ _, g, _, rfl, L2.take_drop hl o m⟩
            simp only [evI, he, loadE, hg]
            rw [if_pos (by have := hl.length; omega)]; rfl
          · cases h
      · cases h
    · cases h
  | store n x y =>
    simp only [hxI] at h
    split at h
    · rename_i b o gg vs hx hy
      split at h
      · rename_i cs hb
        split at h
        · rename_i hc
          obtain ⟨hn, hle, hlo⟩ := hc
          cases h
          obtain ⟨k, hk, he⟩ := cell_h ge hx
          obtain ⟨k', e, ws, hk', hg, hl⟩ := g.bx b cs hb
          rw [hk] at hk'; cases hk'
          have hvs := vcells_h (val_h ge hy)
          have hlen := hvs.length
          have hlen2 := hl.length
          have hlt := Store.get_lt hg
          obtain ⟨q1, q2, q3, q4, q5⟩ := g.bk b k hk
          have hgs : ∀ l, l ≠ k → (σ.set k (.cells .rw e (ws.take o ++ vcells (a.eval y) ++ ws.drop (o + (vcells (a.eval y)).length)))).get l = σ.get l := fun l hl => by rw [Store.get_set _ _ _ _ hlt, if_neg hl]
          obtain ⟨sn, ss, hA, hkp, ho⟩ := g.hp
          have hno : ∀ l, ownH η sn ss l → l ≠ k := fun l hl e => (ho l hl).2.2 b (by rw [e]; exact hk)
          refine ⟨rfl, rfl, rfl, rfl, rfl, rfl, undefE, σ.set k (.cells .rw e (ws.take o ++ vcells (a.eval y) ++ ws.drop (o + (vcells (a.eval y)).length))), β, ?_, .refl _ _ _ _, ⟨⟨sn, ss, hA.keep fun l hl => hgs l (hno l hl), ⟨hkp.size, fun l hl hn => by rw [hgs l (by have := q4 hlo; omega)]; exact hkp.same l hl hn, hkp.own⟩, ho⟩, ⟨g.x0.size, fun l hl => by rw [hgs l (by omega)]; exact g.x0.same l hl⟩, fun l0 hd hu => ?_, fun b' cs' hb' => ?_, g.inj, g.bk⟩, trivial⟩
          · simp only [evI, he, storeE, hg]
            rw [if_pos (by omega), if_pos ⟨by decide, by omega, L2.all_one hvs⟩]; rfl
          · obtain ⟨st, e', h1, h2⟩ := g.lk l0 hd hu
            exact ⟨st, e', by rw [hgs _ (Ne.symm (q3 l0 hd hu))]; exact h1, h2⟩
          · have hb2 : (if b' = b then some (cs.take o ++ vs ++ cs.drop (o + n)) else hget b' S.bx) = some cs' := hb'
            split at hb2
            · rename_i eb
              subst eb
              cases hb2
              refine ⟨k, e, _, hk, by rw [Store.get_set _ _ _ _ hlt, if_pos rfl], ?_⟩
              have := ((hl.take o).append hvs).append (hl.drop (o + n))
              rw [show (vcells (a.eval y)).length = n by omega]; exact this
            · rename_i eb
              obtain ⟨k2, e2, ws2, h1, h2, h3⟩ := g.bx b' cs' hb2
              exact ⟨k2, e2, ws2, h1, by rw [hgs k2 (fun e => eb (g.inj _ _ _ (e ▸ h1) hk))]; exact h2, h3⟩
        · cases h
      · cases h
    · cases h
  | alloc e z =>
    simp only [hxI] at h
    split at h
    · rename_i hz
      cases h
      have hv : L2 (HVR σ0 S.used d V β η) (z.map .k) z := by
        clear ge g
        induction z with
        | nil => exact .nil
        | cons v z ih =>
          simp only [List.all_cons, Bool.and_eq_true] at hz
          exact .cons ⟨rfl, hz.1⟩ (ih hz.2)
      obtain ⟨β', x, hb, g'⟩ := g.newBox hv e
      exact ⟨rfl, rfl, rfl, rfl, rfl, rfl, _, _, β', rfl, x, g', _, rfl, _, hb, rfl⟩
    · cases h
  | box e x =>
    simp only [hxI] at h
    split at h
    · rename_i gg cs hx
      cases h
      obtain ⟨β', x, hb, g'⟩ := g.newBox (vcells_h (val_h ge hx)) e
      exact ⟨rfl, rfl, rfl, rfl, rfl, rfl, _, _, β', rfl, x, g', _, rfl, _, hb, rfl⟩
    · cases h
  | mkf f fs caps =>
    cases fs with
    | cons _ _ => simp [hxI] at h
    | nil =>
      simp only [hxI, Option.map_eq_some_iff, Prod.mk.injEq] at h
      obtain ⟨bs, h1, rfl, rfl⟩ := h
      obtain ⟨ks, h2, h3⟩ := boxes_h ge h1
      exact ⟨rfl, rfl, rfl, rfl, rfl, rfl, _, σ, β, rfl, .refl _ _ _ _, g, _, rfl, ks, h2, by simp only [h3, List.map_nil]⟩
  | _ => simp [hxI] at h
end
end Go.Ev
end EvHx2
section EvHx3
namespace Go.Ev
def argV (V : Nat → Value) (p : Bool × List Nat) : Value := match p.1 with
  | true => .agg (p.2.map V).toArray
  | false => V (p.2.headD 0)
def compV (f : Nat → Value) (i : Nat) (p : Bool × Nat) : Value := match p.1 with
  | true => .agg ((List.range p.2).map fun j => f (i + j)).toArray
  | false => f i
def compsV (f : Nat → Value) : Nat → List (Bool × Nat) → List Value
  | _, [] => []
  | i, p :: r => compV f i p :: compsV f (i + p.2) r
def resVal (f : Nat → Value) (i : Nat) (rs : List (Bool × Nat)) : Value := packE (compsV f i rs)
theorem shC_mv {d n : Nat} {v : Value} (h : okSh v = true) : shC d n v = some (mv d n v) := by
  cases v <;> simp only [okSh] at h <;> try (cases h)
  case bool b => rfl
  case int k x => rfl
  case string s => rfl
  case pointer p => cases p <;> rfl
  case slice p l c => cases p <;> rfl
  case map m => cases m <;> first | rfl | cases h
  case nilFunc => rfl
  case nilIface => rfl
theorem shL_mv {d n : Nat} : ∀ {vs : List Value}, vs.all okSh = true → shL d n vs = some (vs.map (mv d n))
  | [], _ => rfl
  | v :: vs, h => by
    simp only [List.all_cons, Bool.and_eq_true] at h
    simp only [shL, shC_mv h.1, shL_mv h.2, List.map_cons]
structure HC (t : HT) (F : FuncId → Option EFunc) (H : Caller) (X : HX) (σ0 τ : Store) (τ0 : Nat → List Value) (D : Nat → Prop) (V0 : Nat → Value) : Prop where
  code : ∀ f fn, X.tab f = some fn → F f = some fn ∧ ∀ args σ, H (.func f) args σ = none
  kint : ∀ f, X.kd f = .int → F f = some (putIntFn t.int) ∧ ∀ args σ, H (.func f) args σ = none
  kbool : ∀ f, X.kd f = .bool → F f = some (putBoolFn t.int) ∧ ∀ args σ, H (.func f) args σ = none
  kputs : ∀ f esz sh, X.kd f = .puts esz sh → F f = some (putsFn t.int esz sh) ∧ ∀ args σ, H (.func f) args σ = none
  call : ∀ σ, Ext σ0 σ → H (.func X.pg) (X.pargs.map (argV V0)) σ = some (resVal (fun i => mv (σ.size - σ0.size) σ0.size (V0 i)) X.nx X.rs, embed (σ.size - σ0.size) σ0.size τ (τ.size - σ0.size) σ)
  pn : ∀ p ∈ X.pargs, (∀ i ∈ p.2, i < X.nx) ∧ (p.1 = false → p.2.length = 1)
  rn : ∀ p ∈ X.rs, p.1 = false → p.2 = 1
  one : ∀ i, i < X.nx + sumW X.rs → oneC (V0 i) = true
  low0 : ∀ i, i < X.nx → lowV σ0.size (V0 i)
  lowc : ∀ l, l < σ0.size → ∀ v ∈ τ0 l, lowV σ0.size v
  dom : ∀ l, D l → σ0.size ≤ l → ∃ st e, τ.get l = some (.cells st e (τ0 l)) ∧ (τ0 l).all okSh = true ∧ st ≠ .ro
section
variable {t : HT} {F : FuncId → Option EFunc} {H : Caller} {X : HX} {σ0 τ : Store} {τ0 : Nat → List Value} {D : Nat → Prop} {V0 : Nat → Value}
def CV (X : HX) (V0 V : Nat → Value) (S : HS) : Prop := S.nn = X.nx → S.used = false → ∀ i, i < X.nx + sumW X.rs → V i = V0 i
def Fine (N A : List Value) : Prop := N.length + A.length ≤ 2 ^ 31
def HOK (t : HT) (F : FuncId → Option EFunc) (H : Caller) (X : HX) (σ0 : Store) (τ0 : Nat → List Value) (D : Nat → Prop) (V0 : Nat → Value) (K : HFn) : Prop :=
  ∀ g args S r S', K g args S = some (r, S') → S'.env = S.env ∧ S'.lo = S.lo ∧ (S'.used = false → S.used = false ∧ S'.nn = S.nn) ∧ ∃ rest, S'.out = S.out.app rest ∧
    ∀ V d β η σs sn0 ss0 N B σ vals A1 B1, HG t σ0 τ0 D V d β η σs sn0 ss0 N B S σ → L2 (HWR σ0 S.used d V β η) args vals → CV X V0 V S → rest.sem τ0 D V A1 B1 → Fine N A1 → Fine B B1 →
      WC F H (.func g) vals (fun v σ' => ∃ d' β', Up (σs.size - σ0.size) S.used d β S'.used d' β' ∧ HG t σ0 τ0 D V d' β' η σs sn0 ss0 (N ++ A1) (B ++ B1) S' σ' ∧ HWR σ0 S'.used d' V β' η r v) σ
theorem GEh.up {b : Nat} {V : Nat → Value} {d d' : Nat} {β β' : Nat → Option Nat} {η : Nat} {S S' : HS} {a : Env} (ge : GEh σ0 V d β η S a) (x : Up b S.used d β S'.used d' β') (he : S'.env = S.env) : GEh σ0 V d' β' η S' a := fun t w h => (ge t w (by rw [← he]; exact h)).up x
theorem HG.setEnv {V : Nat → Value} {d : Nat} {β : Nat → Option Nat} {η : Nat} {σs : Store} {sn0 ss0 : Value} {N B : List Value} {S : HS} {σ : Store} (g : HG t σ0 τ0 D V d β η σs sn0 ss0 N B S σ) (e : List (Nat × HW)) : HG t σ0 τ0 D V d β η σs sn0 ss0 N B { S with env := e } σ :=
  ⟨g.hp, g.x0, g.lk, g.bx, g.inj, g.bk⟩
theorem HG.put {V : Nat → Value} {d : Nat} {β : Nat → Option Nat} {η : Nat} {σs : Store} {sn0 ss0 : Value} {N B : List Value} {S : HS} {σ : Store} (g : HG t σ0 τ0 D V d β η σs sn0 ss0 N B S σ) (o : Option Tmp) (w : HW) : HG t σ0 τ0 D V d β η σs sn0 ss0 N B (S.put o w) σ := by
  cases o with
  | none => exact g
  | some x => exact g.setEnv _
theorem put_out (S : HS) (o : Option Tmp) (w : HW) : (S.put o w).out = S.out ∧ (S.put o w).used = S.used ∧ (S.put o w).lo = S.lo ∧ (S.put o w).nn = S.nn := by cases o <;> exact ⟨rfl, rfl, rfl, rfl⟩
theorem hxI_same {op : I} {S S1 : HS} {w : HW} (h : hxI op S = some (w, S1)) : S1.out = S.out ∧ S1.used = S.used ∧ S1.lo = S.lo ∧ S1.nn = S.nn ∧ S1.env = S.env := by
  cases op with
  | mov x => simp only [hxI, Option.map_eq_some_iff, Prod.mk.injEq] at h; obtain ⟨w', h1, rfl, rfl⟩ := h; exact ⟨rfl, rfl, rfl, rfl, rfl⟩
  | ext x i =>
    simp only [hxI] at h
    split at h
    · simp only [Option.map_eq_some_iff, Prod.mk.injEq] at h; obtain ⟨p, hp, rfl, rfl⟩ := h; exact ⟨rfl, rfl, rfl, rfl, rfl⟩
    · cases h
  | addOff x o => simp only [hxI] at h; split at h <;> cases h; exact ⟨rfl, rfl, rfl, rfl, rfl⟩
  | nilc x => simp only [hxI] at h; split at h <;> cases h <;> exact ⟨rfl, rfl, rfl, rfl, rfl⟩
  | load n x =>
    simp only [hxI] at h
    split at h
    · split at h
      · split at h
        · split at h <;> cases h; exact ⟨rfl, rfl, rfl, rfl, rfl⟩
        · split at h <;> cases h; exact ⟨rfl, rfl, rfl, rfl, rfl⟩
      · cases h
    · cases h
  | store n x y =>
    simp only [hxI] at h
    split at h
    · split at h
      · split at h <;> cases h; exact ⟨rfl, rfl, rfl, rfl, rfl⟩
      · cases h
    · cases h
  | alloc e z => simp only [hxI] at h; split at h <;> cases h; exact ⟨rfl, rfl, rfl, rfl, rfl⟩
  | box e x => simp only [hxI] at h; split at h <;> cases h; exact ⟨rfl, rfl, rfl, rfl, rfl⟩
  | mkf f fs caps =>
    cases fs with
    | cons _ _ => simp [hxI] at h
    | nil => simp only [hxI, Option.map_eq_some_iff, Prod.mk.injEq] at h; obtain ⟨bs, h1, rfl, rfl⟩ := h; exact ⟨rfl, rfl, rfl, rfl, rfl⟩
  | _ => simp [hxI] at h
theorem hxOps_ok {K : HFn} (hK : HOK t F H X σ0 τ0 D V0 K) : ∀ {ops : List EOp} {S S' : HS}, hxOps K ops S = some S' → S'.lo = S.lo ∧ (S'.used = false → S.used = false ∧ S'.nn = S.nn) ∧ ∃ rest, S'.out = S.out.app rest ∧
    ∀ V d β η σs sn0 ss0 N B σ a A1 B1, HG t σ0 τ0 D V d β η σs sn0 ss0 N B S σ → GEh σ0 V d β η S a → CV X V0 V S → rest.sem τ0 D V A1 B1 → Fine N A1 → Fine B B1 →
      WO F H ops (fun a' σ' => ∃ d' β', Up (σs.size - σ0.size) S.used d β S'.used d' β' ∧ HG t σ0 τ0 D V d' β' η σs sn0 ss0 (N ++ A1) (B ++ B1) S' σ' ∧ GEh σ0 V d' β' η S' a') a σ
  | [], S, S', h => by
    simp only [hxOps, Option.some.injEq] at h; subst h
    refine ⟨rfl, fun h => ⟨h, rfl⟩, .nil, (PIs.app_nil _).symm, ?_⟩
    rintro V d β η σs sn0 ss0 N B σ a A1 B1 g ge hc ⟨rfl, rfl⟩ _ _
    exact WO_nil ⟨d, β, .refl _ _ _ _, by simpa using g, ge⟩
  | ⟨dst, op, gd, win⟩ :: os, S, S', h => by
    simp only [hxOps] at h
    split at h
    · cases h
    · rename_i hg
      have : gd = none := by cases gd <;> simp_all
      subst this
      split at h
      · rename_i w S1 hop
        obtain ⟨p1, p2, p3, p4⟩ := put_out S1 dst w
        obtain ⟨i1, i2, rest2, i3, i4⟩ := hxOps_ok hK h
        rw [p3] at i1; rw [p1] at i3
        rw [p2] at i2; rw [p4] at i2
        by_cases hcall : op.isCall = true
        · cases op <;> simp [I.isCall] at hcall
          rename_i f args
          simp only [hxOp] at hop
          split at hop
          · rename_i g vs hf hv
            obtain ⟨j0, j1, j2, rest1, j3, j4⟩ := hK g vs S w S1 hop
            refine ⟨i1.trans j1, fun hu => ?_, rest1.app rest2, by rw [i3, j3, PIs.app_assoc], ?_⟩
            · obtain ⟨a1, a2⟩ := i2 hu
              obtain ⟨b1, b2⟩ := j2 a1
              exact ⟨b1, a2.trans b2⟩
            · intro V d β η σs sn0 ss0 N B σ a A1 B1 gg ge hc hsem hf1 hf2
              obtain ⟨Ax, Bx, Ay, By, s1, s2, rfl, rfl⟩ := sem_app.1 hsem
              obtain ⟨ks, hks, he⟩ := cell_h ge hf
              cases hks
              unfold Fine at hf1 hf2
              rw [List.length_append] at hf1 hf2
              have hw := j4 V d β η σs sn0 ss0 N B σ (args.map a.eval) Ax Bx gg (vals_h ge hv) hc s1 (by unfold Fine; omega) (by unfold Fine; omega)
              refine sO_call rfl he (by simp) (hw.mono ?_)
              rintro v σ' ⟨d', β', x, g', hr⟩
              have ge1 : GEh σ0 V d' β' η S1 a := ge.up x j0
              have hc1 : CV X V0 V (S1.put dst w) := fun e1 e2 => by
                rw [p4] at e1; rw [p2] at e2
                obtain ⟨b1, b2⟩ := j2 e2
                exact hc (b2 ▸ e1) b1
              have := i4 V d' β' η σs sn0 ss0 (N ++ Ax) (B ++ Bx) σ' (a.put dst v) Ay By (g'.put dst w) (ge1.put hr) hc1 s2 (by unfold Fine; rw [List.length_append]; omega) (by unfold Fine; rw [List.length_append]; omega)
              refine this.mono ?_
              rintro a' σ2 ⟨d2, β2, x2, g2, ge2⟩
              rw [p2] at x2
              exact ⟨d2, β2, x.trans x2, by simpa using g2, ge2⟩
          · cases hop
        · have hop' : hxI op S = some (w, S1) := by
            cases op <;> first | exact hop | (exfalso; apply hcall; rfl)
          obtain ⟨k1, k2, k3, k4, k5⟩ := hxI_same hop'
          refine ⟨i1.trans k3, fun hu => ?_, rest2, by rw [i3, k1], ?_⟩
          · obtain ⟨a1, a2⟩ := i2 hu
            exact ⟨k2 ▸ a1, a2.trans k4⟩
          · intro V d β η σs sn0 ss0 N B σ a A1 B1 gg ge hc hsem hf1 hf2
            obtain ⟨hcl, _, _, _, _, _, v, σ', β', hev, x, g', hr⟩ := hxI_ok gg ge hop'
            refine sO_op hcl ⟨v, σ', hev, ?_⟩
            have ge1 : GEh σ0 V d β' η S1 a := ge.up (by rw [k2]; exact x) k5
            have hc1 : CV X V0 V (S1.put dst w) := fun e1 e2 => by
              rw [p4, k4] at e1; rw [p2, k2] at e2
              exact hc e1 e2
            have := i4 V d β' η σs sn0 ss0 N B σ' (a.put dst v) A1 B1 (g'.put dst w) (ge1.put (by rw [k2]; exact hr)) hc1 hsem hf1 hf2
            refine this.mono ?_
            rintro a' σ2 ⟨d2, β2, x2, g2, ge2⟩
            rw [p2, k2] at x2
            exact ⟨d2, β2, x.trans x2, g2, ge2⟩
      · cases h
theorem hxCode_ok {K : HFn} (hK : HOK t F H X σ0 τ0 D V0 K) : ∀ {c : EC} {S S' : HS} {b : Bool}, hxCode K c S = some (b, S') → S'.lo = S.lo ∧ (S'.used = false → S.used = false ∧ S'.nn = S.nn) ∧ ∃ rest, S'.out = S.out.app rest ∧
    ∀ V d β η σs sn0 ss0 N B σ a A1 B1, HG t σ0 τ0 D V d β η σs sn0 ss0 N B S σ → GEh σ0 V d β η S a → CV X V0 V S → rest.sem τ0 D V A1 B1 → Fine N A1 → Fine B B1 →
      WB F H c (fun e a' σ' => e = (if b then .ret else .norm) ∧ ∃ d' β', Up (σs.size - σ0.size) S.used d β S'.used d' β' ∧ HG t σ0 τ0 D V d' β' η σs sn0 ss0 (N ++ A1) (B ++ B1) S' σ' ∧ GEh σ0 V d' β' η S' a') a σ := by
  intro c
  induction c with
  | skip =>
    intro S S' b h
    simp only [hxCode, Option.some.injEq, Prod.mk.injEq] at h; obtain ⟨rfl, rfl⟩ := h
    refine ⟨rfl, fun h => ⟨h, rfl⟩, .nil, (PIs.app_nil _).symm, ?_⟩
    rintro V d β η σs sn0 ss0 N B σ a A1 B1 g ge hc ⟨rfl, rfl⟩ _ _
    exact WB_skip ⟨rfl, d, β, .refl _ _ _ _, by simpa using g, ge⟩
  | ret =>
    intro S S' b h
    simp only [hxCode, Option.some.injEq, Prod.mk.injEq] at h; obtain ⟨rfl, rfl⟩ := h
    refine ⟨rfl, fun h => ⟨h, rfl⟩, .nil, (PIs.app_nil _).symm, ?_⟩
    rintro V d β η σs sn0 ss0 N B σ a A1 B1 g ge hc ⟨rfl, rfl⟩ _ _
    exact WB_ret ⟨rfl, d, β, .refl _ _ _ _, by simpa using g, ge⟩
  | reg ops =>
    intro S S' b h
    simp only [hxCode, Option.map_eq_some_iff, Prod.mk.injEq] at h; obtain ⟨S1, h, rfl, rfl⟩ := h
    obtain ⟨i1, i2, rest, i3, i4⟩ := hxOps_ok hK h
    refine ⟨i1, i2, rest, i3, ?_⟩
    intro V d β η σs sn0 ss0 N B σ a A1 B1 g ge hc hs hf1 hf2
    exact WB_reg ((i4 V d β η σs sn0 ss0 N B σ a A1 B1 g ge hc hs hf1 hf2).mono fun a' σ' h => ⟨rfl, h⟩)
  | seq x y ihx ihy =>
    intro S S' b h
    simp only [hxCode] at h
    split at h
    · rename_i S1 h1
      obtain ⟨i1, i2, r1, i3, i4⟩ := ihx h1
      obtain ⟨j1, j2, r2, j3, j4⟩ := ihy h
      refine ⟨j1.trans i1, fun hu => ?_, r1.app r2, by rw [j3, i3, PIs.app_assoc], ?_⟩
      · obtain ⟨a1, a2⟩ := j2 hu
        obtain ⟨b1, b2⟩ := i2 a1
        exact ⟨b1, a2.trans b2⟩
      · intro V d β η σs sn0 ss0 N B σ a A1 B1 g ge hc hs hf1 hf2
        obtain ⟨Ax, Bx, Ay, By, s1, s2, rfl, rfl⟩ := sem_app.1 hs
        unfold Fine at hf1 hf2
        rw [List.length_append] at hf1 hf2
        refine WB_seq ((i4 V d β η σs sn0 ss0 N B σ a Ax Bx g ge hc s1 (by unfold Fine; omega) (by unfold Fine; omega)).mono ?_)
        rintro e a' σ' ⟨rfl, d', β', x, g', ge'⟩
        refine ((j4 V d' β' η σs sn0 ss0 (N ++ Ax) (B ++ Bx) σ' a' Ay By g' ge' (fun e1 e2 => ?_) s2 (by unfold Fine; rw [List.length_append]; omega) (by unfold Fine; rw [List.length_append]; omega))).mono ?_
        · obtain ⟨b1, b2⟩ := i2 e2
          exact hc (b2 ▸ e1) b1
        · rintro e a2 σ2 ⟨he, d2, β2, x2, g2, ge2⟩
          exact ⟨he, d2, β2, x.trans x2, by simpa using g2, ge2⟩
    · rename_i hne
      cases b with
      | false => exact absurd h (hne S')
      | true =>
        obtain ⟨i1, i2, r1, i3, i4⟩ := ihx h
        refine ⟨i1, i2, r1, i3, ?_⟩
        intro V d β η σs sn0 ss0 N B σ a A1 B1 g ge hc hs hf1 hf2
        refine WB_seq ((i4 V d β η σs sn0 ss0 N B σ a A1 B1 g ge hc hs hf1 hf2).mono ?_)
        rintro e a' σ' ⟨rfl, h⟩
        exact ⟨rfl, h⟩
  | _ => intro S S' b h; simp [hxCode] at h
end
end Go.Ev
end EvHx3
section EvHx4
namespace Go.Ev
section
variable {t : HT} {F : FuncId → Option EFunc} {H : Caller} {X : HX} {σ0 τ : Store} {τ0 : Nat → List Value} {D : Nat → Prop} {V0 : Nat → Value}
theorem HG.out {V : Nat → Value} {d : Nat} {β : Nat → Option Nat} {η : Nat} {σs : Store} {sn0 ss0 : Value} {N B : List Value} {S : HS} {σ : Store} (g : HG t σ0 τ0 D V d β η σs sn0 ss0 N B S σ) (o : PIs) : HG t σ0 τ0 D V d β η σs sn0 ss0 N B { S with out := o } σ :=
  ⟨g.hp, g.x0, g.lk, g.bx, g.inj, g.bk⟩
theorem HG.pushed {V : Nat → Value} {d : Nat} {β : Nat → Option Nat} {η : Nat} {σs : Store} {sn0 ss0 sn ss : Value} {N B : List Value} {S : HS} {σ σ' : Store} (g : HG t σ0 τ0 D V d β η σs sn0 ss0 N B S σ)
    (hk0 : KeepH σs σ η sn0 ss0 sn ss) (ho : ∀ l, ownH η sn ss l → σ0.size ≤ l ∧ (∀ l0, D l0 → (S.used = true ∨ l0 < σ0.size) → l ≠ sb d σ0.size l0) ∧ ∀ b, β b ≠ some l) (hA : HAt t σ η N B sn ss)
    {sn' ss' : Value} {N' B' : List Value} (hA' : HAt t σ' η N' B' sn' ss') (hk : KeepH σ σ' η sn ss sn' ss') : HG t σ0 τ0 D V d β η σs sn0 ss0 N' B' S σ' := by
  have hs := g.x0.size
  refine ⟨⟨sn', ss', hA', hk0.trans hk, fun l hl => ?_⟩, ⟨Nat.le_trans hs hk.size, fun l hl => ?_⟩, fun l0 hd hu => ?_, fun b cs hb => ?_, g.inj, fun b k hb => ?_⟩
  · rcases hk.own l hl with h1 | h1
    · exact ho l h1
    · refine ⟨by omega, fun l0 hd hu e => ?_, fun b hb => ?_⟩
      · obtain ⟨st, e', h2, _⟩ := g.lk l0 hd hu
        have := Store.get_lt h2; omega
      · have := (g.bk b l hb).2.1; omega
  · rw [hk.same l (by omega) (fun h => by have := (ho l h).1; omega)]; exact g.x0.same l hl
  · obtain ⟨st, e', h2, h3⟩ := g.lk l0 hd hu
    exact ⟨st, e', by rw [hk.same _ (Store.get_lt h2) (fun h => (ho _ h).2.1 l0 hd hu rfl)]; exact h2, h3⟩
  · obtain ⟨k, e, vs, h1, h2, h3⟩ := g.bx b cs hb
    exact ⟨k, e, vs, h1, by rw [hk.same _ (Store.get_lt h2) (fun h => (ho _ h).2.2 b h1)]; exact h2, h3⟩
  · obtain ⟨q1, q2, q3, q4, q5⟩ := g.bk b k hb
    exact ⟨q1, Nat.lt_of_lt_of_le q2 hk.size, q3, q4, q5⟩
theorem hv_of {V : Nat → Value} {u : Bool} {d : Nat} {β : Nat → Option Nat} {η : Nat} {c : HV} {y x : Value} (h : HVR σ0 u d V β η c y) (hx : hv V c = x) (hn : x ≠ undefE) : y = mv d σ0.size x ∧ (u = false → lowV σ0.size x) := by
  cases c with
  | k z =>
    obtain ⟨rfl, hs⟩ := h
    cases hx
    have hl : lowV σ0.size y := fun l hb => by
      cases y <;> simp [simpleK] at hs <;> simp [hv, blockOf] at hb
      split at hs <;> simp_all [blockOf]
    refine ⟨?_, fun _ => hl⟩
    show y = mv d σ0.size y
    rw [mv_low hl]
  | nm i => cases hx; obtain ⟨rfl, _, h2⟩ := h; exact ⟨rfl, h2⟩
  | box b o => exact absurd hx.symm hn
  | hp => exact absurd hx.symm hn
  | clo f bs => exact absurd hx.symm hn
theorem L2_names {V : Nat → Value} {u : Bool} {d : Nat} {β : Nat → Option Nat} {η : Nat} (i n : Nat) (f : Nat → Value) (h : ∀ j, j < n → HVR σ0 u d V β η (.nm (i + j)) (f j)) : L2 (HVR σ0 u d V β η) (names i n) ((List.range n).map f) := by
  unfold names
  have : ∀ l : List Nat, (∀ j ∈ l, j < n) → L2 (HVR σ0 u d V β η) (l.map fun j => HV.nm (i + j)) (l.map f) := by
    intro l
    induction l with
    | nil => intro _; exact .nil
    | cons j l ih => intro hl; exact .cons (h j (hl j (by simp))) (ih fun k hk => hl k (by simp [hk]))
  exact this _ fun j hj => List.mem_range.1 hj
theorem resHW_ok (hC : HC t F H X σ0 τ τ0 D V0) {V : Nat → Value} {d : Nat} {β : Nat → Option Nat} {η : Nat} (hV : ∀ i, i < X.nx + sumW X.rs → V i = V0 i) : HWR σ0 true d V β η (resHW X.nx X.rs) (resVal (fun i => mv d σ0.size (V0 i)) X.nx X.rs) := by
  have key : ∀ (rs : List (Bool × Nat)) (i : Nat), i + sumW rs ≤ X.nx + sumW X.rs → (∀ p ∈ rs, p.1 = false → p.2 = 1) → L2 (HPR σ0 true d V β η) (resNames i rs) (compsV (fun i => mv d σ0.size (V0 i)) i rs) := by
    intro rs
    induction rs with
    | nil => intro i _ _; exact .nil
    | cons p r ih =>
      intro i hi hp
      obtain ⟨g, n⟩ := p
      simp only [sumW] at hi
      refine .cons ?_ (ih (i + n) (by omega) fun q hq => hp q (by simp [hq]))
      have hnm : ∀ j, j < n → HVR σ0 true d V β η (.nm (i + j)) (mv d σ0.size (V0 (i + j))) := fun j hj => by
        have e := hV (i + j) (by omega)
        exact ⟨by rw [e], by rw [e]; exact hC.one _ (by omega), fun h => by cases h⟩
      cases g with
      | true => exact ⟨_, rfl, L2_names i n _ hnm⟩
      | false =>
        have := hp (false, n) (by simp) rfl
        simp only at this; subst this
        exact ⟨.nm i, rfl, by have := hnm 0 (by omega); simpa [compV] using this⟩
  have h := key X.rs X.nx (Nat.le_refl _) hC.rn
  unfold resHW resVal
  generalize hq : resNames X.nx X.rs = q at h
  generalize hr : compsV (fun i => mv d σ0.size (V0 i)) X.nx X.rs = r at h
  clear hq hr key
  cases h with
  | nil => exact ⟨[], rfl, .nil⟩
  | cons h1 h2 =>
    cases h2 with
    | nil => rename_i p y; obtain ⟨g, cs⟩ := p; exact h1
    | cons h3 h4 => exact ⟨_, rfl, .cons h1 (.cons h3 h4)⟩
theorem args_eq (hC : HC t F H X σ0 τ τ0 D V0) {V : Nat → Value} {d : Nat} {β : Nat → Option Nat} {η : Nat} (hV : ∀ i, i < X.nx + sumW X.rs → V i = V0 i) : ∀ {args : List HW} {ps : List (Bool × List Nat)} {vals : List Value}, (∀ p ∈ ps, (∀ i ∈ p.2, i < X.nx) ∧ (p.1 = false → p.2.length = 1)) → argsAre args ps = true → L2 (HWR σ0 false d V β η) args vals → vals = ps.map (argV V0) := by
  have hnm : ∀ {cs : List HV} {is : List Nat} {vs : List Value}, (∀ i ∈ is, i < X.nx) → isNms cs is = true → L2 (HVR σ0 false d V β η) cs vs → vs = is.map V0 := by
    intro cs
    induction cs with
    | nil => intro is vs _ h hl; cases hl; cases is <;> first | rfl | simp [isNms] at h
    | cons c cs ih =>
      intro is vs hi h hl
      cases is with
      | nil => cases c <;> simp [isNms] at h
      | cons j is =>
        cases c <;> simp only [isNms] at h <;> try (cases h)
        rename_i i
        simp only [Bool.and_eq_true, beq_iff_eq] at h
        obtain ⟨rfl, h⟩ := h
        cases hl with
        | cons h1 h2 =>
          obtain ⟨rfl, _, h3⟩ := h1
          have hlt := hi i (by simp)
          rw [mv_low (h3 rfl), hV i (by omega), ih (fun k hk => hi k (by simp [hk])) h h2, List.map_cons]
  intro args
  induction args with
  | nil => intro ps vals _ h hl; cases hl; cases ps <;> first | rfl | simp [argsAre] at h
  | cons w args ih =>
    intro ps vals hp h hl
    cases ps with
    | nil => cases w <;> simp [argsAre] at h
    | cons p ps =>
      cases w with
      | tup l => simp [argsAre] at h
      | any => simp [argsAre] at h
      | w g cs =>
        obtain ⟨g', is⟩ := p
        simp only [argsAre, Bool.and_eq_true, beq_iff_eq] at h
        obtain ⟨⟨rfl, h1⟩, h2⟩ := h
        cases hl with
        | cons a b =>
          rw [ih (fun p hp' => hp p (by simp [hp'])) h2 b, List.map_cons]
          congr 1
          obtain ⟨q1, q2⟩ := hp (g, is) (by simp)
          cases g with
          | true => obtain ⟨vs, rfl, hl⟩ := a; rw [hnm q1 h1 hl]; rfl
          | false =>
            obtain ⟨c, e, hc⟩ := a
            simp only at e; subst e
            have := hnm q1 h1 (.cons hc .nil)
            have hlen := q2 rfl
            cases is with
            | nil => simp at hlen
            | cons i is =>
              cases is with
              | nil => simp at this; simp [argV, this]
              | cons _ _ => simp at hlen
theorem HG.called (hC : HC t F H X σ0 τ τ0 D V0) {V : Nat → Value} {d : Nat} {β : Nat → Option Nat} {η : Nat} {σs : Store} {sn0 ss0 : Value} {N B : List Value} {S : HS} {σ : Store} (g : HG t σ0 τ0 D V d β η σs sn0 ss0 N B S σ) (hu : S.used = false) (n : Nat) :
    HG t σ0 τ0 D V (σ.size - σ0.size) β η σs sn0 ss0 N B { S with used := true, nn := n } (embed (σ.size - σ0.size) σ0.size τ (τ.size - σ0.size) σ) := by
  have hs := g.x0.size
  have hold : ∀ l, l < σ.size → (embed (σ.size - σ0.size) σ0.size τ (τ.size - σ0.size) σ).get l = σ.get l := fun l hl => by rw [embed_get, if_pos hl]
  have hx : Ext σ (embed (σ.size - σ0.size) σ0.size τ (τ.size - σ0.size) σ) := ⟨by rw [embed_size]; omega, hold⟩
  obtain ⟨sn, ss, hA, hk, ho⟩ := g.hp
  have hup : Up (σs.size - σ0.size) S.used d β true (σ.size - σ0.size) β := ⟨(fun h => by rw [hu] at h; cases h), fun _ _ h => h, fun _ _ => by have := hk.size; omega⟩
  have hlk : ∀ l0, D l0 → ∃ st e, (embed (σ.size - σ0.size) σ0.size τ (τ.size - σ0.size) σ).get (sb (σ.size - σ0.size) σ0.size l0) = some (.cells st e ((τ0 l0).map (mv (σ.size - σ0.size) σ0.size))) ∧ (σ0.size ≤ l0 → st ≠ .ro) := by
    intro l0 hd
    by_cases hl : l0 < σ0.size
    · obtain ⟨st, e, h1, h2⟩ := g.lk l0 hd (.inr hl)
      have e1 : ∀ d', sb d' σ0.size l0 = l0 := fun d' => by simp [sb, hl]
      have e2 : ∀ d', (τ0 l0).map (mv d' σ0.size) = τ0 l0 := fun d' => by
        have := hC.lowc l0 hl
        conv => rhs; rw [← List.map_id (τ0 l0)]
        exact List.map_congr_left fun v hv => mv_low (this v hv)
      rw [e1, e2] at h1
      rw [e1, e2]
      exact ⟨st, e, by rw [hold _ (by omega)]; exact h1, h2⟩
    · obtain ⟨st, e, h1, h2, h3⟩ := hC.dom l0 hd (by omega)
      have hlt := Store.get_lt h1
      refine ⟨st, e, ?_, fun _ => h3⟩
      rw [embed_get]
      have e1 : sb (σ.size - σ0.size) σ0.size l0 = l0 + (σ.size - σ0.size) := by simp [sb, hl]
      rw [e1, if_neg (by omega), if_pos (by omega), show σ0.size + (l0 + (σ.size - σ0.size) - σ.size) = l0 by omega, h1]
      simp only [shObj, shL_mv h2]
  have hbig : ∀ l0, D l0 → σ0.size ≤ l0 → σ.size ≤ sb (σ.size - σ0.size) σ0.size l0 := fun l0 _ h => by simp only [sb]; rw [if_neg (by omega)]; omega
  have hsm : ∀ l0, l0 < σ0.size → ∀ d', sb d' σ0.size l0 = l0 := fun l0 h d' => by simp [sb, h]
  refine ⟨⟨sn, ss, hA.keep fun l hl => hold l (hA.lt hl), hk.trans ⟨hx.size, fun l hl _ => hold l hl, fun l hl => .inl hl⟩, fun l hl => ?_⟩, g.x0.trans hx, fun l0 hd _ => hlk l0 hd, fun b cs hb => ?_, g.inj, fun b k hb => ?_⟩
  · obtain ⟨o1, o2, o3⟩ := ho l hl
    refine ⟨o1, fun l0 hd _ => ?_, o3⟩
    by_cases hl0 : l0 < σ0.size
    · rw [hsm l0 hl0]; omega
    · have := hbig l0 hd (by omega); have := hA.lt hl; omega
  · obtain ⟨k, e, vs, h1, h2, h3⟩ := g.bx b cs hb
    exact ⟨k, e, vs, h1, by rw [hold _ (Store.get_lt h2)]; exact h2, h3.mono fun _ _ h => h.up hup⟩
  · obtain ⟨q1, q2, q3, q4, q5⟩ := g.bk b k hb
    refine ⟨q1, Nat.lt_of_lt_of_le q2 hx.size, fun l0 hd _ => ?_, q4, q5⟩
    by_cases hl0 : l0 < σ0.size
    · rw [hsm l0 hl0]; omega
    · have := hbig l0 hd (by omega); omega
def okL (σ0 : Store) (τ0 : Nat → List Value) (D : Nat → Prop) (u : Bool) (d : Nat) : OK := fun σ h sn ss => Ext σ0 σ ∧
  (∀ l0, D l0 → (u = true ∨ l0 < σ0.size) → ∃ st e, σ.get (sb d σ0.size l0) = some (.cells st e ((τ0 l0).map (mv d σ0.size))) ∧ (σ0.size ≤ l0 → st ≠ .ro)) ∧
  ∀ l, ownH h sn ss l → σ0.size ≤ l ∧ ∀ l0, D l0 → (u = true ∨ l0 < σ0.size) → l ≠ sb d σ0.size l0
theorem okL_stable {u : Bool} {d : Nat} : Stable (okL σ0 τ0 D u d) := by
  rintro σ σ' h sn ss sn' ss' ⟨x0, lk, ho⟩ hk
  have hs := x0.size
  refine ⟨⟨Nat.le_trans hs hk.size, fun l hl => ?_⟩, fun l0 hd hu => ?_, fun l hl => ?_⟩
  · rw [hk.same l (by omega) (fun h => by have := (ho l h).1; omega)]; exact x0.same l hl
  · obtain ⟨st, e', h2, h3⟩ := lk l0 hd hu
    exact ⟨st, e', by rw [hk.same _ (Store.get_lt h2) (fun h => (ho _ h).2 l0 hd hu rfl)]; exact h2, h3⟩
  · rcases hk.own l hl with h1 | h1
    · exact ho l h1
    · refine ⟨by omega, fun l0 hd hu e => ?_⟩
      obtain ⟨st, e', h2, _⟩ := lk l0 hd hu
      have := Store.get_lt h2; omega
theorem argsHW_get {V : Nat → Value} {u : Bool} {d : Nat} {β : Nat → Option Nat} {η : Nat} : ∀ {args : List HW} {vals : List Value} (i : Nat) (a : Env), L2 (HWR σ0 u d V β η) args vals → ∀ t w, hget t (argsHW i args) = some w → HWR σ0 u d V β η w (Env.get ((vals.zipIdx i).foldl (fun e (v, i) => T.set e i v) a) t) := by
  intro args
  induction args with
  | nil => intro vals i a h t w ht; simp [argsHW, hget] at ht
  | cons x args ih =>
    intro vals i a h t w ht
    cases h with
    | cons h1 h2 =>
      rename_i y ys
      simp only [argsHW, hget] at ht
      rw [List.zipIdx_cons, List.foldl_cons]
      by_cases e : t = i
      · subst e
        rw [if_pos rfl] at ht; cases ht
        have : ∀ (l : List Value) (j : Nat) (a : Env), t < j → Env.get ((l.zipIdx j).foldl (fun e (v, i) => T.set e i v) a) t = Env.get a t := by
          intro l
          induction l with
          | nil => intro j a _; rfl
          | cons v l ih =>
            intro j a hj
            rw [List.zipIdx_cons, List.foldl_cons, ih (j + 1) _ (by omega), Env.get_put, if_neg (by omega)]
        rw [this _ _ _ (by omega), Env.get_put, if_pos rfl]
        exact h1
      · rw [if_neg e] at ht
        exact ih (i + 1) _ h2 t w ht
end
end Go.Ev
end EvHx4
section EvHx5
namespace Go.Ev
section
variable {t : HT} {F : FuncId → Option EFunc} {H : Caller} {X : HX} {σ0 τ : Store} {τ0 : Nat → List Value} {D : Nat → Prop} {V0 : Nat → Value}
theorem okSh_one {v : Value} (h : okSh v = true) : oneC v = true := by cases v <;> first | rfl | cases h
theorem puts_case (hC : HC t F H X σ0 τ τ0 D V0) {n : Nat} (ih : HOK t F H X σ0 τ0 D V0 (hxFn X n)) {f g : FuncId} {esz : Nat} {sh : Option Nat} (hk : X.kd f = .puts esz sh) {S S1 : HS} {r : HW} (hnx : X.nx ≤ S.nn) (hpos : 0 < esz) (hsh : sh = some esz ∨ sh = none ∧ esz = 1)
    (h : hxFn X n g [.w false [.hp], .w sh.isSome (names S.nn esz)] { env := [], bx := [], lo := 0, nb := 0, nn := S.nn + esz, used := S.used, out := .nil } = some (r, S1)) {c : HV}
    {V : Nat → Value} {d : Nat} {β : Nat → Option Nat} {η : Nat} {σs : Store} {sn0 ss0 : Value} {N B : List Value} {σ : Store} {y : Value} {A1 B1 : List Value} (gg : HG t σ0 τ0 D V d β η σs sn0 ss0 N B S σ) (hy : HVR σ0 S.used d V β η c y)
    (hs : (PIs.lst c esz S.nn S1.out .nil).sem τ0 D V A1 B1) (hf1 : Fine N A1) (hf2 : Fine B B1) :
    WC F H (.func f) [.pointer (some ⟨η, 0, none⟩), y, .func (.func g) #[] #[]] (fun v σ' => HG t σ0 τ0 D V d β η σs sn0 ss0 (N ++ A1) (B ++ B1) S σ') σ := by
  obtain ⟨p, m, cap, Ai, Bi, A', B', h1, hm, h2, rfl, rfl, rfl, rfl⟩ := hs
  obtain ⟨hy1, hy2⟩ := hv_of hy h1 (by simp [undefE])
  obtain ⟨sn, ss, hA, hk0, ho⟩ := gg.hp
  obtain ⟨hF, hH⟩ := hC.kputs f esz sh hk
  have hsh' : sh = none ∧ 0 < esz ∨ sh = some esz := by
    rcases hsh with h | ⟨h, _⟩
    · exact .inr h
    · exact .inl ⟨h, hpos⟩
  have hokL : okL σ0 τ0 D S.used d σ η sn ss := ⟨gg.x0, gg.lk, fun l hl => ⟨(ho l hl).1, (ho l hl).2.1⟩⟩
  unfold Fine at hf1 hf2
  simp only [List.append_nil] at hf1 hf2 ⊢
  have key : ∃ cs, SAt σ esz y m cs ∧ (∀ l, blockOf y = some l → ¬ ownH η sn ss l) ∧ ∀ i, i < m → PV t F H g [elemV esz sh cs i] (okL σ0 τ0 D S.used d) (Ai i) (Bi i) := by
    rcases h2 with ⟨rfl, rfl⟩ | ⟨l, o, rfl, hD, hlen, hone, hel⟩
    · rw [hy1]
      exact ⟨[], .nil cap, (fun l hl => by cases hl), fun i hi => absurd hi (Nat.not_lt_zero i)⟩
    · have hu : S.used = true ∨ l < σ0.size := by
        cases hq : S.used with
        | true => exact .inl rfl
        | false => exact .inr (hy2 hq l rfl)
      obtain ⟨st, e, hg, _⟩ := gg.lk l hD hu
      rw [hy1]
      refine ⟨_, .at (sb d σ0.size l) o m cap st e _ hg (by rw [List.length_map]; exact hlen), fun l' hl => ?_, fun i hi => ⟨okL_stable, ?_⟩⟩
      · have : sb d σ0.size l = l' := by simpa [mv, blockOf] using hl
        subst this
        exact fun hh => (ho _ hh).2.1 l hD hu rfl
      · intro σ1 h1' N1 B1 sn1 ss1 hA1 hok1 hr1 hr2
        obtain ⟨x1, lk1, ho1⟩ := hok1
        obtain ⟨j0, j1, j2, rest, j3, j4⟩ := ih g _ _ r S1 h
        have er : rest = S1.out := by rw [j3]; rfl
        subst er
        have hi1 : (i + 1) * esz ≤ m * esz := Nat.mul_le_mul_right _ hi
        rw [Nat.succ_mul] at hi1
        have hval : L2 (HWR σ0 S.used d (bindN V S.nn esz ((τ0 l).drop (o + i * esz))) (fun _ => none) h1') [.w false [.hp], .w sh.isSome (names S.nn esz)] [.pointer (some ⟨h1', 0, none⟩), elemV esz sh ((((τ0 l).map (mv d σ0.size)).drop o).take (m * esz)) i] := by
          have hcell : ∀ j, j < esz → HVR σ0 S.used d (bindN V S.nn esz ((τ0 l).drop (o + i * esz))) (fun _ => none) h1' (.nm (S.nn + j)) (mv d σ0.size ((τ0 l).getD (o + i * esz + j) undefE)) := by
            intro j hj
            have hlt : o + i * esz + j < (τ0 l).length := by omega
            have e1 : bindN V S.nn esz ((τ0 l).drop (o + i * esz)) (S.nn + j) = (τ0 l).getD (o + i * esz + j) undefE := by
              unfold bindN
              rw [if_pos (by omega)]
              simp [List.getD_eq_getElem?_getD, List.getElem?_drop]
            have hmem : (τ0 l).getD (o + i * esz + j) undefE ∈ τ0 l := by
              simp [List.getD_eq_getElem?_getD, hlt]
            refine ⟨by rw [e1], by rw [e1]; exact okSh_one (hone _ hmem), fun hq => ?_⟩
            rw [e1]
            exact hC.lowc l (hy2 hq l rfl) _ hmem
          refine .cons ⟨.hp, rfl, rfl⟩ (.cons ?_ .nil)
          rcases hsh with rfl | ⟨rfl, rfl⟩
          · refine ⟨_, rfl, ?_⟩
            have : (((((τ0 l).map (mv d σ0.size)).drop o).take (m * esz)).drop (i * esz)).take esz = (List.range esz).map fun j => mv d σ0.size ((τ0 l).getD (o + i * esz + j) undefE) := by
              apply List.ext_getElem?
              intro j
              by_cases hj : j < esz
              · have hlt : o + i * esz + j < (τ0 l).length := by omega
                rw [get_seg, if_pos hj, get_seg, if_pos (by omega), List.getElem?_map, List.getElem?_map, List.getElem?_range hj]
                rw [show o + (i * esz + j) = o + i * esz + j by omega, List.getElem?_eq_getElem hlt]
                simp [List.getD_eq_getElem?_getD, hlt]
              · rw [get_seg, if_neg hj, List.getElem?_eq_none (by simpa using Nat.le_of_not_lt hj)]
            rw [this]
            exact L2_names S.nn esz _ hcell
          · refine ⟨.nm S.nn, rfl, ?_⟩
            have h0 := hcell 0 (by omega)
            have hlt : o + i < (τ0 l).length := by omega
            have : elemV 1 none ((((τ0 l).map (mv d σ0.size)).drop o).take (m * 1)) i = mv d σ0.size ((τ0 l).getD (o + i * 1 + 0) undefE) := by
              simp only [elemV]
              rw [List.getD_eq_getElem?_getD, get_seg, if_pos (by omega), List.getElem?_map]
              simp [List.getD_eq_getElem?_getD, hlt]
            rw [this]
            simpa using h0
        have hGel : HG t σ0 τ0 D (bindN V S.nn esz ((τ0 l).drop (o + i * esz))) d (fun _ => none) h1' σ1 sn1 ss1 N1 B1 { env := [], bx := [], lo := 0, nb := 0, nn := S.nn + esz, used := S.used, out := .nil } σ1 :=
          ⟨⟨sn1, ss1, hA1, .refl .., fun l hl => ⟨(ho1 l hl).1, (ho1 l hl).2, (fun b hb => by cases hb)⟩⟩, x1, lk1, (fun b cs hb => by simp [hget] at hb), (fun b b' k hb => by cases hb), (fun b k hb => by cases hb)⟩
        have hcv : CV X V0 (bindN V S.nn esz ((τ0 l).drop (o + i * esz))) { env := [], bx := [], lo := 0, nb := 0, nn := S.nn + esz, used := S.used, out := .nil } := fun e1 _ => by
          simp only at e1; omega
        refine (j4 _ _ _ _ _ _ _ _ _ _ _ _ _ hGel hval hcv (hel i hi) (by unfold Fine; exact hr1) (by unfold Fine; exact hr2)).mono ?_
        rintro v σ2 ⟨d', β', _, g2, _⟩
        obtain ⟨sn2, ss2, hA2, hk2, _⟩ := g2.hp
        exact ⟨sn2, ss2, hA2, hk2⟩
  obtain ⟨cs, hsat, hblk, hel⟩ := key
  have hPV := puts_PV (t := t) (F := F) (H := H) (f := f) (g := g) hF hH hsh' (v := y) (n := m) (cs := cs) hm hel
  refine (hPV.run σ η N B sn ss hA ⟨⟨hsat, hblk⟩, fun i hi => hokL⟩ hf1 hf2).mono ?_
  rintro v σ' ⟨sn', ss', hA', hk'⟩
  exact gg.pushed hk0 ho hA hA' hk'
theorem hxFn_ok (hC : HC t F H X σ0 τ τ0 D V0) : ∀ n, HOK t F H X σ0 τ0 D V0 (hxFn X n)
  | 0 => fun g args S r S' h => by simp [hxFn] at h
  | n + 1 => fun f args S r S' h => by
    have ih := hxFn_ok hC n
    unfold hxFn at h
    cases hk : X.kd f with
    | int =>
      rw [hk] at h
      simp only at h
      split at h
      · rename_i c
        cases h
        refine ⟨rfl, rfl, fun h => ⟨h, rfl⟩, _, rfl, ?_⟩
        rintro V d β η σs sn0 ss0 N B σ vals A1 B1 gg hv _ ⟨k, z, A', h1, rfl, rfl, rfl⟩ hf1 hf2
        obtain ⟨hF, hH⟩ := hC.kint f hk
        cases hv with
        | cons a b =>
          cases b with
          | cons b nl =>
            cases nl
            obtain ⟨c1, e1, a⟩ := a; cases e1; cases (show _ = _ from a)
            obtain ⟨_, e2, hy⟩ := b; cases e2
            obtain ⟨rfl, _⟩ := hv_of hy h1 (by simp [undefE])
            obtain ⟨sn, ss, hA, hk0, ho⟩ := gg.hp
            refine ((putInt_PV (t := t) hF hH k z).run σ η N B sn ss hA trivial hf1 hf2).mono ?_
            rintro v σ' ⟨sn', ss', hA', hk'⟩
            exact ⟨d, β, .refl _ _ _ _, (gg.pushed hk0 ho hA hA' hk').out _, trivial⟩
      · cases h
    | bool =>
      rw [hk] at h
      simp only at h
      split at h
      · rename_i c
        cases h
        refine ⟨rfl, rfl, fun h => ⟨h, rfl⟩, _, rfl, ?_⟩
        rintro V d β η σs sn0 ss0 N B σ vals A1 B1 gg hv _ ⟨z, A', h1, rfl, rfl, rfl⟩ hf1 hf2
        obtain ⟨hF, hH⟩ := hC.kbool f hk
        cases hv with
        | cons a b =>
          cases b with
          | cons b nl =>
            cases nl
            obtain ⟨c1, e1, a⟩ := a; cases e1; cases (show _ = _ from a)
            obtain ⟨_, e2, hy⟩ := b; cases e2
            obtain ⟨rfl, _⟩ := hv_of hy h1 (by simp [undefE])
            obtain ⟨sn, ss, hA, hk0, ho⟩ := gg.hp
            refine ((putBool_PV (t := t) hF hH z).run σ η N B sn ss hA trivial hf1 hf2).mono ?_
            rintro v σ' ⟨sn', ss', hA', hk'⟩
            exact ⟨d, β, .refl _ _ _ _, (gg.pushed hk0 ho hA hA' hk').out _, trivial⟩
      · cases h
    | puts esz sh =>
      rw [hk] at h
      simp only at h
      split at h
      · rename_i c g
        split at h
        · cases h
        · rename_i hcond
          obtain ⟨hnx, hpos, hsh⟩ := Classical.not_not.1 hcond
          split at h
          · rename_i r1 S1 hrun
            cases h
            refine ⟨rfl, rfl, fun h => ⟨h, rfl⟩, _, rfl, ?_⟩
            intro V d β η σs sn0 ss0 N B σ vals A1 B1 gg hv _ hs hf1 hf2
            cases hv with
            | cons a b =>
              cases b with
              | cons b cc =>
                cases cc with
                | cons c1 nl =>
                  cases nl
                  obtain ⟨c1, e1, a⟩ := a; cases e1; cases (show _ = _ from a)
                  obtain ⟨_, e2, hy⟩ := b; cases e2
                  obtain ⟨c3, e3, c1⟩ := c1; cases e3; obtain ⟨ks, hks, rfl⟩ := c1
                  cases hks
                  refine (puts_case hC ih hk hnx hpos hsh hrun gg hy hs hf1 hf2).mono ?_
                  intro v σ' g'
                  exact ⟨d, β, .refl _ _ _ _, g'.out _, trivial⟩
          · cases h
      · cases h
    | code =>
      rw [hk] at h
      simp only at h
      split at h
      · rename_i hpg
        subst hpg
        split at h
        · rename_i hc
          obtain ⟨hu, hnn, har⟩ := hc
          cases h
          refine ⟨rfl, rfl, (fun h => by cases h), .nil, (PIs.app_nil _).symm, ?_⟩
          rintro V d β η σs sn0 ss0 N B σ vals A1 B1 gg hv hcv ⟨rfl, rfl⟩ hf1 hf2
          rw [hu] at hv ⊢
          have hV := hcv hnn hu
          have := args_eq hC hV hC.pn har hv
          subst this
          refine WC_hook (hC.call σ gg.x0) ⟨σ.size - σ0.size, β, ⟨(fun h => by cases h), fun _ _ h => h, fun _ _ => by obtain ⟨_, _, _, hk0, _⟩ := gg.hp; have := hk0.size; omega⟩, ?_, resHW_ok hC hV⟩
          have := gg.called hC hu (X.nx + sumW X.rs)
          simpa using this
        · cases h
      · split at h
        · rename_i fn hfn
          obtain ⟨hF, hH⟩ := hC.code f fn hfn
          split at h
          · rename_i hlen
            split at h
            · rename_i b S1 hrun
              obtain ⟨i1, i2, rest, i3, i4⟩ := hxCode_ok ih hrun
              have main : ∀ V d β η σs sn0 ss0 N B σ vals A1 B1, HG t σ0 τ0 D V d β η σs sn0 ss0 N B S σ → L2 (HWR σ0 S.used d V β η) args vals → CV X V0 V S → rest.sem τ0 D V A1 B1 → Fine N A1 → Fine B B1 → ∀ (Q : Value → Store → Prop),
                  (∀ a' σ' d' β', Up (σs.size - σ0.size) S.used d β S1.used d' β' → HG t σ0 τ0 D V d' β' η σs sn0 ss0 (N ++ A1) (B ++ B1) S1 σ' → GEh σ0 V d' β' η S1 a' → ∃ vs, resultsE fn.results a' σ' = some vs ∧ Q (packE vs) σ') → WC F H (.func f) vals Q σ := by
                intro V d β η σs sn0 ss0 N B σ vals A1 B1 gg hv hc hs hf1 hf2 Q hQ
                refine WC_func hF (hH _ _) (by rw [← hv.length]; exact hlen) ?_
                have ge : GEh σ0 V d β η { S with env := argsHW 0 args } (envOf vals) := fun t w ht => argsHW_get 0 .leaf hv t w ht
                refine (i4 V d β η σs sn0 ss0 N B σ (envOf vals) A1 B1 (gg.setEnv _) ge hc hs hf1 hf2).mono ?_
                rintro e a' σ' ⟨rfl, d', β', x, g', ge'⟩
                refine ⟨by cases b <;> simp, hQ a' σ' d' β' x g' ge'⟩
              split at h
              · rename_i hres
                cases h
                refine ⟨rfl, i1, i2, rest, i3, ?_⟩
                intro V d β η σs sn0 ss0 N B σ vals A1 B1 gg hv hc hs hf1 hf2
                refine main V d β η σs sn0 ss0 N B σ vals A1 B1 gg hv hc hs hf1 hf2 _ fun a' σ' d' β' x g' ge' => ⟨[], by rw [hres]; rfl, d', β', x, g'.setEnv _, trivial⟩
              · rename_i t' hres
                split at h
                · rename_i w hw
                  cases h
                  refine ⟨rfl, i1, i2, rest, i3, ?_⟩
                  intro V d β η σs sn0 ss0 N B σ vals A1 B1 gg hv hc hs hf1 hf2
                  refine main V d β η σs sn0 ss0 N B σ vals A1 B1 gg hv hc hs hf1 hf2 _ fun a' σ' d' β' x g' ge' => ⟨[a'.get t'], by rw [hres]; simp [resultsE], d', β', x, g'.setEnv _, ge' t' _ hw⟩
                · cases h
              · cases h
            · cases h
          · cases h
        · cases h
end
end Go.Ev
end EvHx5
section EvHx6
namespace Go.Ev
inductive WK where
  | int
  | wipes (esz : Nat)
  | code
def wpOps (K : FuncId → Nat → Bool) : List EOp → List (Nat × Nat) → Option (List (Nat × Nat))
  | [], e => some e
  | o :: os, e => if o.guard.isSome then none else match o.op with
    | .mov (.tmp x) => match hget x e with
      | some p => match o.dst with
        | some t => wpOps K os ((t, p) :: e)
        | none => none
      | none => none
    | .nilc (.tmp x) => match hget x e with
      | some p => match o.dst with
        | some t => wpOps K os ((t, p) :: e)
        | none => none
      | none => none
    | .addOff (.tmp x) n => match hget x e with
      | some p => match o.dst with
        | some t => wpOps K os ((t, p + n) :: e)
        | none => none
      | none => none
    | .call (.func g) [.tmp x] => match hget x e with
      | some p => if K g p = true then (match o.dst with
        | some t => if (hget t e).isNone then wpOps K os e else none
        | none => wpOps K os e) else none
      | none => none
    | _ => none
def wpCode (K : FuncId → Nat → Bool) : EC → List (Nat × Nat) → Option (Bool × List (Nat × Nat))
  | .skip, e => some (false, e)
  | .ret, e => some (true, e)
  | .reg ops, e => (wpOps K ops e).map (false, ·)
  | .seq x y, e => match wpCode K x e with
    | some (false, e1) => wpCode K y e1
    | r => r
  | _, _ => none
def wpFn (tab : FuncId → Option EFunc) (wk : FuncId → WK) (esz : Nat) : Nat → FuncId → Nat → Bool
  | 0, _, _ => false
  | n + 1, f, o => match wk f with
    | .int => decide (o + 1 ≤ esz)
    | .code => match tab f with
      | some fn => decide (1 ≤ fn.ntmps) && fn.results.isEmpty && (wpCode (wpFn tab wk esz n) fn.body [(0, o)]).isSome
      | none => false
    | _ => false
section
variable {t : HT} {F : FuncId → Option EFunc} {H : Caller} {tab : FuncId → Option EFunc} {wk : FuncId → WK}
structure WKOK (F : FuncId → Option EFunc) (H : Caller) (tab : FuncId → Option EFunc) (wk : FuncId → WK) : Prop where
  code : ∀ f fn, tab f = some fn → F f = some fn ∧ ∀ args σ, H (.func f) args σ = none
  int : ∀ f, wk f = .int → F f = some wipeIntFn ∧ ∀ args σ, H (.func f) args σ = none
  wipes : ∀ f esz, wk f = .wipes esz → F f = some (wipesFn esz) ∧ ∀ args σ, H (.func f) args σ = none
def WPK (F : FuncId → Option EFunc) (H : Caller) (esz : Nat) (K : FuncId → Nat → Bool) : Prop := ∀ f o, K f o = true → ∀ σ l p st e c, σ.get l = some (.cells st e c) → st ≠ .ro → p + esz ≤ c.length →
  WC F H (.func f) [.pointer (some ⟨l, p + o, none⟩)] (fun _ σ' => Over σ σ' l) σ
theorem wpOps_ok {esz : Nat} {K : FuncId → Nat → Bool} (hK : WPK F H esz K) : ∀ {ops : List EOp} {e e' : List (Nat × Nat)}, wpOps K ops e = some e' → ∀ {σ : Store} {l p : Nat} {st : St} {el : TypeId} {c : List Value} {a : Env}, σ.get l = some (.cells st el c) → st ≠ .ro → p + esz ≤ c.length →
    (∀ t o, hget t e = some o → a.get t = .pointer (some ⟨l, p + o, none⟩)) → WO F H ops (fun a' σ' => Over σ σ' l ∧ ∀ t o, hget t e' = some o → a'.get t = .pointer (some ⟨l, p + o, none⟩)) a σ
  | [], e, e', h, σ, l, p, st, el, c, a, hg, hst, hl, ha => by
    simp only [wpOps, Option.some.injEq] at h; subst h
    exact WO_nil ⟨.refl _ _, ha⟩
  | ⟨dst, op, gd, win⟩ :: os, e, e', h, σ, l, p, st, el, c, a, hg, hst, hl, ha => by
    simp only [wpOps] at h
    split at h
    · cases h
    · rename_i hgd
      have : gd = none := by cases gd <;> simp_all
      subst this
      have hput : ∀ (t : Nat) (q : Nat), ∀ t' o, hget t' ((t, q) :: e) = some o → (a.put (some t) (.pointer (some ⟨l, p + q, none⟩))).get t' = .pointer (some ⟨l, p + o, none⟩) := by
        intro t q t' o ho
        simp only [hget] at ho
        simp only [Env.put, Env.get_put]
        split at ho
        · rename_i e1; cases ho; rw [if_pos e1]
        · rename_i e1; rw [if_neg e1]; exact ha t' o ho
      split at h
      · rename_i x
        split at h
        · rename_i q hq
          split at h
          · rename_i t
            refine sO_op rfl ⟨_, σ, rfl, ?_⟩
            show WO F H os _ (a.put (some t) (a.get x)) σ
            rw [ha x q hq]
            exact wpOps_ok hK h hg hst hl (hput t q)
          · cases h
        · cases h
      · rename_i x
        split at h
        · rename_i q hq
          split at h
          · rename_i t
            have := ha x q hq
            refine sO_op rfl ⟨.pointer (some ⟨l, p + q, none⟩), σ, by simp only [evI, Env.eval, this], ?_⟩
            exact wpOps_ok hK h hg hst hl (hput t q)
          · cases h
        · cases h
      · rename_i x m
        split at h
        · rename_i q hq
          split at h
          · rename_i t
            have := ha x q hq
            refine sO_op rfl ⟨.pointer (some ⟨l, p + (q + m), none⟩), σ, by simp only [evI, Env.eval, this, addr_add, Nat.add_assoc], ?_⟩
            exact wpOps_ok hK h hg hst hl (hput t (q + m))
          · cases h
        · cases h
      · rename_i g x
        split at h
        · rename_i q hq
          split at h
          · rename_i hk
            have hx := ha x q hq
            refine sO_call (g := g) (first := #[]) (caps := #[]) (L := [.pointer (some ⟨l, p + q, none⟩)]) rfl rfl (by simp [Env.eval, hx]) ((hK g q hk σ l p st el c hg hst hl).mono ?_)
            intro v σ1 ho
            obtain ⟨c1, g1, n1⟩ := ho.cells _ _ _ hg
            split at h
            · rename_i t
              split at h
              · rename_i hn
                refine (wpOps_ok hK h g1 hst (by omega) (a := a.put (some t) v) (fun t' o ht => ?_)).mono fun a' σ' hq => ⟨ho.trans hq.1, hq.2⟩
                simp only [Env.put, Env.get_put]
                rw [if_neg (by intro e1; subst e1; rw [ht] at hn; cases hn)]
                exact ha t' o ht
              · cases h
            · exact (wpOps_ok hK h g1 hst (by omega) (a := a.put none v) ha).mono fun a' σ' hq => ⟨ho.trans hq.1, hq.2⟩
          · cases h
        · cases h
      · cases h
theorem wpCode_ok {esz : Nat} {K : FuncId → Nat → Bool} (hK : WPK F H esz K) : ∀ {cd : EC} {e e' : List (Nat × Nat)} {b : Bool}, wpCode K cd e = some (b, e') → ∀ {σ : Store} {l p : Nat} {st : St} {el : TypeId} {c : List Value} {a : Env}, σ.get l = some (.cells st el c) → st ≠ .ro → p + esz ≤ c.length →
    (∀ t o, hget t e = some o → a.get t = .pointer (some ⟨l, p + o, none⟩)) → WB F H cd (fun ex a' σ' => ex = (if b then .ret else .norm) ∧ Over σ σ' l ∧ ∀ t o, hget t e' = some o → a'.get t = .pointer (some ⟨l, p + o, none⟩)) a σ := by
  intro cd
  induction cd with
  | skip => intro e e' b h σ l p st el c a hg hst hl ha; simp only [wpCode, Option.some.injEq, Prod.mk.injEq] at h; obtain ⟨rfl, rfl⟩ := h; exact WB_skip ⟨rfl, .refl _ _, ha⟩
  | ret => intro e e' b h σ l p st el c a hg hst hl ha; simp only [wpCode, Option.some.injEq, Prod.mk.injEq] at h; obtain ⟨rfl, rfl⟩ := h; exact WB_ret ⟨rfl, .refl _ _, ha⟩
  | reg ops =>
    intro e e' b h σ l p st el c a hg hst hl ha
    simp only [wpCode, Option.map_eq_some_iff, Prod.mk.injEq] at h; obtain ⟨e1, h, rfl, rfl⟩ := h
    exact WB_reg ((wpOps_ok hK h hg hst hl ha).mono fun a' σ' h => ⟨rfl, h⟩)
  | seq x y ihx ihy =>
    intro e e' b h σ l p st el c a hg hst hl ha
    simp only [wpCode] at h
    split at h
    · rename_i e1 h1
      refine WB_seq ((ihx h1 hg hst hl ha).mono ?_)
      rintro ex a1 σ1 ⟨rfl, ho, ha1⟩
      obtain ⟨c1, g1, n1⟩ := ho.cells _ _ _ hg
      exact (ihy h g1 hst (by omega) ha1).mono fun ex a2 σ2 ⟨q1, q2, q3⟩ => ⟨q1, ho.trans q2, q3⟩
    · rename_i hne
      cases b with
      | false => exact absurd h (hne e')
      | true =>
        refine WB_seq ((ihx h hg hst hl ha).mono ?_)
        rintro ex a1 σ1 ⟨rfl, h⟩
        exact ⟨rfl, h⟩
  | _ => intro e e' b h; simp [wpCode] at h
theorem wpFn_ok (hW : WKOK F H tab wk) (esz : Nat) : ∀ n, WPK F H esz (wpFn tab wk esz n)
  | 0 => fun f o h => by simp [wpFn] at h
  | n + 1 => fun f o h σ l p st e c hg hst hl => by
    unfold wpFn at h
    split at h
    · rename_i hk
      obtain ⟨hF, hH⟩ := hW.int f hk
      have := of_decide_eq_true h
      exact wipeInt_ok hF hH σ l (p + o) st e c hg hst (by omega)
    · split at h
      · rename_i fn hfn
        obtain ⟨hF, hH⟩ := hW.code f fn hfn
        simp only [Bool.and_eq_true, decide_eq_true_eq] at h
        obtain ⟨⟨h1, h2⟩, h3⟩ := h
        cases hc : wpCode (wpFn tab wk esz n) fn.body [(0, o)] with
        | none => rw [hc] at h3; cases h3
        | some r =>
          obtain ⟨b, e'⟩ := r
          have hres : fn.results = [] := by simpa using h2
          refine WC_func hF (hH _ _) (by simpa using h1) ?_
          refine (wpCode_ok (wpFn_ok hW esz n) hc hg hst hl (a := envOf [.pointer (some ⟨l, p + o, none⟩)]) (fun t q ht => ?_)).mono ?_
          · simp only [hget] at ht
            split at ht
            · rename_i e1; subst e1; cases ht; simp [envOf, Env.get_put]
            · cases ht
          · rintro ex a' σ' ⟨rfl, ho, _⟩
            exact ⟨by cases b <;> simp, [], by rw [hres]; rfl, ho⟩
      · cases h
    · cases h
def hwOps (K : FuncId → List HV → Option (List (Nat × Nat))) (bx : List (Nat × List HV)) : List EOp → List (Nat × HV) → Option (List (Nat × HV) × List (Nat × Nat))
  | [], e => some (e, [])
  | o :: os, e => if o.guard.isSome then none else match o.op with
    | .mov (.tmp x) => match hget x e, o.dst with
      | some v, some t => hwOps K bx os ((t, v) :: e)
      | _, _ => none
    | .nilc (.tmp x) => match hget x e, o.dst with
      | some (.box b p), some t => hwOps K bx os ((t, .box b p) :: e)
      | _, _ => none
    | .load none (.tmp x) => match hget x e, o.dst with
      | some (.box b p), some t => match hget b bx with
        | some cs => match cs[p]? with
          | some c => hwOps K bx os ((t, c) :: e)
          | none => none
        | none => none
      | _, _ => none
    | .call (.func g) [.tmp x] => match hget x e with
      | some v => match K g [v], o.dst with
        | some w, some t => if (hget t e).isNone then (hwOps K bx os e).map fun r => (r.1, w ++ r.2) else none
        | some w, none => (hwOps K bx os e).map fun r => (r.1, w ++ r.2)
        | none, _ => none
      | none => none
    | .call (.func g) [.tmp x, .func h] => match hget x e with
      | some v => match K g [v, .clo h []], o.dst with
        | some w, some t => if (hget t e).isNone then (hwOps K bx os e).map fun r => (r.1, w ++ r.2) else none
        | some w, none => (hwOps K bx os e).map fun r => (r.1, w ++ r.2)
        | none, _ => none
      | none => none
    | _ => none
def hwCode (K : FuncId → List HV → Option (List (Nat × Nat))) (bx : List (Nat × List HV)) : EC → List (Nat × HV) → Option (Bool × List (Nat × HV) × List (Nat × Nat))
  | .skip, e => some (false, e, [])
  | .ret, e => some (true, e, [])
  | .reg ops, e => (hwOps K bx ops e).map (false, ·)
  | .seq x y, e => match hwCode K bx x e with
    | some (false, e1, w) => (hwCode K bx y e1).map fun r => (r.1, r.2.1, w ++ r.2.2)
    | r => r
  | _, _ => none
def hvEnv : Nat → List HV → List (Nat × HV)
  | _, [] => []
  | i, v :: r => (i, v) :: hvEnv (i + 1) r
def hwFn (tab : FuncId → Option EFunc) (wk : FuncId → WK) (bx : List (Nat × List HV)) : Nat → FuncId → List HV → Option (List (Nat × Nat))
  | 0, _, _ => none
  | n + 1, f, args => match wk f with
    | .wipes esz => match args with
      | [.nm i, .clo g []] => if wpFn tab wk esz n g 0 = true then some [(i, esz)] else none
      | _ => none
    | .code => match tab f with
      | some fn => if args.length ≤ fn.ntmps ∧ fn.results.isEmpty then (hwCode (hwFn tab wk bx n) bx fn.body (hvEnv 0 args)).map (·.2.2) else none
      | none => none
    | _ => none
end
end Go.Ev
end EvHx6
section EvHx7
namespace Go.Ev
section
variable {t : HT} {F : FuncId → Option EFunc} {H : Caller} {tab : FuncId → Option EFunc} {wk : FuncId → WK} {σ0 : Store} {τ0 : Nat → List Value} {D : Nat → Prop} {V : Nat → Value} {d : Nat} {β : Nat → Option Nat} {η : Nat} {bx : List (Nat × List HV)}
structure WG (σ0 : Store) (τ0 : Nat → List Value) (D : Nat → Prop) (V : Nat → Value) (d : Nat) (β : Nat → Option Nat) (η : Nat) (bx : List (Nat × List HV)) (σ1 σ : Store) : Prop where
  size : σ1.size ≤ σ.size
  same : ∀ l, l < σ1.size → (∀ l0, D l0 → σ0.size ≤ l0 → l ≠ sb d σ0.size l0) → σ.get l = σ1.get l
  lw : ∀ l0, D l0 → σ0.size ≤ l0 → ∃ st e c, σ.get (sb d σ0.size l0) = some (.cells st e c) ∧ st ≠ .ro ∧ c.length = (τ0 l0).length
  bx : ∀ b cs, hget b bx = some cs → ∃ k e vs, β b = some k ∧ σ.get k = some (.cells .rw e vs) ∧ L2 (HVR σ0 true d V β η) cs vs
  bk : ∀ b k, β b = some k → ∀ l0, D l0 → σ0.size ≤ l0 → k ≠ sb d σ0.size l0
def WOK (σ0 : Store) (τ0 : Nat → List Value) (D : Nat → Prop) (V : Nat → Value) (p : Nat × Nat) : Prop :=
  ∃ q n cap, V p.1 = .slice q n cap ∧ n ≤ 2 ^ 31 ∧ ((q = none ∧ n = 0) ∨ ∃ l o, q = some ⟨l, o, none⟩ ∧ D l ∧ σ0.size ≤ l ∧ o + n * p.2 ≤ (τ0 l).length)
def HWK (F : FuncId → Option EFunc) (H : Caller) (σ0 : Store) (τ0 : Nat → List Value) (D : Nat → Prop) (V : Nat → Value) (d : Nat) (β : Nat → Option Nat) (η : Nat) (bx : List (Nat × List HV)) (K : FuncId → List HV → Option (List (Nat × Nat))) : Prop :=
  ∀ f args w, K f args = some w → (∀ p ∈ w, WOK σ0 τ0 D V p) → ∀ σ1 σ vals, WG σ0 τ0 D V d β η bx σ1 σ → L2 (HVR σ0 true d V β η) args vals → WC F H (.func f) vals (fun _ σ' => WG σ0 τ0 D V d β η bx σ1 σ') σ
def EnvW (σ0 : Store) (V : Nat → Value) (d : Nat) (β : Nat → Option Nat) (η : Nat) (e : List (Nat × HV)) (a : Env) : Prop := ∀ t c, hget t e = some c → HVR σ0 true d V β η c (a.get t)
theorem EnvW.put {e : List (Nat × HV)} {a : Env} (h : EnvW σ0 V d β η e a) {x : Nat} {c : HV} {v : Value} (hv : HVR σ0 true d V β η c v) : EnvW σ0 V d β η ((x, c) :: e) (a.put (some x) v) := by
  intro t c' ht
  simp only [hget] at ht
  simp only [Env.put, Env.get_put]
  by_cases e1 : t = x
  · rw [if_pos e1] at ht ⊢; cases ht; exact hv
  · rw [if_neg e1] at ht ⊢; exact h t c' ht
theorem EnvW.skip {e : List (Nat × HV)} {a : Env} (h : EnvW σ0 V d β η e a) {x : Option Nat} {v : Value} (hx : ∀ t, x = some t → (hget t e).isNone = true) : EnvW σ0 V d β η e (a.put x v) := by
  intro t c ht
  cases x with
  | none => exact h t c ht
  | some x =>
    simp only [Env.put, Env.get_put]
    rw [if_neg (by intro e1; subst e1; have := hx t rfl; rw [ht] at this; cases this)]
    exact h t c ht
theorem hwOps_ok {K : FuncId → List HV → Option (List (Nat × Nat))} (hK : HWK F H σ0 τ0 D V d β η bx K) : ∀ {ops : List EOp} {e e' : List (Nat × HV)} {w : List (Nat × Nat)}, hwOps K bx ops e = some (e', w) → (∀ p ∈ w, WOK σ0 τ0 D V p) → ∀ {σ1 σ : Store} {a : Env}, WG σ0 τ0 D V d β η bx σ1 σ → EnvW σ0 V d β η e a →
    WO F H ops (fun a' σ' => WG σ0 τ0 D V d β η bx σ1 σ' ∧ EnvW σ0 V d β η e' a') a σ
  | [], e, e', w, h, hw, σ1, σ, a, g, ge => by
    simp only [hwOps, Option.some.injEq, Prod.mk.injEq] at h; obtain ⟨rfl, rfl⟩ := h
    exact WO_nil ⟨g, ge⟩
  | ⟨dst, op, gd, win⟩ :: os, e, e', w, h, hw, σ1, σ, a, g, ge => by
    simp only [hwOps] at h
    split at h
    · cases h
    · rename_i hgd
      have : gd = none := by cases gd <;> simp_all
      subst this
      split at h
      · rename_i x
        split at h
        · rename_i v t hx
          exact sO_op rfl ⟨_, σ, rfl, hwOps_ok hK h hw g (ge.put (ge x v hx))⟩
        · cases h
      · rename_i x
        split at h
        · rename_i b p t hx
          obtain ⟨k, hk, he⟩ := ge x _ hx
          refine sO_op rfl ⟨.pointer (some ⟨k, p, none⟩), σ, by simp only [evI, Env.eval, he], hwOps_ok hK h hw g (ge.put ⟨k, hk, rfl⟩)⟩
        · cases h
      · rename_i x
        split at h
        · rename_i b p t hx
          split at h
          · rename_i cs hb
            split at h
            · rename_i c hc
              obtain ⟨k, hk, he⟩ := ge x _ hx
              obtain ⟨k', el, vs, hk', hg, hl⟩ := g.bx b cs hb
              rw [hk] at hk'; cases hk'
              obtain ⟨y, hy, hr⟩ := hl.get hc
              refine sO_op rfl ⟨y, σ, by simp only [evI, Env.eval, he, loadE, hg, hy, Option.map_some], hwOps_ok hK h hw g (ge.put hr)⟩
            · cases h
          · cases h
        · cases h
      · rename_i gf x
        split at h
        · rename_i v hx
          have hr := ge x v hx
          split at h
          · rename_i w1 t hk
            split at h
            · rename_i hn
              simp only [Option.map_eq_some_iff, Prod.mk.injEq] at h
              obtain ⟨r, h1, rfl, rfl⟩ := h
              refine sO_call (g := gf) (first := #[]) (caps := #[]) (L := [a.get x]) rfl rfl (by simp [Env.eval]) ((hK gf [v] w1 hk (fun p hp => hw p (by simp [hp])) σ1 σ _ g (.cons hr .nil)).mono ?_)
              intro y σ' g'
              exact hwOps_ok hK (e := e) (e' := r.1) (w := r.2) h1 (fun p hp => hw p (by simp [hp])) g' (ge.skip fun t' ht => by cases ht; exact hn)
            · cases h
          · rename_i w1 hk
            simp only [Option.map_eq_some_iff, Prod.mk.injEq] at h
            obtain ⟨r, h1, rfl, rfl⟩ := h
            refine sO_call (g := gf) (first := #[]) (caps := #[]) (L := [a.get x]) rfl rfl (by simp [Env.eval]) ((hK gf [v] w1 hk (fun p hp => hw p (by simp [hp])) σ1 σ _ g (.cons hr .nil)).mono ?_)
            intro y σ' g'
            exact hwOps_ok hK (e := e) (e' := r.1) (w := r.2) h1 (fun p hp => hw p (by simp [hp])) g' (ge.skip fun t' ht => by cases ht)
          · cases h
        · cases h
      · rename_i gf x hf
        split at h
        · rename_i v hx
          have hr := ge x v hx
          have hc : HVR σ0 true d V β η (.clo hf []) (.func (.func hf) #[] #[]) := ⟨[], .nil, rfl⟩
          split at h
          · rename_i w1 t hk
            split at h
            · rename_i hn
              simp only [Option.map_eq_some_iff, Prod.mk.injEq] at h
              obtain ⟨r, h1, rfl, rfl⟩ := h
              refine sO_call (g := gf) (first := #[]) (caps := #[]) (L := [a.get x, .func (.func hf) #[] #[]]) rfl rfl (by simp [Env.eval]) ((hK gf [v, .clo hf []] w1 hk (fun p hp => hw p (by simp [hp])) σ1 σ _ g (.cons hr (.cons hc .nil))).mono ?_)
              intro y σ' g'
              exact hwOps_ok hK (e := e) (e' := r.1) (w := r.2) h1 (fun p hp => hw p (by simp [hp])) g' (ge.skip fun t' ht => by cases ht; exact hn)
            · cases h
          · rename_i w1 hk
            simp only [Option.map_eq_some_iff, Prod.mk.injEq] at h
            obtain ⟨r, h1, rfl, rfl⟩ := h
            refine sO_call (g := gf) (first := #[]) (caps := #[]) (L := [a.get x, .func (.func hf) #[] #[]]) rfl rfl (by simp [Env.eval]) ((hK gf [v, .clo hf []] w1 hk (fun p hp => hw p (by simp [hp])) σ1 σ _ g (.cons hr (.cons hc .nil))).mono ?_)
            intro y σ' g'
            exact hwOps_ok hK (e := e) (e' := r.1) (w := r.2) h1 (fun p hp => hw p (by simp [hp])) g' (ge.skip fun t' ht => by cases ht)
          · cases h
        · cases h
      · cases h
theorem hwCode_ok {K : FuncId → List HV → Option (List (Nat × Nat))} (hK : HWK F H σ0 τ0 D V d β η bx K) : ∀ {cd : EC} {e e' : List (Nat × HV)} {w : List (Nat × Nat)} {b : Bool}, hwCode K bx cd e = some (b, e', w) → (∀ p ∈ w, WOK σ0 τ0 D V p) → ∀ {σ1 σ : Store} {a : Env}, WG σ0 τ0 D V d β η bx σ1 σ → EnvW σ0 V d β η e a →
    WB F H cd (fun ex a' σ' => ex = (if b then .ret else .norm) ∧ WG σ0 τ0 D V d β η bx σ1 σ' ∧ EnvW σ0 V d β η e' a') a σ := by
  intro cd
  induction cd with
  | skip => intro e e' w b h hw σ1 σ a g ge; simp only [hwCode, Option.some.injEq, Prod.mk.injEq] at h; obtain ⟨rfl, rfl, rfl⟩ := h; exact WB_skip ⟨rfl, g, ge⟩
  | ret => intro e e' w b h hw σ1 σ a g ge; simp only [hwCode, Option.some.injEq, Prod.mk.injEq] at h; obtain ⟨rfl, rfl, rfl⟩ := h; exact WB_ret ⟨rfl, g, ge⟩
  | reg ops =>
    intro e e' w b h hw σ1 σ a g ge
    simp only [hwCode, Option.map_eq_some_iff, Prod.mk.injEq] at h; obtain ⟨r, h, rfl, hr⟩ := h
    obtain ⟨r1, r2⟩ := r
    cases hr
    exact WB_reg ((hwOps_ok hK h hw g ge).mono fun a' σ' h => ⟨rfl, h⟩)
  | seq x y ihx ihy =>
    intro e e' w b h hw σ1 σ a g ge
    simp only [hwCode] at h
    split at h
    · rename_i e1 w1 h1
      simp only [Option.map_eq_some_iff, Prod.mk.injEq] at h
      obtain ⟨r, h, rfl, rfl, rfl⟩ := h
      refine WB_seq ((ihx h1 (fun p hp => hw p (by simp [hp])) g ge).mono ?_)
      rintro ex a1 σ2 ⟨rfl, g1, ge1⟩
      exact ihy (b := r.1) (e' := r.2.1) (w := r.2.2) h (fun p hp => hw p (by simp [hp])) g1 ge1
    · rename_i hne
      cases b with
      | false => exact absurd h (hne e' w)
      | true =>
        refine WB_seq ((ihx h hw g ge).mono ?_)
        rintro ex a1 σ1 ⟨rfl, h⟩
        exact ⟨rfl, h⟩
  | _ => intro e e' w b h; simp [hwCode] at h
theorem hvEnv_get : ∀ {args : List HV} {vals : List Value} (i : Nat) (a : Env), L2 (HVR σ0 true d V β η) args vals → ∀ t c, hget t (hvEnv i args) = some c → HVR σ0 true d V β η c (Env.get ((vals.zipIdx i).foldl (fun e (v, i) => T.set e i v) a) t) := by
  intro args
  induction args with
  | nil => intro vals i a h t w ht; simp [hvEnv, hget] at ht
  | cons x args ih =>
    intro vals i a h t w ht
    cases h with
    | cons h1 h2 =>
      rename_i y ys
      simp only [hvEnv, hget] at ht
      rw [List.zipIdx_cons, List.foldl_cons]
      by_cases e : t = i
      · subst e
        rw [if_pos rfl] at ht; cases ht
        have : ∀ (l : List Value) (j : Nat) (a : Env), t < j → Env.get ((l.zipIdx j).foldl (fun e (v, i) => T.set e i v) a) t = Env.get a t := by
          intro l
          induction l with
          | nil => intro j a _; rfl
          | cons v l ih =>
            intro j a hj
            rw [List.zipIdx_cons, List.foldl_cons, ih (j + 1) _ (by omega), Env.get_put, if_neg (by omega)]
        rw [this _ _ _ (by omega), Env.get_put, if_pos rfl]
        exact h1
      · rw [if_neg e] at ht
        exact ih (i + 1) _ h2 t w ht
theorem hwFn_ok (hW : WKOK F H tab wk) : ∀ n, HWK F H σ0 τ0 D V d β η bx (hwFn tab wk bx n)
  | 0 => fun f args w h => by simp [hwFn] at h
  | n + 1 => fun f args w h hw σ1 σ vals g hv => by
    have ih := hwFn_ok hW n
    unfold hwFn at h
    split at h
    · rename_i esz hk
      obtain ⟨hF, hH⟩ := hW.wipes f esz hk
      split at h
      · rename_i i gf
        split at h
        · rename_i hg
          cases h
          obtain ⟨q, m, cap, hV, hm, hq⟩ := hw (i, esz) (by simp)
          cases hv with
          | cons a b =>
            cases b with
            | cons b nl =>
              cases nl
              obtain ⟨rfl, _, _⟩ := a
              obtain ⟨ks, hks, rfl⟩ := b
              cases hks
              simp only at hV hq
              rw [hV]
              have hwp : Wipes1 F H gf esz := fun σ l o st e c h1 h2 h3 => by
                have := wpFn_ok hW esz n gf 0 hg σ l o st e c h1 h2 h3
                simpa using this
              rcases hq with ⟨rfl, rfl⟩ | ⟨l, o, rfl, hD, hl, hlen⟩
              · refine (wipes_ok hF hH hwp (v := .slice none 0 cap) (.nil cap) hm).mono ?_
                rintro v σ' ⟨h1, h2, _⟩
                have hs : ∀ k, k < σ.size → σ'.get k = σ.get k := fun k hk => h2 k hk (by simp [blockOf])
                refine ⟨Nat.le_trans g.size h1, fun k hk hn => by rw [hs k (Nat.lt_of_lt_of_le hk g.size)]; exact g.same k hk hn, fun l0 hd hl => ?_, fun b cs hb => ?_, g.bk⟩
                · obtain ⟨st, e, c, a1, a2, a3⟩ := g.lw l0 hd hl
                  exact ⟨st, e, c, by rw [hs _ (Store.get_lt a1)]; exact a1, a2, a3⟩
                · obtain ⟨k, e, vs, a1, a2, a3⟩ := g.bx b cs hb
                  exact ⟨k, e, vs, a1, by rw [hs _ (Store.get_lt a2)]; exact a2, a3⟩
              · obtain ⟨st, e, c, a1, a2, a3⟩ := g.lw l hD hl
                have hv' : mv d σ0.size (.slice (some ⟨l, o, none⟩) m cap) = .slice (some ⟨sb d σ0.size l, o, none⟩) m cap := rfl
                rw [hv']
                refine (wipes_ok hF hH hwp (.at (sb d σ0.size l) o m cap st e c a1 a2 (by omega)) hm).mono ?_
                rintro v σ' ⟨h1, h2, h3⟩
                have hs : ∀ k, k < σ.size → k ≠ sb d σ0.size l → σ'.get k = σ.get k := fun k hk hn => h2 k hk (by simp [blockOf]; exact fun e => hn e.symm)
                obtain ⟨c', b1, b2⟩ := h3 _ rfl st e c a1
                refine ⟨Nat.le_trans g.size h1, fun k hk hn => by rw [hs k (Nat.lt_of_lt_of_le hk g.size) (hn l hD hl)]; exact g.same k hk hn, fun l0 hd hl0 => ?_, fun b cs hb => ?_, g.bk⟩
                · by_cases e0 : sb d σ0.size l0 = sb d σ0.size l
                  · have : l0 = l := by simp only [sb] at e0; rw [if_neg (by omega), if_neg (by omega)] at e0; omega
                    subst this
                    exact ⟨st, e, c', b1, a2, by omega⟩
                  · obtain ⟨st, e, c, a1, a2, a3⟩ := g.lw l0 hd hl0
                    exact ⟨st, e, c, by rw [hs _ (Store.get_lt a1) e0]; exact a1, a2, a3⟩
                · obtain ⟨k, e, vs, a1, a2, a3⟩ := g.bx b cs hb
                  exact ⟨k, e, vs, a1, by rw [hs _ (Store.get_lt a2) (g.bk b k a1 l hD hl)]; exact a2, a3⟩
        · cases h
      · cases h
    · split at h
      · rename_i fn hfn
        obtain ⟨hF, hH⟩ := hW.code f fn hfn
        split at h
        · rename_i hc
          obtain ⟨hlen, hres⟩ := hc
          simp only [Option.map_eq_some_iff] at h
          obtain ⟨r, h, rfl⟩ := h
          have hres' : fn.results = [] := by simpa using hres
          refine WC_func hF (hH _ _) (by rw [← hv.length]; exact hlen) ?_
          refine (hwCode_ok ih (b := r.1) (e' := r.2.1) (w := r.2.2) h hw g (a := envOf vals) (fun t c ht => hvEnv_get 0 .leaf hv t c ht)).mono ?_
          rintro ex a' σ' ⟨he, g', _⟩
          refine ⟨by cases hb : r.1 <;> simp_all, [], by rw [hres']; rfl, g'⟩
        · cases h
      · cases h
    · cases h
end
end Go.Ev
end EvHx7
section EvHx8
namespace Go.Ev
def hxClo (X : HX) (wk : FuncId → WK) (n : Nat) (g : FuncId) : Option (PIs × List (Nat × Nat)) :=
  match hxFn X n g [.w false [.hp], .w false [.box 0 0]] { env := [], bx := [(0, names 0 X.nx)], lo := 1, nb := 1, nn := X.nx, used := false, out := .nil } with
  | some (.w false [.clo f2 bs], S1) => if S1.used = true then (hwFn X.tab wk S1.bx n f2 (bs.map fun b => .box b 0)).map (S1.out, ·) else none
  | _ => none
section
variable {t : HT} {F : FuncId → Option EFunc} {H : Caller} {X : HX} {wk : FuncId → WK} {σ0 τ : Store} {τ0 : Nat → List Value} {D : Nat → Prop} {V0 : Nat → Value}
def boxAt (σ0 : Store) (V0 : Nat → Value) (nx kx : Nat) (σ : Store) : Prop := Ext σ0 σ ∧ σ0.size ≤ kx ∧ ∃ e, σ.get kx = some (.cells .rw e ((List.range nx).map V0))
theorem hxClo_spec (hC : HC t F H X σ0 τ τ0 D V0) (hW : WKOK F H X.tab wk) (hdom : ∀ l, D l → l < σ0.size → ∃ st e, σ0.get l = some (.cells st e (τ0 l))) {n : Nat} {g : FuncId} {out : PIs} {ws : List (Nat × Nat)} (h : hxClo X wk n g = some (out, ws))
    (hw : ∀ p ∈ ws, WOK σ0 τ0 D V0 p) {A B : List Value} (hs : out.sem τ0 D V0 A B) (hA : A.length ≤ 2 ^ 31) (hB : B.length ≤ 2 ^ 31) (pA : A.all plainV = true) (pB : B.all plainV = true) (kx : Nat) :
    CallSpec t F H g [.pointer (some ⟨kx, 0, none⟩)] (kx + 1) (boxAt σ0 V0 X.nx kx) A B where
  stable := by
    rintro σ σ' ⟨h1, h2, e, h3⟩ hsz hk
    exact ⟨⟨Nat.le_trans h1.size hsz, fun l hl => by rw [hk l (by omega)]; exact h1.same l hl⟩, h2, e, by rw [hk kx (by omega)]; exact h3⟩
  lenA := hA
  lenB := hB
  plainA := pA
  plainB := pB
  run := by
    rintro σ hh ⟨x0, hkx, e, hbox⟩ hb1 hb2 hcell
    unfold hxClo at h
    split at h
    · rename_i f2 bs S1 hrun
      split at h
      · rename_i hu
        simp only [Option.map_eq_some_iff, Prod.mk.injEq] at h
        obtain ⟨ws', hwr, rfl, rfl⟩ := h
        obtain ⟨_, _, _, rest, i3, i4⟩ := hxFn_ok hC n g _ _ _ _ hrun
        have er : rest = S1.out := by rw [i3]; rfl
        subst er
        have hcon : (List.range X.nx).map V0 = (List.range X.nx).map fun j => V0 (0 + j) := by simp
        have hG : HG t σ0 τ0 D V0 0 (fun b => if b = 0 then some kx else none) hh σ nilS nilS [] [] { env := [], bx := [(0, names 0 X.nx)], lo := 1, nb := 1, nn := X.nx, used := false, out := .nil } σ := by
          refine ⟨⟨nilS, nilS, ⟨hcell, .nil, .nil, fun l hl => (by cases hl), (by intro e; cases e), (by intro e; cases e)⟩, .refl .., fun l hl => ?_⟩, x0, fun l0 hd hu => ?_, fun b cs hb => ?_, fun b b' k h1 h2 => ?_, fun b k hb => ?_⟩
          · have hl := ownH_nil.1 hl
            subst hl
            refine ⟨by omega, fun l0 hd hu => ?_, fun b hb => ?_⟩
            · have hl0 : l0 < σ0.size := by
                rcases hu with h | h
                · cases h
                · exact h
              have : sb 0 σ0.size l0 = l0 := by simp [sb, hl0]
              omega
            · split at hb
              · cases hb; omega
              · cases hb
          · have hl0 : l0 < σ0.size := by
              rcases hu with h | h
              · cases h
              · exact h
            have e1 : sb 0 σ0.size l0 = l0 := by simp [sb, hl0]
            have e2 : (τ0 l0).map (mv 0 σ0.size) = τ0 l0 := by
              conv => rhs; rw [← List.map_id (τ0 l0)]
              exact List.map_congr_left fun v hv => mv_low (hC.lowc l0 hl0 v hv)
            obtain ⟨st, e, h1⟩ := hdom l0 hd hl0
            exact ⟨st, e, by rw [e1, e2, x0.same l0 hl0]; exact h1, fun h => by omega⟩
          · have hb' : (if b = 0 then some (names 0 X.nx) else hget b []) = some cs := hb
            split at hb'
            · rename_i hb0
              cases hb'
              subst hb0
              refine ⟨kx, e, _, rfl, hbox, ?_⟩
              rw [hcon]
              exact L2_names 0 X.nx _ fun j hj => ⟨(mv_low (hC.low0 _ (by omega))).symm, hC.one _ (by omega), fun _ => hC.low0 _ (by omega)⟩
            · cases hb'
          · split at h1
            · split at h2
              · omega
              · cases h2
            · cases h1
          · split at hb
            · rename_i hb0
              cases hb
              subst hb0
              refine ⟨hkx, Store.get_lt hbox, fun l0 hd hu => ?_, fun h => ?_, by show 0 < 1; omega⟩
              · have hl0 : l0 < σ0.size := by
                  rcases hu with h | h
                  · cases h
                  · exact h
                have : sb 0 σ0.size l0 = l0 := by simp [sb, hl0]
                omega
              · have h : 1 ≤ 0 := h
                omega
            · cases hb
        have hvals : L2 (HWR σ0 false 0 V0 (fun b => if b = 0 then some kx else none) hh) [.w false [.hp], .w false [.box 0 0]] [.pointer (some ⟨hh, 0, none⟩), .pointer (some ⟨kx, 0, none⟩)] :=
          .cons ⟨.hp, rfl, rfl⟩ (.cons ⟨.box 0 0, rfl, kx, rfl, rfl⟩ .nil)
        refine (i4 V0 0 _ hh σ nilS nilS [] [] σ _ A B hG hvals (fun _ _ _ _ => rfl) hs (by simpa [Fine] using hA) (by simpa [Fine] using hB)).mono ?_
        rintro v σ' ⟨d, β, up, g', hv⟩
        obtain ⟨c, e1, hv⟩ := hv
        cases e1
        obtain ⟨ks, hks, rfl⟩ := hv
        obtain ⟨sn, ss, hAt, hkp, ho⟩ := g'.hp
        refine ⟨sn, ss, by simpa using hAt, hkp, f2, _, rfl, ?_⟩
        have hd := up.new rfl hu
        have hWG : WG σ0 τ0 D V0 d β hh S1.bx σ' σ' := by
          refine ⟨Nat.le_refl _, fun _ _ _ => rfl, fun l0 hd hl => ?_, fun b cs hb => ?_, fun b k hb l0 hd hl => ?_⟩
          · obtain ⟨st, e, h1, h2⟩ := g'.lk l0 hd (.inl hu)
            exact ⟨st, e, _, h1, h2 hl, by simp⟩
          · have := g'.bx b cs hb
            rw [hu] at this; exact this
          · exact (g'.bk b k hb).2.2.1 l0 hd (.inl hu)
        have hwv : L2 (HVR σ0 true d V0 β hh) (bs.map fun b => .box b 0) (ks.map fun k => Value.pointer (some ⟨k, 0, none⟩)) := by
          exact hks.map fun b k h => ⟨k, h, rfl⟩
        have := hwFn_ok hW n f2 _ _ hwr hw σ' σ' _ hWG hwv
        simp only [List.toList_toArray]
        refine this.mono ?_
        intro v2 σ2 g2
        refine ⟨g2.size, fun l hl => ?_⟩
        rcases hl with ⟨hl, hne⟩ | hl
        · refine g2.same l (Nat.lt_of_lt_of_le hl hkp.size) fun l0 hdl hl0 e => ?_
          have : σ.size ≤ sb d σ0.size l0 := by
            have := x0.size
            simp only [sb]; rw [if_neg (by omega)]; omega
          omega
        · exact g2.same l (hAt.lt hl) fun l0 hdl hl0 => (ho l hl).2.1 l0 hdl (.inl hu)
      · cases h
    · cases h
end
end Go.Ev
end EvHx8
section EvTop
namespace Go.Ev
def chain (ag : FuncId) : Nat → List FuncId → List EOp
  | p, [] => [⟨some 5, .mov (.tmp p), none, none⟩]
  | p, g :: r => ⟨some (p + 1), .mov (.tmp p), none, none⟩ :: ⟨some (p + 2), .mkf g [] [.tmp 1], some (p + 1, true), none⟩ :: ⟨some (p + 3), .call (.func ag) [.tmp (p + 2)], some (p + 1, true), none⟩ ::
      ⟨some (p + 4), .pick (.tmp (p + 1)) (.tmp (p + 3)) (.const (.bool false)), none, none⟩ :: chain ag (p + 4) r
def topFn (xt hp : TypeId) (nx : Nat) (all ag same awake : FuncId) (g0 : FuncId) (gs : List FuncId) : EFunc :=
  let q := 10 + 4 * gs.length
  ⟨q + 11, [(2, none)],
  .seq (.reg [
   ⟨(some 1), .box xt (.tmp 0), none, none⟩,
   ⟨(some 2), .mov (.const (.bool false)), none, none⟩])
  (.seq (.reg [
   ⟨(some 3), .alloc hp [(.slice none 0 0), (.slice none 0 0)], none, none⟩,
   ⟨(some 4), .alloc hp [(.slice none 0 0), (.slice none 0 0)], none, none⟩])
  (.seq (.reg [
   ⟨(some 6), .load (some nx) (.tmp 1), none, none⟩,
   ⟨(some 7), .call (.func all) [(.tmp 6), (.tmp 3)], none, none⟩])
  (.seq (.reg (⟨(some 8), .mkf g0 [] [(.tmp 1)], none, none⟩ :: ⟨(some 9), .call (.func ag) [(.tmp 8)], none, none⟩ :: chain ag 9 gs))
  (.seq (.reg [
   ⟨(some q), .load (some nx) (.tmp 1), none, none⟩,
   ⟨(some (q + 1)), .call (.func all) [(.tmp q), (.tmp 4)], none, none⟩])
  (.seq (.reg [
   ⟨(some (q + 2)), .mov (.tmp 5), none, none⟩,
   ⟨(some (q + 3)), .mov (.tmp (q + 2)), none, none⟩,
   ⟨(some (q + 4)), .load (some 2) (.tmp 3), (some (q + 3, true)), none⟩,
   ⟨(some (q + 5)), .load (some 2) (.tmp 4), (some (q + 3, true)), none⟩,
   ⟨(some (q + 6)), .call (.func same) [(.tmp (q + 4)), (.tmp (q + 5))], (some (q + 3, true)), none⟩,
   ⟨(some (q + 7)), .pick (.tmp (q + 3)) (.tmp (q + 6)) (.const (.bool false)), none, none⟩,
   ⟨(some (q + 8)), .mov (.tmp (q + 7)), none, none⟩,
   ⟨(some (q + 9)), .call (.func awake) [], (some (q + 8, true)), none⟩,
   ⟨(some (q + 10)), .pick (.tmp (q + 8)) (.tmp (q + 9)) (.const (.bool false)), none, none⟩,
   ⟨(some 2), .mov (.tmp (q + 10)), none, none⟩])
  (.ret))))))⟩
section
variable {t : HT} {F : FuncId → Option EFunc} {H : Caller} {X : HX} {wk : FuncId → WK} {σ0 τ : Store} {τ0 : Nat → List Value} {D : Nat → Prop} {V0 : Nat → Value}
theorem boxAt.ext {nx kx : Nat} {σ σ' : Store} (h : boxAt σ0 V0 nx kx σ) (hx : Ext σ σ') : boxAt σ0 V0 nx kx σ' := by
  obtain ⟨h1, h2, e, h3⟩ := h
  exact ⟨h1.trans hx, h2, e, by rw [hx.same kx (Store.get_lt h3)]; exact h3⟩
theorem chain_ok {ag : FuncId} {nx kx : Nat} {gs : List FuncId} (hag : ∀ g ∈ gs, ∀ σ, boxAt σ0 V0 nx kx σ → WC F H (.func ag) [.func (.func g) #[] #[.pointer (some ⟨kx, 0, none⟩)]] (fun v σ' => v = .bool true ∧ Ext σ σ') σ) :
    ∀ (l : List FuncId), (∀ g ∈ l, g ∈ gs) → ∀ (p : Nat) (a : Env) (σ : Store), 9 ≤ p → a.get p = .bool true → a.get 1 = .pointer (some ⟨kx, 0, none⟩) → boxAt σ0 V0 nx kx σ →
      WO F H (chain ag p l) (fun a' σ' => a'.get 5 = .bool true ∧ (∀ t : Nat, t < 5 → a'.get t = a.get t) ∧ Ext σ σ') a σ
  | [], _, p, a, σ, hp, h1, h2, hb => by
    refine sO_op rfl ⟨_, σ, rfl, WO_nil ⟨?_, fun t ht => ?_, .refl σ⟩⟩
    · simp only [Env.put, Env.get_put, if_true]; exact h1
    · simp only [Env.put, Env.get_put]; rw [if_neg (by omega)]
  | g :: r, hl, p, a, σ, hp, h1, h2, hb => by
    simp only [chain]
    refine sO_op rfl ⟨.bool true, σ, by simp only [evI, Env.eval, h1], ?_⟩
    have e1 : (a.put (some (p + 1)) (.bool true)).get (p + 1) = .bool true := by simp only [Env.put, Env.get_put, if_true]
    have e2 : ∀ t : Nat, t ≤ p → (a.put (some (p + 1)) (.bool true)).get t = a.get t := fun t ht => by simp only [Env.put, Env.get_put]; rw [if_neg (by omega)]
    generalize a.put (some (p + 1)) (.bool true) = a1 at e1 e2
    refine sO_opg rfl e1 ⟨.func (.func g) #[] #[.pointer (some ⟨kx, 0, none⟩)], σ, ?_, ?_⟩
    · simp only [evI, List.map_cons, List.map_nil, Env.eval, e2 1 (by omega), h2]
    have e3 : (a1.put (some (p + 2)) (.func (.func g) #[] #[.pointer (some ⟨kx, 0, none⟩)])).get (p + 2) = .func (.func g) #[] #[.pointer (some ⟨kx, 0, none⟩)] := by simp only [Env.put, Env.get_put, if_true]
    have e4 : ∀ t : Nat, t ≤ p + 1 → (a1.put (some (p + 2)) (.func (.func g) #[] #[.pointer (some ⟨kx, 0, none⟩)])).get t = a1.get t := fun t ht => by simp only [Env.put, Env.get_put]; rw [if_neg (by omega)]
    generalize a1.put (some (p + 2)) (.func (.func g) #[] #[.pointer (some ⟨kx, 0, none⟩)]) = a2 at e3 e4
    refine sO_callg (g := ag) (first := #[]) (caps := #[]) (L := [.func (.func g) #[] #[.pointer (some ⟨kx, 0, none⟩)]]) (by rw [e4 _ (Nat.le_refl _)]; exact e1) rfl (by simp [Env.eval, e3]) ((hag g (hl g (by simp)) σ hb).mono ?_)
    rintro v σ' ⟨rfl, hx⟩
    have e5 : (a2.put (some (p + 3)) (.bool true)).get (p + 3) = .bool true := by simp only [Env.put, Env.get_put, if_true]
    have e6 : ∀ t : Nat, t ≤ p + 2 → (a2.put (some (p + 3)) (.bool true)).get t = a2.get t := fun t ht => by simp only [Env.put, Env.get_put]; rw [if_neg (by omega)]
    generalize a2.put (some (p + 3)) (.bool true) = a3 at e5 e6
    refine sO_op rfl ⟨.bool true, σ', by simp only [evI, Env.eval, e6 (p + 1) (by omega), e4 (p + 1) (by omega), e1, e5, if_true], ?_⟩
    have e7 : (a3.put (some (p + 4)) (.bool true)).get (p + 4) = .bool true := by simp only [Env.put, Env.get_put, if_true]
    have e8 : ∀ t : Nat, t ≤ p + 3 → (a3.put (some (p + 4)) (.bool true)).get t = a3.get t := fun t ht => by simp only [Env.put, Env.get_put]; rw [if_neg (by omega)]
    generalize a3.put (some (p + 4)) (.bool true) = a4 at e7 e8
    have hall : ∀ t : Nat, t ≤ p → a4.get t = a.get t := fun t ht => by rw [e8 t (by omega), e6 t (by omega), e4 t (by omega), e2 t ht]
    refine (chain_ok hag r (fun g hg => hl g (by simp [hg])) (p + 4) a4 σ' (by omega) e7 (by rw [hall 1 (by omega)]; exact h2) (hb.ext hx)).mono ?_
    rintro a' σ2 ⟨q1, q2, q3⟩
    exact ⟨q1, fun t ht => by rw [q2 t ht, hall t (by omega)], hx.trans q3⟩
def hxAll (X : HX) (n : Nat) (f : FuncId) : Option PIs :=
  match hxFn X n f [.w true (names 0 X.nx), .w false [.hp]] { env := [], bx := [], lo := 0, nb := 0, nn := X.nx, used := false, out := .nil } with
  | some (_, S1) => if S1.used = false then some S1.out else none
  | none => none
theorem hxAll_ok (hC : HC t F H X σ0 τ τ0 D V0) (hdom : ∀ l, D l → l < σ0.size → ∃ st e, σ0.get l = some (.cells st e (τ0 l))) {n : Nat} {f : FuncId} {out : PIs} (h : hxAll X n f = some out) {A B : List Value} (hs : out.sem τ0 D V0 A B) (hA : A.length ≤ 2 ^ 31) (hB : B.length ≤ 2 ^ 31)
    {σ : Store} {hh : Nat} (x0 : Ext σ0 σ) (hlo : σ0.size ≤ hh) (hcell : σ.get hh = some (.cells .rw t.hp [nilS, nilS])) :
    WC F H (.func f) [.agg ((List.range X.nx).map V0).toArray, .pointer (some ⟨hh, 0, none⟩)] (fun _ σ' => ∃ sn ss, HAt t σ' hh A B sn ss ∧ KeepH σ σ' hh nilS nilS sn ss) σ := by
  unfold hxAll at h
  split at h
  · rename_i r S1 hrun
    split at h
    · cases h
      obtain ⟨_, _, _, rest, i3, i4⟩ := hxFn_ok hC n f _ _ _ _ hrun
      have er : rest = S1.out := by rw [i3]; rfl
      subst er
      have hG : HG t σ0 τ0 D V0 0 (fun _ => none) hh σ nilS nilS [] [] { env := [], bx := [], lo := 0, nb := 0, nn := X.nx, used := false, out := .nil } σ := by
        refine ⟨⟨nilS, nilS, ⟨hcell, .nil, .nil, fun l hl => (by cases hl), (by intro e; cases e), (by intro e; cases e)⟩, .refl .., fun l hl => ?_⟩, x0, fun l0 hd hu => ?_, fun b cs hb => by simp [hget] at hb, (fun b b' k h1 h2 => by cases h1), (fun b k hb => by cases hb)⟩
        · have hl := ownH_nil.1 hl
          subst hl
          refine ⟨by omega, fun l0 hd hu => ?_, (fun b hb => by cases hb)⟩
          have hl0 : l0 < σ0.size := by
            rcases hu with h | h
            · cases h
            · exact h
          have : sb 0 σ0.size l0 = l0 := by simp [sb, hl0]
          omega
        · have hl0 : l0 < σ0.size := by
            rcases hu with h | h
            · cases h
            · exact h
          have e1 : sb 0 σ0.size l0 = l0 := by simp [sb, hl0]
          have e2 : (τ0 l0).map (mv 0 σ0.size) = τ0 l0 := by
            conv => rhs; rw [← List.map_id (τ0 l0)]
            exact List.map_congr_left fun v hv => mv_low (hC.lowc l0 hl0 v hv)
          obtain ⟨st, e, h1⟩ := hdom l0 hd hl0
          exact ⟨st, e, by rw [e1, e2, x0.same l0 hl0]; exact h1, fun h => by omega⟩
      have hcon : (List.range X.nx).map V0 = (List.range X.nx).map fun j => V0 (0 + j) := by simp
      have hvals : L2 (HWR σ0 false 0 V0 (fun _ => none) hh) [.w true (names 0 X.nx), .w false [.hp]] [.agg ((List.range X.nx).map V0).toArray, .pointer (some ⟨hh, 0, none⟩)] := by
        refine .cons ⟨_, rfl, ?_⟩ (.cons ⟨.hp, rfl, rfl⟩ .nil)
        rw [hcon]
        exact L2_names 0 X.nx _ fun j hj => ⟨(mv_low (hC.low0 _ (by omega))).symm, hC.one _ (by omega), fun _ => hC.low0 _ (by omega)⟩
      refine (i4 V0 0 _ hh σ nilS nilS [] [] σ _ A B hG hvals (fun _ _ _ _ => rfl) hs (by simpa [Fine] using hA) (by simpa [Fine] using hB)).mono ?_
      rintro v σ' ⟨d, β, up, g', hv⟩
      obtain ⟨sn, ss, hAt, hkp, ho⟩ := g'.hp
      exact ⟨sn, ss, by simpa using hAt, hkp⟩
    · cases h
  · cases h
set_option maxHeartbeats 1000000 in
theorem top_true {ft all ag same awake g0 : FuncId} {gs : List FuncId} {xt : TypeId} {nx : Nat} (hFt : F ft = some (topFn xt t.hp nx all ag same awake g0 gs)) (hHt : ∀ args σ, H (.func ft) args σ = none)
    (hFs : F same = some (sameFn t.hp)) (hHs : ∀ args σ, H (.func same) args σ = none) {A B : List Value} (hA : A.length ≤ 2 ^ 31) (hB : B.length ≤ 2 ^ 31) (pA : A.all plainV = true) (pB : B.all plainV = true)
    (hall : ∀ σ hh, Ext σ0 σ → σ0.size ≤ hh → σ.get hh = some (.cells .rw t.hp [nilS, nilS]) → WC F H (.func all) [.agg ((List.range nx).map V0).toArray, .pointer (some ⟨hh, 0, none⟩)] (fun _ σ' => ∃ sn ss, HAt t σ' hh A B sn ss ∧ KeepH σ σ' hh nilS nilS sn ss) σ)
    (hag : ∀ g ∈ g0 :: gs, ∀ kx σ, boxAt σ0 V0 nx kx σ → WC F H (.func ag) [.func (.func g) #[] #[.pointer (some ⟨kx, 0, none⟩)]] (fun v σ' => v = .bool true ∧ Ext σ σ') σ)
    (haw : ∀ σ, Ext σ0 σ → WC F H (.func awake) [] (fun v σ' => v = .bool true) σ) :
    WC F H (.func ft) [.agg ((List.range nx).map V0).toArray] (fun v σ' => v = .bool true) σ0 := by
  refine WC_func hFt (hHt _ _) (by simp [topFn]) ?_
  show WB F H (topFn xt t.hp nx all ag same awake g0 gs).body _ _ _
  simp only [topFn]
  generalize hq : 10 + 4 * gs.length = q
  have hq10 : 10 ≤ q := by omega
  refine WB_seq (WB_reg ?_)
  repeat (refine sO_op rfl ⟨_, _, (by simp only [evI, Nat.reduceEqDiff, Nat.reduceAdd, reduceCtorEq, vcells, oneC, Nat.reduceLeDiff, sL]; rfl), ?_⟩)
  refine WO_nil (WB_seq (WB_reg ?_))
  repeat (refine sO_op rfl ⟨_, _, (by simp only [evI, Nat.reduceEqDiff, Nat.reduceAdd, reduceCtorEq, vcells, oneC, Nat.reduceLeDiff, sL]; rfl), ?_⟩)
  refine WO_nil (WB_seq (WB_reg ?_))
  generalize hσ2 : ((σ0.alloc _).alloc _).alloc _ = σ2
  have hx2 : Ext σ0 σ2 := by rw [← hσ2]; exact (((Ext.refl σ0).grow _).grow _).grow _
  have s2 : σ2.size = σ0.size + 3 := by rw [← hσ2]; rfl
  have gx : σ2.get σ0.size = some (.cells .rw xt ((List.range nx).map V0)) := by
    rw [← hσ2, Store.get_alloc, if_neg (by simp only [Store.size_alloc]; omega), Store.get_alloc, if_neg (by simp only [Store.size_alloc]; omega), Store.get_alloc, if_pos rfl]
  have ga : σ2.get (σ0.size + 1) = some (.cells .rw t.hp [nilS, nilS]) := by rw [← hσ2]; simp [Store.get_alloc, Store.size_alloc]
  have gb : σ2.get (σ0.size + 2) = some (.cells .rw t.hp [nilS, nilS]) := by rw [← hσ2]; simp [Store.get_alloc, Store.size_alloc]
  have hload : ∀ σ, σ.get σ0.size = some (.cells .rw xt ((List.range nx).map V0)) → loadE σ (some nx) ⟨σ0.size, 0, none⟩ = some (.agg ((List.range nx).map V0).toArray) := fun σ h => by
    simp only [loadE, h]
    rw [if_pos (by simp)]
    have : (((List.range nx).map V0).drop 0).take nx = (List.range nx).map V0 := by rw [List.drop_zero, List.take_of_length_le (by simp)]
    rw [this]
  refine sO_op rfl ⟨.agg ((List.range nx).map V0).toArray, σ2, (by simp only [evI, Env.eval, Env.put, Env.get_put, Nat.reduceEqDiff, if_true, if_false, Store.size_alloc, hload σ2 gx, Option.map_some]), ?_⟩
  refine sO_call rfl (by simp only [evI, Nat.reduceEqDiff, Nat.reduceAdd, reduceCtorEq, vcells, oneC, Nat.reduceLeDiff, sL]; rfl) (by simp only [evI, Nat.reduceEqDiff, Nat.reduceAdd, reduceCtorEq, vcells, oneC, Nat.reduceLeDiff, sL]; rfl) ?_
  simp only [List.append_nil, List.nil_append, List.cons_append]
  refine (hall σ2 (σ0.size + 1) hx2 (by omega) ga).mono ?_
  rintro v σ3 ⟨sn, ss, hA3, hk3⟩
  have z3 := hk3.size
  have k3 : ∀ l, l < σ2.size → l ≠ σ0.size + 1 → σ3.get l = σ2.get l := fun l hl hne => hk3.same l hl (by rw [ownH_nil]; exact hne)
  have hx3 : Ext σ0 σ3 := ⟨by omega, fun l hl => by rw [k3 l (by omega) (by omega)]; exact hx2.same l hl⟩
  have gx3 : σ3.get σ0.size = some (.cells .rw xt ((List.range nx).map V0)) := by rw [k3 _ (by omega) (by omega)]; exact gx
  have gb3 : σ3.get (σ0.size + 2) = some (.cells .rw t.hp [nilS, nilS]) := by rw [k3 _ (by omega) (by omega)]; exact gb
  have hbox : boxAt σ0 V0 nx σ0.size σ3 := ⟨hx3, Nat.le_refl _, xt, gx3⟩
  refine WO_nil (WB_seq (WB_reg ?_))
  refine sO_op rfl ⟨_, _, (by simp only [evI, Nat.reduceEqDiff, Nat.reduceAdd, reduceCtorEq, vcells, oneC, Nat.reduceLeDiff, sL]; rfl), ?_⟩
  refine sO_call rfl (by simp only [evI, Nat.reduceEqDiff, Nat.reduceAdd, reduceCtorEq, vcells, oneC, Nat.reduceLeDiff, sL]; rfl) (by simp only [evI, Nat.reduceEqDiff, Nat.reduceAdd, reduceCtorEq, vcells, oneC, Nat.reduceLeDiff, sL]; rfl) ?_
  simp only [List.append_nil, List.nil_append, List.cons_append]
  refine (hag g0 (by simp) σ0.size σ3 hbox).mono ?_
  rintro v4 σ4 ⟨rfl, hx4⟩
  refine (chain_ok (gs := g0 :: gs) (fun g hg σ hb => hag g hg σ0.size σ hb) gs (fun g hg => by simp [hg]) 9 _ σ4 (Nat.le_refl _) (by simp only [evI, Nat.reduceEqDiff, Nat.reduceAdd, reduceCtorEq, vcells, oneC, Nat.reduceLeDiff, sL]) (by simp only [evI, Nat.reduceEqDiff, Nat.reduceAdd, reduceCtorEq, vcells, oneC, Nat.reduceLeDiff, sL]) (hbox.ext hx4)).mono ?_
  rintro a5 σ5 ⟨h5, hold, hx5⟩
  have h1 : a5.get 1 = .pointer (some ⟨σ0.size, 0, none⟩) := by rw [hold 1 (by omega)]; simp only [evI, Nat.reduceEqDiff, Nat.reduceAdd, reduceCtorEq, vcells, oneC, Nat.reduceLeDiff, sL]
  have h3 : a5.get 3 = .pointer (some ⟨σ0.size + 1, 0, none⟩) := by rw [hold 3 (by omega)]; simp only [evI, Nat.reduceEqDiff, Nat.reduceAdd, reduceCtorEq, vcells, oneC, Nat.reduceLeDiff, sL]
  have h4 : a5.get 4 = .pointer (some ⟨σ0.size + 2, 0, none⟩) := by rw [hold 4 (by omega)]; simp only [evI, Nat.reduceEqDiff, Nat.reduceAdd, reduceCtorEq, vcells, oneC, Nat.reduceLeDiff, sL]
  clear hold
  have hx35 := hx4.trans hx5
  have z35 := hx35.size
  have gx5 : σ5.get σ0.size = some (.cells .rw xt ((List.range nx).map V0)) := by rw [hx35.same _ (by omega)]; exact gx3
  have gb5 : σ5.get (σ0.size + 2) = some (.cells .rw t.hp [nilS, nilS]) := by rw [hx35.same _ (by omega)]; exact gb3
  have hA5 : HAt t σ5 (σ0.size + 1) A B sn ss := hA3.keep fun l hl => hx35.same l (hA3.lt hl)
  refine WB_seq (WB_reg ?_)
  refine sO_op rfl ⟨.agg ((List.range nx).map V0).toArray, σ5, (by simp only [evI, Env.eval, h1, hload σ5 gx5, Option.map_some]), ?_⟩
  have g4 : ∀ v, (a5.put (some q) v).get 4 = .pointer (some ⟨σ0.size + 2, 0, none⟩) := fun v => by simp only [Env.put, Env.get_put]; rw [if_neg (by omega)]; exact h4
  have gq : ∀ v, (a5.put (some q) v).get q = v := fun v => by simp only [Env.put, Env.get_put, if_true]
  refine sO_call (g := all) (first := #[]) (caps := #[]) (L := [.agg ((List.range nx).map V0).toArray, .pointer (some ⟨σ0.size + 2, 0, none⟩)]) rfl rfl (by simp [Env.eval, g4, gq]) ?_
  refine (hall σ5 (σ0.size + 2) (hx3.trans hx35) (by omega) gb5).mono ?_
  rintro v6 σ6 ⟨sn', ss', hB6, hk6⟩
  have z6 := hk6.size
  have k6 : ∀ l, l < σ5.size → l ≠ σ0.size + 2 → σ6.get l = σ5.get l := fun l hl hne => hk6.same l hl (by rw [ownH_nil]; exact hne)
  have hA6 : HAt t σ6 (σ0.size + 1) A B sn ss := hA5.keep fun l hl => k6 l (hA5.lt hl) (by
    rcases hk3.own l hl with h | h
    · rw [ownH_nil] at h; omega
    · omega)
  refine WO_nil (WB_seq (WB_reg ?_))
  have e3 : ∀ v w, ((a5.put (some q) v).put (some (q + 1)) w).get 3 = .pointer (some ⟨σ0.size + 1, 0, none⟩) := fun v w => by simp only [Env.put, Env.get_put]; rw [if_neg (by omega), if_neg (by omega)]; exact h3
  have e4 : ∀ v w, ((a5.put (some q) v).put (some (q + 1)) w).get 4 = .pointer (some ⟨σ0.size + 2, 0, none⟩) := fun v w => by simp only [Env.put, Env.get_put]; rw [if_neg (by omega), if_neg (by omega)]; exact h4
  have e5 : ∀ v w, ((a5.put (some q) v).put (some (q + 1)) w).get 5 = .bool true := fun v w => by simp only [Env.put, Env.get_put]; rw [if_neg (by omega), if_neg (by omega)]; exact h5
  have f3 := e3 (.agg ((List.range nx).map V0).toArray) v6
  have f4 := e4 (.agg ((List.range nx).map V0).toArray) v6
  have f5 := e5 (.agg ((List.range nx).map V0).toArray) v6
  clear e3 e4 e5 g4 gq
  generalize (a5.put (some q) (.agg ((List.range nx).map V0).toArray)).put (some (q + 1)) v6 = b at f3 f4 f5
  have put_get : ∀ (a : Env) (i j : Nat) (v : Value), (a.put (some i) v).get j = if j = i then v else a.get j := fun a i j v => Env.get_put a i v j
  have ca := hA6.cell
  have cb := hB6.cell
  refine sO_op rfl ⟨.bool true, σ6, by simp only [evI, Env.eval, f5], ?_⟩
  refine sO_op rfl ⟨.bool true, σ6, by simp only [evI, Env.eval, put_get, if_true], ?_⟩
  refine sO_opg rfl (by simp only [put_get, if_true]) ⟨.agg #[sn, ss], σ6, ?_, ?_⟩
  · simp [evI, Env.eval, put_get, show ¬ (3 : Nat) = q + 3 from by omega, show ¬ (3 : Nat) = q + 2 from by omega, show ¬ q = 0 from by omega, show ¬ q = 1 from by omega, f3, loadE, ca]
  refine sO_opg rfl (by simp [put_get]) ⟨.agg #[sn', ss'], σ6, ?_, ?_⟩
  · simp [evI, Env.eval, put_get, show ¬ (4 : Nat) = q + 4 from by omega, show ¬ (4 : Nat) = q + 3 from by omega, show ¬ (4 : Nat) = q + 2 from by omega, show ¬ q = 0 from by omega, show ¬ q = 1 from by omega, f4, loadE, cb]
  refine sO_callg (g := same) (first := #[]) (caps := #[]) (L := [.agg #[sn, ss], .agg #[sn', ss']]) (by simp [put_get]) rfl (by simp [Env.eval, put_get]) ?_
  refine (same_true hFs hHs hA6 hB6 hA hB pA pB).mono ?_
  rintro v7 σ7 ⟨rfl, hx7⟩
  have hx07 : Ext σ0 σ7 := ⟨by have := hx7.size; omega, fun l hl => by
    rw [hx7.same l (by omega), k6 l (by omega) (by omega)]; exact (hx3.trans hx35).same l hl⟩
  refine sO_op rfl ⟨.bool true, σ7, ?_, ?_⟩
  · simp [evI, Env.eval, put_get]
  refine sO_op rfl ⟨.bool true, σ7, by simp only [evI, Env.eval, put_get, if_true], ?_⟩
  refine sO_callg (g := awake) (first := #[]) (caps := #[]) (L := []) (by simp only [put_get, if_true]) rfl rfl ?_
  refine (haw σ7 hx07).mono ?_
  rintro v8 σ8 rfl
  refine sO_op rfl ⟨.bool true, σ8, ?_, ?_⟩
  · simp [evI, Env.eval, put_get]
  refine sO_op rfl ⟨.bool true, σ8, by simp only [evI, Env.eval, put_get, if_true], ?_⟩
  refine WO_nil (WB_ret ⟨.inr rfl, [.bool true], ?_, rfl⟩)
  simp [resultsE, put_get]
end
end Go.Ev
end EvTop
