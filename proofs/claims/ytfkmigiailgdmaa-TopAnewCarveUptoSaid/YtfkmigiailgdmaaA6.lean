/- The evaluator, the symbolic evaluator and their soundness, part 6 of 6: for every program and every world. -/
import GoSem.ClaimChange
import Derived.ChangeArms
import Derived.ChangeSame
import Derived.WideKeyArgs
import Derived.Below
import Derived.RowKit
import Derived.OpenShut
import Derived.Test.YtfkmigiailgdmaaA5
set_option linter.all false
set_option linter.unusedVariables false
set_option linter.unusedSimpArgs false
section EvInit
namespace Go.Ev
variable {P : Program} {W : World} {H : Type} {enc : TypeId × Value → H}
inductive KT where
  | int (k : IntKind)
  | bool
  | str
  | sl (e : TypeId) (p : KT)
  | cons (a b : KT)
  | nil
def KT.ofL : List KT → KT
  | [] => .nil
  | a :: r => .cons a (KT.ofL r)
def KT.w : KT → Nat
  | .cons _ b => b.w + 1
  | _ => 0
def KT.isSl : KT → Bool
  | .sl _ _ => true
  | _ => false
theorem KT.w_ofL : ∀ l : List KT, (KT.ofL l).w = l.length
  | [] => rfl
  | _ :: r => by simp [KT.ofL, KT.w, KT.w_ofL r]
def kfs (K : TypeId → Option (List KT)) (P : Program) : Nat → List Field → Option (List KT)
  | _, [] => some []
  | off, f :: r =>
    if f.offset = off then
      match K f.type with
      | some l => if l.length = P.cellsOf f.type then (kfs K P (off + l.length) r).map (l ++ ·) else none
      | none => none
    else none
def kts (nest : Bool) (P : Program) : Nat → TypeId → Option (List KT)
  | 0, _ => none
  | d + 1, t =>
    match P.underlying t with
    | some (.int k) => some [.int k]
    | some .bool => some [.bool]
    | some .string => some [.str]
    | some (.slice e) => match kts nest P d e with
      | some l => if l.length = P.cellsOf e ∧ 0 < l.length ∧ (nest || !(l.any KT.isSl)) = true then some [.sl e (KT.ofL l)] else none
      | none => none
    | some (.struct fs) => match kfs (kts nest P d) P 0 fs.toList with
      | some l => if l.length = P.cellsOf t then some l else none
      | none => none
    | _ => none
def sumN (m : Nat → Nat) : Nat → Nat
  | 0 => 0
  | n + 1 => sumN m n + m n
def KR (σ : Store) : KT → List Value → Nat → Prop
  | .int k, l, M => ∃ n tl, l = .int k n :: tl ∧ k.min ≤ n ∧ n ≤ k.max ∧ 1 ≤ M
  | .bool, l, M => ∃ b tl, l = .bool b :: tl ∧ 1 ≤ M
  | .str, l, M => ∃ s tl, l = .string s :: tl ∧ 1 ≤ M
  | .sl e p, l, M => ∃ q n cap tl, l = .slice q n cap :: tl ∧ n ≤ cap ∧ cap < M ∧
      ((q = none ∧ n = 0 ∧ cap = 0) ∨ ∃ blk c m, q = some ⟨blk, 0, none⟩ ∧ σ.get blk = some (.cells .ro e c) ∧ n * p.w ≤ c.length ∧ (∀ i, i < n → KR σ p (c.drop (i * p.w)) (m i)) ∧ sumN m n + 1 ≤ M)
  | .cons a b, l, M => ∃ x tl m1 m2, l = x :: tl ∧ KR σ a l m1 ∧ KR σ b tl m2 ∧ m1 + m2 ≤ M
  | .nil, _, _ => True
theorem KR.le {σ : Store} : ∀ {k : KT} {l : List Value} {M M' : Nat}, KR σ k l M → M ≤ M' → KR σ k l M'
  | .int k, l, M, M', ⟨n, tl, h1, h2, h3, h4⟩, h => ⟨n, tl, h1, h2, h3, by omega⟩
  | .bool, l, M, M', ⟨n, tl, h1, h4⟩, h => ⟨n, tl, h1, by omega⟩
  | .str, l, M, M', ⟨n, tl, h1, h4⟩, h => ⟨n, tl, h1, by omega⟩
  | .sl e p, l, M, M', ⟨q, n, cap, tl, h1, h3, h4, h5⟩, h => ⟨q, n, cap, tl, h1, h3, by omega, h5.imp id fun ⟨blk, c, m, a1, a2, a3, a4, a5⟩ => ⟨blk, c, m, a1, a2, a3, a4, by omega⟩⟩
  | .cons a b, l, M, M', ⟨x, tl, m1, m2, h1, h2, h3, h4⟩, h => ⟨x, tl, m1, m2, h1, h2, h3, by omega⟩
  | .nil, _, _, _, _, _ => trivial
theorem KR.ext {σ τ : Store} (hx : Ext σ τ) : ∀ {k : KT} {l : List Value} {M : Nat}, KR σ k l M → KR τ k l M
  | .int k, l, M, h => h
  | .bool, l, M, h => h
  | .str, l, M, h => h
  | .sl e p, l, M, ⟨q, n, cap, tl, h1, h3, h4, h5⟩ => ⟨q, n, cap, tl, h1, h3, h4, h5.imp id fun ⟨blk, c, m, a1, a2, a3, a4, a5⟩ => ⟨blk, c, m, a1, by rw [hx.same _ (Store.get_lt a2)]; exact a2, a3, fun i hi => KR.ext hx (a4 i hi), a5⟩⟩
  | .cons a b, l, M, ⟨x, tl, m1, m2, h1, h2, h3, h4⟩ => ⟨x, tl, m1, m2, h1, KR.ext hx h2, KR.ext hx h3, h4⟩
  | .nil, _, _, _ => trivial
theorem KR.tail {σ : Store} : ∀ {k : KT} {l : List Value} {M : Nat} (r : List Value), KR σ k l M → KR σ k (l ++ r) M
  | .int k, l, M, r, ⟨n, tl, h1, h2⟩ => ⟨n, tl ++ r, by rw [h1]; rfl, h2⟩
  | .bool, l, M, r, ⟨n, tl, h1, h2⟩ => ⟨n, tl ++ r, by rw [h1]; rfl, h2⟩
  | .str, l, M, r, ⟨n, tl, h1, h2⟩ => ⟨n, tl ++ r, by rw [h1]; rfl, h2⟩
  | .sl e p, l, M, r, ⟨q, n, cap, tl, h1, h2⟩ => ⟨q, n, cap, tl ++ r, by rw [h1]; rfl, h2⟩
  | .cons a b, l, M, r, ⟨x, tl, m1, m2, h1, h2, h3, h4⟩ => ⟨x, tl ++ r, m1, m2, by rw [h1]; rfl, h2.tail r, h3.tail r, h4⟩
  | .nil, _, _, _, _ => trivial
theorem KR.app {σ : Store} : ∀ {l1 l2 : List KT} {v1 v2 : List Value} {m1 m2 : Nat}, v1.length = l1.length → KR σ (KT.ofL l1) v1 m1 → KR σ (KT.ofL l2) v2 m2 → KR σ (KT.ofL (l1 ++ l2)) (v1 ++ v2) (m1 + m2)
  | [], l2, [], v2, m1, m2, _, _, h2 => h2.le (by omega)
  | a :: l1, l2, [], v2, m1, m2, h, _, _ => by simp at h
  | [], l2, _ :: _, v2, m1, m2, h, _, _ => by simp at h
  | a :: l1, l2, x :: v1, v2, m1, m2, h, ⟨x', tl, k1, k2, e, h1, h1', h1''⟩, h2 => by
    cases e
    exact ⟨x, v1 ++ v2, k1, k2 + m2, rfl, h1.tail v2, KR.app (by simpa using h) h1' h2, by omega⟩
structure Bulk (B : DataW H → Nat) (BA : List (DataW H) → Nat) : Prop where
  lit : ∀ l, 1 ≤ B (.lit l)
  nil : 1 ≤ B .nil
  slice : ∀ es sp, B (.slice es sp) = BA es + BA sp + 1
  agg : ∀ ps, B (.agg ps) = BA ps + 1
  nil0 : BA [] = 0
  cons : ∀ d r, BA (d :: r) = B d + BA r
theorem Low.mono {n m : Nat} {v : Value} (h : Low n v) (hle : n ≤ m) : Low m v where
  cut μ v' hv := (h.cut μ v' hv).mono fun l i hl => by
    obtain ⟨h1, h2⟩ := Mu.cut_some.1 hl
    exact Mu.cut_some.2 ⟨by omega, h2⟩
  blk l hl := Nat.lt_of_lt_of_le (h.blk l hl) hle
theorem Low_int (n : Nat) (k : IntKind) (z : Int) : Low n (.int k z) := ⟨fun μ v' hv => by cases hv; exact .int _ _, fun l h => by cases h⟩
theorem Low_bool (n : Nat) (b : Bool) : Low n (.bool b) := ⟨fun μ v' hv => by cases hv; exact .bool _, fun l h => by cases h⟩
theorem Low_str (n : Nat) (b : ByteArray) : Low n (.string b) := ⟨fun μ v' hv => by cases hv; exact .str _, fun l h => by cases h⟩
theorem Low_nils (n : Nat) (a c : Nat) : Low n (.slice none a c) := ⟨fun μ v' hv => by cases hv; exact .nils _ _, fun l h => by cases h⟩
theorem Low_slice {n l o a c : Nat} (h : l < n) : Low n (.slice (some ⟨l, o, none⟩) a c) where
  cut μ v' hv := by
    cases hv with
    | slice _ _ _ c' h1 h2 => exact .slice _ _ _ _ (Mu.cut_some.2 ⟨h, h1⟩) h2
    | slice0 _ _ _ h1 h2 => exact .slice0 _ _ _ (Mu.cut_some.2 ⟨h, h1⟩) h2
  blk k hk := by cases hk; exact h
def SpotOK (W : World) (v : Value) : Prop := ∀ a n c, v = .slice (some a) n c → a.spot = none ∧ ∃ C E fr, W.heap[a.block]? = some (.cells C E fr)
def Sp (W : World) (l : List KT) (cs : List Value) : Prop := l.any KT.isSl = true → ∀ v ∈ cs, SpotOK W v
def Got (P : Program) (W : World) (l : List KT) (cs : List Value) (m : Nat) : Prop :=
  ∀ σ μ, Rel P μ σ W → RoAll σ → ∃ σ' μ' vs, Ext σ σ' ∧ (∀ l i, μ l = some i → μ' l = some i) ∧ Rel P μ' σ' W ∧ RoAll σ' ∧ LR μ' vs cs ∧ (∀ v ∈ vs, Low σ'.size v ∧ okSh v = true) ∧ vs.length = l.length ∧ KR σ' (KT.ofL l) vs m
theorem Got.one {k : KT} {v v' : Value} {m : Nat} (hv : ∀ μ, VR μ v v') (hl : ∀ n, Low n v) (hk : ∀ σ, KR σ k [v] m) (hok : okSh v = true := by rfl) : Got P W [k] [v'] m := fun σ μ hR hro =>
  ⟨σ, μ, [v], .refl σ, fun _ _ h => h, hR, hro, .cons (hv μ) .nil, fun v h => by (simp at h; subst h; exact ⟨hl _, hok⟩), rfl, ⟨v, [], m, 0, rfl, hk σ, trivial, by omega⟩⟩
theorem Got.app {l1 l2 : List KT} {c1 c2 : List Value} {m1 m2 : Nat} (h1 : Got P W l1 c1 m1) (h2 : Got P W l2 c2 m2) : Got P W (l1 ++ l2) (c1 ++ c2) (m1 + m2) := fun σ μ hR hro => by
  obtain ⟨σ1, μ1, v1, x1, e1, R1, ro1, r1, lo1, n1, k1⟩ := h1 σ μ hR hro
  obtain ⟨σ2, μ2, v2, x2, e2, R2, ro2, r2, lo2, n2, k2⟩ := h2 σ1 μ1 R1 ro1
  refine ⟨σ2, μ2, v1 ++ v2, x1.trans x2, fun l i h => e2 l i (e1 l i h), R2, ro2, (LR.mono e2 r1).append r2, fun v hv => ?_, by simp [n1, n2], (k1.ext x2).app n1 k2⟩
  rcases List.mem_append.1 hv with hv | hv
  · exact ⟨(lo1 v hv).1.mono x2.size, (lo1 v hv).2⟩
  · exact lo2 v hv
theorem Got.rows {l : List KT} {f : Nat → List Value} {m : Nat → Nat} : ∀ (n : Nat), (∀ i, i < n → Got P W l (f i) (m i)) → ∀ σ μ, Rel P μ σ W → RoAll σ →
    ∃ σ' μ' c, Ext σ σ' ∧ (∀ l i, μ l = some i → μ' l = some i) ∧ Rel P μ' σ' W ∧ RoAll σ' ∧ LR μ' c ((List.range n).flatMap f) ∧ (∀ v ∈ c, Low σ'.size v ∧ okSh v = true) ∧ c.length = n * l.length ∧ ∀ i, i < n → KR σ' (KT.ofL l) (c.drop (i * l.length)) (m i)
  | 0, _, σ, μ, hR, hro => ⟨σ, μ, [], .refl σ, fun _ _ h => h, hR, hro, .nil, (fun v h => nomatch h), by simp, fun i hi => absurd hi (Nat.not_lt_zero i)⟩
  | n + 1, h, σ, μ, hR, hro => by
    obtain ⟨σ1, μ1, c1, x1, e1, R1, ro1, r1, lo1, n1, k1⟩ := Got.rows n (fun i hi => h i (by omega)) σ μ hR hro
    obtain ⟨σ2, μ2, v2, x2, e2, R2, ro2, r2, lo2, n2, k2⟩ := h n (by omega) σ1 μ1 R1 ro1
    refine ⟨σ2, μ2, c1 ++ v2, x1.trans x2, fun l i h => e2 l i (e1 l i h), R2, ro2, ?_, fun v hv => ?_, by rw [List.length_append, n1, n2, Nat.succ_mul], fun i hi => ?_⟩
    · rw [List.range_succ, List.flatMap_append]
      simpa using (LR.mono e2 r1).append r2
    · rcases List.mem_append.1 hv with hv | hv
      · exact ⟨(lo1 v hv).1.mono x2.size, (lo1 v hv).2⟩
      · exact lo2 v hv
    · by_cases e : i = n
      · subst e
        rw [List.drop_append, List.drop_of_length_le (by omega), n1, Nat.sub_self]
        simpa using k2
      · have h1 : (i + 1) * l.length ≤ n * l.length := Nat.mul_le_mul_right _ (by omega)
        rw [Nat.succ_mul] at h1
        rw [List.drop_append_of_le_length (by omega)]
        exact ((k1 i (by omega)).ext x2).tail v2
theorem cells?_row {base : Nat} {a : Addr} {n : Nat} {cs : List Value} (h : W.cells? base a n = some cs) (hsp : a.spot = none) {C : Array Value} {E : TypeId} {fr : Nat × Nat} (hC : W.heap[a.block]? = some (.cells C E fr)) : cs = (C.toList.drop a.off).take n ∧ (0 < n → a.off + n ≤ C.size) := by
  obtain ⟨blk, off, sp⟩ := a
  simp only at hsp hC
  subst hsp
  unfold World.cells? at h
  simp only [addr_add] at h
  split at h
  · have key : ∀ (n : Nat) (cs : List Value), (List.range n).mapM (fun i => W.cell? ⟨blk, off + i, none⟩) = some cs → cs = (C.toList.drop off).take n ∧ (0 < n → off + n ≤ C.size) := by
      intro n
      induction n with
      | zero => intro cs h; simp at h; subst h; simp
      | succ n ih =>
        intro cs h
        rw [List.range_succ, List.mapM_append] at h
        cases h1 : (List.range n).mapM (fun i => W.cell? ⟨blk, off + i, none⟩) with
        | none => rw [h1] at h; simp at h
        | some c1 =>
          rw [h1] at h
          simp only [List.mapM_cons, List.mapM_nil] at h
          cases h2 : W.cell? ⟨blk, off + n, none⟩ with
          | none => rw [h2] at h; simp at h
          | some v =>
            rw [h2] at h
            simp at h
            obtain ⟨i1, i2⟩ := ih c1 h1
            have hv : C[off + n]? = some v := by
              unfold World.cell? at h2
              simp only [hC] at h2
              simpa using h2
            have hlt : off + n < C.size := by
              have := Array.getElem?_eq_some_iff.1 hv; exact this.1
            refine ⟨?_, fun _ => by omega⟩
            rw [← h, i1, List.take_add_one]
            congr 1
            rw [List.getElem?_drop, Array.getElem?_toList, hv]; rfl
    exact key n cs h
  · cases h
theorem Got.slice {e : TypeId} {l : List KT} {m : Nat → Nat} {a : Addr} {n cap : Nat} (hl : l.length = P.cellsOf e) (hpos : 0 < l.length) {C : Array Value} {E : TypeId} {fr : Nat × Nat} (hsp : a.spot = none) (hC : W.heap[a.block]? = some (.cells C E fr))
    (hcap : n ≤ cap) (hinf : cap < INF) (hin : cap ≠ 0 → a.off + n * l.length ≤ C.size) (h : ∀ i, i < n → Got P W l ((C.toList.drop (a.off + i * l.length)).take l.length) (m i)) {M : Nat} (hM : sumN m n + 1 ≤ M) (hn : cap < M) :
    Got P W [.sl e (KT.ofL l)] [.slice (some a) n cap] M := fun σ μ hR hro => by
  obtain ⟨σ1, μ1, c, x1, e1, R1, ro1, r1, lo1, n1, k1⟩ := Got.rows (l := l) (f := fun i => (C.toList.drop (a.off + i * l.length)).take l.length) n h σ μ hR hro
  have hbl : a.block < W.heap.size := (Array.getElem?_eq_some_iff.1 hC).1
  let j : Img := if cap = 0 then ⟨a.block, 0, 0, 0, P.cellsOf e⟩ else ⟨a.block, a.off, n * l.length, 0, P.cellsOf e⟩
  have jb : j.block = a.block := by show (if cap = 0 then _ else _ : Img).block = _; split <;> rfl
  have jz : j.esz = P.cellsOf e := by show (if cap = 0 then _ else _ : Img).esz = _; split <;> rfl
  have hx := Mu.ext_mono R1 (j := j)
  have hrow : (List.range n).flatMap (fun i => (C.toList.drop (a.off + i * l.length)).take l.length) = (C.toList.drop a.off).take (n * l.length) := by
    clear hM h hcap hin n1 k1 r1 hn lo1 ro1 R1 e1 x1 hx jz jb
    clear j
    induction n with
    | zero => simp
    | succ n ih => rw [List.range_succ, List.flatMap_append, ih, Nat.succ_mul, List.take_add, List.drop_drop]; simp
  have hro1 : ∀ k, k < σ1.size → Ro σ1 k := fun k hk => ro1.ro hk
  have hget : (σ1.alloc (.cells .ro e c)).get σ1.size = some (.cells .ro e c) := by rw [Store.get_alloc, if_pos rfl]
  refine ⟨σ1.alloc (.cells .ro e c), μ1.ext σ1.size j, [.slice (some ⟨σ1.size, 0, none⟩) n cap], ?_, fun l i h => hx l i (e1 l i h), ⟨?_, ?_, ?_, ?_⟩, ?_, ?_, ?_, rfl, ?_⟩
  · exact x1.trans ⟨by rw [Store.size_alloc]; omega, fun k hk => by rw [Store.get_alloc, if_neg (by omega)]⟩
  · intro k i hk
    rw [Store.size_alloc]
    by_cases e : k = σ1.size
    · omega
    · rw [Mu.ext_old e] at hk; have := R1.dom k i hk; omega
  · intro k i hk
    by_cases e : k = σ1.size
    · subst e; rw [Mu.ext_new] at hk; cases hk; rw [jb]; exact hbl
    · rw [Mu.ext_old e] at hk; exact R1.bnd k i hk
  · intro k i hk
    by_cases e : k = σ1.size
    · subst e; rw [Mu.ext_new] at hk; cases hk
      rw [hget]
      have r2 := LR.mono hx r1
      rw [hrow] at r2
      by_cases h0 : cap = 0
      · have hn0 : n = 0 := by omega
        subst hn0
        have : c = [] := by simpa using n1
        subst this
        have ej : j = ⟨a.block, 0, 0, 0, P.cellsOf _⟩ := if_pos h0
        rw [ej]
        exact ⟨rfl, rfl, C, E, fr, hC, by simp, by simpa using L2.nil, fun h => absurd rfl h⟩
      · have ej : j = ⟨a.block, a.off, n * l.length, 0, P.cellsOf _⟩ := if_neg h0
        rw [ej] at r2 ⊢
        exact ⟨n1.symm, rfl, C, E, fr, hC, by simpa using hin h0, r2, fun h => absurd rfl h⟩
    · rw [Mu.ext_old e] at hk; rw [Store.get_alloc, if_neg e]
      exact (R1.obj k i hk).world hx rfl
  · intro l₁ l₂ i₁ i₂ h1 h2 hne _ _ hr
    exfalso
    apply hr
    by_cases e : l₁ = σ1.size
    · subst e; exact ⟨_, _, hget⟩
    · rw [Mu.ext_old e] at h1
      obtain ⟨e', c', hg⟩ := hro1 _ (R1.dom _ _ h1)
      exact ⟨e', c', by rw [Store.get_alloc, if_neg e]; exact hg⟩
  · intro k hk
    rw [Store.size_alloc] at hk
    by_cases e' : k = σ1.size
    · subst e'
      exact ⟨_, _, hget, fun v hv => ⟨(lo1 v hv).1.mono (by rw [Store.size_alloc]; omega), (lo1 v hv).2⟩⟩
    · obtain ⟨e2, c2, g1, g2⟩ := ro1 k (by omega)
      exact ⟨e2, c2, by rw [Store.get_alloc, if_neg e']; exact g1, fun v hv => ⟨(g2 v hv).1.mono (by rw [Store.size_alloc]; omega), (g2 v hv).2⟩⟩
  · refine .cons ?_ .nil
    have hnew : (μ1.ext σ1.size j) σ1.size = some j := Mu.ext_new
    obtain ⟨blk, off, sp⟩ := a
    simp only at hsp; subst hsp
    by_cases h0 : cap = 0
    · have hn0 : n = 0 := by omega
      subst hn0; subst h0
      have ej : j = ⟨blk, 0, 0, 0, P.cellsOf e⟩ := if_pos rfl
      have := VR.slice0 (μ := μ1.ext σ1.size j) (i := j) 0 off 0 hnew (by unfold capOK; rw [if_neg (by decide)]; exact ⟨rfl, Nat.le_refl _, by decide⟩)
      rw [ej] at this ⊢
      exact this
    · have ej : j = ⟨blk, off, n * l.length, 0, P.cellsOf e⟩ := if_neg h0
      have := VR.slice (μ := μ1.ext σ1.size j) (i := j) 0 n cap cap hnew (by unfold capOK; rw [if_neg (by omega)]; exact ⟨rfl, hcap, hinf⟩)
      rw [ej] at this ⊢
      simpa using this
  · intro v hv
    simp at hv; subst hv
    exact ⟨Low_slice (by rw [Store.size_alloc]; omega), rfl⟩
  · refine ⟨_, [], M, 0, rfl, ⟨_, _, _, [], rfl, hcap, hn, .inr ⟨σ1.size, c, m, rfl, hget, by rw [KT.w_ofL, n1]; exact Nat.le_refl _, fun i hi => ?_, hM⟩⟩, trivial, by omega⟩
    rw [KT.w_ofL]
    exact (k1 i hi).ext ⟨by rw [Store.size_alloc]; omega, fun k hk => by rw [Store.get_alloc, if_neg (by omega)]⟩
theorem fields_got {B : DataW H → Nat} {BA : List (DataW H) → Nat} (hB : Bulk B BA) {K : TypeId → Option (List KT)} {cs : List Value} {T : TypeId → List Value → Option (DataW H × List MemPlace)}
    (ih : ∀ t l, K t = some l → ∀ cs x, T t cs = some x → Sp W l cs → B x.1 ≤ INF → Got P W l cs (B x.1)) :
    ∀ (fs : List Field) (off : Nat) (l : List KT) (xs : List (DataW H × List MemPlace)), kfs K P off fs = some l → xs.length = fs.length → (∀ (i : Nat) (f : Field), fs[i]? = some f → T f.type ((cs.drop f.offset).take (P.cellsOf f.type)) = xs[i]?) → Sp W l cs → cs.length = off + l.length → BA (xs.map (·.1)) ≤ INF → Got P W l (cs.drop off) (BA (xs.map (·.1)))
  | [], off, l, xs, hk, hn, hm, hs, hl, hb => by
    simp only [kfs, Option.some.injEq] at hk; subst hk
    have : xs = [] := by simpa using hn
    subst this
    rw [List.drop_of_length_le (by simp at hl; omega)]
    intro σ μ hR hro
    exact ⟨σ, μ, [], .refl σ, fun _ _ h => h, hR, hro, .nil, fun v h => (nomatch h), rfl, trivial⟩
  | f :: r, off, l, [], hk, hn, hm, hs, hl, hb => by simp at hn
  | f :: r, off, l, x1 :: xs2, hk, hn, hm, hs, hl, hb => by
    rw [List.map_cons, hB.cons] at hb
    simp only [kfs] at hk
    split at hk
    · rename_i hoff
      split at hk
      · rename_i l1 hK
        split at hk
        · rename_i hw
          simp only [Option.map_eq_some_iff] at hk
          obtain ⟨l2, hk2, rfl⟩ := hk
          have h1 := hm 0 f rfl
          have h2 : ∀ (i : Nat) (f : Field), r[i]? = some f → T f.type ((cs.drop f.offset).take (P.cellsOf f.type)) = xs2[i]? := fun i f hf => by simpa using hm (i + 1) f (by simpa using hf)
          have g1 := ih _ _ hK _ _ h1 (fun ha v hv => hs (by simp only [List.any_append, Bool.or_eq_true]; exact .inl ha) v (List.mem_of_mem_drop (List.mem_of_mem_take hv))) (by omega)
          have g2 := fields_got hB ih r (off + l1.length) l2 xs2 hk2 (by simpa using hn) h2 (fun ha v hv => hs (by simp only [List.any_append, Bool.or_eq_true]; exact .inr ha) v hv) (by rw [hl, List.length_append]; omega) (by omega)
          have := g1.app g2
          rw [hoff, ← hw, ← List.drop_drop] at this
          rw [List.take_append_drop] at this
          rw [List.map_cons, hB.cons]
          exact this
        · cases hk
      · cases hk
    · cases hk
theorem row_cells {a : Addr} (hsp : a.spot = none) {C : Array Value} {E : TypeId} {fr : Nat × Nat} (hC : W.heap[a.block]? = some (.cells C E fr)) {w : Nat} (hw : 0 < w) {T : List Value → Option (DataW H × List MemPlace)} {i : Nat} {x : DataW H × List MemPlace}
    (h : (W.cells? 0 (a.add (i * w)) w).bind T = some x) : a.off + (i + 1) * w ≤ C.size ∧ T ((C.toList.drop (a.off + i * w)).take w) = some x := by
  rw [Option.bind_eq_some_iff] at h
  obtain ⟨cs, hcs, hT⟩ := h
  have ea : a.add (i * w) = ⟨a.block, a.off + i * w, none⟩ := by
    obtain ⟨b, o, sp⟩ := a; simp only at hsp; subst hsp; exact addr_add b o _
  obtain ⟨j1, j2⟩ := cells?_row (C := C) (E := E) (fr := fr) hcs (by rw [ea]) (by rw [ea]; exact hC)
  rw [ea] at j1 j2
  simp only at j1 j2
  have := j2 hw
  rw [Nat.succ_mul]
  exact ⟨by omega, by rw [← j1]; exact hT⟩
theorem BA_sum {B : DataW H → Nat} {BA : List (DataW H) → Nat} (hB : Bulk B BA) : ∀ (ds : List (DataW H)), BA ds = sumN (fun i => B (ds.getD i .nil)) ds.length := by
  have key : ∀ (ds pre : List (DataW H)), BA pre = sumN (fun i => B ((pre ++ ds).getD i .nil)) pre.length → BA (pre ++ ds) = sumN (fun i => B ((pre ++ ds).getD i .nil)) (pre ++ ds).length := by
    have happ : ∀ (a b : List (DataW H)), BA (a ++ b) = BA a + BA b := by
      intro a b
      induction a with
      | nil => simp [hB.nil0]
      | cons d r ih => rw [List.cons_append, hB.cons, hB.cons, ih]; omega
    intro ds
    induction ds with
    | nil => intro pre h; simpa using h
    | cons d r ih =>
      intro pre h
      have := ih (pre ++ [d]) (by
        rw [happ, hB.cons, hB.nil0, List.append_assoc, List.length_append]
        simp only [List.singleton_append, List.length_singleton, sumN]
        rw [h]
        simp)
      simpa using this
  intro ds
  have := key ds [] (by simp [hB.nil0, sumN])
  simpa using this
theorem BA_len {B : DataW H → Nat} {BA : List (DataW H) → Nat} (hB : Bulk B BA) (hp : ∀ d, 1 ≤ B d) : ∀ (ds : List (DataW H)), ds.length ≤ BA ds
  | [] => by simp
  | d :: r => by rw [hB.cons, List.length_cons]; have := BA_len hB hp r; have := hp d; omega
theorem sumN_le {m : Nat → Nat} : ∀ {n i : Nat}, i < n → m i ≤ sumN m n
  | n + 1, i, h => by
    simp only [sumN]
    by_cases e : i = n
    · subst e; omega
    · have := sumN_le (m := m) (n := n) (i := i) (by omega); omega
theorem got_trod {B : DataW H → Nat} {BA : List (DataW H) → Nat} (hB : Bulk B BA) (hp : ∀ d, 1 ≤ B d) {nest : Bool} (hN : nest = true → ∀ (b : Nat) (C : Array Value) (E : TypeId) (fr : Nat × Nat), W.heap[b]? = some (.cells C E fr) → ∀ v ∈ C.toList, SpotOK W v) :
    ∀ (fuel d : Nat) (t : TypeId) (l : List KT), kts nest P d t = some l → ∀ cs x, DataW.trod enc P W 0 (fun _ => true) true fuel t cs = some x → Sp W l cs → B x.1 ≤ INF → Got P W l cs (B x.1) := by
  intro fuel
  induction fuel with
  | zero => intro d t l _ cs x h; simp [DataW.trod] at h
  | succ fuel ih =>
    intro d t l hk cs x h hs hb
    cases d with
    | zero => simp [kts] at hk
    | succ d =>
      unfold kts at hk
      cases hu : P.underlying t with
      | none => rw [hu] at hk; cases hk
      | some u =>
        rw [hu] at hk
        cases u with
        | bool =>
          simp only [Option.some.injEq] at hk; subst hk
          obtain ⟨b, rfl, rfl⟩ := DataW.trod_bool hu h
          exact Got.one (fun _ => .bool b) (fun n => Low_bool n b) fun σ => ⟨b, [], rfl, hp _⟩
        | int k =>
          simp only [Option.some.injEq] at hk; subst hk
          obtain ⟨n, rfl, rfl, hw⟩ := DataW.trod_int hu h
          simp only [Lit.wf, Bool.and_eq_true, decide_eq_true_eq] at hw
          exact Got.one (fun _ => .int k n) (fun m => Low_int m k n) fun σ => ⟨n, [], rfl, hw.1, hw.2, hp _⟩
        | string =>
          simp only [Option.some.injEq] at hk; subst hk
          obtain ⟨s, rfl, rfl, _⟩ := DataW.trod_string hu h
          exact Got.one (fun _ => .str s) (fun n => Low_str n s) fun σ => ⟨s, [], rfl, hp _⟩
        | slice e =>
          simp only at hk
          split at hk
          · rename_i l1 hK
            split at hk
            · rename_i hc
              obtain ⟨hw, hpos, hnest⟩ := hc
              simp only [Option.some.injEq] at hk; subst hk
              rcases DataW.trod_slice hu h with ⟨rfl, rfl⟩ | ⟨a, n, cap, elems, rest, f', hf, rfl, rfl, _, hcap, hmax, hel, hels, hrest, _⟩
              · exact Got.one (fun _ => .nils 0 0) (fun n => Low_nils n 0 0) fun σ => ⟨none, 0, 0, [], rfl, Nat.le_refl _, hp _, .inl ⟨rfl, rfl, rfl⟩⟩
              · obtain ⟨hsp, C, E, fr, hC⟩ := hs rfl (.slice (some a) n cap) (by simp) a n cap rfl
                cases hf
                have hw' : 0 < P.cellsOf e := by omega
                have hge : ∀ i, i < n → ∃ y, elems[i]? = some y := fun i hi => by rw [List.getElem?_eq_getElem (by omega)]; exact ⟨_, rfl⟩
                obtain ⟨hr1, hr2⟩ := hrest rfl
                have hB1 : sumN (fun i => B ((elems.map (·.1)).getD i .nil)) n + 1 ≤ B (.slice (elems.map (·.1)) (rest.map (·.1))) := by
                  rw [hB.slice, BA_sum hB (elems.map (·.1)), List.length_map, hel]; omega
                have hB2 : cap < B (.slice (elems.map (·.1)) (rest.map (·.1))) := by
                  rw [hB.slice]
                  have h1 := BA_len hB hp (elems.map (·.1))
                  have h2 := BA_len hB hp (rest.map (·.1))
                  rw [List.length_map, hel] at h1
                  rw [List.length_map, hr1] at h2; omega
                simp only at hb
                refine Got.slice (m := fun i => B ((elems.map (·.1)).getD i .nil)) hw hpos hsp hC hcap (by omega) (fun h0 => ?_) (fun i hi => ?_) hB1 hB2
                · by_cases hn : n = 0
                  · subst hn
                    have : (0 : Nat) < cap - 0 := by omega
                    obtain ⟨y, hy⟩ : ∃ y, rest[0]? = some y := by rw [List.getElem?_eq_getElem (by omega)]; exact ⟨_, rfl⟩
                    have h3 := hr2 0 this
                    rw [hy] at h3
                    have := (row_cells hsp hC hw' h3).1
                    omega
                  · obtain ⟨y, hy⟩ := hge (n - 1) (by omega)
                    have h3 := hels (n - 1) (by omega)
                    rw [hy] at h3
                    have := (row_cells hsp hC hw' h3).1
                    rw [hw]
                    rw [show n - 1 + 1 = n by omega] at this
                    exact this
                · obtain ⟨y, hy⟩ := hge i hi
                  have h3 := hels i hi
                  rw [hy] at h3
                  have h4 := (row_cells hsp hC hw' h3).2
                  have h5 := ih d e l1 hK _ _ h4 (fun ha v hv => by
                    cases nest with
                    | true => exact hN rfl _ _ _ _ hC v (List.mem_of_mem_drop (List.mem_of_mem_take hv))
                    | false => rw [ha] at hnest; simp at hnest) (by
                      have h6 := sumN_le (m := fun i => B ((elems.map (·.1)).getD i .nil)) hi
                      have h7 : (elems.map (·.1)).getD i .nil = y.1 := by simp [hy]
                      simp only [h7] at h6; omega)
                  rw [hw]
                  simpa [hy] using h5
            · cases hk
          · cases hk
        | struct fs =>
          simp only at hk
          split at hk
          · rename_i l1 hK
            split at hk
            · rename_i hw
              simp only [Option.some.injEq] at hk; subst hk
              obtain ⟨xs, f', hf, rfl, hl, hn, hx⟩ := DataW.trod_struct hu h
              cases hf
              have := fields_got (P := P) (W := W) hB (K := kts nest P d) (cs := cs) (T := DataW.trod enc P W 0 (fun _ => true) true fuel) (fun t l hk cs x hx hs hb => ih d t l hk cs x hx hs hb) fs.toList 0 l1 xs hK (by simpa using hn) (fun i f hf => hx i f (by simpa using hf)) hs (by omega) (by rw [hB.agg] at hb; omega)
              refine fun σ μ hR hro => ?_
              obtain ⟨σ', μ', vs, a1, a2, a3, a4, a5, a6, a7, a8⟩ := this σ μ hR hro
              exact ⟨σ', μ', vs, a1, a2, a3, a4, by simpa using a5, a6, a7, a8.le (by rw [hB.agg]; omega)⟩
            · cases hk
          · cases hk
        | _ => cases hk
end Go.Ev
end EvInit
section SxRes
namespace Go.Ev.Sx
def KT.ty : KT → Ty
  | .int k => .int k (.num (kmin k)) (.num (kmax k))
  | .bool => .bool
  | .str => .str
  | .sl e p => .sl e p.w (ty p) (.num 0) (.num (2 ^ 20))
  | .cons a b => .cons (ty a) (ty b)
  | .nil => .nil
theorem kmin_eq (k : IntKind) : k.min = kmin k := by cases k <;> decide
theorem kmax_eq (k : IntKind) : k.max = kmax k := by cases k <;> decide
theorem KR_VT {V : Val} {σ : Store} : ∀ {k : KT} {l : List Value} {M : Nat}, M ≤ 2 ^ 20 → Ev.KR σ k l M → VT V (fun x => x < σ.size) σ (KT.ty k) l
  | .int k, l, M, hM, ⟨n, tl, h1, h2, h3, _⟩ => ⟨n, tl, _, _, h1, L.ev_num _, L.ev_num _, by rw [← kmin_eq]; exact h2, by rw [← kmax_eq]; exact h3⟩
  | .bool, l, M, hM, ⟨b, tl, h1, _⟩ => ⟨b, tl, h1⟩
  | .str, l, M, hM, ⟨b, tl, h1, _⟩ => ⟨b, tl, h1⟩
  | .sl e p, l, M, hM, ⟨q, n, cap, tl, h1, h2, h3, h4⟩ => by
    refine ⟨q, n, cap, tl, _, _, h1, L.ev_num _, L.ev_num _, by omega, by omega, ⟨h2, by unfold INF; omega⟩, ?_⟩
    rcases h4 with ⟨a, b, c⟩ | ⟨blk, c, m, a1, a2, a3, a4, a5⟩
    · exact .inl ⟨a, b, by rw [c]; decide⟩
    · refine .inr ⟨blk, 0, _, c, a1, Store.get_lt a2, a2, by omega, fun i hi => ?_⟩
      have := sumN_le (m := m) hi
      rw [Nat.zero_add]
      exact KR_VT (by omega) (a4 i hi)
  | .cons a b, l, M, hM, ⟨x, tl, m1, m2, h1, h2, h3, h4⟩ => ⟨KR_VT (by omega) h2, x, tl, h1, KR_VT (by omega) h3⟩
  | .nil, _, _, _, _ => trivial
theorem KR_PT {V : Val} {σ : Store} : ∀ {l : List KT} {vs : List Value} {M : Nat}, M ≤ 2 ^ 20 → Ev.KR σ (KT.ofL l) vs M → PT V (fun x => x < σ.size) σ (l.map KT.ty) vs
  | [], _, _, _, _ => trivial
  | k :: l, vs, M, hM, ⟨x, tl, m1, m2, h1, h2, h3, h4⟩ => ⟨KR_VT (by omega) h2, x, tl, h1, KR_PT (by omega) h3⟩
def SS.zero : SS := ⟨[], [], [], [], [], [], 0, 0, 0⟩
theorem G_zero (σ : Store) : G ⟨fun _ => none, fun _ => none, fun _ => none, fun _ => none⟩ (fun x => x < σ.size) SS.zero σ where
  iv := fun x lo hi h => by cases h
  facts := fun f h => by cases h
  heap := fun b he h => by cases h
  inj := fun b b' he he' l p p' h => by cases h
  nu := fun l ⟨b, he, p, h, _⟩ => by cases h
  vws := fun b w h => by cases h
  clos := fun x k h => by cases h
  fx := fun _ _ => rfl
  fb := fun _ _ => ⟨rfl, rfl⟩
  fk := fun _ _ => rfl
  uin := fun l h => h
def start (l : List KT) : Option (List C × SS) := insts SS.zero (l.map KT.ty)
def NR (τ0 : Nat → List Value) (D : Nat → Prop) : KT → List Value → Nat → Prop
  | .int k, l, M => ∃ n tl, l = .int k n :: tl ∧ 1 ≤ M
  | .bool, l, M => ∃ b tl, l = .bool b :: tl ∧ 1 ≤ M
  | .str, l, M => False
  | .sl e p, l, M => ∃ q n cap tl, l = .slice q n cap :: tl ∧ n ≤ 2 ^ 31 ∧ 1 ≤ M ∧ ((q = none ∧ n = 0) ∨ ∃ blk o m, q = some ⟨blk, o, none⟩ ∧ D blk ∧ o + n * p.w ≤ (τ0 blk).length ∧ (∀ v ∈ τ0 blk, okSh v = true) ∧
      (∀ i, i < n → NR τ0 D p ((τ0 blk).drop (o + i * p.w)) (m i)) ∧ sumN m n + 1 ≤ M)
  | .cons a b, l, M => ∃ x tl m1 m2, l = x :: tl ∧ NR τ0 D a l m1 ∧ NR τ0 D b tl m2 ∧ m1 + m2 ≤ M
  | .nil, _, _ => True
def KT.noStr : KT → Bool
  | .str => false
  | .sl _ p => noStr p
  | .cons a b => noStr a && noStr b
  | _ => true
theorem KR_NR {σ : Store} {τ0 : Nat → List Value} {D : Nat → Prop} (hD : ∀ l, l < σ.size → D l) (hτ : ∀ l st e c, σ.get l = some (.cells st e c) → τ0 l = c) (hro : ∀ l e c, σ.get l = some (.cells .ro e c) → ∀ v ∈ c, okSh v = true) :
    ∀ {k : KT} {l : List Value} {M : Nat}, KT.noStr k = true → M ≤ 2 ^ 20 → Ev.KR σ k l M → NR τ0 D k l M
  | .int k, l, M, _, hM, ⟨n, tl, h1, h2, h3, h4⟩ => ⟨n, tl, h1, h4⟩
  | .bool, l, M, _, hM, h => h
  | .str, l, M, hn, hM, _ => by cases hn
  | .sl e p, l, M, hn, hM, ⟨q, n, cap, tl, h1, h2, h3, h4⟩ => by
    refine ⟨q, n, cap, tl, h1, by omega, by omega, ?_⟩
    rcases h4 with ⟨a, b, c⟩ | ⟨blk, c, m, a1, a2, a3, a4, a5⟩
    · exact .inl ⟨a, b⟩
    · have e1 := hτ _ _ _ _ a2
      refine .inr ⟨blk, 0, m, a1, hD _ (Store.get_lt a2), by rw [e1]; omega, by rw [e1]; exact hro _ _ _ a2, fun i hi => ?_, a5⟩
      have := sumN_le (m := m) hi
      rw [e1, Nat.zero_add]
      exact KR_NR hD hτ hro hn (by omega) (a4 i hi)
  | .cons a b, l, M, hn, hM, ⟨x, tl, m1, m2, h1, h2, h3, h4⟩ => by
    simp only [KT.noStr, Bool.and_eq_true] at hn
    exact ⟨x, tl, m1, m2, h1, KR_NR hD hτ hro hn.1 (by omega) h2, KR_NR hD hτ hro hn.2 (by omega) h3, h4⟩
  | .nil, _, _, _, _, _ => trivial
def fitRow : PIs → Nat → KT → Bool
  | .nil, _, .nil => true
  | .int (.nm i) r, b, .cons (.int _) t => (i == b) && fitRow r (b + 1) t
  | .bool (.nm i) r, b, .cons .bool t => (i == b) && fitRow r (b + 1) t
  | .lst (.nm i) esz base el r, b, .cons (.sl _ p) t => (i == b) && (esz == p.w) && decide (b < base) && fitRow el base p && fitRow r (b + 1) t
  | _, _, _ => false
def rowAt (V : Nat → Value) (b n : Nat) (vs : List Value) : Prop := ∀ j, j < n → vs[j]? = some (V (b + j))
theorem catN_len (A : Nat → List Value) (m : Nat → Nat) : ∀ n, (∀ i, i < n → (A i).length ≤ m i) → (catN A n).length ≤ sumN m n
  | 0, _ => Nat.le_refl _
  | n + 1, h => by
    simp only [catN, sumN, List.length_append]
    have := catN_len A m n fun i hi => h i (by omega)
    have := h n (by omega); omega
theorem catN_all (A : Nat → List Value) : ∀ n, (∀ i, i < n → (A i).all plainV = true) → (catN A n).all plainV = true
  | 0, _ => rfl
  | n + 1, h => by simp only [catN, List.all_append, catN_all A n fun i hi => h i (by omega), h n (by omega), Bool.and_self]
theorem sem_row {τ0 : Nat → List Value} {D : Nat → Prop} : ∀ {p : PIs} {b : Nat} {k : KT} {V : Nat → Value} {vs : List Value} {M : Nat}, fitRow p b k = true → NR τ0 D k vs M → rowAt V b k.w vs →
    ∃ A B, p.sem τ0 D V A B ∧ A.length ≤ M ∧ B.length ≤ M ∧ A.all plainV = true ∧ B.all plainV = true
  | .nil, b, k, V, vs, M, h, _, _ => ⟨[], [], ⟨rfl, rfl⟩, Nat.zero_le _, Nat.zero_le _, rfl, rfl⟩
  | .int c r, b, k, V, vs, M, h, hN, hr => by
    cases c <;> cases k <;> first | (exfalso; simp [fitRow] at h; done) | skip
    rename_i i a t
    cases a <;> first | (exfalso; simp [fitRow] at h; done) | skip
    simp only [fitRow] at h
    simp only [Bool.and_eq_true, beq_iff_eq] at h
    obtain ⟨rfl, h⟩ := h
    obtain ⟨x, tl, m1, m2, rfl, ⟨n, tl', e, h1⟩, h2, h3⟩ := hN
    cases e
    obtain ⟨A, B, s1, s2, s3, s4, s5⟩ := sem_row h h2 (fun j hj => by have := hr (j + 1) (by simp only [KT.w]; omega); rw [show i + 1 + j = i + (j + 1) by omega]; simpa using this)
    have h0 := hr 0 (by simp only [KT.w]; omega)
    simp at h0
    exact ⟨_, B, ⟨_, n, A, h0.symm, rfl, s1⟩, by simp only [List.length_cons]; omega, by omega, by simp only [List.all_cons, s4, Bool.and_true]; rfl, s5⟩
  | .bool c r, b, k, V, vs, M, h, hN, hr => by
    cases c <;> cases k <;> first | (exfalso; simp [fitRow] at h; done) | skip
    rename_i i a t
    cases a <;> first | (exfalso; simp [fitRow] at h; done) | skip
    simp only [fitRow] at h
    simp only [Bool.and_eq_true, beq_iff_eq] at h
    obtain ⟨rfl, h⟩ := h
    obtain ⟨x, tl, m1, m2, rfl, ⟨n, tl', e, h1⟩, h2, h3⟩ := hN
    cases e
    obtain ⟨A, B, s1, s2, s3, s4, s5⟩ := sem_row h h2 (fun j hj => by have := hr (j + 1) (by simp only [KT.w]; omega); rw [show i + 1 + j = i + (j + 1) by omega]; simpa using this)
    have h0 := hr 0 (by simp only [KT.w]; omega)
    simp at h0
    exact ⟨_, B, ⟨n, A, h0.symm, rfl, s1⟩, by simp only [List.length_cons]; omega, by omega, by simp only [List.all_cons, s4, Bool.and_true]; rfl, s5⟩
  | .lst c esz base el r, b, k, V, vs, M, h, hN, hr => by
    cases c <;> cases k <;> first | (exfalso; simp [fitRow] at h; done) | skip
    rename_i i a t
    cases a <;> first | (exfalso; simp [fitRow] at h; done) | skip
    simp only [fitRow] at h
    rename_i e p
    simp only [Bool.and_eq_true, beq_iff_eq, decide_eq_true_eq] at h
    obtain ⟨⟨⟨⟨rfl, rfl⟩, hb⟩, hel⟩, h⟩ := h
    obtain ⟨x, tl, m1, m2, rfl, ⟨q, n, cap, tl', e1, hn, h1, hq⟩, h2, h3⟩ := hN
    cases e1
    obtain ⟨A, B, s1, s2, s3, s4, s5⟩ := sem_row h h2 (fun j hj => by have := hr (j + 1) (by simp only [KT.w]; omega); rw [show i + 1 + j = i + (j + 1) by omega]; simpa using this)
    have h0 := hr 0 (by simp only [KT.w]; omega)
    simp at h0
    rcases hq with ⟨rfl, rfl⟩ | ⟨blk, o, m, rfl, hD, hlen, hok, hrows, hsum⟩
    · refine ⟨_, B, ⟨none, 0, cap, fun _ => [], fun _ => [], A, B, h0.symm, by omega, .inl ⟨rfl, rfl⟩, rfl, rfl, s1⟩, by simp only [List.length_cons, catN, List.nil_append]; omega, by omega, by simp only [catN, List.nil_append, List.all_cons, s4, Bool.and_true]; rfl, s5⟩
    · have hex : ∀ j, ∃ AB : List Value × List Value, j < n → (el.sem τ0 D (bindN V base p.w ((τ0 blk).drop (o + j * p.w))) AB.1 AB.2 ∧ AB.1.length ≤ m j ∧ AB.2.length ≤ m j ∧ AB.1.all plainV = true ∧ AB.2.all plainV = true) := by
        intro j
        by_cases hj : j < n
        · have hjn : (j + 1) * p.w ≤ n * p.w := Nat.mul_le_mul_right _ hj
          rw [Nat.succ_mul] at hjn
          obtain ⟨A', B', q1, q2, q3, q4, q5⟩ := sem_row (V := bindN V base p.w ((τ0 blk).drop (o + j * p.w))) hel (hrows j hj) (fun y hy => by
            unfold bindN
            rw [if_pos (by omega), show base + y - base = y by omega]
            have hlt : y < ((τ0 blk).drop (o + j * p.w)).length := by rw [List.length_drop]; omega
            rw [List.getD_eq_getElem?_getD, List.getElem?_eq_getElem hlt]; rfl)
          exact ⟨(A', B'), fun _ => ⟨q1, q2, q3, q4, q5⟩⟩
        · exact ⟨([], []), fun h => absurd h hj⟩
      obtain ⟨f, hf⟩ := Classical.axiomOfChoice hex
      have l1 := catN_len (fun j => (f j).1) m n fun j hj => (hf j hj).2.1
      have l2 := catN_len (fun j => (f j).2) m n fun j hj => (hf j hj).2.2.1
      refine ⟨_, _, ⟨some ⟨blk, o, none⟩, n, cap, fun j => (f j).1, fun j => (f j).2, A, B, h0.symm, hn, .inr ⟨blk, o, rfl, hD, hlen, hok, fun j hj => (hf j hj).1⟩, rfl, rfl, s1⟩, ?_, ?_, ?_, ?_⟩
      · simp only [List.length_cons, List.length_append]; omega
      · simp only [List.length_append]; omega
      · simp only [List.all_cons, List.all_append, s4, catN_all _ n fun j hj => (hf j hj).2.2.2.1, Bool.and_true]; rfl
      · simp only [List.all_append, s5, catN_all _ n fun j hj => (hf j hj).2.2.2.2, Bool.and_true]
theorem NR_tail {τ0 : Nat → List Value} {D : Nat → Prop} : ∀ {k : KT} {l : List Value} {M : Nat}, NR τ0 D k l M → ∀ r, NR τ0 D k (l ++ r) M
  | .int k, l, M, ⟨n, tl, h1, h2⟩, r => ⟨n, tl ++ r, by rw [h1]; rfl, h2⟩
  | .bool, l, M, ⟨n, tl, h1, h2⟩, r => ⟨n, tl ++ r, by rw [h1]; rfl, h2⟩
  | .str, l, M, h, r => h
  | .sl e p, l, M, ⟨q, n, cap, tl, h1, h2⟩, r => ⟨q, n, cap, tl ++ r, by rw [h1]; rfl, h2⟩
  | .cons a b, l, M, ⟨x, tl, m1, m2, h1, h2, h3, h4⟩, r => ⟨x, tl ++ r, m1, m2, by rw [h1]; rfl, NR_tail h2 r, NR_tail h3 r, h4⟩
  | .nil, _, _, _, _ => trivial
def tyK1 : Ty → KT → Bool
  | .int k _ _, .int k' => kbeq k k'
  | .bool, .bool => true
  | _, _ => false
def tyK : Ty → KT → Bool
  | .cons a b, .cons c d => tyK1 a c && tyK b d
  | .nil, .nil => true
  | _, _ => false
theorem VT_NR1 {V : Val} {U : Nat → Prop} {σ : Store} {τ0 : Nat → List Value} {D : Nat → Prop} {t : Ty} {k : KT} {l : List Value} (h : tyK1 t k = true) (hv : VT V U σ t l) : NR τ0 D k l 1 := by
  cases t <;> cases k <;> first | (exfalso; simp [tyK1] at h; done) | skip
  · have := kbeq_eq h
    subst this
    obtain ⟨n, tl, a, b, h1, _⟩ := hv
    exact ⟨n, tl, h1, Nat.le_refl _⟩
  · obtain ⟨b, tl, h1⟩ := hv
    exact ⟨b, tl, h1, Nat.le_refl _⟩
theorem VT_NR {V : Val} {U : Nat → Prop} {σ : Store} {τ0 : Nat → List Value} {D : Nat → Prop} : ∀ {t : Ty} {k : KT} {l : List Value}, tyK t k = true → VT V U σ t l → NR τ0 D k l k.w := by
  intro t
  induction t with
  | cons a b _ ih =>
    intro k l h hv
    cases k <;> first | (exfalso; simp [tyK] at h; done) | skip
    rename_i c d
    simp only [tyK] at h
    simp only [Bool.and_eq_true] at h
    obtain ⟨h1, x, tl, h2, h3⟩ := hv
    exact ⟨x, tl, 1, d.w, h2, VT_NR1 h.1 h1, ih h.2 h3, by simp only [KT.w]; omega⟩
  | nil => intro k l h hv; cases k <;> first | (exfalso; simp [tyK] at h; done) | trivial
  | _ => intro k l h hv; exfalso; cases k <;> simp [tyK] at h
def resC (S : SS) : C → KT → Bool
  | .int k _, .int k' => kbeq k k'
  | .bool _, .bool => true
  | .nilsl, .sl _ _ => true
  | .sl _ b off len esz _, .sl _ p => match S.getH b with
    | some (.arr _ _ esz' pat n) => Nat.beq esz p.w && Nat.beq esz' p.w && tyK pat p && S.ent ((n.sub off).sub len) && S.ent off && (match len.hi S.iv with
      | some h => ile (h * p.w) 1048575
      | none => false) && Nat.ble 1 p.w
    | _ => false
  | _, _ => false
def resCs (S : SS) : List C → List KT → Bool
  | [], [] => true
  | c :: cs, k :: ks => resC S c k && resCs S cs ks
  | _, _ => false
def resWs : List (Bool × List C) → List (Bool × Nat) → Option (List C)
  | [], [] => some []
  | (g, cs) :: r, (g', n) :: rs => bif (g == g') && Nat.beq cs.length n && (g || Nat.beq n 1) then (resWs r rs).map (cs ++ ·) else none
  | _, _ => none
def resSV : SV → List (Bool × Nat) → Option (List C)
  | .w g cs, [p] => resWs [(g, cs)] [p]
  | .tup ws, p :: q :: r => resWs ws (p :: q :: r)
  | .tup ws, [] => resWs ws []
  | _, _ => none
def resOK (rs : List (Bool × Nat)) (ks : List KT) (sv : SV) (S : SS) : Bool := match resSV sv rs with
  | some cs => resCs S cs ks
  | none => false
def contOf (τ : Store) (l : Nat) : List Value := match τ.get l with
  | some (.cells _ _ c) => c
  | _ => []
structure Cel (σ0 τ : Store) (v : Value) : Prop where
  ok : okSh v = true
  own : ∀ l, blockOf v = some l → σ0.size ≤ l ∧ ∃ st e c, τ.get l = some (.cells st e c) ∧ c.all okSh = true ∧ st ≠ .ro
theorem resC_ok {V : Val} {U : Nat → Prop} {S : SS} {σ0 τ : Store} (g : G V U S τ) (hown : ∀ l, Own V S l → σ0.size ≤ l) {τ0 : Nat → List Value} {D : Nat → Prop} (hτ : ∀ l, τ0 l = contOf τ l) {c : C} {k : KT} (h : resC S c k = true) {v : Value} (hc : CR V U τ c v) (hD : ∀ l, blockOf v = some l → D l) :
    Cel σ0 τ v ∧ NR τ0 D k [v] (2 ^ 20) := by
  cases c <;> cases k <;> first | (exfalso; simp [resC] at h; done) | skip
  · have := kbeq_eq h
    subst this
    obtain ⟨n, _, rfl⟩ := hc
    exact ⟨⟨rfl, fun l hl => by cases hl⟩, n, [], rfl, by decide⟩
  · obtain ⟨x, _, rfl⟩ := hc
    exact ⟨⟨rfl, fun l hl => by cases hl⟩, x, [], rfl, by decide⟩
  · rename_i x b off len esz cp e p
    simp only [resC] at h
    split at h
    · rename_i gr e' esz' pat n hh
      simp only [Bool.and_eq_true] at h
      obtain ⟨⟨⟨⟨⟨⟨h1, h2⟩, h3⟩, h4⟩, h5⟩, h6⟩, h7⟩ := h
      have r1 := beqN h1; have r2 := beqN h2
      subst r1; subst r2
      obtain ⟨q, m, cap, o, w1, rfl, w2, w3, w4⟩ := hc
      obtain ⟨N, n1, n0, n2⟩ := g.heap b _ hh
      have q1 := g.ent h4 (L.ev_sub (L.ev_sub n1 w3) w2)
      have hw1 := bleN h7
      have hm : (m : Int) * p.w ≤ 1048575 := by
        cases hhi : len.hi S.iv with
        | none => rw [hhi] at h6; cases h6
        | some z =>
          rw [hhi] at h6
          have h8 := hi_at g.iv hhi w2
          have h9 := (ile_iff _ _).1 h6
          have h10 : (m : Int) * p.w ≤ z * p.w := Int.mul_le_mul_of_nonneg_right h8 (by omega)
          omega
      have hm1 : m * p.w ≤ 1048575 := by
        have : ((m * p.w : Nat) : Int) ≤ 1048575 := by rw [Int.natCast_mul]; exact hm
        omega
      have hm2 : m ≤ m * p.w := Nat.le_mul_of_pos_right m (by omega)
      have hb1 : ∀ blk off', q = some ⟨blk, off', none⟩ → V.α b = some (some (blk, 0)) ∨ True := fun _ _ _ => .inr trivial
      have hq : (q = none ∧ m = 0) ∨ ∃ blk of o', q = some ⟨blk, of + o' * p.w, none⟩ ∧ V.α b = some (some (blk, of)) ∧ o' ≤ o ∧ (m ≠ 0 → o' = o) := by
        have sat : (m ≠ 0 → At V b p.w o q) → Sat V b p.w o q → (q = none ∧ m = 0) ∨ ∃ blk of o', q = some ⟨blk, of + o' * p.w, none⟩ ∧ V.α b = some (some (blk, of)) ∧ o' ≤ o ∧ (m ≠ 0 → o' = o) := by
          intro a1 a2
          by_cases h0 : m = 0
          · rcases a2 with a2 | ⟨o', a2, blk, of, a3, a4⟩
            · exact .inl ⟨a2, h0⟩
            · exact .inr ⟨blk, of, o', a4, a3, a2, fun h => absurd h0 h⟩
          · obtain ⟨blk, of, a3, a4⟩ := a1 h0
            exact .inr ⟨blk, of, o, a4, a3, Nat.le_refl _, fun _ => rfl⟩
        obtain ⟨z1, z2⟩ := SlR_sat w4
        exact sat z1 z2
      rcases hq with ⟨rfl, rfl⟩ | ⟨blk, of, o', rfl, hα, ho', hoo⟩
      · exact ⟨⟨rfl, fun l hl => by cases hl⟩, none, 0, cap, [], rfl, by decide, by decide, .inl ⟨rfl, rfl⟩⟩
      · rcases n2 with ⟨_, n2, _⟩ | ⟨blk', vs, n2, n3, ⟨n4, n4'⟩, n5⟩
        · rw [hα] at n2; cases n2
        · rw [hα] at n2
          cases n2
          have hl : σ0.size ≤ blk := hown blk ⟨b, _, 0, hh, rfl, hα⟩
          have e1 : τ0 blk = vs := by rw [hτ]; unfold contOf; rw [n3]
          have hst : (if gr then St.grow else St.rw) ≠ .ro := by cases gr <;> simp
          refine ⟨⟨rfl, fun l hl' => ?_⟩, _, m, cap, [], rfl, by omega, by decide, .inr ⟨blk, 0 + o' * p.w, fun _ => p.w, rfl, hD _ rfl, ?_, ?_, fun i hi => ?_, ?_⟩⟩
          · have : blk = l := by simpa [blockOf] using hl'
            subst this
            exact ⟨hl, _, _, vs, n3, n4', hst⟩
          · rw [e1]
            have : (o' + m) * p.w ≤ N * p.w := Nat.mul_le_mul_right _ (by omega)
            rw [Nat.add_mul] at this
            omega
          · rw [e1]; exact List.all_eq_true.1 n4'
          · rw [e1]
            have ho := hoo (by omega)
            have := n5 (o + i) (by omega)
            rw [ho, Nat.zero_add, ← Nat.add_mul]
            exact VT_NR h3 this
          · have : ∀ n, sumN (fun _ => p.w) n = n * p.w := by
              intro n
              induction n with
              | zero => simp [sumN]
              | succ n ih => simp only [sumN, ih, Nat.succ_mul]
            rw [this]
            omega
    · cases h
  · cases (show v = _ from hc)
    exact ⟨⟨rfl, fun l hl => by cases hl⟩, none, 0, 0, [], rfl, by decide, by decide, .inl ⟨rfl, rfl⟩⟩
theorem resCs_ok {V : Val} {U : Nat → Prop} {S : SS} {σ0 τ : Store} (g : G V U S τ) (hown : ∀ l, Own V S l → σ0.size ≤ l) {τ0 : Nat → List Value} {D : Nat → Prop} (hτ : ∀ l, τ0 l = contOf τ l) : ∀ {cs : List C} {ks : List KT} {vs : List Value}, resCs S cs ks = true → F2 (CR V U τ) cs vs → (∀ v ∈ vs, ∀ l, blockOf v = some l → D l) →
    (∀ v ∈ vs, Cel σ0 τ v) ∧ NR τ0 D (KT.ofL ks) vs (ks.length * 2 ^ 20) ∧ vs.length = ks.length
  | [], [], [], _, _, _ => ⟨fun v h => (nomatch h), trivial, rfl⟩
  | c :: cs, k :: ks, v :: vs, h, hv, hD => by
    simp only [resCs, Bool.and_eq_true] at h
    obtain ⟨a1, a2⟩ := resC_ok g hown hτ h.1 hv.1 (hD v (by simp))
    obtain ⟨b1, b2, b3⟩ := resCs_ok g hown hτ h.2 hv.2 (fun v hv => hD v (by simp [hv]))
    refine ⟨fun x hx => ?_, ⟨v, vs, 2 ^ 20, ks.length * 2 ^ 20, rfl, ?_, b2, by simp only [List.length_cons, Nat.succ_mul]; omega⟩, by simp [b3]⟩
    · rcases List.mem_cons.1 hx with rfl | hx
      · exact a1
      · exact b1 x hx
    · exact NR_tail a2 vs
  | [], [], _ :: _, _, hv, _ => hv.elim
  | [], _ :: _, _, h, _, _ => by simp [resCs] at h
  | _ :: _, [], _, h, _, _ => by simp [resCs] at h
  | _ :: _, _ :: _, [], _, hv, _ => hv.elim
end Go.Ev.Sx
end SxRes
section EvLaw
namespace Go.Ev.Sx
def cellAt (cells : List Value) (i : Nat) : Value := cells.getD i undefE
def Dom (σ0 : Store) (cells : List Value) (l : Nat) : Prop := l < σ0.size ∨ ∃ v ∈ cells, blockOf v = some l
structure Shape (σ0 : Store) (rs : List (Bool × Nat)) (ks : List KT) (r : Value × Store) (cells : List Value) : Prop where
  ext : Ext σ0 r.2
  val : r.1 = resVal (cellAt cells) 0 rs
  cel : ∀ v ∈ cells, Cel σ0 r.2 v
  len : cells.length = ks.length
  sum : sumW rs = ks.length
  nr : NR (contOf r.2) (Dom σ0 cells) (KT.ofL ks) cells (ks.length * 2 ^ 20)
  one : ∀ p ∈ rs, p.1 = false → p.2 = 1
theorem resWs_ok {V : Val} {U : Nat → Prop} {σ : Store} : ∀ {ws : List (Bool × List C)} {rs : List (Bool × Nat)} {cs : List C} {vals : List Value}, resWs ws rs = some cs → F2 (WR V U σ) ws vals →
    ∃ cells, F2 (CR V U σ) cs cells ∧ cells.length = sumW rs ∧ (∀ p ∈ rs, p.1 = false → p.2 = 1) ∧ ∀ pre : List Value, vals = compsV (cellAt (pre ++ cells)) pre.length rs
  | [], [], cs, vals, h, hv => by
    simp only [resWs, Option.some.injEq] at h; subst h
    cases vals with
    | nil => exact ⟨[], trivial, rfl, fun p hp => (nomatch hp), fun pre => rfl⟩
    | cons _ _ => exact hv.elim
  | (g, cs1) :: r, (g', n) :: rs, cs, vals, h, hv => by
    cases vals with
    | nil => exact hv.elim
    | cons v vals =>
      simp only [resWs] at h
      cases hc : ((g == g') && Nat.beq cs1.length n && (g || Nat.beq n 1)) with
      | false => rw [hc] at h; cases h
      | true =>
        rw [hc] at h
        simp only [cond_true, Option.map_eq_some_iff] at h
        obtain ⟨cs2, h2, rfl⟩ := h
        simp only [Bool.and_eq_true, beq_iff_eq] at hc
        obtain ⟨⟨rfl, c2⟩, c3⟩ := hc
        have hn := Nat.eq_of_beq_eq_true c2
        obtain ⟨cells2, a1, a2, a3, a4⟩ := resWs_ok h2 hv.2
        have main : ∃ c1 : List Value, F2 (CR V U σ) cs1 c1 ∧ (g = true → v = .agg c1.toArray) ∧ (g = false → n = 1 ∧ c1 = [v]) := by
          have hw := hv.1
          cases g with
          | true => obtain ⟨vs, rfl, hvs⟩ := hw; exact ⟨vs, hvs, fun _ => rfl, (fun h => by cases h)⟩
          | false =>
            obtain ⟨c, e, hc⟩ := hw
            simp only at e
            subst e
            have : n = 1 := by simpa using hn.symm
            exact ⟨[v], ⟨hc, trivial⟩, (fun h => by cases h), fun _ => ⟨this, rfl⟩⟩
        obtain ⟨c1, b1, b2, b3⟩ := main
        have hl1 : c1.length = n := by rw [← b1.len]; exact hn
        refine ⟨c1 ++ cells2, b1.app a1, by rw [List.length_append, hl1, a2]; rfl, fun p hp hf => ?_, fun pre => ?_⟩
        · rcases List.mem_cons.1 hp with rfl | hp
          · exact (b3 hf).1
          · exact a3 p hp hf
        · simp only [compsV]
          congr 1
          · have hget : ∀ j, j < n → cellAt (pre ++ (c1 ++ cells2)) (pre.length + j) = cellAt c1 j := fun j hj => by
              unfold cellAt
              rw [List.getD_eq_getElem?_getD, List.getD_eq_getElem?_getD, List.getElem?_append_right (by omega), show pre.length + j - pre.length = j by omega, List.getElem?_append_left (by omega)]
            cases g with
            | true =>
              rw [b2 rfl]
              simp only [compV]
              have : (List.range n).map (fun j => cellAt (pre ++ (c1 ++ cells2)) (pre.length + j)) = c1 := by
                apply List.ext_getElem?
                intro j
                by_cases hj : j < n
                · rw [List.getElem?_map, List.getElem?_range hj, Option.map_some, hget j hj]
                  unfold cellAt
                  rw [List.getD_eq_getElem?_getD, List.getElem?_eq_getElem (by omega)]; rfl
                · rw [List.getElem?_eq_none (by simpa using Nat.le_of_not_lt hj), List.getElem?_eq_none (by omega)]
              rw [this]
            | false =>
              obtain ⟨rfl, rfl⟩ := b3 rfl
              have := hget 0 (by omega)
              simp only [compV, Nat.add_zero] at this ⊢
              rw [this]; rfl
          · have := a4 (pre ++ c1)
            rw [List.length_append, hl1, List.append_assoc] at this
            exact this
  | [], _ :: _, _, _, h, _ => by simp [resWs] at h
  | _ :: _, [], _, _, h, _ => by simp [resWs] at h
theorem resSV_ok {V : Val} {U : Nat → Prop} {σ : Store} {sv : SV} {rs : List (Bool × Nat)} {cs : List C} {v : Value} (h : resSV sv rs = some cs) (hv : SVR V U σ sv v) :
    ∃ cells, F2 (CR V U σ) cs cells ∧ cells.length = sumW rs ∧ (∀ p ∈ rs, p.1 = false → p.2 = 1) ∧ v = resVal (cellAt cells) 0 rs := by
  unfold resSV at h
  split at h
  · rename_i g cs' p
    obtain ⟨cells, a1, a2, a3, a4⟩ := resWs_ok (vals := [v]) h ⟨hv, trivial⟩
    have := a4 []
    simp only [List.nil_append, List.length_nil] at this
    exact ⟨cells, a1, a2, a3, by unfold resVal; rw [← this]; rfl⟩
  · rename_i ws p q r
    obtain ⟨vs, rfl, hvs⟩ := hv
    obtain ⟨cells, a1, a2, a3, a4⟩ := resWs_ok h hvs
    have := a4 []
    simp only [List.nil_append, List.length_nil] at this
    refine ⟨cells, a1, a2, a3, ?_⟩
    unfold resVal
    rw [this]
    simp only [compsV, packE]
  · rename_i ws
    obtain ⟨vs, rfl, hvs⟩ := hv
    obtain ⟨cells, a1, a2, a3, a4⟩ := resWs_ok h hvs
    have := a4 []
    simp only [List.nil_append, List.length_nil] at this
    refine ⟨cells, a1, a2, a3, ?_⟩
    unfold resVal
    rw [this]
    simp only [compsV, packE]
  · cases h
theorem asks_shape {F : FuncId → Option EFunc} {tab : FuncId → Option EFunc} {ct : Ct} (hT : ∀ f fn, tab f = some fn → F f = some fn) (hC : CtOK F (fun _ _ _ => none) ct) {n : Nat} {f : FuncId} {args : List SV} {S : SS} {hs : List Hint} {rs : List (Bool × Nat)} {ks : List KT} (hsum : sumW rs = ks.length)
    (h : asks tab ct n f args S hs (resOK rs ks) = true) {V : Val} {σ0 : Store} {vals : List Value} (g : G V (fun x => x < σ0.size) S σ0) (hheap : S.heap = []) (hv : F2 (SVR V (fun x => x < σ0.size) σ0) args vals) :
    WC F (fun _ _ _ => none) (.func f) vals (fun v τ => ∃ cells, Shape σ0 rs ks (v, τ) cells) σ0 := by
  refine (asks_ok hT hC (fun _ _ _ => rfl) h g hv).mono ?_
  rintro v τ ⟨sv, S', hok, V', U', g', k', hsv⟩
  unfold resOK at hok
  split at hok
  · rename_i cs hres
    obtain ⟨cells, a1, a2, a3, a4⟩ := resSV_ok hres hsv
    have noown : ∀ l, ¬ Own V S l := by
      rintro l ⟨b, he, p, h1, _⟩
      rw [hheap] at h1; cases h1
    have hown : ∀ l, Own V' S' l → σ0.size ≤ l := fun l hl => (k'.own l hl).elim (fun h => absurd h (noown l)) id
    obtain ⟨b1, b2, b3⟩ := resCs_ok (D := Dom σ0 cells) g' hown (τ0 := contOf τ) (fun _ => rfl) hok a1 (fun v hv l hl => .inr ⟨v, hv, hl⟩)
    exact ⟨cells, ⟨k'.size, fun l hl => k'.same l hl (noown l)⟩, a4, b1, b3, hsum, b2, a3⟩
  · cases hok
structure Clo where
  g : FuncId
  pg : FuncId
  pargs : List (Bool × List Nat)
  rs : List (Bool × Nat)
  ks : List KT
theorem compsV_congr {f f' : Nat → Value} : ∀ (rs : List (Bool × Nat)) (i : Nat), (∀ p ∈ rs, p.1 = false → p.2 = 1) → (∀ j, i ≤ j → j < i + sumW rs → f j = f' j) → compsV f i rs = compsV f' i rs
  | [], _, _, _ => rfl
  | (g, n) :: r, i, h1, h => by
    simp only [sumW] at h
    simp only [compsV]
    rw [compsV_congr r (i + n) (fun p hp => h1 p (by simp [hp])) (fun j a b => h j (by omega) (by omega))]
    congr 1
    cases g with
    | true =>
      simp only [compV]
      congr 2
      exact List.map_congr_left fun j hj => h _ (by omega) (by have := List.mem_range.1 hj; omega)
    | false =>
      have := h1 (false, n) (by simp) rfl
      simp only at this; subst this
      exact h i (Nat.le_refl _) (by omega)
theorem compsV_shift (f : Nat → Value) (a : Nat) : ∀ (rs : List (Bool × Nat)) (i : Nat), compsV f (a + i) rs = compsV (fun j => f (a + j)) i rs
  | [], _ => rfl
  | (g, n) :: r, i => by
    simp only [compsV, Nat.add_assoc, compsV_shift f a r (i + n)]
    congr 1
    cases g with
    | true => simp only [compV, Nat.add_assoc]
    | false => rfl
theorem shTop_res {d n : Nat} {f : Nat → Value} {rs : List (Bool × Nat)} {i : Nat} (h1 : ∀ p ∈ rs, p.1 = false → p.2 = 1) (hok : ∀ j, i ≤ j → j < i + sumW rs → okSh (f j) = true) :
    shTop d n (resVal f i rs) = some (resVal (fun j => mv d n (f j)) i rs) := by
  have comp : ∀ (p : Bool × Nat) (i : Nat), (p.1 = false → p.2 = 1) → (∀ j, i ≤ j → j < i + p.2 → okSh (f j) = true) → shT d n (compV f i p) = some (compV (fun j => mv d n (f j)) i p) := by
    intro p i h1 hok
    obtain ⟨g, m⟩ := p
    cases g with
    | true =>
      simp only [compV, shT, List.toList_toArray]
      rw [shL_mv (by
        rw [List.all_eq_true]
        intro v hv
        obtain ⟨j, hj, rfl⟩ := List.mem_map.1 hv
        exact hok _ (by omega) (by have := List.mem_range.1 hj; simp only; omega))]
      simp
    | false =>
      have := h1 rfl
      simp only at this; subst this
      have hk := hok i (Nat.le_refl _) (by simp)
      simp only [compV]
      have : shT d n (f i) = shC d n (f i) := by
        cases hf : f i <;> first | rfl | (rw [hf] at hk; cases hk)
      rw [this, shC_mv hk]
  have comps : ∀ (rs : List (Bool × Nat)) (i : Nat), (∀ p ∈ rs, p.1 = false → p.2 = 1) → (∀ j, i ≤ j → j < i + sumW rs → okSh (f j) = true) → shTs d n (compsV f i rs) = some (compsV (fun j => mv d n (f j)) i rs) := by
    intro rs
    induction rs with
    | nil => intro i _ _; rfl
    | cons p r ih =>
      intro i h1 hok
      simp only [sumW] at hok
      simp only [compsV, shTs, comp p i (h1 p (by simp)) (fun j a b => hok j a (by omega)), ih (i + p.2) (fun q hq => h1 q (by simp [hq])) (fun j a b => hok j (by omega) (by omega))]
  unfold resVal
  cases rs with
  | nil => rfl
  | cons p r =>
    cases r with
    | nil =>
      have h2 := comp p i (h1 p (by simp)) (fun j a b => hok j a (by simp only [sumW]; omega))
      show shTop d n (compV f i p) = some (compV (fun j => mv d n (f j)) i p)
      rw [← h2]
      cases hc : compV f i p <;> first | rfl | (rename_i x; rw [hc] at h2; simp [shT, shC] at h2)
    | cons q r =>
      have h2 := comps (p :: q :: r) i h1 hok
      simp only [compsV, packE, shTop, List.toList_toArray] at h2 ⊢
      rw [h2]; rfl
end Go.Ev.Sx
end EvLaw
section EvLaw2
namespace Go.Ev.Sx
def wsOK (nx : Nat) (ks : List KT) (ws : List (Nat × Nat)) : Bool := ws.all fun p => decide (nx ≤ p.1) && match ks[p.1 - nx]? with
  | some (.sl _ q) => p.2 == q.w
  | _ => false
def cloOK (hx : Clo → HX) (wk : FuncId → WK) (nx : Nat) (c : Clo) : Bool := match hxClo (hx c) wk 30 c.g with
  | some (out, ws) => fitRow out nx (KT.ofL c.ks) && wsOK nx c.ks ws
  | none => false
theorem NR_get {τ0 : Nat → List Value} {D : Nat → Prop} : ∀ {ks : List KT} {vs : List Value} {M : Nat}, NR τ0 D (KT.ofL ks) vs M → ∀ {j : Nat} {k : KT}, ks[j]? = some k → ∃ m, NR τ0 D k (vs.drop j) m
  | [], _, _, _, j, k, h => by simp at h
  | a :: r, vs, M, ⟨x, tl, m1, m2, e, h1, h2, _⟩, 0, k, h => by
    simp at h; subst h; exact ⟨m1, h1⟩
  | a :: r, vs, M, ⟨x, tl, m1, m2, e, h1, h2, _⟩, j + 1, k, h => by
    simp at h
    subst e
    exact NR_get h2 h
structure Facts (P : Program) (F : FuncId → Option EFunc) (t : HT) (cl : List Clo) (aw : FuncId) (hx : Clo → HX) (wk : FuncId → WK) (nx : Nat) (kts : List KT) : Prop where
  knx : kts.length = nx
  str : KT.noStr (KT.ofL kts) = true
  few : kts.length ≤ 2048
  hxs : ∀ c ∈ cl, (hx c).pg = c.pg ∧ (hx c).pargs = c.pargs ∧ (hx c).rs = c.rs ∧ (hx c).nx = nx
  free : ∀ c ∈ cl, ∀ f fn, (hx c).tab f = some fn → F f = some fn ∧ f ≠ aw ∧ ∀ c' ∈ cl, f ≠ c'.pg
  kint : ∀ c ∈ cl, ∀ f, (hx c).kd f = .int → F f = some (putIntFn t.int) ∧ f ≠ aw ∧ ∀ c' ∈ cl, f ≠ c'.pg
  kbool : ∀ c ∈ cl, ∀ f, (hx c).kd f = .bool → F f = some (putBoolFn t.int) ∧ f ≠ aw ∧ ∀ c' ∈ cl, f ≠ c'.pg
  kputs : ∀ c ∈ cl, ∀ f esz sh, (hx c).kd f = .puts esz sh → F f = some (putsFn t.int esz sh) ∧ f ≠ aw ∧ ∀ c' ∈ cl, f ≠ c'.pg
  wint : ∀ f, wk f = .int → F f = some wipeIntFn ∧ f ≠ aw ∧ ∀ c' ∈ cl, f ≠ c'.pg
  wipes : ∀ f esz, wk f = .wipes esz → F f = some (wipesFn esz) ∧ f ≠ aw ∧ ∀ c' ∈ cl, f ≠ c'.pg
  pn : ∀ c ∈ cl, ∀ p ∈ c.pargs, (∀ i ∈ p.2, i < nx) ∧ (p.1 = false → p.2.length = 1)
  ok : ∀ c ∈ cl, cloOK hx wk nx c = true
  one : ∀ c ∈ cl, ∀ c' ∈ cl, c.pg = c'.pg → c = c'
  naw : ∀ c ∈ cl, c.pg ≠ aw
  klen : ∀ c ∈ cl, c.ks.length ≤ 2048
def Canon (P : Program) (σ0 : Store) (f : FuncId) (args : List Value) (r : Value × Store) : Prop := ∃ C, COK P C ∧ C (.func f) args σ0 = some r
def Ent (P : Program) (σ0 : Store) (vs : List Value) (cl : List Clo) (aw : FuncId) (f : FuncId) (args : List Value) (r : Value × Store) : Prop :=
  Canon P σ0 f args r ∧ ((f = aw ∧ args = [] ∧ r.1 = .bool true) ∨ ∃ c ∈ cl, c.pg = f ∧ args = c.pargs.map (argV (cellAt vs)) ∧ ∃ cells, Shape σ0 c.rs c.ks r cells)
open Classical in
noncomputable def answers (P : Program) (σ0 : Store) (vs : List Value) (cl : List Clo) (aw : FuncId) : FuncId → List Value → Option (Value × Store) := fun f args =>
  if h : ∃ r, Ent P σ0 vs cl aw f args r then some (Classical.choose h) else none
section
variable {P : Program} {F : FuncId → Option EFunc} {t : HT} {cl : List Clo} {aw : FuncId} {hx : Clo → HX} {wk : FuncId → WK} {nx : Nat} {kts : List KT} {σ0 : Store} {vs : List Value}
theorem answers_some {f : FuncId} {args : List Value} {r : Value × Store} (h : answers P σ0 vs cl aw f args = some r) : Ent P σ0 vs cl aw f args r := by
  unfold answers at h
  split at h
  · rename_i hh
    cases h
    exact Classical.choose_spec hh
  · cases h
theorem answers_ex {f : FuncId} {args : List Value} {r : Value × Store} (h : Ent P σ0 vs cl aw f args r) : ∃ r', answers P σ0 vs cl aw f args = some r' := by
  unfold answers
  rw [dif_pos ⟨r, h⟩]
  exact ⟨_, rfl⟩
theorem answers_none {f : FuncId} (h1 : f ≠ aw) (h2 : ∀ c ∈ cl, f ≠ c.pg) (args : List Value) : answers P σ0 vs cl aw f args = none := by
  cases h : answers P σ0 vs cl aw f args with
  | none => rfl
  | some r =>
    rcases (answers_some h).2 with ⟨h3, _⟩ | ⟨c, hc, h3, _⟩
    · exact absurd h3 h1
    · exact absurd h3.symm (h2 c hc)
noncomputable def theHook (P : Program) (σ0 : Store) (vs : List Value) (cl : List Clo) (aw : FuncId) : Caller := hook σ0 (answers P σ0 vs cl aw)
theorem hook_none {f : FuncId} (h1 : f ≠ aw) (h2 : ∀ c ∈ cl, f ≠ c.pg) (args : List Value) (σ : Store) : theHook P σ0 vs cl aw (.func f) args σ = none := by
  cases h : theHook P σ0 vs cl aw (.func f) args σ with
  | none => rfl
  | some r =>
    obtain ⟨_, _, v, τ, v', hk, _⟩ := hook_at h
    rw [answers_none h1 h2] at hk; cases hk
theorem theHook_COK (h0 : RoAll σ0) : COK P (theHook P σ0 vs cl aw) := hook_COK h0 fun g args r h => (answers_some h).1
theorem Low_agg {n : Nat} {l : List Value} (h : ∀ v ∈ l, Low n v) : Low n (.agg l.toArray) where
  cut μ v' hv := by
    obtain ⟨a', rfl, hl⟩ := hv.of_agg
    have := VR.agg' (LR.cut hl (by simpa using h))
    simpa using this
  blk l hl := by cases hl
theorem cell_mem {vs : List Value} {i : Nat} (h : i < vs.length) : cellAt vs i ∈ vs := by
  unfold cellAt; rw [List.getD_eq_getElem?_getD, List.getElem?_eq_getElem h]; exact List.getElem_mem h
theorem cell_app {vs cells : List Value} {i : Nat} : (i < vs.length → cellAt (vs ++ cells) i = cellAt vs i) ∧ (∀ j, cellAt (vs ++ cells) (vs.length + j) = cellAt cells j) := by
  unfold cellAt
  refine ⟨fun h => ?_, fun j => ?_⟩
  · rw [List.getD_eq_getElem?_getD, List.getD_eq_getElem?_getD, List.getElem?_append_left h]
  · rw [List.getD_eq_getElem?_getD, List.getD_eq_getElem?_getD, List.getElem?_append_right (by omega), show vs.length + j - vs.length = j by omega]
theorem argV_congr {f f' : Nat → Value} {nx : Nat} {p : Bool × List Nat} (h1 : ∀ i ∈ p.2, i < nx) (h2 : p.1 = false → p.2.length = 1) (h : ∀ i, i < nx → f i = f' i) : argV f p = argV f' p := by
  obtain ⟨g, l⟩ := p
  cases g with
  | true => simp only [argV]; congr 2; exact List.map_congr_left fun i hi => h i (h1 i hi)
  | false =>
    have := h2 rfl
    cases l with
    | nil => simp at this
    | cons i l => exact h i (h1 i (by simp))
theorem clo_HC (fa : Facts P F t cl aw hx wk nx kts) (h0 : RoAll σ0) (hlow : ∀ v ∈ vs, Low σ0.size v ∧ okSh v = true) (hlen : vs.length = nx) {c : Clo} (hc : c ∈ cl) {r : Value × Store} (hr : answers P σ0 vs cl aw c.pg (c.pargs.map (argV (cellAt vs))) = some r) {cells : List Value} (hs : Shape σ0 c.rs c.ks r cells) :
    HC t F (theHook P σ0 vs cl aw) (hx c) σ0 r.2 (contOf r.2) (Dom σ0 cells) (cellAt (vs ++ cells)) := by
  obtain ⟨x1, x2, x3, x4⟩ := fa.hxs c hc
  have hargs : c.pargs.map (argV (cellAt (vs ++ cells))) = c.pargs.map (argV (cellAt vs)) := List.map_congr_left fun p hp => argV_congr (fa.pn c hc p hp).1 (fa.pn c hc p hp).2 fun i hi => cell_app.1 (by omega)
  refine ⟨?_, ?_, ?_, ?_, ?_, ?_, ?_, ?_, ?_, ?_, ?_⟩
  · intro f fn hf
    obtain ⟨a, b, d⟩ := fa.free c hc f fn hf
    exact ⟨a, hook_none b d⟩
  · intro f hf
    obtain ⟨a, b, d⟩ := fa.kint c hc f hf
    exact ⟨a, hook_none b d⟩
  · intro f hf
    obtain ⟨a, b, d⟩ := fa.kbool c hc f hf
    exact ⟨a, hook_none b d⟩
  · intro f esz sh hf
    obtain ⟨a, b, d⟩ := fa.kputs c hc f esz sh hf
    exact ⟨a, hook_none b d⟩
  · intro σ hx'
    rw [x1, x2, x3, x4, hargs]
    have hl : ∀ a ∈ c.pargs.map (argV (cellAt vs)), Low σ0.size a := by
      intro a ha
      obtain ⟨p, hp, rfl⟩ := List.mem_map.1 ha
      obtain ⟨q1, q2⟩ := fa.pn c hc p hp
      obtain ⟨g, l⟩ := p
      cases g with
      | true =>
        refine Low_agg fun v hv => ?_
        obtain ⟨i, hi, rfl⟩ := List.mem_map.1 hv
        exact (hlow _ (cell_mem (by have := q1 i hi; omega))).1
      | false =>
        have := q2 rfl
        cases l with
        | nil => simp at this
        | cons i l =>
          have := q1 i (by simp)
          show Low σ0.size (cellAt vs i)
          exact (hlow _ (cell_mem (by omega))).1
    have e : r = (resVal (cellAt cells) 0 c.rs, r.2) := by rw [← hs.val]
    have hsh : shTop (σ.size - σ0.size) σ0.size (resVal (cellAt cells) 0 c.rs) = some (resVal (fun j => mv (σ.size - σ0.size) σ0.size (cellAt cells j)) 0 c.rs) := shTop_res hs.one fun j _ hj => (hs.cel _ (cell_mem (by have := hs.sum; have := hs.len; omega))).ok
    have := hook_eq (K := answers P σ0 vs cl aw) hx' hl (by rw [hr, ← e]) hsh
    unfold theHook
    rw [this]
    congr 2
    unfold resVal
    have := compsV_shift (fun i => mv (σ.size - σ0.size) σ0.size (cellAt (vs ++ cells) i)) nx c.rs 0
    rw [Nat.add_zero] at this
    rw [this]
    congr 1
    refine compsV_congr c.rs 0 hs.one fun j _ hj => ?_
    rw [← hlen, (cell_app (i := 0)).2]
  · rw [x2, x4]; exact fa.pn c hc
  · rw [x3]; exact hs.one
  · intro i hi
    rw [x4, x3, hs.sum] at hi
    by_cases h : i < vs.length
    · rw [cell_app.1 h]; exact okSh_one (hlow _ (cell_mem h)).2
    · have : i = vs.length + (i - vs.length) := by omega
      rw [this, (cell_app (i := 0)).2]
      exact okSh_one (hs.cel _ (cell_mem (by have := hs.len; omega))).ok
  · intro i hi
    rw [x4] at hi
    rw [cell_app.1 (by omega)]
    exact (hlow _ (cell_mem (by omega))).1.blk
  · intro l hl v hv
    obtain ⟨e, c', hg, hc'⟩ := h0 l hl
    have : contOf r.2 l = c' := by unfold contOf; rw [hs.ext.same l hl, hg]
    rw [this] at hv
    exact (hc' v hv).1.blk
  · intro l hd hl
    rcases hd with hd | ⟨v, hv, hb⟩
    · omega
    · obtain ⟨_, st, e, c', h1, h2, h3⟩ := (hs.cel v hv).own l hb
      have : contOf r.2 l = c' := by unfold contOf; rw [h1]
      rw [this]
      exact ⟨st, e, h1, h2, h3⟩
theorem clo_dom (h0 : RoAll σ0) {r : Value × Store} {rs : List (Bool × Nat)} {ks : List KT} {cells : List Value} (hs : Shape σ0 rs ks r cells) : ∀ l, Dom σ0 cells l → l < σ0.size → ∃ st e, σ0.get l = some (.cells st e (contOf r.2 l)) := by
  intro l _ hl
  obtain ⟨e, c', hg, _⟩ := h0 l hl
  have : contOf r.2 l = c' := by unfold contOf; rw [hs.ext.same l hl, hg]
  exact ⟨_, e, by rw [this]; exact hg⟩
theorem clo_again (fa : Facts P F t cl aw hx wk nx kts) (h0 : RoAll σ0) (hlow : ∀ v ∈ vs, Low σ0.size v ∧ okSh v = true) (hlen : vs.length = nx) {ag sm : FuncId} (hag : F ag = some (againFn t.hp sm)) (hsm : F sm = some (sameFn t.hp)) (nag : ag ≠ aw ∧ ∀ c ∈ cl, ag ≠ c.pg) (nsm : sm ≠ aw ∧ ∀ c ∈ cl, sm ≠ c.pg)
    {c : Clo} (hc : c ∈ cl) (hr : ∃ r cells, Canon P σ0 c.pg (c.pargs.map (argV (cellAt vs))) r ∧ Shape σ0 c.rs c.ks r cells) (kx : Nat) (σ : Store) (hb : boxAt σ0 (cellAt vs) nx kx σ) :
    WC F (theHook P σ0 vs cl aw) (.func ag) [.func (.func c.g) #[] #[.pointer (some ⟨kx, 0, none⟩)]] (fun v σ' => v = .bool true ∧ Ext σ σ') σ := by
  obtain ⟨r0, cells0, hr0, hs0⟩ := hr
  obtain ⟨r, hr⟩ := answers_ex (P := P) (σ0 := σ0) (vs := vs) (cl := cl) (aw := aw) (f := c.pg) (args := c.pargs.map (argV (cellAt vs))) (r := r0) ⟨hr0, .inr ⟨c, hc, rfl, rfl, cells0, hs0⟩⟩
  obtain ⟨cells, hs⟩ : ∃ cells, Shape σ0 c.rs c.ks r cells := by
    rcases (answers_some hr).2 with ⟨h1, _⟩ | ⟨c', hc', h1, _, h2⟩
    · exact absurd h1 (fa.naw c hc)
    · have := fa.one c' hc' c hc h1
      subst this; exact h2
  have hC := clo_HC fa h0 hlow hlen hc hr hs
  have hok := fa.ok c hc
  unfold cloOK at hok
  split at hok
  · rename_i out ws hclo
    simp only [Bool.and_eq_true] at hok
    obtain ⟨hfit, hws⟩ := hok
    obtain ⟨A, B, s1, s2, s3, s4, s5⟩ := sem_row (V := cellAt (vs ++ cells)) hfit hs.nr (fun j hj => by
      rw [KT.w_ofL] at hj
      have hlt : j < cells.length := by have := hs.len; omega
      rw [← hlen, (cell_app (i := 0)).2]
      unfold cellAt
      rw [List.getD_eq_getElem?_getD, List.getElem?_eq_getElem hlt]; rfl)
    have hW : WKOK F (theHook P σ0 vs cl aw) (hx c).tab wk := by
      refine ⟨fun f fn hf => ?_, fun f hf => ?_, fun f esz hf => ?_⟩
      · obtain ⟨a, b, d⟩ := fa.free c hc f fn hf
        exact ⟨a, hook_none b d⟩
      · obtain ⟨a, b, d⟩ := fa.wint f hf
        exact ⟨a, hook_none b d⟩
      · obtain ⟨a, b, d⟩ := fa.wipes f esz hf
        exact ⟨a, hook_none b d⟩
    have hwo : ∀ p ∈ ws, WOK σ0 (contOf r.2) (Dom σ0 cells) (cellAt (vs ++ cells)) p := by
      intro p hp
      have := List.all_eq_true.1 hws p hp
      simp only [Bool.and_eq_true, decide_eq_true_eq] at this
      obtain ⟨h1, h2⟩ := this
      split at h2
      · rename_i e q hk
        have h2 := beq_iff_eq.1 h2
        obtain ⟨m, hm⟩ := NR_get hs.nr hk
        have hlt : p.1 - nx < cells.length := by have := (List.getElem?_eq_some_iff.1 hk).1; have := hs.len; omega
        have hp1 : p.1 = vs.length + (p.1 - nx) := by rw [hlen]; omega
        obtain ⟨q1, n, cap, tl, e1, hn, _, hq⟩ := hm
        rw [List.drop_eq_getElem_cons hlt] at e1
        have e3 := (List.cons.inj e1).1
        have e2 : cellAt (vs ++ cells) p.1 = .slice q1 n cap := by
          rw [hp1, (cell_app (i := 0)).2]
          unfold cellAt
          rw [List.getD_eq_getElem?_getD, List.getElem?_eq_getElem hlt]
          exact e3
        refine ⟨q1, n, cap, e2, hn, hq.imp id ?_⟩
        rintro ⟨blk, o, m', rfl, hD, hle, _⟩
        refine ⟨blk, o, rfl, hD, ?_, by rw [h2]; exact hle⟩
        have hmem : Value.slice (some ⟨blk, o, none⟩) n cap ∈ cells := by
          rw [← e3]; exact List.getElem_mem hlt
        exact ((hs.cel _ hmem).own blk rfl).1
      · cases h2
    have hkl := fa.klen c hc
    have x4 := (fa.hxs c hc).2.2.2
    have spec := hxClo_spec hC hW (clo_dom h0 hs) hclo hwo s1 (by omega) (by omega) s4 s5 kx
    have hb' : boxAt σ0 (cellAt (vs ++ cells)) (hx c).nx kx σ := by
      obtain ⟨b1, b2, e, b3⟩ := hb
      refine ⟨b1, b2, e, ?_⟩
      rw [b3, x4]
      congr 2
      exact List.map_congr_left fun i hi => (cell_app.1 (by have := List.mem_range.1 hi; omega)).symm
    have := again_true (fa := ag) (fs := sm) hag hsm (fun args σ => hook_none nag.1 nag.2 args σ) (fun args σ => hook_none nsm.1 nsm.2 args σ) spec hb' (by obtain ⟨_, _, e, b3⟩ := hb; have := Store.get_lt b3; omega)
    exact this
  · cases hok
theorem law_true (fa : Facts P F t cl aw hx wk nx kts) (h0 : RoAll σ0) (hlow : ∀ v ∈ vs, Low σ0.size v ∧ okSh v = true) (hlen : vs.length = nx) {M : Nat} (hM : M ≤ 2 ^ 20) (hk : Ev.KR σ0 (KT.ofL kts) vs M) {ft ag sm al : FuncId} {c0 : Clo} {cs : List Clo} (hcl : cl = c0 :: cs) {xt : TypeId} {out : PIs}
    (hft : F ft = some (topFn xt t.hp nx al ag sm aw c0.g (cs.map (·.g)))) (hag : F ag = some (againFn t.hp sm)) (hsm : F sm = some (sameFn t.hp)) (nft : ft ≠ aw ∧ ∀ c ∈ cl, ft ≠ c.pg) (nag : ag ≠ aw ∧ ∀ c ∈ cl, ag ≠ c.pg) (nsm : sm ≠ aw ∧ ∀ c ∈ cl, sm ≠ c.pg)
    (hall : hxAll (hx c0) 30 al = some out) (hfit : fitRow out 0 (KT.ofL kts) = true)
    (hr : ∀ c ∈ cl, ∃ r cells, Canon P σ0 c.pg (c.pargs.map (argV (cellAt vs))) r ∧ Shape σ0 c.rs c.ks r cells) (haw : ∃ r, Canon P σ0 aw [] r ∧ r.1 = .bool true) :
    WC F (theHook P σ0 vs cl aw) (.func ft) [.agg vs.toArray] (fun v σ' => v = .bool true) σ0 := by
  have hc0 : c0 ∈ cl := by rw [hcl]; simp
  obtain ⟨r0, cells0, hr0, hs0⟩ := hr c0 hc0
  obtain ⟨r, hrr⟩ := answers_ex (P := P) (σ0 := σ0) (vs := vs) (cl := cl) (aw := aw) (f := c0.pg) (args := c0.pargs.map (argV (cellAt vs))) (r := r0) ⟨hr0, .inr ⟨c0, hc0, rfl, rfl, cells0, hs0⟩⟩
  obtain ⟨cells, hs⟩ : ∃ cells, Shape σ0 c0.rs c0.ks r cells := by
    rcases (answers_some hrr).2 with ⟨h1, _⟩ | ⟨c', hc', h1, _, h2⟩
    · exact absurd h1 (fa.naw c0 hc0)
    · have := fa.one c' hc' c0 hc0 h1
      subst this; exact h2
  have hC := clo_HC fa h0 hlow hlen hc0 hrr hs
  have hnr : NR (contOf r.2) (Dom σ0 cells) (KT.ofL kts) vs M := KR_NR (fun l hl => .inl hl) (fun l st e c hg => by unfold contOf; rw [hs.ext.same l (Store.get_lt hg), hg]) (fun l e c hg v hv => by
    obtain ⟨e', c', hg', hc'⟩ := h0 l (Store.get_lt hg)
    rw [hg] at hg'; cases hg'
    exact (hc' v hv).2) fa.str hM hk
  obtain ⟨A, B, s1, s2, s3, s4, s5⟩ := sem_row (V := cellAt (vs ++ cells)) hfit hnr (fun j hj => by
    rw [KT.w_ofL, fa.knx] at hj
    rw [Nat.zero_add, cell_app.1 (by omega)]
    unfold cellAt
    rw [List.getD_eq_getElem?_getD, List.getElem?_eq_getElem (by omega)]; rfl)
  have x4 := (fa.hxs c0 hc0).2.2.2
  have hvs : (List.range nx).map (cellAt vs) = vs := by
    apply List.ext_getElem?
    intro j
    by_cases hj : j < nx
    · rw [List.getElem?_map, List.getElem?_range hj, Option.map_some]
      unfold cellAt
      rw [List.getD_eq_getElem?_getD, List.getElem?_eq_getElem (by omega)]; rfl
    · rw [List.getElem?_eq_none (by simpa using Nat.le_of_not_lt hj), List.getElem?_eq_none (by omega)]
  have hvs2 : (List.range nx).map (cellAt (vs ++ cells)) = vs := (List.map_congr_left fun i hi => cell_app.1 (by rw [hlen]; exact List.mem_range.1 hi)).trans hvs
  have := top_true (V0 := cellAt vs) (nx := nx) (A := A) (B := B) (g0 := c0.g) (gs := cs.map (·.g)) hft (fun args σ => hook_none nft.1 nft.2 args σ) hsm (fun args σ => hook_none nsm.1 nsm.2 args σ) (by omega) (by omega) s4 s5
    (fun σ hh x0 hlo hcell => by
      have := hxAll_ok hC (clo_dom h0 hs) hall s1 (by omega) (by omega) x0 hlo hcell
      rw [x4, hvs2] at this
      rw [hvs]; exact this)
    (fun g hg kx σ hb => by
      obtain ⟨c, hc, rfl⟩ : ∃ c ∈ cl, c.g = g := by
        rw [hcl]
        rcases List.mem_cons.1 hg with rfl | hg
        · exact ⟨c0, by simp, rfl⟩
        · obtain ⟨c, hc, rfl⟩ := List.mem_map.1 hg
          exact ⟨c, by simp [hc], rfl⟩
      exact clo_again fa h0 hlow hlen hag hsm nag nsm hc (hr c hc) kx σ hb)
    (fun σ hx' => by
      obtain ⟨r, hr, hv⟩ := haw
      obtain ⟨r', hr'⟩ := answers_ex (P := P) (σ0 := σ0) (vs := vs) (cl := cl) (aw := aw) (f := aw) (args := []) (r := r) ⟨hr, .inl ⟨rfl, rfl, hv⟩⟩
      have hv' : r'.1 = .bool true := by
        rcases (answers_some hr').2 with ⟨_, _, h⟩ | ⟨c, hc, h1, _⟩
        · exact h
        · exact absurd h1 (fa.naw c hc)
      obtain ⟨v, τ⟩ := r'
      simp only at hv'; subst hv'
      have := hook_eq (K := answers P σ0 vs cl aw) (σ := σ) hx' (fun a h => by cases h) hr' (v' := .bool true) rfl
      exact WC_hook this rfl)
  rw [hvs] at this
  exact this
end
end Go.Ev.Sx
end EvLaw2
section EvFin
namespace Go.Ev.Sx
open Go.ChangeShapes Go.WideShapes Go.RowKit
theorem okWide_spot {P : Program} {W : World} {r : Go.Reach} {base : Nat} {u : TypeId} {v : Value} (h : Cell.okWide P W r base u v) : SpotOK W v := by
  intro a n c e
  subst e
  unfold Cell.okWide at h
  cases hu : P.underlying u with
  | none => rw [hu] at h; simp [Cell.ok, hu] at h
  | some d =>
    rw [hu] at h
    cases d <;> simp [Cell.ok, hu] at h
    obtain ⟨_, _, h1, h2, row, cells, h3, h4⟩ := h
    refine ⟨h2, ?_⟩
    unfold World.shape? at h3
    split at h3
    · rename_i C E fr hC
      exact ⟨C, E, fr, hC⟩
    · cases h3
theorem Rel_none (P : Program) (W : World) : Rel P (fun _ => none) Store.empty W :=
  ⟨(fun l i h => by cases h), (fun l i h => by cases h), (fun l i h => by cases h), (fun _ _ _ _ h => by cases h)⟩
theorem RoAll_none : RoAll Store.empty := fun l hl => absurd hl (Nat.not_lt_zero l)
theorem law_calls {P : Program} (hmix : P.follows .mixedOrders = true) {F : FuncId → Option EFunc} (hF : Ev.FOK P F) {t : HT} {cl : List Clo} {aw : FuncId} {ft : FuncId} (nft : ft ≠ aw ∧ ∀ c ∈ cl, ft ≠ c.pg) {kt : List KT} {xt : TypeId} {dk : Nat} (hkt : kts false P dk xt = some kt)
    (hlaw : ∀ (σ0 : Store) (vs : List Value) (M : Nat), RoAll σ0 → (∀ v ∈ vs, Low σ0.size v ∧ okSh v = true) → vs.length = kt.length → M ≤ 2 ^ 20 → Ev.KR σ0 (KT.ofL kt) vs M → WC F (theHook P σ0 vs cl aw) (.func ft) [.agg vs.toArray] (fun v σ' => v = .bool true) σ0)
    {H : Type} {enc : TypeId × Value → H} {B : DataW H → Nat} {BA : List (DataW H) → Nat} (hB : Bulk B BA) (hp : ∀ d, 1 ≤ B d) {W : World} {fuel : Nat} {cs : List Value} {x : DataW H × List MemPlace}
    (htr : DataW.trod enc P W 0 (fun _ => true) true fuel xt cs = some x) (hsp : ∀ v ∈ cs, SpotOK W v) (hb : B x.1 ≤ 2 ^ 20) :
    Calls P ft #[.agg cs.toArray] W fun e W' => e = .returned (.bool true) ∧ SameW W W' ∧ W.heap.size ≤ W'.heap.size ∧ ∀ b, b < W.heap.size → W'.heap[b]? = W.heap[b]? := by
  obtain ⟨σ0, μ, vs, _, _, hR, hro, hlr, hlow, hlen, hk⟩ := got_trod (P := P) (W := W) hB hp (nest := false) (fun h => by cases h) fuel dk xt kt hkt cs x htr (fun _ => hsp) (by unfold INF; omega) Store.empty (fun _ => none) (Rel_none P W) RoAll_none
  obtain ⟨v, σ', ⟨N, hN⟩, rfl⟩ := hlaw σ0 vs _ hro hlow hlen hb hk
  have h1 := hN (N + 1) (by omega)
  have hnone : theHook P σ0 vs cl aw (.func ft) [.agg vs.toArray] σ0 = none := hook_none nft.1 nft.2 _ _
  simp only [evCall, hnone] at h1
  have hC := evCall_COK hF hmix (theHook_COK (P := P) (vs := vs) (cl := cl) (aw := aw) hro) N
  have hav : LR μ [.agg vs.toArray] [.agg cs.toArray] := .cons (VR.agg' hlr) .nil
  refine (func_calls hF hmix hC h1 hR hav).mono ?_
  rintro e W' ⟨μ', v', rfl, hv, _, hP⟩
  cases hv
  exact ⟨rfl, hP.sam, hP.wsz, fun b hb => hP.keeps b hb fun l i hl _ => hro.ro (hR.dom l i hl)⟩
theorem law_contract {P : Program} (hlo : laidOutB P = true) (hmix : P.follows .mixedOrders = true) {F : FuncId → Option EFunc} (hF : Ev.FOK P F) {t : HT} {cl : List Clo} {aw : FuncId} {ft : FuncId} (nft : ft ≠ aw ∧ ∀ c ∈ cl, ft ≠ c.pg) {kt : List KT} {xt bt : TypeId} {dk : Nat} (hkt : kts false P dk xt = some kt)
    {fs : Array Field} (hxt : P.underlying xt = some (.struct fs)) (hbt : P.underlying bt = some .bool) (hrr : P.readableRec xt = true) (hxs : xt < P.types.size) {fn : Func} (hpar : fn.params = #[xt]) (hrt : fn.resultTypes = #[bt])
    (hlaw : ∀ (σ0 : Store) (vs : List Value) (M : Nat), RoAll σ0 → (∀ v ∈ vs, Low σ0.size v ∧ okSh v = true) → vs.length = kt.length → M ≤ 2 ^ 20 → Ev.KR σ0 (KT.ofL kt) vs M → WC F (theHook P σ0 vs cl aw) (.func ft) [.agg vs.toArray] (fun v σ' => v = .bool true) σ0)
    {s : ChangeSpec} (hsv : s.vars = []) (hsf : ∀ (H : Type) (d : DataW H), s.fn H [d] = { results := [.lit (.bool true)], args := [d] })
    {H : Type} {enc : TypeId × Value → H} {B : DataW H → Nat} {BA : List (DataW H) → Nat} (hB : Bulk B BA) (hp : ∀ d, 1 ≤ B d) {W : World} {base : Nat} {args : Array Value} {ds gs : List (DataW H)} {before : List MemPlace} {apart fresh handsOn again : Bool}
    (hval : ∀ (j : Nat) t v, fn.params[j]? = some t → args[j]? = some v → Value.okWide P W .any base t v) (hW : DataW.Whole enc P fn.params.toList s.vars apart W args.toList ds gs before) (hb : BA (ds ++ gs) ≤ 2 ^ 20) :
    Calls P ft args W fun e W' => ∃ v, e = .returned v ∧ s.post enc P fn apart fresh handsOn again W args v W' := by
  have hW' := hW
  obtain ⟨p, q, hA, hV, rfl, hfz, hnd⟩ := hW
  rw [hpar] at hA hval
  rw [hsv] at hV
  obtain ⟨v0, vs0, d0, ds0, p0, q0, hargs, rfl, rfl, h0, r0⟩ := trodAll_cons hA
  obtain ⟨rfl, rfl, rfl⟩ := trodAll_nil r0
  obtain rfl : args = #[v0] := by cases args; simp_all
  obtain ⟨rfl, rfl⟩ := trodVars_none hV
  simp only [List.append_nil] at hW' hb
  have hv0 := hval 0 xt v0 rfl rfl
  simp only [Value.okWide, hxt] at hv0
  obtain ⟨cs, rfl, hsz, ts, hts, _, hcells⟩ := hv0
  have hsp : ∀ v ∈ cs.toList, SpotOK W v := by
    intro v hv
    obtain ⟨i, hi, he⟩ := List.getElem_of_mem hv
    obtain ⟨u, _, hu⟩ := hcells i v (by rw [← he]; simp at hi; simp [hi])
    exact okWide_spot hu
  obtain ⟨fuel, htr⟩ := h0
  have hb' : B d0 ≤ 2 ^ 20 := by
    rw [hB.cons, hB.nil0] at hb; omega
  have main := law_calls (t := t) hmix hF nft hkt hlaw hB hp (W := W) (fuel := fuel) (cs := cs.toList) (x := (d0, p0)) htr hsp hb'
  have hag : #[Value.agg cs.toList.toArray] = #[Value.agg cs] := by simp
  rw [hag] at main
  refine main.mono ?_
  rintro e W' ⟨rfl, hsam, hsize, hheap⟩
  have hlt : ∀ p ∈ p0, p.block < W.heap.size := fun p hp => by simpa using hW'.lt p hp
  have hsame : ∀ x ∈ p0, W.sameAt W' x := by
    intro x hx
    have := hheap x.block (hlt x hx)
    cases x with
    | cell b o => exact World.cell?_of_block (w := W) this
    | map b => exact this
  have hkept : ∀ may : MemPlace → Prop, W.keptBut W' may := by
    intro may
    refine ⟨hsam.1, hsam.2.1, fun i hi => ?_⟩
    rw [hheap i hi]
    split <;> simp_all
  have hfn : s.fn H ([d0] ++ []) = { results := [.lit (.bool true)], args := [d0] } := by simpa using hsf H d0
  refine ⟨_, rfl, post_of_same (pa := p0) (pv := []) hW' ?_ ?_ ?_ (by simp) (hkept _) hsam.2.2 ?_⟩
  · intro b sp hd
    rw [hrt, hfn]
    exact trodAll_cons_mk (shut_bool hbt _) trodAll_mk0
  · intro sp hs
    rw [hpar, hfn]
    have := WideElems.Trod_stays (sp' := sp) hlo hrr hxs ⟨fuel, htr⟩ hsame (fun p hp => hs p (by simpa using hp))
    have h2 := trodAll_cons_mk this (trodAll_mk0 (enc := enc) (P := P) (w := W') (base := 0) (spare := sp) (held := true))
    simpa using h2
  · intro sp hs
    rw [hsv, hfn]
    rfl
  · exact ok_one hrt rfl (okWide_bool_mk hbt _)
end Go.Ev.Sx
end EvFin
section EvPrev
namespace Go.Ev
variable {F : FuncId → Option EFunc} {H : Caller}
def prevFn (rt wt pt : TypeId) (ck so : FuncId) : EFunc := ⟨49, [(2, none), (3, none), (4, none)], .seq (.reg [⟨(some 1), .box rt (.tmp 0), none, none⟩, ⟨(some 2), .mov (.const (.int .i64 0)), none, none⟩, ⟨(some 3), .mov (.const (.int .i64 0)), none, none⟩, ⟨(some 4), .mov (.const (.int .i64 0)), none, none⟩]) (.seq (.seq (.reg [⟨(some 7), .load (some 2) (.tmp 1), none, none⟩, ⟨(some 8), .call (.func ck) [(.tmp 7)], none, none⟩, ⟨(some 6), .mov (.tmp 8), none, none⟩, ⟨(some 9), .ext (.tmp 6) 0, none, none⟩, ⟨(some 10), .ext (.tmp 6) 1, none, none⟩, ⟨(some 11), .ext (.tmp 6) 2, none, none⟩, ⟨(some 4), .mov (.tmp 11), none, none⟩]) (.seq (.reg [⟨(some 12), .mov (.tmp 4), none, none⟩, ⟨(some 13), .bin .neq (.tmp 12) (.const (.int .i64 0)), none, none⟩]) (.cond (.tmp 13) (.seq (.reg [⟨(some 14), .mov (.tmp 4), none, none⟩, ⟨(some 2), .mov (.const (.int .i64 0)), none, none⟩, ⟨(some 3), .mov (.const (.int .i64 0)), none, none⟩, ⟨(some 4), .mov (.tmp 14), none, none⟩]) (.ret)) (.skip)))) (.seq (.seq (.reg [⟨(some 15), .addOff (.tmp 1) 1, none, none⟩, ⟨(some 16), .load none (.tmp 15), none, none⟩, ⟨(some 17), .lenS (.tmp 16), none, none⟩, ⟨(some 18), .mov (.const (.int .i64 0)), none, none⟩]) (.block 0 (.loop (.seq (.reg [⟨(some 19), .bin .lss (.tmp 18) (.tmp 17), none, none⟩]) (.seq (.cond (.tmp 19) (.skip) (.exit 0)) (.seq (.block 1 (.seq (.reg [⟨(some 20), .mov (.tmp 18), none, none⟩, ⟨(some 3), .mov (.tmp 20), none, none⟩]) (.seq (.reg [⟨(some 21), .load (some 2) (.tmp 1), none, none⟩, ⟨(some 22), .build [(.int .i64 0), (.slice none 0 0)] [(0, 2, (.tmp 21))], none, none⟩, ⟨(some 5), .alloc wt [(.int .i64 0), (.slice none 0 0)], none, none⟩, ⟨none, .store 2 (.tmp 5) (.tmp 22), none, none⟩]) (.seq (.seq (.reg [⟨(some 23), .addOff (.tmp 1) 1, none, none⟩, ⟨(some 24), .load none (.tmp 23), none, none⟩, ⟨(some 25), .mov (.tmp 3), none, none⟩, ⟨(some 26), .bin .add (.tmp 25) (.const (.int .i64 1)), none, none⟩, ⟨(some 27), .slcS pt 3 (.tmp 24) none (some (.tmp 26)) none, none, none⟩, ⟨(some 28), .addOff (.tmp 5) 0, none, none⟩, ⟨(some 29), .addOff (.tmp 28) 1, none, none⟩, ⟨none, .store 1 (.tmp 29) (.tmp 27), none, none⟩]) (.seq (.reg [⟨(some 30), .load (some 2) (.tmp 5), none, none⟩, ⟨(some 31), .call (.func so) [(.tmp 30)], none, none⟩]) (.cond (.tmp 31) (.exit 1) (.skip)))) (.seq (.reg [⟨(some 32), .mov (.tmp 3), none, none⟩, ⟨(some 2), .mov (.tmp 32), none, none⟩]) (.block 2 (.loop (.seq (.block 3 (.seq (.reg [⟨(some 35), .addOff (.tmp 1) 1, none, none⟩, ⟨(some 36), .load none (.tmp 35), none, none⟩, ⟨(some 37), .mov (.tmp 2), none, none⟩, ⟨(some 38), .mov (.tmp 3), none, none⟩, ⟨(some 39), .bin .add (.tmp 38) (.const (.int .i64 1)), none, none⟩, ⟨(some 40), .slcS pt 3 (.tmp 36) (some (.tmp 37)) (some (.tmp 39)) none, none, none⟩, ⟨(some 41), .addOff (.tmp 5) 0, none, none⟩, ⟨(some 42), .addOff (.tmp 41) 1, none, none⟩, ⟨none, .store 1 (.tmp 42) (.tmp 40), none, none⟩]) (.seq (.reg [⟨(some 43), .load (some 2) (.tmp 5), none, none⟩, ⟨(some 44), .call (.func so) [(.tmp 43)], none, none⟩, ⟨(some 45), .not (.tmp 44), none, none⟩]) (.cond (.tmp 45) (.seq (.reg [⟨(some 46), .mov (.tmp 2), none, none⟩, ⟨(some 47), .mov (.tmp 3), none, none⟩, ⟨(some 2), .mov (.tmp 46), none, none⟩, ⟨(some 3), .mov (.tmp 47), none, none⟩, ⟨(some 4), .mov (.const (.int .i64 0)), none, none⟩]) (.ret)) (.skip))))) (.reg [⟨(some 33), .mov (.tmp 2), none, none⟩, ⟨(some 34), .bin .sub (.tmp 33) (.const (.int .i64 1)), none, none⟩, ⟨(some 2), .mov (.tmp 34), none, none⟩]))))))))) (.reg [⟨(some 48), .bin .add (.tmp 18) (.const (.int .i64 1)), none, none⟩, ⟨(some 18), .mov (.tmp 48), none, none⟩]))))))) (.seq (.reg [⟨(some 2), .mov (.const (.int .i64 0)), none, none⟩, ⟨(some 3), .mov (.const (.int .i64 0)), none, none⟩, ⟨(some 4), .mov (.const (.int .i64 4)), none, none⟩]) (.ret))))⟩
def PB (σ0 : Store) (rt : TypeId) (kr : Nat) (st : Int) (sl : Value) (σ : Store) : Prop := Ext σ0 σ ∧ σ0.size ≤ kr ∧ σ.get kr = some (.cells .rw rt [.int .i64 st, sl])
theorem PB.ext {σ0 σ σ' : Store} {rt : TypeId} {kr : Nat} {st : Int} {sl : Value} (h : PB σ0 rt kr st sl σ) (hx : Ext σ σ') : PB σ0 rt kr st sl σ' :=
  ⟨h.1.trans hx, h.2.1, by rw [hx.same _ (Store.get_lt h.2.2)]; exact h.2.2⟩
theorem PB.set {σ0 σ : Store} {rt : TypeId} {kr : Nat} {st : Int} {sl : Value} (h : PB σ0 rt kr st sl σ) {k : Nat} {o : EObj} (hk : k < σ.size) (h1 : kr < k) : PB σ0 rt kr st sl (σ.set k o) :=
  ⟨⟨h.1.size, fun l hl => by rw [Store.get_set _ _ _ _ hk, if_neg (by have := h.2.1; omega)]; exact h.1.same l hl⟩, h.2.1, by rw [Store.get_set _ _ _ _ hk, if_neg (by omega)]; exact h.2.2⟩
def subV (q : Option Addr) (cap l h : Nat) : Value := .slice (if cap = l then q else q.map (·.add (l * 3))) (h - l) (cap - l)
theorem part_set {σ0 σ : Store} {rt wt : TypeId} {kr kp : Nat} {st : Int} {sl v v' : Value} (h : PB σ0 rt kr st sl σ) (hk : kr < kp) (hg : σ.get kp = some (.cells .rw wt [.int .i64 st, v])) (hv : oneC v' = true) :
    storeE σ ⟨kp, 1, none⟩ [v'] = some (σ.set kp (.cells .rw wt [.int .i64 st, v'])) ∧ (σ.set kp (.cells .rw wt [.int .i64 st, v'])).get kp = some (.cells .rw wt [.int .i64 st, v']) ∧ PB σ0 rt kr st sl (σ.set kp (.cells .rw wt [.int .i64 st, v'])) := by
  have hlt := Store.get_lt hg
  refine ⟨?_, by rw [Store.get_set _ _ _ _ hlt, if_pos rfl], h.set hlt hk⟩
  simp [storeE, hg, hv]
theorem slice_sub {q : Option Addr} {n cap l h : Nat} {lo : Option Value} (hinf : cap ≠ INF) (hh : h ≤ cap) (hl : l ≤ h) (hlo : lo = none ∧ l = 0 ∨ lo = some (.int .i64 l)) : sliceE 3 q n cap lo (some (.int .i64 h)) none = some (subV q cap l h) := by
  have h1 : bound (some (.int .i64 (h : Int))) cap n = some h := by
    unfold bound
    simp only
    rw [if_pos (by omega)]; simp
  have h2 : bound lo h 0 = some l := by
    rcases hlo with ⟨rfl, rfl⟩ | rfl
    · rfl
    · unfold bound
      simp only
      rw [if_pos (by omega)]; simp
  simp only [sliceE, if_neg hinf, h1, h2, subV]
set_option maxHeartbeats 4000000 in
theorem prev_ok {f ck so : FuncId} {rt wt pt : TypeId} (hF : F f = some (prevFn rt wt pt ck so)) (hH : ∀ args σ, H (.func f) args σ = none) {σ0 : Store} {st : Int} {q : Option Addr} {n cap : Nat} (hn : n ≤ cap) (hcap : cap < 2 ^ 20)
    (hck : ∀ σ, Ext σ0 σ → WC F H (.func ck) [.agg #[.int .i64 st, .slice q n cap]] (fun v σ' => Ext σ σ' ∧ ∃ x y z, v = .tuple #[.int .i64 x, .int .i64 y, .int .i64 z]) σ)
    {bo : Nat → Nat → Bool} (hso : ∀ l h, l < h → h ≤ n → ∀ σ, Ext σ0 σ → WC F H (.func so) [.agg #[.int .i64 st, subV q cap l h]] (fun v σ' => Ext σ σ' ∧ v = .bool (bo l h)) σ) :
    WC F H (.func f) [.agg #[.int .i64 st, .slice q n cap]] (fun v σ' => Ext σ0 σ' ∧ ∃ x y z, v = .tuple #[.int .i64 x, .int .i64 y, .int .i64 z]) σ0 := by
  have hinf : cap ≠ INF := by unfold INF; omega
  refine WC_func hF (hH _ _) (by simp [prevFn]) ?_
  show WB F H (prevFn rt wt pt ck so).body _ _ _
  simp only [prevFn]
  refine WB_seq (WB_reg ?_)
  repeat (refine sO_op rfl ⟨_, _, (by simp only [evI, Nat.reduceEqDiff, Nat.reduceAdd, reduceCtorEq, vcells, oneC, Nat.reduceLeDiff, sL]; rfl), ?_⟩)
  refine WO_nil (WB_seq (WB_seq (WB_reg ?_)))
  generalize hσ1 : σ0.alloc _ = σ1
  have hpb : PB σ0 rt σ0.size st (.slice q n cap) σ1 := by
    rw [← hσ1]
    exact ⟨(Ext.refl σ0).grow _, Nat.le_refl _, by rw [Store.get_alloc, if_pos rfl]⟩
  obtain ⟨hx1, _, hg1⟩ := hpb
  refine sO_op rfl ⟨_, _, (by simp only [evI, Nat.reduceEqDiff, Nat.reduceAdd, reduceCtorEq, vcells, oneC, Nat.reduceLeDiff, sL, hg1]; rfl), ?_⟩
  refine sO_call rfl (by simp only [evI, Nat.reduceEqDiff, Nat.reduceAdd, reduceCtorEq, vcells, oneC, Nat.reduceLeDiff, sL]; rfl) (by simp only [evI, Nat.reduceEqDiff, Nat.reduceAdd, reduceCtorEq, vcells, oneC, Nat.reduceLeDiff, sL]; rfl) ?_
  simp only [List.append_nil, List.nil_append, List.cons_append]
  refine (hck σ1 hx1).mono ?_
  rintro v σ2 ⟨hx2, x, y, z, rfl⟩
  have hpb2 : PB σ0 rt σ0.size st (.slice q n cap) σ2 := PB.ext ⟨hx1, Nat.le_refl _, hg1⟩ hx2
  have hg2 := hpb2.2.2
  repeat (refine sO_op rfl ⟨_, _, (by simp only [evI, Nat.reduceEqDiff, Nat.reduceAdd, reduceCtorEq, vcells, oneC, Nat.reduceLeDiff, sL]; rfl), ?_⟩)
  refine WO_nil (WB_seq (WB_reg ?_))
  refine sO_op rfl ⟨_, _, (by simp only [evI, Nat.reduceEqDiff, Nat.reduceAdd, reduceCtorEq, vcells, oneC, Nat.reduceLeDiff, sL]; rfl), ?_⟩
  refine sO_op rfl ⟨.bool (z != 0), σ2, by simp only [evI, Nat.reduceEqDiff, Nat.reduceAdd, reduceCtorEq, vcells, oneC, Nat.reduceLeDiff, sL, binV, intBin]; rfl, ?_⟩
  refine WO_nil (WB_cond (b := z != 0) (by simp only [evI, Nat.reduceEqDiff, Nat.reduceAdd, reduceCtorEq, vcells, oneC, Nat.reduceLeDiff, sL]) ?_)
  cases hz : (z != 0) with
  | true =>
    simp only [if_true]
    refine WB_seq (WB_reg ?_)
    repeat (refine sO_op rfl ⟨_, _, (by simp only [evI, Nat.reduceEqDiff, Nat.reduceAdd, reduceCtorEq, vcells, oneC, Nat.reduceLeDiff, sL]; rfl), ?_⟩)
    refine WO_nil (WB_ret ⟨.inr rfl, [.int .i64 0, .int .i64 0, .int .i64 z], by simp [resultsE, Env.put, Env.get_put], hpb2.1, 0, 0, z, rfl⟩)
  | false =>
    simp only [Bool.false_eq_true, if_false]
    refine WB_skip (WB_seq (WB_seq (WB_reg ?_)))
    repeat (refine sO_op rfl ⟨_, _, (by simp only [evI, Nat.reduceEqDiff, Nat.reduceAdd, reduceCtorEq, vcells, oneC, Nat.reduceLeDiff, sL, hg2]; rfl), ?_⟩)
    refine WO_nil (WB_block ?_)
    refine WB_loop_inv (fun k a σ => ∃ i : Nat, k = n - i ∧ i ≤ n ∧ a.get 1 = .pointer (some ⟨σ0.size, 0, none⟩) ∧ a.get 17 = .int .i64 n ∧ a.get 18 = .int .i64 i ∧ PB σ0 rt σ0.size st (.slice q n cap) σ) ?_ (k := n) ⟨0, by omega, by omega, ?_, ?_, ?_, hpb2⟩
    · rintro k a σ ⟨i, rfl, hi, g1, g17, g18, hpb⟩
      have hg := hpb.2.2
      refine WB_seq (WB_reg ?_)
      repeat (refine sO_op rfl ⟨_, _, (by simp only [evI, Nat.reduceEqDiff, Nat.reduceAdd, reduceCtorEq, vcells, oneC, Nat.reduceLeDiff, sL, g1, g17, g18, binV, intBin]; rfl), ?_⟩)
      refine WO_nil ?_
      by_cases hlt : i < n
      · have hlt' : decide ((i : Int) < (n : Int)) = true := by simp; omega
        refine WB_seq (WB_cond (b := true) (by simp only [evI, Nat.reduceEqDiff, Nat.reduceAdd, reduceCtorEq, vcells, oneC, Nat.reduceLeDiff, sL, hlt']) (WB_skip ?_))
        refine WB_seq (WB_block (WB_seq (WB_reg ?_)))
        repeat (refine sO_op rfl ⟨_, _, (by simp only [evI, Nat.reduceEqDiff, Nat.reduceAdd, reduceCtorEq, vcells, oneC, Nat.reduceLeDiff, sL, g1, g17, g18]; rfl), ?_⟩)
        refine WO_nil (WB_seq (WB_reg ?_))
        repeat (refine sO_op rfl ⟨_, _, (by simp only [evI, Nat.reduceEqDiff, Nat.reduceAdd, reduceCtorEq, vcells, oneC, Nat.reduceLeDiff, sL, g1, g17, g18, hg]; rfl), ?_⟩)
        have hkp : (σ.alloc (.cells .rw wt [.int .i64 0, .slice none 0 0])).get σ.size = some (.cells .rw wt [.int .i64 0, .slice none 0 0]) := by rw [Store.get_alloc, if_pos rfl]
        have hpbA : PB σ0 rt σ0.size st (.slice q n cap) (σ.alloc (.cells .rw wt [.int .i64 0, .slice none 0 0])) := hpb.ext ⟨by rw [Store.size_alloc]; omega, fun l hl => by rw [Store.get_alloc, if_neg (by omega)]⟩
        have hkr : σ0.size < σ.size := Store.get_lt hg
        have hst0 : storeE (σ.alloc (.cells .rw wt [.int .i64 0, .slice none 0 0])) ⟨σ.size, 0, none⟩ [.int .i64 st, .slice q n cap] = some ((σ.alloc (.cells .rw wt [.int .i64 0, .slice none 0 0])).set σ.size (.cells .rw wt [.int .i64 st, .slice q n cap])) := by
          simp [storeE, hkp, oneC]
        refine sO_op rfl ⟨undefE, (σ.alloc (.cells .rw wt [.int .i64 0, .slice none 0 0])).set σ.size (.cells .rw wt [.int .i64 st, .slice q n cap]), (by simp only [evI, Nat.reduceEqDiff, Nat.reduceAdd, reduceCtorEq, vcells, oneC, Nat.reduceLeDiff, sL, hst0]), ?_⟩
        have hltA : σ.size < (σ.alloc (.cells .rw wt [.int .i64 0, .slice none 0 0])).size := by rw [Store.size_alloc]; omega
        have hpbB := hpbA.set (o := .cells .rw wt [.int .i64 st, .slice q n cap]) hltA hkr
        have hkpB : ((σ.alloc (.cells .rw wt [.int .i64 0, .slice none 0 0])).set σ.size (.cells .rw wt [.int .i64 st, .slice q n cap])).get σ.size = some (.cells .rw wt [.int .i64 st, .slice q n cap]) := by rw [Store.get_set _ _ _ _ hltA, if_pos rfl]
        have hlow : ∀ l, l < σ.size → ((σ.alloc (.cells .rw wt [.int .i64 0, .slice none 0 0])).set σ.size (.cells .rw wt [.int .i64 st, .slice q n cap])).get l = σ.get l := fun l hl => by rw [Store.get_set _ _ _ _ hltA, if_neg (by omega), Store.get_alloc, if_neg (by omega)]
        generalize hσB : (σ.alloc (.cells .rw wt [.int .i64 0, .slice none 0 0])).set σ.size (.cells .rw wt [.int .i64 st, .slice q n cap]) = σB at hpbB hkpB hlow
        generalize hkpn : σ.size = kp at hkpB hkr hlow
        have hgB := hpbB.2.2
        refine WO_nil (WB_seq (WB_seq (WB_reg ?_)))
        repeat (refine sO_op rfl ⟨_, _, (by simp only [evI, Nat.reduceEqDiff, Nat.reduceAdd, reduceCtorEq, vcells, oneC, Nat.reduceLeDiff, sL, g1, g17, g18, hgB, binV, intBin]; rfl), ?_⟩)
        have hwi : IntKind.i64.wrap ((i : Int) + 1) = ((i + 1 : Nat) : Int) := by
          rw [wrap_small] <;> omega
        have hsl := slice_sub (q := q) (n := n) (l := 0) (h := i + 1) (lo := none) hinf (by omega) (by omega) (.inl ⟨rfl, rfl⟩)
        refine sO_op rfl ⟨subV q cap 0 (i + 1), σB, ?_, ?_⟩
        · have hsl' : sliceE 3 q n cap none (some (.int .i64 ((i : Int) + 1))) none = some (subV q cap 0 (i + 1)) := by simpa using hsl
          have hwi' : IntKind.i64.wrap ((i : Int) + 1) = (i : Int) + 1 := by rw [hwi]; simp
          simp only [evI, Nat.reduceEqDiff, Nat.reduceAdd, reduceCtorEq, vcells, oneC, Nat.reduceLeDiff, sL, g1, g17, g18, hwi', hinf, Option.map_none, hsl', false_and]
        repeat (refine sO_op rfl ⟨_, _, (by simp only [evI, Nat.reduceEqDiff, Nat.reduceAdd, reduceCtorEq, vcells, oneC, Nat.reduceLeDiff, sL, g1, g17, g18]; rfl), ?_⟩)
        obtain ⟨hs1, hs2, hs3⟩ := part_set (v' := subV q cap 0 (i + 1)) hpbB hkr hkpB rfl
        refine sO_op rfl ⟨undefE, σB.set kp (.cells .rw wt [.int .i64 st, subV q cap 0 (i + 1)]), (by have hs1' := hs1; simp only [subV] at hs1' ⊢; simp only [evI, Nat.reduceEqDiff, Nat.reduceAdd, reduceCtorEq, vcells, oneC, Nat.reduceLeDiff, sL, g1, hkpn, hs1']), ?_⟩
        generalize hσC : σB.set kp (.cells .rw wt [.int .i64 st, subV q cap 0 (i + 1)]) = σC at hs2 hs3
        refine WO_nil (WB_seq (WB_reg ?_))
        refine sO_op rfl ⟨_, _, (by simp only [evI, Nat.reduceEqDiff, Nat.reduceAdd, reduceCtorEq, vcells, oneC, Nat.reduceLeDiff, sL, hs2, hkpn]; rfl), ?_⟩
        refine sO_call rfl (by simp only [evI, Nat.reduceEqDiff, Nat.reduceAdd, reduceCtorEq, vcells, oneC, Nat.reduceLeDiff, sL]; rfl) (by simp only [evI, Nat.reduceEqDiff, Nat.reduceAdd, reduceCtorEq, vcells, oneC, Nat.reduceLeDiff, sL]; rfl) ?_
        simp only [List.append_nil, List.nil_append, List.cons_append]
        refine (hso 0 (i + 1) (by omega) (by omega) σC hs3.1).mono ?_
        rintro v σD ⟨hxD, rfl⟩
        have hpbD := hs3.ext hxD
        have hkpD : σD.get kp = some (.cells .rw wt [.int .i64 st, subV q cap 0 (i + 1)]) := by rw [hxD.same _ (Store.get_lt hs2)]; exact hs2
        refine WO_nil (WB_cond (b := bo 0 (i + 1)) (by simp only [evI, Nat.reduceEqDiff, Nat.reduceAdd, reduceCtorEq, vcells, oneC, Nat.reduceLeDiff, sL]) ?_)
        cases hbo : bo 0 (i + 1) with
        | true =>
          simp only [if_true]
          refine WB_exit ?_
          simp only [if_true]
          refine WB_reg ?_
          repeat (refine sO_op rfl ⟨_, _, (by simp only [evI, Nat.reduceEqDiff, Nat.reduceAdd, reduceCtorEq, vcells, oneC, Nat.reduceLeDiff, sL, g1, g17, g18, binV, intBin]; rfl), ?_⟩)
          refine WO_nil ⟨n - (i + 1), by omega, i + 1, rfl, by omega, ?_, ?_, ?_, hpbD⟩
          · simp only [evI, Nat.reduceEqDiff, Nat.reduceAdd, reduceCtorEq, vcells, oneC, Nat.reduceLeDiff, sL, g1]
          · simp only [evI, Nat.reduceEqDiff, Nat.reduceAdd, reduceCtorEq, vcells, oneC, Nat.reduceLeDiff, sL, g17]
          · have hw : IntKind.i64.wrap ((i : Int) + 1) = ((i + 1 : Nat) : Int) := hwi
            simp only [evI, Nat.reduceEqDiff, Nat.reduceAdd, reduceCtorEq, vcells, oneC, Nat.reduceLeDiff, sL, hw]
        | false =>
          simp only [Bool.false_eq_true, if_false]
          refine WB_skip (WB_seq (WB_reg ?_))
          repeat (refine sO_op rfl ⟨_, _, (by simp only [evI, Nat.reduceEqDiff, Nat.reduceAdd, reduceCtorEq, vcells, oneC, Nat.reduceLeDiff, sL, g1, g17, g18]; rfl), ?_⟩)
          refine WO_nil (WB_block ?_)
          refine WB_loop_inv (fun k b τ => ∃ j : Nat, k = j ∧ j ≤ i ∧ b.get 1 = .pointer (some ⟨σ0.size, 0, none⟩) ∧ b.get 2 = .int .i64 j ∧ b.get 3 = .int .i64 i ∧ b.get 5 = .pointer (some ⟨kp, 0, none⟩) ∧ PB σ0 rt σ0.size st (.slice q n cap) τ ∧ ∃ v, τ.get kp = some (.cells .rw wt [.int .i64 st, v])) ?_ (k := i) ⟨i, rfl, Nat.le_refl _, ?_, ?_, ?_, ?_, hpbD, _, hkpD⟩
          · rintro k b τ ⟨j, rfl, hji, f1, f2, f3, f5, hpbT, v0, hkpT⟩
            have hgT := hpbT.2.2
            refine WB_seq (WB_block (WB_seq (WB_reg ?_)))
            repeat (refine sO_op rfl ⟨_, _, (by simp only [evI, Nat.reduceEqDiff, Nat.reduceAdd, reduceCtorEq, vcells, oneC, Nat.reduceLeDiff, sL, f1, f2, f3, f5, hgT, binV, intBin]; rfl), ?_⟩)
            refine sO_op rfl ⟨subV q cap k (i + 1), τ, ?_, ?_⟩
            · have hsl' : sliceE 3 q n cap (some (.int .i64 (k : Int))) (some (.int .i64 ((i : Int) + 1))) none = some (subV q cap k (i + 1)) := by
                have := slice_sub (q := q) (n := n) (l := k) (h := i + 1) (lo := some (.int .i64 k)) hinf (by omega) (by omega) (.inr rfl)
                simpa using this
              have hwi' : IntKind.i64.wrap ((i : Int) + 1) = (i : Int) + 1 := by rw [hwi]; simp
              simp only [evI, Nat.reduceEqDiff, Nat.reduceAdd, reduceCtorEq, vcells, oneC, Nat.reduceLeDiff, sL, f1, f2, f3, f5, hwi', hinf, Option.map_none, hsl', false_and]
            repeat (refine sO_op rfl ⟨_, _, (by simp only [evI, Nat.reduceEqDiff, Nat.reduceAdd, reduceCtorEq, vcells, oneC, Nat.reduceLeDiff, sL, f1, f2, f3, f5]; rfl), ?_⟩)
            obtain ⟨hs1, hs2, hs3⟩ := part_set (v' := subV q cap k (i + 1)) hpbT hkr hkpT rfl
            refine sO_op rfl ⟨undefE, τ.set kp (.cells .rw wt [.int .i64 st, subV q cap k (i + 1)]), (by have hs1' := hs1; simp only [subV] at hs1' ⊢; simp only [evI, Nat.reduceEqDiff, Nat.reduceAdd, reduceCtorEq, vcells, oneC, Nat.reduceLeDiff, sL, f1, f5, hs1']), ?_⟩
            generalize hτ1 : τ.set kp (.cells .rw wt [.int .i64 st, subV q cap k (i + 1)]) = τ1 at hs2 hs3
            refine WO_nil (WB_seq (WB_reg ?_))
            refine sO_op rfl ⟨_, _, (by simp only [evI, Nat.reduceEqDiff, Nat.reduceAdd, reduceCtorEq, vcells, oneC, Nat.reduceLeDiff, sL, hs2, f5]; rfl), ?_⟩
            refine sO_call rfl (by simp only [evI, Nat.reduceEqDiff, Nat.reduceAdd, reduceCtorEq, vcells, oneC, Nat.reduceLeDiff, sL]; rfl) (by simp only [evI, Nat.reduceEqDiff, Nat.reduceAdd, reduceCtorEq, vcells, oneC, Nat.reduceLeDiff, sL]; rfl) ?_
            simp only [List.append_nil, List.nil_append, List.cons_append]
            refine (hso k (i + 1) (by omega) (by omega) τ1 hs3.1).mono ?_
            rintro v τ2 ⟨hx2', rfl⟩
            have hpb2' := hs3.ext hx2'
            have hkp2 : τ2.get kp = some (.cells .rw wt [.int .i64 st, subV q cap k (i + 1)]) := by rw [hx2'.same _ (Store.get_lt hs2)]; exact hs2
            repeat (refine sO_op rfl ⟨_, _, (by simp only [evI, Nat.reduceEqDiff, Nat.reduceAdd, reduceCtorEq, vcells, oneC, Nat.reduceLeDiff, sL]; rfl), ?_⟩)
            refine WO_nil (WB_cond (b := !(bo k (i + 1))) (by simp only [evI, Nat.reduceEqDiff, Nat.reduceAdd, reduceCtorEq, vcells, oneC, Nat.reduceLeDiff, sL]) ?_)
            cases hb2 : bo k (i + 1) with
            | false =>
              simp only [Bool.not_false, if_true]
              refine WB_seq (WB_reg ?_)
              repeat (refine sO_op rfl ⟨_, _, (by simp only [evI, Nat.reduceEqDiff, Nat.reduceAdd, reduceCtorEq, vcells, oneC, Nat.reduceLeDiff, sL, f1, f2, f3, f5]; rfl), ?_⟩)
              refine WO_nil (WB_ret ?_)
              simp only [reduceCtorEq, if_false]
              refine ⟨.inr trivial, [.int .i64 k, .int .i64 i, .int .i64 0], ?_, hpb2'.1, k, i, 0, rfl⟩
              simp [resultsE, Env.put, Env.get_put]
            | true =>
              have hk0 : k ≠ 0 := by intro e; subst e; rw [hbo] at hb2; cases hb2
              simp only [Bool.not_true, Bool.false_eq_true, if_false]
              refine WB_skip ?_
              simp only [reduceCtorEq, if_false]
              refine WB_reg ?_
              repeat (refine sO_op rfl ⟨_, _, (by simp only [evI, Nat.reduceEqDiff, Nat.reduceAdd, reduceCtorEq, vcells, oneC, Nat.reduceLeDiff, sL, f1, f2, f3, f5, binV, intBin]; rfl), ?_⟩)
              refine WO_nil ⟨k - 1, by omega, k - 1, rfl, by omega, ?_, ?_, ?_, ?_, hpb2', _, hkp2⟩
              · simp only [evI, Nat.reduceEqDiff, Nat.reduceAdd, reduceCtorEq, vcells, oneC, Nat.reduceLeDiff, sL, f1]
              · have hw : IntKind.i64.wrap ((k : Int) - 1) = ((k - 1 : Nat) : Int) := by
                  rw [wrap_small] <;> omega
                simp only [evI, Nat.reduceEqDiff, Nat.reduceAdd, reduceCtorEq, vcells, oneC, Nat.reduceLeDiff, sL, hw]
              · simp only [evI, Nat.reduceEqDiff, Nat.reduceAdd, reduceCtorEq, vcells, oneC, Nat.reduceLeDiff, sL, f3]
              · simp only [evI, Nat.reduceEqDiff, Nat.reduceAdd, reduceCtorEq, vcells, oneC, Nat.reduceLeDiff, sL, f5]
          · simp only [evI, Nat.reduceEqDiff, Nat.reduceAdd, reduceCtorEq, vcells, oneC, Nat.reduceLeDiff, sL, g1]
          · simp only [evI, Nat.reduceEqDiff, Nat.reduceAdd, reduceCtorEq, vcells, oneC, Nat.reduceLeDiff, sL]
          · simp only [evI, Nat.reduceEqDiff, Nat.reduceAdd, reduceCtorEq, vcells, oneC, Nat.reduceLeDiff, sL, g18]
          · simp only [evI, Nat.reduceEqDiff, Nat.reduceAdd, reduceCtorEq, vcells, oneC, Nat.reduceLeDiff, sL, hkpn]
      · have hlt' : decide ((i : Int) < (n : Int)) = false := by simp; omega
        refine WB_seq (WB_cond (b := false) (by simp only [evI, Nat.reduceEqDiff, Nat.reduceAdd, reduceCtorEq, vcells, oneC, Nat.reduceLeDiff, sL, hlt']) ?_)
        simp only [Bool.false_eq_true, if_false]
        refine WB_exit ?_
        simp only [if_true]
        refine WB_seq (WB_reg ?_)
        repeat (refine sO_op rfl ⟨_, _, (by simp only [evI, Nat.reduceEqDiff, Nat.reduceAdd, reduceCtorEq, vcells, oneC, Nat.reduceLeDiff, sL]; rfl), ?_⟩)
        refine WO_nil (WB_ret ⟨.inr rfl, [.int .i64 0, .int .i64 0, .int .i64 4], by simp [resultsE, Env.put, Env.get_put], hpb.1, 0, 0, 4, rfl⟩)
    · simp only [evI, Nat.reduceEqDiff, Nat.reduceAdd, reduceCtorEq, vcells, oneC, Nat.reduceLeDiff, sL]
    · simp only [evI, Nat.reduceEqDiff, Nat.reduceAdd, reduceCtorEq, vcells, oneC, Nat.reduceLeDiff, sL]
    · simp only [evI, Nat.reduceEqDiff, Nat.reduceAdd, reduceCtorEq, vcells, oneC, Nat.reduceLeDiff, sL]; rfl
end Go.Ev
end EvPrev
section EvCan
namespace Go.Ev.Sx
def argS (cs : List C) (p : Bool × List Nat) : SV := .w p.1 (p.2.map fun i => cs.getD i .nilif)
theorem F2_at {V : Val} {U : Nat → Prop} {σ : Store} : ∀ {cs : List C} {vs : List Value}, F2 (CR V U σ) cs vs → ∀ i, i < vs.length → CR V U σ (cs.getD i .nilif) (cellAt vs i)
  | [], [], _, i, hi => by simp at hi
  | c :: cs, v :: vs, h, 0, _ => h.1
  | c :: cs, v :: vs, h, i + 1, hi => by
    have := F2_at h.2 i (by simpa using hi)
    simpa [cellAt] using this
  | [], _ :: _, h, _, _ => h.elim
  | _ :: _, [], h, _, _ => h.elim
theorem argS_ok {V : Val} {U : Nat → Prop} {σ : Store} {cs : List C} {vs : List Value} (h : F2 (CR V U σ) cs vs) {p : Bool × List Nat} (h1 : ∀ i ∈ p.2, i < vs.length) (h2 : p.1 = false → p.2.length = 1) : SVR V U σ (argS cs p) (argV (cellAt vs) p) := by
  obtain ⟨g, l⟩ := p
  cases g with
  | true =>
    refine ⟨l.map (cellAt vs), rfl, ?_⟩
    show F2 (CR V U σ) (l.map fun i => cs.getD i .nilif) (l.map (cellAt vs))
    clear h2
    induction l with
    | nil => trivial
    | cons i l ih => exact ⟨F2_at h i (h1 i (by simp)), ih fun j hj => h1 j (by simp [hj])⟩
  | false =>
    have := h2 rfl
    cases l with
    | nil => simp at this
    | cons i l =>
      cases l with
      | nil => exact ⟨_, rfl, F2_at h i (h1 i (by simp))⟩
      | cons _ _ => simp at this
theorem argsS_ok {V : Val} {U : Nat → Prop} {σ : Store} {cs : List C} {vs : List Value} (h : F2 (CR V U σ) cs vs) : ∀ {ps : List (Bool × List Nat)}, (∀ p ∈ ps, (∀ i ∈ p.2, i < vs.length) ∧ (p.1 = false → p.2.length = 1)) → F2 (SVR V U σ) (ps.map (argS cs)) (ps.map (argV (cellAt vs)))
  | [], _ => trivial
  | p :: ps, hp => ⟨argS_ok h (hp p (by simp)).1 (hp p (by simp)).2, argsS_ok h fun q hq => hp q (by simp [hq])⟩
theorem start_pt {σ : Store} {l : List KT} {cs : List C} {S : SS} (h : start l = some (cs, S)) (hs : allSc (l.map KT.ty) = true) {vs : List Value} (hv : ∀ V, PT V (fun x => x < σ.size) σ (l.map KT.ty) vs) (hl : vs.length = l.length) :
    ∃ V, G V (fun x => x < σ.size) S σ ∧ F2 (CR V (fun x => x < σ.size) σ) cs vs ∧ S.heap = [] := by
  obtain ⟨V', g, k, e1, e2, _, hc⟩ := insts_ok (G_zero σ) h hs (hv _)
  refine ⟨V', g, ?_, e2⟩
  rw [List.take_of_length_le (by simp [hl])] at hc
  exact hc
section
variable {P : Program} {F : FuncId → Option EFunc}
theorem WC_canon (hF : Ev.FOK P F) (hmix : P.follows .mixedOrders = true) {H : Caller} (hH : COK P H) {f : FuncId} {args : List Value} {σ : Store} {Q : Value → Store → Prop} (h : WC F H (.func f) args Q σ) : ∃ r, Canon P σ f args r ∧ Q r.1 r.2 := by
  obtain ⟨v, σ', ⟨N, hN⟩, hq⟩ := h
  exact ⟨(v, σ'), ⟨evCall F H N, evCall_COK hF hmix hH N, hN N (Nat.le_refl _)⟩, hq⟩
theorem canon_shape (hF : Ev.FOK P F) (hmix : P.follows .mixedOrders = true) {tab : FuncId → Option EFunc} {ct : Ct} (hT : ∀ f fn, tab f = some fn → F f = some fn) (hC : CtOK F (fun _ _ _ => none) ct) {l : List KT} {cs : List C} {S : SS} (hst : start l = some (cs, S)) (hsc : allSc (l.map KT.ty) = true)
    {n : Nat} {f : FuncId} {ps : List (Bool × List Nat)} {hs : List Hint} {rs : List (Bool × Nat)} {ks : List KT} (hsum : sumW rs = ks.length) (h : asks tab ct n f (ps.map (argS cs)) S hs (resOK rs ks) = true)
    {σ0 : Store} {vs : List Value} (hv : ∀ V, PT V (fun x => x < σ0.size) σ0 (l.map KT.ty) vs) (hl : vs.length = l.length) (hp : ∀ p ∈ ps, (∀ i ∈ p.2, i < vs.length) ∧ (p.1 = false → p.2.length = 1)) :
    ∃ r cells, Canon P σ0 f (ps.map (argV (cellAt vs))) r ∧ Shape σ0 rs ks r cells := by
  obtain ⟨V, g, hc, hh⟩ := start_pt hst hsc hv hl
  have := asks_shape hT hC hsum h g hh (argsS_ok hc hp)
  obtain ⟨r, h1, cells, h2⟩ := WC_canon hF hmix COK.none this
  exact ⟨r, cells, h1, h2⟩
def three (v : Value) : Prop := ∃ x y z, v = .tuple #[.int .i64 x, .int .i64 y, .int .i64 z]
open Classical in
noncomputable def inner (P : Program) (σ0 : Store) (ck so : FuncId) : FuncId → List Value → Option (Value × Store) := fun f args =>
  if h : ∃ r : Value × Store, Canon P σ0 f args r ∧ Ext σ0 r.2 ∧ ((f = ck ∧ three r.1) ∨ (f = so ∧ ∃ b, r.1 = .bool b)) then some (Classical.choose h) else none
theorem inner_some {σ0 : Store} {ck so f : FuncId} {args : List Value} {r : Value × Store} (h : inner P σ0 ck so f args = some r) : Canon P σ0 f args r ∧ Ext σ0 r.2 ∧ ((f = ck ∧ three r.1) ∨ (f = so ∧ ∃ b, r.1 = .bool b)) := by
  unfold inner at h
  split at h
  · rename_i hh; cases h; exact Classical.choose_spec hh
  · cases h
theorem inner_ex {σ0 : Store} {ck so f : FuncId} {args : List Value} {r : Value × Store} (h : Canon P σ0 f args r ∧ Ext σ0 r.2 ∧ ((f = ck ∧ three r.1) ∨ (f = so ∧ ∃ b, r.1 = .bool b))) : ∃ r', inner P σ0 ck so f args = some r' := by
  unfold inner
  rw [dif_pos ⟨r, h⟩]
  exact ⟨_, rfl⟩
theorem embed_ext {d n0 k : Nat} {τ σ : Store} : Ext σ (embed d n0 τ k σ) := ⟨by rw [embed_size]; omega, fun l hl => by rw [embed_get, if_pos hl]⟩
theorem prev_canon (hF : Ev.FOK P F) (hmix : P.follows .mixedOrders = true) {σ0 : Store} (h0 : RoAll σ0) {f ck so : FuncId} {rt wt pt : TypeId} (hFf : F f = some (prevFn rt wt pt ck so)) (n1 : f ≠ ck) (n2 : f ≠ so) (n3 : ck ≠ so) {st : Int} {q : Option Addr} {n cap : Nat} (hn : n ≤ cap) (hcap : cap < 2 ^ 20)
    (hlow : Low σ0.size (.slice q n cap)) (hq : ∀ a, q = some a → a.spot = none)
    (hck : ∃ r, Canon P σ0 ck [.agg #[.int .i64 st, .slice q n cap]] r ∧ Ext σ0 r.2 ∧ three r.1)
    (hso : ∀ l h, l < h → h ≤ n → ∃ r, Canon P σ0 so [.agg #[.int .i64 st, subV q cap l h]] r ∧ Ext σ0 r.2 ∧ ∃ b, r.1 = .bool b) :
    ∃ r, Canon P σ0 f [.agg #[.int .i64 st, .slice q n cap]] r ∧ Ext σ0 r.2 ∧ three r.1 := by
  have hH : COK P (hook σ0 (inner P σ0 ck so)) := hook_COK h0 fun g args r h => (inner_some h).1
  have hnone : ∀ args σ, hook σ0 (inner P σ0 ck so) (.func f) args σ = none := by
    intro args σ
    cases h : hook σ0 (inner P σ0 ck so) (.func f) args σ with
    | none => rfl
    | some r =>
      obtain ⟨_, _, v, τ, v', hk, _⟩ := hook_at h
      rcases (inner_some hk).2.2 with ⟨e, _⟩ | ⟨e, _⟩
      · exact absurd e n1
      · exact absurd e n2
  have hlrow : ∀ v, Low σ0.size v → ∀ a ∈ [Value.agg #[.int .i64 st, v]], Low σ0.size a := by
    intro v hv a ha
    simp at ha; subst ha
    have := Low_agg (n := σ0.size) (l := [.int .i64 st, v]) (fun x hx => by
      simp at hx
      rcases hx with rfl | rfl
      · exact Low_int _ _ _
      · exact hv)
    simpa using this
  have hlsub : ∀ l h, l < h → h ≤ n → Low σ0.size (subV q cap l h) := by
    intro l h hl hh
    unfold subV
    rw [if_neg (by omega)]
    cases q with
    | none => exact Low_nils _ _ _
    | some a =>
      have hs := hq a rfl
      obtain ⟨b, o, s⟩ := a
      simp only at hs; subst hs
      rw [Option.map_some, addr_add]
      exact Low_slice (hlow.blk b rfl)
  have ckw : ∀ σ, Ext σ0 σ → WC F (hook σ0 (inner P σ0 ck so)) (.func ck) [.agg #[.int .i64 st, .slice q n cap]] (fun v σ' => Ext σ σ' ∧ ∃ x y z, v = .tuple #[.int .i64 x, .int .i64 y, .int .i64 z]) σ := by
    intro σ hx
    obtain ⟨r, a1, a2, a3⟩ := hck
    obtain ⟨r', hr'⟩ := inner_ex (so := so) (ck := ck) ⟨a1, a2, .inl ⟨rfl, a3⟩⟩
    have h3 : three r'.1 := by
      rcases (inner_some hr').2.2 with ⟨_, h⟩ | ⟨e, _⟩
      · exact h
      · exact absurd e n3
    obtain ⟨v, τ⟩ := r'
    obtain ⟨x, y, z, rfl⟩ := h3
    exact WC_hook (hook_eq hx (hlrow _ hlow) hr' (v' := .tuple #[.int .i64 x, .int .i64 y, .int .i64 z]) rfl) ⟨embed_ext, x, y, z, rfl⟩
  have sow : ∀ l h, l < h → h ≤ n → ∃ b, ∀ σ, Ext σ0 σ → WC F (hook σ0 (inner P σ0 ck so)) (.func so) [.agg #[.int .i64 st, subV q cap l h]] (fun v σ' => Ext σ σ' ∧ v = .bool b) σ := by
    intro l h hl hh
    obtain ⟨r, a1, a2, a3⟩ := hso l h hl hh
    obtain ⟨r', hr'⟩ := inner_ex (so := so) (ck := ck) ⟨a1, a2, .inr ⟨rfl, a3⟩⟩
    have h3 : ∃ b, r'.1 = .bool b := by
      rcases (inner_some hr').2.2 with ⟨e, _⟩ | ⟨_, h⟩
      · exact absurd e.symm n3
      · exact h
    obtain ⟨v, τ⟩ := r'
    obtain ⟨b, rfl⟩ := h3
    exact ⟨b, fun σ hx => WC_hook (hook_eq hx (hlrow _ (hlsub l h hl hh)) hr' (v' := .bool b) rfl) ⟨embed_ext, rfl⟩⟩
  have hbo : ∃ bo : Nat → Nat → Bool, ∀ l h, l < h → h ≤ n → ∀ σ, Ext σ0 σ → WC F (hook σ0 (inner P σ0 ck so)) (.func so) [.agg #[.int .i64 st, subV q cap l h]] (fun v σ' => Ext σ σ' ∧ v = .bool (bo l h)) σ := by
    have : ∀ l h, ∃ b, l < h → h ≤ n → ∀ σ, Ext σ0 σ → WC F (hook σ0 (inner P σ0 ck so)) (.func so) [.agg #[.int .i64 st, subV q cap l h]] (fun v σ' => Ext σ σ' ∧ v = .bool b) σ := by
      intro l h
      by_cases h1 : l < h ∧ h ≤ n
      · obtain ⟨b, hb⟩ := sow l h h1.1 h1.2
        exact ⟨b, fun _ _ => hb⟩
      · exact ⟨false, fun a b => absurd ⟨a, b⟩ h1⟩
    exact ⟨fun l h => Classical.choose (this l h), fun l h => Classical.choose_spec (this l h)⟩
  obtain ⟨bo, hbo⟩ := hbo
  obtain ⟨r, h1, h2, h3⟩ := WC_canon hF hmix hH (prev_ok hFf hnone hn hcap ckw hbo)
  exact ⟨r, h1, h2, h3⟩
theorem three_shape {σ0 : Store} {r : Value × Store} (hx : Ext σ0 r.2) (h : three r.1) : ∃ cells, Shape σ0 [(false, 1), (false, 1), (false, 1)] [.int .i64, .int .i64, .int .i64] r cells := by
  obtain ⟨v, τ⟩ := r
  obtain ⟨x, y, z, rfl⟩ := h
  refine ⟨[.int .i64 x, .int .i64 y, .int .i64 z], hx, rfl, fun v hv => ?_, rfl, rfl, ?_, fun p hp _ => ?_⟩
  · simp at hv
    rcases hv with rfl | rfl | rfl <;> exact ⟨rfl, fun l hl => by cases hl⟩
  · exact ⟨_, _, 1, 2, rfl, ⟨x, _, rfl, Nat.le_refl _⟩, ⟨_, _, 1, 1, rfl, ⟨y, _, rfl, Nat.le_refl _⟩, ⟨_, _, 1, 0, rfl, ⟨z, _, rfl, Nat.le_refl _⟩, trivial, Nat.le_refl _⟩, Nat.le_refl _⟩, by decide⟩
  · simp at hp; subst hp; rfl
end
end Go.Ev.Sx
end EvCan
section EvFast
namespace Go.Ev.Fast
open Go.Ev
def gnode {α : Type} (v : Option α) (_ _ : T α) (il ir : Nat → Option α) (n : Nat) : Option α := bif Nat.beq n 0 then v else bif Nat.beq (Nat.mod n 2) 1 then il (Nat.div n 2) else ir (Nat.sub (Nat.div n 2) 1)
noncomputable def tget {α : Type} (t : T α) : Nat → Option α := @T.rec α (fun _ => Nat → Option α) (fun _ => none) gnode t
theorem tget_eq {α : Type} : ∀ (t : T α) (n : Nat), tget t n = t.get n
  | .leaf, _ => rfl
  | .node v l r, n => by
    show gnode v l r (tget l) (tget r) n = _
    have e1 : Nat.mod n 2 = n % 2 := rfl
    have e2 : Nat.div n 2 = n / 2 := rfl
    have e3 : Nat.sub (n / 2) 1 = n / 2 - 1 := rfl
    simp only [gnode, T.get, tget_eq l, tget_eq r, e1, e2, e3]
    by_cases h : n = 0
    · subst h; rfl
    · have h1 : Nat.beq n 0 = false := by cases n with
      | zero => exact absurd rfl h
      | succ m => rfl
      rw [h1, if_neg h, cond_false]
      by_cases h2 : n % 2 = 1
      · rw [if_pos h2, h2]; rfl
      · have h3 : n % 2 = 0 := by omega
        rw [if_neg h2, h3]; rfl
def tleaf {α : Type} (a : α) (ih : T α → Nat → T α) (n : Nat) : T α := bif Nat.beq n 0 then .node (some a) .leaf .leaf else bif Nat.beq (Nat.mod n 2) 1 then .node none (ih .leaf (Nat.div n 2)) .leaf else .node none .leaf (ih .leaf (Nat.sub (Nat.div n 2) 1))
def tnode {α : Type} (a : α) (ih : T α → Nat → T α) (n : Nat) (v : Option α) (l r : T α) : T α := bif Nat.beq n 0 then .node (some a) l r else bif Nat.beq (Nat.mod n 2) 1 then .node v (ih l (Nat.div n 2)) r else .node v l (ih r (Nat.sub (Nat.div n 2) 1))
noncomputable def tsetF {α : Type} (a : α) (f : Nat) : T α → Nat → T α :=
  @Nat.rec (fun _ => T α → Nat → T α) (fun t _ => t) (fun _ ih t n => @T.rec α (fun _ => T α) (tleaf a ih n) (fun v l r _ _ => tnode a ih n v l r) t) f
theorem tsetF_eq {α : Type} (a : α) : ∀ (f : Nat) (t : T α) (n : Nat), tsetF a f t n = T.setF a f t n
  | 0, t, _ => rfl
  | f + 1, t, n => by
    have h1 : n ≠ 0 → Nat.beq n 0 = false := by
      intro h
      cases n with
      | zero => exact absurd rfl h
      | succ m => rfl
    have h3 : ¬ n % 2 = 1 → n % 2 = 0 := by omega
    have e1 : Nat.mod n 2 = n % 2 := rfl
    have e2 : Nat.div n 2 = n / 2 := rfl
    have e3 : Nat.sub (n / 2) 1 = n / 2 - 1 := rfl
    cases t with
    | leaf =>
      show tleaf a (tsetF a f) n = _
      simp only [tleaf, T.setF, tsetF_eq a f, e1, e2, e3]
      by_cases h : n = 0
      · subst h; rfl
      · rw [h1 h, if_neg h, cond_false]
        by_cases h2 : n % 2 = 1
        · rw [if_pos h2, h2]; rfl
        · rw [if_neg h2, h3 h2]; rfl
    | node v l r =>
      show tnode a (tsetF a f) n v l r = _
      simp only [tnode, T.setF, tsetF_eq a f, e1, e2, e3]
      by_cases h : n = 0
      · subst h; rfl
      · rw [h1 h, if_neg h, cond_false]
        by_cases h2 : n % 2 = 1
        · rw [if_pos h2, h2]; rfl
        · rw [if_neg h2, h3 h2]; rfl
noncomputable def tset {α : Type} (t : T α) (n : Nat) (a : α) : T α := tsetF a (n + 1) t n
theorem tset_eq {α : Type} (t : T α) (n : Nat) (a : α) : tset t n a = t.set n a := tsetF_eq a _ t n
noncomputable def eget (a : Env) (t : Tmp) : Value := match tget a t with
  | some v => v
  | none => undefE
theorem eget_eq (a : Env) (t : Tmp) : eget a t = a.get t := by unfold eget Env.get; rw [tget_eq]; cases T.get a t <;> rfl
noncomputable def eeval (a : Env) : Operand → Value
  | .tmp t => eget a t
  | .const v => v
  | .global g => .pointer (some ⟨g, 0, none⟩)
  | .func f => .func (.func f) #[] #[]
theorem eeval_eq (a : Env) (x : Operand) : eeval a x = a.eval x := by cases x <;> simp only [eeval, Env.eval, eget_eq]
noncomputable def eput (a : Env) (d : Option Tmp) (v : Value) : Env := match d with
  | some d => tset a d v
  | none => a
theorem eput_eq (a : Env) (d : Option Tmp) (v : Value) : eput a d v = a.put d v := by cases d <;> simp only [eput, Env.put, tset_eq]
noncomputable def sget (σ : Store) (l : Nat) : Option EObj := bif Nat.blt l σ.size then tget σ.m l else none
theorem sget_eq (σ : Store) (l : Nat) : sget σ l = σ.get l := by
  unfold sget Store.get
  rw [tget_eq]
  by_cases h : l < σ.size
  · rw [if_pos h, show Nat.blt l σ.size = true from by simpa [Nat.blt_eq] using h]; rfl
  · rw [if_neg h, show Nat.blt l σ.size = false from by
      cases e : Nat.blt l σ.size with
      | false => rfl
      | true => exact absurd (by simpa [Nat.blt_eq] using e) h]; rfl
noncomputable def salloc (σ : Store) (o : EObj) : Store := ⟨σ.size + 1, tset σ.m σ.size o⟩
theorem salloc_eq (σ : Store) (o : EObj) : salloc σ o = σ.alloc o := by unfold salloc Store.alloc; rw [tset_eq]
noncomputable def sset (σ : Store) (l : Nat) (o : EObj) : Store := ⟨σ.size, tset σ.m l o⟩
theorem sset_eq (σ : Store) (l : Nat) (o : EObj) : sset σ l o = σ.set l o := by unfold sset Store.set; rw [tset_eq]
noncomputable def pPick (a : Env) (v : Value) (x y : Operand) (σ : Store) : Option (Value × Store) := match v with
  | .bool b => some (bif b then eeval a x else eeval a y, σ)
  | _ => none
def fit64 : Int → Bool
  | .ofNat m => Nat.blt m 9223372036854775808
  | .negSucc m => Nat.blt m 9223372036854775808
def is64 : IntKind → Bool
  | .i64 => true
  | _ => false
def fWrap (k : IntKind) (n : Int) : Option Value := bif is64 k && fit64 n then some (.int k n) else some (.int k (k.wrap n))
theorem fWrap_eq (k : IntKind) (n : Int) : fWrap k n = some (.int k (k.wrap n)) := by
  unfold fWrap
  cases h : is64 k && fit64 n with
  | false => rfl
  | true =>
    simp only [Bool.and_eq_true] at h
    have hk : k = .i64 := by cases k <;> first | rfl | cases h.1
    subst hk
    have hb : -9223372036854775808 ≤ n ∧ n < 9223372036854775808 := by
      cases n with
      | ofNat m =>
        have h2 : Nat.blt m 9223372036854775808 = true := h.2
        rw [Nat.blt_eq] at h2
        have := Int.ofNat_eq_natCast m
        omega
      | negSucc m =>
        have h2 : Nat.blt m 9223372036854775808 = true := h.2
        rw [Nat.blt_eq] at h2
        omega
    have : IntKind.i64.wrap n = n := by
      have e : IntKind.i64.wrap n = if n % 18446744073709551616 ≥ 9223372036854775808 then n % 18446744073709551616 - 18446744073709551616 else n % 18446744073709551616 := by
        simp [IntKind.wrap, IntKind.signed, IntKind.bits]
      rw [e]
      split <;> omega
    rw [this]; rfl
def fAdd (k : IntKind) (a b : Int) : Option Value := fWrap k (Int.add a b)
def fSub (k : IntKind) (a b : Int) : Option Value := fWrap k (Int.sub a b)
def nneg' : Int → Bool
  | .ofNat _ => true
  | .negSucc _ => false
def ilt (a b : Int) : Bool := nneg' (Int.sub (Int.sub b a) 1)
theorem ilt_eq (a b : Int) : ilt a b = decide (a < b) := by
  unfold ilt
  have e : Int.sub (Int.sub b a) 1 = b - a - 1 := rfl
  rw [e]
  by_cases h : a < b
  · rw [decide_eq_true h]
    cases hz : b - a - 1 with
    | ofNat m => rfl
    | negSucc m => omega
  · rw [decide_eq_false h]
    cases hz : b - a - 1 with
    | ofNat m => have := Int.ofNat_eq_natCast m; omega
    | negSucc m => rfl
theorem is64_eq {k : IntKind} (h : is64 k = true) : k = .i64 := by cases k <;> first | rfl | cases h
def pInt2 (op : BinOp) (k k' : IntKind) (a b : Int) : Option Value := match op with
  | .add => bif is64 k && is64 k' then fAdd k a b else binV .add (.int k a) (.int k' b)
  | .sub => bif is64 k && is64 k' then fSub k a b else binV .sub (.int k a) (.int k' b)
  | .lss => bif is64 k && is64 k' then some (.bool (ilt a b)) else binV .lss (.int k a) (.int k' b)
  | op => binV op (.int k a) (.int k' b)
theorem pInt2_eq (op : BinOp) (k k' : IntKind) (a b : Int) : pInt2 op k k' a b = binV op (.int k a) (.int k' b) := by
  cases op <;> first | rfl | (simp only [pInt2]; cases h : is64 k && is64 k' with
    | false => rfl
    | true =>
      simp only [Bool.and_eq_true] at h
      cases is64_eq h.1; cases is64_eq h.2
      first | (simp only [cond_true, fAdd, fWrap_eq]; rfl) | (simp only [cond_true, fSub, fWrap_eq]; rfl) | (simp only [cond_true, ilt_eq]; rfl))
def pBin2 (op : BinOp) (k : IntKind) (a : Int) (x y : Value) : Option Value := match y with
  | .int k' b => pInt2 op k k' a b
  | _ => binV op x y
def pBin (op : BinOp) (x y : Value) : Option Value := match x with
  | .int k a => pBin2 op k a x y
  | _ => binV op x y
theorem pBin_eq (op : BinOp) (x y : Value) : pBin op x y = binV op x y := by
  cases x with
  | int k a => cases y with
    | int k' b => exact pInt2_eq op k k' a b
    | _ => rfl
  | _ => rfl
def retV (v : Option Value) (σ : Store) : Option (Value × Store) := match v with
  | some v => some (v, σ)
  | none => none
def nth : List Value → Nat → Option Value
  | [], _ => none
  | x :: c, n => bif Nat.beq n 0 then some x else nth c (Nat.sub n 1)
theorem nth_eq : ∀ (c : List Value) (n : Nat), nth c n = c[n]?
  | [], n => by simp [nth]
  | x :: c, 0 => rfl
  | x :: c, n + 1 => by
    show nth c (Nat.sub (n + 1) 1) = _
    rw [nth_eq c]; simp
def takeQ : Nat → List Value → Option (List Value)
  | 0, _ => some []
  | _ + 1, [] => none
  | n + 1, x :: c => match takeQ n c with
    | some r => some (x :: r)
    | none => none
theorem takeQ_eq : ∀ (n : Nat) (c : List Value), takeQ n c = if n ≤ c.length then some (c.take n) else none
  | 0, c => by simp [takeQ]
  | n + 1, [] => by simp [takeQ]
  | n + 1, x :: c => by
    simp only [takeQ, takeQ_eq n c, List.length_cons, Nat.add_le_add_iff_right]
    by_cases h : n ≤ c.length
    · simp [h]
    · simp [h]
def cut : Nat → Nat → List Value → Option (List Value)
  | 0, n, c => takeQ n c
  | _ + 1, n, [] => none
  | o + 1, n, _ :: c => cut o n c
theorem cut_eq : ∀ (o n : Nat) (c : List Value), cut o n c = if o + n ≤ c.length then some ((c.drop o).take n) else none
  | 0, n, c => by simp [cut, takeQ_eq]
  | o + 1, n, [] => by simp [cut]
  | o + 1, n, x :: c => by
    simp only [cut, cut_eq o n c, List.length_cons, List.drop_succ_cons]
    by_cases h : o + n ≤ c.length
    · rw [if_pos h, if_pos (by omega)]
    · rw [if_neg h, if_neg (by omega)]
def aggO (r : Option (List Value)) : Option Value := match r with
  | some c => some (.agg c.toArray)
  | none => none
def loadC (n : Option Nat) (off : Nat) (c : List Value) : Option Value := match n with
  | some n => aggO (cut off n c)
  | none => nth c off
def loadO (n : Option Nat) (off : Nat) (o : Option EObj) : Option Value := match o with
  | some (.cells _ _ c) => loadC n off c
  | _ => none
noncomputable def pLoad (n : Option Nat) (v : Value) (σ : Store) : Option (Value × Store) := match v with
  | .pointer (some p) => retV (loadO n p.off (sget σ p.block)) σ
  | _ => none
def over : List Value → List Value → Option (List Value)
  | c, [] => some c
  | [], _ :: _ => none
  | _ :: c, v :: vs => (over c vs).map (v :: ·)
def splice : Nat → List Value → List Value → Option (List Value)
  | 0, c, vs => over c vs
  | _ + 1, [], vs => none
  | n + 1, x :: c, vs => (splice n c vs).map (x :: ·)
theorem over_eq : ∀ (c vs : List Value), over c vs = if vs.length ≤ c.length then some (vs ++ c.drop vs.length) else none
  | c, [] => by simp [over]
  | [], v :: vs => by simp [over]
  | x :: c, v :: vs => by
    simp only [over, over_eq c vs, List.length_cons, Nat.add_le_add_iff_right]
    split <;> simp
theorem splice_eq : ∀ (n : Nat) (c vs : List Value), vs ≠ [] → splice n c vs = if n + vs.length ≤ c.length then some (c.take n ++ vs ++ c.drop (n + vs.length)) else none
  | 0, c, vs, _ => by simp [splice, over_eq]
  | n + 1, [], vs, h => by simp [splice]
  | n + 1, x :: c, vs, h => by
    simp only [splice, splice_eq n c vs h, List.length_cons]
    by_cases e : n + vs.length ≤ c.length
    · rw [if_pos e, if_pos (by omega)]
      simp [show n + 1 + vs.length = n + vs.length + 1 by omega]
    · rw [if_neg e, if_neg (by omega)]; rfl
def roQ : St → Bool
  | .ro => true
  | _ => false
noncomputable def storeR (σ : Store) (b : Nat) (st : St) (e : TypeId) (r : Option (List Value)) : Option (Value × Store) := match r with
  | some c => some (undefE, sset σ b (.cells st e c))
  | none => none
noncomputable def storeO (σ : Store) (a : Addr) (vs : List Value) (o : Option EObj) : Option (Value × Store) := match o with
  | some (.cells st e c) => bif !(roQ st) && vs.all oneC then (match vs with
    | [] => if a.off ≤ c.length then some (undefE, sset σ a.block (.cells st e c)) else none
    | _ => storeR σ a.block st e (splice a.off c vs)) else none
  | _ => none
noncomputable def pStore2 (n : Nat) (p : Addr) (vs : List Value) (σ : Store) : Option (Value × Store) := if vs.length = n then storeO σ p vs (sget σ p.block) else none
noncomputable def pStore (n : Nat) (v : Value) (w : Value) (σ : Store) : Option (Value × Store) := match v with
  | .pointer (some p) => pStore2 n p (vcells w) σ
  | _ => none
def pNilc (v : Value) (σ : Store) : Option (Value × Store) := match v with
  | .pointer (some p) => some (v, σ)
  | .func (.func f) b c => some (v, σ)
  | .func (.yield f) b c => some (v, σ)
  | _ => none
def fadd (p : Addr) (o : Nat) : Addr := bif Nat.beq o 0 then p else ⟨p.block, Nat.add p.off o, none⟩
theorem fadd_eq (p : Addr) (o : Nat) : fadd p o = p.add o := by
  unfold fadd Addr.add
  cases o with
  | zero => rfl
  | succ n => rfl
def pAdd (v : Value) (o : Nat) (σ : Store) : Option (Value × Store) := match v with
  | .pointer (some p) => some (.pointer (some (fadd p o)), σ)
  | _ => none
def pIdxS2 (esz : Nat) (p : Addr) (len : Nat) (v : Value) (σ : Store) : Option (Value × Store) := match v with
  | .int _ (.ofNat i) => bif Nat.blt i len then some (.pointer (some (fadd p (Nat.mul i esz))), σ) else none
  | _ => none
def pIdxS (esz : Nat) (v w : Value) (σ : Store) : Option (Value × Store) := match v with
  | .slice (some p) len _ => pIdxS2 esz p len w σ
  | _ => none
def pLen (v : Value) (σ : Store) : Option (Value × Store) := match v with
  | .slice _ n _ => some (.int .i64 n, σ)
  | _ => none
def pExt (v : Value) (i : Nat) (σ : Store) : Option (Value × Store) := match v with
  | .tuple vs => retV vs[i]? σ
  | _ => none
def pField (o : Nat) (n : Option Nat) (v : Value) (σ : Store) : Option (Value × Store) := match v with
  | .agg cs => retV (partE n cs.toList o) σ
  | _ => none
noncomputable def evalL (a : Env) : List Operand → List Value
  | [] => []
  | x :: r => eeval a x :: evalL a r
theorem evalL_eq (a : Env) : ∀ l, evalL a l = l.map a.eval
  | [] => rfl
  | x :: r => by simp only [evalL, List.map_cons, eeval_eq, evalL_eq a r]
noncomputable def pNew (e : TypeId) (c : List Value) (σ : Store) : Option (Value × Store) := some (.pointer (some ⟨σ.size, 0, none⟩), salloc σ (.cells .rw e c))
noncomputable def gparts (a : Env) : List (Nat × Nat × Operand) → List (Nat × Nat × Value)
  | [] => []
  | (o, n, x) :: r => (o, n, eeval a x) :: gparts a r
theorem gparts_eq (a : Env) : ∀ l, gparts a l = l.map fun (o, n, x) => (o, n, a.eval x)
  | [] => rfl
  | (o, n, x) :: r => by simp only [gparts, List.map_cons, eeval_eq, gparts_eq a r]
def gfill : List (Nat × Nat × Value) → List Value → Option (List Value)
  | [], c => some c
  | (o, n, v) :: r, c => match vcells v with
    | [] => bif Nat.beq n 0 && Nat.ble o c.length then gfill r c else none
    | vs => bif Nat.beq vs.length n then (match splice o c vs with
      | some c' => gfill r c'
      | none => none) else none
theorem gfill_eq : ∀ (l : List (Nat × Nat × Value)) (c : List Value), gfill l c = fillE c l
  | [], c => rfl
  | (o, n, v) :: r, c => by
    simp only [gfill, fillE]
    cases hv : vcells v with
    | nil =>
      simp only [List.length_nil, List.append_nil]
      by_cases h : 0 = n ∧ o + n ≤ c.length
      · obtain ⟨rfl, h2⟩ := h
        rw [if_pos ⟨rfl, h2⟩]
        simp only [Nat.add_zero, List.take_append_drop]
        rw [show (Nat.beq 0 0 && Nat.ble o c.length) = true from by simpa [Nat.ble_eq] using h2]
        exact gfill_eq r c
      · rw [if_neg h]
        cases hb : Nat.beq n 0 && Nat.ble o c.length with
        | false => rfl
        | true =>
          simp only [Bool.and_eq_true, Nat.ble_eq] at hb
          have := Nat.eq_of_beq_eq_true hb.1
          exact absurd ⟨this.symm, by omega⟩ h
    | cons x vs =>
      simp only
      by_cases h : (x :: vs).length = n ∧ o + n ≤ c.length
      · obtain ⟨h1, h2⟩ := h
        rw [if_pos ⟨h1, h2⟩, splice_eq _ _ _ (by simp), h1, if_pos h2, Nat.beq_refl]
        exact gfill_eq r _
      · rw [if_neg h]
        cases hb : Nat.beq (x :: vs).length n with
        | false => rfl
        | true =>
          have h1 := Nat.eq_of_beq_eq_true hb
          rw [splice_eq _ _ _ (by simp), if_neg (by intro h2; exact h ⟨h1, by omega⟩)]; rfl
noncomputable def pBsl (e : TypeId) (len : Nat) (σ : Store) (r : Option (List Value)) : Option (Value × Store) := match r with
  | some cs => some (.slice (some ⟨σ.size, 0, none⟩) len len, salloc σ (.cells .rw e cs))
  | none => none
def pMkf (f : FuncId) (a b : List Value) (σ : Store) : Option (Value × Store) := some (.func (.func f) a.toArray b.toArray, σ)
theorem retV_eq (v : Option Value) (σ : Store) : retV v σ = v.map (·, σ) := by cases v <;> rfl
def fCallV (C : Caller) (f : Value) (args : List Value) (σ : Store) : Option (Value × Store) := evCallV C f args σ
noncomputable def gOp (C : Caller) (pr : Nat → Store → Option (Value × Store)) (op : I) : Env → Store → Option (Value × Store) :=
  @I.rec (fun _ => Env → Store → Option (Value × Store))
    (fun x a σ => some (eeval a x, σ))
    (fun c x y a σ => pPick a (eeval a c) x y σ)
    (fun op x y a σ => retV (pBin op (eeval a x) (eeval a y)) σ)
    (fun n x y a σ => evI (.beq n x y) a σ)
    (fun ks n x y a σ => evI (.peq ks n x y) a σ)
    (fun k n x a σ => evI (.nileq k n x) a σ)
    (fun x a σ => evI (.not x) a σ)
    (fun x a σ => evI (.neg x) a σ)
    (fun k x a σ => evI (.conv k x) a σ)
    (fun e z a σ => pNew e z σ)
    (fun e x a σ => pNew e (vcells (eeval a x)) σ)
    (fun z ps a σ => evI (.build z ps) a σ)
    (fun e n len z ps a σ => pBsl e len σ (gfill (gparts a ps) z))
    (fun n x a σ => pLoad n (eeval a x) σ)
    (fun n x v a σ => pStore n (eeval a x) (eeval a v) σ)
    (fun x a σ => pNilc (eeval a x) σ)
    (fun x o a σ => pAdd (eeval a x) o σ)
    (fun o n x a σ => pField o n (eeval a x) σ)
    (fun esz x i a σ => pIdxS esz (eeval a x) (eeval a i) σ)
    (fun len esz x i a σ => evI (.idxA len esz x i) a σ)
    (fun len esz n x i a σ => evI (.index len esz n x i) a σ)
    (fun x i a σ => evI (.indexStr x i) a σ)
    (fun e esz x lo hi m a σ => evI (.slcS e esz x lo hi m) a σ)
    (fun len esz x lo hi m a σ => evI (.slcA len esz x lo hi m) a σ)
    (fun x lo hi a σ => evI (.slcStr x lo hi) a σ)
    (fun x i a σ => pExt (eeval a x) i σ)
    (fun f fs cs a σ => pMkf f (evalL a fs) (evalL a cs) σ)
    (fun e n b z l c a σ => evI (.mks e n b z l c) a σ)
    (fun a σ => evI (.mkm) a σ)
    (fun ks z g ok m k a σ => evI (.look ks z g ok m k) a σ)
    (fun ks m k v a σ => evI (.mupd ks m k v) a σ)
    (fun ks z g m k a σ => evI (.ment ks z g m k) a σ)
    (fun m s v a σ => evI (.mest m s v) a σ)
    (fun x a σ => pLen (eeval a x) σ)
    (fun x a σ => evI (.lenStr x) a σ)
    (fun x a σ => evI (.lenM x) a σ)
    (fun v a σ => evI (.const v) a σ)
    (fun l a σ => evI (.mx l) a σ)
    (fun l a σ => evI (.mn l) a σ)
    (fun e n b s x a σ => evI (.app e n b s x) a σ)
    (fun n d s a σ => evI (.copy n d s) a σ)
    (fun t x a σ => evI (.mki t x) a σ)
    (fun x a σ => evI (.strOf x) a σ)
    (fun x a σ => evI (.rngStr x) a σ)
    (fun x a σ => evI (.nxtStr x) a σ)
    (fun f args a σ => fCallV C (eeval a f) (evalL a args) σ)
    (fun m a σ => pr m σ)
    (fun a σ => evI (.stop) a σ) op
theorem storeC_eq' {σ : Store} {p : Addr} {vs : List Value} (st : St) (e : TypeId) (c : List Value) : storeO σ p vs (some (.cells st e c)) = (if st ≠ .ro ∧ p.off + vs.length ≤ c.length ∧ vs.all oneC then some (σ.set p.block (.cells st e (c.take p.off ++ vs ++ c.drop (p.off + vs.length)))) else none).map (undefE, ·) := by
  simp only [storeO]
  cases hs : roQ st with
  | true => have : st = .ro := by cases st <;> first | rfl | cases hs
            subst this; simp
  | false =>
    have h1 : st ≠ .ro := by intro h; subst h; cases hs
    cases ha : vs.all oneC with
    | false => simp
    | true =>
      simp only [Bool.not_false, Bool.and_self, cond_true]
      cases vs with
      | nil =>
        simp only [List.length_nil, Nat.add_zero, List.append_nil, List.take_append_drop, sset_eq]
        by_cases h : p.off ≤ c.length
        · rw [if_pos h, if_pos ⟨h1, h, trivial⟩]; rfl
        · rw [if_neg h, if_neg (by intro x; exact h x.2.1)]; rfl
      | cons v vs =>
        simp only
        rw [splice_eq _ _ _ (by simp)]
        by_cases h : p.off + (v :: vs).length ≤ c.length
        · rw [if_pos h, if_pos ⟨h1, h, trivial⟩]; simp only [storeR, sset_eq]; rfl
        · rw [if_neg h, if_neg (by intro x; exact h x.2.1)]; rfl
theorem gOp_eq (C : Caller) (pr : Nat → Store → Option (Value × Store)) (op : I) (a : Env) (σ : Store) : gOp C pr op a σ = match op with
    | .pre m => pr m σ
    | op => evOp C op a σ := by
  cases op with
  | pre m => rfl
  | call f args => show fCallV C (eeval a f) (evalL a args) σ = evCallV C (a.eval f) (args.map a.eval) σ; rw [eeval_eq, evalL_eq]; rfl
  | mov x => show some (eeval a x, σ) = some (a.eval x, σ); rw [eeval_eq]
  | pick c x y => show pPick a (eeval a c) x y σ = evI (.pick c x y) a σ; simp only [evI, eeval_eq, pPick]; cases a.eval c <;> first | rfl | (rename_i b; cases b <;> simp [eeval_eq])
  | bin op x y => show retV (pBin op (eeval a x) (eeval a y)) σ = evI (.bin op x y) a σ; simp only [evI, eeval_eq, retV_eq, pBin_eq]
  | alloc e z => show pNew e z σ = evI (.alloc e z) a σ; simp only [evI, pNew, salloc_eq]
  | box e x => show pNew e (vcells (eeval a x)) σ = evI (.box e x) a σ; simp only [evI, pNew, salloc_eq, eeval_eq]
  | load n x =>
    show pLoad n (eeval a x) σ = evI (.load n x) a σ
    simp only [evI, pLoad, eeval_eq, retV_eq, sget_eq]
    cases a.eval x with
    | pointer p =>
      cases p with
      | none => rfl
      | some p =>
        simp only [loadE, loadO]
        cases σ.get p.block with
        | none => rfl
        | some o => cases o <;> first | rfl | (cases n with
          | none => simp only [loadC, nth_eq]
          | some m => simp only [loadC, cut_eq]; (by_cases hq : p.off + m ≤ ‹List Value›.length) <;> simp only [hq, if_true, if_false, aggO])
    | _ => rfl
  | store n x v =>
    show pStore n (eeval a x) (eeval a v) σ = evI (.store n x v) a σ
    simp only [evI, pStore, pStore2, eeval_eq, sget_eq]
    cases a.eval x with
    | pointer p =>
      cases p with
      | none => rfl
      | some p =>
        simp only [storeE, storeO]
        by_cases hn : (vcells (a.eval v)).length = n
        · rw [if_pos hn, if_pos hn]
          cases σ.get p.block with
          | none => rfl
          | some o =>
            cases o with
            | cells st e c => exact storeC_eq' st e c
            | _ => rfl
        · rw [if_neg hn, if_neg hn]
    | _ => rfl
  | bslice e n len z ps => show pBsl e len σ (gfill (gparts a ps) z) = evI (.bslice e n len z ps) a σ; simp only [evI, gparts_eq, gfill_eq, pBsl, salloc_eq]; cases fillE z (ps.map fun (o, n, x) => (o, n, a.eval x)) <;> rfl
  | nilc x => show pNilc (eeval a x) σ = evI (.nilc x) a σ; simp only [evI, pNilc, eeval_eq]; split <;> simp_all
  | addOff x o => show pAdd (eeval a x) o σ = evI (.addOff x o) a σ; simp only [evI, pAdd, eeval_eq, fadd_eq]; cases a.eval x <;> first | rfl | (rename_i p; cases p <;> rfl)
  | field o n x => show pField o n (eeval a x) σ = evI (.field o n x) a σ; simp only [evI, pField, eeval_eq, retV_eq]; cases a.eval x <;> rfl
  | idxS esz x i =>
    show pIdxS esz (eeval a x) (eeval a i) σ = evI (.idxS esz x i) a σ
    simp only [evI, pIdxS, pIdxS2, eeval_eq]
    cases a.eval x with
    | slice p len cap =>
      cases p with
      | none => cases a.eval i <;> rfl
      | some p =>
        cases a.eval i with
        | int k z =>
          cases z with
          | ofNat m =>
            simp only [fadd_eq]
            have e1 : (0 : Int) ≤ Int.ofNat m := Int.natCast_nonneg m
            have e2 : (Int.ofNat m).toNat = m := rfl
            by_cases h : m < len
            · rw [if_pos ⟨e1, by simpa using h⟩, e2, show Nat.blt m len = true from by simpa [Nat.blt_eq] using h]; rfl
            · rw [if_neg (by intro x; exact h (by simpa using x.2)), show Nat.blt m len = false from by
                cases e : Nat.blt m len with
                | false => rfl
                | true => exact absurd (by simpa [Nat.blt_eq] using e) h]; rfl
          | negSucc m =>
            simp only
            rw [if_neg (by intro x; have := x.1; omega)]
        | _ => rfl
    | _ => cases a.eval i <;> rfl
  | ext x i => show pExt (eeval a x) i σ = evI (.ext x i) a σ; simp only [evI, pExt, eeval_eq, retV_eq]; cases a.eval x <;> rfl
  | mkf f fs cs => show pMkf f (evalL a fs) (evalL a cs) σ = evI (.mkf f fs cs) a σ; simp only [evI, pMkf, evalL_eq]
  | lenS x => show pLen (eeval a x) σ = evI (.lenS x) a σ; simp only [evI, pLen, eeval_eq]; cases a.eval x <;> rfl
  | _ => rfl
def fGd (v : Value) (w : Bool) : Bool := match v with
  | .bool b => b == w
  | _ => false
noncomputable def fWant (g : Option (Tmp × Bool)) (a : Env) : Bool := match g with
  | none => true
  | some (t, w) => fGd (eget a t) w
theorem fWant_eq (o : EOp) (a : Env) : fWant o.guard a = wanted o a := by
  unfold fWant wanted
  cases o.guard with
  | none => rfl
  | some p => simp only [fGd, eget_eq]; cases a.get p.1 <;> rfl
noncomputable def gBind {α : Type} (r : Option (Value × Store)) (k : Value → Store → Option α) : Option α := @Option.rec (Value × Store) (fun _ => Option α) none (fun p => k p.1 p.2) r
noncomputable def gNext (d : Option Tmp) (ih : Env → Store → Option (Env × Store)) (a : Env) (v : Value) (σ : Store) : Option (Env × Store) := ih (eput a d v) σ
def noPre (m : Nat) (σ : Store) : Option (Value × Store) := none
noncomputable def gStep (C : Caller) (o : EOp) (ih : Env → Store → Option (Env × Store)) (a : Env) (σ : Store) : Option (Env × Store) :=
  bif fWant o.guard a then gBind (gOp C noPre o.op a σ) (gNext o.dst ih a) else ih (eput a o.dst undefE) σ
noncomputable def fOps (C : Caller) (ops : List EOp) : Env → Store → Option (Env × Store) :=
  @List.rec EOp (fun _ => Env → Store → Option (Env × Store)) (fun a σ => some (a, σ)) (fun o _ ih => gStep C o ih) ops
theorem fOps_eq (C : Caller) : ∀ (l : List EOp) (a : Env) (σ : Store), fOps C l a σ = evOps C l a σ
  | [], _, _ => rfl
  | o :: os, a, σ => by
    show gStep C o (fOps C os) a σ = _
    have hop : gOp C noPre o.op a σ = evOp C o.op a σ := by
      rw [gOp_eq]; cases o.op <;> rfl
    simp only [gStep, evOps, fWant_eq, hop, eput_eq]
    cases wanted o a with
    | false => exact fOps_eq C os _ _
    | true =>
      simp only [if_true, cond_true]
      cases evOp C o.op a σ with
      | none => rfl
      | some p => show fOps C os (eput a o.dst p.1) p.2 = _; rw [eput_eq, fOps_eq C os]
def atPre (base m : Nat) (σ : Store) : Option (Value × Store) := some (.pointer (some ⟨base + m, 0, none⟩), σ)
theorem gOpD_eq (C : Caller) (base : Nat) (op : I) (a : Env) (σ : Store) : gOp C (atPre base) op a σ = evOpD C base op a σ := by
  rw [gOp_eq]; cases op <;> rfl
def fLook (w : Option (Nat × Nat)) (op : I) (a : Env) (v : Value) (ls : List Look) : List Look := match w with
  | some (lo, hi) => bif op.looks then ⟨op, a, v, lo, hi⟩ :: ls else ls
  | none => ls
abbrev RD := Option (Env × Store × List Store × List Look)
noncomputable def gNextD (o : EOp) (ih : Env → Store → List Store → List Look → RD) (a : Env) (h : List Store) (ls : List Look) (v : Value) (σ : Store) : RD :=
  ih (eput a o.dst v) σ (bif o.op.loud then h ++ [σ] else h) (fLook o.win o.op a v ls)
noncomputable def gStepD (C : Caller) (base : Nat) (o : EOp) (ih : Env → Store → List Store → List Look → RD) (a : Env) (σ : Store) (h : List Store) (ls : List Look) : RD :=
  bif fWant o.guard a then gBind (gOp C (atPre base) o.op a σ) (gNextD o ih a h ls) else ih (eput a o.dst undefE) σ (bif o.op.loud then h ++ [σ] else h) ls
noncomputable def fOpsD (C : Caller) (base : Nat) (ops : List EOp) : Env → Store → List Store → List Look → RD :=
  @List.rec EOp (fun _ => Env → Store → List Store → List Look → RD) (fun a σ h ls => some (a, σ, h, ls)) (fun o _ ih => gStepD C base o ih) ops
theorem fOpsD_eq (C : Caller) (base : Nat) : ∀ (l : List EOp) (a : Env) (σ : Store) (h : List Store) (ls : List Look), fOpsD C base l a σ h ls = evOpsD C base l a σ h ls
  | [], _, _, _, _ => rfl
  | o :: os, a, σ, h, ls => by
    show gStepD C base o (fOpsD C base os) a σ h ls = _
    simp only [gStepD, evOpsD, fWant_eq, gOpD_eq, eput_eq]
    cases wanted o a with
    | false => simp only [Bool.false_eq_true, if_false, cond_false]; rw [fOpsD_eq C base os]; cases o.op.loud <;> rfl
    | true =>
      simp only [if_true, cond_true]
      cases evOpD C base o.op a σ with
      | none => rfl
      | some p =>
        obtain ⟨v, σ'⟩ := p
        show fOpsD C base os (eput a o.dst v) σ' (bif o.op.loud then h ++ [σ'] else h) (fLook o.win o.op a v ls) = _
        rw [eput_eq, fOpsD_eq C base os]
        have e1 : fLook o.win o.op a v ls = (match o.win with | some (lo, hi) => if o.op.looks then ⟨o.op, a, v, lo, hi⟩ :: ls else ls | none => ls) := by
          unfold fLook
          cases o.win with
          | none => rfl
          | some q => cases o.op.looks <;> rfl
        rw [e1]
        cases o.op.loud <;> rfl
noncomputable def fRegD (C : Caller) (pre : List (TypeId × List Value)) (ops : List EOp) (a : Env) (σ : Store) : Option (Env × Store) :=
  match fOpsD C σ.size ops a (allocs pre σ) [allocs pre σ] [] with
  | some (a', σ', h, ls) => bif ls.all (stable h) then some (a', σ') else none
  | none => none
theorem fRegD_eq (C : Caller) (pre : List (TypeId × List Value)) (ops : List EOp) (a : Env) (σ : Store) : fRegD C pre ops a σ = evRegD C pre ops a σ := by
  simp only [fRegD, evRegD, fOpsD_eq]
  cases evOpsD C σ.size ops a (allocs pre σ) [allocs pre σ] [] with
  | none => rfl
  | some p => obtain ⟨a', σ', h, ls⟩ := p; simp only; cases ls.all (stable h) <;> rfl
def normR (r : Option (Env × Store)) : Option (Ex × Env × Store) := match r with
  | some (a, σ) => some (.norm, a, σ)
  | none => none
def fSeq (k : Env → Store → Option (Ex × Env × Store)) (r : Option (Ex × Env × Store)) : Option (Ex × Env × Store) := match r with
  | some (.norm, a, σ) => k a σ
  | r => r
def fCond (v : Value) (x y : Env → Store → Option (Ex × Env × Store)) (a : Env) (σ : Store) : Option (Ex × Env × Store) := match v with
  | .bool true => x a σ
  | .bool false => y a σ
  | _ => none
def fBlock (id : Nat) (r : Option (Ex × Env × Store)) : Option (Ex × Env × Store) := match r with
  | some (.exit id', a', σ') => bif Nat.beq id' id then some (.norm, a', σ') else some (.exit id', a', σ')
  | r => r
def fLoop (body : Env → Store → Option (Ex × Env × Store)) : Nat → Env → Store → Option (Ex × Env × Store)
  | 0, _, _ => none
  | n + 1, a, σ => fSeq (fLoop body n) (body a σ)
theorem fLoop_eq (body : Env → Store → Option (Ex × Env × Store)) : ∀ n a σ, fLoop body n a σ = loopN body n a σ
  | 0, _, _ => rfl
  | n + 1, a, σ => by
    simp only [fLoop, loopN, fSeq]
    cases body a σ with
    | none => rfl
    | some p => obtain ⟨e, a', σ'⟩ := p; cases e <;> first | rfl | exact fLoop_eq body n a' σ'
def yPend (a : Env) (σ' : Store) (l : Nat) (tm : T Value) (ps : List Tmp) (as b : EC) (pend : Option EC) : Option (Ex × Env × Store) := match pend with
  | none => some (.norm, a, σ'.set l (.loop tm ps as b .exhausted pend))
  | some (.exit id) => some (.exit id, a, σ'.set l (.loop tm ps as b .exhausted pend))
  | some .ret => some (.ret, a, σ'.set l (.loop tm ps as b .exhausted pend))
  | some _ => none
def yEnd (a : Env) (l : Nat) (r : Option (Value × Store)) : Option (Ex × Env × Store) := match r with
  | some (_, σ') => (match σ'.get l with
    | some (.loop tm ps' as' b' st pend) => if st = .busy then none else yPend a σ' l tm ps' as' b' pend
    | _ => none)
  | none => none
def yRange (C : Caller) (v : Value) (ps : List Tmp) (as b : EC) (a : Env) (σ : Store) : Option (Ex × Env × Store) := match v with
  | .func (.func _) _ _ => yEnd a σ.size (evCallV C v [.func (.yield σ.size) #[] #[]] (σ.alloc (.loop a ps as b .ready none)))
  | _ => none
abbrev RC' := Env → Store → Option (Ex × Env × Store)
noncomputable def fCode (C : Caller) (n : Nat) (c : EC) : RC' :=
  @EC.rec (fun _ => RC') (fun a σ => some (.norm, a, σ)) (fun ops a σ => normR (fOps C ops a σ)) (fun pre ops a σ => normR (fRegD C pre ops a σ)) (fun _ _ ix iy a σ => fSeq iy (ix a σ)) (fun c _ _ ix iy a σ => fCond (eeval a c) ix iy a σ)
    (fun id _ ib a σ => fBlock id (ib a σ)) (fun _ ib => fLoop ib n) (fun f ps as b _ _ a σ => yRange C (eeval a f) ps as b a σ) (fun id a σ => some (.exit id, a, σ)) (fun a σ => some (.ret, a, σ)) (fun _ _ => none) c
theorem fCode_eq (C : Caller) (n : Nat) : ∀ (c : EC) (a : Env) (σ : Store), fCode C n c a σ = evCode C n c a σ := by
  intro c
  induction c with
  | skip => intro a σ; rfl
  | reg ops => intro a σ; show normR (fOps C ops a σ) = _; simp only [evCode, evReg, fOps_eq]; cases evOps C ops a σ <;> rfl
  | regD pre ops => intro a σ; show normR (fRegD C pre ops a σ) = _; simp only [evCode, fRegD_eq]; cases evRegD C pre ops a σ <;> rfl
  | seq x y ihx ihy =>
    intro a σ
    show fSeq (fCode C n y) (fCode C n x a σ) = _
    simp only [evCode, ihx]
    cases evCode C n x a σ with
    | none => rfl
    | some p => obtain ⟨e, a', σ'⟩ := p; cases e <;> first | rfl | exact ihy a' σ'
  | cond c x y ihx ihy =>
    intro a σ
    show fCond (eeval a c) (fCode C n x) (fCode C n y) a σ = _
    simp only [evCode, eeval_eq]
    cases a.eval c <;> first | rfl | (rename_i b; cases b <;> first | exact ihx a σ | exact ihy a σ)
  | block id b ih =>
    intro a σ
    show fBlock id (fCode C n b a σ) = _
    simp only [evCode, ih]
    cases evCode C n b a σ with
    | none => rfl
    | some p =>
      obtain ⟨e, a', σ'⟩ := p
      cases e <;> try rfl
      rename_i id'
      simp only [fBlock]
      by_cases h : id' = id
      · subst h; rw [if_pos rfl, Nat.beq_refl]; rfl
      · have : Nat.beq id' id = false := by
          cases e : Nat.beq id' id with
          | false => rfl
          | true => exact absurd (Nat.eq_of_beq_eq_true e) h
        rw [if_neg h, this]; rfl
  | loop b ih =>
    intro a σ
    have : fCode C n b = evCode C n b := by funext a σ; exact ih a σ
    show fLoop (fCode C n b) n a σ = _
    simp only [evCode, fLoop_eq, this]
  | exit id => intro a σ; rfl
  | ret => intro a σ; rfl
  | stuck => intro a σ; rfl
  | rangeF f ps as b _ _ =>
    intro a σ
    show yRange C (eeval a f) ps as b a σ = _
    simp only [evCode, eeval_eq, yRange]
    cases a.eval f with
    | func fn x y =>
      cases fn with
      | func g =>
        simp only [yEnd]
        cases evCallV C (.func (.func g) x y) [.func (.yield σ.size) #[] #[]] (σ.alloc (.loop a ps as b .ready none)) with
        | none => rfl
        | some r =>
          obtain ⟨v, σ'⟩ := r
          simp only
          cases σ'.get σ.size with
          | none => rfl
          | some o =>
            cases o with
            | loop tm ps' as' b' st pend =>
              simp only
              split
              · rfl
              · cases pend with
                | none => rfl
                | some q => cases q <;> rfl
            | _ => rfl
      | _ => rfl
    | _ => rfl
noncomputable def genv : List Value → Nat → Env → Env
  | [], _, e => e
  | v :: r, i, e => genv r (Nat.add i 1) (tset e i v)
theorem genv_eq : ∀ (l : List Value) (i : Nat) (e : Env), genv l i e = (l.zipIdx i).foldl (fun e (v, i) => T.set e i v) e
  | [], _, _ => rfl
  | v :: r, i, e => by
    rw [List.zipIdx_cons, List.foldl_cons, genv, tset_eq]
    exact genv_eq r (i + 1) _
noncomputable def gput : List Tmp → List Value → Env → Env
  | t :: ts, v :: vs, e => gput ts vs (tset e t v)
  | _, _, e => e
theorem gput_eq : ∀ (ts : List Tmp) (vs : List Value) (e : Env), gput ts vs e = (ts.zip vs).foldl (fun e (t, v) => T.set e t v) e
  | [], vs, e => by cases vs <;> rfl
  | t :: ts, [], e => rfl
  | t :: ts, v :: vs, e => by
    rw [List.zip_cons_cons, List.foldl_cons, gput, tset_eq]
    exact gput_eq ts vs _
noncomputable def gres1 (c : Option (Option Nat)) (v : Value) (σ : Store) : Option Value := match c with
  | none => some v
  | some n => match v with
    | .pointer (some p) => loadO n p.off (sget σ p.block)
    | _ => none
noncomputable def gres (a : Env) (σ : Store) : List (Tmp × Option (Option Nat)) → Option (List Value)
  | [] => some []
  | (t, c) :: r => match gres1 c (eget a t) σ with
    | some v => (match gres a σ r with
      | some vs => some (v :: vs)
      | none => none)
    | none => none
theorem loadO_eq (n : Option Nat) (p : Addr) (σ : Store) : loadO n p.off (sget σ p.block) = loadE σ n p := by
  rw [sget_eq]
  simp only [loadE, loadO]
  cases σ.get p.block with
  | none => rfl
  | some o => cases o <;> first | rfl | (cases n with
    | none => simp only [loadC, nth_eq]
    | some m => simp only [loadC, cut_eq]; (by_cases hq : p.off + m ≤ ‹List Value›.length) <;> simp only [hq, if_true, if_false, aggO])
theorem gres_eq (a : Env) (σ : Store) : ∀ rs, gres a σ rs = resultsE rs a σ
  | [] => rfl
  | (t, c) :: r => by
    have h1 : gres1 c (eget a t) σ = (match c with
      | none => some (a.get t)
      | some n => match a.get t with
        | .pointer (some p) => loadE σ n p
        | _ => none) := by
      rw [eget_eq]
      cases c with
      | none => rfl
      | some n =>
        simp only [gres1]
        cases a.get t with
        | pointer p => cases p with
          | none => rfl
          | some p => exact loadO_eq n p σ
        | _ => rfl
    have ih := gres_eq a σ r
    unfold resultsE at ih ⊢
    rw [List.mapM_cons, gres, ih]
    simp only [h1]
    cases c with
    | none => simp; cases List.mapM (m := Option) _ r <;> rfl
    | some n =>
      simp only
      cases a.get t with
      | pointer p =>
        cases p with
        | none => rfl
        | some p =>
          simp only
          cases loadE σ n p with
          | none => rfl
          | some v => simp; cases List.mapM (m := Option) _ r <;> rfl
      | _ => rfl
noncomputable def fRes (fn : EFunc) (r : Option (Ex × Env × Store)) : Option (Value × Store) := match r with
  | some (.norm, a, σ') | some (.ret, a, σ') => (resultsE fn.results a σ').map fun vs => (packE vs, σ')
  | _ => none
def yDone (l : Nat) (r : Option (Ex × Env × Store)) : Option (Value × Store) := match r with
  | some (e, _, σ₂) => (match σ₂.get l with
    | some (.loop tmps'' ps'' as'' b'' _ _) => some (.bool (e = .norm), σ₂.set l (.loop tmps'' ps'' as'' b'' (if e = .norm then .ready else .done) (pendEx e)))
    | _ => none)
  | none => none
noncomputable def yBody (C : Caller) (n : Nat) (l : Nat) (b : EC) (r : Option (Ex × Env × Store)) : Option (Value × Store) := match r with
  | some (.norm, a, σ₁) => (match σ₁.get l with
    | some (.loop tmps' ps' as' b' st' pend') => if st' ≠ .ready then none else yDone l (fCode C n b a (σ₁.set l (.loop tmps' ps' as' b' .busy pend')))
    | _ => none)
  | _ => none
noncomputable def yYield (C : Caller) (n : Nat) (l : Nat) (args : List Value) (σ : Store) (o : Option EObj) : Option (Value × Store) := match o with
  | some (.loop tmps ps as b st pend) => if ps.length ≠ args.length then none else yBody C n l b (fCode C n as (gput ps args tmps) σ)
  | _ => none
noncomputable def fStep (F : FuncId → Option EFunc) (C : Caller) (n : Nat) : Caller := fun f args σ =>
  match f with
  | .func f => match F f with
    | none => none
    | some fn => bif Nat.blt fn.ntmps args.length then none else fRes fn (fCode C n fn.body (genv args 0 .leaf) σ)
  | .yield l => yYield C n l args σ (sget σ l)
theorem fStep_eq (F : FuncId → Option EFunc) (C : Caller) (n : Nat) (f : Callee) (args : List Value) (σ : Store) : fStep F C n f args σ = evStep F C n f args σ := by
  cases f with
  | yield l =>
    simp only [fStep, evStep, sget_eq, yYield]
    cases σ.get l with
    | none => rfl
    | some o =>
      cases o with
      | loop tmps ps as b st pend =>
        simp only [yBody, fCode_eq, gput_eq]
        split
        · rfl
        · cases evCode C n as ((ps.zip args).foldl (fun e (t, v) => T.set e t v) tmps) σ with
          | none => rfl
          | some r =>
            obtain ⟨e, a, σ₁⟩ := r
            cases e with
            | norm =>
              simp only
              cases σ₁.get l with
              | none => rfl
              | some o =>
                cases o with
                | loop tmps' ps' as' b' st' pend' =>
                  simp only [yDone]
                  split
                  · rfl
                  · cases evCode C n b a (σ₁.set l (.loop tmps' ps' as' b' .busy pend')) with
                    | none => rfl
                    | some r =>
                      obtain ⟨e, a2, σ₂⟩ := r
                      simp only
                      cases σ₂.get l with
                      | none => rfl
                      | some o => cases o <;> rfl
                | _ => rfl
            | _ => rfl
      | _ => rfl
  | func f =>
    simp only [fStep, evStep]
    cases F f with
    | none => rfl
    | some fn =>
      simp only [fCode_eq]
      by_cases h : fn.ntmps < args.length
      · rw [if_pos h, show Nat.blt fn.ntmps args.length = true from by simpa [Nat.blt_eq] using h]; rfl
      · rw [if_neg h, show Nat.blt fn.ntmps args.length = false from by
          cases e : Nat.blt fn.ntmps args.length with
          | false => rfl
          | true => exact absurd (by simpa [Nat.blt_eq] using e) h]
        have he : genv args 0 .leaf = envOf args := genv_eq args 0 .leaf
        simp only [cond_false, fRes, gres_eq, he]
        cases evCode C n fn.body (envOf args) σ with
        | none => rfl
        | some p => obtain ⟨e, a', σ'⟩ := p; cases e <;> rfl
noncomputable def fCall (F : FuncId → Option EFunc) : Nat → Caller
  | 0 => fun _ _ _ => none
  | n + 1 => fStep F (fCall F n) n
theorem fCall_eq (F : FuncId → Option EFunc) {H : Caller} (hH : ∀ f args σ, H f args σ = none) : ∀ n, fCall F n = evCall F H n
  | 0 => rfl
  | n + 1 => by
    funext f args σ
    simp only [fCall, evCall, fStep_eq, fCall_eq F hH n, hH]
end Go.Ev.Fast
end EvFast
section EvTab
namespace Go.Ev.Sx
def TAll {α : Type} (p : Nat → α → Prop) : T α → (Nat → Nat) → Prop
  | .leaf, _ => True
  | .node v l r, ix => (∀ a, v = some a → p (ix 0) a) ∧ TAll p l (fun n => ix (2 * n + 1)) ∧ TAll p r (fun n => ix (2 * n + 2))
theorem TAll_get {α : Type} {p : Nat → α → Prop} : ∀ {t : T α} {ix : Nat → Nat} {n : Nat} {a : α}, TAll p t ix → t.get n = some a → p (ix n) a
  | .leaf, _, _, _, _, h => by cases h
  | .node v l r, ix, n, a, ⟨h1, h2, h3⟩, h => by
    simp only [T.get] at h
    split at h
    · rename_i e; subst e; exact h1 a h
    · split at h
      · have := TAll_get h2 h
        rw [show 2 * (n / 2) + 1 = n by omega] at this; exact this
      · have := TAll_get h3 h
        rw [show 2 * (n / 2 - 1) + 2 = n by omega] at this; exact this
theorem t1 {α : Type} {p : Nat → α → Prop} {i : Nat} {x : α} (h : p i x) : ∀ a, some x = some a → p i a := fun a e => by cases e; exact h
theorem t0 {α : Type} {p : Nat → α → Prop} {i : Nat} : ∀ a, (none : Option α) = some a → p i a := fun a e => by cases e
theorem TAll.n1 {α : Type} {p : Nat → α → Prop} {i : Nat} {x : α} {l r : T α} {ix : Nat → Nat} (e : Nat.beq (ix 0) i = true) (h : p i x) (hl : TAll p l (fun n => ix (2 * n + 1))) (hr : TAll p r (fun n => ix (2 * n + 2))) : TAll p (.node (some x) l r) ix := by
  refine ⟨t1 ?_, hl, hr⟩
  rw [Nat.eq_of_beq_eq_true e]; exact h
theorem TAll.n0 {α : Type} {p : Nat → α → Prop} {l r : T α} {ix : Nat → Nat} (hl : TAll p l (fun n => ix (2 * n + 1))) (hr : TAll p r (fun n => ix (2 * n + 2))) : TAll p (.node none l r) ix := ⟨t0, hl, hr⟩
theorem TAll.lf {α : Type} {p : Nat → α → Prop} {ix : Nat → Nat} : TAll p .leaf ix := trivial
noncomputable def tabF (t : T EFunc) : FuncId → Option EFunc := fun f => Fast.tget t f
theorem tabF_FOK {P : Program} {t : T EFunc} (h : TAll (fun i fn => compFunc P i = some fn) t id) : Ev.FOK P (tabF t) := fun f ef hf => by
  unfold tabF at hf
  rw [Fast.tget_eq] at hf
  exact TAll_get h hf
def isPk (aw : FuncId) (cl : List Clo) (f : FuncId) : Bool := Nat.beq f aw || cl.any fun c => Nat.beq f c.pg
theorem isPk_no {aw : FuncId} {cl : List Clo} {f : FuncId} (h : isPk aw cl f = false) : f ≠ aw ∧ ∀ c ∈ cl, f ≠ c.pg := by
  simp only [isPk, Bool.or_eq_false_iff, List.any_eq_false] at h
  refine ⟨fun e => ?_, fun c hc e => ?_⟩
  · subst e; rw [Nat.beq_refl] at h; cases h.1
  · have := h.2 c hc
    subst e; rw [Nat.beq_refl] at this; exact this rfl
noncomputable def mkHx (F : FuncId → Option EFunc) (aw : FuncId) (cl : List Clo) (kd : List (Nat × HK)) (nx : Nat) (c : Clo) : HX :=
  ⟨fun f => bif isPk aw cl f then none else F f, fun f => match hget f kd with
    | some k => k
    | none => .code, c.pg, c.pargs, c.rs, nx⟩
def mkWk (wk : List (Nat × WK)) (f : FuncId) : WK := match hget f wk with
  | some k => k
  | none => .code
theorem hget_mem {α : Type} {x : Nat} {a : α} : ∀ {l : List (Nat × α)}, hget x l = some a → (x, a) ∈ l
  | [], h => by cases h
  | (y, b) :: r, h => by
    simp only [hget] at h
    split at h
    · rename_i e; subst e; cases h; simp
    · exact List.mem_cons_of_mem _ (hget_mem h)
def KdOK (F : FuncId → Option EFunc) (ti : TypeId) (f : FuncId) : HK → Prop
  | .int => F f = some (putIntFn ti)
  | .bool => F f = some (putBoolFn ti)
  | .puts e s => F f = some (putsFn ti e s)
  | .code => True
def WkOK (F : FuncId → Option EFunc) (f : FuncId) : WK → Prop
  | .int => F f = some wipeIntFn
  | .wipes e => F f = some (wipesFn e)
  | .code => True
def plainOK (cl : List Clo) (aw : FuncId) (kd : List (Nat × HK)) (wk : List (Nat × WK)) (kt : List KT) : Bool :=
  KT.noStr (KT.ofL kt) && decide (kt.length ≤ 2048) && cl.all (fun c => c.pargs.all fun p => p.2.all (fun i => decide (i < kt.length)) && (p.1 || p.2.length == 1)) && cl.all (fun c => c.pg != aw) && cl.all (fun c => decide (c.ks.length ≤ 2048)) &&
    kd.all (fun p => !(isPk aw cl p.1)) && wk.all (fun p => !(isPk aw cl p.1))
theorem mk_facts {P : Program} {F : FuncId → Option EFunc} {t : HT} {cl : List Clo} {aw : FuncId} {kd : List (Nat × HK)} {wk : List (Nat × WK)} {kt : List KT} (hp : plainOK cl aw kd wk kt = true) (hone : ∀ c ∈ cl, ∀ c' ∈ cl, c.pg = c'.pg → c = c')
    (hkd : ∀ p ∈ kd, KdOK F t.int p.1 p.2) (hwk : ∀ p ∈ wk, WkOK F p.1 p.2) (hok : ∀ c ∈ cl, cloOK (mkHx F aw cl kd kt.length) (mkWk wk) kt.length c = true) : Facts P F t cl aw (mkHx F aw cl kd kt.length) (mkWk wk) kt.length kt := by
  simp only [plainOK, Bool.and_eq_true, decide_eq_true_eq, List.all_eq_true, Bool.or_eq_true, beq_iff_eq, bne_iff_ne, Bool.not_eq_true'] at hp
  obtain ⟨⟨⟨⟨⟨⟨p1, p2⟩, p3⟩, p4⟩, p5⟩, p6⟩, p7⟩ := hp
  have hk : ∀ f k, (match hget f kd with | some k => k | none => HK.code) = k → k ≠ .code → KdOK F t.int f k ∧ isPk aw cl f = false := by
    intro f k h hn
    cases hg : hget f kd with
    | none => rw [hg] at h; exact absurd h.symm hn
    | some k' =>
      rw [hg] at h
      simp only at h; subst h
      have := hget_mem hg
      exact ⟨hkd _ this, p6 _ this⟩
  have hw : ∀ f k, mkWk wk f = k → k ≠ .code → WkOK F f k ∧ isPk aw cl f = false := by
    intro f k h hn
    unfold mkWk at h
    cases hg : hget f wk with
    | none => rw [hg] at h; exact absurd h.symm hn
    | some k' =>
      rw [hg] at h
      simp only at h; subst h
      have := hget_mem hg
      exact ⟨hwk _ this, p7 _ this⟩
  refine ⟨rfl, p1, p2, fun c _ => ⟨rfl, rfl, rfl, rfl⟩, ?_, ?_, ?_, ?_, ?_, ?_, ?_, hok, hone, p4, p5⟩
  · intro c _ f fn hf
    have hf' : (bif isPk aw cl f then none else F f) = some fn := hf
    cases hb : isPk aw cl f with
    | true => rw [hb] at hf'; cases hf'
    | false => rw [hb] at hf'; exact ⟨hf', isPk_no hb⟩
  · intro c _ f hf
    obtain ⟨a, b⟩ := hk f .int hf (by simp)
    exact ⟨a, isPk_no b⟩
  · intro c _ f hf
    obtain ⟨a, b⟩ := hk f .bool hf (by simp)
    exact ⟨a, isPk_no b⟩
  · intro c _ f e s hf
    obtain ⟨a, b⟩ := hk f (.puts e s) hf (by simp)
    exact ⟨a, isPk_no b⟩
  · intro f hf
    obtain ⟨a, b⟩ := hw f .int hf (by simp)
    exact ⟨a, isPk_no b⟩
  · intro f e hf
    obtain ⟨a, b⟩ := hw f (.wipes e) hf (by simp)
    exact ⟨a, isPk_no b⟩
  · intro c hc p hp
    refine ⟨fun i hi => (p3 c hc p hp).1 i hi, fun h => ?_⟩
    rcases (p3 c hc p hp).2 with h1 | h1
    · rw [h] at h1; cases h1
    · exact h1
noncomputable def awakeB (t : T EFunc) (n : Nat) (aw : FuncId) : Bool := match Fast.fCall (tabF t) n (.func aw) [] Store.empty with
  | some (.bool true, _) => true
  | _ => false
theorem awake_canon {P : Program} {t : T EFunc} (hF : Ev.FOK P (tabF t)) (hmix : P.follows .mixedOrders = true) {aw : FuncId} {n : Nat} (h : awakeB t n aw = true) (σ0 : Store) : ∃ r, Canon P σ0 aw [] r ∧ r.1 = .bool true := by
  unfold awakeB at h
  rw [Fast.fCall_eq (tabF t) (H := fun _ _ _ => none) (fun _ _ _ => rfl) n] at h
  split at h
  · rename_i τ hr
    have hC := evCall_COK hF hmix (H := fun _ _ _ => none) COK.none n
    have h0 := RoAll_none
    let K : FuncId → List Value → Option (Value × Store) := fun f args => if f = aw ∧ args.length = 0 then some (.bool true, τ) else none
    have hK : ∀ g args r, K g args = some r → ∃ C, COK P C ∧ C (.func g) args Store.empty = some r := by
      intro g args r hk
      simp only [K] at hk
      split at hk
      · rename_i e
        obtain ⟨rfl, e2⟩ := e
        cases hk
        have : args = [] := List.length_eq_zero_iff.1 e2
        subst this
        exact ⟨_, hC, hr⟩
      · cases hk
    refine ⟨_, ⟨hook Store.empty K, hook_COK h0 hK, hook_eq (K := K) (τ := τ) (v := .bool true) ⟨Nat.zero_le _, fun l hl => absurd hl (Nat.not_lt_zero l)⟩ (fun a h => by cases h) (by simp [K]) (v' := .bool true) rfl⟩, rfl⟩
  · cases h
end Go.Ev.Sx
end EvTab
