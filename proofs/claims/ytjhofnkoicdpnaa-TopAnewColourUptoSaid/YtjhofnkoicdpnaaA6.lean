/- The evaluator, the symbolic evaluator and their soundness, part 6 of 6: for every program and every world. -/
import Derived.Test.YtjhofnkoicdpnaaA5
set_option linter.all false
set_option linter.unusedVariables false
set_option linter.unusedSimpArgs false
section EvFast
namespace Go.Ev.Fast
open Go.Ev
def gnode {α : Type} (v : Option α) (_ _ : T α) (il ir : Nat → Option α) (n : Nat) : Option α := bif Nat.beq n 0 then v else bif Nat.beq (Nat.mod n 2) 1 then il (Nat.div n 2) else ir (Nat.sub (Nat.div n 2) 1)
noncomputable def tget {α : Type} (t : T α) : Nat → Option α := @T.rec α (fun _ => Nat → Option α) (fun _ => none) gnode t
theorem tget_eq {α : Type} : ∀ (t : T α) (n : Nat), tget t n = t.get n
 | .leaf, _ => rfl
 | .node v l r, n => by
  show gnode v l r (tget l) (tget r) n = _
  have e1 : Nat.mod n 2 = n % 2 := rfl
  have e2 : Nat.div n 2 = n / 2 := rfl
  have e3 : Nat.sub (n / 2) 1 = n / 2 - 1 := rfl
  simp only [gnode, T.get, tget_eq l, tget_eq r, e1, e2, e3]
  by_cases h : n = 0
  ·subst h; rfl
  ·have h1 : Nat.beq n 0 = false := by cases n with
   | zero => exact absurd rfl h
   | succ m => rfl
   rw [h1, if_neg h, cond_false]
   by_cases h2 : n % 2 = 1
   ·rw [if_pos h2, h2]; rfl
   ·have h3 : n % 2 = 0 := by omega
    rw [if_neg h2, h3]; rfl
def tleaf {α : Type} (a : α) (ih : T α → Nat → T α) (n : Nat) : T α := bif Nat.beq n 0 then .node (some a) .leaf .leaf else bif Nat.beq (Nat.mod n 2) 1 then .node none (ih .leaf (Nat.div n 2)) .leaf else .node none .leaf (ih .leaf (Nat.sub (Nat.div n 2) 1))
def tnode {α : Type} (a : α) (ih : T α → Nat → T α) (n : Nat) (v : Option α) (l r : T α) : T α := bif Nat.beq n 0 then .node (some a) l r else bif Nat.beq (Nat.mod n 2) 1 then .node v (ih l (Nat.div n 2)) r else .node v l (ih r (Nat.sub (Nat.div n 2) 1))
noncomputable def tsetF {α : Type} (a : α) (f : Nat) : T α → Nat → T α :=
 @Nat.rec (fun _ => T α → Nat → T α) (fun t _ => t) (fun _ ih t n => @T.rec α (fun _ => T α) (tleaf a ih n) (fun v l r _ _ => tnode a ih n v l r) t) f
theorem tsetF_eq {α : Type} (a : α) : ∀ (f : Nat) (t : T α) (n : Nat), tsetF a f t n = T.setF a f t n
 | 0, t, _ => rfl
 | f + 1, t, n => by
  have h1 : n ≠ 0 → Nat.beq n 0 = false := by
   intro h
   cases n with
   | zero => exact absurd rfl h
   | succ m => rfl
  have h3 : ¬ n % 2 = 1 → n % 2 = 0 := by omega
  have e1 : Nat.mod n 2 = n % 2 := rfl
  have e2 : Nat.div n 2 = n / 2 := rfl
  have e3 : Nat.sub (n / 2) 1 = n / 2 - 1 := rfl
  cases t with
  | leaf =>
   show tleaf a (tsetF a f) n = _
   simp only [tleaf, T.setF, tsetF_eq a f, e1, e2, e3]
   by_cases h : n = 0
   ·subst h; rfl
   ·rw [h1 h, if_neg h, cond_false]
    by_cases h2 : n % 2 = 1
    ·rw [if_pos h2, h2]; rfl
    ·rw [if_neg h2, h3 h2]; rfl
  | node v l r =>
   show tnode a (tsetF a f) n v l r = _
   simp only [tnode, T.setF, tsetF_eq a f, e1, e2, e3]
   by_cases h : n = 0
   ·subst h; rfl
   ·rw [h1 h, if_neg h, cond_false]
    by_cases h2 : n % 2 = 1
    ·rw [if_pos h2, h2]; rfl
    ·rw [if_neg h2, h3 h2]; rfl
noncomputable def tset {α : Type} (t : T α) (n : Nat) (a : α) : T α := tsetF a (n + 1) t n
theorem tset_eq {α : Type} (t : T α) (n : Nat) (a : α) : tset t n a = t.set n a := tsetF_eq a _ t n
noncomputable def eget (a : Env) (t : Tmp) : Value := match tget a t with
 | some v => v
 | none => undefE
theorem eget_eq (a : Env) (t : Tmp) : eget a t = a.get t := by unfold eget Env.get; rw [tget_eq]; cases T.get a t <;> rfl
noncomputable def eeval (a : Env) : Operand → Value
 | .tmp t => eget a t
 | .const v => v
 | .global g => .pointer (some ⟨g, 0, none⟩)
 | .func f => .func (.func f) #[] #[]
theorem eeval_eq (a : Env) (x : Operand) : eeval a x = a.eval x := by cases x <;> simp only [eeval, Env.eval, eget_eq]
noncomputable def eput (a : Env) (d : Option Tmp) (v : Value) : Env := match d with
 | some d => tset a d v
 | none => a
theorem eput_eq (a : Env) (d : Option Tmp) (v : Value) : eput a d v = a.put d v := by cases d <;> simp only [eput, Env.put, tset_eq]
noncomputable def sget (σ : Store) (l : Nat) : Option EObj := bif Nat.blt l σ.size then tget σ.m l else none
theorem sget_eq (σ : Store) (l : Nat) : sget σ l = σ.get l := by
 unfold sget Store.get
 rw [tget_eq]
 by_cases h : l < σ.size
 ·rw [if_pos h, show Nat.blt l σ.size = true from by simpa [Nat.blt_eq] using h]; rfl
 ·rw [if_neg h, show Nat.blt l σ.size = false from by
   cases e : Nat.blt l σ.size with
   | false => rfl
   | true => exact absurd (by simpa [Nat.blt_eq] using e) h]; rfl
noncomputable def salloc (σ : Store) (o : EObj) : Store := ⟨σ.size + 1, tset σ.m σ.size o⟩
theorem salloc_eq (σ : Store) (o : EObj) : salloc σ o = σ.alloc o := by unfold salloc Store.alloc; rw [tset_eq]
noncomputable def sset (σ : Store) (l : Nat) (o : EObj) : Store := ⟨σ.size, tset σ.m l o⟩
theorem sset_eq (σ : Store) (l : Nat) (o : EObj) : sset σ l o = σ.set l o := by unfold sset Store.set; rw [tset_eq]
noncomputable def pPick (a : Env) (v : Value) (x y : Operand) (σ : Store) : Option (Value × Store) := match v with
 | .bool b => some (bif b then eeval a x else eeval a y, σ)
 | _ => none
def fit64 : Int → Bool
 | .ofNat m => Nat.blt m 9223372036854775808
 | .negSucc m => Nat.blt m 9223372036854775808
def is64 : IntKind → Bool
 | .i64 => true
 | _ => false
def fWrap (k : IntKind) (n : Int) : Option Value := bif is64 k && fit64 n then some (.int k n) else some (.int k (k.wrap n))
theorem fWrap_eq (k : IntKind) (n : Int) : fWrap k n = some (.int k (k.wrap n)) := by
 unfold fWrap
 cases h : is64 k && fit64 n with
 | false => rfl
 | true =>
  simp only [Bool.and_eq_true] at h
  have hk : k = .i64 := by cases k <;> first | rfl | cases h.1
  subst hk
  have hb : -9223372036854775808 ≤ n ∧ n < 9223372036854775808 := by
   cases n with
   | ofNat m =>
    have h2 : Nat.blt m 9223372036854775808 = true := h.2
    rw [Nat.blt_eq] at h2
    have := Int.ofNat_eq_natCast m
    omega
   | negSucc m =>
    have h2 : Nat.blt m 9223372036854775808 = true := h.2
    rw [Nat.blt_eq] at h2
    omega
  have : IntKind.i64.wrap n = n := by
   have e : IntKind.i64.wrap n = if n % 18446744073709551616 ≥ 9223372036854775808 then n % 18446744073709551616 - 18446744073709551616 else n % 18446744073709551616 := by
    simp [IntKind.wrap, IntKind.signed, IntKind.bits]
   rw [e]
   split <;> omega
  rw [this]; rfl
def fAdd (k : IntKind) (a b : Int) : Option Value := fWrap k (Int.add a b)
def fSub (k : IntKind) (a b : Int) : Option Value := fWrap k (Int.sub a b)
def nneg' : Int → Bool
 | .ofNat _ => true
 | .negSucc _ => false
def ilt (a b : Int) : Bool := nneg' (Int.sub (Int.sub b a) 1)
theorem ilt_eq (a b : Int) : ilt a b = decide (a < b) := by
 unfold ilt
 have e : Int.sub (Int.sub b a) 1 = b - a - 1 := rfl
 rw [e]
 by_cases h : a < b
 ·rw [decide_eq_true h]
  cases hz : b - a - 1 with
  | ofNat m => rfl
  | negSucc m => omega
 ·rw [decide_eq_false h]
  cases hz : b - a - 1 with
  | ofNat m => have := Int.ofNat_eq_natCast m; omega
  | negSucc m => rfl
theorem is64_eq {k : IntKind} (h : is64 k = true) : k = .i64 := by cases k <;> first | rfl | cases h
def pInt2 (op : BinOp) (k k' : IntKind) (a b : Int) : Option Value := match op with
 | .add => bif is64 k && is64 k' then fAdd k a b else binV .add (.int k a) (.int k' b)
 | .sub => bif is64 k && is64 k' then fSub k a b else binV .sub (.int k a) (.int k' b)
 | .lss => bif is64 k && is64 k' then some (.bool (ilt a b)) else binV .lss (.int k a) (.int k' b)
 | op => binV op (.int k a) (.int k' b)
theorem pInt2_eq (op : BinOp) (k k' : IntKind) (a b : Int) : pInt2 op k k' a b = binV op (.int k a) (.int k' b) := by
 cases op <;> first | rfl | (simp only [pInt2]; cases h : is64 k && is64 k' with
  | false => rfl
  | true =>
   simp only [Bool.and_eq_true] at h
   cases is64_eq h.1; cases is64_eq h.2
   first | (simp only [cond_true, fAdd, fWrap_eq]; rfl) | (simp only [cond_true, fSub, fWrap_eq]; rfl) | (simp only [cond_true, ilt_eq]; rfl))
def pBin2 (op : BinOp) (k : IntKind) (a : Int) (x y : Value) : Option Value := match y with
 | .int k' b => pInt2 op k k' a b
 | _ => binV op x y
def pBin (op : BinOp) (x y : Value) : Option Value := match x with
 | .int k a => pBin2 op k a x y
 | _ => binV op x y
theorem pBin_eq (op : BinOp) (x y : Value) : pBin op x y = binV op x y := by
 cases x with
 | int k a => cases y with
  | int k' b => exact pInt2_eq op k k' a b
  | _ => rfl
 | _ => rfl
def retV (v : Option Value) (σ : Store) : Option (Value × Store) := match v with
 | some v => some (v, σ)
 | none => none
def nth : List Value → Nat → Option Value
 | [], _ => none
 | x :: c, n => bif Nat.beq n 0 then some x else nth c (Nat.sub n 1)
theorem nth_eq : ∀ (c : List Value) (n : Nat), nth c n = c[n]?
 | [], n => by simp [nth]
 | x :: c, 0 => rfl
 | x :: c, n + 1 => by
  show nth c (Nat.sub (n + 1) 1) = _
  rw [nth_eq c]; simp
def takeQ : Nat → List Value → Option (List Value)
 | 0, _ => some []
 | _ + 1, [] => none
 | n + 1, x :: c => match takeQ n c with
  | some r => some (x :: r)
  | none => none
theorem takeQ_eq : ∀ (n : Nat) (c : List Value), takeQ n c = if n ≤ c.length then some (c.take n) else none
 | 0, c => by simp [takeQ]
 | n + 1, [] => by simp [takeQ]
 | n + 1, x :: c => by
  simp only [takeQ, takeQ_eq n c, List.length_cons, Nat.add_le_add_iff_right]
  by_cases h : n ≤ c.length
  ·simp [h]
  ·simp [h]
def cut : Nat → Nat → List Value → Option (List Value)
 | 0, n, c => takeQ n c
 | _ + 1, n, [] => none
 | o + 1, n, _ :: c => cut o n c
theorem cut_eq : ∀ (o n : Nat) (c : List Value), cut o n c = if o + n ≤ c.length then some ((c.drop o).take n) else none
 | 0, n, c => by simp [cut, takeQ_eq]
 | o + 1, n, [] => by simp [cut]
 | o + 1, n, x :: c => by
  simp only [cut, cut_eq o n c, List.length_cons, List.drop_succ_cons]
  by_cases h : o + n ≤ c.length
  ·rw [if_pos h, if_pos (by omega)]
  ·rw [if_neg h, if_neg (by omega)]
def aggO (r : Option (List Value)) : Option Value := match r with
 | some c => some (.agg c.toArray)
 | none => none
def loadC (n : Option Nat) (off : Nat) (c : List Value) : Option Value := match n with
 | some n => aggO (cut off n c)
 | none => nth c off
def loadO (n : Option Nat) (off : Nat) (o : Option EObj) : Option Value := match o with
 | some (.cells _ _ c) => loadC n off c
 | _ => none
noncomputable def pLoad (n : Option Nat) (v : Value) (σ : Store) : Option (Value × Store) := match v with
 | .pointer (some p) => retV (loadO n p.off (sget σ p.block)) σ
 | _ => none
def over : List Value → List Value → Option (List Value)
 | c, [] => some c
 | [], _ :: _ => none
 | _ :: c, v :: vs => (over c vs).map (v :: ·)
def splice : Nat → List Value → List Value → Option (List Value)
 | 0, c, vs => over c vs
 | _ + 1, [], vs => none
 | n + 1, x :: c, vs => (splice n c vs).map (x :: ·)
theorem over_eq : ∀ (c vs : List Value), over c vs = if vs.length ≤ c.length then some (vs ++ c.drop vs.length) else none
 | c, [] => by simp [over]
 | [], v :: vs => by simp [over]
 | x :: c, v :: vs => by
  simp only [over, over_eq c vs, List.length_cons, Nat.add_le_add_iff_right]
  split <;> simp
theorem splice_eq : ∀ (n : Nat) (c vs : List Value), vs ≠ [] → splice n c vs = if n + vs.length ≤ c.length then some (c.take n ++ vs ++ c.drop (n + vs.length)) else none
 | 0, c, vs, _ => by simp [splice, over_eq]
 | n + 1, [], vs, h => by simp [splice]
 | n + 1, x :: c, vs, h => by
  simp only [splice, splice_eq n c vs h, List.length_cons]
  by_cases e : n + vs.length ≤ c.length
  ·rw [if_pos e, if_pos (by omega)]
   simp [show n + 1 + vs.length = n + vs.length + 1 by omega]
  ·rw [if_neg e, if_neg (by omega)]; rfl
def roQ : St → Bool
 | .ro => true
 | _ => false
noncomputable def storeR (σ : Store) (b : Nat) (st : St) (e : TypeId) (r : Option (List Value)) : Option (Value × Store) := match r with
 | some c => some (undefE, sset σ b (.cells st e c))
 | none => none
noncomputable def storeO (σ : Store) (a : Addr) (vs : List Value) (o : Option EObj) : Option (Value × Store) := match o with
 | some (.cells st e c) => bif !(roQ st) && vs.all oneC then (match vs with
  | [] => if a.off ≤ c.length then some (undefE, sset σ a.block (.cells st e c)) else none
  | _ => storeR σ a.block st e (splice a.off c vs)) else none
 | _ => none
noncomputable def pStore2 (n : Nat) (p : Addr) (vs : List Value) (σ : Store) : Option (Value × Store) := if vs.length = n then storeO σ p vs (sget σ p.block) else none
noncomputable def pStore (n : Nat) (v : Value) (w : Value) (σ : Store) : Option (Value × Store) := match v with
 | .pointer (some p) => pStore2 n p (vcells w) σ
 | _ => none
def pNilc (v : Value) (σ : Store) : Option (Value × Store) := match v with
 | .pointer (some p) => some (v, σ)
 | .func (.func f) b c => some (v, σ)
 | .func (.yield f) b c => some (v, σ)
 | _ => none
def fadd (p : Addr) (o : Nat) : Addr := bif Nat.beq o 0 then p else ⟨p.block, Nat.add p.off o, none⟩
theorem fadd_eq (p : Addr) (o : Nat) : fadd p o = p.add o := by
 unfold fadd Addr.add
 cases o with
 | zero => rfl
 | succ n => rfl
def pAdd (v : Value) (o : Nat) (σ : Store) : Option (Value × Store) := match v with
 | .pointer (some p) => some (.pointer (some (fadd p o)), σ)
 | _ => none
def pIdxS2 (esz : Nat) (p : Addr) (len : Nat) (v : Value) (σ : Store) : Option (Value × Store) := match v with
 | .int _ (.ofNat i) => bif Nat.blt i len then some (.pointer (some (fadd p (Nat.mul i esz))), σ) else none
 | _ => none
def pIdxS (esz : Nat) (v w : Value) (σ : Store) : Option (Value × Store) := match v with
 | .slice (some p) len _ => pIdxS2 esz p len w σ
 | _ => none
def pLen (v : Value) (σ : Store) : Option (Value × Store) := match v with
 | .slice _ n _ => some (.int .i64 n, σ)
 | _ => none
def pExt (v : Value) (i : Nat) (σ : Store) : Option (Value × Store) := match v with
 | .tuple vs => retV vs[i]? σ
 | _ => none
def pField (o : Nat) (n : Option Nat) (v : Value) (σ : Store) : Option (Value × Store) := match v with
 | .agg cs => retV (partE n cs.toList o) σ
 | _ => none
noncomputable def evalL (a : Env) : List Operand → List Value
 | [] => []
 | x :: r => eeval a x :: evalL a r
theorem evalL_eq (a : Env) : ∀ l, evalL a l = l.map a.eval
 | [] => rfl
 | x :: r => by simp only [evalL, List.map_cons, eeval_eq, evalL_eq a r]
noncomputable def pNew (e : TypeId) (c : List Value) (σ : Store) : Option (Value × Store) := some (.pointer (some ⟨σ.size, 0, none⟩), salloc σ (.cells .rw e c))
noncomputable def gparts (a : Env) : List (Nat × Nat × Operand) → List (Nat × Nat × Value)
 | [] => []
 | (o, n, x) :: r => (o, n, eeval a x) :: gparts a r
theorem gparts_eq (a : Env) : ∀ l, gparts a l = l.map fun (o, n, x) => (o, n, a.eval x)
 | [] => rfl
 | (o, n, x) :: r => by simp only [gparts, List.map_cons, eeval_eq, gparts_eq a r]
def gfill : List (Nat × Nat × Value) → List Value → Option (List Value)
 | [], c => some c
 | (o, n, v) :: r, c => match vcells v with
  | [] => bif Nat.beq n 0 && Nat.ble o c.length then gfill r c else none
  | vs => bif Nat.beq vs.length n then (match splice o c vs with
   | some c' => gfill r c'
   | none => none) else none
theorem gfill_eq : ∀ (l : List (Nat × Nat × Value)) (c : List Value), gfill l c = fillE c l
 | [], c => rfl
 | (o, n, v) :: r, c => by
  simp only [gfill, fillE]
  cases hv : vcells v with
  | nil =>
   simp only [List.length_nil, List.append_nil]
   by_cases h : 0 = n ∧ o + n ≤ c.length
   ·obtain ⟨rfl, h2⟩ := h
    rw [if_pos ⟨rfl, h2⟩]
    simp only [Nat.add_zero, List.take_append_drop]
    rw [show (Nat.beq 0 0 && Nat.ble o c.length) = true from by simpa [Nat.ble_eq] using h2]
    exact gfill_eq r c
   ·rw [if_neg h]
    cases hb : Nat.beq n 0 && Nat.ble o c.length with
    | false => rfl
    | true =>
     simp only [Bool.and_eq_true, Nat.ble_eq] at hb
     have := Nat.eq_of_beq_eq_true hb.1
     exact absurd ⟨this.symm, by omega⟩ h
  | cons x vs =>
   simp only
   by_cases h : (x :: vs).length = n ∧ o + n ≤ c.length
   ·obtain ⟨h1, h2⟩ := h
    rw [if_pos ⟨h1, h2⟩, splice_eq _ _ _ (by simp), h1, if_pos h2, Nat.beq_refl]
    exact gfill_eq r _
   ·rw [if_neg h]
    cases hb : Nat.beq (x :: vs).length n with
    | false => rfl
    | true =>
     have h1 := Nat.eq_of_beq_eq_true hb
     rw [splice_eq _ _ _ (by simp), if_neg (by intro h2; exact h ⟨h1, by omega⟩)]; rfl
noncomputable def pBsl (e : TypeId) (len : Nat) (σ : Store) (r : Option (List Value)) : Option (Value × Store) := match r with
 | some cs => some (.slice (some ⟨σ.size, 0, none⟩) len len, salloc σ (.cells .rw e cs))
 | none => none
def pMkf (f : FuncId) (a b : List Value) (σ : Store) : Option (Value × Store) := some (.func (.func f) a.toArray b.toArray, σ)
theorem retV_eq (v : Option Value) (σ : Store) : retV v σ = v.map (·, σ) := by cases v <;> rfl
def fCallV (C : Caller) (f : Value) (args : List Value) (σ : Store) : Option (Value × Store) := evCallV C f args σ
noncomputable def gOp (C : Caller) (pr : Nat → Store → Option (Value × Store)) (op : I) : Env → Store → Option (Value × Store) :=
 @I.rec (fun _ => Env → Store → Option (Value × Store))
  (fun x a σ => some (eeval a x, σ))
  (fun c x y a σ => pPick a (eeval a c) x y σ)
  (fun op x y a σ => retV (pBin op (eeval a x) (eeval a y)) σ)
  (fun n x y a σ => evI (.beq n x y) a σ)
  (fun ks n x y a σ => evI (.peq ks n x y) a σ)
  (fun k n x a σ => evI (.nileq k n x) a σ)
  (fun x a σ => evI (.not x) a σ)
  (fun x a σ => evI (.neg x) a σ)
  (fun k x a σ => evI (.conv k x) a σ)
  (fun e z a σ => pNew e z σ)
  (fun e x a σ => pNew e (vcells (eeval a x)) σ)
  (fun z ps a σ => evI (.build z ps) a σ)
  (fun e n len z ps a σ => pBsl e len σ (gfill (gparts a ps) z))
  (fun n x a σ => pLoad n (eeval a x) σ)
  (fun n x v a σ => pStore n (eeval a x) (eeval a v) σ)
  (fun x a σ => pNilc (eeval a x) σ)
  (fun x o a σ => pAdd (eeval a x) o σ)
  (fun o n x a σ => pField o n (eeval a x) σ)
  (fun esz x i a σ => pIdxS esz (eeval a x) (eeval a i) σ)
  (fun len esz x i a σ => evI (.idxA len esz x i) a σ)
  (fun len esz n x i a σ => evI (.index len esz n x i) a σ)
  (fun x i a σ => evI (.indexStr x i) a σ)
  (fun e esz x lo hi m a σ => evI (.slcS e esz x lo hi m) a σ)
  (fun len esz x lo hi m a σ => evI (.slcA len esz x lo hi m) a σ)
  (fun x lo hi a σ => evI (.slcStr x lo hi) a σ)
  (fun x i a σ => pExt (eeval a x) i σ)
  (fun f fs cs a σ => pMkf f (evalL a fs) (evalL a cs) σ)
  (fun e n b z l c a σ => evI (.mks e n b z l c) a σ)
  (fun a σ => evI (.mkm) a σ)
  (fun ks z g ok m k a σ => evI (.look ks z g ok m k) a σ)
  (fun ks m k v a σ => evI (.mupd ks m k v) a σ)
  (fun ks z g m k a σ => evI (.ment ks z g m k) a σ)
  (fun m s v a σ => evI (.mest m s v) a σ)
  (fun x a σ => pLen (eeval a x) σ)
  (fun x a σ => evI (.lenStr x) a σ)
  (fun x a σ => evI (.lenM x) a σ)
  (fun v a σ => evI (.const v) a σ)
  (fun l a σ => evI (.mx l) a σ)
  (fun l a σ => evI (.mn l) a σ)
  (fun e n b s x a σ => evI (.app e n b s x) a σ)
  (fun n d s a σ => evI (.copy n d s) a σ)
  (fun t x a σ => evI (.mki t x) a σ)
  (fun x a σ => evI (.strOf x) a σ)
  (fun x a σ => evI (.rngStr x) a σ)
  (fun x a σ => evI (.nxtStr x) a σ)
  (fun f args a σ => fCallV C (eeval a f) (evalL a args) σ)
  (fun m a σ => pr m σ)
  (fun a σ => evI (.stop) a σ) op
theorem storeC_eq' {σ : Store} {p : Addr} {vs : List Value} (st : St) (e : TypeId) (c : List Value) : storeO σ p vs (some (.cells st e c)) = (if st ≠ .ro ∧ p.off + vs.length ≤ c.length ∧ vs.all oneC then some (σ.set p.block (.cells st e (c.take p.off ++ vs ++ c.drop (p.off + vs.length)))) else none).map (undefE, ·) := by
 simp only [storeO]
 cases hs : roQ st with
 | true => have : st = .ro := by cases st <;> first | rfl | cases hs
           subst this; simp
 | false =>
  have h1 : st ≠ .ro := by intro h; subst h; cases hs
  cases ha : vs.all oneC with
  | false => simp
  | true =>
   simp only [Bool.not_false, Bool.and_self, cond_true]
   cases vs with
   | nil =>
    simp only [List.length_nil, Nat.add_zero, List.append_nil, List.take_append_drop, sset_eq]
    by_cases h : p.off ≤ c.length
    ·rw [if_pos h, if_pos ⟨h1, h, trivial⟩]; rfl
    ·rw [if_neg h, if_neg (by intro x; exact h x.2.1)]; rfl
   | cons v vs =>
    simp only
    rw [splice_eq _ _ _ (by simp)]
    by_cases h : p.off + (v :: vs).length ≤ c.length
    ·rw [if_pos h, if_pos ⟨h1, h, trivial⟩]; simp only [storeR, sset_eq]; rfl
    ·rw [if_neg h, if_neg (by intro x; exact h x.2.1)]; rfl
theorem gOp_eq (C : Caller) (pr : Nat → Store → Option (Value × Store)) (op : I) (a : Env) (σ : Store) : gOp C pr op a σ = match op with
  | .pre m => pr m σ
  | op => evOp C op a σ := by
 cases op with
 | pre m => rfl
 | call f args => show fCallV C (eeval a f) (evalL a args) σ = evCallV C (a.eval f) (args.map a.eval) σ; rw [eeval_eq, evalL_eq]; rfl
 | mov x => show some (eeval a x, σ) = some (a.eval x, σ); rw [eeval_eq]
 | pick c x y => show pPick a (eeval a c) x y σ = evI (.pick c x y) a σ; simp only [evI, eeval_eq, pPick]; cases a.eval c <;> first | rfl | (rename_i b; cases b <;> simp [eeval_eq])
 | bin op x y => show retV (pBin op (eeval a x) (eeval a y)) σ = evI (.bin op x y) a σ; simp only [evI, eeval_eq, retV_eq, pBin_eq]
 | alloc e z => show pNew e z σ = evI (.alloc e z) a σ; simp only [evI, pNew, salloc_eq]
 | box e x => show pNew e (vcells (eeval a x)) σ = evI (.box e x) a σ; simp only [evI, pNew, salloc_eq, eeval_eq]
 | load n x =>
  show pLoad n (eeval a x) σ = evI (.load n x) a σ
  simp only [evI, pLoad, eeval_eq, retV_eq, sget_eq]
  cases a.eval x with
  | pointer p =>
   cases p with
   | none => rfl
   | some p =>
    simp only [loadE, loadO]
    cases σ.get p.block with
    | none => rfl
    | some o => cases o <;> first | rfl | (cases n with
     | none => simp only [loadC, nth_eq]
     | some m => simp only [loadC, cut_eq]; (by_cases hq : p.off + m ≤ ‹List Value›.length) <;> simp only [hq, if_true, if_false, aggO])
  | _ => rfl
 | store n x v =>
  show pStore n (eeval a x) (eeval a v) σ = evI (.store n x v) a σ
  simp only [evI, pStore, pStore2, eeval_eq, sget_eq]
  cases a.eval x with
  | pointer p =>
   cases p with
   | none => rfl
   | some p =>
    simp only [storeE, storeO]
    by_cases hn : (vcells (a.eval v)).length = n
    ·rw [if_pos hn, if_pos hn]
     cases σ.get p.block with
     | none => rfl
     | some o =>
      cases o with
      | cells st e c => exact storeC_eq' st e c
      | _ => rfl
    ·rw [if_neg hn, if_neg hn]
  | _ => rfl
 | bslice e n len z ps => show pBsl e len σ (gfill (gparts a ps) z) = evI (.bslice e n len z ps) a σ; simp only [evI, gparts_eq, gfill_eq, pBsl, salloc_eq]; cases fillE z (ps.map fun (o, n, x) => (o, n, a.eval x)) <;> rfl
 | nilc x => show pNilc (eeval a x) σ = evI (.nilc x) a σ; simp only [evI, pNilc, eeval_eq]; split <;> simp_all
 | addOff x o => show pAdd (eeval a x) o σ = evI (.addOff x o) a σ; simp only [evI, pAdd, eeval_eq, fadd_eq]; cases a.eval x <;> first | rfl | (rename_i p; cases p <;> rfl)
 | field o n x => show pField o n (eeval a x) σ = evI (.field o n x) a σ; simp only [evI, pField, eeval_eq, retV_eq]; cases a.eval x <;> rfl
 | idxS esz x i =>
  show pIdxS esz (eeval a x) (eeval a i) σ = evI (.idxS esz x i) a σ
  simp only [evI, pIdxS, pIdxS2, eeval_eq]
  cases a.eval x with
  | slice p len cap =>
   cases p with
   | none => cases a.eval i <;> rfl
   | some p =>
    cases a.eval i with
    | int k z =>
     cases z with
     | ofNat m =>
      simp only [fadd_eq]
      have e1 : (0 : Int) ≤ Int.ofNat m := Int.natCast_nonneg m
      have e2 : (Int.ofNat m).toNat = m := rfl
      by_cases h : m < len
      ·rw [if_pos ⟨e1, by simpa using h⟩, e2, show Nat.blt m len = true from by simpa [Nat.blt_eq] using h]; rfl
      ·rw [if_neg (by intro x; exact h (by simpa using x.2)), show Nat.blt m len = false from by
        cases e : Nat.blt m len with
        | false => rfl
        | true => exact absurd (by simpa [Nat.blt_eq] using e) h]; rfl
     | negSucc m =>
      simp only
      rw [if_neg (by intro x; have := x.1; omega)]
    | _ => rfl
  | _ => cases a.eval i <;> rfl
 | ext x i => show pExt (eeval a x) i σ = evI (.ext x i) a σ; simp only [evI, pExt, eeval_eq, retV_eq]; cases a.eval x <;> rfl
 | mkf f fs cs => show pMkf f (evalL a fs) (evalL a cs) σ = evI (.mkf f fs cs) a σ; simp only [evI, pMkf, evalL_eq]
 | lenS x => show pLen (eeval a x) σ = evI (.lenS x) a σ; simp only [evI, pLen, eeval_eq]; cases a.eval x <;> rfl
 | _ => rfl
def fGd (v : Value) (w : Bool) : Bool := match v with
 | .bool b => b == w
 | _ => false
noncomputable def fWant (g : Option (Tmp × Bool)) (a : Env) : Bool := match g with
 | none => true
 | some (t, w) => fGd (eget a t) w
theorem fWant_eq (o : EOp) (a : Env) : fWant o.guard a = wanted o a := by
 unfold fWant wanted
 cases o.guard with
 | none => rfl
 | some p => simp only [fGd, eget_eq]; cases a.get p.1 <;> rfl
noncomputable def gBind {α : Type} (r : Option (Value × Store)) (k : Value → Store → Option α) : Option α := @Option.rec (Value × Store) (fun _ => Option α) none (fun p => k p.1 p.2) r
noncomputable def gNext (d : Option Tmp) (ih : Env → Store → Option (Env × Store)) (a : Env) (v : Value) (σ : Store) : Option (Env × Store) := ih (eput a d v) σ
def noPre (m : Nat) (σ : Store) : Option (Value × Store) := none
noncomputable def gStep (C : Caller) (o : EOp) (ih : Env → Store → Option (Env × Store)) (a : Env) (σ : Store) : Option (Env × Store) :=
 bif fWant o.guard a then gBind (gOp C noPre o.op a σ) (gNext o.dst ih a) else ih (eput a o.dst undefE) σ
noncomputable def fOps (C : Caller) (ops : List EOp) : Env → Store → Option (Env × Store) :=
 @List.rec EOp (fun _ => Env → Store → Option (Env × Store)) (fun a σ => some (a, σ)) (fun o _ ih => gStep C o ih) ops
theorem fOps_eq (C : Caller) : ∀ (l : List EOp) (a : Env) (σ : Store), fOps C l a σ = evOps C l a σ
 | [], _, _ => rfl
 | o :: os, a, σ => by
  show gStep C o (fOps C os) a σ = _
  have hop : gOp C noPre o.op a σ = evOp C o.op a σ := by
   rw [gOp_eq]; cases o.op <;> rfl
  simp only [gStep, evOps, fWant_eq, hop, eput_eq]
  cases wanted o a with
  | false => exact fOps_eq C os _ _
  | true =>
   simp only [if_true, cond_true]
   cases evOp C o.op a σ with
   | none => rfl
   | some p => show fOps C os (eput a o.dst p.1) p.2 = _; rw [eput_eq, fOps_eq C os]
def atPre (base m : Nat) (σ : Store) : Option (Value × Store) := some (.pointer (some ⟨base + m, 0, none⟩), σ)
theorem gOpD_eq (C : Caller) (base : Nat) (op : I) (a : Env) (σ : Store) : gOp C (atPre base) op a σ = evOpD C base op a σ := by
 rw [gOp_eq]; cases op <;> rfl
def fLook (w : Option (Nat × Nat)) (op : I) (a : Env) (v : Value) (ls : List Look) : List Look := match w with
 | some (lo, hi) => bif op.looks then ⟨op, a, v, lo, hi⟩ :: ls else ls
 | none => ls
abbrev RD := Option (Env × Store × List Store × List Look)
noncomputable def gNextD (o : EOp) (ih : Env → Store → List Store → List Look → RD) (a : Env) (h : List Store) (ls : List Look) (v : Value) (σ : Store) : RD :=
 ih (eput a o.dst v) σ (bif o.op.loud then h ++ [σ] else h) (fLook o.win o.op a v ls)
noncomputable def gStepD (C : Caller) (base : Nat) (o : EOp) (ih : Env → Store → List Store → List Look → RD) (a : Env) (σ : Store) (h : List Store) (ls : List Look) : RD :=
 bif fWant o.guard a then gBind (gOp C (atPre base) o.op a σ) (gNextD o ih a h ls) else ih (eput a o.dst undefE) σ (bif o.op.loud then h ++ [σ] else h) ls
noncomputable def fOpsD (C : Caller) (base : Nat) (ops : List EOp) : Env → Store → List Store → List Look → RD :=
 @List.rec EOp (fun _ => Env → Store → List Store → List Look → RD) (fun a σ h ls => some (a, σ, h, ls)) (fun o _ ih => gStepD C base o ih) ops
theorem fOpsD_eq (C : Caller) (base : Nat) : ∀ (l : List EOp) (a : Env) (σ : Store) (h : List Store) (ls : List Look), fOpsD C base l a σ h ls = evOpsD C base l a σ h ls
 | [], _, _, _, _ => rfl
 | o :: os, a, σ, h, ls => by
  show gStepD C base o (fOpsD C base os) a σ h ls = _
  simp only [gStepD, evOpsD, fWant_eq, gOpD_eq, eput_eq]
  cases wanted o a with
  | false => simp only [Bool.false_eq_true, if_false, cond_false]; rw [fOpsD_eq C base os]; cases o.op.loud <;> rfl
  | true =>
   simp only [if_true, cond_true]
   cases evOpD C base o.op a σ with
   | none => rfl
   | some p =>
    obtain ⟨v, σ'⟩ := p
    show fOpsD C base os (eput a o.dst v) σ' (bif o.op.loud then h ++ [σ'] else h) (fLook o.win o.op a v ls) = _
    rw [eput_eq, fOpsD_eq C base os]
    have e1 : fLook o.win o.op a v ls = (match o.win with | some (lo, hi) => if o.op.looks then ⟨o.op, a, v, lo, hi⟩ :: ls else ls | none => ls) := by
     unfold fLook
     cases o.win with
     | none => rfl
     | some q => cases o.op.looks <;> rfl
    rw [e1]
    cases o.op.loud <;> rfl
noncomputable def fRegD (C : Caller) (pre : List (TypeId × List Value)) (ops : List EOp) (a : Env) (σ : Store) : Option (Env × Store) :=
 match fOpsD C σ.size ops a (allocs pre σ) [allocs pre σ] [] with
 | some (a', σ', h, ls) => bif ls.all (stable h) then some (a', σ') else none
 | none => none
theorem fRegD_eq (C : Caller) (pre : List (TypeId × List Value)) (ops : List EOp) (a : Env) (σ : Store) : fRegD C pre ops a σ = evRegD C pre ops a σ := by
 simp only [fRegD, evRegD, fOpsD_eq]
 cases evOpsD C σ.size ops a (allocs pre σ) [allocs pre σ] [] with
 | none => rfl
 | some p => obtain ⟨a', σ', h, ls⟩ := p; simp only; cases ls.all (stable h) <;> rfl
def normR (r : Option (Env × Store)) : Option (Ex × Env × Store) := match r with
 | some (a, σ) => some (.norm, a, σ)
 | none => none
def fSeq (k : Env → Store → Option (Ex × Env × Store)) (r : Option (Ex × Env × Store)) : Option (Ex × Env × Store) := match r with
 | some (.norm, a, σ) => k a σ
 | r => r
def fCond (v : Value) (x y : Env → Store → Option (Ex × Env × Store)) (a : Env) (σ : Store) : Option (Ex × Env × Store) := match v with
 | .bool true => x a σ
 | .bool false => y a σ
 | _ => none
def fBlock (id : Nat) (r : Option (Ex × Env × Store)) : Option (Ex × Env × Store) := match r with
 | some (.exit id', a', σ') => bif Nat.beq id' id then some (.norm, a', σ') else some (.exit id', a', σ')
 | r => r
def fLoop (body : Env → Store → Option (Ex × Env × Store)) : Nat → Env → Store → Option (Ex × Env × Store)
 | 0, _, _ => none
 | n + 1, a, σ => fSeq (fLoop body n) (body a σ)
theorem fLoop_eq (body : Env → Store → Option (Ex × Env × Store)) : ∀ n a σ, fLoop body n a σ = loopN body n a σ
 | 0, _, _ => rfl
 | n + 1, a, σ => by
  simp only [fLoop, loopN, fSeq]
  cases body a σ with
  | none => rfl
  | some p => obtain ⟨e, a', σ'⟩ := p; cases e <;> first | rfl | exact fLoop_eq body n a' σ'
def yPend (a : Env) (σ' : Store) (l : Nat) (tm : T Value) (ps : List Tmp) (as b : EC) (pend : Option EC) : Option (Ex × Env × Store) := match pend with
 | none => some (.norm, a, σ'.set l (.loop tm ps as b .exhausted pend))
 | some (.exit id) => some (.exit id, a, σ'.set l (.loop tm ps as b .exhausted pend))
 | some .ret => some (.ret, a, σ'.set l (.loop tm ps as b .exhausted pend))
 | some _ => none
def yEnd (a : Env) (l : Nat) (r : Option (Value × Store)) : Option (Ex × Env × Store) := match r with
 | some (_, σ') => (match σ'.get l with
  | some (.loop tm ps' as' b' st pend) => if st = .busy then none else yPend a σ' l tm ps' as' b' pend
  | _ => none)
 | none => none
def yRange (C : Caller) (v : Value) (ps : List Tmp) (as b : EC) (a : Env) (σ : Store) : Option (Ex × Env × Store) := match v with
 | .func (.func _) _ _ => yEnd a σ.size (evCallV C v [.func (.yield σ.size) #[] #[]] (σ.alloc (.loop a ps as b .ready none)))
 | _ => none
abbrev RC' := Env → Store → Option (Ex × Env × Store)
noncomputable def fCode (C : Caller) (n : Nat) (c : EC) : RC' :=
 @EC.rec (fun _ => RC') (fun a σ => some (.norm, a, σ)) (fun ops a σ => normR (fOps C ops a σ)) (fun pre ops a σ => normR (fRegD C pre ops a σ)) (fun _ _ ix iy a σ => fSeq iy (ix a σ)) (fun c _ _ ix iy a σ => fCond (eeval a c) ix iy a σ)
  (fun id _ ib a σ => fBlock id (ib a σ)) (fun _ ib => fLoop ib n) (fun f ps as b _ _ a σ => yRange C (eeval a f) ps as b a σ) (fun id a σ => some (.exit id, a, σ)) (fun a σ => some (.ret, a, σ)) (fun _ _ => none) c
theorem fCode_eq (C : Caller) (n : Nat) : ∀ (c : EC) (a : Env) (σ : Store), fCode C n c a σ = evCode C n c a σ := by
 intro c
 induction c with
 | skip => intro a σ; rfl
 | reg ops => intro a σ; show normR (fOps C ops a σ) = _; simp only [evCode, evReg, fOps_eq]; cases evOps C ops a σ <;> rfl
 | regD pre ops => intro a σ; show normR (fRegD C pre ops a σ) = _; simp only [evCode, fRegD_eq]; cases evRegD C pre ops a σ <;> rfl
 | seq x y ihx ihy =>
  intro a σ
  show fSeq (fCode C n y) (fCode C n x a σ) = _
  simp only [evCode, ihx]
  cases evCode C n x a σ with
  | none => rfl
  | some p => obtain ⟨e, a', σ'⟩ := p; cases e <;> first | rfl | exact ihy a' σ'
 | cond c x y ihx ihy =>
  intro a σ
  show fCond (eeval a c) (fCode C n x) (fCode C n y) a σ = _
  simp only [evCode, eeval_eq]
  cases a.eval c <;> first | rfl | (rename_i b; cases b <;> first | exact ihx a σ | exact ihy a σ)
 | block id b ih =>
  intro a σ
  show fBlock id (fCode C n b a σ) = _
  simp only [evCode, ih]
  cases evCode C n b a σ with
  | none => rfl
  | some p =>
   obtain ⟨e, a', σ'⟩ := p
   cases e <;> try rfl
   rename_i id'
   simp only [fBlock]
   by_cases h : id' = id
   ·subst h; rw [if_pos rfl, Nat.beq_refl]; rfl
   ·have : Nat.beq id' id = false := by
     cases e : Nat.beq id' id with
     | false => rfl
     | true => exact absurd (Nat.eq_of_beq_eq_true e) h
    rw [if_neg h, this]; rfl
 | loop b ih =>
  intro a σ
  have : fCode C n b = evCode C n b := by funext a σ; exact ih a σ
  show fLoop (fCode C n b) n a σ = _
  simp only [evCode, fLoop_eq, this]
 | exit id => intro a σ; rfl
 | ret => intro a σ; rfl
 | stuck => intro a σ; rfl
 | rangeF f ps as b _ _ =>
  intro a σ
  show yRange C (eeval a f) ps as b a σ = _
  simp only [evCode, eeval_eq, yRange]
  cases a.eval f with
  | func fn x y =>
   cases fn with
   | func g =>
    simp only [yEnd]
    cases evCallV C (.func (.func g) x y) [.func (.yield σ.size) #[] #[]] (σ.alloc (.loop a ps as b .ready none)) with
    | none => rfl
    | some r =>
     obtain ⟨v, σ'⟩ := r
     simp only
     cases σ'.get σ.size with
     | none => rfl
     | some o =>
      cases o with
      | loop tm ps' as' b' st pend =>
       simp only
       split
       ·rfl
       ·cases pend with
        | none => rfl
        | some q => cases q <;> rfl
      | _ => rfl
   | _ => rfl
  | _ => rfl
noncomputable def genv : List Value → Nat → Env → Env
 | [], _, e => e
 | v :: r, i, e => genv r (Nat.add i 1) (tset e i v)
theorem genv_eq : ∀ (l : List Value) (i : Nat) (e : Env), genv l i e = (l.zipIdx i).foldl (fun e (v, i) => T.set e i v) e
 | [], _, _ => rfl
 | v :: r, i, e => by
  rw [List.zipIdx_cons, List.foldl_cons, genv, tset_eq]
  exact genv_eq r (i + 1) _
noncomputable def gput : List Tmp → List Value → Env → Env
 | t :: ts, v :: vs, e => gput ts vs (tset e t v)
 | _, _, e => e
theorem gput_eq : ∀ (ts : List Tmp) (vs : List Value) (e : Env), gput ts vs e = (ts.zip vs).foldl (fun e (t, v) => T.set e t v) e
 | [], vs, e => by cases vs <;> rfl
 | t :: ts, [], e => rfl
 | t :: ts, v :: vs, e => by
  rw [List.zip_cons_cons, List.foldl_cons, gput, tset_eq]
  exact gput_eq ts vs _
noncomputable def gres1 (c : Option (Option Nat)) (v : Value) (σ : Store) : Option Value := match c with
 | none => some v
 | some n => match v with
  | .pointer (some p) => loadO n p.off (sget σ p.block)
  | _ => none
noncomputable def gres (a : Env) (σ : Store) : List (Tmp × Option (Option Nat)) → Option (List Value)
 | [] => some []
 | (t, c) :: r => match gres1 c (eget a t) σ with
  | some v => (match gres a σ r with
   | some vs => some (v :: vs)
   | none => none)
  | none => none
theorem loadO_eq (n : Option Nat) (p : Addr) (σ : Store) : loadO n p.off (sget σ p.block) = loadE σ n p := by
 rw [sget_eq]
 simp only [loadE, loadO]
 cases σ.get p.block with
 | none => rfl
 | some o => cases o <;> first | rfl | (cases n with
  | none => simp only [loadC, nth_eq]
  | some m => simp only [loadC, cut_eq]; (by_cases hq : p.off + m ≤ ‹List Value›.length) <;> simp only [hq, if_true, if_false, aggO])
theorem gres_eq (a : Env) (σ : Store) : ∀ rs, gres a σ rs = resultsE rs a σ
 | [] => rfl
 | (t, c) :: r => by
  have h1 : gres1 c (eget a t) σ = (match c with
   | none => some (a.get t)
   | some n => match a.get t with
    | .pointer (some p) => loadE σ n p
    | _ => none) := by
   rw [eget_eq]
   cases c with
   | none => rfl
   | some n =>
    simp only [gres1]
    cases a.get t with
    | pointer p => cases p with
     | none => rfl
     | some p => exact loadO_eq n p σ
    | _ => rfl
  have ih := gres_eq a σ r
  unfold resultsE at ih ⊢
  rw [List.mapM_cons, gres, ih]
  simp only [h1]
  cases c with
  | none => simp; cases List.mapM (m := Option) _ r <;> rfl
  | some n =>
   simp only
   cases a.get t with
   | pointer p =>
    cases p with
    | none => rfl
    | some p =>
     simp only
     cases loadE σ n p with
     | none => rfl
     | some v => simp; cases List.mapM (m := Option) _ r <;> rfl
   | _ => rfl
noncomputable def fRes (fn : EFunc) (r : Option (Ex × Env × Store)) : Option (Value × Store) := match r with
 | some (.norm, a, σ') | some (.ret, a, σ') => (resultsE fn.results a σ').map fun vs => (packE vs, σ')
 | _ => none
def yDone (l : Nat) (r : Option (Ex × Env × Store)) : Option (Value × Store) := match r with
 | some (e, _, σ₂) => (match σ₂.get l with
  | some (.loop tmps'' ps'' as'' b'' _ _) => some (.bool (e = .norm), σ₂.set l (.loop tmps'' ps'' as'' b'' (if e = .norm then .ready else .done) (pendEx e)))
  | _ => none)
 | none => none
noncomputable def yBody (C : Caller) (n : Nat) (l : Nat) (b : EC) (r : Option (Ex × Env × Store)) : Option (Value × Store) := match r with
 | some (.norm, a, σ₁) => (match σ₁.get l with
  | some (.loop tmps' ps' as' b' st' pend') => if st' ≠ .ready then none else yDone l (fCode C n b a (σ₁.set l (.loop tmps' ps' as' b' .busy pend')))
  | _ => none)
 | _ => none
noncomputable def yYield (C : Caller) (n : Nat) (l : Nat) (args : List Value) (σ : Store) (o : Option EObj) : Option (Value × Store) := match o with
 | some (.loop tmps ps as b st pend) => if ps.length ≠ args.length then none else yBody C n l b (fCode C n as (gput ps args tmps) σ)
 | _ => none
noncomputable def fStep (F : FuncId → Option EFunc) (C : Caller) (n : Nat) : Caller := fun f args σ =>
 match f with
 | .func f => match F f with
  | none => none
  | some fn => bif Nat.blt fn.ntmps args.length then none else fRes fn (fCode C n fn.body (genv args 0 .leaf) σ)
 | .yield l => yYield C n l args σ (sget σ l)
theorem fStep_eq (F : FuncId → Option EFunc) (C : Caller) (n : Nat) (f : Callee) (args : List Value) (σ : Store) : fStep F C n f args σ = evStep F C n f args σ := by
 cases f with
 | yield l =>
  simp only [fStep, evStep, sget_eq, yYield]
  cases σ.get l with
  | none => rfl
  | some o =>
   cases o with
   | loop tmps ps as b st pend =>
    simp only [yBody, fCode_eq, gput_eq]
    split
    ·rfl
    ·cases evCode C n as ((ps.zip args).foldl (fun e (t, v) => T.set e t v) tmps) σ with
     | none => rfl
     | some r =>
      obtain ⟨e, a, σ₁⟩ := r
      cases e with
      | norm =>
       simp only
       cases σ₁.get l with
       | none => rfl
       | some o =>
        cases o with
        | loop tmps' ps' as' b' st' pend' =>
         simp only [yDone]
         split
         ·rfl
         ·cases evCode C n b a (σ₁.set l (.loop tmps' ps' as' b' .busy pend')) with
          | none => rfl
          | some r =>
           obtain ⟨e, a2, σ₂⟩ := r
           simp only
           cases σ₂.get l with
           | none => rfl
           | some o => cases o <;> rfl
        | _ => rfl
      | _ => rfl
   | _ => rfl
 | func f =>
  simp only [fStep, evStep]
  cases F f with
  | none => rfl
  | some fn =>
   simp only [fCode_eq]
   by_cases h : fn.ntmps < args.length
   ·rw [if_pos h, show Nat.blt fn.ntmps args.length = true from by simpa [Nat.blt_eq] using h]; rfl
   ·rw [if_neg h, show Nat.blt fn.ntmps args.length = false from by
     cases e : Nat.blt fn.ntmps args.length with
     | false => rfl
     | true => exact absurd (by simpa [Nat.blt_eq] using e) h]
    have he : genv args 0 .leaf = envOf args := genv_eq args 0 .leaf
    simp only [cond_false, fRes, gres_eq, he]
    cases evCode C n fn.body (envOf args) σ with
    | none => rfl
    | some p => obtain ⟨e, a', σ'⟩ := p; cases e <;> rfl
noncomputable def fCall (F : FuncId → Option EFunc) : Nat → Caller
 | 0 => fun _ _ _ => none
 | n + 1 => fStep F (fCall F n) n
theorem fCall_eq (F : FuncId → Option EFunc) {H : Caller} (hH : ∀ f args σ, H f args σ = none) : ∀ n, fCall F n = evCall F H n
 | 0 => rfl
 | n + 1 => by
  funext f args σ
  simp only [fCall, evCall, fStep_eq, fCall_eq F hH n, hH]
end Go.Ev.Fast
end EvFast
section EvTab
namespace Go.Ev.Sx
def TAll {α : Type} (p : Nat → α → Prop) : T α → (Nat → Nat) → Prop
 | .leaf, _ => True
 | .node v l r, ix => (∀ a, v = some a → p (ix 0) a) ∧ TAll p l (fun n => ix (2 * n + 1)) ∧ TAll p r (fun n => ix (2 * n + 2))
theorem TAll_get {α : Type} {p : Nat → α → Prop} : ∀ {t : T α} {ix : Nat → Nat} {n : Nat} {a : α}, TAll p t ix → t.get n = some a → p (ix n) a
 | .leaf, _, _, _, _, h => by cases h
 | .node v l r, ix, n, a, ⟨h1, h2, h3⟩, h => by
  simp only [T.get] at h
  split at h
  ·rename_i e; subst e; exact h1 a h
  ·split at h
   ·have := TAll_get h2 h
    rw [show 2 * (n / 2) + 1 = n by omega] at this; exact this
   ·have := TAll_get h3 h
    rw [show 2 * (n / 2 - 1) + 2 = n by omega] at this; exact this
theorem t1 {α : Type} {p : Nat → α → Prop} {i : Nat} {x : α} (h : p i x) : ∀ a, some x = some a → p i a := fun a e => by cases e; exact h
theorem t0 {α : Type} {p : Nat → α → Prop} {i : Nat} : ∀ a, (none : Option α) = some a → p i a := fun a e => by cases e
theorem TAll.n1 {α : Type} {p : Nat → α → Prop} {i : Nat} {x : α} {l r : T α} {ix : Nat → Nat} (e : Nat.beq (ix 0) i = true) (h : p i x) (hl : TAll p l (fun n => ix (2 * n + 1))) (hr : TAll p r (fun n => ix (2 * n + 2))) : TAll p (.node (some x) l r) ix := by
 refine ⟨t1 ?_, hl, hr⟩
 rw [Nat.eq_of_beq_eq_true e]; exact h
theorem TAll.n0 {α : Type} {p : Nat → α → Prop} {l r : T α} {ix : Nat → Nat} (hl : TAll p l (fun n => ix (2 * n + 1))) (hr : TAll p r (fun n => ix (2 * n + 2))) : TAll p (.node none l r) ix := ⟨t0, hl, hr⟩
theorem TAll.lf {α : Type} {p : Nat → α → Prop} {ix : Nat → Nat} : TAll p .leaf ix := trivial
noncomputable def tabF (t : T EFunc) : FuncId → Option EFunc := fun f => Fast.tget t f
theorem tabF_FOK {P : Program} {t : T EFunc} (h : TAll (fun i fn => compFunc P i = some fn) t id) : Ev.FOK P (tabF t) := fun f ef hf => by
 unfold tabF at hf
 rw [Fast.tget_eq] at hf
 exact TAll_get h hf
def isPk (aw : FuncId) (cl : List Clo) (f : FuncId) : Bool := Nat.beq f aw || cl.any fun c => Nat.beq f c.pg
theorem isPk_no {aw : FuncId} {cl : List Clo} {f : FuncId} (h : isPk aw cl f = false) : f ≠ aw ∧ ∀ c ∈ cl, f ≠ c.pg := by
 simp only [isPk, Bool.or_eq_false_iff, List.any_eq_false] at h
 refine ⟨fun e => ?_, fun c hc e => ?_⟩
 ·subst e; rw [Nat.beq_refl] at h; cases h.1
 ·have := h.2 c hc
  subst e; rw [Nat.beq_refl] at this; exact this rfl
noncomputable def mkHx (F : FuncId → Option EFunc) (aw : FuncId) (cl : List Clo) (kd : List (Nat × HK)) (nx : Nat) (c : Clo) : HX :=
 ⟨fun f => bif isPk aw cl f then none else F f, fun f => match hget f kd with
  | some k => k
  | none => .code, c.pg, c.pargs, c.rs, nx⟩
def mkWk (wk : List (Nat × WK)) (f : FuncId) : WK := match hget f wk with
 | some k => k
 | none => .code
theorem hget_mem {α : Type} {x : Nat} {a : α} : ∀ {l : List (Nat × α)}, hget x l = some a → (x, a) ∈ l
 | [], h => by cases h
 | (y, b) :: r, h => by
  simp only [hget] at h
  split at h
  ·rename_i e; subst e; cases h; simp
  ·exact List.mem_cons_of_mem _ (hget_mem h)
def KdOK (F : FuncId → Option EFunc) (ti : TypeId) (f : FuncId) : HK → Prop
 | .int => F f = some (putIntFn ti)
 | .bool => F f = some (putBoolFn ti)
 | .puts e s => F f = some (putsFn ti e s)
 | .code => True
def WkOK (F : FuncId → Option EFunc) (f : FuncId) : WK → Prop
 | .int => F f = some wipeIntFn
 | .wipes e => F f = some (wipesFn e)
 | .code => True
def plainOK (cl : List Clo) (aw : FuncId) (kd : List (Nat × HK)) (wk : List (Nat × WK)) (kt : List KT) : Bool :=
 KT.noStr (KT.ofL kt) && decide (kt.length ≤ 2048) && cl.all (fun c => c.pargs.all fun p => p.2.all (fun i => decide (i < kt.length)) && (p.1 || p.2.length == 1)) && cl.all (fun c => c.pg != aw) && cl.all (fun c => decide (c.ks.length ≤ 2048)) &&
  kd.all (fun p => !(isPk aw cl p.1)) && wk.all (fun p => !(isPk aw cl p.1))
theorem mk_facts {P : Program} {F : FuncId → Option EFunc} {t : HT} {cl : List Clo} {aw : FuncId} {kd : List (Nat × HK)} {wk : List (Nat × WK)} {kt : List KT} (hp : plainOK cl aw kd wk kt = true) (hone : ∀ c ∈ cl, ∀ c' ∈ cl, c.pg = c'.pg → c = c')
  (hkd : ∀ p ∈ kd, KdOK F t.int p.1 p.2) (hwk : ∀ p ∈ wk, WkOK F p.1 p.2) (hok : ∀ c ∈ cl, cloOK (mkHx F aw cl kd kt.length) (mkWk wk) kt.length c = true) : Facts P F t cl aw (mkHx F aw cl kd kt.length) (mkWk wk) kt.length kt := by
 simp only [plainOK, Bool.and_eq_true, decide_eq_true_eq, List.all_eq_true, Bool.or_eq_true, beq_iff_eq, bne_iff_ne, Bool.not_eq_true'] at hp
 obtain ⟨⟨⟨⟨⟨⟨p1, p2⟩, p3⟩, p4⟩, p5⟩, p6⟩, p7⟩ := hp
 have hk : ∀ f k, (match hget f kd with | some k => k | none => HK.code) = k → k ≠ .code → KdOK F t.int f k ∧ isPk aw cl f = false := by
  intro f k h hn
  cases hg : hget f kd with
  | none => rw [hg] at h; exact absurd h.symm hn
  | some k' =>
   rw [hg] at h
   simp only at h; subst h
   have := hget_mem hg
   exact ⟨hkd _ this, p6 _ this⟩
 have hw : ∀ f k, mkWk wk f = k → k ≠ .code → WkOK F f k ∧ isPk aw cl f = false := by
  intro f k h hn
  unfold mkWk at h
  cases hg : hget f wk with
  | none => rw [hg] at h; exact absurd h.symm hn
  | some k' =>
   rw [hg] at h
   simp only at h; subst h
   have := hget_mem hg
   exact ⟨hwk _ this, p7 _ this⟩
 refine ⟨rfl, p1, p2, fun c _ => ⟨rfl, rfl, rfl, rfl⟩, ?_, ?_, ?_, ?_, ?_, ?_, ?_, hok, hone, p4, p5⟩
 ·intro c _ f fn hf
  have hf' : (bif isPk aw cl f then none else F f) = some fn := hf
  cases hb : isPk aw cl f with
  | true => rw [hb] at hf'; cases hf'
  | false => rw [hb] at hf'; exact ⟨hf', isPk_no hb⟩
 ·intro c _ f hf
  obtain ⟨a, b⟩ := hk f .int hf (by simp)
  exact ⟨a, isPk_no b⟩
 ·intro c _ f hf
  obtain ⟨a, b⟩ := hk f .bool hf (by simp)
  exact ⟨a, isPk_no b⟩
 ·intro c _ f e s hf
  obtain ⟨a, b⟩ := hk f (.puts e s) hf (by simp)
  exact ⟨a, isPk_no b⟩
 ·intro f hf
  obtain ⟨a, b⟩ := hw f .int hf (by simp)
  exact ⟨a, isPk_no b⟩
 ·intro f e hf
  obtain ⟨a, b⟩ := hw f (.wipes e) hf (by simp)
  exact ⟨a, isPk_no b⟩
 ·intro c hc p hp
  refine ⟨fun i hi => (p3 c hc p hp).1 i hi, fun h => ?_⟩
  rcases (p3 c hc p hp).2 with h1 | h1
  ·rw [h] at h1; cases h1
  ·exact h1
noncomputable def awakeB (t : T EFunc) (n : Nat) (aw : FuncId) : Bool := match Fast.fCall (tabF t) n (.func aw) [] Store.empty with
 | some (.bool true, _) => true
 | _ => false
theorem awake_canon {P : Program} {t : T EFunc} (hF : Ev.FOK P (tabF t)) (hmix : P.follows .mixedOrders = true) {aw : FuncId} {n : Nat} (h : awakeB t n aw = true) (σ0 : Store) : ∃ r, Canon P σ0 aw [] r ∧ r.1 = .bool true := by
 unfold awakeB at h
 rw [Fast.fCall_eq (tabF t) (H := fun _ _ _ => none) (fun _ _ _ => rfl) n] at h
 split at h
 ·rename_i τ hr
  have hC := evCall_COK hF hmix (H := fun _ _ _ => none) COK.none n
  have h0 := RoAll_none
  let K : FuncId → List Value → Option (Value × Store) := fun f args => if f = aw ∧ args.length = 0 then some (.bool true, τ) else none
  have hK : ∀ g args r, K g args = some r → ∃ C, COK P C ∧ C (.func g) args Store.empty = some r := by
   intro g args r hk
   simp only [K] at hk
   split at hk
   ·rename_i e
    obtain ⟨rfl, e2⟩ := e
    cases hk
    have : args = [] := List.length_eq_zero_iff.1 e2
    subst this
    exact ⟨_, hC, hr⟩
   ·cases hk
  refine ⟨_, ⟨hook Store.empty K, hook_COK h0 hK, hook_eq (K := K) (τ := τ) (v := .bool true) ⟨Nat.zero_le _, fun l hl => absurd hl (Nat.not_lt_zero l)⟩ (fun a h => by cases h) (by simp [K]) (v' := .bool true) rfl⟩, rfl⟩
 ·cases h
end Go.Ev.Sx
end EvTab
