/- The evaluator, the symbolic evaluator and their soundness, part 4 of 6: for every program and every world. -/
import Derived.Test.YtijiddndddjleaaA3
set_option linter.all false
set_option linter.unusedVariables false
set_option linter.unusedSimpArgs false
section SxS
noncomputable section
namespace Go.Ev.Sx
variable {V V':Val} {U U':Nat→Prop} {S S':SS} {σ σ':Store} {a:Env}
def Stp (op:I) (a:Env) (V:Val) (U:Nat→Prop) (S:SS) (σ:Store) (sv:SV) (S1:SS):Prop:=
 ∃v σ' V' U',evI op a σ=some (v,σ')∧G V' U' S1 σ'∧Kp V U S σ V' U' S1 σ'∧S1.env=S.env∧SVR V' U' σ' sv v
theorem Stp.of (g:G V U S σ) {op:I} {sv:SV} {S1:SS} {v:Value} (h:More V U S σ S1 fun V'=>SVR V' U σ sv v) (he:evI op a σ=some (v,σ)):Stp op a V U S σ sv S1:=by
 obtain⟨V',g',k',e',_,_,p'⟩:=h;exact⟨v,σ,V',U,he,g',k',e',p'⟩
theorem Stp.same (g:G V U S σ) {op:I} {sv:SV} {v:Value} (h:SVR V U σ sv v) (he:evI op a σ=some (v,σ)):Stp op a V U S σ sv S:= .of g (.refl g h) he
theorem one_ok {c:C} {v:Value} (h:CR V U σ c v):SVR V U σ (one c) v:=⟨c,rfl,h⟩
theorem More.one {S1:SS} {c:C} {v:Value} (h:More V U S σ S1 fun V'=>CR V' U σ c v):More V U S σ S1 fun V'=>SVR V' U σ (one c) v:=h.imp fun _ _ h=>one_ok h
theorem alloc_cells (g:G V U S σ) {e:TypeId} {cs:List C} {vs:List Value} (h:F2 (CR V U σ) cs vs):
  ∃V',G V' U (newBlock S (.cells e cs)).2 (σ.alloc (.cells .rw e vs))∧Kp V U S σ V' U (newBlock S (.cells e cs)).2 (σ.alloc (.cells .rw e vs))∧V'.α S.nb=some (some (σ.size,0))∧Sta V U σ V' U (σ.alloc (.cells .rw e vs)):=by
 have le:=Val.le_sα (p:=some (σ.size,0)) (g.fb S.nb (Nat.le_refl _)).1
 have s:Sta V U σ (V.sα S.nb (some (σ.size,0))) U (σ.alloc (.cells .rw e vs)):=⟨le,fun _ h=>h,fun l hu=>by have:=g.uin l hu;rw[Store.get_alloc,if_neg (by omega)]⟩
 obtain⟨g1,k1⟩:=g.alloc (V':=V.sα S.nb (some (σ.size,0))) (he:= .cells e cs) (o:= .cells .rw e vs) le rfl rfl rfl (fun x hx=>(g.fb x (by omega)).2)
  ⟨σ.size,vs,setF_at _ _ _,by rw[Store.get_alloc,if_pos rfl],h.imp (CR_sta s)⟩
 exact⟨_,g1,k1,setF_at _ _ _,s⟩
theorem newSl (g:G V U S σ) {b:Nat} {off len:L} {e:Nat} {cp:Cap} {p:Option Addr} {n cap o:Nat} (hl:len.ev V.ρ=some (n:Int)) (ho:off.ev V.ρ=some (o:Int)) (hs:SlR V b e o cp p n cap):
  More V U S σ {S with nk:=S.nk+1} fun V'=>CR V' U σ (.sl S.nk b off len e cp) (.slice p n cap):=by
 obtain⟨a,b',c⟩:=g.newK (.slice p n cap);exact⟨_,a,b',rfl,rfl,Nat.le_refl _,p,n,cap,o,c,rfl,hl,ho,SlR_mono b'.le hs⟩
theorem optInt_ok (he:GE V U σ S.env a) {x:Option Operand} {d l:L} (h:optInt S x d=some l) {dn:Int} (hd:d.ev V.ρ=some dn):∃n,l.ev V.ρ=some n∧(x=none∧n=dn∨∃y k,x=some y∧a.eval y= .int k n):=by
 cases x with
 |none=>simp only[optInt,Option.some.injEq] at h;subst h;exact⟨dn,hd, .inl ⟨rfl,rfl⟩⟩
 |some y=>
  simp only[optInt] at h;cases hi:S.int y with
  |none=>rw[hi] at h;cases h
  |some q=>
   obtain⟨k,l'⟩:=q;rw[hi] at h;simp only[Option.map_some,Option.some.injEq] at h;subst h;obtain⟨n,h1,h2⟩:=int_ok he hi;exact⟨n,h1, .inr ⟨y,k,rfl,h2⟩⟩
theorem bound_ok {x:Option Operand} {n dn:Int} {y d:Nat} (h:x=none∧n=dn∨∃z k,x=some z∧a.eval z= .int k n) (hd:dn=d) (h0:0≤n) (h1:n≤y):bound (x.map a.eval) y d=some n.toNat:=by
 rcases h with⟨rfl,rfl⟩| ⟨z,k,rfl,hz⟩
 ·simp only[Option.map_none,bound];congr 1;omega
 ·simp only[Option.map_some,bound,hz];rw[if_pos ⟨h0,h1⟩]
theorem elemAt_ok (g:G V U S σ) {b:Nat} {e:TypeId} (h:elemIs S b e=true) {esz o:Nat} {p:Option Addr} (hp:At V b esz o p):elemAt σ p=some e:=by
 obtain⟨blk,of,ha,rfl⟩:=hp;simp only[elemAt];unfold elemIs at h;split at h
 ·rename_i gr e' z pat n hh
  have:=beqN h;subst this
  obtain⟨N,_,_,h2⟩:=g.heap b _ hh;rcases h2 with⟨_,h2,_⟩| ⟨blk',vs,h2,h3,_⟩
  ·rw[ha] at h2;cases h2
  ·rw[ha] at h2;cases h2;simp only[h3]
 ·split at h
  ·rename_i w hw
   have:=beqN h;subst this
   obtain⟨N,_,_,h2⟩:=g.view hw;rcases h2 with⟨h2,_⟩| ⟨blk',o',st,vs,h2,_,h3,_⟩
   ·rw[ha] at h2;cases h2
   ·rw[ha] at h2;cases h2;simp only[h3]
  ·cases h
theorem addr_add' (blk o k:Nat):(⟨blk,o,none⟩:Addr).add k=⟨blk,o+k,none⟩:=by unfold Addr.add;split<;>simp_all
theorem slcS_ok (g:G V U S σ) (he:GE V U σ S.env a) {e esz:Nat} {x:Operand} {lo hi mx:Option Operand} {sv:SV} {S1:SS} (h:sxI (.slcS e esz x lo hi mx) S=some (sv,S1)):Stp (.slcS e esz x lo hi mx) a V U S σ sv S1:=by
 simp only[sxI] at h;split at h
 ·rename_i k b off len esz' cp hx
  obtain⟨p,n,cap,o,w1,hxv,w2,w3,w4⟩:=cell_ok he hx;split at h
  ·rename_i la lh h1 h2
   cases hb:(Nat.beq esz esz'&&S.ent off&&S.ent la&&S.ent (lh.sub la)&&S.ent (len.sub lh)) with
   |false=>rw[hb] at h;cases h
   |true=>
    rw[hb] at h;simp only[cond_true] at h;simp only[Bool.and_eq_true] at hb;obtain⟨⟨⟨⟨b1,b2⟩,b3⟩,b4⟩,b5⟩:=hb;have r1:=beqN b1;subst r1;obtain⟨A,hA,hA'⟩:=optInt_ok he h1 (L.ev_num 0);obtain⟨Hh,hH,hH'⟩:=optInt_ok he h2 w2;have q1:=g.ent b3 hA;have q2:=g.ent b4 (L.ev_sub hH hA);have q3:=g.ent b5 (L.ev_sub w2 hH);obtain⟨A,rfl⟩:∃A':Nat,A=A':=⟨A.toNat,by omega⟩
    obtain⟨Hh,rfl⟩:∃A':Nat,Hh=A':=⟨Hh.toNat,by omega⟩
    have hlen:(lh.sub la).ev V.ρ=some (((Hh - A:Nat)):Int):=by rw[L.ev_sub hH hA];congr 1;omega
    have hoff:(off.add la).ev V.ρ=some (((o+A:Nat)):Int):=by rw[L.ev_add w3 hA];simp
    have bA:∀y:Nat,A≤y→bound (lo.map a.eval) y 0=some A:=fun y hy=>by have:=bound_ok (y:=y) (d:=0) hA' rfl (by omega) (by omega);simpa using this
    have bH:∀y:Nat,Hh≤y→bound (hi.map a.eval) y n=some Hh:=fun y hy=>by have:=bound_ok (y:=y) (d:=n) hH' rfl (by omega) (by omega);simpa using this
    have sh:∀{q:Option Addr},At V b esz o q→At V b esz (o+A) (q.map (·.add (A*esz))):=by
     rintro q ⟨blk,of,ha,rfl⟩
     exact⟨blk,of,ha,by simp[addr_add',Nat.add_mul,Nat.add_assoc]⟩
    have sat:∀{q:Option Addr},Sat V b esz o q→Sat V b esz (o+A) (q.map (·.add (A*esz)))∧Sat V b esz (o+A) q:=by
     intro q hq;rcases hq with rfl| ⟨o',ho',blk,of,ha,rfl⟩
     ·exact⟨.inl rfl, .inl rfl⟩
     ·exact⟨.inr ⟨o'+A,by omega,blk,of,ha,by simp[addr_add',Nat.add_mul,Nat.add_assoc]⟩, .inr ⟨o',by omega,blk,of,ha,rfl⟩⟩
    have inf0:∀{V:Val},SlR V b esz o .inf p n cap→(cap=0∧p=none∧n=0∧V.α b=some none∧o=0)∨(At V b esz o p∧cap=INF∧n≤INF):=by
     intro V hh;rcases hh with⟨z1,z2,z3,z4,z5⟩|hh
     ·exact .inl ⟨z4,z2,z3,z1,z5⟩
     ·exact .inr hh
    cases mx with
    |none=>
     simp only at h;have hev:evI (.slcS e esz x lo hi none) a σ=if cap=INF∧elemAt σ p≠some e then none else(sliceE esz p n cap (lo.map a.eval) (hi.map a.eval) none).map (·,σ):=by simp only[evI,hxv,Option.map_none]
     cases cp with
     |inf=>
      simp only at h;cases hel:elemIs S b e with
      |false=>rw[hel] at h;cases h
      |true=>
       rw[hel] at h;simp only[cond_true,Option.some.injEq,Prod.mk.injEq] at h;obtain⟨rfl,rfl⟩:=h;rcases inf0 w4 with⟨rfl,rfl,rfl,z1,rfl⟩| ⟨z1,rfl,z3⟩
       ·have hA0:A=0:=by omega
        have hH0:Hh=0:=by omega
        subst hA0;subst hH0;refine .of g (newSl (b:=b) (e:=esz) (cp:= .inf) (p:=none) (n:=0) (cap:=0) g hlen hoff (.inl ⟨z1,rfl,rfl,rfl,rfl⟩)).one ?_
        rw[hev,if_neg (by unfold INF;simp)]
        unfold sliceE;simp only
        rw[if_neg (by unfold INF;simp),bH 0 (Nat.le_refl _)]
        simp only[bA 0 (Nat.le_refl _)];rw[if_neg (by unfold INF;simp)];rfl
       ·refine .of g (newSl (b:=b) (e:=esz) (cp:= .inf) g hlen hoff (.inr ⟨sh z1,rfl,by omega⟩)).one ?_
        rw[hev,if_neg (fun hh=>hh.2 (elemAt_ok g hel z1))]
        unfold sliceE;simp only[if_true];rw[bH n (by omega)]
        simp only[bA Hh (by omega)];rfl
     |unk=>
      simp only at h;cases hel:elemIs S b e with
      |false=>rw[hel] at h;cases h
      |true=>
       rw[hel] at h;simp only[cond_true,Option.some.injEq,Prod.mk.injEq] at h;obtain⟨rfl,rfl⟩:=h;obtain⟨z1,z2,z3⟩:=w4;have hne:¬(cap=INF∧elemAt σ p≠some e):=fun hh=>hh.2 (elemAt_ok g hel (z2 (.inr hh.1)))
       by_cases hcap:cap=INF
       ·subst hcap
        refine .of g (newSl (b:=b) (e:=esz) (cp:= .unk) (cap:=INF) g hlen hoff ⟨⟨by omega,Nat.le_refl _⟩,fun _=>sh (z2 (.inr rfl)),(sat z3).1⟩).one ?_
        rw[hev,if_neg hne];unfold sliceE;simp only[if_true];rw[bH n (by omega)]
        simp only[bA Hh (by omega)];rfl
       ·refine .of g (newSl (b:=b) (e:=esz) (cp:= .unk) (p:=if cap=A then p else p.map (·.add (A*esz))) (cap:=cap - A) g hlen hoff ⟨⟨by omega,by omega⟩,fun hh=> ?_, ?_⟩).one ?_
        ·rcases hh with hh|hh
         ·rw[if_neg (by omega)];exact sh (z2 (.inl (by omega)))
         ·omega
        ·split
         ·exact(sat z3).2
         ·exact(sat z3).1
        ·rw[hev,if_neg hne]
         unfold sliceE;simp only[if_neg hcap];rw[bH cap (by omega)]
         simp only[bA Hh (by omega)];rfl
     |full=>
      simp only[Option.some.injEq,Prod.mk.injEq] at h;obtain⟨rfl,rfl⟩:=h;obtain⟨rfl,z2,z3,z4⟩:=w4;have hcap:¬cap=INF:=by omega
      refine .of g (newSl (b:=b) (e:=esz) (cp:= .any) (p:=if cap=A then p else p.map (·.add (A*esz))) (cap:=cap - A) g hlen hoff ⟨by omega,by omega,fun hh=> ?_, ?_⟩).one ?_
      ·rw[if_neg (by omega)];exact sh (z3 (by omega))
      ·split
       ·exact(sat z4).2
       ·exact(sat z4).1
      ·rw[hev,if_neg (fun hh=>hcap hh.1)]
       unfold sliceE;simp only[if_neg hcap];rw[bH cap (by omega)]
       simp only[bA Hh (by omega)];rfl
     |any=>
      simp only[Option.some.injEq,Prod.mk.injEq] at h;obtain⟨rfl,rfl⟩:=h;obtain⟨hcap',z2,z3,z4⟩:=w4;have hcap:¬cap=INF:=by omega
      refine .of g (newSl (b:=b) (e:=esz) (cp:= .any) (p:=if cap=A then p else p.map (·.add (A*esz))) (cap:=cap - A) g hlen hoff ⟨?_,by omega,fun hh=> ?_, ?_⟩).one ?_
      ·omega
      ·rw[if_neg (by omega)];exact sh (z3 (by omega))
      ·split
       ·exact(sat z4).2
       ·exact(sat z4).1
      ·rw[hev,if_neg (fun hh=>hcap hh.1)]
       unfold sliceE;simp only[if_neg hcap];rw[bH cap (by omega)]
       simp only[bA Hh (by omega)];rfl
    |some m=>
     simp only at h;split at h
     ·rename_i km ml hy hmi
      cases hb2:(ml.beq lh&&(match cp with
           | .inf| .unk=>elemIs S b e&&la.z
           |_=>true)&&S.ent ((L.num (2^61)).sub lh)) with
      |false=>exfalso;cases cp<;>simp only at hb2 h<;>rw[hb2] at h<;>cases h
      |true=>
       have h':some (one (.sl S.nk b (off.add la) (lh.sub la) esz .full),{S with nk:=S.nk+1})=some (sv,S1):=by
        simp only[Bool.and_eq_true] at hb2;obtain⟨⟨u1,u2⟩,u3⟩:=hb2;cases cp<;>simp only at u2 h<;>simp only[u1,u2,u3,Bool.and_self,cond_true,Bool.true_and,Bool.and_true] at h<;>exact h
       simp only[Option.some.injEq,Prod.mk.injEq] at h';obtain⟨rfl,rfl⟩:=h';simp only[Bool.and_eq_true] at hb2;obtain⟨⟨u1,u2⟩,u3⟩:=hb2;have:=L.beq_eq u1
       subst this;obtain⟨mv,hmv,hme⟩:=int_ok he hmi;rw[hH] at hmv;have hmv':mv=Hh:=(Option.some.inj hmv).symm
       subst hmv';have hsmall:=g.ent u3 (L.ev_sub (L.ev_num _) hH);have hI:Hh<INF:=by unfold INF;omega
       have bM:∀y:Nat,Hh≤y→bound ((some m).map a.eval) y 0=some Hh:=fun y hy=>by
        simp only[Option.map_some,bound,hme];rw[if_pos ⟨by omega,by omega⟩];simp
       have bH0:bound ((some hy).map a.eval) Hh 0=some Hh:=by
        rcases hH' with⟨hc,_⟩| ⟨z,kz,hz1,hz2⟩
        ·cases hc
        ·cases hz1
         simp only[Option.map_some,bound,hz2];rw[if_pos ⟨by omega,by omega⟩];simp
       have hev:evI (.slcS e esz x lo (some hy) (some m)) a σ=if cap=INF∧elemAt σ p≠some e then none else(sliceE esz p n cap (lo.map a.eval) ((some hy).map a.eval) ((some m).map a.eval)).map (·,σ):=by simp only[evI,hxv]
       have res:∀{q:Option Addr},(Hh - A≠0→At V b esz (o+A) q)→Sat V b esz (o+A) q→evI (.slcS e esz x lo (some hy) (some m)) a σ=some (.slice q (Hh - A) (Hh - A),σ)→Stp (.slcS e esz x lo (some hy) (some m)) a V U S σ (one (.sl S.nk b (off.add la) (ml.sub la) esz .full)) {S with nk:=S.nk+1}:=by
        intro q z1 z2 z3;exact .of g (newSl (b:=b) (e:=esz) (cp:= .full) g hlen hoff ⟨rfl,by omega,z1,z2⟩).one z3
       have plain:cap≠INF→n≤cap→(n≠0→At V b esz o p)→Sat V b esz o p→Stp (.slcS e esz x lo (some hy) (some m)) a V U S σ (one (.sl S.nk b (off.add la) (ml.sub la) esz .full)) {S with nk:=S.nk+1}:=by
        intro hcap hnc z1 z2;refine res (q:=if Hh=A then p else p.map (·.add (A*esz))) (fun hh=> ?_) ?_ ?_
        ·rw[if_neg (by omega)];exact sh (z1 (by omega))
        ·split
         ·exact(sat z2).2
         ·exact(sat z2).1
        ·rw[hev,if_neg (fun hh=>hcap hh.1)]
         unfold sliceE;simp only[Option.map_some] at bM bH0 ⊢;simp only[if_neg hcap];rw[bM cap (by omega)]
         simp only
         rw[if_neg (by omega),bH0]
         simp only[bA Hh (by omega)];rfl
       have infl:A=0→At V b esz o p→cap=INF→elemAt σ p=some e→Stp (.slcS e esz x lo (some hy) (some m)) a V U S σ (one (.sl S.nk b (off.add la) (ml.sub la) esz .full)) {S with nk:=S.nk+1}:=by
        intro hA0 z1 hcap hel;subst hcap;refine res (q:=p.map (·.add (A*esz))) (fun _=>sh z1) (.inr ⟨o+A,Nat.le_refl _,sh z1⟩) ?_
        rw[hev,if_neg (fun hh=>hh.2 hel)]
        unfold sliceE;simp only[Option.map_some] at bM bH0 ⊢;simp only[if_true];rw[bM n (by omega)]
        simp only
        rw[if_neg (by omega),bH0]
        simp only[bA Hh (by omega)]
        rw[if_pos (.inl hA0)];rfl
       have hz0:(elemIs S b e&&la.z)=true→elemIs S b e=true∧A=0:=by
        intro hh;rw[Bool.and_eq_true] at hh;have:=L.z_ev (ρ:=V.ρ) hh.2
        rw[hA] at this;exact⟨hh.1,by have:=Option.some.inj this;omega⟩
       cases cp with
       |inf=>
        obtain⟨v1,v2⟩:=hz0 u2;rcases inf0 w4 with⟨rfl,rfl,rfl,z1,rfl⟩| ⟨z1,z2,z3⟩
        ·exact plain (by unfold INF;simp) (Nat.le_refl _) (fun h=>absurd rfl h) (.inl rfl)
        ·exact infl v2 z1 z2 (elemAt_ok g v1 z1)
       |unk=>
        obtain⟨v1,v2⟩:=hz0 u2;obtain⟨z1,z2,z3⟩:=w4;by_cases hcap:cap=INF
        ·exact infl v2 (z2 (.inr hcap)) hcap (elemAt_ok g v1 (z2 (.inr hcap)))
        ·exact plain hcap (by omega) (fun h=>z2 (.inl h)) z3
       |full=>
        obtain⟨z1,z2,z3,z4⟩:=w4;exact plain (by omega) (by omega) z3 z4
       |any=>
        obtain⟨z1,z2,z3,z4⟩:=w4;exact plain (by omega) z2 z3 z4
     ·cases h
  ·cases h
 ·rename_i hx
  have hxv:=cell_ok he hx;split at h
  ·rename_i la lh lm h1 h2 h3
   cases hb:(la.beq (.num 0)&&lh.beq (.num 0)&&lm.beq (.num 0)&&(mx.isNone||hi.isSome)) with
   |false=>rw[hb] at h;cases h
   |true=>
    rw[hb] at h;simp only[cond_true,Option.some.injEq,Prod.mk.injEq] at h;obtain⟨rfl,rfl⟩:=h;simp only[Bool.and_eq_true] at hb;obtain⟨⟨⟨b1,b2⟩,b3⟩,b4⟩:=hb;have e1:=L.beq_eq b1;have e2:=L.beq_eq b2;have e3:=L.beq_eq b3;subst e1;subst e2;subst e3;obtain⟨A,hA,hA'⟩:=optInt_ok (V:=V) (U:=U) (σ:=σ) he h1 (L.ev_num 0)
    obtain⟨B,hB,hB'⟩:=optInt_ok (V:=V) (U:=U) (σ:=σ) he h2 (L.ev_num 0)
    obtain⟨M,hM,hM'⟩:=optInt_ok (V:=V) (U:=U) (σ:=σ) he h3 (L.ev_num 0)
    rw[L.ev_num] at hA hB hM;have a0:A=0:=(Option.some.inj hA).symm
    have b0:B=0:=(Option.some.inj hB).symm
    have m0:M=0:=(Option.some.inj hM).symm
    subst a0;subst b0;subst m0;have f1:=bound_ok (y:=0) (d:=0) hA' rfl (by omega) (by omega)
    have f2:=bound_ok (y:=0) (d:=0) hB' rfl (by omega) (by omega)
    have f3:=bound_ok (y:=0) (d:=0) hM' rfl (by omega) (by omega)
    refine .same g (one_ok (c:= .nilsl) hxv) ?_
    have hI:(0:Nat)≠INF:=by unfold INF;simp
    have hI2:¬INF≤0:=by unfold INF;simp
    rw[show a.eval x= .slice none 0 0 from hxv]
    simp only[evI,show a.eval x= .slice none 0 0 from hxv]
    rw[if_neg (fun hh=>hI hh.1)]
    unfold sliceE;simp only[Int.toNat_zero] at f1 f2 f3;cases mx with
    |none=>simp only[Option.map_none,if_neg hI,f2,f1];simp
    |some m=>
     cases hi with
     |none=>cases b4
     |some hh=>
      simp only[Option.map_some] at f2 f3 ⊢;simp only[if_neg hI,f3,f2,f1,if_neg hI2];simp
  ·cases h
 ·cases h
end Go.Ev.Sx
end
end SxS
section SxS2
noncomputable section
namespace Go.Ev.Sx
variable {V V':Val} {U U':Nat→Prop} {S S':SS} {σ σ':Store} {a:Env}
theorem w_ok (he:GE V U σ S.env a) {x:Operand} {g:Bool} {cs:List C} (h:S.val x=some (.w g cs)):WR V U σ (g,cs) (a.eval x):=val_ok he h
theorem agg_ok (he:GE V U σ S.env a) {x:Operand} {cs:List C} (h:S.val x=some (.w true cs)):∃vs,a.eval x= .agg vs.toArray∧F2 (CR V U σ) cs vs:=val_ok he h
theorem zero_ok {z:List Value} {zc:List C} {g:Bool} (hz:constCs z=some zc) (hl:(g||Nat.beq zc.length 1)=true):WR V U σ (g,zc) (zeroOf z g):=by
 have h:=constCs_ok (V:=V) (U:=U) (σ:=σ) hz
 cases g with
 |true=>exact⟨z,rfl,h⟩
 |false=>
  simp only[Bool.false_or] at hl;have hl':=beqN hl;have:=h.len
  match zc,z,h,hl' with
  | [c],[v],h,_=>exact⟨c,rfl,h.1⟩
theorem width_ofList :∀(ts:List Ty),(Ty.ofList ts).width=ts.length
 | []=>rfl
 |t::ts=>by simp[Ty.ofList,Ty.width,width_ofList ts]
theorem width_list :∀{t:Ty} {ts:List Ty},t.list=some ts→t.width=ts.length:=by
 intro t;induction t with
 |nil=>intro ts h;simp only[Ty.list,Option.some.injEq] at h;subst h;rfl
 |cons a b _ ihb=>
  intro ts h;simp only[Ty.list] at h;cases hsc:a.sc with
  |false=>rw[hsc] at h;cases h
  |true=>
   rw[hsc] at h;simp only[cond_true] at h;cases hb:b.list with
   |none=>rw[hb] at h;cases h
   |some us=>rw[hb] at h;simp only[Option.map_some,Option.some.injEq] at h;subst h;simp[Ty.width,ihb hb]
 |_=>intro ts h;cases h
theorem ent_val {g:Bool} {vt:Ty} {ts:List Ty} (hl:vt.list=some ts) {e:MapEntry} (h:EntR V U σ g vt e):∃vs,PT V U σ ts vs∧ts.length=vs.length∧(if g then e.val= .agg vs.toArray else vs= [e.val]):=by
 cases g with
 |true=>obtain⟨vs,h1,h2,h3⟩:=h;exact⟨vs,(VT_list hl _).1 h2,by rw[h3,width_list hl],h1⟩
 |false=>exact⟨[e.val],(VT_list hl _).1 h.1,by rw[←width_list hl,h.2];rfl,rfl⟩
theorem hasTys_len :∀{cs:List C} {ts:List Ty},hasTys S cs ts=true→cs.length=ts.length
 | [],[],_=>rfl
 | [],_::_,h=>by cases h
 |_::_,[],h=>by cases h
 |c::cs,t::ts,h=>by simp only[hasTys,Bool.and_eq_true] at h;simp[hasTys_len h.2]
theorem ent_mk (g:G V U S σ) {gg:Bool} {ts:List Ty} {cs:List C} (h:hasTys S cs ts=true) {v:Value} (hv:WR V U σ (gg,cs) v) (k:Value) (c:Nat):EntR V U σ gg (.ofList ts) {key:=k,val:=v,born:=c}:=by
 have hl:=hasTys_len h;cases gg with
 |true=>obtain⟨vs,rfl,h2⟩:=hv;exact⟨vs,rfl,VT_ofList.2 (hasTys_ok g h h2),by rw[width_ofList];have:=h2.len;simp only at this;omega⟩
 |false=>
  obtain⟨d,h1,h2⟩:=hv;simp only at h1;subst h1;exact⟨VT_ofList.2 (hasTys_ok g h (vs:= [v]) ⟨h2,trivial⟩),by rw[width_ofList,←hl];rfl⟩
theorem cks_eq :∀{l l':List CK},l.length=l'.length→((l.zip l').all fun p=>ckbeq p.1 p.2)=true→l=l'
 | [],[],_,_=>rfl
 |p::l,p'::l',h1,h2=>by
  simp only[List.zip_cons_cons,List.all_cons,Bool.and_eq_true] at h2;rw[ckbeq_eq h2.1,cks_eq (by simpa using h1) h2.2]
theorem joinZ_some {vt:Ty} {zc:List C} {us:List Ty} (h:joinZ S vt zc=some us):∃ts,vt.list=some ts∧joinTyCs S ts zc=some us:=by
 unfold joinZ at h;split at h
 ·rename_i ts hl;exact⟨ts,hl,h⟩
 ·cases h
theorem look_ok (g:G V U S σ) (he:GE V U σ S.env a) {ks:Bool×List CK} {z:List Value} {gg ok:Bool} {m k:Operand} {sv:SV} {S1:SS} (h:sxI (.look ks z gg ok m k) S=some (sv,S1)):Stp (.look ks z gg ok m k) a V U S σ sv S1:=by
 simp only[sxI] at h;have none_ok:∀{kg:Bool} {kc zc:List C} {es:List MapEntry} {clk:Nat},S.val k=some (.w kg kc)→constCs z=some zc→(cksOK ks.2 kc&&(bif ks.1 then kg else !kg&&Nat.beq kc.length 1)&&(gg||Nat.beq zc.length 1))=true→mapOf σ (a.eval m)=some ([],clk)→
   Stp (.look ks z gg ok m k) a V U S σ (bif ok then .tup [(gg,zc),(false,[.bool (.c false)])] else .w gg zc) S:=by
  intro kg kc zc es clk hk hz hb hm;rw[Bool.and_eq_true] at hb;have hkey:=key_ok hb.1 (w_ok he hk);obtain⟨b,hbb⟩:=keyEq_some hkey hkey;have hzero:=zero_ok (V:=V) (U:=U) (σ:=σ) hz hb.2
  have hev:evI (.look ks z gg ok m k) a σ=some (if ok then .tuple #[zeroOf z gg, .bool false] else zeroOf z gg,σ):=by
   simp only[evI,hm,hbb,findE];simp
  cases ok with
  |true=>exact .same g (sv:= .tup _) ⟨[zeroOf z gg, .bool false],rfl,hzero,⟨_,rfl,false,rfl,rfl⟩,trivial⟩ hev
  |false=>exact .same g (sv:= .w _ _) hzero hev
 split at h
 ·rename_i b kg kc zc hm hk hz
  obtain⟨blk0,of0,hα,hmv⟩:=cell_ok he hm;cases hb:(cksOK ks.2 kc&&(bif ks.1 then kg else !kg&&Nat.beq kc.length 1)&&(gg||Nat.beq zc.length 1)) with
  |false=>rw[hb] at h;cases h
  |true=>
   rw[hb] at h;simp only[cond_true] at h;split at h
   ·rename_i hh
    simp only[Option.some.injEq,Prod.mk.injEq] at h;obtain⟨rfl,rfl⟩:=h;obtain⟨blk,of,clk,h1,h2⟩:=g.heap b _ hh;rw[hα] at h1;cases h1
    exact none_ok (es:= []) (clk:=clk) hk hz hb (by simp only[mapOf,hmv,h2])
   ·rename_i ks' g' vt vr hh
    cases hl:joinZ S vt zc with
    |none=>rw[hl] at h;cases h
    |some ts=>
     rw[hl] at h;simp only at h;obtain⟨ts0,hl0,hjn⟩:=joinZ_some hl;obtain⟨r1,r2,r3,r4⟩:=joinTyCs_ok g hjn;cases hb2:(allSc ts&&(gg==g')&&(ks.1==ks'.1)&&ks.2.length==ks'.2.length&&((ks.2.zip ks'.2).all fun p=>ckbeq p.1 p.2)) with
     |false=>rw[hb2] at h;cases h
     |true=>
      rw[hb2] at h;simp only[cond_true] at h;simp only[Bool.and_eq_true,beq_iff_eq] at hb2;obtain⟨⟨⟨⟨hsc,c2⟩,c3⟩,c4⟩,c5⟩:=hb2;have c1:=r4;subst c2;have hks:ks=ks':=by
       obtain⟨x,l⟩:=ks;obtain⟨x',l'⟩:=ks';simp only at c3 c4 c5;subst c3;rw[cks_eq c4 c5]
      subst hks;obtain⟨blk,of,es,clk,h1,h2,h3,_⟩:=g.heap b _ hh;rw[hα] at h1;cases h1
      rw[Bool.and_eq_true] at hb;have hkey:=key_ok hb.1 (w_ok he hk);obtain⟨bb,hbb⟩:=keyEq_some hkey hkey;have hzero:=zero_ok (V:=V) (U:=U) (σ:=σ) hz hb.2
      obtain⟨r,hr,hmem⟩:=findE_some hkey (es:=es) fun e he=>(h3 e he).1
      have hmo:mapOf σ (a.eval m)=some (es,clk):=by simp only[mapOf,hmv,h2]
      have hvs:∃vs,PT V U σ ts vs∧ts.length=vs.length∧∃v,(if gg then v= .agg vs.toArray else vs= [v])∧evI (.look ks z gg ok m k) a σ=some (if ok then .tuple #[v, .bool r.isSome] else v,σ):=by
       cases r with
       |some e=>
        obtain⟨vs,q1,q2,q3⟩:=ent_val hl0 (h3 e (hmem e rfl)).2;refine⟨vs,PT_imp r1 r3 q1,r1.trans q2,e.val, ?_, ?_⟩
        ·cases gg<;>exact q3
        ·simp only[evI,hmo,hbb,hr];cases ok<;>simp
       |none=>
        refine⟨z,hasTys_ok g c1 (constCs_ok hz),by rw[←hasTys_len c1];exact(constCs_ok (V:=V) (U:=U) (σ:=σ) hz).len,zeroOf z gg, ?_, ?_⟩
        ·cases gg with
         |true=>rfl
         |false=>
          obtain⟨c,q1,q2⟩:=hzero;simp only at q1;have:=(constCs_ok (V:=V) (U:=U) (σ:=σ) hz).len
          rw[q1] at this
          match z,this with
          | [v],_=>rfl
        ·simp only[evI,hmo,hbb,hr];cases ok<;>simp
      obtain⟨vs,hv1,hv2,v,hv3,hev⟩:=hvs;split at h
      ·rename_i cs S2 hi
       have hmore:=insts_ok g hi hsc hv1;rw[hv2,List.take_length] at hmore;have hw:∀{V1:Val},F2 (CR V1 U σ) cs vs→WR V1 U σ (gg,cs) v:=by
        intro V1 hf;cases gg with
        |true=>simp only[if_true] at hv3;subst hv3;exact⟨vs,rfl,hf⟩
        |false=>
         simp only[Bool.false_eq_true,if_false] at hv3;subst hv3
         match cs,hf with
         | [c],hf=>exact⟨c,rfl,hf.1⟩
       cases ok with
       |true=>
        simp only[cond_true,Option.some.injEq,Prod.mk.injEq] at h;obtain⟨rfl,rfl⟩:=h;refine .of g (v:= .tuple #[v, .bool r.isSome]) (hmore.bind g fun V1 g1 k1 p1=>(More.newB g1 r.isSome).imp fun V2 le2 p2=> ?_) hev
        exact⟨[v, .bool r.isSome],rfl,WR_sta (.of_le le2) _ _ (hw p1),⟨_,rfl,p2⟩,trivial⟩
       |false=>
        simp only[cond_false,Option.some.injEq,Prod.mk.injEq] at h;obtain⟨rfl,rfl⟩:=h;exact .of g (hmore.imp fun V1 _ p1=>hw p1) hev
      ·cases h
   ·cases h
 ·rename_i kg kc zc hm hk hz
  cases hb:(cksOK ks.2 kc&&(bif ks.1 then kg else !kg&&Nat.beq kc.length 1)&&(gg||Nat.beq zc.length 1)) with
  |false=>rw[hb] at h;cases h
  |true=>
   rw[hb] at h;simp only[cond_true,Option.some.injEq,Prod.mk.injEq] at h;obtain⟨rfl,rfl⟩:=h;have hmv:a.eval m= .map none:=cell_ok he hm
   exact none_ok (es:= []) (clk:=0) hk hz hb (by simp only[mapOf,hmv])
 ·cases h
end Go.Ev.Sx
end
end SxS2
section SxS3
noncomputable section
namespace Go.Ev.Sx
variable {V V':Val} {U U':Nat→Prop} {S S':SS} {σ σ':Store} {a:Env}
theorem updE_mem {ks:Bool×List CK} {k v:Value}:∀{es:List MapEntry} {e:MapEntry},e∈updE ks k v es→e∈es∨∃e0∈es,e={e0 with val:=v}
 | [],_,h=>by cases h
 |e0::es,e,h=>by
  simp only[updE] at h;split at h
  ·rcases List.mem_cons.1 h with h|h
   ·exact .inr ⟨e0,List.mem_cons_self,h⟩
   ·exact .inl (List.mem_cons_of_mem _ h)
  ·rcases List.mem_cons.1 h with h|h
   ·exact .inl (by rw[h];exact List.mem_cons_self)
   ·rcases updE_mem h with h| ⟨e1,h1,h2⟩
    ·exact .inl (List.mem_cons_of_mem _ h)
    ·exact .inr ⟨e1,List.mem_cons_of_mem _ h1,h2⟩
theorem mupd_ok (g:G V U S σ) (he:GE V U σ S.env a) {ks:Bool×List CK} {m k v:Operand} {sv:SV} {S1:SS} (h:sxI (.mupd ks m k v) S=some (sv,S1)):Stp (.mupd ks m k v) a V U S σ sv S1:=by
 simp only[sxI] at h;split at h
 ·rename_i b kg kc gg vc hm hk hv
  obtain⟨blk,of,hα,hmv⟩:=cell_ok he hm;cases hb:(cksOK ks.2 kc&&(bif ks.1 then kg else !kg&&Nat.beq kc.length 1)) with
  |false=>rw[hb] at h;cases h
  |true=>
   rw[hb] at h;simp only[cond_true] at h;have hkey:=key_ok hb (w_ok he hk);obtain⟨bb,hbb⟩:=keyEq_some hkey hkey;obtain⟨U0,g0,k0,e0⟩:=freezeCs_ok vc g;have s0:=k0.sta g;have hval:=WR_sta s0 _ _ (w_ok he hv);have fin:∀{h0:HE} {es:List MapEntry} {clk:Nat} {us:List Ty},(freezeCs S vc).getH b=some h0→h0.own=true→σ.get blk=some (.map es clk)→(∀e∈es,KeyR ks e.key∧EntR V U0 σ gg (.ofList us) e)→hasTys (freezeCs S vc) vc us=true→
     Stp (.mupd ks m k v) a V U S σ .any ((freezeCs S vc).setH b (.map ks gg (.ofList us) none)):=by
    intro h0 es clk us hh ho hg hes hty;have hlt:=Store.get_lt hg;obtain⟨r,hr,hmem⟩:=findE_some hkey (es:=es) fun e he=>(hes e he).1
    have done:∀{es':List MapEntry} {clk':Nat},evI (.mupd ks m k v) a σ=some (undefE,σ.set blk (.map es' clk'))→(∀e∈es',KeyR ks e.key∧EntR V U0 σ gg (.ofList us) e)→Stp (.mupd ks m k v) a V U S σ .any ((freezeCs S vc).setH b (.map ks gg (.ofList us) none)):=by
     intro es' clk' hev hes';have st:=Sta.set g0 hh ho hα hlt (.map es' clk');obtain⟨g1,k1⟩:=g0.set (σ':=σ.set blk (.map es' clk')) (he:= .map ks gg (.ofList us) none) hh ho hα (set_other _ hlt) rfl
      ⟨blk,of,es',clk',hα,set_at _ hlt,fun e hee=> ⟨(hes' e hee).1,by
       have:=(hes' e hee).2
       cases gg with
       |true=>obtain⟨vs,h4,h5,h6⟩:=this;exact⟨vs,h4,VT_sta st _ _ h5,h6⟩
       |false=>exact⟨VT_sta st _ _ this.1,this.2⟩⟩,fun y hy=>by cases hy⟩
     exact⟨undefE,_,V,U0,hev,g1,k0.trans k1,e0,trivial⟩
    cases r with
    |some e=>
     refine done (es':=updE ks (a.eval k) (a.eval v) es) (clk':=clk) (by simp only[evI,hmv,hg,hbb,hr];simp) fun e' he'=> ?_
     rcases updE_mem he' with h1| ⟨e1,h1,rfl⟩
     ·exact hes e' h1
     ·exact⟨(hes e1 h1).1,ent_mk g0 hty hval _ _⟩
    |none=>
     refine done (es':=es++ [{key:=a.eval k,val:=a.eval v,born:=clk}]) (clk':=clk+1) (by simp only[evI,hmv,hg,hbb,hr];simp) fun e' he'=> ?_
     rcases List.mem_append.1 he' with h1|h1
     ·exact hes e' h1
     ·have:e'={key:=a.eval k,val:=a.eval v,born:=clk}:=by simpa using h1
      subst this;exact⟨hkey,ent_mk g0 hty hval _ _⟩
   split at h
   ·rename_i hh
    cases ht:tyOfs (freezeCs S vc) vc with
    |none=>rw[ht] at h;cases h
    |some ts=>
     rw[ht] at h;simp only[Option.some.injEq,Prod.mk.injEq] at h;obtain⟨rfl,rfl⟩:=h;obtain⟨blk',of',clk,h1,h2⟩:=g0.heap b _ hh;rw[hα] at h1;cases h1
     exact fin hh rfl h2 (fun e he=>by cases he) (tyOfs_ok ht)
   ·rename_i ks' g' vt vr hh
    cases hb2:((gg==g')&&(ks.1==ks'.1)&&ks.2.length==ks'.2.length&&((ks.2.zip ks'.2).all fun p=>ckbeq p.1 p.2)) with
    |false=>rw[hb2] at h;cases h
    |true=>
     rw[hb2] at h;simp only[cond_true] at h;simp only[Bool.and_eq_true,beq_iff_eq] at hb2;obtain⟨⟨⟨c2,c3⟩,c4⟩,c5⟩:=hb2;subst c2;have hks:ks=ks':=by
      obtain⟨x,l⟩:=ks;obtain⟨x',l'⟩:=ks';simp only at c3 c4 c5;subst c3;rw[cks_eq c4 c5]
     subst hks;cases hl:vt.list with
     |none=>rw[hl] at h;cases h
     |some ts=>
      rw[hl] at h;simp only at h;cases hj:joinTyCs (freezeCs S vc) ts vc with
      |none=>rw[hj] at h;cases h
      |some us=>
       rw[hj] at h;simp only[Option.some.injEq,Prod.mk.injEq] at h;obtain⟨rfl,rfl⟩:=h;obtain⟨r1,r2,r3,r4⟩:=joinTyCs_ok g0 hj;obtain⟨blk',of',es,clk,h1,h2,h3,_⟩:=g0.heap b _ hh;rw[hα] at h1;cases h1
       refine fin hh rfl h2 (fun e hee=> ⟨(h3 e hee).1, ?_⟩) r4
       have hw:=width_list hl;have:=(h3 e hee).2
       cases gg with
       |true=>
        obtain⟨vs,h4,h5,h6⟩:=this;exact⟨vs,h4,VT_ofList.2 (PT_imp r1 r3 ((VT_list hl _).1 h5)),by rw[width_ofList];omega⟩
       |false=>
        exact⟨VT_ofList.2 (PT_imp r1 r3 ((VT_list hl _).1 this.1)),by rw[width_ofList];have:=this.2;omega⟩
   ·cases h
 ·cases h
theorem lookV_new {ks:Bool×List CK} {k:Value} {z:List Value} {gg bb:Bool} (hbb:keyEq ks k k=some bb) (clk:Nat):∀{es:List MapEntry},findE ks k es=some none→lookV ks k z gg (es++ [{key:=k,val:=zeroOf z gg,born:=clk}])=lookV ks k z gg es:=by
 intro es h;have key:∀{es:List MapEntry},findE ks k es=some none→findE ks k (es++ [{key:=k,val:=zeroOf z gg,born:=clk}])=(match bb with|true=>some (some {key:=k,val:=zeroOf z gg,born:=clk})|false=>some none):=by
  intro es;induction es with
  |nil=>intro _;cases bb<;>simp[findE,hbb]
  |cons e es ih=>
   intro h;simp only[findE] at h;simp only[List.cons_append,findE];split at h
   ·cases h
   ·rename_i hq;exact ih h
   ·cases h
 unfold lookV;rw[key h,h];cases bb<;>rfl
theorem PvR_same {ks:Bool×List CK} {gg:Bool} {es:List MapEntry} {vr:Option Nat} {kk:Bool×List C} {zc:List C} {kv:Value} {z:List Value} (hver:∀y,vr=some y→∃clk,V.κ y=some (encM es clk)) (hk:WR V U σ kk kv) (hz:F2 (CR V U σ) zc z):
  PvR V U σ ks gg es (vr.map fun y=>(some y,kk,zc)):=by
 intro y k zc' e;cases vr with
 |none=>cases e
 |some x=>
  simp only[Option.map_some,Option.some.injEq,Prod.mk.injEq] at e;obtain⟨rfl,rfl,rfl⟩:=e;exact⟨es,kv,z,hver x rfl,hk,hz,rfl⟩
theorem PvR_new {ks:Bool×List CK} {gg bb:Bool} {es:List MapEntry} {vr:Option Nat} {kk:Bool×List C} {zc:List C} {kv:Value} {z:List Value} (hbb:keyEq ks kv kv=some bb) (hver:∀y,vr=some y→∃clk,V.κ y=some (encM es clk)) (hk:WR V U σ kk kv) (hz:F2 (CR V U σ) zc z)
  (hr:findE ks kv es=some none) (clk:Nat):PvR V U σ ks gg (es++ [{key:=kv,val:=zeroOf z gg,born:=clk}]) (vr.map fun y=>(some y,kk,zc)):=by
 intro y k zc' e;cases vr with
 |none=>cases e
 |some x=>
  simp only[Option.map_some,Option.some.injEq,Prod.mk.injEq] at e;obtain⟨rfl,rfl,rfl⟩:=e;exact⟨es,kv,z,hver x rfl,hk,hz,lookV_new hbb clk hr⟩
theorem PvR_mk {ks:Bool×List CK} {gg bb:Bool} {kk:Bool×List C} {zc:List C} {kv:Value} {z:List Value} (hbb:keyEq ks kv kv=some bb) (hk:WR V U σ kk kv) (hz:F2 (CR V U σ) zc z) (es:List MapEntry) (he:es= [])
  (hr:findE ks kv es=some none) (clk:Nat):PvR V U σ ks gg (es++ [{key:=kv,val:=zeroOf z gg,born:=clk}]) (some (none,kk,zc)):=by
 intro y k zc' e;simp only[Option.some.injEq,Prod.mk.injEq] at e;obtain⟨rfl,rfl,rfl⟩:=e;exact⟨es,kv,z,he,hk,hz,lookV_new hbb clk hr⟩
theorem ment_ok (g:G V U S σ) (he:GE V U σ S.env a) {ks:Bool×List CK} {z:List Value} {gg:Bool} {m k:Operand} {sv:SV} {S1:SS} (h:sxI (.ment ks z gg m k) S=some (sv,S1)):Stp (.ment ks z gg m k) a V U S σ sv S1:=by
 simp only[sxI] at h;split at h
 ·rename_i b kg kc zc hm hk hz
  obtain⟨blk0,of0,hα,hmv⟩:=cell_ok he hm;cases hb:(cksOK ks.2 kc&&(bif ks.1 then kg else !kg&&Nat.beq kc.length 1)&&(gg||Nat.beq zc.length 1)) with
  |false=>rw[hb] at h;cases h
  |true=>
   rw[hb] at h;simp only[cond_true] at h;rw[Bool.and_eq_true] at hb;have hkey:=key_ok hb.1 (w_ok he hk);obtain⟨bb,hbb⟩:=keyEq_some hkey hkey;have hzero:WR V U σ (gg,zc) (zeroOf z gg):=zero_ok (V:=V) (U:=U) (σ:=σ) hz hb.2
   have fin:∀{h0:HE} {S2:SS} {V2:Val} {cs:List C} {v:Value} {us:List Ty} {es':List MapEntry} {clk':Nat} {n:Nat} {σ':Store} {pv:Option (Option Nat×(Bool×List C)×List C)},PvR V U σ ks gg es' pv→S.getH b=some h0→h0.own=true→G V2 U S2 σ→Kp V U S σ V2 U S2 σ→S2.env=S.env→S2.heap=S.heap→
     WR V2 U σ (gg,cs) v→(∀l,l≠blk0→σ'.get l=σ.get l)→σ'.size=σ.size→σ'.get blk0=some (.map es' clk')→(∀e∈es',KeyR ks e.key∧EntR V U σ gg (.ofList us) e)→(∃e∈es',e.born=n)→evI (.ment ks z gg m k) a σ=some (.tuple #[v, .int .i64 n],σ')→
     Stp (.ment ks z gg m k) a V U S σ (.tup [(gg,cs),(false,[.int .i64 (.var S2.nx)])]) (({S2 with nx:=S2.nx+1}:SS).setH b (.mapS ks gg (.ofList us) S2.nx pv)):=by
    intro h0 S2 V2 cs v us es' clk' n σ' pv hpv hh ho g2 k2 e2 hp2 hw hs hzs hg hes hsl hev;obtain⟨V3,g3,k3,e3,hp3,_,p3⟩:=More.newX g2 (n:Int);have hα3:V3.α b=some (some (blk0,of0)):=k3.le.α _ _ (k2.le.α _ _ hα)
    have hh3:look b ({S2 with nx:=S2.nx+1}:SS).heap=some h0:=by rw[hp3,hp2];exact hh
    have st:Sta V U σ V3 U σ':=⟨k2.le.trans k3.le,fun _ h=>h,fun l hu=>hs l fun e=>g.nu blk0 ⟨b,h0,of0,hh,ho,hα⟩ (by rw[←e];exact hu)⟩
    have st2:Sta V2 U σ V3 U σ':=⟨k3.le,fun _ h=>h,fun l hu=>hs l fun e=>g.nu blk0 ⟨b,h0,of0,hh,ho,hα⟩ (by rw[←e];exact hu)⟩
    obtain⟨e0,he0,hb0⟩:=hsl;obtain⟨g4,k4⟩:=g3.set (σ':=σ') (he:= .mapS ks gg (.ofList us) S2.nx pv) hh3 ho hα3 hs hzs
     ⟨blk0,of0,es',clk',(n:Int),hα3,hg,fun e hee=> ⟨(hes e hee).1,by
      have:=(hes e hee).2
      cases gg with
      |true=>obtain⟨vs,h4,h5,h6⟩:=this;exact⟨vs,h4,VT_sta st _ _ h5,h6⟩
      |false=>exact⟨VT_sta st _ _ this.1,this.2⟩⟩,p3,⟨e0,he0,by rw[hb0]⟩,PvR_sta st hpv⟩
    refine⟨_,σ',V3,U,hev,g4,(k2.trans k3).trans k4,by rw[←e2,←e3];rfl, ?_⟩
    exact⟨[v, .int .i64 n],rfl,WR_sta st2 _ _ hw,⟨_,rfl,(n:Int),L.ev_var p3,rfl⟩,trivial⟩
   split at h
   ·rename_i hh
    cases ht:tyOfs S zc with
    |none=>rw[ht] at h;cases h
    |some ts=>
     rw[ht] at h;simp only[Option.some.injEq,Prod.mk.injEq] at h;obtain⟨rfl,rfl⟩:=h;obtain⟨blk',of',clk,h1,h2⟩:=g.heap b _ hh;rw[hα] at h1;cases h1
     have hlt:=Store.get_lt h2;refine fin (pv:=some (none,(kg,kc),zc)) (PvR_mk hbb (w_ok he hk) (constCs_ok hz) [] rfl (by simp only[findE]) clk) (σ':=σ.set blk0 (.map ([]++ [{key:=a.eval k,val:=zeroOf z gg,born:=clk}]) (clk+1))) hh rfl g (.refl ..) rfl rfl hzero (set_other _ hlt) rfl (set_at _ hlt) (fun e hee=> ?_) ⟨{key:=a.eval k,val:=zeroOf z gg,born:=clk},by simp,rfl⟩ (by simp only[evI,hmv,h2,hbb,findE];simp)
     have:e={key:=a.eval k,val:=zeroOf z gg,born:=clk}:=by simpa using hee
     subst this;exact⟨hkey,ent_mk g (tyOfs_ok ht) hzero _ _⟩
   ·rename_i ks' g' vt vr hh
    cases hl:joinZ S vt zc with
    |none=>rw[hl] at h;cases h
    |some ts=>
     rw[hl] at h;simp only at h;obtain⟨ts0,hl0,hjn⟩:=joinZ_some hl;obtain⟨r1,r2,r3,r4⟩:=joinTyCs_ok g hjn;cases hb2:(allSc ts&&(gg==g')&&(ks.1==ks'.1)&&ks.2.length==ks'.2.length&&((ks.2.zip ks'.2).all fun p=>ckbeq p.1 p.2)) with
     |false=>rw[hb2] at h;cases h
     |true=>
      rw[hb2] at h;simp only[cond_true] at h;simp only[Bool.and_eq_true,beq_iff_eq] at hb2;obtain⟨⟨⟨⟨hsc,c2⟩,c3⟩,c4⟩,c5⟩:=hb2;subst c2;have hks:ks=ks':=by
       obtain⟨x,l⟩:=ks;obtain⟨x',l'⟩:=ks';simp only at c3 c4 c5;subst c3;rw[cks_eq c4 c5]
      subst hks;obtain⟨blk,of,es,clk,h1,h2,h3,hver⟩:=g.heap b _ hh;rw[hα] at h1;cases h1
      have hlt:=Store.get_lt h2;have hw:=width_list hl0
      have ent:∀e∈es,KeyR ks e.key∧EntR V U σ gg (.ofList ts) e:=fun e hee=> ⟨(h3 e hee).1,by
       have:=(h3 e hee).2
       cases gg with
       |true=>
        obtain⟨vs,h4,h5,h6⟩:=this;exact⟨vs,h4,VT_ofList.2 (PT_imp r1 r3 ((VT_list hl0 _).1 h5)),by rw[width_ofList];omega⟩
       |false=>
        exact⟨VT_ofList.2 (PT_imp r1 r3 ((VT_list hl0 _).1 this.1)),by rw[width_ofList];have:=this.2;omega⟩⟩
      obtain⟨r,hr,hmem⟩:=findE_some hkey (es:=es) fun e he=>(h3 e he).1
      split at h
      ·rename_i cs S2 hi
       simp only[Option.some.injEq,Prod.mk.injEq] at h;obtain⟨rfl,rfl⟩:=h;have go:∀{v:Value} {vs:List Value} {es':List MapEntry} {clk' n:Nat} {σ':Store},PvR V U σ ks gg es' (vr.map fun y=>(some y,(kg,kc),zc))→PT V U σ ts vs→ts.length=vs.length→(if gg then v= .agg vs.toArray else vs= [v])→(∀l,l≠blk0→σ'.get l=σ.get l)→σ'.size=σ.size→σ'.get blk0=some (.map es' clk')→
         (∀e∈es',KeyR ks e.key∧EntR V U σ gg (.ofList ts) e)→(∃e∈es',e.born=n)→evI (.ment ks z gg m k) a σ=some (.tuple #[v, .int .i64 n],σ')→Stp (.ment ks z gg m k) a V U S σ (.tup [(gg,cs),(false,[.int .i64 (.var S2.nx)])]) (({S2 with nx:=S2.nx+1}:SS).setH b (.mapS ks gg (.ofList ts) S2.nx (vr.map fun y=>(some y,(kg,kc),zc)))):=by
        intro v vs es' clk' n σ' hpv q1 q2 q3 hs hzs hg hes hsl hev;have hmore:=insts_ok g hi hsc q1;rw[q2,List.take_length] at hmore;obtain⟨V2,g2,k2,e2,hp2,_,p2⟩:=hmore;refine fin hpv hh rfl g2 k2 e2 hp2 ?_ hs hzs hg hes hsl hev
        cases gg with
        |true=>simp only[if_true] at q3;subst q3;exact⟨vs,rfl,p2⟩
        |false=>
         simp only[Bool.false_eq_true,if_false] at q3;subst q3
         match cs,p2 with
         | [c],p2=>exact⟨c,rfl,p2.1⟩
       cases r with
       |some e=>
        obtain⟨vs,q1,q2,q3⟩:=ent_val hl0 (h3 e (hmem e rfl)).2;exact go (v:=e.val) (σ':=σ) (PvR_same (fun y hy=> ⟨clk,hver y hy⟩) (w_ok he hk) (constCs_ok hz)) (PT_imp r1 r3 q1) (r1.trans q2) (by cases gg<;>exact q3) (fun _ _=>rfl) rfl h2 ent ⟨e,hmem e rfl,rfl⟩ (by simp only[evI,hmv,h2,hbb,hr];simp)
       |none=>
        refine go (v:=zeroOf z gg) (vs:=z) (σ':=σ.set blk0 (.map (es++ [{key:=a.eval k,val:=zeroOf z gg,born:=clk}]) (clk+1))) (PvR_new hbb (fun y hy=> ⟨clk,hver y hy⟩) (w_ok he hk) (constCs_ok hz) hr clk) (hasTys_ok g r4 (constCs_ok hz)) (by rw[←hasTys_len r4];exact(constCs_ok (V:=V) (U:=U) (σ:=σ) hz).len) ?_ (set_other _ hlt) rfl (set_at _ hlt) (fun e hee=> ?_) ⟨{key:=a.eval k,val:=zeroOf z gg,born:=clk},by simp,rfl⟩ (by simp only[evI,hmv,h2,hbb,hr];simp)
        ·cases gg with
         |true=>rfl
         |false=>
          obtain⟨c,q1,q2⟩:=hzero;simp only at q1;have:=(constCs_ok (V:=V) (U:=U) (σ:=σ) hz).len
          rw[q1] at this
          match z,this with
          | [v],_=>rfl
        ·rcases List.mem_append.1 hee with h1|h1
         ·exact ent e h1
         ·have:e={key:=a.eval k,val:=zeroOf z gg,born:=clk}:=by simpa using h1
          subst this;exact⟨hkey,ent_mk g r4 hzero _ _⟩
      ·cases h
   ·cases h
 ·cases h
theorem modify_mem {es:List MapEntry} {i:Nat} {f:MapEntry→MapEntry} {e:MapEntry} (h:e∈es.modify i f):e∈es∨∃e0∈es,e=f e0:=by
 obtain⟨j,hj⟩:=List.mem_iff_getElem?.1 h;rw[List.getElem?_modify] at hj
 cases hq:es[j]? with
 |none=>rw[hq] at hj;cases hj
 |some e0=>
  rw[hq] at hj;have hm:=List.mem_of_getElem? hq;by_cases hij:i=j
  ·simp only[Option.map_eq_map,Option.map_some,Option.some.injEq,if_pos hij] at hj
   exact .inr ⟨e0,hm,hj.symm⟩
  ·simp only[Option.map_eq_map,Option.map_some,Option.some.injEq,if_neg hij] at hj
   exact .inl (by rw[←hj];exact hm)
theorem mest_ok (g:G V U S σ) (he:GE V U σ S.env a) {m s v:Operand} {sv:SV} {S1:SS} (h:sxI (.mest m s v) S=some (sv,S1)):Stp (.mest m s v) a V U S σ sv S1:=by
 simp only[sxI] at h;split at h
 ·rename_i b ki l gv vc hm hs hv
  obtain⟨blk,of,hα,hmv⟩:=cell_ok he hm;obtain⟨n,hn,hsv⟩:=int_ok he hs;obtain⟨U0,g0,k0,e0⟩:=freezeCs_ok vc g;have s0:=k0.sta g;have hval:=WR_sta s0 _ _ (w_ok he hv);split at h
  ·rename_i ks gg vt x pv hh
   cases hb:((gv==gg)&&l.beq (.var x)) with
   |false=>rw[hb] at h;cases h
   |true=>
    rw[hb] at h;simp only[cond_true] at h;rw[Bool.and_eq_true] at hb;obtain⟨c1,c2⟩:=hb;have c1:gv=gg:=by simpa using c1
    subst c1;cases hl:vt.list with
    |none=>rw[hl] at h;cases h
    |some ts=>
     rw[hl] at h;simp only at h;cases hj:joinTyCs (freezeCs S vc) ts vc with
     |none=>rw[hj] at h;cases h
     |some us=>
      rw[hj] at h;simp only[Option.some.injEq,Prod.mk.injEq] at h;obtain⟨rfl,rfl⟩:=h;obtain⟨r1,r2,r3,r4⟩:=joinTyCs_ok g0 hj;obtain⟨blk',of',es,clk,n',h1,h2,h3,h4,⟨e1,he1,hb1⟩,_⟩:=g0.heap b _ hh;rw[hα] at h1;cases h1
      have hnn:n=n':=by
       have:=L.beq_eq c2
       subst this;rw[L.ev_var h4] at hn;exact(Option.some.inj hn).symm
      subst hnn;have hlt:=Store.get_lt h2;have hw:=width_list hl
      have ent:∀e∈es,KeyR ks e.key∧EntR V U0 σ gv (.ofList us) e:=fun e hee=> ⟨(h3 e hee).1,by
       have:=(h3 e hee).2
       cases gv with
       |true=>
        obtain⟨vs,h4,h5,h6⟩:=this;exact⟨vs,h4,VT_ofList.2 (PT_imp r1 r3 ((VT_list hl _).1 h5)),by rw[width_ofList];omega⟩
       |false=>
        exact⟨VT_ofList.2 (PT_imp r1 r3 ((VT_list hl _).1 this.1)),by rw[width_ofList];have:=this.2;omega⟩⟩
      have hidx:(es.findIdx? fun e=>(e.born:Int)==n).isSome=true:=by
       rw[List.findIdx?_isSome,List.any_eq_true]
       exact⟨e1,he1,by simpa using hb1⟩
      obtain⟨i,hi⟩:=Option.isSome_iff_exists.1 hidx;have st:=Sta.set g0 hh rfl hα hlt (.map (es.modify i fun e=>{e with val:=a.eval v}) clk)
      obtain⟨g1,k1⟩:=g0.set (σ':=σ.set blk (.map (es.modify i fun e=>{e with val:=a.eval v}) clk)) (he:= .map ks gv (.ofList us) none) hh rfl hα (set_other _ hlt) rfl
       ⟨blk,of,_,clk,hα,set_at _ hlt,(fun e hee=>by
        have hq:KeyR ks e.key∧EntR V U0 σ gv (.ofList us) e:=by
         rcases modify_mem hee with h1| ⟨e2,h1,rfl⟩
         ·exact ent e h1
         ·exact⟨(ent e2 h1).1,ent_mk g0 r4 hval _ _⟩
        refine⟨hq.1, ?_⟩
        have:=hq.2
        cases gv with
        |true=>obtain⟨vs,h4,h5,h6⟩:=this;exact⟨vs,h4,VT_sta st _ _ h5,h6⟩
        |false=>exact⟨VT_sta st _ _ this.1,this.2⟩),fun y hy=>by cases hy⟩
      exact⟨undefE,_,V,U0,by simp only[evI,hmv,hsv,h2,hi],g1,k0.trans k1,e0,trivial⟩
  ·cases h
 ·cases h
theorem topL_ok :∀{n:Nat} {l:List UInt8} {i:Nat} {x:UInt8},l[i]?=some x→i<n→x.toNat≤topL n l
 |0,_,_,_,_,h=>by omega
 |n+1,[],i,x,h,_=>by simp at h
 |n+1,y::r,i,x,h,hi=>by
  have hc:topL n r≤topL (n+1) (y::r)∧y.toNat≤topL (n+1) (y::r):=by
   simp only[topL];cases hb:Nat.ble y.toNat (topL n r) with
   |true=>exact⟨Nat.le_refl _,bleN hb⟩
   |false=>
    have:¬y.toNat≤topL n r:=fun e=>by rw[Nat.ble_eq_true_of_le e] at hb;cases hb
    exact⟨by simp only[cond_false];omega,Nat.le_refl _⟩
  cases i with
  |zero=>simp at h;subst h;exact hc.2
  |succ i=>exact Nat.le_trans (topL_ok (by simpa using h) (by omega)) hc.1
theorem topB_ok {s:ByteArray} {i n:Nat} (h:i<s.size) (hi:i<n):(s[i]'h).toNat≤topB s n:=
 topL_ok (i:=i) (by rw[List.getElem?_eq_getElem (by simpa using h)];rfl) hi
theorem sxI_ok (g:G V U S σ) (he:GE V U σ S.env a) {op:I} {sv:SV} {S1:SS} (h:sxI op S=some (sv,S1)):Stp op a V U S σ sv S1:=by
 have ptr0:∀{b blk:Nat} {V1:Val} {U1:Nat→Prop} {σ1:Store},V1.α b=some (some (blk,0))→CR V1 U1 σ1 (.ptr b (.num 0)) (.pointer (some ⟨blk,0,none⟩)):=fun hα=> ⟨0,_,0,L.ev_num _,hα,rfl⟩
 cases op with
 |slcS e esz x lo hi mx=>exact slcS_ok g he h
 |look ks z gg ok m k=>exact look_ok g he h
 |mupd ks m k v=>exact mupd_ok g he h
 |ment ks z gg m k=>exact ment_ok g he h
 |mest m s v=>exact mest_ok g he h
 |mov x=>
  simp only[sxI] at h;cases hv:S.val x with
  |none=>rw[hv] at h;cases h
  |some v=>rw[hv] at h;simp only[Option.map_some,Option.some.injEq,Prod.mk.injEq] at h;obtain⟨rfl,rfl⟩:=h;exact .same g (val_ok he hv) rfl
 |const v=>
  simp only[sxI] at h;cases hv:constC v with
  |none=>rw[hv] at h;cases h
  |some c=>rw[hv] at h;simp only[Option.map_some,Option.some.injEq,Prod.mk.injEq] at h;obtain⟨rfl,rfl⟩:=h;exact .same g (one_ok (constC_ok hv)) rfl
 |pick c x y=>
  simp only[sxI] at h;split at h
  ·rename_i b hc
   obtain⟨t,ht,hcv⟩:=cell_ok he hc;have ht':t=b:=ht
   subst ht';cases hv:S.val (bif t then x else y) with
   |none=>rw[hv] at h;cases h
   |some v=>
    rw[hv] at h;simp only[Option.map_some,Option.some.injEq,Prod.mk.injEq] at h;obtain⟨rfl,rfl⟩:=h;refine .same g (val_ok he hv) ?_
    simp only[evI,hcv];cases t<;>rfl
  ·cases h
 |bin op x y=>
  simp only[sxI] at h;split at h
  ·rename_i p q h1 h2
   cases hb:sxBin S op p q with
   |none=>rw[hb] at h;cases h
   |some r=>
    obtain⟨c,S2⟩:=r;rw[hb] at h;simp only[Option.map_some,Option.some.injEq,Prod.mk.injEq] at h;obtain⟨rfl,rfl⟩:=h;obtain⟨v,hv,hm⟩:=sxBin_ok g hb (cell_ok he h1) (cell_ok he h2);exact .of g hm.one (by simp only[evI,hv];rfl)
  ·cases h
 |beq ng x y=>
  simp only[sxI] at h;split at h
  ·rename_i p q h1 h2
   simp only[Option.some.injEq,Prod.mk.injEq] at h;obtain⟨rfl,rfl⟩:=h;obtain⟨s,_,hs⟩:=cell_ok he h1;obtain⟨t,_,ht⟩:=cell_ok he h2;exact .of g (More.newB g (if ng then s !=t else s==t)).one (by simp only[evI,hs,ht])
  ·cases h
 |peq ks ng x y=>
  simp only[sxI] at h;split at h
  ·rename_i p q h1 h2
   cases hb:(cksOK ks p&&cksOK ks q) with
   |false=>rw[hb] at h;cases h
   |true=>
    rw[hb] at h;simp only[cond_true,Option.some.injEq,Prod.mk.injEq] at h;obtain⟨rfl,rfl⟩:=h;rw[Bool.and_eq_true] at hb;obtain⟨vs,hvs,f1⟩:=agg_ok he h1;obtain⟨ws,hws,f2⟩:=agg_ok he h2;obtain⟨b,hbb⟩:=eqK_some (cksOK_ok hb.1 f1) (cksOK_ok hb.2 f2);exact .of g (More.newB g (if ng then !b else b)).one (by simp only[evI,hvs,hws,hbb,Option.map_some])
  ·cases h
 |nileq k ng x=>
  simp only[sxI] at h;have fin:∀{b:Bool} {c:C},S.cell x=some c→isNil k (a.eval x)=some b→(one (C.bool (.c (if ng then !b else b))),S)=(sv,S1)→Stp (.nileq k ng x) a V U S σ sv S1:=by
   intro b c hc hn hr;simp only[Prod.mk.injEq] at hr;obtain⟨rfl,rfl⟩:=hr;exact .same g (one_ok (c:= .bool _) ⟨_,rfl,rfl⟩) (by simp only[evI,hn,Option.map_some])
  have ng1:∀b:Bool,(if ng then !b else b)=(if b then !ng else ng):=by intro b;cases b<;>cases ng<;>rfl
  split at h
  ·rename_i hc;have:=cell_ok he hc;exact fin (b:=true) hc (by rw[show a.eval x= .slice none 0 0 from this];rfl) (by rw[ng1];simpa using h)
  ·rename_i k0 b off len esz cp hc
   obtain⟨p,n,cap,o,w1,hxv,w2,w3,w4⟩:=cell_ok he hc;cases hent:S.ent (len.addc (-1)) with
   |true=>
    rw[hent] at h;have q:=g.ent hent (L.ev_addc _ w2);have hat:At V b esz o p:=by
     cases cp with
     |inf=>rcases w4 with⟨_,_,h3,_⟩| ⟨h1,_⟩
           ·omega
           ·exact h1
     |full=>exact w4.2.2.1 (by omega)
     |any=>exact w4.2.2.1 (by omega)
     |unk=>exact w4.2.1 (.inl (by omega))
    obtain⟨blk,of,_,rfl⟩:=hat;exact fin (b:=false) hc (by rw[hxv];rfl) (by rw[ng1];simpa using h)
   |false=>
    rw[hent] at h;simp only[cond_false,Option.some.injEq,Prod.mk.injEq] at h;obtain⟨rfl,rfl⟩:=h;exact .of g (More.newB g (if ng then !p.isNone else p.isNone)).one (by simp only[evI,hxv,isNil,Option.map_some])
  ·rename_i hc;have:=cell_ok he hc;exact fin (b:=true) hc (by rw[show a.eval x= .pointer none from this];rfl) (by rw[ng1];simpa using h)
  ·rename_i hc;obtain⟨n,blk,of,_,_,hv⟩:=cell_ok he hc;exact fin (b:=false) hc (by rw[hv];rfl) (by rw[ng1];simpa using h)
  ·rename_i hc;have:=cell_ok he hc;exact fin (b:=true) hc (by rw[show a.eval x= .map none from this];rfl) (by rw[ng1];simpa using h)
  ·rename_i hc;obtain⟨blk,of,_,hv⟩:=cell_ok he hc;exact fin (b:=false) hc (by rw[hv];rfl) (by rw[ng1];simpa using h)
  ·rename_i hc;have:=cell_ok he hc;exact fin (b:=true) hc (by rw[show a.eval x= .nilFunc from this];rfl) (by rw[ng1];simpa using h)
  ·rename_i hc;obtain⟨_,f,p,q,hv⟩:=cell_ok he hc;exact fin (b:=false) hc (by rw[hv];rfl) (by rw[ng1];simpa using h)
  ·rename_i hc;have:=cell_ok he hc;exact fin (b:=false) hc (by rw[show a.eval x=_ from this];rfl) (by rw[ng1];simpa using h)
  ·cases h
 |not x=>
  simp only[sxI] at h;split at h
  ·rename_i b hc
   simp only[Option.some.injEq,Prod.mk.injEq] at h;obtain⟨rfl,rfl⟩:=h;obtain⟨t,ht,hv⟩:=cell_ok he hc;exact .same g (one_ok (c:= .bool _) ⟨_,neg_ok ht,rfl⟩) (by simp only[evI,hv])
  ·cases h
 |neg x=>
  simp only[sxI] at h;split at h
  ·rename_i k l hi
   simp only[Option.some.injEq,Prod.mk.injEq] at h;obtain⟨rfl,rfl⟩:=h;obtain⟨n,hn,hv⟩:=int_ok he hi;exact .of g (mkI_ok g k (L.ev_neg hn)).one (by simp only[evI,hv];congr 4;omega)
  ·cases h
 |conv k x=>
  simp only[sxI] at h;split at h
  ·rename_i k' l hi
   simp only[Option.some.injEq,Prod.mk.injEq] at h;obtain⟨rfl,rfl⟩:=h;obtain⟨n,hn,hv⟩:=int_ok he hi;exact .of g (mkI_ok g k hn).one (by simp only[evI,hv])
  ·cases h
 |alloc e z=>
  simp only[sxI] at h;split at h
  ·rename_i cs hc
   simp only[Option.some.injEq,Prod.mk.injEq] at h;obtain⟨rfl,rfl⟩:=h;obtain⟨V',g1,k1,hα,_⟩:=alloc_cells (e:=e) g (constCs_ok hc)
   exact⟨_,_,V',U,rfl,g1,k1,rfl,one_ok (ptr0 hα)⟩
  ·cases h
 |box e x=>
  simp only[sxI] at h;split at h
  ·rename_i cs hc
   simp only[Option.some.injEq,Prod.mk.injEq] at h;obtain⟨rfl,rfl⟩:=h;obtain⟨V',g1,k1,hα,_⟩:=alloc_cells (e:=e) g (cells_ok he hc)
   exact⟨_,_,V',U,rfl,g1,k1,rfl,one_ok (ptr0 hα)⟩
  ·cases h
 |build z ps=>
  simp only[sxI] at h;split at h
  ·rename_i cs l hc hp
   cases hf:fillS cs l with
   |none=>rw[hf] at h;cases h
   |some ds=>
    rw[hf] at h;simp only[Option.map_some,Option.some.injEq,Prod.mk.injEq] at h;obtain⟨rfl,rfl⟩:=h;obtain⟨ws,hw,hF⟩:=fillS_ok hf (constCs_ok hc) (parts_ok he hp);exact .same g (sv:= .w true ds) ⟨ws,rfl,hF⟩ (by simp only[evI,hw,Option.map_some])
  ·cases h
 |bslice e esz len z ps=>
  simp only[sxI] at h;split at h
  ·rename_i cs l hc hp
   cases hf:fillS cs l with
   |none=>rw[hf] at h;cases h
   |some ds=>
    rw[hf] at h;simp only at h;cases hb:(Nat.beq ds.length (len*esz)&&Nat.ble len 1048576) with
    |false=>rw[hb] at h;cases h
    |true=>
     rw[hb] at h;simp only[cond_true,Option.some.injEq,Prod.mk.injEq] at h;obtain⟨rfl,rfl⟩:=h;rw[Bool.and_eq_true] at hb;have hle:=bleN hb.2;obtain⟨ws,hw,hF⟩:=fillS_ok hf (constCs_ok (V:=V) (U:=U) (σ:=σ) hc) (parts_ok he hp)
     obtain⟨V',g1,k1,hα,_⟩:=alloc_cells (e:=e) g hF
     have hat:At V' S.nb esz 0 (some ⟨σ.size,0,none⟩):=⟨σ.size,0,hα,by simp⟩
     obtain⟨V2,g2,k2,e2,_,_,p2⟩:=newSl (b:=S.nb) (off:= .num 0) (len:= .num len) (e:=esz) (cp:= .full) (p:=some ⟨σ.size,0,none⟩) (n:=len) (cap:=len) (o:=0) g1 (L.ev_num _) (L.ev_num _) ⟨rfl,by unfold INF;omega,fun _=>hat, .inr ⟨0,Nat.le_refl _,hat⟩⟩
     exact⟨_,_,V2,U,by simp only[evI,hw,Option.map_some],g2,k1.trans k2,e2,one_ok p2⟩
  ·cases h
 |load n x=>
  simp only[sxI] at h;split at h
  ·rename_i b off hc
   obtain⟨o,blk,of,h1,h2,hv⟩:=cell_ok he hc;obtain⟨v,V',r1,r2,r3,r4,r5⟩:=loadS_ok g h h2 h1;exact⟨v,σ,V',U,by simp only[evI,hv,r1,Option.map_some],r2,r3,r4,r5⟩
  ·cases h
 |store n x v=>
  simp only[sxI] at h;split at h
  ·rename_i b off vs hc hvs
   obtain⟨o,blk,of,h1,h2,hv⟩:=cell_ok he hc;have hF:=cells_ok he hvs;cases hb:Nat.beq vs.length n with
   |false=>rw[hb] at h;cases h
   |true=>
    rw[hb] at h;simp only[cond_true] at h;cases hs:storeS S b off vs with
    |none=>rw[hs] at h;cases h
    |some S2=>
     rw[hs] at h;simp only[Option.map_some,Option.some.injEq,Prod.mk.injEq] at h;obtain⟨rfl,rfl⟩:=h;obtain⟨σ',U',r1,r2,r3,r4⟩:=storeS_ok g hs h2 h1 hF;refine⟨undefE,σ',V,U', ?_,r2,r3,r4,trivial⟩
     simp only[evI,hv];rw[if_pos (by rw[←hF.len];exact beqN hb),r1];rfl
  ·cases h
 |nilc x=>
  simp only[sxI] at h;split at h
  ·rename_i b o hc
   simp only[Option.some.injEq,Prod.mk.injEq] at h;obtain⟨rfl,rfl⟩:=h;have hcc:=cell_ok he hc;obtain⟨n,blk,of,_,_,hv⟩:=cell_ok he hc;exact .same g (one_ok hcc) (by simp only[evI,hv])
  ·rename_i f hc
   simp only[Option.some.injEq,Prod.mk.injEq] at h;obtain⟨rfl,rfl⟩:=h;have hcc:=cell_ok he hc;obtain⟨_,f,p,q,hv⟩:=cell_ok he hc;exact .same g (one_ok hcc) (by simp only[evI,hv])
  ·rename_i f hc
   simp only[Option.some.injEq,Prod.mk.injEq] at h;obtain⟨rfl,rfl⟩:=h;have:=cell_ok he hc
   have hv:a.eval x= .func (.func f) #[] #[]:=this
   exact .same g (one_ok this) (by simp only[evI,hv])
  ·rename_i b hc
   simp only[Option.some.injEq,Prod.mk.injEq] at h;obtain⟨rfl,rfl⟩:=h;have hcc:=cell_ok he hc;obtain⟨blk,of,_,hv⟩:=cell_ok he hc;exact .same g (one_ok hcc) (by simp only[evI,hv])
  ·cases h
 |addOff x o=>
  simp only[sxI] at h;split at h
  ·rename_i b off hc
   simp only[Option.some.injEq,Prod.mk.injEq] at h;obtain⟨rfl,rfl⟩:=h;obtain⟨n,blk,of,h1,h2,hv⟩:=cell_ok he hc;exact .same g (one_ok (c:= .ptr b (off.addc o)) ⟨n+o,blk,of,by rw[L.ev_addc _ h1];simp,h2,rfl⟩) (by simp only[evI,hv,addr_add',Nat.add_assoc])
  ·cases h
 |field o n x=>
  simp only[sxI] at h;split at h
  ·rename_i cs hc
   obtain⟨vs,hv,hF⟩:=agg_ok he hc;cases hp:partC n cs o with
   |none=>rw[hp] at h;cases h
   |some s=>
    rw[hp] at h;simp only[Option.map_some,Option.some.injEq,Prod.mk.injEq] at h;obtain⟨rfl,rfl⟩:=h;obtain⟨v,h1,h2,_⟩:=partC_ok hp hF;exact .same g h2 (by simp only[evI,hv,h1,Option.map_some])
  ·cases h
 |idxS esz x i=>
  simp only[sxI] at h;split at h
  ·rename_i k b off len esz' cp ki j hc hi
   obtain⟨p,n,cap,o,w1,hxv,w2,w3,w4⟩:=cell_ok he hc;obtain⟨J,hj,hjv⟩:=int_ok he hi;cases hb:(Nat.beq esz esz'&&S.ent j&&S.ent ((len.sub j).addc (-1))&&S.ent off) with
   |false=>rw[hb] at h;cases h
   |true=>
    rw[hb] at h;simp only[cond_true,Option.some.injEq,Prod.mk.injEq] at h;obtain⟨rfl,rfl⟩:=h;simp only[Bool.and_eq_true] at hb;obtain⟨⟨⟨b1,b2⟩,b3⟩,b4⟩:=hb;have r1:=beqN b1;subst r1;have q1:=g.ent b2 hj;have q2:=g.ent b3 (L.ev_addc _ (L.ev_sub w2 hj));obtain⟨J,rfl⟩:∃J':Nat,J=J':=⟨J.toNat,by omega⟩
    have hat:At V b esz o p:=by
     cases cp with
     |inf=>rcases w4 with⟨_,_,h3,_⟩| ⟨h1,_⟩
           ·omega
           ·exact h1
     |full=>exact w4.2.2.1 (by omega)
     |any=>exact w4.2.2.1 (by omega)
     |unk=>exact w4.2.1 (.inl (by omega))
    obtain⟨blk,of,hα,rfl⟩:=hat;refine .same g (one_ok (c:= .ptr b ((off.add j).smul esz)) ⟨(o+J)*esz,blk,of, ?_,hα,rfl⟩) ?_
    ·rw[L.ev_smul _ (L.ev_add w3 hj)]
     simp only[Int.natCast_mul,Int.natCast_add,Option.some.injEq];rw[Int.mul_comm]
    ·simp only[evI,hxv,hjv]
     rw[if_pos ⟨q1,by omega⟩,addr_add']
     simp[Nat.add_mul,Nat.add_assoc]
  ·cases h
 |idxA len esz x i=>
  simp only[sxI] at h;split at h
  ·rename_i b off ki j hc hi
   obtain⟨o,blk,of,h1,h2,hv⟩:=cell_ok he hc;obtain⟨J,hj,hjv⟩:=int_ok he hi;cases hb:(S.ent j&&S.ent ((L.num len).sub (j.addc 1))) with
   |false=>rw[hb] at h;cases h
   |true=>
    rw[hb] at h;rw[Bool.and_eq_true] at hb;have q1:=g.ent hb.1 hj;have q2:=g.ent hb.2 (L.ev_sub (L.ev_num _) (L.ev_addc _ hj));obtain⟨J,rfl⟩:∃J':Nat,J=J':=⟨J.toNat,by omega⟩
    have hev:evI (.idxA len esz x i) a σ=some (.pointer (some ⟨blk,of+(o+J*esz),none⟩),σ):=by
     simp only[evI,hv,hjv];rw[if_pos ⟨q1,by omega⟩,addr_add']
     simp[Nat.add_assoc]
    simp only[cond_true] at h;cases hcl:(isCells S b&&(isN j).isNone) with
    |true=>
     rw[hcl] at h;simp only[cond_true,Option.some.injEq,Prod.mk.injEq] at h;obtain⟨rfl,rfl⟩:=h;refine .of g ((More.newI g ki (lo:=0) (hi:=(len:Int) - 1) (n:=(J:Int)) q1 (by omega)).imp fun V1 le1 p1=>one_ok (c:= .ptr b (off.add ((L.var S.nx).smul esz))) ⟨o+J*esz,blk,of, ?_,le1.α _ _ h2,rfl⟩) hev
     rw[L.ev_add (L.ev_mono le1.ρ h1) (L.ev_smul _ p1.1)];simp only[Int.natCast_mul,Int.natCast_add,Option.some.injEq];rw[Int.mul_comm (esz:Int)]
    |false=>
     rw[hcl] at h;simp only[cond_false,Option.some.injEq,Prod.mk.injEq] at h;obtain⟨rfl,rfl⟩:=h;refine .same g (one_ok (c:= .ptr b (off.add (j.smul esz))) ⟨o+J*esz,blk,of, ?_,h2,rfl⟩) hev
     rw[L.ev_add h1 (L.ev_smul _ hj)];simp only[Int.natCast_mul,Int.natCast_add,Option.some.injEq];rw[Int.mul_comm (esz:Int)]
  ·cases h
 |index len esz n x i=>
  simp only[sxI] at h;split at h
  ·rename_i cs ki j hc hi
   obtain⟨vs,hv,hF⟩:=agg_ok he hc;obtain⟨J,hj,hjv⟩:=int_ok he hi;cases hb:(S.ent j&&S.ent ((L.num len).sub (j.addc 1))) with
   |false=>rw[hb] at h;cases h
   |true=>
    rw[hb] at h;simp only[cond_true] at h;rw[Bool.and_eq_true] at hb;have q1:=g.ent hb.1 hj;have q2:=g.ent hb.2 (L.ev_sub (L.ev_num _) (L.ev_addc _ hj));obtain⟨J,rfl⟩:∃J':Nat,J=J':=⟨J.toNat,by omega⟩
    split at h
    ·rename_i o hN
     have:o=J:=by have:=isN_ev (ρ:=V.ρ) hN;rw[hj] at this;have:=Option.some.inj this;omega
     subst this;cases hp:partC n cs (o*esz) with
     |none=>rw[hp] at h;cases h
     |some s=>
      rw[hp] at h;simp only[Option.map_some,Option.some.injEq,Prod.mk.injEq] at h;obtain⟨rfl,rfl⟩:=h;obtain⟨v,h1,h2,_⟩:=partC_ok hp hF;refine .same g h2 ?_
      simp only[evI,hv,hjv];rw[if_pos ⟨q1,by omega⟩]
      simp[h1]
    ·cases hb2:(Nat.ble (len*esz) cs.length&&Nat.ble (n.getD 1) esz) with
     |false=>rw[hb2] at h;cases h
     |true=>
      rw[hb2] at h;simp only[cond_true] at h;rw[Bool.and_eq_true] at hb2;have l1:=bleN hb2.1;have l2:=bleN hb2.2;have hvl:=hF.len;split at h
      ·rename_i k lo hi' hhu
       simp only[Option.some.injEq,Prod.mk.injEq] at h;obtain⟨rfl,rfl⟩:=h;have hall:=hull_ok g hhu (hF.take (len*esz));have hJe:(J+1)*esz≤len*esz:=Nat.mul_le_mul_right _ (by omega)
       rw[Nat.succ_mul] at hJe;have hin:∀y,J*esz≤y→y<J*esz+n.getD 1→∃v,vs[y]?=some v∧∃z,v= .int k z∧lo≤z∧z≤hi':=by
        intro y hy1 hy2;have hlt:y<vs.length:=by omega
        refine⟨vs[y],List.getElem?_eq_getElem hlt,hall _ ?_⟩
        exact List.mem_of_getElem? (i:=y) (by rw[List.getElem?_take,if_pos (by omega),List.getElem?_eq_getElem hlt])
       cases n with
       |none=>
        obtain⟨v,hv1,hv2⟩:=hin (J*esz) (Nat.le_refl _) (by simp)
        have hm:=newIs_ok 1 g (k:=k) (lo:=lo) (hi:=hi') (vs:= [v]) rfl (by simpa using hv2)
        refine .of g (v:=v) (hm.imp fun V1 _ p1=> ?_) ?_
        ·match hns:(newIs S k lo hi' 1).1,p1 with
         | [c],p1=>exact⟨c,by simp[hns],p1.1⟩
        ·simp only[evI,hv,hjv]
         rw[if_pos ⟨q1,by omega⟩]
         simp[partE,hv1]
       |some l=>
        simp only[Option.getD_some] at*
        have hm:=newIs_ok l g (k:=k) (lo:=lo) (hi:=hi') (vs:=(vs.drop (J*esz)).take l) (by simp;omega) (by
         intro v hv';obtain⟨i',hi2,he2⟩:=List.getElem_of_mem hv';have hil:i'<l:=by simp at hi2;omega
         obtain⟨v',hv1,hv2⟩:=hin (J*esz+i') (by omega) (by omega)
         have:((vs.drop (J*esz)).take l)[i']?=some v:=by rw[List.getElem?_eq_getElem hi2,he2]
         rw[get_seg,if_pos hil] at this
         rw[hv1] at this;cases this;exact hv2)
        refine .of g (v:= .agg ((vs.drop (J*esz)).take l).toArray) (hm.imp fun V1 _ p1=> ⟨_,rfl,p1⟩) ?_
        simp only[evI,hv,hjv];rw[if_pos ⟨q1,by omega⟩]
        simp[partE]
      ·cases h
  ·cases h
 |indexStr x i=>
  simp only[sxI] at h;split at h
  ·rename_i s ki j hc hi
   have hv:a.eval x= .string s:=cell_ok he hc
   obtain⟨J,hj,hjv⟩:=int_ok he hi;cases hb:(S.ent j&&S.ent ((L.num s.size).sub (j.addc 1))) with
   |false=>rw[hb] at h;cases h
   |true=>
    rw[hb] at h;simp only[cond_true,Option.some.injEq,Prod.mk.injEq] at h;obtain⟨rfl,rfl⟩:=h;rw[Bool.and_eq_true] at hb;have q1:=g.ent hb.1 hj;have q2:=g.ent hb.2 (L.ev_sub (L.ev_num _) (L.ev_addc _ hj));obtain⟨J,rfl⟩:∃J':Nat,J=J':=⟨J.toNat,by omega⟩
    have hlt:J<s.size:=by omega
    have hb8:=(s[J]'hlt).toNat_lt;have htop:(s[J]'hlt).toNat≤topB s (((j.hi S.iv).getD s.size).toNat+1):=by
     refine topB_ok hlt ?_
     cases hh:j.hi S.iv with
     |none=>simp;omega
     |some z=>have:=hi_at g.iv hh hj;simp only[Option.getD_some];omega
    refine .of g ((More.newI g .u8 (lo:=0) (hi:=((topB s (((j.hi S.iv).getD s.size).toNat+1):Nat):Int)) (n:=((s[J]'hlt).toNat:Int)) (by omega) (by omega)).imp fun _ _ p=>p.2).one ?_
    simp only[evI,hv,hjv];rw[if_pos q1];simp[hlt]
  ·cases h
 |slcA len esz x lo hi mx=>
  simp only[sxI] at h;split at h
  ·rename_i b off hc
   obtain⟨o,blk,of,h1,h2,hv⟩:=cell_ok he hc;split at h
   ·rename_i la lh q e1 e2 e3
    cases hb:(S.ent q&&S.ent la&&S.ent (lh.sub la)&&S.ent ((L.num len).sub lh)&&Nat.ble len (2^61)) with
    |false=>rw[hb] at h;cases h
    |true=>
     rw[hb] at h;simp only[cond_true,Option.some.injEq,Prod.mk.injEq] at h;obtain⟨rfl,rfl⟩:=h;simp only[Bool.and_eq_true] at hb;obtain⟨⟨⟨⟨b0,b1⟩,b2⟩,b3⟩,b4⟩:=hb;obtain⟨A,hA,hA'⟩:=optInt_ok he e1 (L.ev_num 0);obtain⟨Hh,hH,hH'⟩:=optInt_ok he e2 (L.ev_num len);obtain⟨Q,hQ,hQ2,_⟩:=divE_ok e3 h1;have q0:=g.ent b0 hQ;have q1:=g.ent b1 hA;have q2:=g.ent b2 (L.ev_sub hH hA)
     have q3:=g.ent b3 (L.ev_sub (L.ev_num _) hH);have q4:=bleN b4;obtain⟨A,rfl⟩:∃A':Nat,A=A':=⟨A.toNat,by omega⟩
     obtain⟨Hh,rfl⟩:∃A':Nat,Hh=A':=⟨Hh.toNat,by omega⟩
     obtain⟨Q,rfl⟩:∃A':Nat,Q=A':=⟨Q.toNat,by omega⟩
     have hoQ:o=Q*esz:=by
      have e1:((Q*esz:Nat):Int)=(Q:Int)*esz:=by simp
      omega
     have hlen:(lh.sub la).ev V.ρ=some (((Hh - A:Nat)):Int):=by rw[L.ev_sub hH hA];congr 1;omega
     have hoff:(q.add la).ev V.ρ=some (((Q+A:Nat)):Int):=by rw[L.ev_add hQ hA];simp
     have fA:=bound_ok (y:=Hh) (d:=0) hA' rfl (by omega) (by omega)
     have fH:=bound_ok (y:=len) (d:=len) hH' rfl (by omega) (by omega)
     simp only[Int.toNat_natCast] at fA fH;have hat:At V b esz (Q+A) ((some ⟨blk,of+o,none⟩:Option Addr).map (·.add (A*esz))):=⟨blk,of,h2,by subst hoQ;simp[addr_add',Nat.add_mul,Nat.add_assoc]⟩
     have hat0:At V b esz Q (some ⟨blk,of+o,none⟩):=⟨blk,of,h2,by rw[hoQ]⟩
     have hsat:Sat V b esz (Q+A) (if len=A then some ⟨blk,of+o,none⟩ else(some ⟨blk,of+o,none⟩:Option Addr).map (·.add (A*esz))):=by
      split
      ·exact .inr ⟨Q,by omega,hat0⟩
      ·exact .inr ⟨_,Nat.le_refl _,hat⟩
     have hatn:Hh - A≠0→At V b esz (Q+A) (if len=A then some ⟨blk,of+o,none⟩ else(some ⟨blk,of+o,none⟩:Option Addr).map (·.add (A*esz))):=by
      intro hh;rw[if_neg (by omega)];exact hat
     have hI:len<INF:=by unfold INF;omega
     have hev:evI (.slcA len esz x lo hi none) a σ=some (.slice (if len=A then some ⟨blk,of+o,none⟩ else(some ⟨blk,of+o,none⟩:Option Addr).map (·.add (A*esz))) (Hh - A) (len - A),σ):=by
      simp only[evI,hv];rw[if_pos hI];unfold sliceE;simp only[Option.map_none];rw[if_neg (show ¬len=INF by omega),fH]
      simp only[fA];rw[if_neg (show ¬len=INF by omega)];rfl
     cases hbe:lh.beq (.num len) with
     |true=>
      have:=L.beq_eq hbe
      subst this;rw[L.ev_num] at hH;have:Hh=len:=by have:=Option.some.inj hH;omega
      subst this;exact .of g (newSl (b:=b) (e:=esz) (cp:= .full) (cap:=Hh - A) g hlen hoff ⟨rfl,by omega,hatn,hsat⟩).one hev
     |false=>exact .of g (newSl (b:=b) (e:=esz) (cp:= .any) (cap:=len - A) g hlen hoff ⟨by omega,by omega,hatn,hsat⟩).one hev
   ·cases h
  ·cases h
 |slcStr x lo hi=>
  simp only[sxI] at h;split at h
  ·rename_i k hc
   simp only[Option.some.injEq,Prod.mk.injEq] at h;obtain⟨rfl,rfl⟩:=h;obtain⟨_,s,hv⟩:=cell_ok he hc;obtain⟨g1,k1,h1⟩:=g.newK (.string (s.extract 0 s.size));exact⟨_,σ,_,U,by simp only[evI,hv,bound,Option.map_none],g1,k1,rfl,one_ok ⟨h1,_,rfl⟩⟩
  ·cases h
 |ext x i=>
  simp only[sxI] at h;split at h
  ·rename_i ws hc
   obtain⟨vs,hv,hF⟩:=val_ok he hc;cases hi:ws[i]? with
   |none=>rw[hi] at h;cases h
   |some p=>
    rw[hi] at h;simp only[Option.map_some,Option.some.injEq,Prod.mk.injEq] at h;obtain⟨rfl,rfl⟩:=h;obtain⟨v,h1,h2⟩:=hF.get hi;exact .same g (sv:= .w p.1 p.2) h2 (by simp[evI,hv,h1])
  ·cases h
 |mkf f fs cs=>
  simp only[sxI] at h;split at h
  ·rename_i p q h1 h2
   simp only[Option.some.injEq,Prod.mk.injEq] at h;obtain⟨rfl,rfl⟩:=h;obtain⟨g1,k1,hκ⟩:=g.newK (.func (.func f) (fs.map a.eval).toArray (cs.map a.eval).toArray);have st:=k1.sta g;have f1:=(ws_ok he h1).imp (WR_sta st);have f2:=(ws_ok he h2).imp (WR_sta st);refine⟨_,σ,_,U,rfl,⟨g1.iv,g1.facts,g1.heap,g1.inj,g1.nu,g1.vws,fun x k hk=> ?_,g1.fx,g1.fb,g1.fk,g1.uin⟩,⟨k1.le,k1.ule,k1.unew,k1.size,k1.same,k1.own⟩,rfl,one_ok (c:= .fn S.nk) ⟨hκ,f,_,_,rfl⟩⟩
   rw[look_cons] at hk;by_cases hx:x=S.nk
   ·rw[if_pos hx] at hk;cases hk;rw[hx]
    exact⟨_,_,hκ,by simpa using f1,by simpa using f2⟩
   ·rw[if_neg hx] at hk;exact g1.clos x k hk
  ·cases h
 |mks e esz bytes z l c=>
  simp only[sxI] at h;split at h
  ·rename_i k1 n k2 m cs h1 h2 h3
   cases hb:(n.beq m&&S.ent n&&S.ent ((L.num (2^31)).sub n)&&Nat.ble bytes 65536&&Nat.ble 1 esz&&Nat.beq cs.length esz) with
   |false=>rw[hb] at h;cases h
   |true=>
    rw[hb] at h;simp only[cond_true] at h;simp only[Bool.and_eq_true] at hb;obtain⟨⟨⟨⟨⟨b1,b2⟩,b3⟩,b4⟩,b5⟩,b6⟩:=hb;have:=L.beq_eq b1;subst this
    obtain⟨N,hN,hlv⟩:=int_ok he h1;obtain⟨N',hN',hcv⟩:=int_ok he h2;rw[hN] at hN';have:N=N':=Option.some.inj hN'
    subst this;have q1:=g.ent b2 hN;have q2:=g.ent b3 (L.ev_sub (L.ev_num _) hN);have q3:=bleN b4;have q4:=bleN b5;have q5:=beqN b6;obtain⟨N,rfl⟩:∃A':Nat,N=A':=⟨N.toNat,by omega⟩
    have hz:=(constCs_ok (V:=V) (U:=U) (σ:=σ) h3)
    have hzl:=hz.len;cases ht:tyOfs S cs with
    |none=>rw[ht] at h;cases h
    |some ts=>
     rw[ht] at h;simp only at h;cases hs:allSc ts with
     |false=>rw[hs] at h;cases h
     |true=>
      rw[hs] at h;simp only[cond_true,Option.some.injEq,Prod.mk.injEq] at h;obtain⟨rfl,rfl⟩:=h;have hty:=tyOfs_ok ht;have htl:=hasTys_len hty;have hpt:=(PT_get hs).1 (hasTys_ok g hty hz);have le:=Val.le_sα (p:=some (σ.size,0)) (g.fb S.nb (Nat.le_refl _)).1
      have st:Sta V U σ (V.sα S.nb (some (σ.size,0))) U (σ.alloc (.cells .rw e ((List.range (N*esz)).map fun i=>z.getD (i%z.length) undefE))):=⟨le,fun _ h=>h,fun l hu=>by have:=g.uin l hu;rw[Store.get_alloc,if_neg (by omega)]⟩
      have hrow:∀i,i<N→PT V U σ ts ((((List.range (N*esz)).map fun i=>z.getD (i%z.length) undefE)).drop (i*esz)):=by
       intro i hi;have hie:(i+1)*esz≤N*esz:=Nat.mul_le_mul_right _ hi
       rw[Nat.succ_mul] at hie;refine(PT_get hs).2 ⟨by simp;omega,fun x t v hx hv=> ?_⟩
       have hxl:x<esz:=by have:=(List.getElem?_eq_some_iff.1 hx).1;omega
       refine hpt.2 x t v hx ?_
       rw[List.getElem?_drop,List.getElem?_map,List.getElem?_range (by omega)] at hv
       simp only[Option.map_some,Option.some.injEq] at hv;have hmod:(i*esz+x)%z.length=x:=by
        rw[←hzl,q5,Nat.mul_comm,Nat.mul_add_mod,Nat.mod_eq_of_lt hxl]
       rw[hmod,List.getD_eq_getElem?_getD,List.getElem?_eq_getElem (show x<z.length by omega)] at hv
       rw[List.getElem?_eq_getElem (show x<z.length by omega),←hv];rfl
      have hoks:((List.range (N*esz)).map fun i=>z.getD (i%z.length) undefE).all okSh=true:=by
       have hz1:=PT_okSh hs (hasTys_ok g hty hz);rw[List.take_of_length_le (by omega)] at hz1
       rw[List.all_eq_true];intro v hv;obtain⟨i,_,rfl⟩:=List.mem_map.1 hv;have hlt:i%z.length<z.length:=Nat.mod_lt _ (by omega)
       rw[List.getD_eq_getElem?_getD,List.getElem?_eq_getElem hlt]
       exact List.all_eq_true.1 hz1 _ (List.getElem_mem hlt)
      obtain⟨g1,k1'⟩:=g.alloc (V':=V.sα S.nb (some (σ.size,0))) (he:= .arr false e esz (.ofList ts) n) (o:= .cells .rw e ((List.range (N*esz)).map fun i=>z.getD (i%z.length) undefE)) le rfl rfl rfl (fun x hx=>(g.fb x (by omega)).2)
       ⟨N,hN,q4, .inr ⟨σ.size,_,setF_at _ _ _,by rw[Store.get_alloc,if_pos rfl];rfl,⟨by simp,hoks⟩,fun i hi=>VT_ofList.2 (PT_sta st (hrow i hi))⟩⟩
      have hat:At (V.sα S.nb (some (σ.size,0))) S.nb esz 0 (some ⟨σ.size,0,none⟩):=⟨σ.size,0,setF_at _ _ _,by simp⟩
      obtain⟨V2,g2,k2',e2,_,_,p2⟩:=newSl (b:=S.nb) (off:= .num 0) (len:=n) (e:=esz) (cp:= .full) (p:=some ⟨σ.size,0,none⟩) (n:=N) (cap:=N) (o:=0) g1 hN (L.ev_num _) ⟨rfl,by unfold INF;omega,fun _=>hat, .inr ⟨0,Nat.le_refl _,hat⟩⟩
      refine⟨.slice (some ⟨σ.size,0,none⟩) N N,_,V2,U, ?_,g2,k1'.trans k2',e2,one_ok p2⟩
      simp only[evI,hlv,hcv];have hw:IntKind.i64.wrap (N:Int)=N:=wrap_in (by simp[kmin]) (by simp[kmax];omega)
      have hbytes:(bytes:Int)*N≤2^48:=by
       have h1:bytes*N≤65536*2^31:=Nat.mul_le_mul q3 (by omega)
       have:((bytes*N:Nat):Int)≤((65536*2^31:Nat):Int):=Int.ofNat_le.2 h1
       simp only[Int.natCast_mul] at this;omega
      rw[if_pos ⟨trivial,q1,by unfold INF;omega,hw,hbytes, .inl (by omega)⟩]
      simp
  ·cases h
 |mkm=>
  simp only[sxI,Option.some.injEq,Prod.mk.injEq] at h;obtain⟨rfl,rfl⟩:=h;have le:=Val.le_sα (p:=some (σ.size,0)) (g.fb S.nb (Nat.le_refl _)).1
  obtain⟨g1,k1⟩:=g.alloc (V':=V.sα S.nb (some (σ.size,0))) (he:= .map0) (o:= .map [] 0) le rfl rfl rfl (fun x hx=>(g.fb x (by omega)).2)
   ⟨σ.size,0,0,setF_at _ _ _,by rw[Store.get_alloc,if_pos rfl]⟩
  exact⟨_,_,_,U,rfl,g1,k1,rfl,one_ok (c:= .map S.nb) ⟨σ.size,0,setF_at _ _ _,rfl⟩⟩
 |lenS x=>
  simp only[sxI] at h;split at h
  ·rename_i k b off len esz cp hc
   simp only[Option.some.injEq,Prod.mk.injEq] at h;obtain⟨rfl,rfl⟩:=h;obtain⟨p,n,cap,o,w1,hxv,w2,w3,w4⟩:=cell_ok he hc;exact .same g (one_ok (c:= .int .i64 len) ⟨n,w2,rfl⟩) (by simp only[evI,hxv])
  ·rename_i hc
   simp only[Option.some.injEq,Prod.mk.injEq] at h;obtain⟨rfl,rfl⟩:=h;have hv:a.eval x= .slice none 0 0:=cell_ok he hc
   exact .same g (one_ok (c:= .int .i64 (.num 0)) ⟨0,L.ev_num _,rfl⟩) (by simp only[evI,hv];rfl)
  ·cases h
 |rngStr x=>
  simp only[sxI] at h;have fin:∀{s:ByteArray},a.eval x= .string s→(one (.ptr (newBlock (({S with nx:=S.nx+1}:SS).assume (.var S.nx)) (.iter (.var S.nx))).1 (.num 0)),(newBlock (({S with nx:=S.nx+1}:SS).assume (.var S.nx)) (.iter (.var S.nx))).2)=(sv,S1)→Stp (.rngStr x) a V U S σ sv S1:=by
   intro s hv h;simp only[Prod.mk.injEq] at h;obtain⟨rfl,rfl⟩:=h;obtain⟨V1,g1,k1,e1,h1,_,p1⟩:=More.newX g (s.size:Int);obtain⟨g2,k2⟩:=g1.assume (L.ev_var p1) (by omega)
   have ee:(({S with nx:=S.nx+1}:SS).assume (.var S.nx)).env=S.env:=assume_env ..
   generalize (({S with nx:=S.nx+1}:SS).assume (.var S.nx))=S2 at*
   have le:=Val.le_sα (p:=some (σ.size,0)) (g2.fb S2.nb (Nat.le_refl _)).1
   have hα:(V1.sα S2.nb (some (σ.size,0))).α S2.nb=some (some (σ.size,0)):=setF_at _ _ _
   obtain⟨g3,k3⟩:=g2.alloc (V':=V1.sα S2.nb (some (σ.size,0))) (he:= .iter (.var S.nx)) (o:= .iter s 0) le rfl rfl rfl (fun x hx=>(g2.fb x (by omega)).2)
    ⟨σ.size,s,0,hα,by rw[Store.get_alloc,if_pos rfl],by rw[Nat.sub_zero];exact L.ev_var (ρ:=V1.ρ) p1⟩
   exact⟨_,_,_,U,by simp only[evI,hv],g3,(k1.trans k2).trans k3,ee,one_ok (c:= .ptr S2.nb (.num 0)) ⟨0,σ.size,0,L.ev_num _,hα,rfl⟩⟩
  split at h
  ·rename_i y hc
   obtain⟨_,s,hv⟩:=cell_ok he hc;exact fin hv (Option.some.inj h)
  ·rename_i y hc
   have hv:a.eval x= .string y:=cell_ok he hc
   exact fin hv (Option.some.inj h)
  ·cases h
 |lenStr x=>
  simp only[sxI] at h;split at h
  ·rename_i y hc
   obtain⟨_,s,hv⟩:=cell_ok he hc;simp only[Option.some.injEq,Prod.mk.injEq] at h;obtain⟨rfl,rfl⟩:=h;obtain⟨V1,g1,k1,e1,h1,_,p1⟩:=More.newX g (s.size:Int);obtain⟨g2,k2⟩:=g1.assume (L.ev_var p1) (by omega)
   exact⟨.int .i64 (s.size:Int),σ,V1,U,by simp only[evI,hv],g2,k1.trans k2,(assume_env ..).trans e1,one_ok (c:= .int .i64 (.var S.nx)) ⟨_,L.ev_var p1,rfl⟩⟩
  ·rename_i s hc
   simp only[Option.some.injEq,Prod.mk.injEq] at h;obtain⟨rfl,rfl⟩:=h;have hv:a.eval x= .string s:=cell_ok he hc
   exact .same g (one_ok (c:= .int .i64 (.num s.size)) ⟨_,L.ev_num _,rfl⟩) (by simp only[evI,hv])
  ·cases h
 |lenM x=>
  simp only[sxI] at h;split at h
  ·rename_i b hc
   obtain⟨blk0,of0,hα,hv⟩:=cell_ok he hc;split at h
   ·rename_i hh
    simp only[Option.some.injEq,Prod.mk.injEq] at h;obtain⟨rfl,rfl⟩:=h;obtain⟨blk,of,clk,h1,h2⟩:=g.heap b _ hh;rw[hα] at h1;cases h1
    exact .same g (one_ok (c:= .int .i64 (.num 0)) ⟨_,L.ev_num _,rfl⟩) (by simp[evI,mapOf,hv,h2])
   ·rename_i ks gg vt vr hh
    simp only[Option.some.injEq,Prod.mk.injEq] at h;obtain⟨rfl,rfl⟩:=h;obtain⟨blk,of,es,clk,h1,h2,_⟩:=g.heap b _ hh;rw[hα] at h1;cases h1
    exact .of g ((More.newX g (es.length:Int)).imp fun V1 _ p=>one_ok (c:= .int .i64 (.var S.nx)) ⟨_,L.ev_var p,rfl⟩) (by simp[evI,mapOf,hv,h2])
   ·cases h
  ·rename_i hc
   simp only[Option.some.injEq,Prod.mk.injEq] at h;obtain⟨rfl,rfl⟩:=h;have hv:a.eval x= .map none:=cell_ok he hc
   exact .same g (one_ok (c:= .int .i64 (.num 0)) ⟨_,L.ev_num _,rfl⟩) (by simp[evI,mapOf,hv])
  ·cases h
 |mx xs=>
  simp only[sxI] at h;split at h
  ·rename_i x y r
   cases hi:S.int x with
   |none=>rw[hi] at h;cases h
   |some q=>
    obtain⟨k,l⟩:=q;rw[hi] at h;simp only at h;cases hf:fold2S S true k l (y::r) with
    |none=>rw[hf] at h;cases h
    |some q=>
     obtain⟨c,S2⟩:=q;rw[hf] at h;simp only[Option.map_some,Option.some.injEq,Prod.mk.injEq] at h;obtain⟨rfl,rfl⟩:=h;obtain⟨n,hn,hv⟩:=int_ok he hi;obtain⟨v,h1,h2⟩:=fold2S_ok g he hf hn;refine .of g h2.one ?_
     simp only[if_true,List.map_cons] at h1;simp only[evI,List.map_cons,hv,h1,Option.map_some]
  ·cases h
 |mn xs=>
  simp only[sxI] at h;split at h
  ·rename_i x y r
   cases hi:S.int x with
   |none=>rw[hi] at h;cases h
   |some q=>
    obtain⟨k,l⟩:=q;rw[hi] at h;simp only at h;cases hf:fold2S S false k l (y::r) with
    |none=>rw[hf] at h;cases h
    |some q=>
     obtain⟨c,S2⟩:=q;rw[hf] at h;simp only[Option.map_some,Option.some.injEq,Prod.mk.injEq] at h;obtain⟨rfl,rfl⟩:=h;obtain⟨n,hn,hv⟩:=int_ok he hi;obtain⟨v,h1,h2⟩:=fold2S_ok g he hf hn;refine .of g h2.one ?_
     simp only[Bool.false_eq_true,if_false,List.map_cons] at h1;simp only[evI,List.map_cons,hv,h1,Option.map_some]
  ·cases h
 |app e esz bytes s x=>
  simp only[sxI] at h;split at h
  ·rename_i p q h1 h2
   cases hb:appS S e esz bytes p q with
   |none=>rw[hb] at h;cases h
   |some r=>
    obtain⟨c,S2⟩:=r;rw[hb] at h;simp only[Option.map_some,Option.some.injEq,Prod.mk.injEq] at h;obtain⟨rfl,rfl⟩:=h;obtain⟨v,σ',V',U',r1,r2,r3,r4,r5⟩:=appS_ok g hb (cell_ok he h1) (cell_ok he h2);exact⟨v,σ',V',U',r1,r2,r3,r4,one_ok r5⟩
  ·cases h
 |copy esz d s=>
  simp only[sxI] at h;split at h
  ·rename_i p q h1 h2
   cases hb:copyS S esz p q with
   |none=>rw[hb] at h;cases h
   |some r=>
    obtain⟨c,S2⟩:=r;rw[hb] at h;simp only[Option.map_some,Option.some.injEq,Prod.mk.injEq] at h;obtain⟨rfl,rfl⟩:=h;obtain⟨v,σ',V',U',r1,r2,r3,r4,r5⟩:=copyS_ok g hb (cell_ok he h1) (cell_ok he h2);exact⟨v,σ',V',U',r1,r2,r3,r4,one_ok r5⟩
  ·cases h
 |strOf x=>
  simp only[sxI] at h;split at h
  ·rename_i k hc
   simp only[Option.some.injEq,Prod.mk.injEq] at h;obtain⟨rfl,rfl⟩:=h;have hcc:=cell_ok he hc;obtain⟨_,s,hv⟩:=cell_ok he hc;exact .same g (one_ok hcc) (by simp only[evI,hv])
  ·rename_i s hc
   simp only[Option.some.injEq,Prod.mk.injEq] at h;obtain⟨rfl,rfl⟩:=h;have:=cell_ok he hc
   have hv:a.eval x= .string s:=this
   exact .same g (one_ok this) (by simp only[evI,hv])
  ·cases h
 |_=>cases h
end Go.Ev.Sx
end
end SxS3
section SxF
noncomputable section
namespace Go.Ev.Sx
variable {V V':Val} {U U':Nat→Prop} {S S':SS} {σ σ':Store} {a:Env} {θ:Th}
def evB (V:Val):B→Option Bool
 | .c b=>some b
 | .ge l=>(l.ev V.ρ).map fun n=>decide (0≤n)
 | .eq l=>(l.ev V.ρ).map fun n=>decide (n=0)
 | .ne l=>(l.ev V.ρ).map fun n=>decide (n≠0)
 | .k x ng=>match V.κ x with
  |some (.bool z)=>some (z !=ng)
  |_=>none
def valC (V:Val):C→Option Value
 | .bool b=>(evB V b).map .bool
 | .str x=>V.κ x
 | .sl x _ _ _ _ _=>V.κ x
 | .nilsl=>some (.slice none 0 0)
 |_=>none
theorem evB_ok {b:B} {x:Bool} (h:BR V b x):evB V b=some x:=by
 cases b with
 |c b=>cases h;rfl
 |ge l=>obtain⟨n,hn,rfl⟩:=h;simp[evB,hn]
 |eq l=>obtain⟨n,hn,rfl⟩:=h;simp[evB,hn]
 |ne l=>obtain⟨n,hn,rfl⟩:=h;simp[evB,hn]
 |k y ng=>obtain⟨z,hz,rfl⟩:=h;simp[evB,hz]
def Vh (V:Val) (θ:Th):Val where
 ρ x:=if θ.nx≤x then(look x θ.xs).bind fun l=>l.ev V.ρ else V.ρ x
 α b:=if θ.nb≤b then(match look b θ.bs with
  |some (some b')=>V.α b'
  |some none=>some none
  |none=>none) else V.α b
 κ x:=if θ.nk≤x then(look x θ.ks).bind (valC V) else V.κ x
 lp b:=if θ.nb≤b then none else V.lp b
theorem ble_iff {x y:Nat}:Nat.ble x y=true↔x≤y:=by rw[Nat.ble_eq]
theorem subT_ok (g:G V U S σ):∀{ts:List (Nat×Int)} {m:L},subT S θ ts=some m→∃n,m.ev V.ρ=some n∧evT (Vh V θ).ρ ts=some n:=by
 intro ts;induction ts with
 |nil=>intro m h;simp only[subT,Option.some.injEq] at h;subst h;exact⟨0,L.ev_num 0,rfl⟩
 |cons p ts ih=>
  intro m h;obtain⟨x,k⟩:=p;simp only[subT] at h;cases hr:subT S θ ts with
  |none=>rw[hr] at h;cases h
  |some s=>
   rw[hr] at h;simp only at h;obtain⟨n,h1,h2⟩:=ih hr;cases hb:Nat.ble θ.nx x with
   |true=>
    rw[hb] at h;simp only[cond_true] at h;cases hl:look x θ.xs with
    |none=>rw[hl] at h;cases h
    |some l=>
     rw[hl] at h;simp only at h;cases hd:S.defd l with
     |false=>rw[hd] at h;cases h
     |true=>
      rw[hd] at h;simp only[cond_true,Option.some.injEq] at h;subst h;obtain⟨v,hv⟩:=g.defd hd;refine⟨k*v+n,L.ev_add (L.ev_smul k hv) h1,evT_cons.2 ⟨v,n, ?_,h2,rfl⟩⟩
      show(if θ.nx≤x then _ else _)=_
      rw[if_pos (bleN hb),hl];exact hv
   |false=>
    rw[hb] at h;simp only[cond_false] at h;cases hd:S.defd ⟨0,[(x,k)]⟩ with
    |false=>rw[hd] at h;cases h
    |true=>
     rw[hd] at h;simp only[cond_true,Option.some.injEq] at h;subst h;obtain⟨w,hw⟩:=g.defd hd;obtain⟨s',hs',rfl⟩:=L.ev_some.1 hw;obtain⟨v,z,hv,hz,rfl⟩:=evT_cons.1 hs';simp only[evT,Option.some.injEq] at hz;subst hz;refine⟨_,L.ev_add hw h1,evT_cons.2 ⟨v,n, ?_,h2,by simp⟩⟩
     show(if θ.nx≤x then _ else _)=_
     rw[if_neg (fun e=>by rw[ble_iff.2 e] at hb;cases hb)];exact hv
theorem sub_ok (g:G V U S σ) {l m:L} (h:l.sub' S θ=some m):∃n,m.ev V.ρ=some n∧l.ev (Vh V θ).ρ=some n:=by
 unfold L.sub' at h;cases hs:subT S θ l.ts with
 |none=>rw[hs] at h;cases h
 |some s=>
  rw[hs] at h;simp only[Option.map_some,Option.some.injEq] at h;subst h;obtain⟨n,h1,h2⟩:=subT_ok g hs;exact⟨n+l.c,L.ev_addc _ h1,L.ev_some.2 ⟨n,h2,by omega⟩⟩
theorem isL_ok (g:G V U S σ) {l m:L} (h:isL S θ l m=true) {n:Int} (hm:m.ev V.ρ=some n):l.ev (Vh V θ).ρ=some n:=by
 unfold isL at h;cases hs:l.sub' S θ with
 |none=>rw[hs] at h;cases h
 |some l'=>
  rw[hs] at h;obtain⟨k,h1,h2⟩:=sub_ok g hs;have:=L.beq_eq h;subst this
  rw[hm] at h1;cases h1;exact h2
theorem isLE_ok (g:G V U S σ) {l m:L} (h:isLE S θ l m=true) {n:Int} (hm:m.ev V.ρ=some n):l.ev (Vh V θ).ρ=some n:=by
 unfold isLE at h;cases hs:l.sub' S θ with
 |none=>rw[hs] at h;cases h
 |some l'=>
  rw[hs] at h;obtain⟨k,h1,h2⟩:=sub_ok g hs;have:=SS.entEq_ok g.iv g.facts h h1 hm
  subst this;exact h2
theorem subTy_ok (g:G V U S σ):∀{t u:Ty},subTy S θ t=some u→∀{l:List Value},VT V U σ u l→VT (Vh V θ) U σ t l:=by
 intro t;induction t with
 |int k lo hi=>
  intro u h l hv;simp only[subTy] at h;split at h
  ·rename_i x y h1 h2
   simp only[Option.some.injEq] at h;subst h;obtain⟨n,tl,p,q,e,e1,e2,e3⟩:=hv;obtain⟨n1,f1,f2⟩:=sub_ok g h1;obtain⟨n2,f3,f4⟩:=sub_ok g h2;rw[e1] at f1;cases f1
   rw[e2] at f3;cases f3
   exact⟨n,tl,p,q,e,f2,f4,e3⟩
  ·cases h
 |bool=>intro u h l hv;simp only[subTy,Option.some.injEq] at h;subst h;exact hv
 |str=>intro u h l hv;simp only[subTy,Option.some.injEq] at h;subst h;exact hv
 |nil=>intro u h l hv;trivial
 |cons t1 t2 ih1 ih2=>
  intro u h l hv;simp only[subTy] at h;split at h
  ·rename_i x y h1 h2
   simp only[Option.some.injEq] at h;subst h;obtain⟨r1,x',tl,e,r2⟩:=hv;exact⟨ih1 h1 r1,x',tl,e,ih2 h2 r2⟩
  ·cases h
 |sl e esz p lo hi ih=>
  intro u h l hv;simp only[subTy] at h;split at h
  ·rename_i q x y h0 h1 h2
   simp only[Option.some.injEq] at h;subst h;obtain⟨q',n,cap,tl,p',r',e1,e2,e3,e4,e5,e6,e7⟩:=hv;obtain⟨n1,f1,f2⟩:=sub_ok g h1;obtain⟨n2,f3,f4⟩:=sub_ok g h2;rw[e2] at f1;cases f1
   rw[e3] at f3;cases f3
   refine⟨q',n,cap,tl,p',r',e1,f2,f4,e4,e5,e6, ?_⟩
   rcases e7 with e7| ⟨blk,o,st,c,k1,k2,k3,k4,k5⟩
   ·exact .inl e7
   ·exact .inr ⟨blk,o,st,c,k1,k2,k3,k4,fun i hi=>ih h0 (k5 i hi)⟩
  ·cases h
theorem beqB_ok {b c:B} (h:beqB b c=true):b=c:=by
 cases b<;>cases c<;>simp only[beqB] at h<;>first|(cases h;done)|skip
 ·simp at h;rw[h]
 ·rw[L.beq_eq h]
 ·rw[L.beq_eq h]
 ·rw[L.beq_eq h]
 ·simp only[Bool.and_eq_true,beq_iff_eq] at h;rw[beqN h.1,h.2]
theorem beqC_val {c d:C} (h:beqC c d=true) {v:Value} (hd:CR V U σ d v) (hc:(match c with| .bool _| .str _| .sl .. | .nilsl=>true|_=>false)=true):valC V c=some v:=by
 cases c with
 |bool b=>cases d with
  |bool b'=>have:=beqB_ok h;subst this;obtain⟨x,hx,rfl⟩:=hd;simp[valC,evB_ok hx]
  |_=>cases h
 |str x=>cases d with
  |str y=>have:=beqN h;subst this;exact hd.1
  |_=>cases h
 |sl x b off len e cp=>cases d with
  |sl y b' off' len' e' cp'=>have:=beqN h;subst this;obtain⟨p,n,cap,o,h1,_⟩:=hd;exact h1
  |_=>cases h
 |nilsl=>cases d with
  |nilsl=>cases hd;rfl
  |_=>cases h
 |_=>cases hc
theorem isBk_ok {b b':Nat} (h:isBk θ b b'=true):(Vh V θ).α b=V.α b':=by
 unfold isBk Th.b at h;show(if θ.nb≤b then _ else _)=_
 cases hb:Nat.ble θ.nb b with
 |true=>
  rw[hb] at h;simp only[cond_true] at h;rw[if_pos (bleN hb)];split at h
  ·rename_i x e;rw[e];have:=beqN h;subst this;rfl
  ·cases h
 |false=>
  rw[hb] at h;simp only[cond_false] at h;rw[if_neg (fun e=>by rw[ble_iff.2 e] at hb;cases hb)]
  have:=beqN h;subst this;rfl
theorem isAbs_ok {b:Nat} (h:isAbs θ b=true):(Vh V θ).α b=some none:=by
 unfold isAbs Th.b at h;show(if θ.nb≤b then _ else _)=_
 cases hb:Nat.ble θ.nb b with
 |true=>
  rw[hb] at h;simp only[cond_true] at h;rw[if_pos (bleN hb)];split at h
  ·rename_i e;rw[e]
  ·cases h
 |false=>rw[hb] at h;cases h
theorem old_κ {x:Nat} (h:Nat.ble θ.nk x=false):(Vh V θ).κ x=V.κ x:=by
 show(if θ.nk≤x then _ else _)=_
 rw[if_neg (fun e=>by rw[ble_iff.2 e] at h;cases h)]
theorem new_κ {x:Nat} (h:Nat.ble θ.nk x=true) {c:C} (hc:look x θ.ks=some c):(Vh V θ).κ x=valC V c:=by
 show(if θ.nk≤x then _ else _)=_
 rw[if_pos (bleN h),hc];rfl
theorem At_h {b b' e o:Nat} (h:isBk θ b b'=true) {p:Option Addr} (ha:At V b' e o p):At (Vh V θ) b e o p:=by
 obtain⟨blk,of,h1,h2⟩:=ha;exact⟨blk,of,by rw[isBk_ok h];exact h1,h2⟩
theorem BR_h (g:G V U S σ) {b:B} (hb:∀x n,b= .k x n→Nat.ble θ.nk x=false) (hc:∀l,(b= .ge l∨b= .eq l∨b= .ne l)→False) {x:Bool} (h:BR V b x):BR (Vh V θ) b x:=by
 cases b with
 |c b=>exact h
 |ge l=>exact(hc l (.inl rfl)).elim
 |eq l=>exact(hc l (.inr (.inl rfl))).elim
 |ne l=>exact(hc l (.inr (.inr rfl))).elim
 |k y ng=>obtain⟨z,h1,h2⟩:=h;exact⟨z,by rw[old_κ (hb y ng rfl)];exact h1,h2⟩
theorem SlR_h {b b' e o:Nat} (hb:isBk θ b b'=true) {cp cp':Cap} (hc:capEq cp cp'=true) {p:Option Addr} {n cap:Nat} (h:SlR V b' e o cp' p n cap):SlR (Vh V θ) b e o cp p n cap:=by
 have sat:∀{p:Option Addr},Sat V b' e o p→Sat (Vh V θ) b e o p:=by
  intro p hs;rcases hs with hs| ⟨o',h1,h2⟩
  ·exact .inl hs
  ·exact .inr ⟨o',h1,At_h hb h2⟩
 cases cp<;>cases cp'<;>simp only[capEq] at hc<;>first|(cases hc;done)|skip
 ·rcases h with⟨h1,h2⟩| ⟨h1,h2⟩
  ·exact .inl ⟨by rw[isBk_ok hb];exact h1,h2⟩
  ·exact .inr ⟨At_h hb h1,h2⟩
 ·exact⟨h.1,h.2.1,fun hn=>At_h hb (h.2.2.1 hn),sat h.2.2.2⟩
 ·exact⟨by have:=h.1;have:=h.2.1;omega,by have:=h.1;omega,fun hn=>At_h hb (h.2.2.1 hn),sat h.2.2.2⟩
 ·exact⟨h.1,h.2.1,fun hn=>At_h hb (h.2.2.1 hn),sat h.2.2.2⟩
 ·rcases h with⟨h1,h2,h3,h4,h5⟩| ⟨h1,h2,h3⟩
  ·exact⟨⟨by omega,by unfold INF;omega⟩,fun hh=>by rcases hh with hh|hh;exact absurd h3 hh;rw[h4] at hh;exact absurd hh (by decide), .inl h2⟩
  ·exact⟨⟨by omega,by omega⟩,fun _=>At_h hb h1, .inr ⟨o,Nat.le_refl _,At_h hb h1⟩⟩
 ·exact⟨⟨by have:=h.1;omega,by have:=h.1;have:=h.2.1;omega⟩,fun hh=>At_h hb (h.2.2.1 (by have:=h.1;have:=h.2.1;rcases hh with hh|hh<;>omega)),sat h.2.2.2⟩
 ·exact⟨⟨by have:=h.2.1;omega,by have:=h.1;omega⟩,fun hh=>At_h hb (h.2.2.1 (by have:=h.1;have:=h.2.1;rcases hh with hh|hh<;>omega)),sat h.2.2.2⟩
 ·exact⟨h.1,fun hn=>At_h hb (h.2.1 hn),sat h.2.2⟩
theorem mC_ok (g:G V U S σ) {c d:C} (h:mC S θ c d=true) {v:Value} (hd:CR V U σ d v):CR (Vh V θ) U σ c v:=by
 have kap:∀{x:Nat} {q:Bool},(bif Nat.ble θ.nk x then(match look x θ.ks with
   |some d'=>q&&beqC d' d
   |none=>false) else false)=true→(match d with| .bool _| .str _| .sl .. | .nilsl=>true|_=>false)=true→(Vh V θ).κ x=some v:=by
  intro x q hh hk;cases hb:Nat.ble θ.nk x with
  |false=>rw[hb] at hh;cases hh
  |true=>
   rw[hb] at hh;simp only[cond_true] at hh;cases hl:look x θ.ks with
   |none=>rw[hl] at hh;cases hh
   |some d'=>
    rw[hl] at hh;simp only[Bool.and_eq_true] at hh;rw[new_κ hb hl];refine beqC_val hh.2 hd ?_
    cases d'<;>cases d<;>first|rfl|(cases hh.2;done)|(cases hk;done)
 cases c with
 |ty t=>
  simp only[mC] at h;cases ht:subTy S θ t with
  |none=>rw[ht] at h;cases h
  |some u=>rw[ht] at h;exact⟨subTy_ok g ht (hasTy_ok g h hd),CR_one hd⟩
 |int k l=>cases d with
  |int k' m=>
   simp only[mC,Bool.and_eq_true] at h;obtain⟨n,hn,rfl⟩:=hd;rw[←kbeq_eq h.1];exact⟨n,isLE_ok g h.2 hn,rfl⟩
  |_=>cases h
 |bool b=>
  cases b with
  |c b0=>cases d with
   |bool b'=>cases b' with
    |c b1=>simp only[mC,beq_iff_eq] at h;subst h;obtain⟨x,hx,rfl⟩:=hd;exact⟨x,hx,rfl⟩
    |_=>cases h
   |_=>cases h
  |k x ng=>
   cases ng with
   |true=>cases d<;>cases h
   |false=>
    simp only[mC] at h;cases hb:Nat.ble θ.nk x with
    |true=>
     rw[hb] at h;simp only[cond_true] at h;cases hl:look x θ.ks with
     |none=>rw[hl] at h;cases h
     |some d'=>
      rw[hl] at h;simp only[Bool.and_eq_true] at h;cases d with
      |bool b'=>
       have hv:=beqC_val h.2 hd (by cases d'<;>first|rfl|(cases h.2;done))
       obtain⟨z,_,rfl⟩:=hd;exact⟨z,⟨z,by rw[new_κ hb hl];exact hv,by cases z<;>rfl⟩,rfl⟩
      |_=>cases h.1
    |false=>
     rw[hb] at h;simp only[cond_false] at h;cases d with
     |bool b'=>
      have:=beqB_ok h
      subst this;obtain⟨z,hz,rfl⟩:=hd;exact⟨z,BR_h g (fun x' n e=>by cases e;exact hb) (fun l e=>by rcases e with e|e|e<;>cases e) hz,rfl⟩
     |_=>cases h
  |ge l=>cases d with
   |bool b'=>cases b'<;>cases h
   |_=>cases h
  |eq l=>cases d with
   |bool b'=>cases b'<;>cases h
   |_=>cases h
  |ne l=>cases d with
   |bool b'=>cases b'<;>cases h
   |_=>cases h
 |str x=>
  simp only[mC] at h;cases hb:Nat.ble θ.nk x with
  |true=>
   rw[hb] at h;simp only[cond_true] at h;cases hl:look x θ.ks with
   |none=>rw[hl] at h;cases h
   |some d'=>
    rw[hl] at h;simp only[Bool.and_eq_true] at h;cases d with
    |str y=>exact⟨by rw[new_κ hb hl];exact beqC_val h.2 hd (by cases d'<;>first|rfl|(cases h.2;done)),hd.2⟩
    |_=>cases h.1
  |false=>
   rw[hb] at h;simp only[cond_false] at h;cases d with
   |str y=>have:=beqN h;subst this;exact⟨by rw[old_κ hb];exact hd.1,hd.2⟩
   |_=>cases h
 |strc s=>cases d<;>cases h
 |ptr b o=>cases d with
  |ptr b' o'=>
   simp only[mC,Bool.and_eq_true] at h;obtain⟨n,blk,of,h1,h2,h3⟩:=hd;exact⟨n,blk,of,isL_ok g h.2 h1,by rw[isBk_ok h.1];exact h2,h3⟩
  |_=>cases h
 |sl x b off len esz cp=>cases d with
  |sl y b' off' len' esz' cp'=>
   simp only[mC,Bool.and_eq_true] at h;obtain⟨⟨⟨⟨⟨h1,h2⟩,h3⟩,h4⟩,h5⟩,h6⟩:=h;obtain⟨p,n,cap,o,w1,w2,w3,w4,w5⟩:=hd;have:=beqN h5;subst this
   refine⟨p,n,cap,o, ?_,w2,isLE_ok g h4 w3,isLE_ok g h3 w4,SlR_h h2 h6 w5⟩
   cases hb:Nat.ble θ.nk x with
   |true=>
    rw[hb] at h1;simp only[cond_true] at h1;cases hl:look x θ.ks with
    |none=>rw[hl] at h1;cases h1
    |some d'=>
     rw[hl] at h1;rw[new_κ hb hl];exact beqC_val (U:=U) (σ:=σ) h1 ⟨p,n,cap,o,w1,w2,w3,w4,w5⟩ (by cases d'<;>first|rfl|(cases h1;done))
   |false=>
    rw[hb] at h1;simp only[cond_false] at h1;have:=beqN h1;subst this
    rw[old_κ hb];exact w1
  |nilsl=>
   simp only[mC,Bool.and_eq_true] at h;obtain⟨⟨⟨⟨h1,h2⟩,h3⟩,h4⟩,h5⟩:=h;have hd':v= .slice none 0 0:=hd
   subst hd';refine⟨none,0,0,0, ?_,rfl,isL_ok g h3 (L.ev_num 0),isL_ok g h4 (L.ev_num 0), ?_⟩
   ·cases hl:look x θ.ks with
    |none=>rw[hl] at h2;cases h2
    |some d'=>
     rw[hl] at h2;rw[new_κ h1 hl];cases d'<;>first|rfl|(cases h2;done)
   ·cases cp with
    |inf=>exact .inl ⟨isAbs_ok h5,rfl,rfl,rfl,rfl⟩
    |full=>exact⟨rfl,by unfold INF;omega,fun h=>absurd rfl h, .inl rfl⟩
    |any=>exact⟨by unfold INF;omega,Nat.le_refl _,fun h=>absurd rfl h, .inl rfl⟩
    |unk=>exact⟨⟨Nat.le_refl _,by unfold INF;omega⟩,fun h=>by rcases h with h|h;exact absurd rfl h;exact absurd h (by decide), .inl rfl⟩
  |_=>cases h
 |nilsl=>cases d<;>first|exact hd|cases h
 |nilptr=>cases d<;>first|exact hd|cases h
 |nilmap=>cases d<;>first|exact hd|cases h
 |nilfn=>cases d<;>first|exact hd|cases h
 |nilif=>cases d<;>first|exact hd|cases h
 |map b=>cases d with
  |map b'=>obtain⟨blk,of,h1,h2⟩:=hd;exact⟨blk,of,by rw[isBk_ok h];exact h1,h2⟩
  |_=>cases h
 |fn x=>cases d with
  |fn y=>
   simp only[mC,Bool.and_eq_true,Bool.not_eq_true'] at h;have:=beqN h.1;subst this
   exact⟨by rw[old_κ h.2];exact hd.1,hd.2⟩
  |_=>cases h
 |gfn f=>cases d with
  |gfn f'=>have:=beqN h;subst this;exact hd
  |_=>cases h
 |yld b=>cases d with
  |yld b'=>
   simp only[mC,Bool.and_eq_true,Bool.not_eq_true'] at h;have:=beqN h.1;subst this
   obtain⟨blk,of,h1,h2⟩:=hd;refine⟨blk,of, ?_,h2⟩
   show(if θ.nb≤b then _ else _)=_
   rw[if_neg (fun e=>by rw[ble_iff.2 e] at h;cases h.2)];exact h1
  |_=>cases h
theorem mCs_ok (g:G V U S σ):∀{cs ds:List C},mCs S θ cs ds=true→∀{vs:List Value},F2 (CR V U σ) ds vs→F2 (CR (Vh V θ) U σ) cs vs
 | [],[],_,[],_=>trivial
 | [],[],_,_::_,hv=>by cases hv
 | [],_::_,h,_,_=>by cases h
 |_::_,[],h,_,_=>by cases h
 |c::cs,d::ds,h,[],hv=>by cases hv
 |c::cs,d::ds,h,v::vs,hv=>by
  simp only[mCs,Bool.and_eq_true] at h;exact⟨mC_ok g h.1 hv.1,mCs_ok g h.2 hv.2⟩
theorem mW_ok (g:G V U S σ) {gg gg':Bool} {cs ds:List C} (h:((gg==gg')&&mCs S θ cs ds)=true) {v:Value} (hv:WR V U σ (gg',ds) v):WR (Vh V θ) U σ (gg,cs) v:=by
 rw[Bool.and_eq_true,beq_iff_eq] at h;obtain⟨rfl,h⟩:=h;cases gg with
 |true=>obtain⟨vs,h1,h2⟩:=hv;exact⟨vs,h1,mCs_ok g h h2⟩
 |false=>
  obtain⟨d,h1,h2⟩:=hv;simp only at h1;subst h1;cases cs with
  |nil=>cases h
  |cons c cs=>cases cs with
   |nil=>simp only[mCs,Bool.and_true] at h;exact⟨c,rfl,mC_ok g h h2⟩
   |cons c' cs=>simp[mCs] at h
theorem mWs_ok (g:G V U S σ):∀{cs ds:List (Bool×List C)},mWs S θ cs ds=true→∀{vs:List Value},F2 (WR V U σ) ds vs→F2 (WR (Vh V θ) U σ) cs vs
 | [],[],_,[],_=>trivial
 | [],[],_,_::_,hv=>by cases hv
 | [],_::_,h,_,_=>by cases h
 |_::_,[],h,_,_=>by cases h
 |c::cs,d::ds,h,[],hv=>by cases hv
 |(g1,c)::cs,(g2,d)::ds,h,v::vs,hv=>by
  simp only[mWs,Bool.and_eq_true] at h;exact⟨mW_ok g (by rw[Bool.and_eq_true];exact h.1) hv.1,mWs_ok g h.2 hv.2⟩
theorem mSV_ok (g:G V U S σ) {x y:SV} (h:mSV S θ x y=true) {v:Value} (hv:SVR V U σ y v):SVR (Vh V θ) U σ x v:=by
 cases x with
 |any=>trivial
 |w g1 cs=>cases y with
  |w g2 ds=>exact mW_ok g h hv
  |_=>cases h
 |tup ws=>cases y with
  |tup us=>obtain⟨vs,h1,h2⟩:=hv;exact⟨vs,h1,mWs_ok g h h2⟩
  |_=>cases h
theorem mEnv_ok (g:G V U S σ) (he:GE V U σ S.env a):∀{e:List (Nat×SV)},mEnv S θ e=true→GE (Vh V θ) U σ e a:=by
 intro e;induction e with
 |nil=>intro _ t sv h;cases h
 |cons p e ih=>
  intro h t sv hl;obtain⟨t',v⟩:=p;simp only[mEnv,Bool.and_eq_true] at h;rw[look_cons] at hl;by_cases ht:t=t'
  ·rw[if_pos ht] at hl
   cases hl
   cases hlk:look t' S.env with
   |none=>rw[hlk] at h;cases h.1
   |some v'=>rw[hlk] at h;rw[ht];exact mSV_ok g h.1 (he t' v' hlk)
  ·rw[if_neg ht] at hl;exact ih h.2 t sv hl
theorem width_sub :∀{t u:Ty},subTy S θ t=some u→u.width=t.width:=by
 intro t;induction t with
 |cons a b _ ih=>
  intro u h;simp only[subTy] at h;split at h
  ·rename_i x y h1 h2
   simp only[Option.some.injEq] at h;subst h;simp[Ty.width,ih h2]
  ·cases h
 |int k lo hi=>intro u h;simp only[subTy] at h;split at h<;>simp at h;subst h;rfl
 |sl e z p lo hi=>intro u h;simp only[subTy] at h;split at h<;>simp at h;subst h;rfl
 |bool=>intro u h;simp only[subTy,Option.some.injEq] at h;subst h;rfl
 |str=>intro u h;simp only[subTy,Option.some.injEq] at h;subst h;rfl
 |nil=>intro u h;simp only[subTy,Option.some.injEq] at h;subst h;rfl
theorem pendEq_eq {p q:Option EC} (h:pendEq p q=true):p=q:=by
 unfold pendEq at h;split at h
 ·rfl
 ·rw[beqN h]
 ·rfl
 ·cases h
theorem mHE_ok (g:G V U S σ) {b b':Nat} (hb:isBk θ b b'=true) {h1 h2:HE} (hl:∀st p,h1= .loop st p→Nat.ble θ.nb b=false) (h:mHE S θ h1 h2=true) (hr:HR V U σ b' h2):HR (Vh V θ) U σ b h1:=by
 have hα:=isBk_ok (V:=V) hb
 cases h1 with
 |cells e cs=>cases h2 with
  |cells e' ds=>
   simp only[mHE,Bool.and_eq_true] at h;obtain⟨blk,vs,q1,q2,q3⟩:=hr;have:=beqN h.1;subst this
   exact⟨blk,vs,by rw[hα];exact q1,q2,mCs_ok g h.2 q3⟩
  |_=>cases h
 |arr gr e z p n=>cases h2 with
  |arr gr' e' z' p' n'=>
   simp only[mHE,Bool.and_eq_true,beq_iff_eq] at h;obtain⟨⟨⟨⟨c1,c2⟩,c3⟩,c4⟩,c5⟩:=h;have e1:=beqN c2;have e2:=beqN c3;subst c1;subst e1;subst e2;cases hp:subTy S θ p with
   |none=>rw[hp] at c5;cases c5
   |some q=>
    rw[hp] at c5;obtain⟨N,q1,q0,q2⟩:=hr;refine⟨N,isLE_ok g c4 q1,q0, ?_⟩
    rcases q2 with⟨q2,q3,q4⟩| ⟨blk,vs,q2,q3,q4,q5⟩
    ·exact .inl ⟨q2,by rw[hα];exact q3,q4⟩
    ·exact .inr ⟨blk,vs,by rw[hα];exact q2,q3,q4,fun i hi=>subTy_ok g hp (tyLe_ok g c5 (q5 i hi))⟩
  |_=>cases h
 |map ks gg t ver=>cases h2 with
  |map ks' gg' t' ver'=>
   simp only[mHE,Bool.and_eq_true,beq_iff_eq] at h;obtain⟨⟨⟨⟨c0,c1⟩,c2⟩,c3⟩,c5⟩:=h;subst c1;have hks:ks=ks':=by
    obtain⟨x,l⟩:=ks;obtain⟨x',l'⟩:=ks';unfold ckeq at c3;simp only[Bool.and_eq_true,beq_iff_eq] at c2 c3;subst c2;rw[cks_eq c3.1 c3.2]
   subst hks;cases hp:subTy S θ t with
   |none=>rw[hp] at c5;cases c5
   |some q=>
    rw[hp] at c5;simp only[Bool.and_eq_true] at c5;have hw:=beqN c5.2;obtain⟨blk,of,es,clk,q1,q2,q3,hver⟩:=hr;refine⟨blk,of,es,clk,by rw[hα];exact q1,q2,fun e he=> ⟨(q3 e he).1, ?_⟩,fun y hy=> ?_⟩
    rotate_left
    ·subst hy
     cases ver' with
     |none=>cases c0
     |some z=>
      simp only[verLe,Bool.and_eq_true] at c0;have hz:=beqN c0.1;subst hz;show(if θ.nk≤y then _ else _)=_
      rw[if_neg (fun e=>by have:=c0.2;rw[ble_iff.2 e] at this;cases this)]
      exact hver y rfl
    have:=(q3 e he).2
    cases gg with
    |true=>obtain⟨vs,r1,r2,r3⟩:=this;exact⟨vs,r1,subTy_ok g hp (tyLe_ok g c5.1 r2),by rw[hw];exact r3⟩
    |false=>exact⟨subTy_ok g hp (tyLe_ok g c5.1 this.1),by rw[hw];exact this.2⟩
  |map0=>
   obtain⟨blk,of,clk,q1,q2⟩:=hr;exact⟨blk,of,[],clk,by rw[hα];exact q1,q2,fun e he=>(by cases he),fun y hy=>(by subst hy;cases h)⟩
  |_=>cases h
 |map0=>cases h2 with
  |map0=>obtain⟨blk,of,clk,q1,q2⟩:=hr;exact⟨blk,of,clk,by rw[hα];exact q1,q2⟩
  |_=>cases h
 |mapS _ _ _ _ _=>cases h2<;>cases h
 |loop st p=>cases h2 with
  |loop st' p'=>
   simp only[mHE,Bool.and_eq_true] at h;have hst:st=st':=by
    have:=h.1
    cases st<;>cases st'<;>first|rfl|cases this
   subst hst;have hpe:=pendEq_eq h.2;subst hpe;obtain⟨blk,of,tm,ps,as,bd,q1,q2,q3⟩:=hr;have hob:=hl st p rfl;have hbb:b=b':=by
    unfold isBk Th.b at hb;rw[hob] at hb;exact beqN hb
   subst hbb;refine⟨blk,of,tm,ps,as,bd,by rw[hα];exact q1, ?_,q3⟩
   show(if θ.nb≤b then _ else _)=_
   rw[if_neg (fun e=>by rw[ble_iff.2 e] at hob;cases hob)];exact q2
  |_=>cases h
 |iter n=>cases h2 with
  |iter m=>
   obtain⟨blk,s,pos,q1,q2,q3⟩:=hr;exact⟨blk,s,pos,by rw[hα];exact q1,q2,isLE_ok g h q3⟩
  |_=>cases h
 |gone=>trivial
theorem gone_iff {h:HE}:h.isGone=true↔h= .gone:=by cases h<;>simp[HE.isGone]
theorem mHeap_mem :∀{l:List (Nat×HE)},mHeap S θ l=true→∀{b:Nat} {he:HE},(b,he)∈l→he≠ .gone→(∀st p,he= .loop st p→Nat.ble θ.nb b=false)∧
  ((∃b' h',isBk θ b b'=true∧S.getH b'=some h'∧mHE S θ he h'=true)∨(isAbs θ b=true∧∃e z p n,he= .arr true e z p n∧(isL S θ n (.num 0)&&Nat.ble 1 z)=true)):=by
 intro l;induction l with
 |nil=>intro _ b he hm;cases hm
 |cons p l ih=>
  intro h b he hm hne;obtain⟨b0,h0⟩:=p;simp only[mHeap,Bool.and_eq_true,Bool.or_eq_true] at h;rcases List.mem_cons.1 hm with e|hm
  ·cases e
   rcases h.1 with h1|h1
   ·exact absurd (gone_iff.1 h1) hne
   ·unfold mHeap1 at h1
    rw[Bool.and_eq_true] at h1;obtain⟨ha,hd⟩:=h1;refine⟨fun st p e=>by subst e;simpa[HE.isLoop] using ha, ?_⟩
    cases hb:θ.b b with
    |none=>rw[hb] at hd;cases hd
    |some ob=>
     rw[hb] at hd;cases ob with
     |none=>
      simp only at hd;refine .inr ⟨by unfold isAbs;rw[hb], ?_⟩
      unfold absOK at hd;split at hd
      ·exact⟨_,_,_,_,rfl,hd⟩
      ·cases hd
     |some b'=>
      simp only at hd;cases hg:S.getH b' with
      |none=>rw[hg] at hd;cases hd
      |some h'=>rw[hg] at hd;exact .inl ⟨b',h',by unfold isBk;rw[hb];exact Nat.beq_refl b',hg,hd⟩
  ·exact ih h.2 hm hne
theorem memN_iff {x:Nat}:∀{l:List Nat},memN x l=true↔x∈l
 | []=>by simp[memN_nil]
 |y::l=>by
  simp only[memN_c,Bool.or_eq_true,memN_iff (l:=l),List.mem_cons]
  constructor
  ·rintro(h|h)
   ·exact .inl (beqN h)
   ·exact .inr h
  ·rintro(h|h)
   ·subst h;exact .inl (Nat.beq_refl x)
   ·exact .inr h
theorem imgs_mem :∀{l:List (Nat×HE)} {b b':Nat} {he:HE},(b,he)∈l→he≠ .gone→θ.b b=some (some b')→b'∈imgs θ l:=by
 intro l;induction l with
 |nil=>intro b b' he hm;cases hm
 |cons p l ih=>
  intro b b' he hm hne hb;obtain⟨b0,h0⟩:=p;simp only[imgs];rcases List.mem_cons.1 hm with e|hm
  ·cases e
   have:he.isGone=false:=by cases hg:he.isGone with
    |false=>rfl
    |true=>exact absurd (gone_iff.1 hg) hne
   simp only[this,cond_false,hb];exact List.mem_cons_self
  ·have:=ih hm hne hb
   cases h0.isGone with
   |true=>exact this
   |false=>
    simp only[cond_false];split
    ·exact List.mem_cons_of_mem _ this
    ·exact this
theorem imgs_inj :∀{l:List (Nat×HE)},nodupN (imgs θ l)=true→∀{b1 b2 x:Nat} {h1 h2:HE},(b1,h1)∈l→(b2,h2)∈l→h1≠ .gone→h2≠ .gone→θ.b b1=some (some x)→θ.b b2=some (some x)→b1=b2:=by
 intro l;induction l with
 |nil=>intro _ b1 b2 x h1 h2 m1;cases m1
 |cons p l ih=>
  intro hn b1 b2 x h1 h2 m1 m2 n1 n2 e1 e2;obtain⟨b0,h0⟩:=p;simp only[imgs] at hn;have tail:nodupN (imgs θ l)=true:=by
   cases hg:h0.isGone with
   |true=>rw[hg] at hn;exact hn
   |false=>
    rw[hg] at hn;simp only[cond_false] at hn;split at hn
    ·simp only[nodupN,Bool.and_eq_true] at hn;exact hn.2
    ·exact hn
  have nohead:h0≠ .gone→θ.b b0=some (some x)→∀{b:Nat} {h:HE},(b,h)∈l→h≠ .gone→θ.b b=some (some x)→False:=by
   intro hg e0 b h hm hne e;have hin:=imgs_mem hm hne e;have:h0.isGone=false:=by cases hg':h0.isGone with
    |false=>rfl
    |true=>exact absurd (gone_iff.1 hg') hg
   simp only[this,cond_false,e0,nodupN,Bool.and_eq_true,Bool.not_eq_true'] at hn;rw[memN_iff.2 hin] at hn;cases hn.1
  rcases List.mem_cons.1 m1 with q1|m1'
  ·rcases List.mem_cons.1 m2 with q2|m2'
   ·rw[Prod.mk.injEq] at q1 q2;rw[q1.1,q2.1]
   ·rw[Prod.mk.injEq] at q1
    exact(nohead (by rw[←q1.2];exact n1) (by rw[←q1.1];exact e1) m2' n2 e2).elim
  ·rcases List.mem_cons.1 m2 with q2|m2'
   ·rw[Prod.mk.injEq] at q2
    exact(nohead (by rw[←q2.2];exact n2) (by rw[←q2.1];exact e2) m1' n1 e1).elim
   ·exact ih tail m1' m2' n1 n2 e1 e2
theorem mVW_ok (g:G V U S σ) {b b':Nat} (hb:isBk θ b b'=true) {w w':VW} (h:mVW S θ w w'=true) (hr:VwR V U σ b' w'):VwR (Vh V θ) U σ b w:=by
 unfold mVW at h;simp only[Bool.and_eq_true] at h;obtain⟨⟨⟨⟨⟨⟨c1,c2⟩,c3⟩,c4⟩,c45⟩,c5⟩,c6⟩:=h;have hα:=isBk_ok (V:=V) hb
 have e1:=beqN c1;have e2:=beqN c2;have hmemo:w.memo= []:=List.isEmpty_iff.1 c5
 cases hp:subTy S θ w.pat with
 |none=>rw[hp] at c4;cases c4
 |some q=>
  rw[hp] at c4;simp only at c4;have hr':=hr;obtain⟨N,q1,q2,q3⟩:=hr;refine⟨N,isLE_ok g c3 q1,fun p t e=> ?_, ?_⟩
  ·rw[e] at c6
   simp only at c6;split at c6
   ·rename_i p' u h1 h2;obtain⟨n,_,h4⟩:=sub_ok g h1;exact⟨n,h4⟩
   ·cases c6
  ·rcases q3 with⟨q3,q4,_⟩| ⟨blk,o,st,vs,q3,q4,q5,q6,q7,q8,q9⟩
   ·exact .inl ⟨by rw[hα];exact q3,q4,hmemo⟩
   ·obtain⟨N',st',vs',m1,m2,m3,m4,m5⟩:=VW.ty_ok g hr' q3
    rw[q5] at m3;cases m3
    rw[q1] at m1;have:N=N':=by have:=Option.some.inj m1;omega
    subst this;refine .inr ⟨blk,o,st,vs,by rw[hα];exact q3,q4,by rw[e1];exact q5,by rw[e2];exact q6,fun i hi=> ?_,fun p t e P hP i hi hiP=> ?_,fun i cs hm=>(by rw[hmemo] at hm;cases hm),fun ho=>q9.2 (by rw[ho] at c45;simpa using c45)⟩
    ·rw[e2];exact subTy_ok g hp (tyLe_ok g c4 (m5 i hi))
    ·rw[e] at c6
     simp only at c6;split at c6
     ·rename_i p' u h1 h2
      obtain⟨n,h3,h4⟩:=sub_ok g h1;rw[hP] at h4;cases h4
      rw[Bool.or_eq_true] at c6;rcases c6 with c6|c6
      ·have:=L.z_ev (ρ:=V.ρ) c6
       rw[h3] at this;have:=Option.some.inj this
       omega
      ·cases hw:w'.pre with
       |none=>rw[hw] at c6;cases c6
       |some qv=>
        obtain⟨q',v'⟩:=qv;rw[hw] at c6;simp only[Bool.and_eq_true,Bool.or_eq_true] at c6;obtain⟨d1,d2⟩:=c6;obtain⟨Q,hQ⟩:=q2 q' v' hw;have old:(i:Int)<Q→VT (Vh V θ) U σ t (vs.drop (o+i*w.esz)):=fun hiQ=>by
         rw[e2];exact subTy_ok g h2 (tyLe_ok g d1 (q8 q' v' hw Q hQ i hi hiQ))
        rcases d2 with d2| ⟨d2,d3⟩
        ·have:=g.ent d2 (L.ev_sub hQ h3)
         exact old (by omega)
        ·have hPQ:=SS.entEq_ok g.iv g.facts d2 h3 (L.ev_addc 1 hQ)
         by_cases hiQ:(i:Int)<Q
         ·exact old hiQ
         ·unfold memoTy at d3
          split at d3
          ·rename_i cs ts hma htl
           obtain⟨I,k1,k2,k3⟩:=q9.1 q' cs (memoAt_mem hma);rw[hQ] at k1;have:i=I:=by have:=Option.some.inj k1;omega
           subst this;have hpt:=hasTys_ok g d3 k3;rw[e2];refine subTy_ok g h2 ((VT_list htl _).2 ?_)
           have:=PT_app ((vs.drop (o+i*w'.esz)).drop w'.esz) hpt
           rwa [List.take_append_drop] at this
          ·cases d3
     ·cases c6
end Go.Ev.Sx
end
end SxF
section SxF2
noncomputable section
namespace Go.Ev.Sx
variable {V V':Val} {U U':Nat→Prop} {S S':SS} {σ σ':Store} {a:Env} {θ:Th}
theorem keysLt_look {α:Type} {n x:Nat} {c:α}:∀{l:List (Nat×α)},keysLt n l=true→look x l=some c→x<n
 | [],_,h=>by cases h
 |(y,b)::l,hk,h=>by
  simp only[keysLt,Bool.and_eq_true] at hk;rw[look_cons] at h;by_cases e:x=y
  ·rw[e];have:=hk.1;rw[Nat.blt_eq] at this;exact this
  ·rw[if_neg e] at h;exact keysLt_look hk.2 h
theorem mIv_ok (g:G V U S σ):∀{iv:Iv},mIv S θ iv=true→IvOK (Vh V θ).ρ iv
 | [],_=>by intro x lo hi h;cases h
 |(x,lo,hi)::r,h=>by
  simp only[mIv,Bool.and_eq_true] at h;obtain⟨⟨h1,h2⟩,h3⟩:=h;cases hl:look x θ.xs with
  |none=>rw[hl] at h2;cases h2
  |some l=>
   rw[hl] at h2;simp only[Bool.and_eq_true] at h2;obtain⟨⟨d1,d2⟩,d3⟩:=h2;obtain⟨v,hv⟩:=g.defd d1;have q1:=g.ent d2 (L.ev_addc _ hv);have q2:=g.ent d3 (L.ev_sub (L.ev_num _) hv);refine IvOK.cons (n:=v) ?_ (by omega) (by omega) (mIv_ok g h3)
   show(if θ.nx≤x then _ else _)=_
   rw[if_pos (bleN h1),hl];exact hv
theorem mFacts_ok (g:G V U S σ):∀{fs:List L},mFacts S θ fs=true→FOK (Vh V θ).ρ fs
 | [],_=>by intro f h;cases h
 |f::r,h=>by
  simp only[mFacts,Bool.and_eq_true] at h;cases hs:f.sub' S θ with
  |none=>rw[hs] at h;cases h.1
  |some m=>
   rw[hs] at h;obtain⟨n,h1,h2⟩:=sub_ok g hs;exact FOK.cons h2 (g.ent h.1 h1) (mFacts_ok g h.2)
theorem mVws_mem :∀{l:List (Nat×VW)},mVws S θ l=true→∀{b:Nat} {w:VW},(b,w)∈l→(∃b' w',isBk θ b b'=true∧S.getV b'=some w'∧mVW S θ w w'=true)∨(isAbs θ b=true∧isL S θ w.n (.num 0)=true∧w.memo= []∧w.pre=none):=by
 intro l;induction l with
 |nil=>intro _ b w hm;cases hm
 |cons p l ih=>
  intro h b w hm;obtain⟨b0,w0⟩:=p;simp only[mVws,Bool.and_eq_true] at h;rcases List.mem_cons.1 hm with e|hm
  ·cases e
   have hd:=h.1;cases hb:θ.b b with
   |none=>rw[hb] at hd;cases hd
   |some ob=>
    rw[hb] at hd;cases ob with
    |none=>
     simp only[Bool.and_eq_true] at hd;exact .inr ⟨by unfold isAbs;rw[hb],hd.1.1,List.isEmpty_iff.1 hd.1.2,by cases hp:w.pre with|none=>rfl|some _=>rw[hp] at hd;cases hd.2⟩
    |some b'=>
     simp only at hd;cases hg:S.getV b' with
     |none=>rw[hg] at hd;cases hd
     |some w'=>rw[hg] at hd;exact .inl ⟨b',w',by unfold isBk;rw[hb];exact Nat.beq_refl b',hg,hd⟩
  ·exact ih h.2 hm
theorem fits_ok {S0:SS} {h:LH} (hf:fits S0 h S θ=true) {V0:Val} {U0:Nat→Prop} {σ0:Store} (g0:G V0 U0 S0 σ0) (st:Sta V0 U0 σ0 V U σ) (g:G V U S σ) (he:GE V U σ S.env a):
  V0.le (Vh V θ)∧G (Vh V θ) U (head S0 h) σ∧GE (Vh V θ) U σ (head S0 h).env a∧(∀l,Own (Vh V θ) (head S0 h) l→Own V S l)∧S0.nx≤h.nx∧S0.nb≤h.nb∧S0.nk≤h.nk:=by
 unfold fits at hf;simp only[Bool.and_eq_true] at hf;obtain⟨⟨⟨⟨⟨⟨⟨⟨⟨⟨⟨⟨⟨⟨⟨⟨⟨k1,k2⟩,k3⟩,t1⟩,t2⟩,t3⟩,m1⟩,m2⟩,m3⟩,m4⟩,m5⟩,m6⟩,n1⟩,n2⟩,n3⟩,n4⟩,n5⟩,n6⟩:=hf;have t1:=beqN t1;have t2:=beqN t2;have t3:=beqN t3;have n1:=bleN n1;have n2:=bleN n2;have n3:=bleN n3;have n4:=bleN n4;have n5:=bleN n5;have n6:=bleN n6;have le:V0.le (Vh V θ):=by
  refine⟨fun x n hx=> ?_,fun x n hx=> ?_,fun x n hx=> ?_,fun x n hx=> ?_⟩
  ·have:¬θ.nx≤x:=fun e=>by rw[g0.fx x (by omega)] at hx;cases hx
   show(if θ.nx≤x then _ else _)=_
   rw[if_neg this];exact st.le.ρ _ _ hx
  ·have:¬θ.nb≤x:=fun e=>by rw[(g0.fb x (by omega)).1] at hx;cases hx
   show(if θ.nb≤x then _ else _)=_
   rw[if_neg this];exact st.le.α _ _ hx
  ·have:¬θ.nk≤x:=fun e=>by rw[g0.fk x (by omega)] at hx;cases hx
   show(if θ.nk≤x then _ else _)=_
   rw[if_neg this];exact st.le.κ _ _ hx
  ·have:¬θ.nb≤x:=fun e=>by rw[(g0.fb x (by omega)).2] at hx;cases hx
   show(if θ.nb≤x then _ else _)=_
   rw[if_neg this];exact st.le.lp _ _ hx
 have sth:Sta V0 U0 σ0 (Vh V θ) U σ:=⟨le,st.ule,st.same⟩
 have img:∀{b:Nat} {hh:HE} {l p:Nat},look b (head S0 h).heap=some hh→hh.own=true→(Vh V θ).α b=some (some (l,p))→∃b' h',θ.b b=some (some b')∧look b' S.heap=some h'∧h'.own=true∧V.α b'=some (some (l,p)):=by
  intro b hh l p hl ho ha;have hne:hh≠ .gone:=fun e=>by subst e;cases ho
  obtain⟨hloop,hc⟩:=mHeap_mem m2 (look_mem hl) hne;rcases hc with⟨b',h',q1,q2,q3⟩| ⟨q1,_⟩
  ·refine⟨b',h', ?_,q2, ?_, ?_⟩
   ·unfold isBk at q1
    split at q1
    ·rename_i x e;rw[e,beqN q1]
    ·cases q1
   ·cases h' with
    |gone=>cases hh with
     |gone=>cases ho
     |loop st p=>cases q3
     |_=>cases q3
    |_=>rfl
   ·rw[←isBk_ok (V:=V) q1];exact ha
  ·rw[isAbs_ok q1] at ha;cases ha
 have own:∀l,Own (Vh V θ) (head S0 h) l→Own V S l:=by
  rintro l ⟨b,hh,p,h1,h2,h3⟩
  obtain⟨b',h',q1,q2,q3,q4⟩:=img h1 h2 h3;exact⟨b',h',p,q2,q3,q4⟩
 refine⟨le,⟨IvOK.append (mIv_ok g m5) (g0.iv.mono le.ρ), ?_,fun b hh hl=> ?_,fun b b' h1 h2 l p p' e1 e2 o1 o2 a1 a2=> ?_,fun l hl=>g.nu l (own l hl),fun b w hw=> ?_,fun x k hk=>KR_sta sth (g0.clos x k hk),fun x hx=> ?_,fun x hx=> ?_,fun x hx=> ?_,g.uin⟩,mEnv_ok g he m1,own,n4,n5,n6⟩
 ·intro f hf
  rcases List.mem_append.1 hf with hf|hf
  ·exact mFacts_ok g m6 f hf
  ·exact g0.facts.mono le.ρ f hf
 ·by_cases hne:hh= .gone
  ·subst hne;trivial
  ·obtain⟨hloop,hc⟩:=mHeap_mem m2 (look_mem hl) hne
   rcases hc with⟨b',h',q1,q2,q3⟩| ⟨q1,e,z,p,n,rfl,q2⟩
   ·exact mHE_ok g q1 hloop q3 (g.heap b' h' q2)
   ·rw[Bool.and_eq_true] at q2
    exact⟨0,isL_ok g q2.1 (L.ev_num 0),bleN q2.2, .inl ⟨rfl,isAbs_ok q1,rfl⟩⟩
 ·obtain⟨x,hx,q1,q2,q3,q4⟩:=img e1 o1 a1
  obtain⟨y,hy,r1,r2,r3,r4⟩:=img e2 o2 a2;have hxy:=g.inj x y hx hy l p p' q2 r2 q3 r3 q4 r4;subst hxy;exact imgs_inj m3 (look_mem e1) (look_mem e2) (fun e=>by subst e;cases o1) (fun e=>by subst e;cases o2) q1 r1
 ·rw[show(head S0 h).vws=h.vws++S0.vws from rfl,look_append] at hw
  cases hl:look b h.vws with
  |some w'=>
   rw[hl] at hw;have hww:w'=w:=Option.some.inj hw
   subst hww;rcases mVws_mem m4 (look_mem hl) with⟨b',w2,q1,q2,q3⟩| ⟨q1,q2,q3,q4⟩
   ·exact mVW_ok g q1 q3 (g.view q2)
   ·exact⟨0,isL_ok g q2 (L.ev_num 0),fun p t (e:w'.pre=some (p,t))=>(by rw[q4] at e;cases e), .inl ⟨isAbs_ok q1,rfl,q3⟩⟩
  |none=>
   rw[hl] at hw;exact VwR_sta sth (g0.vws b w hw)
 ·have hx':h.nx≤x:=hx
  show(if θ.nx≤x then _ else _)=_
  rw[if_pos (by omega)]
  cases hl:look x θ.xs with
  |none=>rfl
  |some l=>have:=keysLt_look k1 hl;omega
 ·have hx':h.nb≤x:=hx
  constructor
  ·show(if θ.nb≤x then _ else _)=_
   rw[if_pos (by omega)]
   cases hl:look x θ.bs with
   |none=>rfl
   |some l=>have:=keysLt_look k2 hl;omega
  ·show(if θ.nb≤x then _ else _)=_
   rw[if_pos (by omega)]
 ·have hx':h.nk≤x:=hx
  show(if θ.nk≤x then _ else _)=_
  rw[if_pos (by omega)]
  cases hl:look x θ.ks with
  |none=>rfl
  |some l=>have:=keysLt_look k3 hl;omega
end Go.Ev.Sx
end
end SxF2
section EvW
namespace Go.Ev
def WW (F:FuncId→Option EFunc) (H:Caller) (base:Nat) (ops:List EOp) (Q:Env→Store→List Store→List Look→Prop) (a:Env) (σ:Store) (h:List Store) (ls:List Look):Prop:=
 ∃a' σ' h' ls',(∃N,∀n,N≤n→evOpsD (evCall F H n) base ops a σ h ls=some (a',σ',h',ls'))∧Q a' σ' h' ls'
section
variable {F :FuncId→Option EFunc} {H:Caller} {a:Env} {σ:Store} {base:Nat} {hs:List Store} {ls:List Look} {os:List EOp} {QW:Env→Store→List Store→List Look→Prop}
theorem WB_regW {Q:Ex→Env→Store→Prop} {pre:List (TypeId×List Value)} {ops:List EOp} (h:WW F H σ.size ops (fun a σ hs ls=>ls.all (stable hs)=true∧Q .norm a σ) a (allocs pre σ) [allocs pre σ] []):WB F H (.regD pre ops) Q a σ:=by
 obtain⟨a2,σ2,h2,l2,⟨N,hN⟩,hst,hq⟩:=h;exact⟨_,a2,σ2,⟨N,fun n hn=>by simp[evCode,evRegD,hN n hn,hst]⟩,hq⟩
theorem sW_nil (h:QW a σ hs ls):WW F H base [] QW a σ hs ls:=⟨a,σ,hs,ls,⟨0,fun _ _=>rfl⟩,h⟩
end
end Go.Ev
end EvW
section SxV
noncomputable section
namespace Go.Ev.Sx
variable {F :FuncId→Option EFunc} {H:Caller}
variable {V V':Val} {U U':Nat→Prop} {S S':SS} {σ σ':Store} {a:Env}
def YR (V:Val) (U:Nat→Prop) (σ:Store) (ys:List (Nat×YC)):Prop:=∀b y,look b ys=some y→∃tm,V.lp b=some (tm,y.ps,y.as,y.body)∧GE V U σ y.env tm
def PostR (rc:RC) (V1:Val) (U1:Nat→Prop) (σ1:Store) (v:Value) (σ':Store):Prop:=
 ∃V2 U2,G V2 U2 (head (head rc.S rc.pre) rc.post) σ'∧GE V2 U2 σ' (head (head rc.S rc.pre) rc.post).env (envOf [v])∧Kp V1 U1 (head rc.S rc.pre) σ1 V2 U2 (head (head rc.S rc.pre) rc.post) σ'
def PostA (rc:RC) (V1:Val) (U1:Nat→Prop) (σ1:Store) (v:Value) (σ':Store):Prop:=∃h2,h2∈rc.posts∧PostR (rc.with h2) V1 U1 σ1 v σ'
def RcR (F:FuncId→Option EFunc) (H:Caller) (V:Val) (U:Nat→Prop) (σ:Store) (rc:RC):Prop:=
 ∃V0 U0 σ0 mi,G V0 U0 rc.S σ0∧Sta V0 U0 σ0 V U σ∧rc.pre.meas.ev V.ρ=some mi∧∀V1 U1 σ1 m1 args,Sta V0 U0 σ0 V1 U1 σ1→G V1 U1 (head rc.S rc.pre) σ1→GE V1 U1 σ1 (head rc.S rc.pre).env (envOf args)→
  rc.pre.meas.ev V1.ρ=some m1→m1.toNat<mi.toNat→args.length=rc.n→WC F H (.func rc.f) args (PostA rc V1 U1 σ1) σ1
def QcR (F:FuncId→Option EFunc) (H:Caller) (V:Val) (U:Nat→Prop) (σ:Store) (rc:RC):Prop:=
 ∃V0 U0 σ0 blk of,G V0 U0 rc.S σ0∧Sta V0 U0 σ0 V U σ∧V0.α rc.f=some (some (blk,of))∧∀V1 U1 σ1 args,Sta V0 U0 σ0 V1 U1 σ1→G V1 U1 (head rc.S rc.pre) σ1→GE V1 U1 σ1 (head rc.S rc.pre).env (envOf args)→
  args.length=rc.n→WC F H (.yield blk) args (PostA rc V1 U1 σ1) σ1
def CcR (F:FuncId→Option EFunc) (H:Caller) (V:Val) (U:Nat→Prop) (σ:Store) (rc:RC):Prop:=
 ∃V0 U0 σ0,G V0 U0 rc.S σ0∧Sta V0 U0 σ0 V U σ∧∀V1 U1 σ1 args,Sta V0 U0 σ0 V1 U1 σ1→G V1 U1 (head rc.S rc.pre) σ1→GE V1 U1 σ1 (head rc.S rc.pre).env (envOf args)→
  args.length=rc.n→WC F H (.func rc.f) args (PostA rc V1 U1 σ1) σ1
structure CX (F:FuncId→Option EFunc) (H:Caller) (V:Val) (U:Nat→Prop) (σ:Store) (Y:Ys):Prop where
 ys:YR V U σ Y.ys
 rs:∀rc∈Y.rs,RcR F H V U σ rc
 qs:∀rc∈Y.qs,QcR F H V U σ rc
 cs:∀rc∈Y.cs,CcR F H V U σ rc
theorem Sta.trans {V1 V2:Val} {U1 U2:Nat→Prop} {σ1 σ2:Store} (a:Sta V U σ V1 U1 σ1) (b:Sta V1 U1 σ1 V2 U2 σ2):Sta V U σ V2 U2 σ2:=
 ⟨a.le.trans b.le,fun l h=>b.ule l (a.ule l h),fun l h=>(b.same l (a.ule l h)).trans (a.same l h)⟩
theorem CX.sta {Y:Ys} (c:CX F H V U σ Y) (s:Sta V U σ V' U' σ'):CX F H V' U' σ' Y:=by
 refine⟨fun b y h=> ?_,fun rc h=> ?_,fun rc h=> ?_,fun rc h=> ?_⟩
 ·obtain⟨tm,h1,h2⟩:=c.ys b y h;exact⟨tm,s.le.lp _ _ h1,GE_sta s h2⟩
 ·obtain⟨V0,U0,σ0,mi,h1,h2,h3,h4⟩:=c.rs rc h;exact⟨V0,U0,σ0,mi,h1,h2.trans s,L.ev_mono s.le.ρ h3,h4⟩
 ·obtain⟨V0,U0,σ0,blk,of,h1,h2,h3⟩:=c.qs rc h;exact⟨V0,U0,σ0,blk,of,h1,h2.trans s,h3⟩
 ·obtain⟨V0,U0,σ0,h1,h2,h3⟩:=c.cs rc h;exact⟨V0,U0,σ0,h1,h2.trans s,h3⟩
def CallR (V:Val) (U:Nat→Prop) (S:SS) (σ:Store) (l:List (SV×SS)) (v:Value) (σ':Store):Prop:=
 ∃sv S',(sv,S')∈l∧∃V' U',G V' U' S' σ'∧Kp V U S σ V' U' S' σ'∧SVR V' U' σ' sv v∧S'.env=S.env
def KOK (F:FuncId→Option EFunc) (H:Caller) (K:CallF):Prop:=
 ∀Y f args S hs l hs',K Y f args S hs=some (l,hs')→∀V U σ vals,CX F H V U σ Y→G V U S σ→F2 (SVR V U σ) args vals→
  match f with
  | .func f=>WC F H (.func f) vals (CallR V U S σ l) σ
  | .yield b=>∀blk of,V.α b=some (some (blk,of))→WC F H (.yield blk) vals (CallR V U S σ l) σ
theorem thr_mem {α β:Type} {f:α→Hs→Res β}:∀{l:List α} {hs hs':Hs} {ys:List β},thr f l hs=some (ys,hs')→∀x∈l,∃h1 zs h2,f x h1=some (zs,h2)∧∀z∈zs,z∈ys:=by
 intro l;induction l with
 |nil=>intro hs hs' ys _ x hx;cases hx
 |cons y l ih=>
  intro hs hs' ys h x hx;simp only[thr] at h;cases hf:f y hs with
  |none=>rw[hf] at h;cases h
  |some q=>
   obtain⟨zs,h1⟩:=q;rw[hf] at h;simp only at h;cases ht:thr f l h1 with
   |none=>rw[ht] at h;cases h
   |some q=>
    obtain⟨ws,h2⟩:=q;rw[ht] at h;simp only[Option.some.injEq,Prod.mk.injEq] at h;obtain⟨rfl,rfl⟩:=h;rcases List.mem_cons.1 hx with e|hx
    ·subst e;exact⟨hs,zs,h1,hf,fun z hz=>List.mem_append_left _ hz⟩
    ·obtain⟨a1,a2,a3,a4,a5⟩:=ih ht x hx
     exact⟨a1,a2,a3,a4,fun z hz=>List.mem_append_right _ (a5 z hz)⟩
theorem holds_ok (g:G V U S σ) {b:B} (h:BR V b true):∃S1,S.holds b=some S1∧G V U S1 σ∧Kp V U S σ V U S1 σ∧S1.env=S.env:=by
 have step:∀{S:SS} (g:G V U S σ) {l:L} {n:Int},l.ev V.ρ=some n→0≤n→G V U (S.assume l) σ∧Kp V U S σ V U (S.assume l) σ∧(S.assume l).env=S.env:=fun g l n hl hn=> ⟨(g.assume hl hn).1,(g.assume hl hn).2,assume_env _ _⟩
 cases b with
 |c b=>cases h;exact⟨S,rfl,g, .refl ..,rfl⟩
 |k x n=>exact⟨S,rfl,g, .refl ..,rfl⟩
 |ge l=>
  obtain⟨n,hn,hx⟩:=h;have h0:0≤n:=by simpa using hx.symm
  simp only[SS.holds];cases hp:S.prove 2 ((l.smul (-1)).addc (-1)) with
  |true=>have:=g.prove hp (L.ev_addc _ (L.ev_neg hn));omega
  |false=>obtain⟨r1,r2,r3⟩:=step g hn h0;exact⟨_,rfl,r1,r2,r3⟩
 |eq l=>
  obtain⟨n,hn,hx⟩:=h;have h0:n=0:=by simpa using hx.symm
  simp only[SS.holds];cases hp:(S.prove 2 (l.addc (-1))||S.prove 2 ((l.smul (-1)).addc (-1))) with
  |true=>
   rw[Bool.or_eq_true] at hp;rcases hp with hp|hp
   ·have:=g.prove hp (L.ev_addc _ hn);omega
   ·have:=g.prove hp (L.ev_addc _ (L.ev_neg hn));omega
  |false=>
   obtain⟨r1,r2,r3⟩:=step g hn (by omega)
   obtain⟨s1,s2,s3⟩:=step r1 (L.ev_neg hn) (by omega)
   exact⟨_,rfl,s1,r2.trans s2,s3.trans r3⟩
 |ne l=>
  obtain⟨n,hn,hx⟩:=h;have h0:n≠0:=by simpa using hx.symm
  simp only[SS.holds];cases hc:l.isC with
  |some m=>
   have:=L.isC_ev (ρ:=V.ρ) hc
   rw[hn] at this;cases this
   simp only
   cases hz:isZ n with
   |true=>exact absurd ((isZ_iff _).1 hz) h0
   |false=>exact⟨S,rfl,g, .refl ..,rfl⟩
  |none=>
   simp only
   cases h1:S.prove 1 l with
   |true=>
    have q:=g.prove h1 hn;simp only[cond_true];cases h2:S.prove 2 (l.smul (-1)) with
    |true=>have:=g.prove h2 (L.ev_neg hn);omega
    |false=>obtain⟨r1,r2,r3⟩:=step g (L.ev_addc (-1) hn) (by omega);exact⟨_,rfl,r1,r2,r3⟩
   |false=>
    simp only[cond_false];cases h2:S.prove 1 (l.smul (-1)) with
    |true=>have q:=g.prove h2 (L.ev_neg hn);obtain⟨r1,r2,r3⟩:=step g (L.ev_addc (-1) (L.ev_neg hn)) (by omega);exact⟨_,rfl,r1,r2,r3⟩
    |false=>exact⟨S,rfl,g, .refl ..,rfl⟩
theorem splitT_ok (g:G V U S σ) (he:GE V U σ S.env a) {t:Tmp} {l:List (Bool×SS)} (h:splitT S t=some l):
  ∃x,a.get t= .bool x∧∃S1,(x,S1)∈l∧G V U S1 σ∧Kp V U S σ V U S1 σ∧GE V U σ S1.env a:=by
 unfold splitT at h;cases hc:S.cell (.tmp t) with
 |none=>rw[hc] at h;cases h
 |some c=>
  rw[hc] at h;cases c with
  |bool b=>
   simp only[Option.some.injEq] at h;obtain⟨x,hx,hv⟩:=cell_ok he hc;have put:∀{S1:SS},S1.env=S.env→GE V U σ (S1.put (some t) (one (.bool (.c x)))).env a:=by
    intro S1 e t' sv hl;rw[show(S1.put (some t) (one (.bool (.c x)))).env=(t,one (.bool (.c x)))::S1.env from rfl,look_cons,e] at hl
    by_cases ht:t'=t
    ·rw[if_pos ht] at hl;cases hl;rw[ht];exact⟨_,rfl,x,rfl,hv⟩
    ·rw[if_neg ht] at hl;exact he t' sv hl
   have gput:∀{S1:SS},G V U S1 σ→Kp V U S σ V U S1 σ→G V U (S1.put (some t) (one (.bool (.c x)))) σ∧Kp V U S σ V U (S1.put (some t) (one (.bool (.c x)))) σ:=by
    intro S1 g1 k1;exact⟨⟨g1.iv,g1.facts,g1.heap,g1.inj,g1.nu,g1.vws,g1.clos,g1.fx,g1.fb,g1.fk,g1.uin⟩,⟨k1.le,k1.ule,k1.unew,k1.size,k1.same,k1.own⟩⟩
   refine⟨x,hv, ?_⟩
   cases x with
   |true=>
    obtain⟨S1,h1,h2,h3,h4⟩:=holds_ok g hx;refine⟨_, ?_,(gput h2 h3).1,(gput h2 h3).2,put h4⟩
    rw[←h,h1];simp
   |false=>
    obtain⟨S1,h1,h2,h3,h4⟩:=holds_ok g (neg_ok hx);refine⟨_, ?_,(gput h2 h3).1,(gput h2 h3).2,put h4⟩
    rw[←h,h1];simp
  |_=>cases h
theorem splitN_ok (g:G V U S σ) (he:GE V U σ S.env a) {t:Tmp} {l:L} {eq x:Bool} {n:Int} (hn:l.ev V.ρ=some n) (hx:x=if n=0 then eq else !eq) (hv:a.get t= .bool x):
  ∃S1,(x,S1)∈splitN S t l eq∧G V U S1 σ∧Kp V U S σ V U S1 σ∧GE V U σ S1.env a:=by
 have put:∀{S1:SS},S1.env=S.env→GE V U σ (S1.put (some t) (one (.bool (.c x)))).env a:=by
  intro S1 e t' sv hl;rw[show(S1.put (some t) (one (.bool (.c x)))).env=(t,one (.bool (.c x)))::S1.env from rfl,look_cons,e] at hl
  by_cases ht:t'=t
  ·rw[if_pos ht] at hl;cases hl;rw[ht];exact⟨_,rfl,x,rfl,hv⟩
  ·rw[if_neg ht] at hl;exact he t' sv hl
 have fin:∀{b:B},BR V b true→(∀S1,S.holds b=some S1→(x,S1.put (some t) (one (.bool (.c x))))∈splitN S t l eq)→∃S1,(x,S1)∈splitN S t l eq∧G V U S1 σ∧Kp V U S σ V U S1 σ∧GE V U σ S1.env a:=by
  intro b hb hm;obtain⟨S1,h1,h2,h3,h4⟩:=holds_ok g hb;exact⟨_,hm S1 h1,⟨h2.iv,h2.facts,h2.heap,h2.inj,h2.nu,h2.vws,h2.clos,h2.fx,h2.fb,h2.fk,h2.uin⟩,⟨h3.le,h3.ule,h3.unew,h3.size,h3.same,h3.own⟩,put h4⟩
 by_cases h0:n=0
 ·rw[if_pos h0] at hx
  subst hx;exact fin (b:= .eq l) ⟨n,hn,by simp[h0]⟩ fun S1 h1=>by unfold splitN;simp only[h1];simp
 ·rw[if_neg h0] at hx
  subst hx;rcases Int.lt_or_gt_of_ne h0 with h1|h1
  ·exact fin (b:= .ge ((l.smul (-1)).addc (-1))) ⟨_,L.ev_addc _ (L.ev_neg hn),by simp;omega⟩ fun S1 h1=>by unfold splitN;simp only[h1];simp
  ·exact fin (b:= .ge (l.addc (-1))) ⟨_,L.ev_addc _ hn,by simp;omega⟩ fun S1 h1=>by unfold splitN;simp only[h1];simp
theorem condL_ok (g:G V U S σ) (he:GE V U σ S.env a) {t:Tmp} {hs h0:List Hint} {l:List (Bool×SS)} (h:condL S t hs=some (l,h0)):
  ∃x,a.get t= .bool x∧∃S1,(x,S1)∈l∧G V U S1 σ∧Kp V U S σ V U S1 σ∧GE V U σ S1.env a:=by
 have plain:∀{h1:List Hint},(splitT S t).map (·,h1)=some (l,h0)→∃x,a.get t= .bool x∧∃S1,(x,S1)∈l∧G V U S1 σ∧Kp V U S σ V U S1 σ∧GE V U σ S1.env a:=by
  intro h1 h;cases hs:splitT S t with
  |none=>rw[hs] at h;cases h
  |some l'=>
   rw[hs] at h;simp only[Option.map_some,Option.some.injEq,Prod.mk.injEq] at h;obtain⟨rfl,_⟩:=h;exact splitT_ok g he hs
 unfold condL at h;split at h
 ·split at h
  ·rename_i l' hc
   cases hu:unkL S l' with
   |false=>rw[hu] at h;exact plain h
   |true=>
   rw[hu] at h;simp only[cond_true,Option.some.injEq,Prod.mk.injEq] at h;obtain⟨rfl,rfl⟩:=h;obtain⟨x,⟨n,hn,hx⟩,hv⟩:=cell_ok he hc;exact⟨x,hv,splitN_ok g he hn (by rw[hx];by_cases h0:n=0<;>simp[h0]) hv⟩
  ·rename_i l' hc
   cases hu:unkL S l' with
   |false=>rw[hu] at h;exact plain h
   |true=>
   rw[hu] at h;simp only[cond_true,Option.some.injEq,Prod.mk.injEq] at h;obtain⟨rfl,rfl⟩:=h;obtain⟨x,⟨n,hn,hx⟩,hv⟩:=cell_ok he hc;exact⟨x,hv,splitN_ok g he hn (by rw[hx];by_cases h0:n=0<;>simp[h0]) hv⟩
  ·exact plain h
 ·exact plain h
theorem G.env (g:G V U S σ) (e:List (Nat×SV)):G V U {S with env:=e} σ:=⟨g.iv,g.facts,g.heap,g.inj,g.nu,g.vws,g.clos,g.fx,g.fb,g.fk,g.uin⟩
theorem Kp.env2 (k:Kp V U S σ V' U' S' σ') (e:List (Nat×SV)):Kp V U S σ V' U' {S' with env:=e} σ':=⟨k.le,k.ule,k.unew,k.size,k.same,k.own⟩
theorem Kp.env1 {e:List (Nat×SV)} (k:Kp V U {S with env:=e} σ V' U' S' σ'):Kp V U S σ V' U' S' σ':=⟨k.le,k.ule,k.unew,k.size,k.same,k.own⟩
theorem G.put (g:G V U S σ) (d:Option Tmp) (v:SV):G V U (S.put d v) σ:=by cases d with
 |none=>exact g
 |some t=>exact g.env _
theorem Kp.put (k:Kp V U S σ V' U' S' σ') (d:Option Tmp) (v:SV):Kp V U S σ V' U' (S'.put d v) σ':=by cases d with
 |none=>exact k
 |some t=>exact k.env2 _
theorem GE.put (he:GE V U σ S.env a) {d:Option Tmp} {sv:SV} {v:Value} (h:SVR V U σ sv v):GE V U σ (S.put d sv).env (a.put d v):=by
 cases d with
 |none=>exact he
 |some t=>
  intro t' sv' hl;rw[show(S.put (some t) sv).env=(t,sv)::S.env from rfl,look_cons] at hl
  show SVR V U σ sv' (Env.get (T.set a t v) t')
  rw[Env.get_put];by_cases ht:t'=t
  ·rw[if_pos ht] at hl ⊢;cases hl;exact h
  ·rw[if_neg ht] at hl ⊢;exact he t' sv' hl
def RunOp (F:FuncId→Option EFunc) (H:Caller) (base:Nat) (op:I) (a:Env) (σ:Store) (r:Value×Store):Prop:=∃N,∀n,N≤n→evOpD (evCall F H n) base op a σ=some r
theorem ws_sv :∀{ws:List (Bool×List C)} {vs:List Value},F2 (WR V U σ) ws vs→F2 (SVR V U σ) (ws.map svOf) vs
 | [],[],_=>trivial
 |w::ws,v::vs,h=> ⟨h.1,ws_sv h.2⟩
theorem callV_ok {K:CallF} (hK:KOK F H K) {Y:Ys} (hY:CX F H V U σ Y) (g:G V U S σ) {c:C} {args:List SV} {hs hs':Hs} {l:List (SV×SS)} (h:callV K Y c args S hs=some (l,hs')) {fv:Value} (hc:CR V U σ c fv) {vals:List Value} (hv:F2 (SVR V U σ) args vals):
  ∃v σ',(∃N,∀n,N≤n→evCallV (evCall F H n) fv vals σ=some (v,σ'))∧CallR V U S σ l v σ':=by
 cases c with
 |fn x=>
  simp only[callV] at h;cases hk:look x S.clos with
  |none=>rw[hk] at h;cases h
  |some k=>
   rw[hk] at h;obtain⟨p,q,h1,h2,h3⟩:=g.clos x k hk;have hfv:fv= .func (.func k.f) p q:=by have:=hc.1;rw[h1] at this;exact(Option.some.inj this).symm
   subst hfv;obtain⟨v,σ',⟨N,hN⟩,hr⟩:=hK _ _ _ _ _ _ _ h V U σ (p.toList++vals++q.toList) hY g (F2.app (F2.app (ws_sv h2) hv) (ws_sv h3));exact⟨v,σ',⟨N,fun n hn=>by simp only[evCallV];exact hN n hn⟩,hr⟩
 |gfn f=>
  simp only[callV] at h;have hfv:fv= .func (.func f) #[] #[]:=hc
  subst hfv;obtain⟨v,σ',⟨N,hN⟩,hr⟩:=hK _ _ _ _ _ _ _ h V U σ vals hY g hv;exact⟨v,σ',⟨N,fun n hn=>by simp only[evCallV];simpa using hN n hn⟩,hr⟩
 |yld b=>
  simp only[callV] at h;obtain⟨blk,of,hα,rfl⟩:=hc;obtain⟨v,σ',⟨N,hN⟩,hr⟩:=hK _ _ _ _ _ _ _ h V U σ vals hY g hv blk of hα;exact⟨v,σ',⟨N,fun n hn=>by simp only[evCallV];simpa using hN n hn⟩,hr⟩
 |_=>cases h
theorem splitI_ok (g:G V U S σ) (he:GE V U σ S.env a) {t:Tmp} {ki:IntKind} {j:L} {J:Nat} (hj:j.ev V.ρ=some J) (hv:a.get t= .int ki J):∀{n:Nat},J<n→
  ∃S1,S1∈splitI S t ki j n∧G V U S1 σ∧Kp V U S σ V U S1 σ∧GE V U σ S1.env a
 |0,h=>absurd h (Nat.not_lt_zero _)
 |n+1,h=>by
  by_cases hn:J<n
  ·obtain⟨S1,h1,h2⟩:=splitI_ok g he hj hv hn
   exact⟨S1,List.mem_append.2 (.inl h1),h2⟩
  ·obtain rfl:J=n:=by omega
   have hb:BR V (.eq (j.addc (Int.negOfNat J))) true:=⟨_,L.ev_addc _ hj,by
    have:(J:Int)+Int.negOfNat J=0:=by rw[Int.negOfNat_eq];exact Int.add_right_neg _
    rw[this];rfl⟩
   obtain⟨S1,h1,g1,k1,e1⟩:=holds_ok g hb;refine⟨S1.put (some t) (one (.int ki (.num (Int.ofNat J)))),List.mem_append.2 (.inr (by rw[h1];exact List.mem_cons_self)), ?_, ?_, ?_⟩
   ·exact⟨g1.iv,g1.facts,g1.heap,g1.inj,g1.nu,g1.vws,g1.clos,g1.fx,g1.fb,g1.fk,g1.uin⟩
   ·exact⟨k1.le,k1.ule,k1.unew,k1.size,k1.same,k1.own⟩
   ·intro t' sv hl
    rw[show(S1.put (some t) (one (.int ki (.num (Int.ofNat J))))).env=(t,one (.int ki (.num (Int.ofNat J))))::S1.env from rfl,look_cons,e1] at hl
    by_cases ht:t'=t
    ·rw[if_pos ht] at hl;cases hl;rw[ht]
     exact⟨_,rfl,J,L.ev_num _,hv⟩
    ·rw[if_neg ht] at hl;exact he t' sv hl
theorem split_main (g:G V U S σ) (he:GE V U σ S.env a) {l:List SS}:∀{t:Tmp} {ki:IntKind} {j:L} {len:Nat} {c:Bool},S.int (.tmp t)=some (ki,j)→(bif c&&Nat.ble len 64&&S.ent j&&S.ent ((L.num len).sub (j.addc 1)) then some (splitI S t ki j len) else none)=some l→∃S1,S1∈l∧G V U S1 σ∧Kp V U S σ V U S1 σ∧GE V U σ S1.env a:=by
 intro t ki j len c hi h;obtain⟨J,hj,hjv⟩:=int_ok he hi;cases hb:(c&&Nat.ble len 64&&S.ent j&&S.ent ((L.num len).sub (j.addc 1))) with
 |false=>rw[hb] at h;cases h
 |true=>
  rw[hb] at h;simp only[cond_true,Option.some.injEq] at h;subst h;simp only[Bool.and_eq_true] at hb;have q1:=g.ent hb.1.2 hj;have q2:=g.ent hb.2 (L.ev_sub (L.ev_num _) (L.ev_addc _ hj));obtain⟨J,rfl⟩:∃J':Nat,J=J':=⟨J.toNat,by omega⟩
  exact splitI_ok g he hj hjv (by omega)
theorem splitOf_ok (g:G V U S σ) (he:GE V U σ S.env a) {op:I} {l:List SS} (h:splitOf op S=some l):∃S1,S1∈l∧G V U S1 σ∧Kp V U S σ V U S1 σ∧GE V U σ S1.env a:=by
 have main:= @split_main V U S σ a g he l;unfold splitOf at h;split at h
 ·split at h
  ·exact main (by assumption) h
  ·cases h
 ·split at h
  ·exact main (by assumption) h
  ·cases h
 ·cases h
theorem width_pos1 (s:ByteArray) (pos:Nat) (h:pos<s.size):1≤(Utf8.decode s pos).2:=by
 unfold Utf8.decode;simp only
 repeat' split
 all_goals simp
theorem splitH_ok (g:G V U S σ) (he:GE V U σ S.env a) {op:I} {hs h0:Hs} {l:List SS} (h:splitH op S hs=some (l,h0)):∃S1,S1∈l∧G V U S1 σ∧Kp V U S σ V U S1 σ∧GE V U σ S1.env a:=by
 have plain:∀{h1:Hs},(splitOf op S).map (·,h1)=some (l,h0)→∃S1,S1∈l∧G V U S1 σ∧Kp V U S σ V U S1 σ∧GE V U σ S1.env a:=by
  intro h1 h;cases hs:splitOf op S with
  |none=>rw[hs] at h;cases h
  |some l'=>
   rw[hs] at h;simp only[Option.map_some,Option.some.injEq,Prod.mk.injEq] at h;obtain⟨rfl,_⟩:=h;exact splitOf_ok g he hs
 unfold splitH at h;split at h
 ·cases hs:splitB op S with
  |none=>rw[hs] at h;cases h
  |some l'=>
   rw[hs] at h;simp only[Option.map_some,Option.some.injEq,Prod.mk.injEq] at h;obtain⟨rfl,_⟩:=h;unfold splitB at hs;split at hs
   ·split at hs
    ·split at hs
     ·exact split_main g he (by assumption) hs
     ·cases hs
    ·cases hs
   ·cases hs
 ·exact plain h
theorem certG_ok (g:G V U S σ):∀{cs:List (Nat×Nat)} {x r:L} {n:Int},certG S x cs=some r→x.ev V.ρ=some n→∃m,r.ev V.ρ=some m∧m≤n
 | [],x,r,n,h,hn=>by
  simp only[certG,Option.some.injEq] at h;subst h;exact⟨n,hn,Int.le_refl _⟩
 |(c,i)::cs,x,r,n,h,hn=>by
  simp only[certG] at h;cases hf:S.facts[i]? with
  |none=>rw[hf] at h;cases h
  |some f=>
   rw[hf] at h;simp only at h;obtain⟨k,hk,hk0⟩:=g.facts f (List.mem_of_getElem? hf);obtain⟨m,h1,h2⟩:=certG_ok g h (L.ev_sub hn (L.ev_smul c hk));have:0≤(c:Int)*k:=Int.mul_nonneg (Int.natCast_nonneg _) hk0
   exact⟨m,h1,by omega⟩
theorem lems_ok :∀(hs:Hs) {S:SS} (g:G V U S σ),G V U (lems hs S).1 σ∧Kp V U S σ V U (lems hs S).1 σ∧(lems hs S).1.env=S.env:=by
 intro hs;induction hs with
 |nil=>intro S g;exact⟨g, .refl ..,rfl⟩
 |cons h hs ih=>
  intro S g;cases h with
  |lem l k cs=>
   simp only[lems];cases hb:lemB S l k cs with
   |false=>exact⟨g, .refl ..,rfl⟩
   |true=>
    simp only[cond_true];unfold lemB at hb;rw[Bool.and_eq_true,Bool.and_eq_true] at hb;obtain⟨⟨h1,h2⟩,h3⟩:=hb;obtain⟨n,hn⟩:=g.defd h2;have hk:=bleN h1;have hn0:0≤n:=by
     cases hc:certG S ((l.smul k).addc ((k:Int) - 1)) cs with
     |none=>rw[hc] at h3;cases h3
     |some x=>
      rw[hc] at h3;obtain⟨m,m1,m2⟩:=certG_ok g hc (L.ev_addc _ (L.ev_smul _ hn));have m0:=pos_ok g.iv h3 m1;refine Int.not_lt.1 fun hneg=> ?_
      have:(k:Int)*n≤(k:Int)*(-1):=Int.mul_le_mul_of_nonneg_left (by omega) (by omega)
      omega
    obtain⟨g1,k1⟩:=g.assume hn hn0;obtain⟨g2,k2,e2⟩:=ih g1;exact⟨g2,k1.trans k2,e2.trans (assume_env ..)⟩
  |_=>exact⟨g, .refl ..,rfl⟩
theorem sxOp_ok {K:CallF} (hK:KOK F H K) {Y:Ys} (hY:CX F H V U σ Y) (g:G V U S σ) (he:GE V U σ S.env a) {base bid:Nat} {op:I} (hpre:∀m,op= .pre m→V.α (bid+m)=some (some (base+m,0))) {hs hs':Hs} {l:List (SV×SS)} (h:sxOp K Y bid op S hs=some (l,hs')):
  ∃v σ',RunOp F H base op a σ (v,σ')∧∃sv S1,(sv,S1)∈l∧∃V1 U1,G V1 U1 S1 σ'∧Kp V U S σ V1 U1 S1 σ'∧GE V1 U1 σ' S1.env a∧SVR V1 U1 σ' sv v:=by
 have plain:∀{op:I},(∀C,evOpD C base op a σ=evI op a σ)→∀{l:List (SV×SS)} {hs':Hs},(match splitH op S hs with|some (l,h0)=>thr (sxL op) l h0|none=>sxL op S hs)=some (l,hs')→∃v σ',RunOp F H base op a σ (v,σ')∧∃sv S1,(sv,S1)∈l∧∃V1 U1,G V1 U1 S1 σ'∧Kp V U S σ V1 U1 S1 σ'∧GE V1 U1 σ' S1.env a∧SVR V1 U1 σ' sv v:=by
  intro op hop l hs' h;have one1:∀{S1:SS},G V U S1 σ→Kp V U S σ V U S1 σ→GE V U σ S1.env a→∀{l:List (SV×SS)} {hs hs':Hs},sxL op S1 hs=some (l,hs')→∃v σ',RunOp F H base op a σ (v,σ')∧∃sv S1,(sv,S1)∈l∧∃V1 U1,G V1 U1 S1 σ'∧Kp V U S σ V1 U1 S1 σ'∧GE V1 U1 σ' S1.env a∧SVR V1 U1 σ' sv v:=by
   intro S1 g1 k1 he1 l hs hs' h;unfold sxL at h;cases hi:sxI op S1 with
   |some r=>
    obtain⟨sv,S2⟩:=r;rw[hi] at h;simp only[Option.some.injEq,Prod.mk.injEq] at h;obtain⟨rfl,rfl⟩:=h;obtain⟨v,σ',V1,U1,h1,h2,h3,h4,h5⟩:=sxI_ok g1 he1 hi;exact⟨v,σ',⟨0,fun n _=>by rw[hop,h1]⟩,sv,S2,List.mem_cons_self,V1,U1,h2,k1.trans h3,by rw[h4];exact GE_sta (h3.sta g1) he1,h5⟩
   |none=>
    rw[hi] at h;simp only at h;obtain⟨gl,kl,el⟩:=lems_ok hs g1;cases hi2:sxI op (lems hs S1).1 with
    |none=>rw[hi2] at h;cases h
    |some r=>
     obtain⟨sv,S2⟩:=r;rw[hi2] at h;simp only[Option.some.injEq,Prod.mk.injEq] at h;obtain⟨rfl,rfl⟩:=h;have hel:GE V U σ (lems hs S1).1.env a:=by rw[el];exact he1
     obtain⟨v,σ',V1,U1,h1,h2,h3,h4,h5⟩:=sxI_ok gl hel hi2;exact⟨v,σ',⟨0,fun n _=>by rw[hop,h1]⟩,sv,S2,List.mem_cons_self,V1,U1,h2,(k1.trans kl).trans h3,by rw[h4];exact GE_sta (h3.sta gl) hel,h5⟩
  cases hsp:splitH op S hs with
  |none=>rw[hsp] at h;exact one1 g (.refl ..) he h
  |some sl=>
   obtain⟨sl,h0⟩:=sl;rw[hsp] at h;simp only at h;obtain⟨S1,hm,g1,k1,he1⟩:=splitH_ok g he hsp;obtain⟨h1,zs,h2,hz,hzy⟩:=thr_mem h S1 hm;obtain⟨v,σ',r1,sv,S2,hm2,V1,U1,q⟩:=one1 g1 k1 he1 hz;exact⟨v,σ',r1,sv,S2,hzy _ hm2,V1,U1,q⟩
 cases op with
 |call f args=>
  simp only[sxOp] at h;cases hf:S.cell f with
  |none=>rw[hf] at h;cases h
  |some c=>cases hv:S.vals args with
   |none=>rw[hf,hv] at h;cases h
   |some vs=>
    rw[hf,hv] at h;obtain⟨v,σ',⟨N,hN⟩,sv,S1,hm,V1,U1,h1,h2,h3,h4⟩:=callV_ok hK hY g h (cell_ok he hf) (vals_ok he hv);exact⟨v,σ',⟨N,fun n hn=>by simp only[evOpD,evOp];exact hN n hn⟩,sv,S1,hm,V1,U1,h1,h2,by rw[h4];exact GE_sta (h2.sta g) he,h3⟩
 |pick c x y=>
  cases c with
  |tmp t=>
   simp only[sxOp] at h;cases hsp:splitT S t with
   |none=>rw[hsp] at h;cases h
   |some sl=>
    rw[hsp] at h;simp only at h;obtain⟨b,hb,S1,hm,g1,k1,he1⟩:=splitT_ok g he hsp;obtain⟨h1,zs,h2,hz,hzy⟩:=thr_mem h (b,S1) hm;simp only at hz;cases hv:S1.val (bif b then x else y) with
    |none=>rw[hv] at hz;cases hz
    |some sv=>
     rw[hv] at hz;simp only[Option.some.injEq,Prod.mk.injEq] at hz;obtain⟨rfl,rfl⟩:=hz;refine⟨_,σ,⟨0,fun n _=> ?_⟩,sv,S1,hzy _ List.mem_cons_self,V,U,g1,k1,he1,val_ok he1 hv⟩
     simp only[evOpD,evOp,evI,Env.eval,hb];cases b<;>rfl
  |const v=>exact plain (fun C=>rfl) h
  |global _=>exact plain (fun C=>rfl) h
  |func _=>exact plain (fun C=>rfl) h
 |pre m=>
  simp only[sxOp,Option.some.injEq,Prod.mk.injEq] at h;obtain⟨rfl,rfl⟩:=h;exact⟨_,σ,⟨0,fun n _=>rfl⟩,_,S,List.mem_cons_self,V,U,g, .refl ..,he,one_ok (c:= .ptr (bid+m) (.num 0)) ⟨0,base+m,0,L.ev_num _,hpre m rfl,rfl⟩⟩
 |nxtStr x=>
  simp only[sxOp] at h;split at h
  ·rename_i b off hc
   obtain⟨o,blk0,of0,h1,h2,hv⟩:=cell_ok he hc;cases hz:off.z with
   |false=>rw[hz] at h;cases h
   |true=>
    rw[hz] at h;simp only[cond_true] at h;split at h
    ·rename_i n hh
     simp only[Option.some.injEq,Prod.mk.injEq] at h;obtain⟨rfl,rfl⟩:=h;obtain⟨blk,s,pos,q1,q2,q3⟩:=g.heap b _ hh;rw[h2] at q1;cases q1
     have ho:o=0:=by have:=L.z_ev (ρ:=V.ρ) hz;rw[h1] at this;have:=Option.some.inj this;omega
     subst ho;have hv':a.eval x= .pointer (some ⟨blk0,0,none⟩):=hv
     by_cases hp:pos<s.size
     ·have hw:=width_pos1 s pos hp
      obtain⟨V1,g1,k1,e1,m1,_,p1⟩:=More.newX g (pos:Int);obtain⟨V2,g2,k2,e2,m2,_,p2⟩:=More.newX g1 ((Utf8.decode s pos).1:Int);obtain⟨V3,g3,k3,e3,m3,_,p3⟩:=More.newX g2 ((s.size -(pos+(Utf8.decode s pos).2):Nat):Int);have hlt:=Store.get_lt q2;have hα3:V3.α b=some (some (blk0,0)):=k3.le.α _ _ (k2.le.α _ _ (k1.le.α _ _ h2))
      have hh3:look b ({S with nx:=S.nx+3}:SS).heap=some (.iter n):=hh
      obtain⟨g4,k4⟩:=G.set (S:=({S with nx:=S.nx+3}:SS)) g3 (σ':=σ.set blk0 (.iter s (pos+(Utf8.decode s pos).2))) (he:= .iter (.var (S.nx+2))) hh3 rfl hα3 (set_other _ hlt) rfl
       ⟨blk0,s,_,hα3,set_at _ hlt,L.ev_var p3⟩
      have hn:n.ev V3.ρ=some ((s.size - pos:Nat):Int):=L.ev_mono k3.le.ρ (L.ev_mono k2.le.ρ (L.ev_mono k1.le.ρ q3))
      obtain⟨g5,k5⟩:=g4.assume (L.ev_addc (-1) hn) (by omega)
      obtain⟨g6,k6⟩:=g5.assume (L.ev_addc (-1) (L.ev_sub hn (L.ev_var p3))) (by omega)
      obtain⟨g7,k7⟩:=g6.assume (L.ev_var p3) (by omega)
      have kk:Kp V U S σ V3 U _ _:=((((((k1.trans k2).trans k3).trans k4).trans k5).trans k6).trans k7)
      refine⟨.tuple #[.bool true, .int .i64 pos, .int .i32 (Utf8.decode s pos).1],_,⟨0,fun n _=> ?_⟩,_,_,List.mem_cons_of_mem _ List.mem_cons_self,V3,U,g7,kk, ?_, ?_⟩
      ·simp only[evOpD,evOp,evI,hv',q2]
       rw[if_pos hp]
      ·rw[assume_env,assume_env,assume_env];exact GE_sta (kk.sta g) he
      ·exact⟨[.bool true, .int .i64 pos, .int .i32 (Utf8.decode s pos).1],rfl,⟨_,rfl,true,rfl,rfl⟩,⟨_,rfl,_,L.ev_var (k3.le.ρ _ _ (k2.le.ρ _ _ p1)),rfl⟩,⟨_,rfl,_,L.ev_var (k3.le.ρ _ _ p2),rfl⟩,trivial⟩
     ·refine⟨.tuple #[.bool false],σ,⟨0,fun n _=> ?_⟩,_,S,List.mem_cons_self,V,U,g, .refl ..,he, ?_⟩
      ·simp only[evOpD,evOp,evI,hv',q2]
       rw[if_neg hp]
      ·exact⟨[.bool false],rfl,⟨_,rfl,false,rfl,rfl⟩,trivial⟩
    ·cases h
  ·cases h
 |_=>exact plain (fun C=>rfl) h
theorem sxStep_ok {K:CallF} (hK:KOK F H K) {Y:Ys} (hY:CX F H V U σ Y) (g:G V U S σ) (he:GE V U σ S.env a) {base bid:Nat} {o:EOp} (hpre:∀m,o.op= .pre m→V.α (bid+m)=some (some (base+m,0))) {hs hs':Hs} {l:List (Bool×SS)} (h:sxStep K Y bid o S hs=some (l,hs')):
  (wanted o a=true∧∃v σ',RunOp F H base o.op a σ (v,σ')∧∃S1,(true,S1)∈l∧∃V1 U1,G V1 U1 S1 σ'∧Kp V U S σ V1 U1 S1 σ'∧GE V1 U1 σ' S1.env (a.put o.dst v)∧∀d sv,o.dst=some d→look d S1.env=some sv→SVR V1 U1 σ' sv v)∨
  (wanted o a=false∧∃S1,(false,S1)∈l∧G V U S1 σ∧Kp V U S σ V U S1 σ∧GE V U σ S1.env (a.put o.dst undefE)):=by
 have run:∀{S2:SS},G V U S2 σ→Kp V U S σ V U S2 σ→GE V U σ S2.env a→∀{hs hs':Hs} {l2:List (SV×SS)},sxOp K Y bid o.op S2 hs=some (l2,hs')→
   ∃v σ',RunOp F H base o.op a σ (v,σ')∧∃S1,(true,S1)∈(l2.map fun p=>(true,p.2.put o.dst p.1))∧∃V1 U1,G V1 U1 S1 σ'∧Kp V U S σ V1 U1 S1 σ'∧GE V1 U1 σ' S1.env (a.put o.dst v)∧∀d sv,o.dst=some d→look d S1.env=some sv→SVR V1 U1 σ' sv v:=by
  intro S2 g2 k2 he2 hs hs' l2 h2;obtain⟨v,σ',h1,sv,S1,hm,V1,U1,q1,q2,q3,q4⟩:=sxOp_ok hK hY g2 he2 hpre h2;refine⟨v,σ',h1,S1.put o.dst sv,List.mem_map.2 ⟨(sv,S1),hm,rfl⟩,V1,U1,q1.put _ _,(k2.trans q2).put _ _,q3.put q4,fun d sv' hd hl=> ?_⟩
  rw[hd,show(S1.put (some d) sv).env=(d,sv)::S1.env from rfl,look_cons,if_pos rfl] at hl
  cases hl;exact q4
 unfold sxStep at h;cases hg:o.guard with
 |none=>
  rw[hg] at h;simp only at h;cases hop:sxOp K Y bid o.op S hs with
  |none=>rw[hop] at h;cases h
  |some r=>
   obtain⟨l2,h2⟩:=r;rw[hop] at h;simp only[Option.some.injEq,Prod.mk.injEq] at h;obtain⟨rfl,rfl⟩:=h;exact .inl ⟨by unfold wanted;rw[hg],run g (.refl ..) he hop⟩
 |some tw=>
  obtain⟨t,w⟩:=tw;rw[hg] at h;simp only at h;cases hun:unset (look t S.env) with
  |true=>
   rw[hun] at h;simp only[cond_true,Option.some.injEq,Prod.mk.injEq] at h;obtain⟨rfl,rfl⟩:=h;have hl:look t S.env=some (.tup []):=by
    unfold unset at hun;split at hun
    ·assumption
    ·cases hun
   obtain⟨vs,h1,h2⟩:=he t _ hl;have h1:a.get t= .tuple #[]:=by
    cases vs with
    |nil=>exact h1
    |cons _ _=>cases h2
   exact .inr ⟨by unfold wanted;rw[hg];simp only[h1],_,List.mem_cons_self,g.put _ _,(Kp.refl ..).put _ _,he.put ⟨[],rfl,trivial⟩⟩
  |false=>
   rw[hun] at h;simp only[cond_false] at h;cases hsp:splitT S t with
   |none=>rw[hsp] at h;cases h
   |some sl=>
    rw[hsp] at h;simp only at h;obtain⟨b,hb,S2,hm,g2,k2,he2⟩:=splitT_ok g he hsp;obtain⟨h1,zs,h2,hz,hzy⟩:=thr_mem h (b,S2) hm;simp only at hz;have hw:wanted o a=(b==w):=by unfold wanted;rw[hg];simp only[hb]
    cases hbw:(b==w) with
    |true=>
     rw[hbw] at hz;simp only[cond_true] at hz;cases hop:sxOp K Y bid o.op S2 h1 with
     |none=>rw[hop] at hz;cases hz
     |some r=>
      obtain⟨l2,h3⟩:=r;rw[hop] at hz;simp only[Option.some.injEq,Prod.mk.injEq] at hz;obtain⟨rfl,rfl⟩:=hz;obtain⟨v,σ',r1,S1,r2,r3⟩:=run g2 k2 he2 hop;exact .inl ⟨by rw[hw,hbw],v,σ',r1,S1,hzy _ r2,r3⟩
    |false=>
     rw[hbw] at hz;simp only[cond_false,Option.some.injEq,Prod.mk.injEq] at hz;obtain⟨rfl,rfl⟩:=hz;exact .inr ⟨by rw[hw,hbw],_,hzy _ List.mem_cons_self,g2.put _ _,k2.put _ _,he2.put ⟨[],rfl,trivial⟩⟩
def OutO (V:Val) (U:Nat→Prop) (S:SS) (σ:Store) (l:List SS) (a':Env) (σ':Store):Prop:=
 ∃S',S'∈l∧∃V' U',G V' U' S' σ'∧GE V' U' σ' S'.env a'∧Kp V U S σ V' U' S' σ'
theorem OutO.lift {V1:Val} {U1:Nat→Prop} {S1:SS} {σ1:Store} (k:Kp V U S σ V1 U1 S1 σ1) {l l':List SS} (hl:∀s∈l,s∈l') {a':Env} {σ':Store} (h:OutO V1 U1 S1 σ1 l a' σ'):OutO V U S σ l' a' σ':=by
 obtain⟨S',h1,V',U',h2,h3,h4⟩:=h;exact⟨S',hl _ h1,V',U',h2,h3,k.trans h4⟩
theorem sxOps_ok {K:CallF} (hK:KOK F H K) {Y:Ys}:∀{ops:List EOp} {S:SS} {V:Val} {U:Nat→Prop} {σ:Store} {a:Env} (hY:CX F H V U σ Y) (g:G V U S σ) (he:GE V U σ S.env a) {hs hs':Hs} {l:List SS},sxOps K Y ops S hs=some (l,hs')→WO F H ops (OutO V U S σ l) a σ:=by
 intro ops;induction ops with
 |nil=>
  intro S V U σ a hY g he hs hs' l h;simp only[sxOps,Option.some.injEq,Prod.mk.injEq] at h;obtain⟨rfl,rfl⟩:=h;exact WO_nil ⟨S,List.mem_cons_self,V,U,g,he, .refl ..⟩
 |cons o os ih=>
  intro S V U σ a hY g he hs hs' l h;simp only[sxOps] at h;cases hp:o.op.isPre with
  |true=>rw[hp] at h;cases h
  |false=>
   rw[hp] at h;simp only[cond_false] at h;cases hst:sxStep K Y 0 o S hs with
   |none=>rw[hst] at h;cases h
   |some r=>
    obtain⟨l1,h1⟩:=r;rw[hst] at h;simp only at h;have hnp:∀m,o.op≠ .pre m:=fun m e=>by rw[e] at hp;cases hp
    rcases sxStep_ok (base:=0) hK hY g he (fun m e=>absurd e (hnp m)) hst with⟨hw,v,σ',⟨N,hN⟩,S1,hm,V1,U1,q1,q2,q3,_⟩| ⟨hw,S1,hm,q1,q2,q3⟩
    ·obtain⟨x1,zs,x2,hz,hzy⟩:=thr_mem h (true,S1) hm
     obtain⟨a2,σ2,⟨M,hM⟩,hq⟩:=ih (hY.sta (q2.sta g)) q1 q3 hz;refine⟨a2,σ2,⟨max N M,fun n hn=> ?_⟩,hq.lift q2 hzy⟩
     have e1:=hN n (by omega)
     have e2:evOp (evCall F H n) o.op a σ=some (v,σ'):=by
      rw[←e1];cases hop:o.op<;>first|rfl|exact absurd hop (hnp _)
     simp only[evOps,hw,if_true,e2,hM n (by omega)]
    ·obtain⟨x1,zs,x2,hz,hzy⟩:=thr_mem h (false,S1) hm
     obtain⟨a2,σ2,⟨M,hM⟩,hq⟩:=ih (hY.sta (q2.sta g)) q1 q3 hz;exact⟨a2,σ2,⟨M,fun n hn=>by simp only[evOps,hw,Bool.false_eq_true,if_false,hM n hn]⟩,hq.lift q2 hzy⟩
end Go.Ev.Sx
end
end SxV
section SxW
noncomputable section
namespace Go.Ev.Sx
variable {F :FuncId→Option EFunc} {H:Caller}
variable {V V':Val} {U U':Nat→Prop} {S S':SS} {σ σ':Store} {a:Env}
theorem bytes_self (s:ByteArray):(s==s)=true:=by
 obtain⟨d⟩:=s;show ByteArray.beq _ _=true
 unfold ByteArray.beq;simp
theorem same1 {c:C} (h:simpleC c=true) {v:Value} (hc:CR V U σ c v):∀n,sameV (n+1) v v=true:=by
 intro n;cases c with
 |int k l=>obtain⟨m,_,rfl⟩:=hc;simp[sameV]
 |bool b=>obtain⟨m,_,rfl⟩:=hc;simp[sameV]
 |str x=>obtain⟨_,s,rfl⟩:=hc;exact bytes_self s
 |strc s=>cases hc;exact bytes_self s
 |ptr b o=>obtain⟨m,blk,of,_,_,rfl⟩:=hc;simp[sameV]
 |sl x b off len e cp=>obtain⟨p,m,cap,o,_,rfl,_⟩:=hc;simp[sameV]
 |nilsl=>cases hc;simp[sameV]
 |nilptr=>cases hc;simp[sameV]
 |nilmap=>cases hc;simp[sameV]
 |nilfn=>cases hc;simp[sameV]
 |nilif=>cases hc;simp[sameV]
 |map b=>obtain⟨blk,of,_,rfl⟩:=hc;simp[sameV]
 |_=>cases h
theorem sameV_agg (n:Nat) (a b:Array Value):sameV (n+1) (.agg a) (.agg b)=(a.size==b.size&&(a.toList.zip b.toList).all fun(p,q)=>sameV n p q):=rfl
theorem sameSV {sv:SV} (h:simpleSV sv=true) {v:Value} (hv:SVR V U σ sv v):sameV 10 v v=true:=by
 cases sv with
 |w g cs=>
  simp only[simpleSV] at h;cases g with
  |false=>
   obtain⟨c,h1,h2⟩:=hv;simp only at h1;subst h1;simp only[List.all_cons,List.all_nil,Bool.and_true] at h;exact same1 h h2 9
  |true=>
   obtain⟨vs,rfl,hF⟩:=hv;have:∀{cs:List C} {vs:List Value},cs.all simpleC=true→F2 (CR V U σ) cs vs→((vs.zip vs).all fun(p,q)=>sameV 9 p q)=true:=by
    intro cs;induction cs with
    |nil=>intro vs _ hF;cases vs with
     |nil=>rfl
     |cons _ _=>cases hF
    |cons c cs ih=>
     intro vs hs hF;cases vs with
     |nil=>cases hF
     |cons v vs=>
      simp only[List.all_cons,Bool.and_eq_true] at hs;simp only[List.zip_cons_cons,List.all_cons,Bool.and_eq_true];exact⟨same1 hs.1 hF.1 8,ih hs.2 hF.2⟩
   rw[sameV_agg,beq_self_eq_true,Bool.true_and];exact this h hF
 |tup ws=>
  obtain⟨vs,rfl,hF⟩:=hv;have row:∀{cs:List C} {vs:List Value},cs.all simpleC=true→F2 (CR V U σ) cs vs→((vs.zip vs).all fun(p,q)=>sameV 8 p q)=true:=by
   intro cs;induction cs with
   |nil=>intro vs _ hF;cases vs with
    |nil=>rfl
    |cons _ _=>cases hF
   |cons c cs ih=>
    intro vs hs hF;cases vs with
    |nil=>cases hF
    |cons v vs=>
     simp only[List.all_cons,Bool.and_eq_true] at hs;simp only[List.zip_cons_cons,List.all_cons,Bool.and_eq_true];exact⟨same1 hs.1 hF.1 7,ih hs.2 hF.2⟩
  have:∀{ws:List (Bool×List C)} {vs:List Value},(ws.all fun w=>w.2.all simpleC)=true→F2 (WR V U σ) ws vs→((vs.zip vs).all fun(p,q)=>sameV 9 p q)=true:=by
   intro ws;induction ws with
   |nil=>intro vs _ hF;cases vs with
    |nil=>rfl
    |cons _ _=>cases hF
   |cons w ws ih=>
    intro vs hs hF;cases vs with
    |nil=>cases hF
    |cons v vs=>
     simp only[List.all_cons,Bool.and_eq_true] at hs;simp only[List.zip_cons_cons,List.all_cons,Bool.and_eq_true];refine⟨?_,ih hs.2 hF.2⟩
     obtain⟨gg,cs⟩:=w;have hw:=hF.1;cases gg with
     |false=>
      obtain⟨c,h1,h2⟩:=hw;simp only at h1;subst h1;have:=hs.1
      simp only[List.all_cons,List.all_nil,Bool.and_true] at this;exact same1 this h2 8
     |true=>
      obtain⟨us,rfl,hF2⟩:=hw;rw[sameV_agg,beq_self_eq_true,Bool.true_and];exact row hs.1 hF2
  show sameV 10 (.tuple vs.toArray) (.tuple vs.toArray)=true
  rw[show sameV 10 (.tuple vs.toArray) (.tuple vs.toArray)=(vs.toArray.size==vs.toArray.size&&(vs.toArray.toList.zip vs.toArray.toList).all fun(p,q)=>sameV 9 p q) from rfl,beq_self_eq_true,Bool.true_and]
  exact this h hF
 |any=>cases h
theorem CR_le {c:C} (h:simpleC c=true) (le:V.le V') {v:Value} (hc:CR V U σ c v):CR V' U' σ' c v:=by
 cases c with
 |int k l=>obtain⟨n,h1,h2⟩:=hc;exact⟨n,L.ev_mono le.ρ h1,h2⟩
 |bool b=>obtain⟨x,h1,h2⟩:=hc;exact⟨x,BR_mono le h1,h2⟩
 |str x=>exact⟨le.κ _ _ hc.1,hc.2⟩
 |strc s=>exact hc
 |ptr b o=>obtain⟨n,blk,of,h1,h2,h3⟩:=hc;exact⟨n,blk,of,L.ev_mono le.ρ h1,le.α _ _ h2,h3⟩
 |sl x b off len e cp=>obtain⟨p,n,cap,o,h1,h2,h3,h4,h5⟩:=hc;exact⟨p,n,cap,o,le.κ _ _ h1,h2,L.ev_mono le.ρ h3,L.ev_mono le.ρ h4,SlR_mono le h5⟩
 |map b=>obtain⟨blk,of,h1,h2⟩:=hc;exact⟨blk,of,le.α _ _ h1,h2⟩
 |nilsl=>exact hc
 |nilptr=>exact hc
 |nilmap=>exact hc
 |nilfn=>exact hc
 |nilif=>exact hc
 |_=>cases h
theorem det {c d:C} (h:beqC c d=true) (hd:simpleC d=true) {v w:Value} (h1:CR V U σ c v) (h2:CR V U' σ' d w):v=w:=by
 cases c<;>cases d<;>simp only[beqC] at h<;>first|(cases h;done)|(cases hd;done)|skip
 ·rw[Bool.and_eq_true] at h
  have:=kbeq_eq h.1;have:=L.beq_eq h.2;subst_vars
  obtain⟨n,e1,rfl⟩:=h1;obtain⟨m,e2,rfl⟩:=h2;rw[e1] at e2;cases e2;rfl
 ·have:=beqB_ok h;subst this
  obtain⟨n,e1,rfl⟩:=h1;obtain⟨m,e2,rfl⟩:=h2;have:=evB_ok e1;rw[evB_ok e2] at this;cases this;rfl
 ·have:=beqN h;subst this
  have e1:=h1.1;rw[h2.1] at e1;exact(Option.some.inj e1).symm
 ·rw[Bool.and_eq_true] at h
  have:=beqN h.1;have:=L.beq_eq h.2;subst_vars
  obtain⟨n,blk,of,e1,e2,rfl⟩:=h1;obtain⟨m,blk',of',f1,f2,rfl⟩:=h2;rw[e1] at f1;rw[e2] at f2;cases f2
  have:n=m:=by have:=Option.some.inj f1;omega
  subst this;rfl
 ·have:=beqN h;subst this
  obtain⟨p,n,cap,o,e1,_⟩:=h1;obtain⟨p',n',cap',o',f1,_⟩:=h2;rw[e1] at f1;cases f1;rfl
 ·cases h1;cases h2;rfl
 ·cases h1;cases h2;rfl
 ·cases h1;cases h2;rfl
 ·cases h1;cases h2;rfl
 ·cases h1;cases h2;rfl
 ·have:=beqN h;subst this
  obtain⟨blk,of,e1,rfl⟩:=h1;obtain⟨blk',of',f1,rfl⟩:=h2;rw[e1] at f1;cases f1;rfl
theorem dets :∀{cs ds:List C},beqCs cs ds=true→ds.all simpleC=true→∀{vs ws:List Value},F2 (CR V U σ) cs vs→F2 (CR V U' σ') ds ws→vs=ws
 | [],[],_,_,[],[],_,_=>rfl
 | [],_::_,h,_,_,_,_,_=>by cases h
 |_::_,[],h,_,_,_,_,_=>by cases h
 |c::cs,d::ds,h,hs,v::vs,w::ws,h1,h2=>by
  simp only[beqCs,Bool.and_eq_true] at h;simp only[List.all_cons,Bool.and_eq_true] at hs;rw[det h.1 hs.1 h1.1 h2.1,dets h.2 hs.2 h1.2 h2.2]
theorem beqC_simple {c d:C} (h:beqC c d=true) (hd:simpleC d=true):simpleC c=true:=by
 cases c<;>cases d<;>simp only[beqC] at h<;>first|rfl|(cases h;done)|(cases hd;done)
theorem beqCs_simple :∀{cs ds:List C},beqCs cs ds=true→ds.all simpleC=true→cs.all simpleC=true
 | [],[],_,_=>rfl
 | [],_::_,h,_=>by cases h
 |_::_,[],h,_=>by cases h
 |c::cs,d::ds,h,hs=>by
  simp only[beqCs,Bool.and_eq_true] at h;simp only[List.all_cons,Bool.and_eq_true] at hs ⊢;exact⟨beqC_simple h.1 hs.1,beqCs_simple h.2 hs.2⟩
theorem F2_le :∀{cs:List C} {vs:List Value},cs.all simpleC=true→V.le V'→F2 (CR V U σ) cs vs→F2 (CR V' U' σ') cs vs
 | [],[],_,_,_=>trivial
 |c::cs,v::vs,h,le,hF=>by
  simp only[List.all_cons,Bool.and_eq_true] at h;exact⟨CR_le h.1 le hF.1,F2_le h.2 le hF.2⟩
def HistR (V:Val) (U:Nat→Prop) (σ:Store) (S1:SS) (σ1:Store):Prop:=∃V1 U1,G V1 U1 S1 σ1∧Sta V1 U1 σ1 V U σ
def LookR (V:Val) (U:Nat→Prop) (σ:Store) (k:Lk) (l:Look):Prop:=
 k.op=l.op∧k.lo=l.lo∧k.hi=l.hi∧∃V1 U1 σ1 σ2,G V1 U1 k.S σ1∧GE V1 U1 σ1 k.S.env l.env∧Sta V1 U1 σ1 V U σ∧evI l.op l.env σ1=some (l.v,σ2)∧SVR V U σ k.v l.v
theorem verC_ok (g:G V U S σ) (c:C):∃V',G V' U (verC S c) σ∧Kp V U S σ V' U (verC S c) σ∧(verC S c).env=S.env:=by
 unfold verC;split
 ·rename_i b
  split
  ·rename_i ks gg vt hh
   obtain⟨blk,of,es,clk,h1,h2,h3,_⟩:=g.heap b _ hh;obtain⟨g1,k1,hk⟩:=g.newK (encM es clk);have hα:=k1.le.α _ _ h1;have st:Sta V U σ (V.sκ S.nk (encM es clk)) U σ:= .of_le k1.le
   obtain⟨g2,k2⟩:=g1.set (σ':=σ) (he:= .map ks gg vt (some S.nk)) (show look b ({S with nk:=S.nk+1}:SS).heap=some (.map ks gg vt none) from hh) rfl hα (fun _ _=>rfl) rfl
    ⟨blk,of,es,clk,hα,h2,(fun e he=> ⟨(h3 e he).1,by
     have:=(h3 e he).2
     cases gg with
     |true=>obtain⟨vs,h4,h5,h6⟩:=this;exact⟨vs,h4,VT_sta st _ _ h5,h6⟩
     |false=>exact⟨VT_sta st _ _ this.1,this.2⟩⟩),fun y hy=>by cases hy;exact hk⟩
   exact⟨_,g2,k1.trans k2,rfl⟩
  ·exact⟨V,g, .refl ..,rfl⟩
 ·exact⟨V,g, .refl ..,rfl⟩
theorem verCs_ok :∀(cs:List C) {S:SS} {V:Val} (g:G V U S σ),∃V',G V' U (verCs S cs) σ∧Kp V U S σ V' U (verCs S cs) σ∧(verCs S cs).env=S.env:=by
 intro cs;induction cs with
 |nil=>intro S V g;exact⟨V,g, .refl ..,rfl⟩
 |cons c cs ih=>
  intro S V g;obtain⟨V1,g1,k1,e1⟩:=verC_ok g c;obtain⟨V2,g2,k2,e2⟩:=ih g1;exact⟨V2,g2,k1.trans k2,e2.trans e1⟩
theorem mapSame_ok {V0 V1:Val} {U0 U1:Nat→Prop} {S0 S1:SS} {σ0 σ1:Store} {Vc:Val} (g0:G V0 U0 S0 σ0) (g1:G V1 U1 S1 σ1) (l0:V0.le Vc) (l1:V1.le Vc) {b:Nat} (h:mapSame S0 S1 b=true) {blk of:Nat} (ha:V0.α b=some (some (blk,of))):
  ∃es clk,σ0.get blk=some (.map es clk)∧∃clk',σ1.get blk=some (.map es clk'):=by
 unfold mapSame at h;split at h
 ·rename_i h2 h3
  obtain⟨blk1,of1,clk1,q1,q2⟩:=g0.heap b _ h2;obtain⟨blk2,of2,clk2,r1,r2⟩:=g1.heap b _ h3;rw[ha] at q1;cases q1
  have e1:=l1.α _ _ r1;rw[l0.α _ _ ha] at e1;cases e1
  exact⟨[],clk1,q2,clk2,r2⟩
 ·rename_i ks0 gg0 vt0 x ks1 gg1 vt1 y h2 h3
  obtain⟨blk1,of1,es1,clk1,q1,q2,_,q3⟩:=g0.heap b _ h2;obtain⟨blk2,of2,es2,clk2,r1,r2,_,r3⟩:=g1.heap b _ h3;rw[ha] at q1;cases q1
  have e1:=l1.α _ _ r1;rw[l0.α _ _ ha] at e1;cases e1
  have hxy:=beqN h;subst hxy;have e2:=l0.κ _ _ (q3 x rfl);rw[l1.κ _ _ (r3 x rfl)] at e2;obtain⟨rfl,rfl⟩:=encM_inj (Option.some.inj e2);exact⟨es2,clk2,q2,clk2,r2⟩
 ·cases h
theorem view_same (g:G V U S σ) {b:Nat} (h:isView S b=true) {blk of:Nat} (ha:V.α b=some (some (blk,of))):U blk:=by
 unfold isView at h;rw[Bool.and_eq_true] at h;cases hw:S.getV b with
 |none=>rw[hw] at h;cases h.2
 |some w=>
  obtain⟨N,st,vs,_,h2,_⟩:=VW.ty_ok g (g.view hw) ha;exact h2
theorem ckeq_eq' {a b:List CK} (h:ckeq a b=true):a=b:=by
 unfold ckeq at h;rw[Bool.and_eq_true] at h;exact cks_eq (by simpa using h.1) h.2
theorem WR_le {w:Bool×List C} (h:w.2.all simpleC=true) (le:V.le V') {v:Value} (hw:WR V U σ w v):WR V' U' σ' w v:=by
 obtain⟨g,cs⟩:=w;cases g with
 |true=>obtain⟨vs,h1,h2⟩:=hw;exact⟨vs,h1,F2_le h le h2⟩
 |false=>
  obtain⟨c,h1,h2⟩:=hw;simp only at h1 h;subst h1;simp only[List.all_cons,List.all_nil,Bool.and_true] at h;exact⟨c,rfl,CR_le h le h2⟩
theorem detW {g:Bool} {cs ds:List C} (h:beqCs cs ds=true) (hd:ds.all simpleC=true) {v w:Value} (h1:WR V U σ (g,cs) v) (h2:WR V U' σ' (g,ds) w):v=w:=by
 cases g with
 |true=>
  obtain⟨vs,rfl,f1⟩:=h1;obtain⟨ws,rfl,f2⟩:=h2;rw[dets h hd f1 f2]
 |false=>
  obtain⟨c,e1,f1⟩:=h1;obtain⟨d,e2,f2⟩:=h2;simp only at e1 e2;subst e1;subst e2;simp only[beqCs,Bool.and_true] at h;simp only[List.all_cons,List.all_nil,Bool.and_true] at hd;exact det h hd f1 f2
theorem mapMent_ok {V0 V1:Val} {U0 U1:Nat→Prop} {S0 S1:SS} {σ0 σ1:Store} {Vc:Val} {a:Env} (g0:G V0 U0 S0 σ0) (e0:GE V0 U0 σ0 S0.env a) (g1:G V1 U1 S1 σ1) (l0:V0.le Vc) (l1:V1.le Vc) {ks:Bool×List CK} {z:List Value} {gg:Bool} {k:Operand} {b:Nat} (h:mapMent ks z gg k S0 S1 b=true) {blk of:Nat} (ha:V0.α b=some (some (blk,of))):
  ∃es clk es' clk',σ0.get blk=some (.map es clk)∧σ1.get blk=some (.map es' clk')∧lookV ks (a.eval k) z gg es'=lookV ks (a.eval k) z gg es:=by
 unfold mapMent at h;split at h
 ·rename_i ks' gg' vt x y kg' kc' zc' kg kc zc h2 hk hz
  simp only[Bool.and_eq_true,beq_iff_eq] at h;obtain⟨⟨⟨⟨⟨⟨⟨⟨c1,c2⟩,c3⟩,c4⟩,c5⟩,c6⟩,c7⟩,c8⟩,c9⟩:=h;subst c1;subst c4;have hks:ks=ks':=by
   obtain⟨p,q⟩:=ks;obtain⟨p',q'⟩:=ks';simp only at c2 c3;subst c2;rw[ckeq_eq' c3]
  subst hks;obtain⟨blk2,of2,es2,clk2,n2,r1,r2,_,_,_,r3⟩:=g1.heap b _ h2;have e1:=l1.α _ _ r1;rw[l0.α _ _ ha] at e1;cases e1
  obtain⟨es0,kv,zs,p1,p2,p3,p4⟩:=r3 y _ _ rfl;have hkv:kv=a.eval k:=by
   have q1:WR Vc U1 σ1 (kg,kc') kv:=WR_le (beqCs_simple c5 c6) l1 p2
   have q2:WR Vc U0 σ0 (kg,kc) (a.eval k):=WR_le c6 l0 (w_ok e0 hk)
   exact detW c5 c6 q1 q2
  have hzs:zs=z:=dets c7 c8 (F2_le (U':=U1) (σ':=σ1) (beqCs_simple c7 c8) l1 p3) (F2_le (U':=U0) (σ':=σ0) c8 l0 (constCs_ok (V:=V0) (U:=U0) (σ:=σ0) hz))
  subst hkv;subst hzs;split at c9
  ·rename_i h3
   obtain⟨blk1,of1,clk1,q1,q2⟩:=g0.heap b _ h3;rw[ha] at q1;cases q1
   simp only at p1;subst p1;exact⟨[],clk1,es2,clk2,q2,r2,p4⟩
  ·rename_i y0 ks0 gg0 vt0 y' h3
   obtain⟨blk1,of1,es1,clk1,q1,q2,_,q3⟩:=g0.heap b _ h3;rw[ha] at q1;cases q1
   have:=beqN c9;subst this
   obtain⟨clk0,p1⟩:=p1;have e2:=l0.κ _ _ (q3 _ rfl);rw[l1.κ _ _ p1] at e2;obtain⟨rfl,rfl⟩:=encM_inj (Option.some.inj e2);exact⟨_,_,es2,clk2,q2,r2,p4⟩
  ·cases c9
 ·cases h
theorem lk_stable {h:List SS} {hs:List Store} (hh:F2 (HistR V U σ) h hs) {k:Lk} {l:Look} (hl:LookR V U σ k l) (hk:lkOK h k=true):stable hs l=true:=by
 obtain⟨e1,e2,e3,Vk,Uk,σk,σ2,gk,gek,sk,hev,hsv⟩:=hl;unfold lkOK at hk;split at hk
 ·rename_i e esz x lo hi0 mx hop
  split at hk
  ·rename_i kx b off len ez cp hc
   rw[Bool.and_eq_true] at hk;obtain⟨hsim,hall⟩:=hk;rw[hop] at e1;obtain⟨p,n,cap,o,w1,hv,w2,w3,w4⟩:=cell_ok gek hc;unfold stable;rw[List.all_eq_true] at hall ⊢;intro i hi;have hq:=hall i (by rw[e2,e3];exact hi)
   rw[e2] at hq;cases hhi:h[l.lo+i]? with
   |none=>rw[hhi] at hq;cases hq
   |some Si=>
    rw[hhi] at hq;simp only at hq;obtain⟨σi,hsi,Vi,Ui,gi,si⟩:=hh.get hhi;simp only[hsi];have hsame:=sameSV hsim hsv;rw[←e1] at hev ⊢;simp only[evI,hv] at hev ⊢;have key:elemIs Si b e=true→At Vk b ez o p→elemAt σi p=some e:=by
     intro hel hat;obtain⟨blk,of,h2,hp⟩:=hat;have hαV:=sk.le.α _ _ h2;have hαi:Vi.α b=some (some (blk,of)):=by
      have hel':=hel;unfold elemIs at hel';split at hel'
      ·rename_i gr e' z pt m hH
       obtain⟨N,_,_,hx⟩:=gi.heap b _ hH;rcases hx with⟨_,hx,_⟩| ⟨b2,_,hx,_⟩
       ·have:=si.le.α _ _ hx;rw[hαV] at this;cases this
       ·have:=si.le.α _ _ hx;rw[hαV] at this;cases this;exact hx
      ·split at hel'
       ·rename_i w hw
        obtain⟨N,_,_,hx⟩:=gi.view hw;rcases hx with⟨hx,_⟩| ⟨b2,o2,_,_,hx,_⟩
        ·have:=si.le.α _ _ hx;rw[hαV] at this;cases this
        ·have:=si.le.α _ _ hx;rw[hαV] at this;cases this;exact hx
       ·cases hel'
     exact elemAt_ok gi hel ⟨blk,of,hαi,hp⟩
    have hno:¬(cap=INF∧elemAt σi p≠some e):=by
     rintro⟨rfl,hne⟩
     cases cp with
     |full=>have:=w4.1;have:=w4.2.1;omega
     |any=>have:=w4.1;omega
     |inf=>
      rcases w4 with⟨_,_,_,h4,_⟩| ⟨h4,_⟩
      ·exact absurd h4 (by unfold INF;omega)
      ·exact hne (key hq h4)
     |unk=>exact hne (key hq (w4.2.1 (.inr rfl)))
    rw[if_neg hno];split at hev
    ·cases hev
    ·cases hsl:sliceE esz p n cap (lo.map l.env.eval) (hi0.map l.env.eval) (mx.map l.env.eval) with
     |none=>rw[hsl] at hev;cases hev
     |some v=>
      rw[hsl] at hev;simp only[Option.map_some,Option.some.injEq,Prod.mk.injEq] at hev ⊢;rw[hev.1];exact hsame
  ·cases hk
 ·rename_i ks z gg okk m kk hop
  split at hk
  ·rename_i b hc
   rw[Bool.and_eq_true] at hk;obtain⟨hsim,hall⟩:=hk;rw[hop] at e1;obtain⟨blk,of,h2,hv⟩:=cell_ok gek hc;unfold stable;rw[List.all_eq_true] at hall ⊢;intro i hi;have hq:=hall i (by rw[e2,e3];exact hi)
   rw[e2] at hq;cases hhi:h[l.lo+i]? with
   |none=>rw[hhi] at hq;cases hq
   |some Si=>
    rw[hhi] at hq;simp only at hq;obtain⟨σi,hsi,Vi,Ui,gi,si⟩:=hh.get hhi;simp only[hsi];have hsame:=sameSV hsim hsv;rw[←e1] at hev ⊢;rw[Bool.or_eq_true] at hq;rcases hq with hq|hq
    ·obtain⟨es,clk,m1,clk',m2⟩:=mapSame_ok gk gi sk.le si.le hq h2
     simp only[evI,hv,mapOf,m1,m2] at hev ⊢;split at hev
     ·cases hev
     ·rename_i hkk
      rw[if_neg hkk];have fin:∀{r:Option (Value×Store)},r=some (l.v,σ2)∨(∃w,r=some (w,σi)∧w=l.v)→(match r with|some (v,_)=>sameV 10 v l.v|none=>false)=true:=by
       rintro r (rfl| ⟨w,rfl,rfl⟩)
       ·exact hsame
       ·exact hsame
      split at hev
      ·rename_i hfe
       simp only[Option.some.injEq,Prod.mk.injEq] at hev;exact fin (.inr ⟨_,rfl,hev.1⟩)
      ·rename_i hfe
       simp only[Option.some.injEq,Prod.mk.injEq] at hev;exact fin (.inr ⟨_,rfl,hev.1⟩)
      ·cases hev
    ·rw[Bool.and_eq_true] at hq
     have hok:okk=false:=by have:=hq.1;simpa using this
     subst hok;obtain⟨es,clk,es',clk',m1,m2,m3⟩:=mapMent_ok gk gek gi sk.le si.le hq.2 h2;simp only[evI,hv,mapOf,m1,m2] at hev ⊢;split at hev
     ·cases hev
     ·rename_i hkk
      rw[if_neg hkk];unfold lookV at m3;split at hev
      ·rename_i hfe
       simp only[Bool.false_eq_true,if_false,Option.some.injEq,Prod.mk.injEq] at hev;rw[hfe] at m3;simp only at m3;split at m3
       ·rename_i e2 he2
        rw[he2];simp only[Bool.false_eq_true,if_false];rw[Option.some.inj m3,hev.1];exact hsame
       ·rename_i he2
        rw[he2];simp only[Bool.false_eq_true,if_false];rw[Option.some.inj m3,hev.1];exact hsame
       ·cases m3
      ·rename_i hfe
       simp only[Bool.false_eq_true,if_false,Option.some.injEq,Prod.mk.injEq] at hev;rw[hfe] at m3;simp only at m3;split at m3
       ·rename_i e2 he2
        rw[he2];simp only[Bool.false_eq_true,if_false];rw[Option.some.inj m3,hev.1];exact hsame
       ·rename_i he2
        rw[he2];simp only[Bool.false_eq_true,if_false];rw[Option.some.inj m3,hev.1];exact hsame
       ·cases m3
      ·cases hev
  ·cases hk
 ·rename_i n x hop
  split at hk
  ·rename_i b off hc
   rw[Bool.and_eq_true] at hk;obtain⟨hsim,hall⟩:=hk;rw[hop] at e1;obtain⟨o,blk,of,h1,h2,hv⟩:=cell_ok gek hc;unfold stable;rw[List.all_eq_true] at hall ⊢;intro i hi;have hq:=hall i (by rw[e2,e3];exact hi)
   rw[e2] at hq;cases hhi:h[l.lo+i]? with
   |none=>rw[hhi] at hq;cases hq
   |some Si=>
    rw[hhi] at hq;simp only at hq;obtain⟨σi,hsi,Vi,Ui,gi,si⟩:=hh.get hhi;simp only[hsi];have hsame:=sameSV hsim hsv;rw[←e1] at hev ⊢;simp only[evI,hv] at hev ⊢;have hαV:=sk.le.α _ _ h2;have fin:loadE σi n ⟨blk,of+o,none⟩=some l.v→(match(loadE σi n ⟨blk,of+o,none⟩).map fun x=>(x,σi) with|some (v,_)=>sameV 10 v l.v|none=>false)=true:=by
     intro hld;rw[hld];exact hsame
    apply fin
    unfold lk1 at hq;split at hq
    ·rename_i e cs hH
     obtain⟨blk',vs,q1,q2,q3⟩:=gi.heap b _ hH;have:=si.le.α _ _ q1
     rw[hαV] at this;cases this
     split at hq
     ·rename_i o' m ds hN hvv
      rw[Bool.and_eq_true] at hq;rw[hvv] at hsv hsim;obtain⟨ws,hw1,hw2⟩:=hsv;have:o'=o:=by have:=isN_ev (ρ:=Vk.ρ) hN;rw[h1] at this;have:=Option.some.inj this;omega
      subst this;have hle:=bleN hq.1;have hF:=F2_le (U':=U) (σ':=σ) (beqCs_simple hq.2 hsim) si.le ((q3.drop o').take m)
      have:=dets hq.2 hsim hF hw2
      have hlen:=q3.len;unfold loadE;simp only[q2,Nat.zero_add];rw[if_pos (by omega),this,hw1]
     ·rename_i o' d hN hvv
      rw[hvv] at hsv hsim;simp only[simpleSV,List.all_cons,List.all_nil,Bool.and_true] at hsim;have hd:=WR_one hsv;have:o'=o:=by have:=isN_ev (ρ:=Vk.ρ) hN;rw[h1] at this;have:=Option.some.inj this;omega
      subst this;cases hco:cs[o']? with
      |none=>rw[hco] at hq;cases hq
      |some c=>
       rw[hco] at hq;obtain⟨v,hv1,hv2⟩:=q3.get hco;have:=det hq hsim (CR_le (U':=U) (σ':=σ) (beqC_simple hq hsim) si.le hv2) hd
       unfold loadE;simp only[q2,Nat.zero_add];rw[hv1,this]
     ·cases hq
    ·rw[Bool.and_eq_true] at hq
     have hwi:(Si.getV b).isSome=true:=by have:=hq.1;unfold isView at this;rw[Bool.and_eq_true] at this;exact this.2
     obtain⟨w,hw⟩:=Option.isSome_iff_exists.1 hwi;have hαi:Vi.α b=some (some (blk,of)):=by
      obtain⟨N,_,_,hx⟩:=gi.view hw;rcases hx with⟨hx,_⟩| ⟨b2,o2,_,_,hx,_⟩
      ·have:=si.le.α _ _ hx;rw[hαV] at this;cases this
      ·have:=si.le.α _ _ hx;rw[hαV] at this;cases this;exact hx
     have u1:=view_same gi hq.1 hαi;have u2:=view_same gk hq.2 h2;have eq1:=si.same blk u1;have eq2:=sk.same blk u2;have:loadE σi n ⟨blk,of+o,none⟩=loadE σk n ⟨blk,of+o,none⟩:=by unfold loadE;simp only;rw[←eq1,eq2]
     rw[this];cases hld:loadE σk n ⟨blk,of+o,none⟩ with
     |none=>rw[hld] at hev;cases hev
     |some v=>rw[hld] at hev;simp only[Option.map_some,Option.some.injEq,Prod.mk.injEq] at hev;rw[hev.1]
  ·cases hk
 ·cases hk
theorem HistR.sta {S1:SS} {σ1:Store} (h:HistR V U σ S1 σ1) (s:Sta V U σ V' U' σ'):HistR V' U' σ' S1 σ1:=by
 obtain⟨V1,U1,h1,h2⟩:=h;exact⟨V1,U1,h1,h2.trans s⟩
theorem LookR.sta {k:Lk} {l:Look} (h:LookR V U σ k l) (s:Sta V U σ V' U' σ'):LookR V' U' σ' k l:=by
 obtain⟨e1,e2,e3,V1,U1,σ1,σ2,h1,h2,h3,h4,h5⟩:=h;exact⟨e1,e2,e3,V1,U1,σ1,σ2,h1,h2,h3.trans s,h4,SVR_sta s _ _ h5⟩
end Go.Ev.Sx
end
end SxW
section SxX
noncomputable section
namespace Go.Ev.Sx
variable {F :FuncId→Option EFunc} {H:Caller}
variable {V V':Val} {U U':Nat→Prop} {S S':SS} {σ σ':Store} {a:Env}
theorem sxOpsD_ok {K:CallF} (hK:KOK F H K) {Y:Ys} {base bid np:Nat}:∀{ops:List EOp} {S:SS} {V:Val} {U:Nat→Prop} {σ:Store} {a:Env} (hY:CX F H V U σ Y) (g:G V U S σ) (he:GE V U σ S.env a)
  (hpre:∀m,m<np→V.α (bid+m)=some (some (base+m,0))) (hin:ops.all (fun o=>preIn np o.op)=true) {h:List SS} {hC:List Store} (hh:F2 (HistR V U σ) h hC) {ls:List Lk} {lC:List Look} (hl:F2 (LookR V U σ) ls lC)
  {hs hs':Hs} {l:List SS},sxOpsD K Y bid ops S h ls hs=some (l,hs')→WW F H base ops (fun a' σ' hC' lC'=>lC'.all (stable hC')=true∧OutO V U S σ l a' σ') a σ hC lC:=by
 intro ops;induction ops with
 |nil=>
  intro S V U σ a hY g he hpre hin h hC hh ls lC hl hs hs' l hx;simp only[sxOpsD] at hx;cases hb:ls.all (lkOK h) with
  |false=>rw[hb] at hx;cases hx
  |true=>
   rw[hb] at hx;simp only[cond_true,Option.some.injEq,Prod.mk.injEq] at hx;obtain⟨rfl,rfl⟩:=hx;refine sW_nil ⟨?_,S,List.mem_cons_self,V,U,g,he, .refl ..⟩
   rw[List.all_eq_true];intro L hL;obtain⟨i,hi,hLi⟩:=List.getElem_of_mem hL;have hlen:=hl.len;have hki:ls[i]?=some (ls[i]'(by omega)):=List.getElem?_eq_getElem (by omega)
   obtain⟨L',h1,h2⟩:=hl.get hki;rw[List.getElem?_eq_getElem hi,hLi] at h1;cases h1
   exact lk_stable hh h2 (List.all_eq_true.1 hb _ (List.getElem_mem _))
 |cons o os ih=>
  intro S V U σ a hY g he hpre hin h hC hh ls lC hl hs hs' l hx;simp only[sxOpsD] at hx;simp only[List.all_cons,Bool.and_eq_true] at hin;have hpre':∀m,o.op= .pre m→V.α (bid+m)=some (some (base+m,0)):=by
   intro m e;have:=hin.1
   rw[e] at this;exact hpre m (by simpa[preIn,Nat.blt_eq] using this)
  cases hst:sxStep K Y bid o S hs with
  |none=>rw[hst] at hx;cases hx
  |some r=>
   obtain⟨l1,h1⟩:=r;rw[hst] at hx;simp only at hx;have hist:∀{V1:Val} {U1:Nat→Prop} {S1:SS} {σ1:Store},G V1 U1 S1 σ1→Sta V U σ V1 U1 σ1→F2 (HistR V1 U1 σ1) (bif o.op.loud then h++ [S1] else h) (if o.op.loud then hC++ [σ1] else hC):=by
    intro V1 U1 S1 σ1 g1 st;have h1:=hh.imp (Q:=HistR V1 U1 σ1) fun _ _ q=>q.sta st
    cases o.op.loud with
    |true=>exact F2.app h1 ⟨⟨V1,U1,g1,⟨.refl _,fun _ h=>h,fun _ _=>rfl⟩⟩,trivial⟩
    |false=>exact h1
   rcases sxStep_ok hK hY g he hpre' hst with⟨hw,v,σ',⟨N,hN⟩,S1,hm,V1,U1,q1,q2,q3,q4⟩| ⟨hw,S1,hm,q1,q2,q3⟩
   ·obtain⟨x1,zs,x2,hz,hzy⟩:=thr_mem hx (true,S1) hm
    have st:=q2.sta g
    have hlk:F2 (LookR V1 U1 σ') (lkAdd o S (true,S1) ls) (match o.win with
      |some (lo,hi)=>if o.op.looks then⟨o.op,a,v,lo,hi⟩::lC else lC
      |none=>lC):=by
     have h1:=hl.imp (Q:=LookR V1 U1 σ') fun _ _ q=>q.sta st
     unfold lkAdd;cases hwin:o.win with
     |none=>exact h1
     |some w=>
      obtain⟨lo,hi⟩:=w;simp only[Bool.and_true];cases hlo:o.op.looks with
      |false=>exact h1
      |true=>
       refine⟨⟨rfl,rfl,rfl,V,U,σ,σ',g,he,st, ?_, ?_⟩,h1⟩
       ·have:=hN N (Nat.le_refl _)
        rw[←this];cases hop:o.op<;>rw[hop] at hlo<;>first|rfl|cases hlo
       ·simp only
        cases hd:o.dst with
        |none=>trivial
        |some d=>
         simp only
         cases hle:look d S1.env with
         |none=>trivial
         |some sv=>exact q4 d sv hd hle
    obtain⟨a2,σ2,h2,l2,⟨M,hM⟩,hq1,hq2⟩:=ih (hY.sta st) q1 q3 (fun m hm=>q2.le.α _ _ (hpre m hm)) hin.2 (hist q1 st) hlk hz
    refine⟨a2,σ2,h2,l2,⟨max N M,fun n hn=> ?_⟩,hq1,hq2.lift q2 hzy⟩
    simp only[evOpsD,hw,if_true,hN n (by omega)]
    have:=hM n (by omega)
    cases hlo:o.op.looks<;>rw[hlo] at this<;>(try simp only[Bool.false_eq_true,if_false,if_true] at this ⊢)<;>exact this
   ·obtain⟨x1,zs,x2,hz,hzy⟩:=thr_mem hx (false,S1) hm
    have st:=q2.sta g;have hlk:F2 (LookR V U σ) (lkAdd o S (false,S1) ls) lC:=by
     unfold lkAdd;cases o.win with
     |none=>exact hl
     |some w=>obtain⟨lo,hi⟩:=w;simpa using hl
    obtain⟨a2,σ2,h2,l2,⟨M,hM⟩,hq1,hq2⟩:=ih (hY.sta st) q1 q3 hpre hin.2 (hist q1 st) hlk hz;refine⟨a2,σ2,h2,l2,⟨M,fun n hn=> ?_⟩,hq1,hq2.lift q2 hzy⟩
    simp only[evOpsD,hw,Bool.false_eq_true,if_false];exact hM n hn
theorem preS_ok :∀{pre:List (TypeId×List Value)} {S S1:SS} {V:Val} {σ:Store} (g:G V U S σ),preS pre S=some S1→∃V',G V' U S1 (allocs pre σ)∧Kp V U S σ V' U S1 (allocs pre σ)∧S1.env=S.env∧∀m,m<pre.length→V'.α (S.nb+m)=some (some (σ.size+m,0)):=by
 intro pre;induction pre with
 |nil=>intro S S1 V σ g h;simp only[preS,Option.some.injEq] at h;subst h;exact⟨V,g, .refl ..,rfl,fun m hm=>by cases hm⟩
 |cons p pre ih=>
  intro S S1 V σ g h;obtain⟨e,z⟩:=p;simp only[preS] at h;cases hc:constCs z with
  |none=>rw[hc] at h;cases h
  |some cs=>
   rw[hc] at h;simp only at h;obtain⟨V1,g1,k1,hα,_⟩:=alloc_cells (e:=e) g (constCs_ok hc)
   obtain⟨V2,g2,k2,e2,h2⟩:=ih g1 h;refine⟨V2,g2,k1.trans k2,e2,fun m hm=> ?_⟩
   cases m with
   |zero=>simpa using k2.le.α _ _ hα
   |succ m=>
    have:=h2 m (by simpa using hm)
    rw[show(newBlock S (.cells e cs)).2.nb=S.nb+1 from rfl,Store.size_alloc] at this
    rw[show S.nb+(m+1)=S.nb+1+m by omega,show σ.size+(m+1)=σ.size+1+m by omega];exact this
theorem prep_ok (h:LH) (g:G V U S σ):∃U',G V U' (prep h S) σ∧Kp V U S σ V U' (prep h S) σ∧(prep h S).env=S.env:=by
 have pc:∀(vs:List (Nat×VW)) (c d:C) {S:SS} {U:Nat→Prop} (g:G V U S σ),∃U',G V U' (prepC vs S c d) σ∧Kp V U S σ V U' (prepC vs S c d) σ∧(prepC vs S c d).env=S.env:=by
  intro vs c d S U g;cases c with
  |sl x b off len e cp=>
   simp only[prepC];cases (look b vs).isSome with
   |true=>exact freezeC_ok g d
   |false=>exact⟨U,g, .refl ..,rfl⟩
  |_=>exact⟨U,g, .refl ..,rfl⟩
 have pcs:∀(vs:List (Nat×VW)) (cs ds:List C) {S:SS} {U:Nat→Prop} (g:G V U S σ),∃U',G V U' (prepCs vs S cs ds) σ∧Kp V U S σ V U' (prepCs vs S cs ds) σ∧(prepCs vs S cs ds).env=S.env:=by
  intro vs cs;induction cs with
  |nil=>intro ds S U g;cases ds<;>exact⟨U,g, .refl ..,rfl⟩
  |cons c cs ih=>
   intro ds S U g;cases ds with
   |nil=>exact⟨U,g, .refl ..,rfl⟩
   |cons d ds=>
    obtain⟨U1,g1,k1,e1⟩:=pc vs c d g;obtain⟨U2,g2,k2,e2⟩:=ih ds g1;exact⟨U2,g2,k1.trans k2,e2.trans e1⟩
 have pe:∀(vs:List (Nat×VW)) (l:List (Nat×SV)) {S:SS} {U:Nat→Prop} (g:G V U S σ),∃U',G V U' (prepEnv vs S l) σ∧Kp V U S σ V U' (prepEnv vs S l) σ∧(prepEnv vs S l).env=S.env:=by
  intro vs l;induction l with
  |nil=>intro S U g;exact⟨U,g, .refl ..,rfl⟩
  |cons p l ih=>
   intro S U g;obtain⟨t,sv⟩:=p;cases sv with
   |w gg cs=>
    simp only[prepEnv];split
    ·rename_i gg' ds _
     obtain⟨U1,g1,k1,e1⟩:=pcs vs cs ds g;obtain⟨U2,g2,k2,e2⟩:=ih g1;exact⟨U2,g2,k1.trans k2,e2.trans e1⟩
    ·exact ih g
   |tup _=>exact ih g
   |any=>exact ih g
 have ph:∀(vs:List (Nat×VW)) (l:List (Nat×HE)) {S:SS} {U:Nat→Prop} (g:G V U S σ),∃U',G V U' (prepHeap vs S l) σ∧Kp V U S σ V U' (prepHeap vs S l) σ∧(prepHeap vs S l).env=S.env:=by
  intro vs l;induction l with
  |nil=>intro S U g;exact⟨U,g, .refl ..,rfl⟩
  |cons p l ih=>
   intro S U g;obtain⟨b,he⟩:=p;cases he with
   |cells e cs=>
    simp only[prepHeap];split
    ·rename_i e' ds _
     obtain⟨U1,g1,k1,e1⟩:=pcs vs cs ds g;obtain⟨U2,g2,k2,e2⟩:=ih g1;exact⟨U2,g2,k1.trans k2,e2.trans e1⟩
    ·exact ih g
   |_=>exact ih g
 unfold prep;split
 ·exact⟨U,g, .refl ..,rfl⟩
 ·obtain⟨U1,g1,k1,e1⟩:=pe h.vws h.env g
  obtain⟨U2,g2,k2,e2⟩:=ph h.vws h.heap g1;exact⟨U2,g2,k1.trans k2,e2.trans e1⟩
def Out (V:Val) (U:Nat→Prop) (S:SS) (σ:Store) (l:List (Ex×SS)) (e:Ex) (a':Env) (σ':Store):Prop:=
 ∃S',(e,S')∈l∧∃V' U',G V' U' S' σ'∧GE V' U' σ' S'.env a'∧Kp V U S σ V' U' S' σ'
theorem Out.lift {V1:Val} {U1:Nat→Prop} {S1:SS} {σ1:Store} (k:Kp V U S σ V1 U1 S1 σ1) {l l':List (Ex×SS)} (hl:∀s∈l,s∈l') {e:Ex} {a':Env} {σ':Store} (h:Out V1 U1 S1 σ1 l e a' σ'):Out V U S σ l' e a' σ':=by
 obtain⟨S',h1,V',U',h2,h3,h4⟩:=h;exact⟨S',hl _ h1,V',U',h2,h3,k.trans h4⟩
theorem head_ok {S0:SS} {h:LH} {V0:Val} {U0:Nat→Prop} {σ0:Store} (g0:G V0 U0 S0 σ0) {S2:SS} {V2:Val} {U2:Nat→Prop} {σ2:Store} (st:Sta V0 U0 σ0 V2 U2 σ2) (g2:G V2 U2 S2 σ2) (he2:GE V2 U2 σ2 S2.env a) {θ:Th} (hf:fits S0 h S2 θ=true)
  (k0:Kp V U S σ V0 U0 S0 σ0) (k2:Kp V U S σ V2 U2 S2 σ2):
  G (Vh V2 θ) U2 (head S0 h) σ2∧GE (Vh V2 θ) U2 σ2 (head S0 h).env a∧Kp V U S σ (Vh V2 θ) U2 (head S0 h) σ2∧Sta V0 U0 σ0 (Vh V2 θ) U2 σ2:=by
 obtain⟨le,gh,geh,own,_⟩:=fits_ok hf g0 st g2 he2;refine⟨gh,geh,⟨k0.le.trans le,k2.ule,k2.unew,k2.size,k2.same,fun l hl=>k2.own l (own l hl)⟩,⟨le,st.ule,st.same⟩⟩
theorem exEq_iff {a b:Ex}:exEq a b=true↔a=b:=by
 cases a<;>cases b<;>simp[exEq]
theorem unr_ok {b:EC} {body:SS→Hs→Res (Ex×SS)} {Y:Ys} (hb:∀{S:SS} {V:Val} {U:Nat→Prop} {σ:Store} {a:Env} (hY:CX F H V U σ Y) (g:G V U S σ) (he:GE V U σ S.env a) {hs hs':Hs} {l:List (Ex×SS)},body S hs=some (l,hs')→WB F H b (Out V U S σ l) a σ):
  ∀(n:Nat) {S:SS} {V:Val} {U:Nat→Prop} {σ:Store} {a:Env} (hY:CX F H V U σ Y) (g:G V U S σ) (he:GE V U σ S.env a) {hs hs':Hs} {l:List (Ex×SS)},unr body n S hs=some (l,hs')→WL F H b (fun e a' σ'=>e≠ .norm∧Out V U S σ l e a' σ') a σ:=by
 intro n;induction n with
 |zero=>intro S V U σ a hY g he hs hs' l h;cases h
 |succ n ih=>
  intro S V U σ a hY g he hs hs' l h;simp only[unr] at h;cases hbd:body S hs with
  |none=>rw[hbd] at h;cases h
  |some r=>
   obtain⟨l1,h1⟩:=r;rw[hbd] at h;simp only at h;refine WL_step ((hb hY g he hbd).mono fun e a' σ' hq=> ?_)
   obtain⟨S1,hm,V1,U1,q1,q2,q3⟩:=hq;obtain⟨x1,zs,x2,hz,hzy⟩:=thr_mem h (e,S1) hm;cases e with
   |norm=>
    obtain⟨e2,a2,σ2,hr,hne,hq⟩:=ih (hY.sta (q3.sta g)) q1 q2 hz;exact⟨e2,a2,σ2,hr,hne,hq.lift q3 hzy⟩
   |exit id=>
    simp only[Option.some.injEq,Prod.mk.injEq] at hz;obtain⟨rfl,rfl⟩:=hz;exact⟨by simp,S1,hzy _ List.mem_cons_self,V1,U1,q1,q2,q3⟩
   |ret=>
    simp only[Option.some.injEq,Prod.mk.injEq] at hz;obtain⟨rfl,rfl⟩:=hz;exact⟨by simp,S1,hzy _ List.mem_cons_self,V1,U1,q1,q2,q3⟩
theorem WL.mono {b:EC} {Q Q':Ex→Env→Store→Prop} (h:WL F H b Q a σ) (hq:∀e a' σ',Q e a' σ'→Q' e a' σ'):WL F H b Q' a σ:=by
 obtain⟨e,a',σ',h1,h2⟩:=h;exact⟨e,a',σ',h1,hq _ _ _ h2⟩
theorem pendOf_ok {p:Option EC} {e:Ex} (h:pendOf p=some e):p=pendEx e:=by
 unfold pendOf at h;split at h<;>first|(cases h;rfl)|cases h
theorem G.newRow (g:G V U S σ) {e esz:Nat} {pat:Ty} (hz:1≤esz):
  G {V with α:=setF V.α S.nb none,κ:=setF V.κ S.nk (.slice none 0 0)} U {S with nb:=S.nb+1,nk:=S.nk+1,heap:=(S.nb, .arr true e esz pat (.num 0))::S.heap} σ∧
  Kp V U S σ {V with α:=setF V.α S.nb none,κ:=setF V.κ S.nk (.slice none 0 0)} U {S with nb:=S.nb+1,nk:=S.nk+1,heap:=(S.nb, .arr true e esz pat (.num 0))::S.heap} σ:=by
 generalize hV':({V with α:=setF V.α S.nb none,κ:=setF V.κ S.nk (.slice none 0 0)}:Val)=V'
 have le:V.le V':=by subst hV';exact⟨.refl _,le_setF (g.fb _ (Nat.le_refl _)).1 _,le_setF (g.fk _ (Nat.le_refl _)) _, .refl _⟩
 have hα:V'.α=setF V.α S.nb none:=by subst hV';rfl
 have hκ:V'.κ=setF V.κ S.nk (.slice none 0 0):=by subst hV';rfl
 have hρ:V'.ρ=V.ρ:=by subst hV';rfl
 have hlp:V'.lp=V.lp:=by subst hV';rfl
 have hα':∀b,b≠S.nb→V'.α b=V.α b:=fun b hb=>by rw[hα];simp[setF,hb]
 have hαn:V'.α S.nb=some none:=by rw[hα];exact setF_at _ _ _
 have nob:∀b he,look b S.heap=some he→he.own=true→b≠S.nb:=fun b he e ho h=>by have:=g.noh (b:=b) (by omega) he e;subst this;cases ho
 have look':∀b h',look b ((S.nb,HE.arr true e esz pat (.num 0))::S.heap)=some h'→(b=S.nb∧h'= .arr true e esz pat (.num 0))∨(b≠S.nb∧look b S.heap=some h'):=by
  intro b h' e;rw[look_cons] at e;by_cases hb:b=S.nb
  ·rw[if_pos hb] at e;exact .inl ⟨hb,(Option.some.inj e).symm⟩
  ·rw[if_neg hb] at e;exact .inr ⟨hb,e⟩
 have own:∀l,Own V' {S with nb:=S.nb+1,nk:=S.nk+1,heap:=(S.nb, .arr true e esz pat (.num 0))::S.heap} l→Own V S l:=by
  rintro l ⟨b,he,p,h1,h2,h3⟩
  rcases look' b he h1 with⟨rfl,rfl⟩| ⟨hb,h1⟩
  ·rw[hαn] at h3;cases h3
  ·exact⟨b,he,p,h1,h2,by rw[←hα' b hb];exact h3⟩
 refine⟨⟨by rw[hρ];exact g.iv,by rw[hρ];exact g.facts,fun b he h=> ?_,fun b b' he he' l p p' h1 h2 h3 h4 h5 h6=> ?_,fun l h=>g.nu l (own l h),fun b w h=>VwR_sta (.of_le le) (g.vws b w h),fun x k h=>KR_sta (.of_le le) (g.clos x k h),by rw[hρ];exact g.fx,fun x hx=> ?_, ?_,g.uin⟩,
  ⟨le,fun _ h=>h,fun _ h=> .inl h,Nat.le_refl _,fun _ _ _=>rfl,fun l h=> .inl (own l h)⟩⟩
 ·rcases look' b he h with⟨rfl,rfl⟩| ⟨hb,h⟩
  ·exact⟨0,by rw[show((0:Nat):Int)=0 from rfl];exact L.ev_num _,hz, .inl ⟨rfl,hαn,rfl⟩⟩
  ·exact HR_sta (.of_le le) (fun _ _ _ _=>rfl) (g.heap b he h)
 ·rcases look' b he h1 with⟨rfl,rfl⟩| ⟨hb,h1⟩
  ·rw[hαn] at h5;cases h5
  ·rcases look' b' he' h2 with⟨rfl,rfl⟩| ⟨hb',h2⟩
   ·rw[hαn] at h6;cases h6
   ·rw[hα' _ hb] at h5;rw[hα' _ hb'] at h6;exact g.inj b b' he he' l p p' h1 h2 h3 h4 h5 h6
 ·have hx':S.nb+1≤x:=hx
  rw[hlp,hα' x (by omega)];exact g.fb x (by omega)
 ·intro x hx
  have hx':S.nk+1≤x:=hx
  rw[hκ];simp only[setF];rw[if_neg (by omega)]
  exact g.fk x (by omega)
theorem rowS_ok (g:G V U S σ) (b i e esz:Nat) (pat:Ty):∃V',G V' U (rowS S b i e esz pat) σ∧Kp V U S σ V' U (rowS S b i e esz pat) σ∧(rowS S b i e esz pat).env=S.env:=by
 unfold rowS;split
 ·rename_i e0 cs hh
  split
  ·rename_i hc
   cases hz:Nat.ble 1 esz with
   |false=>exact⟨V,g, .refl ..,rfl⟩
   |true=>
    simp only[cond_true];obtain⟨g1,k1⟩:=g.newRow (e:=e) (pat:=pat) (bleN hz)
    obtain⟨blk,vs,h1,h2,h3⟩:=g.heap b _ hh;have hbn:b≠S.nb:=fun h=>by have:=g.noh (b:=b) (by omega) _ hh;cases this
    have hh1:look b ((S.nb,HE.arr true e esz pat (.num 0))::S.heap)=some (.cells e0 cs):=by rw[look_cons,if_neg hbn];exact hh
    have hα1:=k1.le.α _ _ h1;obtain⟨g2,k2⟩:=g1.set (σ':=σ) (he:= .cells e0 (cs.set i (.sl S.nk S.nb (.num 0) (.num 0) esz .inf))) hh1 rfl hα1 (fun _ _=>rfl) rfl
     ⟨blk,vs,hα1,h2,by
      have h3':=h3.imp (CR_sta (.of_le k1.le));refine F2_of_get (by simp;exact h3.len) fun j c v hj hv=> ?_
      rw[List.getElem?_set] at hj
      by_cases hij:i=j
      ·subst hij
       rw[if_pos rfl] at hj;split at hj
       ·simp only[Option.some.injEq] at hj;subst hj
        have hold:CR V U σ .nilsl v:=h3.at hc hv
        have hold:v= .slice none 0 0:=hold
        subst hold;refine⟨none,0,0,0,setF_at _ _ _,rfl, ?_, ?_, .inl ⟨setF_at _ _ _,rfl,rfl,rfl,rfl⟩⟩
        ·rw[show((0:Nat):Int)=0 from rfl];exact L.ev_num _
        ·rw[show((0:Nat):Int)=0 from rfl];exact L.ev_num _
       ·cases hj
      ·rw[if_neg hij] at hj;exact h3'.at hj hv⟩
    exact⟨_,g2,k1.trans k2,rfl⟩
  ·exact⟨V,g, .refl ..,rfl⟩
 ·exact⟨V,g, .refl ..,rfl⟩
theorem rows_ok :∀(hs:Hs) {S:SS} {V:Val} (g:G V U S σ),∃V',G V' U (rows hs S).1 σ∧Kp V U S σ V' U (rows hs S).1 σ∧(rows hs S).1.env=S.env:=by
 intro hs;induction hs with
 |nil=>intro S V g;exact⟨V,g, .refl ..,rfl⟩
 |cons h hs ih=>
  intro S V g;cases h with
  |row b i e esz pat=>
   simp only[rows];obtain⟨V1,g1,k1,e1⟩:=rowS_ok g b i e esz pat;obtain⟨V2,g2,k2,e2⟩:=ih g1;exact⟨V2,g2,k1.trans k2,e2.trans e1⟩
  |_=>exact⟨V,g, .refl ..,rfl⟩
theorem envOf_get :∀(vs:List Value) (i:Nat) (e:Env) (t:Nat),Env.get ((vs.zipIdx i).foldl (fun e (p:Value×Nat)=>T.set e p.2 p.1) e) t=if i≤t∧t<i+vs.length then vs.getD (t - i) default else e.get t:=by
 intro vs;induction vs with
 |nil=>intro i e t;rw[if_neg (by simp<;>omega)];rfl
 |cons v vs ih=>
  intro i e t;rw[List.zipIdx_cons,List.foldl_cons,ih];by_cases h:t=i
  ·subst h
   rw[if_neg (by omega),if_pos (by simp)]
   rw[Env.get_put,if_pos rfl];simp
  ·by_cases h2:i+1≤t∧t<i+1+vs.length
   ·rw[if_pos h2,if_pos (by simp;omega)]
    rw[show t - i=(t -(i+1))+1 by omega,List.getD_cons_succ]
   ·rw[if_neg h2,if_neg (by simp;omega),Env.get_put,if_neg (fun e=>h (by omega))]
theorem argsOf_ok {env:List (Nat×SV)} {vals:List Value} (he:GE V U σ env (envOf vals)):∀{n:Nat} {args:List SV},argsOf env n=some args→n≤vals.length→F2 (SVR V U σ) args (vals.take n)
 |0,args,h,_=>by simp only[argsOf,Option.some.injEq] at h;subst h;trivial
 |n+1,args,h,hn=>by
  simp only[argsOf] at h;split at h
  ·rename_i l v h1 h2
   simp only[Option.some.injEq] at h;subst h;have ih:=argsOf_ok he h1 (by omega)
   have hv:=he n v h2;have:(envOf vals).get n=vals[n]'(by omega):=by
    show Env.get ((vals.zipIdx 0).foldl _ _) n=_
    rw[envOf_get,if_pos (by omega)]
    simp[List.getD_eq_getElem?_getD,List.getElem?_eq_getElem (show n<vals.length by omega)]
   rw[this] at hv;rw[List.take_succ_eq_append_getElem (by omega)]
   exact F2.app ih ⟨hv,trivial⟩
  ·cases h
theorem conS_ok {K:CallF} (hK:KOK F H K) {Y Y1:Ys} (hY:CX F H V U σ Y) (g:G V U S σ) {gf:FuncId} {n:Nat} {lh h2:LH} {hm:List LH} {hs h0:Hs} (h:conS K Y gf n lh h2 hm S hs=some (Y1,h0)):CX F H V U σ Y1:=by
 unfold conS at h;split at h
 ·rename_i args hargs
  split at h
  ·rename_i l h3 hk
   cases hall:endsOK ⟨gf,n,{S with env:= []},lh,h2,hm⟩ l with
   |false=>rw[hall] at h;cases h
   |true=>
    rw[hall] at h;simp only[cond_true,Option.some.injEq,Prod.mk.injEq] at h;obtain⟨rfl,rfl⟩:=h;refine⟨hY.ys,hY.rs,hY.qs,fun rc hrc=> ?_⟩
    rcases List.mem_cons.1 hrc with e|hrc
    ·subst e
     refine⟨V,U,σ,g.env [],⟨.refl _,fun _ h=>h,fun _ _=>rfl⟩,fun V1 U1 σ1 vals st gh geh hlen=> ?_⟩
     have hlen':vals.length=n:=hlen
     have hargs':=argsOf_ok geh hargs (Nat.le_of_eq hlen'.symm);rw[←hlen',List.take_length] at hargs';obtain⟨v,σ',hr,hq⟩:=hK _ _ _ _ _ _ _ hk V1 U1 σ1 vals (hY.sta st) gh hargs';refine⟨v,σ',hr, ?_⟩
     obtain⟨sv,S2,p1,V2,U3,p2,p3,p4,_⟩:=hq;unfold endsOK at hall;have hfit:=List.all_eq_true.1 hall _ p1;obtain⟨h2,hh2,hfit⟩:=List.any_eq_true.1 hfit;simp only at hfit;obtain⟨U4,g4,k4,e4⟩:=prep_ok h2 (p2.env [(0,sv)]);have k04:Kp V1 U1 (head {S with env:= []} lh) σ1 V2 U4 (prep h2 {S2 with env:= [(0,sv)]}) σ':=(p3.env2 _).trans k4
     have he4:GE V2 U4 σ' (prep h2 {S2 with env:= [(0,sv)]}).env (envOf [v]):=by
      rw[e4];refine GE_sta (k4.sta (p2.env _)) (fun t sv' hl=> ?_)
      rw[look_cons] at hl;by_cases ht:t=0
      ·rw[if_pos ht] at hl;cases hl;subst ht;exact p4
      ·rw[if_neg ht] at hl;cases hl
     obtain⟨r1,r2,r3,_⟩:=head_ok gh (k04.sta gh) g4 he4 hfit (.refl ..) k04;exact⟨h2,hh2,_,U4,r1,r2,r3⟩
    ·exact hY.cs rc hrc
  ·cases h
 ·cases h
theorem yctS_ok {K:CallF} (hK:KOK F H K) {Y Y1:Ys} (hY:CX F H V U σ Y) (g:G V U S σ) {b blk of:Nat} (hα:V.α b=some (some (blk,of))) {hs h0:Hs} (h:yctS K Y b S hs=some (Y1,h0)):CX F H V U σ Y1:=by
 unfold yctS at h;split at h
 ·rename_i n lh h2 hm h1
  split at h
  ·rename_i args hargs
   split at h
   ·rename_i l h3 hk
    cases hall:endsOK ⟨b,n,{S with env:= []},lh,h2,hm⟩ l with
    |false=>rw[hall] at h;cases h
    |true=>
     rw[hall] at h;simp only[cond_true,Option.some.injEq,Prod.mk.injEq] at h;obtain⟨rfl,rfl⟩:=h;refine⟨hY.ys,hY.rs,fun rc hrc=> ?_,hY.cs⟩
     rcases List.mem_cons.1 hrc with e|hrc
     ·subst e
      refine⟨V,U,σ,blk,of,g.env [],⟨.refl _,fun _ h=>h,fun _ _=>rfl⟩,hα,fun V1 U1 σ1 vals st gh geh hlen=> ?_⟩
      have hlen':vals.length=n:=hlen
      have hargs':=argsOf_ok geh hargs (Nat.le_of_eq hlen'.symm);rw[←hlen',List.take_length] at hargs';have:=hK _ _ _ _ _ _ _ hk V1 U1 σ1 vals (hY.sta st) gh hargs' blk of (st.le.α _ _ hα)
      obtain⟨v,σ',hr,hq⟩:=this;refine⟨v,σ',hr, ?_⟩
      obtain⟨sv,S2,p1,V2,U3,p2,p3,p4,_⟩:=hq;unfold endsOK at hall;have hfit:=List.all_eq_true.1 hall _ p1;obtain⟨h2,hh2,hfit⟩:=List.any_eq_true.1 hfit;simp only at hfit;obtain⟨U4,g4,k4,e4⟩:=prep_ok h2 (p2.env [(0,sv)]);have k04:Kp V1 U1 (head {S with env:= []} lh) σ1 V2 U4 (prep h2 {S2 with env:= [(0,sv)]}) σ':=(p3.env2 _).trans k4
      have he4:GE V2 U4 σ' (prep h2 {S2 with env:= [(0,sv)]}).env (envOf [v]):=by
       rw[e4];refine GE_sta (k4.sta (p2.env _)) (fun t sv' hl=> ?_)
       rw[look_cons] at hl;by_cases ht:t=0
       ·rw[if_pos ht] at hl;cases hl;subst ht;exact p4
       ·rw[if_neg ht] at hl;cases hl
      obtain⟨r1,r2,r3,_⟩:=head_ok gh (k04.sta gh) g4 he4 hfit (.refl ..) k04;exact⟨h2,hh2,_,U4,r1,r2,r3⟩
     ·exact hY.qs rc hrc
   ·cases h
  ·cases h
 ·simp only[Option.some.injEq,Prod.mk.injEq] at h;obtain⟨rfl,rfl⟩:=h;exact hY
theorem sxCode_ok {K:CallF} (hK:KOK F H K) {Y:Ys}:∀{c:EC} {S:SS} {V:Val} {U:Nat→Prop} {σ:Store} {a:Env} (hY:CX F H V U σ Y) (g:G V U S σ) (he:GE V U σ S.env a) {hs hs':Hs} {l:List (Ex×SS)},sxCode K Y c S hs=some (l,hs')→WB F H c (Out V U S σ l) a σ:=by
 intro c;induction c with
 |skip=>
  intro S V U σ a hY g he hs hs' l h;simp only[sxCode,Option.some.injEq,Prod.mk.injEq] at h;obtain⟨rfl,rfl⟩:=h;exact WB_skip ⟨S,List.mem_cons_self,V,U,g,he, .refl ..⟩
 |exit id=>
  intro S V U σ a hY g he hs hs' l h;simp only[sxCode,Option.some.injEq,Prod.mk.injEq] at h;obtain⟨rfl,rfl⟩:=h;exact WB_exit ⟨S,List.mem_cons_self,V,U,g,he, .refl ..⟩
 |ret=>
  intro S V U σ a hY g he hs hs' l h;simp only[sxCode,Option.some.injEq,Prod.mk.injEq] at h;obtain⟨rfl,rfl⟩:=h;exact WB_ret ⟨S,List.mem_cons_self,V,U,g,he, .refl ..⟩
 |stuck=>intro S V U σ a hY g he hs hs' l h;cases h
 |reg ops=>
  intro S V U σ a hY g he hs hs' l h;simp only[sxCode] at h;cases ho:sxOps K Y ops S hs with
  |none=>rw[ho] at h;cases h
  |some r=>
   obtain⟨l1,h1⟩:=r;rw[ho] at h;simp only[Option.some.injEq,Prod.mk.injEq] at h;obtain⟨rfl,rfl⟩:=h;refine WB_reg ((sxOps_ok hK hY g he ho).mono fun a' σ' hq=> ?_)
   obtain⟨S1,hm,hq⟩:=hq;exact⟨S1,List.mem_map.2 ⟨S1,hm,rfl⟩,hq⟩
 |regD pre ops=>
  intro S V U σ a hY g he hs hs' l h;simp only[sxCode] at h;cases hin:ops.all (fun o=>preIn pre.length o.op) with
  |false=>rw[hin] at h;cases h
  |true=>
   rw[hin] at h;simp only[cond_true] at h;cases hp:preS pre S with
   |none=>rw[hp] at h;cases h
   |some S1=>
    rw[hp] at h;simp only at h;obtain⟨V1,g0,k0,e0,hα⟩:=preS_ok g hp;obtain⟨U1,g1,kf,ef⟩:=freezeCs_ok (winC (fun _ _ _ _ _=>none) ⟨[],[],[],[]⟩ S.nb ops S1 []) g0
    obtain⟨Vv,gv,kv,ev⟩:=verCs_ok (winC (fun _ _ _ _ _=>none) ⟨[],[],[],[]⟩ S.nb ops S1 []) g1
    have k1:=(k0.trans kf).trans kv;have e1:=ev.trans (ef.trans e0);have hα:=fun m hm=>kv.le.α _ _ (hα m hm)
    have g1:=gv;generalize verCs (freezeCs S1 (winC (fun _ _ _ _ _=>none) ⟨[],[],[],[]⟩ S.nb ops S1 [])) (winC (fun _ _ _ _ _=>none) ⟨[],[],[],[]⟩ S.nb ops S1 [])=S1 at*
    cases ho:sxOpsD K Y S.nb ops S1 [S1] [] hs with
    |none=>rw[ho] at h;cases h
    |some r=>
     obtain⟨l1,h1⟩:=r;rw[ho] at h;simp only[Option.some.injEq,Prod.mk.injEq] at h;obtain⟨rfl,rfl⟩:=h;have st:=k1.sta g;have hww:=sxOpsD_ok (np:=pre.length) hK (hY.sta st) g1 (by rw[e1];exact GE_sta st he) hα hin (h:= [S1]) (hC:= [allocs pre σ]) ⟨⟨Vv,U1,g1,⟨.refl _,fun _ h=>h,fun _ _=>rfl⟩⟩,trivial⟩ (ls:= []) (lC:= []) trivial ho
     refine WB_regW ?_
     obtain⟨a2,σ2,h2,l2,hr,hq1,hq2⟩:=hww;refine⟨a2,σ2,h2,l2,hr,hq1, ?_⟩
     obtain⟨S2,hm,hq⟩:=hq2;obtain⟨V2,U2,r1,r2,r3⟩:=hq;exact⟨S2,List.mem_map.2 ⟨S2,hm,rfl⟩,V2,U2,r1,r2,k1.trans r3⟩
 |seq x y ihx ihy=>
  intro S V U σ a hY g he hs hs' l h;simp only[sxCode] at h;cases hx:sxCode K Y x S hs with
  |none=>rw[hx] at h;cases h
  |some r=>
   obtain⟨l1,h1⟩:=r;rw[hx] at h;simp only at h;refine WB_seq ((ihx hY g he hx).mono fun e a' σ' hq=> ?_)
   obtain⟨S1,hm,V1,U1,q1,q2,q3⟩:=hq;obtain⟨x1,zs,x2,hz,hzy⟩:=thr_mem h (e,S1) hm;cases e with
   |norm=>exact(ihy (hY.sta (q3.sta g)) q1 q2 hz).mono fun e a' σ' hq=>hq.lift q3 hzy
   |exit id=>
    simp only[Option.some.injEq,Prod.mk.injEq] at hz;obtain⟨rfl,rfl⟩:=hz;exact⟨S1,hzy _ List.mem_cons_self,V1,U1,q1,q2,q3⟩
   |ret=>
    simp only[Option.some.injEq,Prod.mk.injEq] at hz;obtain⟨rfl,rfl⟩:=hz;exact⟨S1,hzy _ List.mem_cons_self,V1,U1,q1,q2,q3⟩
 |cond c x y ihx ihy=>
  intro S V U σ a hY g he hs hs' l h;cases c with
  |tmp t=>
   simp only[sxCode] at h;cases hsp:condL S t hs with
   |none=>rw[hsp] at h;cases h
   |some sl=>
    obtain⟨sl,h0⟩:=sl;rw[hsp] at h;simp only at h;obtain⟨b,hb,S1,hm,g1,k1,he1⟩:=condL_ok g he hsp;obtain⟨x1,zs,x2,hz,hzy⟩:=thr_mem h (b,S1) hm;refine WB_cond (b:=b) hb ?_
    cases b with
    |true=>exact(ihx (hY.sta (k1.sta g)) g1 he1 hz).mono fun e a' σ' hq=>hq.lift k1 hzy
    |false=>exact(ihy (hY.sta (k1.sta g)) g1 he1 hz).mono fun e a' σ' hq=>hq.lift k1 hzy
  |const v=>
   cases v with
   |bool b=>
    simp only[sxCode] at h;refine WB_cond (b:=b) rfl ?_
    cases b with
    |true=>exact ihx hY g he h
    |false=>exact ihy hY g he h
   |_=>cases h
  |global _=>cases h
  |func _=>cases h
 |block id b ih=>
  intro S V U σ a hY g he hs hs' l h;simp only[sxCode] at h;cases hb:sxCode K Y b S hs with
  |none=>rw[hb] at h;cases h
  |some r=>
   obtain⟨l1,h1⟩:=r;rw[hb] at h;simp only[Option.some.injEq,Prod.mk.injEq] at h;obtain⟨rfl,rfl⟩:=h;refine WB_block ((ih hY g he hb).mono fun e a' σ' hq=> ?_)
   obtain⟨S1,hm,hq⟩:=hq;by_cases hee:e= .exit id
   ·rw[if_pos hee]
    exact⟨S1,List.mem_map.2 ⟨(e,S1),hm,by simp[hee,exEq]⟩,hq⟩
   ·rw[if_neg hee]
    refine⟨S1,List.mem_map.2 ⟨(e,S1),hm, ?_⟩,hq⟩
    have:exEq e (.exit id)=false:=by
     cases hx:exEq e (.exit id) with
     |false=>rfl
     |true=>exact absurd (exEq_iff.1 hx) hee
    simp[this]
 |loop b ih=>
  intro Sb V U σ a hY gb heb hs hs' l h;obtain⟨g,kb,eb⟩:=lems_ok hs gb;have he:GE V U σ (lems hs Sb).1.env a:=by rw[eb];exact heb
  simp only[sxCode] at h;generalize (lems hs Sb).1=S at*
  generalize (lems hs Sb).2=hs1 at*
  suffices hmain:WB F H (.loop b) (Out V U S σ l) a σ from hmain.mono fun e a' σ' hq=>hq.lift kb fun _ h=>h
  split at h
  ·rename_i n h0
   exact WB_loop (WL.mono (unr_ok (fun hY g he=>ih hY g he) n hY g he h) fun e a' σ' hq=>hq.2)
  ·rename_i lh h0
   obtain⟨U0,g0,k0,e0⟩:=prep_ok lh g;generalize hS0:prep lh S=S0 at*
   cases hf:(fits S0 lh S0 (theta S0 lh S0)&&(lh.meas.sub' S0 (theta S0 lh S0)).isSome) with
   |false=>rw[hf] at h;cases h
   |true=>
    rw[hf] at h;simp only[cond_true] at h;rw[Bool.and_eq_true] at hf;cases hb:sxCode K Y b (head S0 lh) h0 with
    |none=>rw[hb] at h;cases h
    |some r=>
     obtain⟨l1,h1⟩:=r;rw[hb] at h;simp only at h;have st0:Sta V U0 σ V U0 σ:=⟨.refl _,fun _ h=>h,fun _ _=>rfl⟩
     have he0:GE V U0 σ S0.env a:=by rw[e0];exact GE_sta (k0.sta g) he
     obtain⟨gh,geh,kh,sth⟩:=head_ok (S:=S) (σ:=σ) (U:=U) g0 st0 g0 he0 hf.1 k0 k0
     obtain⟨mm,hmm⟩:=Option.isSome_iff_exists.1 hf.2;obtain⟨m0,_,hm0⟩:=sub_ok g0 hmm;refine WB_loop_inv (fun k a1 σ1=>∃V1 U1 m,k=m.toNat∧lh.meas.ev V1.ρ=some m∧G V1 U1 (head S0 lh) σ1∧GE V1 U1 σ1 (head S0 lh).env a1∧Kp V U S σ V1 U1 (head S0 lh) σ1∧Sta V U0 σ V1 U1 σ1) ?_ (k:=m0.toNat) ⟨_,U0,m0,rfl,hm0,gh,geh,kh,sth⟩
     rintro k a1 σ1 ⟨V1,U1,m,rfl,hm,g1,ge1,k1,s1⟩
     refine(ih (hY.sta (k1.sta g)) g1 ge1 hb).mono fun e a' σ' hq=> ?_
     obtain⟨S2,hmem,V2,U2,q1,q2,q3⟩:=hq;obtain⟨x1,zs,x2,hz,hzy⟩:=thr_mem h (e,S2) hmem;cases e with
     |norm=>
      simp only at hz;obtain⟨q1',kl,el⟩:=lems_ok x1 q1;have q2':GE V2 U2 σ' (lems x1 S2).1.env a':=by rw[el];exact q2
      have hback:∃S2',G V2 U2 S2' σ'∧GE V2 U2 σ' S2'.env a'∧Kp V1 U1 (head S0 lh) σ1 V2 U2 S2' σ'∧back S0 lh (prep lh S2')=true:=by
       cases hb1:back S0 lh (prep lh S2) with
       |true=>exact⟨S2,q1,q2,q3,hb1⟩
       |false=>
        rw[hb1] at hz;simp only[cond_false] at hz;cases hb2:back S0 lh (prep lh (lems x1 S2).1) with
        |true=>exact⟨_,q1',q2',q3.trans kl,hb2⟩
        |false=>rw[hb2] at hz;cases hz
      clear q1 q2 q3 q1' q2';obtain⟨S2',q1,q2,q3,hbk⟩:=hback;unfold back at hbk;simp only[Bool.and_eq_true] at hbk;obtain⟨U3,g3,k3,e3⟩:=prep_ok lh q1;have k13:=q3.trans k3;have s3:Sta V U0 σ V2 U3 σ':=s1.trans (k13.sta g1)
      have he3:GE V2 U3 σ' (prep lh S2').env a':=by rw[e3];exact GE_sta (k3.sta q1) q2
      obtain⟨gh',geh',kh',sth'⟩:=head_ok (S:=S) (σ:=σ) (U:=U) g0 s3 g3 he3 hbk.1 k0 (k1.trans k13)
      have hls:=hbk.2;unfold lesser at hls;cases hsub:lh.meas.sub' (prep lh S2') (theta S0 lh (prep lh S2')) with
      |none=>rw[hsub] at hls;cases hls
      |some mm2=>
       rw[hsub] at hls;simp only[Bool.and_eq_true] at hls;obtain⟨d2,d3⟩:=hls;obtain⟨m2,hm2,hm2'⟩:=sub_ok g3 hsub;have hmV2:=L.ev_mono k13.le.ρ hm;have r1:=g3.ent d2 (L.ev_addc _ hmV2);have r2:=g3.ent d3 (L.ev_addc _ (L.ev_sub hmV2 hm2));exact⟨m2.toNat,by omega,_,U3,m2,rfl,hm2',gh',geh',kh',sth'⟩
     |exit id=>
      simp only[Option.some.injEq,Prod.mk.injEq] at hz;obtain⟨rfl,rfl⟩:=hz;exact⟨S2,hzy _ List.mem_cons_self,V2,U2,q1,q2,k1.trans q3⟩
     |ret=>
      simp only[Option.some.injEq,Prod.mk.injEq] at hz;obtain⟨rfl,rfl⟩:=hz;exact⟨S2,hzy _ List.mem_cons_self,V2,U2,q1,q2,k1.trans q3⟩
  ·cases h
 |rangeF f ps as b ihas ihb=>
  intro Sb V0b U σ a hYb gb heb hs0 hs' l h;obtain⟨V,g,kb,eb⟩:=rows_ok hs0 gb;have he:GE V U σ (rows hs0 Sb).1.env a:=by rw[eb];exact GE_sta (kb.sta gb) heb
  have hY:=hYb.sta (kb.sta gb);simp only[sxCode] at h;generalize (rows hs0 Sb).1=S at*
  generalize (rows hs0 Sb).2=hs at*
  suffices hmain:WB F H (.rangeF f ps as b) (Out V U S σ l) a σ from hmain.mono fun e a' σ' hq=>hq.lift kb fun _ h=>h
  unfold rngS at h;cases hc:S.cell f with
  |none=>rw[hc] at h;cases h
  |some c=>
   rw[hc] at h;simp only at h;split at h
   ·rename_i hm
    have hcr:=cell_ok he hc;generalize hV':({V with α:=setF V.α S.nb (some (σ.size,0)),lp:=setF V.lp S.nb (a,ps,as,b)}:Val)=V' at*
    have le:V.le V':=by
     subst hV';exact⟨.refl _,le_setF (g.fb _ (Nat.le_refl _)).1 _, .refl _,le_setF (g.fb _ (Nat.le_refl _)).2 _⟩
    have hα:V'.α=setF V.α S.nb (some (σ.size,0)):=by subst hV';rfl
    have hlp:V'.lp=setF V.lp S.nb (a,ps,as,b):=by subst hV';rfl
    have hlpn:V'.lp S.nb=some (a,ps,as,b):=by rw[hlp];exact setF_at _ _ _
    have hαn:V'.α S.nb=some (some (σ.size,0)):=by rw[hα];exact setF_at _ _ _
    obtain⟨g1,k1⟩:=G.alloc (he:= .loop .ready none) (o:= .loop a ps as b .ready none) g le hα (by subst hV';rfl) (by subst hV';rfl)
     (by rw[hlp];exact setF_ge (fun x hx=>(g.fb x hx).2) _)
     ⟨σ.size,0,a,ps,as,b,hαn,hlpn,by rw[Store.get_alloc,if_pos rfl]⟩
    have st:=k1.sta g;have hY':CX F H V' U (σ.alloc (.loop a ps as b .ready none)) {Y with ys:=(S.nb,⟨S.env,ps,as,b⟩)::Y.ys}:=by
     refine⟨fun b' y hb'=> ?_,(hY.sta st).rs,(hY.sta st).qs,(hY.sta st).cs⟩
     rw[look_cons] at hb';by_cases hbb:b'=S.nb
     ·rw[if_pos hbb] at hb';cases hb';subst hbb
      exact⟨a,hlpn,GE_sta st he⟩
     ·rw[if_neg hbb] at hb';exact(hY.sta st).ys b' y hb'
    cases hys:yctS K {Y with ys:=(S.nb,⟨S.env,ps,as,b⟩)::Y.ys} S.nb (newBlock S (.loop .ready none)).2 hs with
    |none=>rw[hys] at h;cases h
    |some yq=>
    obtain⟨Y1,h0⟩:=yq;rw[hys] at h;simp only at h;replace hY':=yctS_ok hK hY' g1 hαn hys
    cases hcv:callV K Y1 c [one (.yld S.nb)] (newBlock S (.loop .ready none)).2 h0 with
    |none=>rw[hcv] at h;cases h
    |some r=>
     obtain⟨l1,h1⟩:=r;rw[hcv] at h;simp only at h;obtain⟨v,σ1,hrun,sv,S2,hmem,V2,U2,g2,k2,_,_⟩:=callV_ok hK hY' g1 hcv (CR_sta st _ _ hcr) (vals:= [.func (.yield σ.size) #[] #[]]) ⟨⟨_,rfl,σ.size,0,hαn,rfl⟩,trivial⟩
     obtain⟨x1,zs,x2,hz,hzy⟩:=thr_mem h (sv,S2) hmem;simp only at hz;cases hgh:S2.getH S.nb with
     |none=>rw[hgh] at hz;cases hz
     |some he2=>
      rw[hgh] at hz;cases he2 with
      |loop st2 pend=>
       simp only at hz;cases hbz:stEq st2 .busy with
       |true=>rw[hbz] at hz;cases hz
       |false=>
        rw[hbz] at hz;simp only[cond_false] at hz;cases hpe:pendOf pend with
        |none=>rw[hpe] at hz;cases hz
        |some e=>
         rw[hpe] at hz;simp only[Option.some.injEq,Prod.mk.injEq] at hz;obtain⟨rfl,rfl⟩:=hz;have hnb:st2≠ .busy:=by intro e;subst e;cases hbz
         obtain⟨blk,of,tm,ps',as',bd',r1,r2,r3⟩:=g2.heap S.nb _ hgh;rw[k2.le.α _ _ hαn] at r1;cases r1
         rw[k2.le.lp _ _ hlpn] at r2;cases r2
         have hsz:σ.size<σ1.size:=by have:=k2.size;rw[Store.size_alloc] at this;omega
         obtain⟨g3,k3⟩:=G.set (σ':=σ1.set σ.size (.loop a ps as b .exhausted pend)) (he:= .gone) g2 hgh rfl (k2.le.α _ _ hαn)
          (fun l hl=>by rw[Store.get_set _ _ _ _ hsz,if_neg hl]) (Store.size_set _ _ _) trivial
         have kk:=k1.trans (k2.trans k3);have hend:Out V U S σ l e a (σ1.set σ.size (.loop a ps as b .exhausted pend)):=
          ⟨_,hzy _ List.mem_cons_self,V2,U2,g3.env _,GE_sta (kk.sta g) he,kk.env2 _⟩
         cases c with
         |fn x=>
          obtain⟨hx1,fid,p,q,hfv⟩:=hcr;refine WB_rangeF (g:=fid) (first:=p) (caps:=q) hfv ⟨v,σ1, ?_,a,ps,as,b,st2,pend,e,r3,hnb,pendOf_ok hpe,hend⟩
          obtain⟨N,hN⟩:=hrun;refine⟨N,fun n hn=> ?_⟩
          have:=hN n hn
          rw[hfv] at this;simpa only[evCallV] using this
         |gfn fid=>
          have hfv:a.eval f= .func (.func fid) #[] #[]:=hcr
          refine WB_rangeF (g:=fid) (first:= #[]) (caps:= #[]) hfv ⟨v,σ1, ?_,a,ps,as,b,st2,pend,e,r3,hnb,pendOf_ok hpe,hend⟩
          obtain⟨N,hN⟩:=hrun;refine⟨N,fun n hn=> ?_⟩
          have:=hN n hn
          rw[hfv] at this;simpa only[evCallV] using this
         |_=>simp at hm
      |_=>cases hz
   ·cases h
end Go.Ev.Sx
end
end SxX
section SxY
noncomputable section
namespace Go.Ev.Sx
variable {F :FuncId→Option EFunc} {H:Caller}
variable {V V':Val} {U U':Nat→Prop} {S S':SS} {σ σ':Store} {a:Env}
theorem resS_ok :∀{rs:List (Tmp×Option (Option Nat))} {S S1:SS} {V:Val} (g:G V U S σ) (he:GE V U σ S.env a) {svs:List SV},resS S rs=some (svs,S1)→
  ∃vs V1,resultsE rs a σ=some vs∧G V1 U S1 σ∧Kp V U S σ V1 U S1 σ∧F2 (SVR V1 U σ) svs vs:=by
 intro rs;induction rs with
 |nil=>intro S S1 V g he svs h;simp only[resS,Option.some.injEq,Prod.mk.injEq] at h;obtain⟨rfl,rfl⟩:=h;exact⟨[],V,rfl,g, .refl ..,trivial⟩
 |cons p r ih=>
  intro S S1 V g he svs h;obtain⟨t,c⟩:=p;cases c with
  |none=>
   simp only[resS] at h;cases hl:look t S.env with
   |none=>rw[hl] at h;cases h
   |some v=>
    rw[hl] at h;cases hr:resS S r with
    |none=>rw[hr] at h;cases h
    |some q=>
     obtain⟨vs,S2⟩:=q;rw[hr] at h;simp only[Option.some.injEq,Prod.mk.injEq] at h;obtain⟨rfl,rfl⟩:=h;obtain⟨ws,V1,h1,h2,h3,h4⟩:=ih g he hr;refine⟨a.get t::ws,V1, ?_,h2,h3,SVR_sta (h3.sta g) _ _ (he t v hl),h4⟩
     unfold resultsE at h1 ⊢;rw[List.mapM_cons,h1];rfl
  |some n=>
   simp only[resS] at h;cases hl:S.cell (.tmp t) with
   |none=>rw[hl] at h;cases h
   |some c=>
    rw[hl] at h;cases c with
    |ptr b off=>
     simp only at h;cases hld:loadS S b off n with
     |none=>rw[hld] at h;cases h
     |some q=>
      obtain⟨v,S2⟩:=q;rw[hld] at h;simp only at h;cases hr:resS S2 r with
      |none=>rw[hr] at h;cases h
      |some q=>
       obtain⟨vs,S3⟩:=q;rw[hr] at h;simp only[Option.some.injEq,Prod.mk.injEq] at h;obtain⟨rfl,rfl⟩:=h;obtain⟨o,blk,of,h1,h2,h3⟩:=cell_ok he hl;obtain⟨w,V1,q1,q2,q3,q4,q5⟩:=loadS_ok g hld h2 h1;obtain⟨ws,V2,r1,r2,r3,r4⟩:=ih q2 (by rw[q4];exact GE_sta (q3.sta g) he) hr
       refine⟨w::ws,V2, ?_,r2,q3.trans r3,SVR_sta (r3.sta q2) _ _ q5,r4⟩
       have h3':a.get t= .pointer (some ⟨blk,of+o,none⟩):=h3
       unfold resultsE at r1 ⊢;rw[List.mapM_cons,r1];simp only[h3',q1];rfl
    |_=>cases h
theorem wsOf_ok :∀{svs:List SV} {vs:List Value} {ws:List (Bool×List C)},F2 (SVR V U σ) svs vs→wsOf svs=some ws→F2 (WR V U σ) ws vs
 | [],[],_,_,h=>by simp only[wsOf,Option.some.injEq] at h;subst h;trivial
 | .w g cs::r,v::vs,ws,hf,h=>by
  simp only[wsOf] at h;cases hr:wsOf r with
  |none=>rw[hr] at h;cases h
  |some q=>rw[hr] at h;simp only[Option.map_some,Option.some.injEq] at h;subst h;exact⟨hf.1,wsOf_ok hf.2 hr⟩
 | .tup _::_,_,_,_,h=>by cases h
 | .any::_,_,_,_,h=>by cases h
theorem packS_ok {svs:List SV} {vs:List Value} {sv:SV} (hf:F2 (SVR V U σ) svs vs) (h:packS svs=some sv):SVR V U σ sv (packE vs):=by
 have tupk:∀{svs:List SV} {vs:List Value},F2 (SVR V U σ) svs vs→(wsOf svs).map .tup=some sv→SVR V U σ sv (.tuple vs.toArray):=by
  intro svs vs hf h;cases hr:wsOf svs with
  |none=>rw[hr] at h;cases h
  |some ws=>rw[hr] at h;simp only[Option.map_some,Option.some.injEq] at h;subst h;exact⟨vs,rfl,wsOf_ok hf hr⟩
 match svs,vs,hf,h with
 | [],[],hf,h=>exact tupk (svs:= []) (vs:= []) trivial h
 | [x],[v],hf,h=>simp only[packS,Option.some.injEq] at h;subst h;exact hf.1
 |x::y::r,v::w::vs,hf,h=>exact tupk (svs:=x::y::r) (vs:=v::w::vs) hf h
theorem foldl_set_get :∀(vs:List Value) (i:Nat) (e:Env) (t:Nat),t<i→Env.get ((vs.zipIdx i).foldl (fun e (p:Value×Nat)=>T.set e p.2 p.1) e) t=e.get t:=by
 intro vs;induction vs with
 |nil=>intro i e t h;rfl
 |cons v vs ih=>
  intro i e t h;rw[List.zipIdx_cons,List.foldl_cons,ih (i+1) _ t (by omega)]
  rw[Env.get_put,if_neg (by omega)]
theorem argsEnv_ok' :∀{args:List SV} {vals:List Value} (i:Nat) (e:Env),F2 (SVR V U σ) args vals→∀t sv,look t (argsEnv i args)=some sv→SVR V U σ sv (Env.get ((vals.zipIdx i).foldl (fun e (p:Value×Nat)=>T.set e p.2 p.1) e) t):=by
 intro args;induction args with
 |nil=>intro vals i e hf t sv h;cases h
 |cons x r ih=>
  intro vals i e hf t sv h;cases vals with
  |nil=>cases hf
  |cons v vs=>
   rw[argsEnv,look_cons] at h;rw[List.zipIdx_cons,List.foldl_cons];by_cases ht:t=i
   ·rw[if_pos ht] at h;cases h;subst ht
    rw[foldl_set_get _ _ _ _ (Nat.lt_succ_self _),Env.get_put,if_pos rfl];exact hf.1
   ·rw[if_neg ht] at h
    exact ih (i+1) _ hf.2 t sv h
theorem argsEnv_ok {args:List SV} {vals:List Value} (hf:F2 (SVR V U σ) args vals):GE V U σ (argsEnv 0 args) (envOf vals):=by
 intro t sv h;exact argsEnv_ok' 0 _ hf t sv h
theorem zipEnv_ok :∀{ps:List Tmp} {args:List SV} {vals:List Value} {env:List (Nat×SV)} {tm:Env},F2 (SVR V U σ) args vals→GE V U σ env tm→
  GE V U σ ((ps.zip args).reverse++env) ((ps.zip vals).foldl (fun e (x:Tmp×Value)=>T.set e x.1 x.2) tm):=by
 intro ps;induction ps with
 |nil=>intro args vals env tm hf he;simpa using he
 |cons p ps ih=>
  intro args vals env tm hf he;cases args with
  |nil=>cases vals with
   |nil=>simpa using he
   |cons _ _=>cases hf
  |cons x xs=>cases vals with
   |nil=>cases hf
   |cons v vs=>
    simp only[List.zip_cons_cons,List.reverse_cons,List.foldl_cons,List.append_assoc,List.singleton_append];refine ih hf.2 (fun t sv h=> ?_)
    rw[look_cons] at h;rw[Env.get_put];by_cases ht:t=p
    ·rw[if_pos ht] at h ⊢;cases h;exact hf.1
    ·rw[if_neg ht] at h ⊢;exact he t sv h
def CallR' (V:Val) (U:Nat→Prop) (S:SS) (σ:Store) (l:List (SV×SS)) (v:Value) (σ':Store):Prop:=
 ∃sv S',(sv,S')∈l∧∃V' U',G V' U' S' σ'∧Kp V U S σ V' U' S' σ'∧SVR V' U' σ' sv v
theorem runB_ok {code:EC→SS→Hs→Res (Ex×SS)} {fn:EFunc} (hc:∀{hs hs':Hs} {l:List (Ex×SS)},code fn.body S hs=some (l,hs')→WB F H fn.body (Out V U S σ l) a σ)
  {hs hs':Hs} {l:List (SV×SS)} (h:runB code fn S hs=some (l,hs')):
  WB F H fn.body (fun e a σ'=>(e= .norm∨e= .ret)∧∃vs,resultsE fn.results a σ'=some vs∧CallR' V U S σ l (packE vs) σ') a σ:=by
 unfold runB at h;cases hb:code fn.body S hs with
 |none=>rw[hb] at h;cases h
 |some r=>
  obtain⟨l1,h1⟩:=r;rw[hb] at h;simp only at h;refine(hc hb).mono fun e a' σ' hq=> ?_
  obtain⟨S1,hm,V1,U1,q1,q2,q3⟩:=hq;obtain⟨x1,zs,x2,hz,hzy⟩:=thr_mem h (e,S1) hm
  have fin:(match resS S1 fn.results with
    |some (vs,S1)=>match packS vs with
     |some v=>some ([(v,S1)],x1)
     |none=>none
    |none=>none)=some (zs,x2)→∃vs,resultsE fn.results a' σ'=some vs∧CallR' V U S σ l (packE vs) σ':=by
   intro hz;cases hr:resS S1 fn.results with
   |none=>rw[hr] at hz;cases hz
   |some q=>
    obtain⟨svs,S2⟩:=q;rw[hr] at hz;simp only at hz;cases hp:packS svs with
    |none=>rw[hp] at hz;cases hz
    |some sv=>
     rw[hp] at hz;simp only[Option.some.injEq,Prod.mk.injEq] at hz;obtain⟨rfl,rfl⟩:=hz;obtain⟨vs,V2,r1,r2,r3,r4⟩:=resS_ok q1 q2 hr;exact⟨vs,r1,sv,S2,hzy _ List.mem_cons_self,V2,U1,r2,q3.trans r3,packS_ok r4 hp⟩
  cases e with
  |norm=>exact⟨.inl rfl,fin hz⟩
  |ret=>exact⟨.inr rfl,fin hz⟩
  |exit id=>cases hz
def CtOK (F:FuncId→Option EFunc) (H:Caller) (ct:Ct):Prop:=
 ∀f args S l,ct f args S=some (some l)→∀V U σ vals,G V U S σ→F2 (SVR V U σ) args vals→WC F H (.func f) vals (CallR' V U S σ l) σ
theorem WC.mono {f:Callee} {args:List Value} {Q Q':Value→Store→Prop} (h:WC F H f args Q σ) (hq:∀v σ',Q v σ'→Q' v σ'):WC F H f args Q' σ:=by
 obtain⟨v,σ',h1,h2⟩:=h;exact⟨v,σ',h1,hq _ _ h2⟩
theorem CallR'.env {e:List (Nat×SV)} {l:List (SV×SS)} {v:Value} (h:CallR' V U {S with env:=e} σ l v σ'):CallR V U S σ (l.map fun p=>(p.1,{p.2 with env:=S.env})) v σ':=by
 obtain⟨sv,S1,hm,V1,U1,q1,q2,q3⟩:=h;exact⟨sv,{S1 with env:=S.env},List.mem_map.2 ⟨_,hm,rfl⟩,V1,U1,q1.env _,(q2.env1).env2 _,q3,rfl⟩
theorem CallR'.env0 {l:List (SV×SS)} {v:Value} (h:CallR' V U S σ l v σ'):CallR V U S σ (l.map fun p=>(p.1,{p.2 with env:=S.env})) v σ':=by
 obtain⟨sv,S1,hm,V1,U1,q1,q2,q3⟩:=h;exact⟨sv,{S1 with env:=S.env},List.mem_map.2 ⟨_,hm,rfl⟩,V1,U1,q1.env _,q2.env2 _,q3,rfl⟩
theorem inl_ok {K:CallF} (hK:KOK F H K) {Y:Ys} {f:FuncId} {fn:EFunc} (hf:F f=some fn) (hH:∀c args σ,H c args σ=none) {args:List SV} {vals:List Value} (hl:args.length≤fn.ntmps) (hY:CX F H V U σ Y) (g:G V U S σ) (hv:F2 (SVR V U σ) args vals)
  {hs hs':Hs} {l:List (SV×SS)} (h:(match runB (sxCode K Y) fn {S with env:=argsEnv 0 args} hs with
          |some (l,h1)=>some (l.map fun p=>(p.1,{p.2 with env:=S.env}),h1)
          |none=>none)=some (l,hs')):WC F H (.func f) vals (CallR V U S σ l) σ:=by
 cases hr:runB (sxCode K Y) fn {S with env:=argsEnv 0 args} hs with
 |none=>rw[hr] at h;cases h
 |some q=>
  obtain⟨l1,h1⟩:=q;rw[hr] at h;simp only[Option.some.injEq,Prod.mk.injEq] at h;obtain⟨rfl,rfl⟩:=h;refine WC_func hf (hH _ _ _) (by have:=hv.len;omega) ((runB_ok (a:=envOf vals) (fun hb=>sxCode_ok hK hY (g.env _) (argsEnv_ok hv) hb) hr).mono fun e a' σ' hq=> ?_)
  obtain⟨he,vs,h1,h2⟩:=hq;exact⟨he,vs,h1,h2.env⟩
theorem yield_ok {K:CallF} (hK:KOK F H K) {Y:Ys} (hH:∀c args σ,H c args σ=none) {b:Nat} {args:List SV} {vals:List Value} (hY:CX F H V U σ Y) (g:G V U S σ) (hv:F2 (SVR V U σ) args vals) {hs hs':Hs} {l:List (SV×SS)}
  (h:(match S.getH b,look b Y.ys with
   |some (.loop .ready _),some y=>bif Nat.beq y.ps.length args.length then
     (match sxCode K Y y.as {S with env:=(y.ps.zip args).reverse++y.env} hs with
      |some (l,h1)=>thr (fun(p:Ex×SS) hs=>match p.1,p.2.getH b with
         | .norm,some (.loop .ready none)=>(match sxCode K Y y.body (p.2.setH b (.loop .busy none)) hs with
          |some (l2,h2)=>bif l2.all (fun q=>isLoopH (q.2.getH b)) then some (l2.map fun q=>(one (.bool (.c (exEq q.1 .norm))),{q.2 with env:=S.env,heap:=(b, .loop (bif exEq q.1 .norm then .ready else .done) (pendEx q.1))::q.2.heap}),h2) else none
          |none=>none)
         |_,_=>none) l h1
      |none=>none) else none
   |_,_=>none)=some (l,hs')) {blk of:Nat} (hα:V.α b=some (some (blk,of))):WC F H (.yield blk) vals (CallR V U S σ l) σ:=by
 split at h
 ·rename_i pend y hg hy
  cases hlen:Nat.beq y.ps.length args.length with
  |false=>rw[hlen] at h;cases h
  |true=>
   rw[hlen] at h;simp only[cond_true] at h;have hlen:=Nat.eq_of_beq_eq_true hlen;cases ha:sxCode K Y y.as {S with env:=(y.ps.zip args).reverse++y.env} hs with
   |none=>rw[ha] at h;cases h
   |some q=>
    obtain⟨l1,h1⟩:=q;rw[ha] at h;simp only at h;obtain⟨tm,hlp,hge⟩:=hY.ys b y hy;obtain⟨blk',of',tm',ps',as',bd',e1,e2,e3⟩:=g.heap b _ hg;rw[hα] at e1;cases e1
    rw[hlp] at e2;cases e2
    refine WC_yield (hH _ _ _) e3 (by rw[hlen];exact hv.len) ?_
    refine(sxCode_ok hK hY (g.env _) (zipEnv_ok hv hge) ha).mono fun e a1 σ1 hq=> ?_
    obtain⟨S1,hm,V1,U1,q1,q2,q3⟩:=hq;obtain⟨x1,zs,x2,hz,hzy⟩:=thr_mem h (e,S1) hm;simp only at hz;split at hz
    ·rename_i hg1
     have hα1:=q3.le.α _ _ hα;have hlp1:=q3.le.lp _ _ hlp;obtain⟨blk',of',tm',ps',as',bd',e1,e2,e4⟩:=q1.heap b _ hg1;rw[hα1] at e1;cases e1
     rw[hlp1] at e2;cases e2
     refine⟨rfl,_,_,_,_,_,e4, ?_⟩
     have hblk1:blk<σ1.size:=Own.lt q1 ⟨b,_,of,hg1,rfl,hα1⟩
     obtain⟨g2,k2⟩:=G.set (σ':=σ1.set blk (.loop tm y.ps y.as y.body .busy none)) (he:= .loop .busy none) q1 hg1 rfl hα1
      (fun l hl=>by rw[Store.get_set _ _ _ _ hblk1,if_neg hl]) (Store.size_set _ _ _) ⟨blk,of,tm,y.ps,y.as,y.body,hα1,hlp1,by rw[Store.get_set _ _ _ _ hblk1,if_pos rfl]⟩
     have k02:=q3.trans k2;have s02:Sta V U σ V1 U1 (σ1.set blk (.loop tm y.ps y.as y.body .busy none)):=k02.sta (g.env _)
     cases hb:sxCode K Y y.body (S1.setH b (.loop .busy none)) x1 with
     |none=>rw[hb] at hz;cases hz
     |some q=>
      obtain⟨l2,h2⟩:=q;rw[hb] at hz;simp only at hz;cases hall:l2.all (fun q=>isLoopH (q.2.getH b)) with
      |false=>rw[hall] at hz;cases hz
      |true=>
       rw[hall] at hz;simp only[cond_true,Option.some.injEq,Prod.mk.injEq] at hz;obtain⟨rfl,rfl⟩:=hz;refine(sxCode_ok hK (hY.sta s02) g2 (GE_sta (k2.sta q1) q2) hb).mono fun e2 a2 σ2 hq=> ?_
       obtain⟨S2,hm2,V2,U2,r1,r2,r3⟩:=hq;have hil:=List.all_eq_true.1 hall _ hm2;have hα2:=r3.le.α _ _ hα1;have hlp2:=r3.le.lp _ _ hlp1;cases hg2:S2.getH b with
       |none=>rw[hg2] at hil;cases hil
       |some he2=>
        rw[hg2] at hil;cases he2 with
        |loop st2 pd2=>
         obtain⟨blk',of',tm',ps',as',bd',e1,e2',e5⟩:=r1.heap b _ hg2;rw[hα2] at e1;cases e1
         rw[hlp2] at e2';cases e2'
         refine⟨_,_,_,_,_,_,e5, ?_⟩
         have hblk2:blk<σ2.size:=Own.lt r1 ⟨b,_,of,hg2,rfl,hα2⟩
         have hcd:(bif exEq e2 .norm then LoopState.ready else .done)=(if e2= .norm then .ready else .done):=by cases e2<;>simp[exEq]
         obtain⟨g3,k3⟩:=G.set (σ':=σ2.set blk (.loop tm y.ps y.as y.body (if e2= .norm then .ready else .done) (pendEx e2))) (he:= .loop (bif exEq e2 .norm then .ready else .done) (pendEx e2)) r1 hg2 rfl hα2
          (fun l hl=>by rw[Store.get_set _ _ _ _ hblk2,if_neg hl]) (Store.size_set _ _ _) ⟨blk,of,tm,y.ps,y.as,y.body,hα2,hlp2,by rw[Store.get_set _ _ _ _ hblk2,if_pos rfl,hcd]⟩
         refine⟨one (.bool (.c (exEq e2 .norm))),_,hzy _ (List.mem_map.2 ⟨(e2,S2),hm2,rfl⟩),V2,U2,g3.env _,((k02.trans (r3.trans k3)).env1).env2 _,⟨_,rfl,exEq e2 .norm,rfl, ?_⟩,rfl⟩
         cases e2<;>simp[exEq]
        |_=>cases hil
    ·cases hz
 ·cases h
end Go.Ev.Sx
end
end SxY
section SxZ
noncomputable section
namespace Go.Ev.Sx
variable {F :FuncId→Option EFunc} {H:Caller}
variable {V V':Val} {U U':Nat→Prop} {S S':SS} {σ σ':Store} {a:Env}
def mixF {α:Type} (f g:Nat→Option α) (n0 n k d:Nat) (x:Nat):Option α:=
 if x<n then(if x<n0 then f x else g x) else if x - n<d then f (k+(x - n)) else none
section
variable {α :Type} {f g:Nat→Option α} {n0 n k d:Nat}
theorem mix_le (h1:∀x a,x<n0→g x=some a→f x=some a) (h2:∀x,n≤x→g x=none):Le g (mixF f g n0 n k d):=by
 intro x a e;have:x<n:=by
  by_cases hx:x<n
  ·exact hx
  ·rw[h2 x (by omega)] at e;cases e
 unfold mixF;rw[if_pos this];split
 ·rename_i hx;exact h1 x a hx e
 ·exact e
theorem mix_new {i:Nat} (h:i<d):mixF f g n0 n k d (n+i)=f (k+i):=by
 unfold mixF;rw[if_neg (by omega),show n+i - n=i by omega,if_pos h]
theorem mix_none {x:Nat} (h:n+d≤x):mixF f g n0 n k d x=none:=by
 unfold mixF;rw[if_neg (by omega),if_neg (by omega)]
theorem mix_old {x:Nat} (h:x<n0) (hn:n0≤n):mixF f g n0 n k d x=f x:=by
 unfold mixF;rw[if_pos (by omega),if_pos h]
end
theorem upTo_succ (a n:Nat):upTo a (n+1)=upTo a n++ [a+n]:=rfl
theorem look_new {α:Type} {f:Nat→α} {a:Nat} {r:List (Nat×α)} (x:Nat):∀d,look x ((upTo 0 d).map (fun i=>(a+i,f i))++r)=if a≤x∧x<a+d then some (f (x - a)) else look x r:=by
 intro d;induction d generalizing r with
 |zero=>rw[if_neg (by omega)];rfl
 |succ d ih=>
  rw[upTo_succ,List.map_append,List.append_assoc,ih];by_cases h1:a≤x∧x<a+d
  ·rw[if_pos h1,if_pos (by omega)]
  ·rw[if_neg h1]
   simp only[List.map_cons,List.map_nil,List.singleton_append,Nat.zero_add,look_cons];by_cases h2:x=a+d
   ·subst h2;rw[if_pos rfl,if_pos (by omega)];congr 1;congr 1;omega
   ·rw[if_neg h2,if_neg (by omega)]
structure Bk (V2 V':Val) (θ:Th) (h:LH) (k0:Nat):Prop where
 ρ:Le (Vh V' θ).ρ V2.ρ
 α:∀b b',sB θ b=some b'→V'.α b'=V2.α b
 κ:∀x y v,sK θ h k0 x=some y→V2.κ x=some v→V'.κ y=some v
section
variable {V2 :Val} {θ:Th} {h:LH} {k0:Nat}
theorem Bk.sub (bk:Bk V2 V' θ h k0) (g:G V' U S σ) {l m:L} (e:l.sub' S θ=some m) {n:Int} (hn:l.ev V2.ρ=some n):m.ev V'.ρ=some n:=by
 obtain⟨k,h1,h2⟩:=sub_ok g e;have:=L.ev_mono bk.ρ h2
 rw[hn] at this;cases this;exact h1
theorem Bk.ty (bk:Bk V2 V' θ h k0) (g:G V' U S σ):∀{t u:Ty},subTy S θ t=some u→∀{l:List Value},VT V2 U σ t l→VT V' U σ u l:=by
 intro t;induction t with
 |int k lo hi=>
  intro u h l hv;simp only[subTy] at h;split at h
  ·rename_i x y h1 h2
   simp only[Option.some.injEq] at h;subst h;obtain⟨n,tl,p,q,e,e1,e2,e3⟩:=hv;exact⟨n,tl,p,q,e,bk.sub g h1 e1,bk.sub g h2 e2,e3⟩
  ·cases h
 |bool=>intro u h l hv;simp only[subTy,Option.some.injEq] at h;subst h;exact hv
 |str=>intro u h l hv;simp only[subTy,Option.some.injEq] at h;subst h;exact hv
 |nil=>intro u h l hv;simp only[subTy,Option.some.injEq] at h;subst h;trivial
 |cons t1 t2 ih1 ih2=>
  intro u h l hv;simp only[subTy] at h;split at h
  ·rename_i x y h1 h2
   simp only[Option.some.injEq] at h;subst h;obtain⟨r1,x',tl,e,r2⟩:=hv;exact⟨ih1 h1 r1,x',tl,e,ih2 h2 r2⟩
  ·cases h
 |sl e esz p lo hi ih=>
  intro u h l hv;simp only[subTy] at h;split at h
  ·rename_i q x y h0 h1 h2
   simp only[Option.some.injEq] at h;subst h;obtain⟨q',n,cap,tl,p',r',e1,e2,e3,e4,e5,e6,e7⟩:=hv;refine⟨q',n,cap,tl,p',r',e1,bk.sub g h1 e2,bk.sub g h2 e3,e4,e5,e6, ?_⟩
   rcases e7 with e7| ⟨blk,o,st,c,k1,k2,k3,k4,k5⟩
   ·exact .inl e7
   ·exact .inr ⟨blk,o,st,c,k1,k2,k3,k4,fun i hi=>ih h0 (k5 i hi)⟩
  ·cases h
theorem Bk.at (bk:Bk V2 V' θ h k0) {b b' e o:Nat} (hb:sB θ b=some b') {p:Option Addr} (ha:At V2 b e o p):At V' b' e o p:=by
 obtain⟨blk,of,h1,h2⟩:=ha;exact⟨blk,of,by rw[bk.α _ _ hb];exact h1,h2⟩
theorem Bk.sat (bk:Bk V2 V' θ h k0) {b b' e o:Nat} (hb:sB θ b=some b') {p:Option Addr} (ha:Sat V2 b e o p):Sat V' b' e o p:=by
 rcases ha with ha| ⟨o',h1,h2⟩
 ·exact .inl ha
 ·exact .inr ⟨o',h1,bk.at hb h2⟩
theorem Bk.slr (bk:Bk V2 V' θ h k0) {b b' e o:Nat} (hb:sB θ b=some b') {cp:Cap} {p:Option Addr} {n cap:Nat} (hs:SlR V2 b e o cp p n cap):SlR V' b' e o cp p n cap:=by
 cases cp with
 |inf=>
  rcases hs with⟨h1,h2⟩| ⟨h1,h2⟩
  ·exact .inl ⟨by rw[bk.α _ _ hb];exact h1,h2⟩
  ·exact .inr ⟨bk.at hb h1,h2⟩
 |full=>exact⟨hs.1,hs.2.1,fun e=>bk.at hb (hs.2.2.1 e),bk.sat hb hs.2.2.2⟩
 |any=>exact⟨hs.1,hs.2.1,fun e=>bk.at hb (hs.2.2.1 e),bk.sat hb hs.2.2.2⟩
 |unk=>exact⟨hs.1,fun e=>bk.at hb (hs.2.1 e),bk.sat hb hs.2.2⟩
theorem Bk.c (bk:Bk V2 V' θ h k0) (g:G V' U S σ) {c d:C} (e:sC θ h k0 S c=some d) {v:Value} (hv:CR V2 U σ c v) (hold:∀x,x<θ.nk→∀v,V2.κ x=some v→V'.κ x=some v) (holdb:∀b,b<θ.nb→V'.α b=V2.α b):CR V' U σ d v:=by
 cases c with
 |int k l=>
  simp only[sC] at e;cases h1:l.sub' S θ with
  |none=>rw[h1] at e;cases e
  |some m=>
   rw[h1] at e;simp only[Option.map_some,Option.some.injEq] at e;subst e;obtain⟨n,q1,q2⟩:=hv;exact⟨n,bk.sub g h1 q1,q2⟩
 |bool b=>
  cases b with
  |c b=>simp only[sC,Option.some.injEq] at e;subst e;exact hv
  |k x n=>
   simp only[sC] at e;cases h1:sK θ h k0 x with
   |none=>rw[h1] at e;cases e
   |some y=>
    rw[h1] at e;simp only[Option.map_some,Option.some.injEq] at e;subst e;obtain⟨z,⟨w,q1,q3⟩,q2⟩:=hv;exact⟨z,⟨w,bk.κ _ _ _ h1 q1,q3⟩,q2⟩
  |_=>cases e
 |str x=>
  simp only[sC] at e;cases h1:sK θ h k0 x with
  |none=>rw[h1] at e;cases e
  |some y=>
   rw[h1] at e;simp only[Option.map_some,Option.some.injEq] at e;subst e;exact⟨bk.κ _ _ _ h1 hv.1,hv.2⟩
 |strc s=>simp only[sC,Option.some.injEq] at e;subst e;exact hv
 |ptr b o=>
  simp only[sC] at e;split at e
  ·rename_i b' o' h1 h2
   simp only[Option.some.injEq] at e;subst e;obtain⟨n,blk,of,q1,q2,q3⟩:=hv;exact⟨n,blk,of,bk.sub g h2 q1,by rw[bk.α _ _ h1];exact q2,q3⟩
  ·cases e
 |sl x b o n ee cp=>
  simp only[sC] at e;split at e
  ·rename_i y b' o' n' h1 h2 h3 h4
   simp only[Option.some.injEq] at e;subst e;obtain⟨p,n,cap,o,q1,q2,q3,q4,q5⟩:=hv;exact⟨p,n,cap,o,bk.κ _ _ _ h1 q1,q2,bk.sub g h4 q3,bk.sub g h3 q4,bk.slr h2 q5⟩
  ·cases e
 |nilsl=>simp only[sC,Option.some.injEq] at e;subst e;exact hv
 |nilptr=>simp only[sC,Option.some.injEq] at e;subst e;exact hv
 |nilmap=>simp only[sC,Option.some.injEq] at e;subst e;exact hv
 |nilfn=>simp only[sC,Option.some.injEq] at e;subst e;exact hv
 |nilif=>simp only[sC,Option.some.injEq] at e;subst e;exact hv
 |map b=>
  simp only[sC] at e;cases h1:sB θ b with
  |none=>rw[h1] at e;cases e
  |some y=>
   rw[h1] at e;simp only[Option.map_some,Option.some.injEq] at e;subst e;obtain⟨blk,of,q1,q2⟩:=hv;exact⟨blk,of,by rw[bk.α _ _ h1];exact q1,q2⟩
 |fn x=>
  simp only[sC] at e;cases h1:Nat.ble θ.nk x with
  |true=>rw[h1] at e;cases e
  |false=>
   rw[h1] at e;simp only[cond_false,Option.some.injEq] at e;subst e
   exact⟨hold x (by have:¬θ.nk≤x:=fun e=>by rw[ble_iff.2 e] at h1;cases h1
                    omega) _ hv.1,hv.2⟩
 |gfn f=>simp only[sC,Option.some.injEq] at e;subst e;exact hv
 |yld b=>
  simp only[sC] at e;cases h1:Nat.ble θ.nb b with
  |true=>rw[h1] at e;cases e
  |false=>
   rw[h1] at e;simp only[cond_false,Option.some.injEq] at e;subst e;obtain⟨blk,of,q1,q2⟩:=hv
   exact⟨blk,of,by rw[holdb b (by have:¬θ.nb≤b:=fun e=>by rw[ble_iff.2 e] at h1;cases h1
                                  omega)];exact q1,q2⟩
 |ty t=>
  simp only[sC] at e;cases h1:subTy S θ t with
  |none=>rw[h1] at e;cases e
  |some u=>
   rw[h1] at e;simp only[Option.map_some,Option.some.injEq] at e;subst e;exact⟨bk.ty g h1 hv.1,hv.2⟩
theorem Bk.cs (bk:Bk V2 V' θ h k0) (hold:∀x,x<θ.nk→∀v,V2.κ x=some v→V'.κ x=some v) (holdb:∀b,b<θ.nb→V'.α b=V2.α b) (g:G V' U S σ):∀{cs ds:List C},sCs θ h k0 S cs=some ds→∀{vs:List Value},F2 (CR V2 U σ) cs vs→F2 (CR V' U σ) ds vs
 | [],ds,e,vs,hv=>by
  simp only[sCs,Option.some.injEq] at e;subst e;cases vs with
  |nil=>trivial
  |cons _ _=>cases hv
 |c::cs,ds,e,vs,hv=>by
  simp only[sCs] at e;split at e
  ·rename_i d ds' h1 h2
   simp only[Option.some.injEq] at e;subst e;cases vs with
   |nil=>cases hv
   |cons v vs=>exact⟨bk.c g h1 hv.1 hold holdb,Bk.cs bk hold holdb g h2 hv.2⟩
  ·cases e
theorem Bk.w (bk:Bk V2 V' θ h k0) (hold:∀x,x<θ.nk→∀v,V2.κ x=some v→V'.κ x=some v) (holdb:∀b,b<θ.nb→V'.α b=V2.α b) (g:G V' U S σ) {gg:Bool} {cs ds:List C} (e:sCs θ h k0 S cs=some ds) {v:Value} (hv:WR V2 U σ (gg,cs) v):WR V' U σ (gg,ds) v:=by
 cases gg with
 |true=>
  obtain⟨vs,h1,h2⟩:=hv;exact⟨vs,h1,bk.cs hold holdb g e h2⟩
 |false=>
  obtain⟨c,h1,h2⟩:=hv;simp only at h1;subst h1;simp only[sCs] at e;cases hc:sC θ h k0 S c with
  |none=>rw[hc] at e;cases e
  |some d=>rw[hc] at e;simp only[Option.some.injEq] at e;subst e;exact⟨d,rfl,bk.c g hc h2 hold holdb⟩
theorem Bk.ws (bk:Bk V2 V' θ h k0) (hold:∀x,x<θ.nk→∀v,V2.κ x=some v→V'.κ x=some v) (holdb:∀b,b<θ.nb→V'.α b=V2.α b) (g:G V' U S σ):∀{cs ds:List (Bool×List C)},sWs θ h k0 S cs=some ds→∀{vs:List Value},F2 (WR V2 U σ) cs vs→F2 (WR V' U σ) ds vs
 | [],ds,e,vs,hv=>by
  simp only[sWs,Option.some.injEq] at e;subst e;cases vs with
  |nil=>trivial
  |cons _ _=>cases hv
 |(gg,c)::cs,ds,e,vs,hv=>by
  simp only[sWs] at e;split at e
  ·rename_i d ds' h1 h2
   simp only[Option.some.injEq] at e;subst e;cases vs with
   |nil=>cases hv
   |cons v vs=>exact⟨bk.w hold holdb g h1 hv.1,Bk.ws bk hold holdb g h2 hv.2⟩
  ·cases e
theorem Bk.sv (bk:Bk V2 V' θ h k0) (hold:∀x,x<θ.nk→∀v,V2.κ x=some v→V'.κ x=some v) (holdb:∀b,b<θ.nb→V'.α b=V2.α b) (g:G V' U S σ) {x y:SV} (e:sSV θ h k0 S x=some y) {v:Value} (hv:SVR V2 U σ x v):SVR V' U σ y v:=by
 cases x with
 |w gg cs=>
  simp only[sSV] at e;cases h1:sCs θ h k0 S cs with
  |none=>rw[h1] at e;cases e
  |some ds=>rw[h1] at e;simp only[Option.map_some,Option.some.injEq] at e;subst e;exact bk.w hold holdb g h1 hv
 |tup ws=>
  simp only[sSV] at e;cases h1:sWs θ h k0 S ws with
  |none=>rw[h1] at e;cases e
  |some ds=>
   rw[h1] at e;simp only[Option.map_some,Option.some.injEq] at e;subst e;obtain⟨vs,q1,q2⟩:=hv;exact⟨vs,q1,bk.ws hold holdb g h1 q2⟩
 |any=>simp only[sSV,Option.some.injEq] at e;subst e;trivial
theorem Bk.he (bk:Bk V2 V' θ h k0) (hold:∀x,x<θ.nk→∀v,V2.κ x=some v→V'.κ x=some v) (holdb:∀b,b<θ.nb→V'.α b=V2.α b) (g:G V' U S σ) {b b':Nat} (hb:sB θ b=some b') {x y:HE} (e:sHE θ h k0 S x=some y) (hlp:x.isLoop=true→∀z,V2.lp b=some z→V'.lp b'=some z) (hr:HR V2 U σ b x):HR V' U σ b' y:=by
 have hα:=bk.α _ _ hb;cases x with
 |cells ee cs=>
  simp only[sHE] at e;cases h1:sCs θ h k0 S cs with
  |none=>rw[h1] at e;cases e
  |some ds=>
   rw[h1] at e;simp only[Option.map_some,Option.some.injEq] at e;subst e;obtain⟨blk,vs,q1,q2,q3⟩:=hr;exact⟨blk,vs,by rw[hα];exact q1,q2,bk.cs hold holdb g h1 q3⟩
 |arr gr ee esz pat n=>
  simp only[sHE] at e;split at e
  ·rename_i q m h1 h2
   simp only[Option.some.injEq] at e;subst e;obtain⟨N,q1,q2,q3⟩:=hr;refine⟨N,bk.sub g h2 q1,q2, ?_⟩
   rcases q3 with⟨r1,r2,r3⟩| ⟨blk,vs,r1,r2,r3,r4⟩
   ·exact .inl ⟨r1,by rw[hα];exact r2,r3⟩
   ·exact .inr ⟨blk,vs,by rw[hα];exact r1,r2,r3,fun i hi=>bk.ty g h1 (r4 i hi)⟩
  ·cases e
 |map ks gg t ver=>
  simp only[sHE] at e;cases h1:subTy S θ t with
  |none=>rw[h1] at e;cases e
  |some u=>
   rw[h1] at e;simp only[Option.map_some,Option.some.injEq] at e;subst e;obtain⟨blk,of,es,clk,q1,q2,q3,hver⟩:=hr;refine⟨blk,of,es,clk,by rw[hα];exact q1,q2,fun en hen=> ⟨(q3 en hen).1, ?_⟩,fun y hy=> ?_⟩
   rotate_left
   ·cases ver with
    |none=>cases hy
    |some z=>exact bk.κ z y _ hy (hver z rfl)
   have hw:=width_sub h1;have he:=(q3 en hen).2;unfold EntR at he ⊢;split
   ·rename_i hg;rw[if_pos hg] at he
    obtain⟨vs,r1,r2,r3⟩:=he;exact⟨vs,r1,bk.ty g h1 r2,by rw[hw];exact r3⟩
   ·rename_i hg;rw[if_neg hg] at he
    exact⟨bk.ty g h1 he.1,by rw[hw];exact he.2⟩
 |map0=>
  simp only[sHE,Option.some.injEq] at e;subst e;obtain⟨blk,of,clk,q1,q2⟩:=hr;exact⟨blk,of,clk,by rw[hα];exact q1,q2⟩
 |iter n=>
  simp only[sHE] at e;cases h1:n.sub' S θ with
  |none=>rw[h1] at e;cases e
  |some m=>
   rw[h1] at e;simp only[Option.map_some,Option.some.injEq] at e;subst e;obtain⟨blk,s,pos,q1,q2,q3⟩:=hr;exact⟨blk,s,pos,by rw[hα];exact q1,q2,bk.sub g h1 q3⟩
 |mapS _ _ _ _ _=>cases e
 |loop st p=>
  simp only[sHE,Option.some.injEq] at e;subst e;obtain⟨blk,of,tm,ps,as,bd,q1,q2,q3⟩:=hr;exact⟨blk,of,tm,ps,as,bd,by rw[hα];exact q1,hlp rfl _ q2,q3⟩
 |gone=>simp only[sHE,Option.some.injEq] at e;subst e;trivial
end
theorem sHeap_look {θ:Th} {h:LH} {k0:Nat}:∀{l l':List (Nat×HE)},sHeap θ h k0 S l=some l'→∀{b':Nat} {he':HE},look b' l'=some he'→∃b he,look b l=some he∧sB θ b=some b'∧sHE θ h k0 S he=some he':=by
 intro l;induction l with
 |nil=>intro l' e b' he' hl;simp only[sHeap,Option.some.injEq] at e;subst e;cases hl
 |cons p l ih=>
  intro l' e b' he' hl;obtain⟨b,he⟩:=p;simp only[sHeap] at e;split at e
  ·rename_i c he1 r' h1 h2 h3
   simp only[Option.some.injEq] at e;subst e;rw[look_cons] at hl;by_cases hb:b'=c
   ·rw[if_pos hb] at hl;cases hl;subst hb
    exact⟨b,he,by rw[look_cons,if_pos rfl],h1,h2⟩
   ·rw[if_neg hb] at hl
    obtain⟨b2,he2,q1,q2,q3⟩:=ih h3 hl;refine⟨b2,he2, ?_,q2,q3⟩
    rw[look_cons,if_neg (fun e=> ?_)]
    ·exact q1
    ·subst e;rw[h1] at q2;cases q2;exact hb rfl
  ·cases e
theorem sVws_look {θ:Th}:∀{l l':List (Nat×VW)},sVws S θ l=some l'→∀{b':Nat} {w':VW},look b' l'=some w'→∃b w p n,look b l=some w∧sB θ b=some b'∧subTy S θ w.pat=some p∧w.n.sub' S θ=some n∧w.pre=none∧w.memo= []∧w'=⟨w.e,w.esz,p,n,none,[],w.own⟩:=by
 intro l;induction l with
 |nil=>intro l' e b' he' hl;simp only[sVws,Option.some.injEq] at e;subst e;cases hl
 |cons p l ih=>
  intro l' e b' w' hl;obtain⟨b,w⟩:=p;simp only[sVws] at e;split at e
  ·rename_i c p n r' h1 h2 h3 h4
   cases hc:(w.pre.isNone&&w.memo.isEmpty) with
   |false=>rw[hc] at e;cases e
   |true=>
    rw[hc] at e;simp only[cond_true,Option.some.injEq] at e;subst e;rw[Bool.and_eq_true] at hc;rw[look_cons] at hl;by_cases hb:b'=c
    ·rw[if_pos hb] at hl;cases hl;subst hb
     exact⟨b,w,p,n,by rw[look_cons,if_pos rfl],h1,h2,h3,by simpa using hc.1,by simpa using hc.2,rfl⟩
    ·rw[if_neg hb] at hl
     obtain⟨b2,w2,p2,n2,q1,q2,q3⟩:=ih h4 hl;refine⟨b2,w2,p2,n2, ?_,q2,q3⟩
     rw[look_cons,if_neg (fun e=> ?_)]
     ·exact q1
     ·subst e;rw[h1] at q2;cases q2;exact hb rfl
  ·cases e
theorem sIv_mem {h:LH}:∀{l l':Iv},sIv h S l=some l'→∀{x':Nat} {lo hi:Int},(x',lo,hi)∈l'→∃x,h.nx≤x∧x'=S.nx+(x - h.nx)∧(x,lo,hi)∈l:=by
 intro l;induction l with
 |nil=>intro l' e x' lo hi hm;simp only[sIv,Option.some.injEq] at e;subst e;cases hm
 |cons p l ih=>
  intro l' e x' lo hi hm;obtain⟨x,lo1,hi1⟩:=p;simp only[sIv] at e;split at e
  ·rename_i r' h1
   cases hb:Nat.ble h.nx x with
   |false=>rw[hb] at e;cases e
   |true=>
    rw[hb] at e;simp only[cond_true,Option.some.injEq] at e;subst e;rcases List.mem_cons.1 hm with e|hm
    ·cases e;exact⟨x,ble_iff.1 hb,rfl,List.mem_cons_self⟩
    ·obtain⟨y,q1,q2,q3⟩:=ih h1 hm
     exact⟨y,q1,q2,List.mem_cons_of_mem _ q3⟩
  ·cases e
theorem sLs_mem {θ:Th}:∀{l l':List L},sLs S θ l=some l'→∀{m:L},m∈l'→∃f,f∈l∧f.sub' S θ=some m:=by
 intro l;induction l with
 |nil=>intro l' e m hm;simp only[sLs,Option.some.injEq] at e;subst e;cases hm
 |cons p l ih=>
  intro l' e m hm;simp only[sLs] at e;split at e
  ·rename_i x s h1 h2
   simp only[Option.some.injEq] at e;subst e;rcases List.mem_cons.1 hm with e|hm
   ·subst e;exact⟨p,List.mem_cons_self,h1⟩
   ·obtain⟨f,q1,q2⟩:=ih h2 hm
    exact⟨f,List.mem_cons_of_mem _ q1,q2⟩
  ·cases e
theorem goneH_mem {θ:Th} {b':Nat}:∀{l:List (Nat×HE)} {b:Nat} {he:HE},(b,he)∈l→he≠ .gone→θ.b b=some (some b')→∃r,look b' (goneH θ l)=some r:=by
 intro l;induction l with
 |nil=>intro b he hm;cases hm
 |cons p l ih=>
  intro b he hm hne hb;obtain⟨c,hc⟩:=p;rcases List.mem_cons.1 hm with e|hm
  ·cases e
   unfold goneH;split
   ·rename_i e;cases e
   ·rename_i e;cases e;exact absurd rfl hne
   ·rename_i e;cases e
    rw[hb];exact⟨.gone,by simp only[look_cons,if_true]⟩
  ·obtain⟨r,hr⟩:=ih hm hne hb
   unfold goneH;split
   ·rename_i e;cases e
   ·rename_i e;cases e;exact⟨r,hr⟩
   ·rename_i e;cases e
    split
    ·rename_i c' _
     rw[look_cons];by_cases hx:b'=c'
     ·rw[if_pos hx];exact⟨_,rfl⟩
     ·rw[if_neg hx];exact⟨r,hr⟩
    ·exact⟨r,hr⟩
theorem goneH_gone {θ:Th} {b':Nat} {he:HE}:∀{l:List (Nat×HE)},look b' (goneH θ l)=some he→he= .gone:=by
 intro l;induction l with
 |nil=>intro h;cases h
 |cons p l ih=>
  intro h;unfold goneH at h;split at h
  ·cases h
  ·rename_i e;cases e;exact ih h
  ·rename_i e;cases e
   split at h
   ·rw[look_cons] at h
    split at h
    ·cases h;rfl
    ·exact ih h
   ·exact ih h
end Go.Ev.Sx
end
end SxZ
section SxZ2
noncomputable section
namespace Go.Ev.Sx
variable {F :FuncId→Option EFunc} {H:Caller}
variable {V V':Val} {U U':Nat→Prop} {S S':SS} {σ σ':Store} {a:Env}
theorem fits_nums {S0:SS} {h:LH} {θ:Th} (hf:fits S0 h S θ=true):keysLt h.nx θ.xs=true∧keysLt h.nb θ.bs=true∧keysLt h.nk θ.ks=true∧θ.nx=S0.nx∧θ.nb=S0.nb∧θ.nk=S0.nk∧S0.nx≤S.nx∧S0.nb≤S.nb∧S0.nk≤S.nk∧S0.nx≤h.nx∧S0.nb≤h.nb∧S0.nk≤h.nk:=by
 unfold fits at hf;simp only[Bool.and_eq_true] at hf;obtain⟨⟨⟨⟨⟨⟨⟨⟨⟨⟨⟨⟨⟨⟨⟨⟨⟨k1,k2⟩,k3⟩,t1⟩,t2⟩,t3⟩,m1⟩,m2⟩,m3⟩,m4⟩,m5⟩,m6⟩,n1⟩,n2⟩,n3⟩,n4⟩,n5⟩,n6⟩:=hf;exact⟨k1,k2,k3,beqN t1,beqN t2,beqN t3,bleN n1,bleN n2,bleN n3,bleN n4,bleN n5,bleN n6⟩
theorem fits_img {S0:SS} {h:LH} {θ:Th} (hf:fits S0 h S θ=true) {b:Nat} {hh:HE} {l p:Nat} (hl:look b (head S0 h).heap=some hh) (ho:hh.own=true) (ha:(Vh V θ).α b=some (some (l,p))):
  ∃b' h',θ.b b=some (some b')∧look b' S.heap=some h'∧h'.own=true∧V.α b'=some (some (l,p)):=by
 unfold fits at hf;simp only[Bool.and_eq_true] at hf;obtain⟨⟨⟨⟨⟨⟨⟨⟨⟨⟨⟨⟨⟨⟨⟨⟨⟨k1,k2⟩,k3⟩,t1⟩,t2⟩,t3⟩,m1⟩,m2⟩,m3⟩,m4⟩,m5⟩,m6⟩,n1⟩,n2⟩,n3⟩,n4⟩,n5⟩,n6⟩:=hf;have hne:hh≠ .gone:=fun e=>by subst e;cases ho
 obtain⟨hloop,hc⟩:=mHeap_mem m2 (look_mem hl) hne;rcases hc with⟨b',h',q1,q2,q3⟩| ⟨q1,_⟩
 ·refine⟨b',h', ?_,q2, ?_, ?_⟩
  ·unfold isBk at q1
   split at q1
   ·rename_i x e;rw[e,beqN q1]
   ·cases q1
  ·cases h' with
   |gone=>cases hh with
    |gone=>cases ho
    |loop st p=>cases q3
    |_=>cases q3
   |_=>rfl
  ·rw[←isBk_ok (V:=V) q1];exact ha
 ·rw[isAbs_ok q1] at ha;cases ha
def Val.tot (V:Val) (nb nk:Nat):Val:=
 {V with α:=fun b=>if b<nb then some ((V.α b).getD none) else V.α b,κ:=fun x=>if x<nk then some ((V.κ x).getD .nilFunc) else V.κ x}
theorem tot_le {nb nk:Nat}:V.le (V.tot nb nk):=by
 refine⟨.refl _,fun x p h=> ?_,fun x p h=> ?_, .refl _⟩
 ·show(if x<nb then _ else _)=_
  rw[h];simp
 ·show(if x<nk then _ else _)=_
  rw[h];simp
theorem tot_α {nb nk b:Nat} {p:Nat×Nat} (h:(V.tot nb nk).α b=some (some p)):V.α b=some (some p):=by
 replace h:(if b<nb then some ((V.α b).getD none) else V.α b)=some (some p):=h
 split at h
 ·cases hv:V.α b with
  |none=>rw[hv] at h;simp at h
  |some q=>rw[hv] at h;simpa using h
 ·exact h
theorem G.tot (g:G V U S σ):G (V.tot S.nb S.nk) U S σ:=by
 have s:Sta V U σ (V.tot S.nb S.nk) U σ:= .of_le tot_le
 have own:∀l,Own (V.tot S.nb S.nk) S l→Own V S l:=fun l ⟨b,he,p,h1,h2,h3⟩=> ⟨b,he,p,h1,h2,tot_α h3⟩
 refine⟨g.iv,g.facts,fun b he h=>HR_sta s (fun _ _ _ _=>rfl) (g.heap b he h),fun b b' h1 h2 l p p' e1 e2 o1 o2 a1 a2=>g.inj b b' h1 h2 l p p' e1 e2 o1 o2 (tot_α a1) (tot_α a2),fun l hl=>g.nu l (own l hl),fun b w hw=>VwR_sta s (g.vws b w hw),fun x k hk=>KR_sta s (g.clos x k hk),g.fx,fun x hx=> ⟨?_,(g.fb x hx).2⟩,fun x hx=> ?_,g.uin⟩
 ·show(if x<S.nb then _ else _)=_
  rw[if_neg (by omega)];exact(g.fb x hx).1
 ·show(if x<S.nk then _ else _)=_
  rw[if_neg (by omega)];exact g.fk x hx
theorem loopsOK_mem {Sh:SS} {nb:Nat}:∀{l:List (Nat×HE)},loopsOK Sh nb l=true→∀{b:Nat} {he:HE},(b,he)∈l→he.isLoop=true→b<nb∧isLoopH (Sh.getH b)=true:=by
 intro l;induction l with
 |nil=>intro _ b he hm;cases hm
 |cons p l ih=>
  intro h b he hm hl;obtain⟨b1,h1⟩:=p;simp only[loopsOK,Bool.and_eq_true] at h;rcases List.mem_cons.1 hm with e|hm
  ·cases e
   have h3:=h.1;rw[hl] at h3;simp only[Bool.not_true,Bool.false_or,Bool.and_eq_true] at h3;exact⟨Nat.le_of_ble_eq_true h3.1,h3.2⟩
  ·exact ih h.2 hm hl
theorem fits_loop {S0:SS} {h:LH} {θ:Th} (hf:fits S0 h S θ=true) {b:Nat} {st:LoopState} {p:Option EC} (hl:look b (head S0 h).heap=some (.loop st p)) (g:G V U S σ):∃z,V.lp b=some z:=by
 unfold fits at hf;simp only[Bool.and_eq_true] at hf;obtain⟨⟨⟨⟨⟨⟨⟨⟨⟨⟨⟨⟨⟨⟨⟨⟨⟨k1,k2⟩,k3⟩,t1⟩,t2⟩,t3⟩,m1⟩,m2⟩,m3⟩,m4⟩,m5⟩,m6⟩,n1⟩,n2⟩,n3⟩,n4⟩,n5⟩,n6⟩:=hf;obtain⟨hloop,hc⟩:=mHeap_mem m2 (look_mem hl) (fun e=>by cases e)
 rcases hc with⟨b',h',q1,q2,q3⟩| ⟨_,e,z,p',n,he,_⟩
 ·cases h' with
  |loop st' p'=>
   obtain⟨blk,of,tm,ps,as,bd,r1,r2,r3⟩:=g.heap b' _ q2;have hob:=hloop st p rfl;have hbb:b=b':=by
    unfold isBk Th.b at q1;rw[hob] at q1;exact beqN q1
   subst hbb;exact⟨_,r2⟩
  |_=>cases q3
 ·cases he
theorem post_ok {rc:RC} {Sa S1:SS} {θ0:Th} {v':SV} (h:post rc Sa θ0=some (v',S1)) (hf:fits rc.S rc.pre Sa θ0=true) {Vt:Val} {Ua:Nat→Prop} {σa:Store} (g:G Vt Ua Sa σa)
  (tb:∀b,b<Sa.nb→∃p,Vt.α b=some p) (tk:∀x,x<Sa.nk→∃v,Vt.κ x=some v) {V2:Val} {U2:Nat→Prop} {v:Value} (g2:G V2 U2 (head (head rc.S rc.pre) rc.post) σ')
  (he2:GE V2 U2 σ' (head (head rc.S rc.pre) rc.post).env (envOf [v])) (k2:Kp (Vh Vt θ0) Ua (head rc.S rc.pre) σa V2 U2 (head (head rc.S rc.pre) rc.post) σ'):CallR' Vt Ua Sa σa [(v',S1)] v σ':=by
 obtain⟨kx,kb,kk,tx,tB,tK,ax,ab,ak,bx,bb,bK⟩:=fits_nums hf;unfold post at h;simp only at h;generalize hθ:thetaPost θ0 rc.pre rc.post Sa=θ at h
 cases hck:(okTh Sa θ0&&Nat.ble rc.pre.nx rc.post.nx&&Nat.ble rc.pre.nb rc.post.nb&&Nat.ble rc.pre.nk rc.post.nk&&loopsOK (head rc.S rc.pre) rc.S.nb (rc.post.heap++pickS (head rc.S rc.pre).heap rc.post.keepH)) with
 |false=>rw[hck] at h;cases h
 |true=>
  rw[hck] at h;simp only[cond_true] at h;simp only[Bool.and_eq_true] at hck;obtain⟨⟨⟨⟨c1,c2⟩,c3⟩,c4⟩,c5⟩:=hck;have c2:=bleN c2;have c3:=bleN c3;have c4:=bleN c4;unfold okTh at c1;rw[Bool.and_eq_true,List.all_eq_true,List.all_eq_true] at c1;obtain⟨ox,ob⟩:=c1;cases hiv:sIv rc.pre Sa rc.post.iv with
  |none=>rw[hiv] at h;cases h
  |some iv=>
   rw[hiv] at h;simp only at h;generalize hV':(⟨mixF V2.ρ Vt.ρ θ0.nx Sa.nx rc.pre.nx (rc.post.nx - rc.pre.nx),mixF V2.α Vt.α θ0.nb Sa.nb rc.pre.nb (rc.post.nb - rc.pre.nb),mixF V2.κ Vt.κ θ0.nk Sa.nk rc.pre.nk (rc.post.nk - rc.pre.nk),Vt.lp⟩:Val)=V'
   have eρ:V'.ρ=mixF V2.ρ Vt.ρ θ0.nx Sa.nx rc.pre.nx (rc.post.nx - rc.pre.nx):=by subst hV';rfl
   have eα:V'.α=mixF V2.α Vt.α θ0.nb Sa.nb rc.pre.nb (rc.post.nb - rc.pre.nb):=by subst hV';rfl
   have eκ:V'.κ=mixF V2.κ Vt.κ θ0.nk Sa.nk rc.pre.nk (rc.post.nk - rc.pre.nk):=by subst hV';rfl
   have elp:V'.lp=Vt.lp:=by subst hV';rfl
   have oldρ:∀x a,x<θ0.nx→Vt.ρ x=some a→V2.ρ x=some a:=fun x a hx e=>k2.le.ρ _ _ (by show(if θ0.nx≤x then _ else _)=_;rw[if_neg (by omega)];exact e)
   have oldα:∀x a,x<θ0.nb→Vt.α x=some a→V2.α x=some a:=fun x a hx e=>k2.le.α _ _ (by show(if θ0.nb≤x then _ else _)=_;rw[if_neg (by omega)];exact e)
   have oldκ:∀x a,x<θ0.nk→Vt.κ x=some a→V2.κ x=some a:=fun x a hx e=>k2.le.κ _ _ (by show(if θ0.nk≤x then _ else _)=_;rw[if_neg (by omega)];exact e)
   have le:Vt.le V':=⟨by rw[eρ];exact mix_le oldρ g.fx,by rw[eα];exact mix_le oldα (fun x hx=>(g.fb x hx).1),by rw[eκ];exact mix_le oldκ g.fk,by rw[elp];exact .refl _⟩
   have hx2:∀x,rc.post.nx≤x→V2.ρ x=none:=g2.fx
   have hk2:∀x,rc.post.nk≤x→V2.κ x=none:=g2.fk
   have θnx:θ.nx=θ0.nx:=by subst hθ;rfl
   have θnb:θ.nb=θ0.nb:=by subst hθ;rfl
   have θnk:θ.nk=θ0.nk:=by subst hθ;rfl
   have θks:θ.ks=θ0.ks:=by subst hθ;rfl
   have lx:∀x,look x θ.xs=if rc.pre.nx≤x∧x<rc.pre.nx+(rc.post.nx - rc.pre.nx) then some (L.var (Sa.nx+(x - rc.pre.nx))) else look x θ0.xs:=by
    intro x;subst hθ;exact look_new (f:=fun i=>L.var (Sa.nx+i)) x _
   have lb:∀x,look x θ.bs=if rc.pre.nb≤x∧x<rc.pre.nb+(rc.post.nb - rc.pre.nb) then some (some (Sa.nb+(x - rc.pre.nb))) else look x θ0.bs:=by
    intro x;subst hθ;exact look_new (f:=fun i=>some (Sa.nb+i)) x _
   have bk:Bk V2 V' θ rc.pre Sa.nk:=by
    refine⟨fun x n hx=> ?_,fun b b' hb=> ?_,fun x y w hy hw=> ?_⟩
    ·replace hx:(if θ.nx≤x then(look x θ.xs).bind fun l=>l.ev V'.ρ else V'.ρ x)=some n:=hx
     rw[θnx] at hx;by_cases hn:θ0.nx≤x
     ·rw[if_pos hn,lx] at hx
      split at hx
      ·rename_i hnew
       replace hx:(L.var (Sa.nx+(x - rc.pre.nx))).ev V'.ρ=some n:=hx
       obtain⟨s,hs,e⟩:=L.ev_some.1 hx;obtain⟨w,z,h1,h2,h3⟩:=evT_cons.1 hs;have h4:=L.ev_var h1;rw[hx] at h4;cases h4
       rw[eρ,mix_new (by omega),show rc.pre.nx+(x - rc.pre.nx)=x by omega] at h1
       exact h1
      ·cases hl:look x θ0.xs with
       |none=>rw[hl] at hx;cases hx
       |some l=>
        rw[hl] at hx;replace hx:l.ev V'.ρ=some n:=hx
        obtain⟨m,hm⟩:=g.defd (ox _ (look_mem hl));have:=L.ev_mono le.ρ hm
        rw[hx] at this;cases this
        refine k2.le.ρ _ _ ?_
        show(if θ0.nx≤x then _ else _)=_
        rw[if_pos hn,hl];exact hm
     ·rw[if_neg hn,eρ,mix_old (by omega) (by omega)] at hx;exact hx
    ·unfold sB Th.b at hb
     rw[θnb] at hb;cases hbl:Nat.ble θ0.nb b with
     |false=>
      rw[hbl] at hb;simp only[cond_false,Option.some.injEq] at hb;subst hb;have:¬θ0.nb≤b:=fun e=>by rw[ble_iff.2 e] at hbl;cases hbl
      rw[eα];exact mix_old (by omega) (by omega)
     |true=>
      rw[hbl] at hb;simp only[cond_true] at hb;have hbn:=ble_iff.1 hbl;rw[lb] at hb;by_cases hnew:rc.pre.nb≤b∧b<rc.pre.nb+(rc.post.nb - rc.pre.nb)
      ·rw[if_pos hnew] at hb
       simp only[Option.some.injEq] at hb;subst hb;rw[eα,mix_new (by omega),show rc.pre.nb+(b - rc.pre.nb)=b by omega]
      ·rw[if_neg hnew] at hb
       cases hl:look b θ0.bs with
       |none=>rw[hl] at hb;cases hb
       |some q=>
        rw[hl] at hb;cases q with
        |none=>cases hb
        |some b2=>
         simp only[Option.some.injEq] at hb;subst hb;have hlt:b2<Sa.nb:=by have:=ob _ (look_mem hl);simpa[Nat.blt_eq] using this
         obtain⟨p,hp⟩:=tb b2 hlt;have h2:V2.α b=some p:=k2.le.α _ _ (by show(if θ0.nb≤b then _ else _)=_;rw[if_pos hbn,hl];exact hp)
         rw[h2,le.α _ _ hp]
    ·unfold sK at hy
     cases h1:Nat.ble rc.pre.nk x with
     |true=>
      rw[h1] at hy;simp only[cond_true,Option.some.injEq] at hy;subst hy;have h1:=ble_iff.1 h1;have h3:x<rc.post.nk:=by
       by_cases hh:x<rc.post.nk
       ·exact hh
       ·rw[hk2 x (by omega)] at hw;cases hw
      rw[eκ,mix_new (by omega),show rc.pre.nk+(x - rc.pre.nk)=x by omega];exact hw
     |false=>
      rw[h1] at hy;simp only[cond_false] at hy;rw[θnk,θks] at hy;cases h3:Nat.ble θ0.nk x with
      |false=>
       rw[h3] at hy;simp only[cond_false,Option.some.injEq] at hy;subst hy;have:¬θ0.nk≤x:=fun e=>by rw[ble_iff.2 e] at h3;cases h3
       rw[eκ,mix_old (by omega) (by omega)];exact hw
      |true=>
       rw[h3] at hy;simp only[cond_true] at hy;have h3:=ble_iff.1 h3;have fin:∀c,look x θ0.ks=some c→valC Vt c=Vt.κ y→y<Sa.nk→V'.κ y=some w:=by
        intro c hc hvc hlt;obtain⟨u,hu⟩:=tk y hlt;have h5:V2.κ x=some u:=k2.le.κ _ _ (by show(if θ0.nk≤x then _ else _)=_;rw[if_pos h3,hc];show valC Vt c=_;rw[hvc];exact hu)
        rw[hw] at h5;cases h5
        exact le.κ _ _ hu
       split at hy
       ·rename_i z hz
        cases hb:Nat.blt z Sa.nk with
        |false=>rw[hb] at hy;cases hy
        |true=>rw[hb] at hy;simp only[cond_true,Option.some.injEq] at hy;subst hy;exact fin _ hz rfl (by simpa[Nat.blt_eq] using hb)
       ·rename_i z _ _ _ _ _ hz
        cases hb:Nat.blt z Sa.nk with
        |false=>rw[hb] at hy;cases hy
        |true=>rw[hb] at hy;simp only[cond_true,Option.some.injEq] at hy;subst hy;exact fin _ hz rfl (by simpa[Nat.blt_eq] using hb)
       ·cases hy
   have hold:∀x,x<θ.nk→∀v,V2.κ x=some v→V'.κ x=some v:=fun x hx v hv=>by rw[eκ,mix_old (by omega) (by omega)];exact hv
   have holdb:∀b,b<θ.nb→V'.α b=V2.α b:=fun b hb=>by rw[eα,mix_old (by omega) (by omega)]
   have givs:IvOK V'.ρ (iv++Sa.iv):=by
    refine IvOK.append (fun x lo hi hm=> ?_) (g.iv.mono le.ρ)
    obtain⟨y,h1,rfl,h3⟩:=sIv_mem hiv hm;obtain⟨n,q1,q2⟩:=g2.iv y lo hi (List.mem_append_left _ h3);have h4:y<rc.post.nx:=by
     by_cases hh:y<rc.post.nx
     ·exact hh
     ·rw[hx2 y (by omega)] at q1;cases q1
    exact⟨n,by rw[eρ,mix_new (by omega),show rc.pre.nx+(y - rc.pre.nx)=y by omega];exact q1,q2⟩
   have fx':∀x,Sa.nx+(rc.post.nx - rc.pre.nx)≤x→V'.ρ x=none:=fun x hx=>by rw[eρ];exact mix_none hx
   have fb':∀x,Sa.nb+(rc.post.nb - rc.pre.nb)≤x→V'.α x=none∧V'.lp x=none:=fun x hx=> ⟨by rw[eα];exact mix_none hx,by rw[elp];exact(g.fb x (by omega)).2⟩
   have fk':∀x,Sa.nk+(rc.post.nk - rc.pre.nk)≤x→V'.κ x=none:=fun x hx=>by rw[eκ];exact mix_none hx
   generalize hT:({env:= [],heap:= [],vws:= [],clos:= [],iv:=iv++Sa.iv,facts:= [],nx:=Sa.nx+(rc.post.nx - rc.pre.nx),nb:=Sa.nb+(rc.post.nb - rc.pre.nb),nk:=Sa.nk+(rc.post.nk - rc.pre.nk)}:SS)=T at h
   have gT:G V' U2 T σ':=by
    subst hT;exact⟨givs,fun f hf=>(by cases hf),fun b he hb=>(by cases hb),fun b b' h1 h2 l p p' e1=>(by cases e1),fun l ⟨b,he,p,h1,_⟩=>(by cases h1),fun b w hw=>(by cases hw),fun x k hk=>(by cases hk),fx',fb',fk',g2.uin⟩
   split at h
   ·rename_i w hp vw fs e1 e2 e3 e4
    cases hsv:sSV θ rc.pre Sa.nk T w with
    |none=>rw[hsv] at h;cases h
    |some w'=>
     rw[hsv] at h;simp only[Option.some.injEq,Prod.mk.injEq] at h;obtain⟨rfl,rfl⟩:=h;have ownSa:∀l,Own (Vh Vt θ0) (head rc.S rc.pre) l→Own Vt Sa l:=by
      rintro l ⟨b,hh,p,h1,h2,h3⟩
      obtain⟨b',h',q1,q2,q3,q4⟩:=fits_img hf h1 h2 h3;exact⟨b',h',p,q2,q3,q4⟩
     have sta:Sta Vt Ua σa V' U2 σ':=⟨le,k2.ule,fun l hl=>k2.same l (g.uin l hl) fun ho=>g.nu l (ownSa l ho) hl⟩
     have lk:∀b he,look b (hp++goneH θ0 (head rc.S rc.pre).heap++Sa.heap)=some he→(∃b0 he0,look b0 (head (head rc.S rc.pre) rc.post).heap=some he0∧sB θ b0=some b∧sHE θ rc.pre Sa.nk T he0=some he)∨he= .gone∨
       (look b Sa.heap=some he∧look b (goneH θ0 (head rc.S rc.pre).heap)=none):=by
      intro b he hl;rw[look_append,look_append] at hl;cases h1:look b hp with
      |some x=>rw[h1] at hl;simp only[Option.some.injEq] at hl;subst hl;exact .inl (sHeap_look e2 h1)
      |none=>
       rw[h1] at hl;simp only at hl;cases h2:look b (goneH θ0 (head rc.S rc.pre).heap) with
       |some x=>rw[h2] at hl;simp only[Option.some.injEq] at hl;subst hl;exact .inr (.inl (goneH_gone h2))
       |none=>rw[h2] at hl;exact .inr (.inr ⟨hl,rfl⟩)
     have sown:∀{he0 he:HE},sHE θ rc.pre Sa.nk T he0=some he→he.own=true→he0.own=true:=by
      intro he0 he e ho;cases he0 with
      |gone=>simp only[sHE,Option.some.injEq] at e;subst e;cases ho
      |_=>rfl
     have oldno:∀b he l p,look b Sa.heap=some he→look b (goneH θ0 (head rc.S rc.pre).heap)=none→he.own=true→Vt.α b=some (some (l,p))→¬Own (Vh Vt θ0) (head rc.S rc.pre) l:=by
      rintro b he l p h1 h2 h3 h4 ⟨b1,hh,p1,q1,q2,q3⟩
      obtain⟨b',h',r1,r2,r3,r4⟩:=fits_img hf q1 q2 q3;have:b=b':=g.inj b b' he h' l p p1 h1 r2 h3 r3 h4 r4
      subst this;obtain⟨r,hr⟩:=goneH_mem (look_mem q1) (fun e=>by subst e;cases q2) r1
      rw[h2] at hr;cases hr
     have αold:∀b he q,look b Sa.heap=some he→he.own=true→V'.α b=some q→Vt.α b=some q:=by
      intro b he q h1 h2 h3;have hlt:b<Sa.nb:=by
       by_cases hh:b<Sa.nb
       ·exact hh
       ·have:=g.noh (by omega) _ h1;subst this;cases h2
      obtain⟨p,hp⟩:=tb b hlt;rw[le.α _ _ hp] at h3;cases h3;exact hp
     have own':∀l,Own V' {T with heap:=hp++goneH θ0 (head rc.S rc.pre).heap++Sa.heap,vws:=vw++Sa.vws,clos:=Sa.clos,facts:=fs++Sa.facts} l→Own V2 (head (head rc.S rc.pre) rc.post) l∨(Own Vt Sa l∧¬Own (Vh Vt θ0) (head rc.S rc.pre) l):=by
      rintro l ⟨b,he,p,h1,h2,h3⟩
      rcases lk b he h1 with⟨b0,he0,q1,q2,q3⟩|rfl| ⟨q1,q2⟩
      ·rw[bk.α _ _ q2] at h3
       exact .inl ⟨b0,he0,p,q1,sown q3 h2,h3⟩
      ·cases h2
      ·have h3:=αold b he _ q1 h2 h3
       exact .inr ⟨⟨b,he,p,q1,h2,h3⟩,oldno b he l p q1 q2 h2 h3⟩
     have lt2:∀l,Own V2 (head (head rc.S rc.pre) rc.post) l→Own (Vh Vt θ0) (head rc.S rc.pre) l∨σa.size≤l:=k2.own
     refine⟨w',_,List.mem_singleton.2 rfl,V',U2,⟨?_, ?_,fun b he hl=> ?_,fun b b' h1 h2 l p p' f1 f2 o1 o2 a1 a2=> ?_,fun l hl=> ?_,fun b x hx=> ?_,fun x k hk=>KR_sta sta (g.clos x k hk), ?_, ?_, ?_,g2.uin⟩,⟨le,k2.ule,fun l hl=> ?_,k2.size,fun l hl hn=> ?_,fun l hl=> ?_⟩, ?_⟩
     ·exact givs
     ·intro f hf'
      rcases List.mem_append.1 hf' with hf'|hf'
      ·obtain⟨f0,q1,q2⟩:=sLs_mem e4 hf'
       obtain⟨n,r1,r2⟩:=g2.facts f0 (List.mem_append_left _ q1);exact⟨n,bk.sub gT q2 r1,r2⟩
      ·exact g.facts.mono le.ρ f hf'
     ·rcases lk b he hl with⟨b0,he0,q1,q2,q3⟩|rfl| ⟨q1,q2⟩
      ·refine bk.he hold holdb gT q2 q3 (fun hloop z hz=> ?_) (g2.heap b0 he0 q1)
       obtain⟨r1,r2⟩:=loopsOK_mem c5 (look_mem q1) hloop;cases hh1:look b0 (head rc.S rc.pre).heap with
       |none=>rw[show(head rc.S rc.pre).getH b0=none from hh1] at r2;cases r2
       |some he1=>
        rw[show(head rc.S rc.pre).getH b0=some he1 from hh1] at r2
        cases he1 with
        |loop st1 p1=>
         have hb0:b0=b:=by
          have h5:=q2;unfold sB Th.b at h5;have:Nat.ble θ.nb b0=false:=by
           cases hbb:Nat.ble θ.nb b0 with
           |false=>rfl
           |true=>
            have:=bleN hbb
            have e5:θ.nb=θ0.nb:=by subst hθ;rfl
            rw[e5,tB] at this;omega
          rw[this] at h5;simpa using h5
         subst hb0;obtain⟨z1,hz1⟩:=fits_loop hf hh1 g
         have hz2:=k2.le.lp _ _ (show(Vh Vt θ0).lp b0=some z1 by
          show(if θ0.nb≤b0 then _ else _)=_
          rw[tB,if_neg (by omega)];exact hz1)
         rw[hz] at hz2;cases hz2
         rw[elp];exact hz1
        |_=>cases r2
      ·trivial
      ·exact HR_sta sta (fun l p ho ha=>k2.same l (Own.lt g ⟨b,he,p,q1,ho,ha⟩) (oldno b he l p q1 q2 ho ha)) (g.heap b he q1)
     ·rcases lk b h1 f1 with⟨b0,he0,q1,q2,q3⟩|rfl| ⟨q1,q2⟩
      ·rw[bk.α _ _ q2] at a1
       rcases lk b' h2 f2 with⟨b1,he1,r1,r2,r3⟩|rfl| ⟨r1,r2⟩
       ·rw[bk.α _ _ r2] at a2
        have:=g2.inj b0 b1 he0 he1 l p p' q1 r1 (sown q3 o1) (sown r3 o2) a1 a2
        subst this;rw[q2] at r2;exact Option.some.inj r2
       ·cases o2
       ·have a2:=αold b' h2 _ r1 o2 a2
        rcases lt2 l ⟨b0,he0,p,q1,sown q3 o1,a1⟩ with h|h
        ·exact absurd h (oldno b' h2 l p' r1 r2 o2 a2)
        ·have:=Own.lt g ⟨b',h2,p',r1,o2,a2⟩;omega
      ·cases o1
      ·have a1:=αold b h1 _ q1 o1 a1
       rcases lk b' h2 f2 with⟨b1,he1,r1,r2,r3⟩|rfl| ⟨r1,r2⟩
       ·rw[bk.α _ _ r2] at a2
        rcases lt2 l ⟨b1,he1,p',r1,sown r3 o2,a2⟩ with h|h
        ·exact absurd h (oldno b h1 l p q1 q2 o1 a1)
        ·have:=Own.lt g ⟨b,h1,p,q1,o1,a1⟩;omega
       ·cases o2
       ·exact g.inj b b' h1 h2 l p p' q1 r1 o1 o2 a1 (αold b' h2 _ r1 o2 a2)
     ·rcases own' l hl with h| ⟨h1,h2⟩
      ·exact g2.nu l h
      ·intro hu
       rcases k2.unew l hu with q|q|q
       ·exact g.nu l h1 q
       ·exact h2 q
       ·have:=Own.lt g h1;omega
     ·replace hx:look b (vw++Sa.vws)=some x:=hx
      rw[look_append] at hx;cases h1:look b vw with
      |none=>rw[h1] at hx;exact VwR_sta sta (g.vws b x hx)
      |some y=>
       rw[h1] at hx;simp only[Option.some.injEq] at hx;subst hx;obtain⟨b0,w0,p,n,q1,q2,q3,q4,q5,q6,rfl⟩:=sVws_look e3 h1;have hq:look b0 (head (head rc.S rc.pre) rc.post).vws=some w0:=by
        show look b0 (rc.post.vws++_)=_
        rw[look_append,q1]
       obtain⟨N,r1,r2,r3⟩:=g2.vws b0 w0 hq;refine⟨N,bk.sub gT q4 r1,fun _ _ e=>(by cases e), ?_⟩
       rcases r3 with⟨s1,s2,s3⟩| ⟨blk,o,st,vs,s1,s2,s3,s4,s5,s6,s7⟩
       ·exact .inl ⟨by rw[bk.α _ _ q2];exact s1,s2,rfl⟩
       ·exact .inr ⟨blk,o,st,vs,by rw[bk.α _ _ q2];exact s1,s2,s3,s4,fun i hi=>bk.ty gT q3 (s5 i hi),fun _ _ e=>(by cases e),fun _ _ e=>(by cases e),s7.2⟩
     ·exact fx'
     ·exact fb'
     ·exact fk'
     ·rcases k2.unew l hl with q|q|q
      ·exact .inl q
      ·exact .inr (.inl (ownSa l q))
      ·exact .inr (.inr q)
     ·exact k2.same l hl fun h=>hn (ownSa l h)
     ·rcases own' l hl with h| ⟨h1,h2⟩
      ·rcases lt2 l h with q|q
       ·exact .inl (ownSa l q)
       ·exact .inr q
      ·exact .inl h1
     ·refine bk.sv hold holdb gT hsv ?_
      have:=he2 0 w (by show look 0 (rc.post.env++_)=_;rw[look_append,e1];rfl)
      exact this
   ·cases h
end Go.Ev.Sx
end
end SxZ2
