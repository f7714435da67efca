/- The evaluator, the symbolic evaluator and their soundness, part 2 of 6: for every program and every world. -/
import Derived.Laws.AppendOwn
import Derived.WalkMore
import Derived.AtR
import Derived.Orders
import Derived.RangeFuncRecord
import Derived.Test.YtijiddndddjleaaA1
set_option linter.all false
set_option linter.unusedVariables false
set_option linter.unusedSimpArgs false
section EvSim5
namespace Go.Ev
variable {P :Program}
theorem find_rel {μ:Mu} {ks:Bool×List CK} {k:Value} (hkk:VR μ k k):∀{es:List MapEntry} {es':List MapEntry} {r:Option MapEntry},L2 (MER μ) es es'→findE ks k es=some r→
  match r with
  |none=>findIdxE ks k es'=some none∧(∀v,updE ks k v es=es)
  |some e=>∃i e',es[i]?=some e∧es'[i]?=some e'∧MER μ e e'∧findIdxE ks k es'=some (some (i,e'.val))∧keyEq ks k e.key=some true∧e'.key=k∧e.key=k∧(∀v,updE ks k v es=es.set i {e with val:=v})
 | [],_,r, .nil,h=>by simp[findE] at h;subst h;exact⟨rfl,fun _=>rfl⟩
 |e::es,_,r, .cons (y:=e') (ys:=es') hr hs,h=>by
  simp only[findE] at h;split at h
  ·rename_i hb
   cases h;have e1:=(keyEq_VR hb hkk hr.key).2;have e2:=keyEq_eq hb;refine⟨0,e',rfl,rfl,hr, ?_,hb,by rw[e1,←e2],e2.symm,fun v=>by simp[updE,hb]⟩
   simp only[findIdxE,e1,hb]
  ·rename_i hb
   have e1:=(keyEq_VR hb hkk hr.key).2;have ih:=find_rel hkk hs h;cases r with
   |none=>
    obtain⟨h1,h2⟩:=ih;exact⟨by simp only[findIdxE,e1,hb,h1];rfl,fun v=>by simp[updE,hb,h2]⟩
   |some f=>
    obtain⟨i,f',h1,h2,h3,h4,h5,h6,h7,h8⟩:=ih;exact⟨i+1,f',by simpa using h1,by simpa using h2,h3,by simp only[findIdxE,e1,hb,h4];rfl,h5,h6,h7,fun v=>by simp[updE,hb,h8]⟩
  ·cases h
theorem sameBits_C {k:CK} {x:Value} {b:Bool} (h:eqC k x x=some b) (n:Nat):Instr.sameBits n x x=true:=by
 unfold eqC at h;split at h
 ·unfold Instr.sameBits;cases n<;>simp
 ·unfold Instr.sameBits;cases n<;>simp
 ·have:∀s:ByteArray,(s==s)=true:=fun s=>by rw[beq_toListBytes];simp
  unfold Instr.sameBits;cases n<;>simp[this]
 ·cases h
theorem sameBits_K (n:Nat):∀{ks:List CK} {xs:List Value} {b:Bool},eqK ks xs xs=some b→((xs.zip xs).all fun(x,y)=>Instr.sameBits n x y)=true
 | [],[],_,_=>rfl
 | [],_::_,_,h=>by simp[eqK] at h
 |_::_,[],_,h=>by simp[eqK] at h
 |k::ks,x::xs,b,h=>by
  simp only[eqK] at h;split at h
  ·rename_i a b h1 h2
   simp only[List.zip_cons_cons,List.all_cons,sameBits_C h1 n,Bool.true_and];exact sameBits_K n h2
  ·cases h
theorem keyStays {ks:Bool×List CK} {k:Value} (h:(keyEq ks k k).isNone=false) (w:World):(Instr.keyThatStays k k).run P w= .ok k w:=by
 have hs:Instr.sameBits 10000 k k=true:=by
  cases hb:keyEq ks k k with
  |none=>rw[hb] at h;cases h
  |some b=>
   unfold keyEq at hb;split at hb
   ·rename_i xs ys
    unfold Instr.sameBits;simp only[beq_self_eq_true,Bool.true_and];exact sameBits_K 9999 hb
   ·exact sameBits_C hb 10000
   ·cases hb
 unfold Instr.keyThatStays;rw[if_pos hs];rfl
theorem keyOK_VR {μ:Mu} {ks:Bool×List CK} {k k':Value} (h:¬(keyEq ks k k).isNone=true) (hv:VR μ k k'):k'=k∧VR μ k k∧(keyEq ks k k).isNone=false:=by
 cases hb:keyEq ks k k with
 |none=>rw[hb] at h;exact absurd rfl h
 |some b=>
  have:=(keyEq_VR hb hv hv).1
  rw[this] at hv;exact⟨this,hv,rfl⟩
theorem zeroOf_VR {μ:Mu} {t:TypeId} {z:List Value} {g:Bool} (hz:zeroT P t=some z) (hg:isAggT P t=some g) (h1:z.length=1∨g=true) (w:World) (hsz:g=true→∃cs:Array Value,(∃i,P.info? t=some i∧i.zero=some (.agg cs))) (hns:g=false→∃v,(∃i,P.info? t=some i∧i.zero=some v)∧oneC v=true):
  ∃v,(zeroValue t).run P w= .ok v w∧VR μ (zeroOf z g) v:=by
 obtain⟨v,hr,hc,⟨i,hi,hv⟩,hok⟩:=zeroT_run hz w;refine⟨v,hr, ?_⟩
 cases g with
 |true=>
  obtain⟨cs,i',hi',hv'⟩:=hsz rfl;rw[hi] at hi';cases hi'
  rw[hv] at hv';cases hv'
  have:z=cs.toList:=by rw[←hc];rfl
  subst this;have:=VR.agg' (okCells_LR (μ:=μ) hok)
  simpa[zeroOf] using this
 |false=>
  obtain⟨v',⟨i',hi',hv'⟩,h1'⟩:=hns rfl;rw[hi] at hi';cases hi'
  rw[hv] at hv';cases hv'
  have:z= [v]:=by rw[←hc];cases v<;>simp_all [Value.cells,oneC]
  subst this;simp only[List.all_cons,List.all_nil,Bool.and_true] at hok;simpa[zeroOf] using okCell_VR hok
section
variable {o :Oper} {act:Act} {μ:Mu} {σ:Store} {w:World} {a:Env} {v:Value} {σ':Store}
theorem sim_look {t kt et:TypeId} {m k:Operand} {ok:Bool} {ks:Bool×List CK} {z:List Value} {g:Bool} (ho:o.op= .lookup t m k ok) (hu:P.underlying t=some (.map kt et)) (hk:kindsKey P kt=some ks)
  (hz:∀w:World,∃v,(zeroValue et).run P w= .ok v w∧VR μ (zeroOf z g) v)
  (hE:EnvR μ a act.tmps) (hR:Rel P μ σ w) (hm:okConst m=true) (hkc:okConst k=true)
  (he:evI (.look ks z g ok m k) a σ=some (v,σ')):Done P o act μ σ w v σ':=by
 simp only[evI] at he;split at he
 ·rename_i es c hmo
  split at he
  ·cases he
  ·rename_i hkey
   obtain⟨hk1,hk2,hk3⟩:=keyOK_VR hkey (hE.eval hkc);obtain⟨es',hl,hmap⟩:=mapOf_run hR (hE.eval hm) hmo;have hcheck:∀em,(Instr.checkKey em 10000 kt (a.eval k)).run P w= .ok () w:=fun em=>run_checkKey_key hk hk3 em w
   obtain⟨zv,hzr,hzv⟩:=hz w;have fin:∀r,findE ks (a.eval k) es=some r→∃v',(Instr.lookup t (act.eval m) (act.eval k) ok).run P w= .ok v' w∧
     VR μ (match r with|some e=>if ok then .tuple #[e.val, .bool true] else e.val|none=>if ok then .tuple #[zeroOf z g, .bool false] else zeroOf z g) v':=by
    intro r hf;have hrel:=find_rel hk2 hl hf;cases r with
    |none=>
     obtain⟨h1,_⟩:=hrel;have hfk:=findKey_run hk (a.eval k) w es'.toList none h1;refine⟨if ok then .tuple #[zv, .bool false] else zv, ?_, ?_⟩
     ·rcases hmap with⟨q,rfl⟩| ⟨b,q,hrun⟩
      ·simp only[List.toList_toArray] at hfk
       simp[Instr.lookup,run_underlying hu,q,hk1,hcheck,hfk,hzr]
      ·simp[Instr.lookup,run_underlying hu,q,hk1,hcheck,hfk,hzr,hrun]
     ·cases ok
      ·exact hzv
      ·exact VR.tuple' (.cons hzv (.cons (.bool _) .nil))
    |some e=>
     obtain⟨i,e',h1,h2,h3,h4,h5,h6,h7,h8⟩:=hrel;have hfk:=findKey_run hk (a.eval k) w es'.toList _ h4;refine⟨if ok then .tuple #[e'.val, .bool true] else e'.val, ?_, ?_⟩
     ·rcases hmap with⟨q,rfl⟩| ⟨b,q,hrun⟩
      ·simp at h2
      ·simp[Instr.lookup,run_underlying hu,q,hk1,hcheck,hfk,hrun]
     ·cases ok
      ·exact h3.val
      ·exact VR.tuple' (.cons h3.val (.cons (.bool _) .nil))
   split at he
   ·rename_i e hf
    cases he
    obtain⟨v',hr,hv⟩:=fin _ hf;exact .pure hR (by simp[execOp,ho,hr]) hv
   ·rename_i hf
    cases he
    obtain⟨v',hr,hv⟩:=fin _ hf;exact .pure hR (by simp[execOp,ho,hr]) hv
   ·cases he
 ·cases he
theorem Rel.map {r:Nat} {i:Img} (hR:Rel P μ σ w) (hi:μ r=some i) {es:List MapEntry} {c:Nat} (hg:σ.get r=some (.map es c)):
  i.off=0∧i.len=1∧∃es',w.heap[i.block]?=some (.map es' c)∧L2 (MER μ) es es'.toList:=by
 have:=hR.obj r i hi;rw[hg] at this;exact this
theorem run_setObj {b:Nat} {o o':Obj} (h:w.heap[b]?=some o) (hn:∀C E fr,o≠ .cells C E fr):(setObj b o').run P w= .ok () {w with heap:=w.heap.setIfInBounds b o'}:=by
 cases o<;>first
  |exact absurd rfl (hn _ _ _)
  |simp[setObj,Sem.run,h]
theorem heap_set_self {b:Nat} {o o':Obj} (h:w.heap[b]?=some o):({w with heap:=w.heap.setIfInBounds b o'}:World).heap[b]?=some o':=by
 have hlt:b<w.heap.size:=(Array.getElem?_eq_some_iff.1 h).1
 simp[hlt]
theorem rel_map {r:Nat} {i:Img} (hR:Rel P μ σ w) (hi:μ r=some i) {es es2:List MapEntry} {c c2:Nat} (hg:σ.get r=some (.map es c)) {es' es2':Array MapEntry} (hh:w.heap[i.block]?=some (.map es' c)) (hl:L2 (MER μ) es2 es2'.toList):
  Rel P μ (σ.set r (.map es2 c2)) {w with heap:=w.heap.setIfInBounds i.block (.map es2' c2)}∧Post μ σ w μ (σ.set r (.map es2 c2)) {w with heap:=w.heap.setIfInBounds i.block (.map es2' c2)}:=by
 obtain⟨h0,h1,_⟩:=hR.map hi hg;exact rel_setObj hR hi (by unfold Dead;rw[hg];simp) (by unfold Ro;rw[hg];rintro⟨_,_,hh⟩;cases hh) _ _ (by simp) (by simp) ⟨_,hh,by simp,by simp⟩ ⟨h0,h1⟩ ⟨h0,h1,es2',heap_set_self hh,hl⟩
theorem list_modify_set (l:List MapEntry) (i:Nat) (f:MapEntry→MapEntry) {e:MapEntry} (h:l[i]?=some e):l.modify i f=l.set i (f e):=by
 apply List.ext_getElem?
 intro j;rw[List.getElem?_modify,List.getElem?_set]
 by_cases hj:i=j
 ·subst hj
  obtain⟨hlt,hv⟩:=List.getElem?_eq_some_iff.1 h
  simp[hlt,hv]
 ·simp[hj]
theorem sim_mupd {t kt et:TypeId} {m k x:Operand} {ks:Bool×List CK} (ho:o.op= .mapUpdate t m k x) (hu:P.underlying t=some (.map kt et)) (hk:kindsKey P kt=some ks)
  (hE:EnvR μ a act.tmps) (hR:Rel P μ σ w) (hm:okConst m=true) (hkc:okConst k=true) (hx:okConst x=true)
  (he:evI (.mupd ks m k x) a σ=some (v,σ')):Done P o act μ σ w v σ':=by
 simp only[evI] at he;split at he
 ·rename_i r e1
  split at he
  ·rename_i es c hg
   split at he
   ·cases he
   ·rename_i hkey
    obtain⟨hk1,hk2,hk3⟩:=keyOK_VR hkey (hE.eval hkc);have h1:=hE.eval hm;rw[e1] at h1;obtain⟨i,hi,q⟩:=h1.of_map;obtain⟨h0,hl1,es',hh,hl⟩:=hR.map hi hg;have hobj:(getObj i.block).run P w= .ok (.map es' c) w:=by simp[getObj,Sem.run,hh]
    have hcheck:∀em,(Instr.checkKey em 10000 kt (a.eval k)).run P w= .ok () w:=fun em=>run_checkKey_key hk hk3 em w
    split at he
    ·rename_i e hf
     cases he
     obtain⟨j,e',g1,g2,g3,g4,g5,g6,g7,g8⟩:=find_rel hk2 hl hf;have hfk:=findKey_run hk (a.eval k) w es'.toList _ g4;have hst:(Instr.keyThatStays (a.eval k) (a.eval k)).run P w= .ok (a.eval k) w:=keyStays hk3 w
     have g2':es'[j]?=some e':=by simpa using g2
     have hrel:=rel_map (c2:=c) (es2:=updE ks (a.eval k) (a.eval x) es) (es2':=es'.modify j fun e=>{e with key:=a.eval k,val:=act.eval x}) hR hi hg hh (by
      rw[g8,Array.toList_modify,list_modify_set _ _ _ g2]
      exact hl.set (x:={e with val:=a.eval x}) (y:={e' with key:=a.eval k,val:=act.eval x}) ⟨by show VR μ e.key (a.eval k);rw[g7];exact hk2,hE.eval hx,g3.born⟩ j)
     refine⟨μ,_,undef, .skip, ?_, .inr ⟨rfl,rfl⟩,VR.undef _,hrel.1,hrel.2⟩
     have hkk:(((es'[j]?).map (·.key)).getD (a.eval k))=a.eval k:=by rw[g2'];simpa using g6
     simp[execOp,ho,Instr.mapUpdate,run_underlying hu,q,hobj,hk1,hcheck,hfk,hkk,hst,run_setObj (P:=P) (w:=w) hh (by simp)]
    ·rename_i hf
     cases he
     obtain⟨g1,g2⟩:=find_rel hk2 hl hf;have hfk:=findKey_run hk (a.eval k) w es'.toList _ g1
     have hrel:=rel_map (c2:=c+1) (es2:=es++ [{key:=a.eval k,val:=a.eval x,born:=c}]) (es2':=es'.push {key:=a.eval k,val:=act.eval x,born:=c}) hR hi hg hh (by
      rw[Array.toList_push]
      exact hl.append (.cons ⟨hk2,hE.eval hx,rfl⟩ .nil))
     refine⟨μ,_,undef, .skip, ?_, .inr ⟨rfl,rfl⟩,VR.undef _,hrel.1,hrel.2⟩
     simp[execOp,ho,Instr.mapUpdate,run_underlying hu,q,hobj,hk1,hcheck,hfk,run_setObj (P:=P) (w:=w) hh (by simp)]
    ·cases he
  ·cases he
 ·cases he
theorem sim_ment {t kt et:TypeId} {m k:Operand} {ks:Bool×List CK} {z:List Value} {g:Bool} (ho:o.op= .mapEntry t m k) (hu:P.underlying t=some (.map kt et)) (hk:kindsKey P kt=some ks)
  (hz:∀w:World,∃v,(zeroValue et).run P w= .ok v w∧VR μ (zeroOf z g) v)
  (hE:EnvR μ a act.tmps) (hR:Rel P μ σ w) (hm:okConst m=true) (hkc:okConst k=true)
  (he:evI (.ment ks z g m k) a σ=some (v,σ')):Done P o act μ σ w v σ':=by
 simp only[evI] at he;split at he
 ·rename_i r e1
  split at he
  ·rename_i es c hg
   split at he
   ·cases he
   ·rename_i hkey
    obtain⟨hk1,hk2,hk3⟩:=keyOK_VR hkey (hE.eval hkc);have h1:=hE.eval hm;rw[e1] at h1;obtain⟨i,hi,q⟩:=h1.of_map;obtain⟨h0,hl1,es',hh,hl⟩:=hR.map hi hg;have hobj:(getObj i.block).run P w= .ok (.map es' c) w:=by simp[getObj,Sem.run,hh]
    have hcheck:∀em,(Instr.checkKey em 10000 kt (a.eval k)).run P w= .ok () w:=fun em=>run_checkKey_key hk hk3 em w
    obtain⟨zv,hzr,hzv⟩:=hz w;split at he
    ·rename_i e hf
     cases he
     obtain⟨j,e',g1,g2,g3,g4,g5,g6,g7,g8⟩:=find_rel hk2 hl hf;have hfk:=findKey_run hk (a.eval k) w es'.toList _ g4;have hst:(Instr.keyThatStays (a.eval k) (a.eval k)).run P w= .ok (a.eval k) w:=keyStays hk3 w
     have g2':es'[j]?=some e':=by simpa using g2
     have hsame:(es'.modify j fun e=>{e with key:=a.eval k})=es':=by
      apply Array.ext'
      rw[Array.toList_modify,list_modify_set _ _ _ g2,←g6]
      apply List.ext_getElem?
      intro n;rw[List.getElem?_set]
      split
      ·rename_i hn;subst hn;split
       ·rw[g2]
       ·rename_i hlt;rw[List.getElem?_eq_none (by omega)]
      ·rfl
     have hw:({w with heap:=w.heap.setIfInBounds i.block (.map es' c)}:World)=w:=by
      have hlt:i.block<w.heap.size:=(Array.getElem?_eq_some_iff.1 hh).1
      have hv:w.heap[i.block]= .map es' c:=(Array.getElem?_eq_some_iff.1 hh).2
      cases w with
      |mk heap tape drawn os output=>
       simp only at hv hlt;simp only[World.mk.injEq,and_true]
       apply Array.ext
       ·simp
       ·intro n h1 h2
        rw[Array.getElem_setIfInBounds];split
        ·rename_i hn;subst hn;exact hv.symm
        ·rfl
     refine .pure (v':= .tuple #[e'.val,goInt e'.born]) hR ?_ (VR.tuple' (.cons g3.val (.cons (by rw[g3.born];exact .int _ _) .nil)))
     have hkk:(((es'[j]?).map (·.key)).getD (a.eval k))=a.eval k:=by rw[g2'];simpa using g6
     have hborn:(((es'[j]?).map (·.born)).getD 0)=e'.born:=by rw[g2'];rfl
     have hset:=run_setObj (P:=P) (w:=w) (o':= .map (es'.modify j fun e=>{e with key:=a.eval k}) c) hh (by simp)
     rw[hsame,hw] at hset;simp[execOp,ho,Instr.mapEntry,run_underlying hu,q,hobj,hk1,hcheck,hfk,hkk,hst,hsame,hset]
     rw[g2'];rfl
    ·rename_i hf
     cases he
     obtain⟨g1,g2⟩:=find_rel hk2 hl hf;have hfk:=findKey_run hk (a.eval k) w es'.toList _ g1
     have hrel:=rel_map (c2:=c+1) (es2:=es++ [{key:=a.eval k,val:=zeroOf z g,born:=c}]) (es2':=es'.push {key:=a.eval k,val:=zv,born:=c}) hR hi hg hh (by
      rw[Array.toList_push]
      exact hl.append (.cons ⟨hk2,hzv,rfl⟩ .nil))
     refine⟨μ,_, .tuple #[zv,goInt c],_, ?_, .inl rfl,VR.tuple' (.cons hzv (.cons (.int _ _) .nil)),hrel.1,hrel.2⟩
     simp[execOp,ho,Instr.mapEntry,run_underlying hu,q,hobj,hk1,hcheck,hfk,hzr,run_setObj (P:=P) (w:=w) hh (by simp)]
    ·cases he
  ·cases he
 ·cases he
theorem findIdx_rel {b:Int}:∀{es es':List MapEntry},L2 (MER μ) es es'→es'.findIdx? (fun e=>(e.born:Int)==b)=es.findIdx? (fun e=>(e.born:Int)==b)
 |_,_, .nil=>rfl
 |_,_, .cons (x:=e) (y:=e') h hs=>by
  simp only[List.findIdx?_cons,h.born,findIdx_rel hs]
theorem sim_mest {t:TypeId} {m s x:Operand} (ho:o.op= .entryStore t m s x)
  (hE:EnvR μ a act.tmps) (hR:Rel P μ σ w) (hm:okConst m=true) (hs:okConst s=true) (hx:okConst x=true)
  (he:evI (.mest m s x) a σ=some (v,σ')):Done P o act μ σ w v σ':=by
 simp only[evI] at he;split at he
 ·rename_i r kk b e1 e2
  split at he
  ·rename_i es c hg
   split at he
   ·rename_i j hj
    cases he
    have h1:=hE.eval hm;rw[e1] at h1;have h2:=hE.eval hs;rw[e2] at h2;obtain⟨i,hi,q⟩:=h1.of_map;obtain⟨h0,hl1,es',hh,hl⟩:=hR.map hi hg;have hobj:(getObj i.block).run P w= .ok (.map es' c) w:=by simp[getObj,Sem.run,hh]
    have hj':es'.findIdx? (fun e=>(e.born:Int)==b)=some j:=by
     have e0:es'.findIdx? (fun e=>(e.born:Int)==b)=es'.toList.findIdx? (fun e=>(e.born:Int)==b):=by cases es';simp
     rw[e0,findIdx_rel hl];exact hj
    have hlt:j<es.length:=by
     have:=List.findIdx?_eq_some_iff_findIdx_eq.1 hj;exact this.1
    have g1:es[j]?=some es[j]:=by simp[hlt]
    obtain⟨e',g2,g3⟩:=hl.get g1
    have hrel:=rel_map (c2:=c) (es2:=es.modify j fun e=>{e with val:=a.eval x}) (es2':=es'.modify j fun e=>{e with val:=act.eval x}) hR hi hg hh (by
     rw[Array.toList_modify,list_modify_set _ _ _ g2,list_modify_set _ _ _ g1]
     exact hl.set (x:={es[j] with val:=a.eval x}) (y:={e' with val:=act.eval x}) ⟨g3.key,hE.eval hx,g3.born⟩ j)
    refine⟨μ,_,undef, .skip, ?_, .inr ⟨rfl,rfl⟩,VR.undef _,hrel.1,hrel.2⟩
    simp[execOp,ho,Instr.entryStore,q,hobj,h2.of_int,asInt,asI_run,hj',run_setObj (P:=P) (w:=w) hh (by simp)]
   ·cases he
  ·cases he
 ·cases he
end
end Go.Ev
end EvSim5
section EvSim6
namespace Go.Ev
variable {P :Program}
section
variable {o :Oper} {act:Act} {μ:Mu} {σ:Store} {w:World} {a:Env} {v:Value} {σ':Store}
theorem take_len {α:Type} (l:List α) {n:Nat} (h:l.length=n):l.take n=l:=by subst h;simp
theorem sim_new {st:St} (hst:st≠ .ro) {e:TypeId} {c:List Value} {C:Array Value} (hR:Rel P μ σ w) (hc:LR μ c C.toList) {nx:Next} (hrun:(execOp act.eval o).run P w= .ok nx (w.alloc (.cells C e)))
  {u u':Value} (hnx:nx= .value u') (hu:VR (μ.ext σ.size ⟨w.heap.size,0,c.length,C.size - c.length,P.cellsOf e⟩) u u'):Done P o act μ σ w u (σ.alloc (.cells st e c)):=by
 have hl:=hc.length;have hC:C.toList.take c.length=C.toList:=take_len _ hl.symm
 have:=rel_alloc_cells hR st hst e c C e (by rw[hC];exact hc) (by simpa using Nat.le_of_eq hl)
 exact⟨_,_,u',nx,hrun, .inl hnx,hu,this.1,this.2⟩
theorem sim_alloc {e:TypeId} {z:List Value} (ho:o.op= .alloc e) (hz:zeroT P e=some z) (hR:Rel P μ σ w)
  (he:evI (.alloc e z) a σ=some (v,σ')):Done P o act μ σ w v σ':=by
 simp only[evI,Option.some.injEq,Prod.mk.injEq] at he;obtain⟨rfl,rfl⟩:=he;obtain⟨zv,hzr,hzc,_,hok⟩:=zeroT_run hz w;have hlr:LR μ z zv.cells.toList:=by rw[hzc];exact okCells_LR hok
 refine sim_new (st:= .rw) (by simp) (C:=zv.cells) hR hlr (nx:= .value (.pointer (some ⟨w.heap.size,0,none⟩))) ?_ rfl ?_
 ·simp[execOp,ho,Instr.alloc,hzr,newVar,newRow]
 ·exact VR.ptr (i:=⟨w.heap.size,0,z.length,zv.cells.size - z.length,P.cellsOf e⟩) 0 Mu.ext_new
theorem sim_box {e:TypeId} {x:Operand} (ho:o.op= .box e x) (hE:EnvR μ a act.tmps) (hR:Rel P μ σ w) (hx:okConst x=true)
  (he:evI (.box e x) a σ=some (v,σ')):Done P o act μ σ w v σ':=by
 simp only[evI,Option.some.injEq,Prod.mk.injEq] at he;obtain⟨rfl,rfl⟩:=he;have hlr:=vcells_VR (hE.eval hx);refine sim_new (st:= .rw) (by simp) (C:=(act.eval x).cells) hR hlr (nx:= .value (.pointer (some ⟨w.heap.size,0,none⟩))) ?_ rfl ?_
 ·simp[execOp,ho,Instr.box,newVar,newRow]
 ·exact VR.ptr (i:=⟨w.heap.size,0,(vcells (a.eval x)).length,(act.eval x).cells.size -(vcells (a.eval x)).length,P.cellsOf e⟩) 0 Mu.ext_new
theorem zeros_eq {z:Array Value} {n:Nat} (hz:0<z.size∨n=0):((Array.range n).map (fun i=>z[i%z.size]!)).toList=(List.range n).map fun i=>z.toList.getD (i%z.toList.length) undefE:=by
 apply List.ext_getElem?
 intro j;simp only[Array.toList_map,Array.toList_range,List.getElem?_map,Array.length_toList]
 cases hj:(List.range n)[j]? with
 |none=>rfl
 |some k=>
  have hjn:j<n:=by
   have:=(List.getElem?_eq_some_iff.1 hj).1;simpa using this
  have hz0:0<z.size:=by omega
  have hk:k%z.size<z.size:=Nat.mod_lt _ hz0
  simp[hk,List.getD]
theorem zeros_LR {z:List Value} (h:z.all okCell=true) (hz:0<z.length) (n:Nat):LR μ ((List.range n).map fun i=>z.getD (i%z.length) undefE) ((List.range n).map fun i=>z.getD (i%z.length) undefE):=by
 refine okCells_LR ?_
 rw[List.all_eq_true];intro x hx;simp only[List.mem_map,List.mem_range] at hx;obtain⟨i,_,rfl⟩:=hx;have hk:i%z.length<z.length:=Nat.mod_lt _ hz
 have:z.getD (i%z.length) undefE∈z:=by rw[List.getD_eq_getElem?_getD,List.getElem?_eq_getElem hk];simp
 exact(List.all_eq_true.1 h) _ this
theorem sim_bslice {t e:TypeId} {len n:Nat} {ps:Array (Nat×Operand)} {z:List Value} (ho:o.op= .buildSlice t len ps) (hu:P.underlying t=some (.slice e)) (hn:sizeT P e=some n) (hz:zeroT P e=some z)
  (hb:len*n≤2^24∧0<n∧z.length=n∧len<INF) (hE:EnvR μ a act.tmps) (hR:Rel P μ σ w) (hx:∀x∈ps.toList,okConst x.2=true)
  (he:evI (.bslice e n len ((List.range (len*n)).map fun i=>z.getD (i%z.length) undefE) (ps.toList.map fun(i,x)=>(i*n,n,x))) a σ=some (v,σ')):Done P o act μ σ w v σ':=by
 simp only[evI,Option.map_eq_some_iff,Prod.mk.injEq] at he;obtain⟨cs,hf,rfl,rfl⟩:=he;obtain⟨zv,hzr,hzc,_,hok⟩:=zeroT_run hz w;unfold sizeT at hn;simp only[Option.map_eq_some_iff] at hn;obtain⟨ti,hti,rfl⟩:=hn;have hzs:zv.cells.size=ti.size:=by rw[←hb.2.2.1,←hzc];simp
 have hL:L2 (fun(p:Nat×Nat×Value) (q:Nat×Value)=>(fun i:Nat=>some (i*ti.size,ti.size)) q.1=some (p.1,p.2.1)∧VR μ p.2.2 q.2)
   ((ps.toList.map fun(i,x)=>(i*ti.size,ti.size,x)).map fun(o,n,x)=>(o,n,a.eval x)) (ps.toList.map fun(i,x)=>(i,act.eval x)):=by
  rw[List.map_map];exact L2.same ps.toList fun p hp=> ⟨rfl,hE.eval (hx p hp)⟩
 have hze:=zeros_eq (z:=zv.cells) (n:=len*ti.size) (.inl (by omega))
 obtain⟨r',hfill,hlr⟩:=fill_run (fun i:Nat=>some (i*ti.size,ti.size)) _ _ _ ((Array.range (len*ti.size)).map (fun i=>zv.cells[i%zv.cells.size]!)) cs hL (by
  rw[hze,hzc];exact zeros_LR hok (by omega) _) hf
 refine sim_new (st:= .rw) (by simp) (C:=r') hR hlr (nx:= .value (.slice (some ⟨w.heap.size,0,none⟩) len len)) ?_ rfl ?_
 ·have e1:(ps.map fun(i,x)=>(i,act.eval x)).toList=ps.toList.map fun(i,x)=>(i,act.eval x):=by simp
  have hnb:¬len*ti.size>2^24:=by omega
  have hrun:(Instr.buildSlice t len (ps.map fun(i,x)=>(i,act.eval x))).run P w= .ok (.slice (some ⟨w.heap.size,0,none⟩) len len) (w.alloc (.cells r' e)):=by
   unfold Instr.buildSlice;simp only[Sem.run_bind,run_underlying hu,Result.andThen_ok,sizeOf_run w hti];rw[if_neg hnb];by_cases h0:len*ti.size=0
   ·have hfill':Instr.fill (fun i=>some (i*ti.size,ti.size)) (Array.map (fun i=>(#[]:Array Value)[i%(#[]:Array Value).size]!) (Array.range (len*ti.size))) (List.map (fun(x:Nat×Operand)=>(x.fst,act.eval x.snd)) ps.toList)=some r':=by
     rw[h0] at hfill ⊢;simpa[Array.range] using hfill
    rw[if_pos h0];simp only[Sem.run_bind,Sem.run_pure,Result.andThen_ok,e1];rw[hfill'];simp[newRow]
   ·have hfill':Instr.fill (fun i=>some (i*ti.size,ti.size)) (Array.map (fun i=>zv.cells[i%zv.cells.size]!) (Array.range (len*ti.size))) (List.map (fun(x:Nat×Operand)=>(x.fst,act.eval x.snd)) ps.toList)=some r':=hfill
    rw[if_neg h0];simp only[Sem.run_bind,Sem.run_pure,Result.andThen_ok,hzr,e1];rw[hfill'];simp[newRow]
  simp[execOp,ho,hrun]
 ·exact VR.slice (i:=⟨w.heap.size,0,cs.length,r'.size - cs.length,P.cellsOf e⟩) 0 len len len Mu.ext_new (by unfold capOK;rw[if_neg (by omega)];exact⟨rfl,Nat.le_refl _,hb.2.2.2⟩)
theorem sim_mks {t e:TypeId} {l c:Operand} {ti:TypeInfo} {z:List Value} (ho:o.op= .makeSlice t l c) (hu:P.underlying t=some (.slice e)) (hti:P.info? e=some ti) (hz:zeroT P e=some z) (hzl:0<ti.size∧z.length=ti.size)
  (hE:EnvR μ a act.tmps) (hR:Rel P μ σ w) (hl:okConst l=true) (hc:okConst c=true)
  (he:evI (.mks e ti.size ti.bytes z l c) a σ=some (v,σ')):Done P o act μ σ w v σ':=by
 simp only[evI] at he;split at he
 ·rename_i k1 n k2 m e1 e2
  split at he
  ·rename_i hb
   cases he
   obtain⟨rfl,h0,hinf,hwr,h48,hzz⟩:=hb;obtain⟨zv,hzr,hzc,_,hok⟩:=zeroT_run hz w;have q1:=hE.eval hl;rw[e1] at q1;have q2:=hE.eval hc;rw[e2] at q2;have hzs:zv.cells.size=ti.size:=by rw[←hzl.2,←hzc];simp
   have hze:=zeros_eq (z:=zv.cells) (n:=n.toNat*ti.size) (.inl (by omega))
   have hlr:LR μ ((List.range (n.toNat*ti.size)).map fun i=>z.getD (i%z.length) undefE) ((Array.range (n.toNat*ti.size)).map (fun i=>zv.cells[i%zv.cells.size]!)).toList:=by
    rw[hze,hzc];exact zeros_LR hok (by omega) _
   refine sim_new (st:= .rw) (by simp) (C:=(Array.range (n.toNat*ti.size)).map (fun i=>zv.cells[i%zv.cells.size]!)) hR hlr (nx:= .value (.slice (some ⟨w.heap.size,0,none⟩) n.toNat n.toNat)) ?_ rfl ?_
   ·have hrun:(Instr.makeSlice t (.int k1 n) (.int k2 n)).run P w= .ok (.slice (some ⟨w.heap.size,0,none⟩) n.toNat n.toNat) (w.alloc (.cells ((Array.range (n.toNat*ti.size)).map (fun i=>zv.cells[i%zv.cells.size]!)) e)):=by
     have hty:(typeInfo e).run P w= .ok ti w:=by simp[typeInfo,hti]
     unfold Instr.makeSlice;simp only[Sem.run_bind,run_underlying hu,Result.andThen_ok,asInt,asI_run,hty,hwr,Sem.run_pure];have hcond:(decide (n<0)||decide ((ti.bytes:Int)*n>2^48)||decide (n<0)||decide (n>n))=false:=by
      simp only[Bool.or_eq_false_iff,decide_eq_false_iff_not];omega
     rw[if_neg (by simpa using hcond)]
     simp only[Sem.run_bind,run_askRoom,Result.andThen_ok,sizeOf_run w hti,Sem.run_pure];by_cases hz0:n.toNat*ti.size=0
     ·rw[if_pos hz0]
      simp only[Sem.run_pure,Result.andThen_ok,hz0];simp[newRow,Array.range]
     ·rw[if_neg hz0]
      simp only[Sem.run_bind,hzr,Sem.run_pure,Result.andThen_ok];simp[newRow]
    simp[execOp,ho,q1.of_int,q2.of_int,hrun]
   ·exact VR.slice (i:=⟨w.heap.size,0,_,_,P.cellsOf e⟩) 0 n.toNat n.toNat n.toNat Mu.ext_new (by unfold capOK;rw[if_neg (by omega)];exact⟨rfl,Nat.le_refl _,by omega⟩)
  ·cases he
 ·cases he
theorem sim_mkm {t:TypeId} (ho:o.op= .makeMap t none) (hR:Rel P μ σ w) (he:evI .mkm a σ=some (v,σ')):Done P o act μ σ w v σ':=by
 simp only[evI,Option.some.injEq,Prod.mk.injEq] at he;obtain⟨rfl,rfl⟩:=he;have:=rel_alloc hR (.map [] 0) (.map #[] 0) ⟨w.heap.size,0,1,0,1⟩ rfl (by simp) ⟨rfl,rfl, #[],heap_push_new _ _, .nil⟩
 exact⟨_,_, .map (some w.heap.size),_,by simp[execOp,ho,Instr.makeMap], .inl rfl,VR.map (i:=⟨w.heap.size,0,1,0,1⟩) Mu.ext_new,this.1,this.2⟩
theorem sim_rngStr {t:TypeId} {x:Operand} (ho:o.op= .range t x) (hu:P.underlying t=some .string) (hE:EnvR μ a act.tmps) (hR:Rel P μ σ w) (hx:okConst x=true)
  (he:evI (.rngStr x) a σ=some (v,σ')):Done P o act μ σ w v σ':=by
 simp only[evI] at he;split at he
 ·rename_i s e1
  cases he
  have h1:=hE.eval hx;rw[e1] at h1;have:=rel_alloc hR (.iter s 0) (.stringIter s 0) ⟨w.heap.size,0,1,0,1⟩ rfl (by simp) ⟨rfl,rfl,heap_push_new _ _⟩
  exact⟨_,_, .pointer (some ⟨w.heap.size,0,none⟩),_,by simp[execOp,ho,h1.of_str,Instr.range,run_underlying hu], .inl rfl,VR.ptr (i:=⟨w.heap.size,0,1,0,1⟩) 0 Mu.ext_new,this.1,this.2⟩
 ·cases he
theorem sim_nxtStr {x:Operand} (ho:o.op= .next x true) (hE:EnvR μ a act.tmps) (hR:Rel P μ σ w) (hx:okConst x=true)
  (he:evI (.nxtStr x) a σ=some (v,σ')):Done P o act μ σ w v σ':=by
 simp only[evI] at he;split at he
 ·rename_i r e1
  have h1:=hE.eval hx;rw[e1] at h1;obtain⟨i,hi,_,q⟩:=h1.of_ptr;split at he
  ·rename_i s pos hg
   have hob:=hR.obj r i hi;rw[hg] at hob;obtain⟨h0,hl1,hh⟩:=hob;have q':act.eval x= .pointer (some ⟨i.block,0,none⟩):=by simp[q,h0]
   have hobj:(getObj i.block).run P w= .ok (.stringIter s pos) w:=by simp[getObj,Sem.run,hh]
   split at he
   ·rename_i hp
    cases he
    have:=rel_setObj hR hi (by unfold Dead;rw[hg];simp) (by unfold Ro;rw[hg];rintro⟨_,_,hh⟩;cases hh) (.iter s (pos+(Utf8.decode s pos).2)) (.stringIter s (pos+(Utf8.decode s pos).2)) (by simp) (by simp) ⟨_,hh,by simp,by simp⟩ ⟨h0,hl1⟩ ⟨h0,hl1,heap_set_self hh⟩
    refine⟨_,_, .tuple #[.bool true,goInt pos, .int .i32 (Utf8.decode s pos).1],_, ?_, .inl rfl,VR.tuple' (.cons (.bool _) (.cons (.int _ _) (.cons (.int _ _) .nil))),this.1,this.2⟩
    simp[execOp,ho,q',Instr.next,hobj,hp,run_setObj (P:=P) (w:=w) hh (by simp)]
   ·rename_i hp
    cases he
    refine .pure (v':= .tuple #[.bool false]) hR ?_ (VR.tuple' (.cons (.bool _) .nil))
    simp[execOp,ho,q',Instr.next,hobj,hp]
  ·cases he
 ·cases he
theorem storeE_run {l off:Nat} {vs vs':List Value} (hR:Rel P μ σ w) {i:Img} (hi:μ l=some i) (hv:LR μ vs vs') (he:storeE σ ⟨l,off,none⟩ vs=some σ'):
  ∃w',(storeCells ⟨i.block,i.off+off,none⟩ vs').run P w= .ok () w'∧Rel P μ σ' w'∧Post μ σ w μ σ' w':=by
 unfold storeE at he;split at he
 ·rename_i st e c hg
  split at he
  ·rename_i hc
   cases he
   obtain⟨h1,h2,h3⟩:=hc;obtain⟨C,E,fr,g1,g2,g3,g4,g5,g6⟩:=hR.cells hi hg;have hfr:=g6 h1;subst hfr;have hlv:=hv.length;have h2':off+vs.length≤c.length:=h2
   have hone:∀v∈vs',v.oneCell'=true:=by
    intro v hv';obtain⟨j,hj⟩:=List.mem_iff_getElem?.1 hv';have hlt:j<vs.length:=by rw[hlv];exact(List.getElem?_eq_some_iff.1 hj).1
    obtain⟨y,hy,hr⟩:=hv.get (List.getElem?_eq_getElem hlt)
    rw[hj] at hy;cases hy
    rw[←oneC_VR hr];exact(List.all_eq_true.1 h3) _ (List.getElem_mem hlt)
   have hrun:=run_storeCells_at P i.block (i.off+off) E vs' 0 C w g1 (by omega) hone
   have hrel:=rel_store hR hi hg h1 hv h2' g1;refine⟨_,hrun, ?_⟩
   simpa using hrel
  ·cases he
 ·cases he
theorem sim_store {t:TypeId} {x y:Operand} {n:Nat} (ho:o.op= .store t x y) (hn:sizeT P t=some n) (hE:EnvR μ a act.tmps) (hR:Rel P μ σ w) (hx:okConst x=true) (hy:okConst y=true)
  (he:evI (.store n x y) a σ=some (v,σ')):Done P o act μ σ w v σ':=by
 simp only[evI] at he;unfold sizeT at hn;simp only[Option.map_eq_some_iff] at hn;obtain⟨ti,hti,rfl⟩:=hn;split at he
 ·rename_i p e1
  split at he
  ·rename_i hlen
   simp only[Option.map_eq_some_iff,Prod.mk.injEq] at he;obtain⟨σ₁,hs,rfl,rfl⟩:=he;have h1:=hE.eval hx;rw[e1] at h1;obtain⟨i,hi,hsp,q⟩:=h1.of_ptr;obtain⟨pb,po,ps⟩:=p;simp only at hsp hi;subst hsp;have hlr:=vcells_VR (hE.eval hy);obtain⟨w',hrun,hR',hP⟩:=storeE_run hR hi hlr hs;refine⟨μ,w',undef, .skip, ?_, .inr ⟨rfl,rfl⟩,VR.undef _,hR',hP⟩
   have hsz:(act.eval y).cells.size=ti.size:=by rw[←hlen,hlr.length];simp
   simp[execOp,ho,q,Instr.storeAt,Instr.sureAddr,storeVar,sizeOf_run w hti,hsz,hrun]
  ·cases he
 ·cases he
theorem srcE_run {esz n m:Nat} {b:Option Addr} {c:Nat} {x':Value} {new:List Value} (hR:Rel P μ σ w) (hx:VR μ (.slice b m c) x') (hnm:n≤m) (he:srcE σ esz n b=some new):
  ∃new',(∀w2:World,w2.heap=w.heap→(Builtin.firstCells esz n x').run P w2= .ok new'.toArray w2)∧LR μ new new'∧new'.length=n*esz:=by
 unfold srcE at he;cases b with
 |none=>
  simp only at he;split at he
  ·cases he
   have:x'= .slice none m c:=by cases hx;rfl
   subst this;exact⟨[],fun w2 _=>by simp[Builtin.firstCells], .nil,by simp[*]⟩
  ·cases he
 |some p=>
  simp only at he;obtain⟨i,c',o',hi,hsp,_,q,ho'⟩:=hx.of_slice;subst q;split at he
  ·rename_i st e cs hg
   split at he
   ·rename_i hlen
    cases he
    obtain⟨C,E,fr,g1,g2,g3,g4,g5,g6⟩:=hR.cells hi hg;rcases ho' with ho'| ⟨h0,_⟩
    ·subst ho'
     refine⟨(C.toList.drop (i.off+p.off)).take (n*esz), ?_, ?_, ?_⟩
     ·intro w2 hw2
      simp only[Builtin.firstCells];exact run_loadCells_at w2 (by rw[hw2];exact g1) _ _ (by omega)
     ·have:=(g5.drop p.off).take (n*esz)
      have e:(((C.toList.drop i.off).take cs.length).drop p.off).take (n*esz)=(C.toList.drop (i.off+p.off)).take (n*esz):=by
       apply List.ext_getElem?
       intro j;simp only[get_seg];by_cases hj:j<n*esz
       ·rw[if_pos hj,if_pos hj,if_pos (by omega),Nat.add_assoc]
       ·rw[if_neg hj,if_neg hj]
      rw[e] at this;exact this
     ·simp;omega
    ·have:n=0:=by omega
     subst this;refine⟨[], ?_, ?_,by simp⟩
     ·intro w2 _
      simp only[Builtin.firstCells,Nat.zero_mul];simp[loadCells,loadCellsFrom]
     ·simp only[Nat.zero_mul,List.take_zero];exact .nil
   ·cases he
  ·cases he
def putAt (b:Option Addr) (l:List Value):Sem Unit:=match b with|some a=>storeCells a l|none=>pure ()
theorem sim_copy {t e:TypeId} {d s:Operand} {argTypes:Array TypeId} {n:Nat} (ho:o.op= .call {callee:= .builtin .copy,args:= #[d,s],argTypes:=argTypes}) (h0:argTypes[0]?=some t) (hu:P.underlying t=some (.slice e)) (hn:sizeT P e=some n) (hpos:0<n)
  (hE:EnvR μ a act.tmps) (hR:Rel P μ σ w) (hd:okConst d=true) (hs:okConst s=true)
  (he:evI (.copy n d s) a σ=some (v,σ')):Done P o act μ σ w v σ':=by
 simp only[evI] at he;unfold sizeT at hn;simp only[Option.map_eq_some_iff] at hn;obtain⟨ti,hti,rfl⟩:=hn;split at he
 ·rename_i db dl dc sb sl sc e1 e2
  have h1:=hE.eval hd;rw[e1] at h1;have h2:=hE.eval hs;rw[e2] at h2;split at he
  ·rename_i new hsrc
   obtain⟨new',hfc,hlr,hnl⟩:=srcE_run hR h2 (Nat.min_le_left _ _) hsrc;have hlen:∀w:World,(Builtin.lenOf (act.eval s)).run P w= .ok sl w:=by
    intro w;generalize act.eval s=vs at h2
    cases h2<;>rfl
   have hdst:∃db' dc',act.eval d= .slice db' dl dc'∧(db=none→db'=none):=by
    generalize act.eval d=vd at h1
    cases h1<;>exact⟨_,_,rfl,by simp⟩
   obtain⟨db',dc',qd,hdb⟩:=hdst;have hty:∀(r:Sem Unit) (w':World),r.run P w= .ok () w'→putAt db' new'=r→
     (Builtin.copy_ argTypes o.type #[act.eval d,act.eval s]).run P w= .ok (goInt (Nat.min sl dl)) w':=by
    intro r w' hr e;unfold Builtin.copy_;simp only[h0,List.getElem?_toArray,List.getElem?_cons_zero,List.getElem?_cons_succ,Sem.run_bind,run_underlying hu,Result.andThen_ok,qd,hlen,sizeOf_run w hti]
    have hfc':(Builtin.firstCells ti.size (Nat.min sl dl) (act.eval s)).run P w= .ok new'.toArray w:=hfc w rfl
    simp only[hfc',Result.andThen_ok];cases db' with
    |none=>
     subst e;simp only[putAt,Sem.run_pure,Result.ok.injEq,true_and] at hr;subst hr;rfl
    |some p=>
     subst e;simp only[putAt] at hr;simp only[Sem.run_bind,hr,Result.andThen_ok,Sem.run_pure]
   split at he
   ·split at he
    ·rename_i hz
     cases he
     refine .pure (v':=goInt (Nat.min sl dl)) hR ?_ (.int _ _)
     have hdn:=hdb rfl;subst hdn;have:=hty (pure ()) w rfl rfl
     simp[execOp,ho,resolve,invoke,builtin,this]
    ·cases he
   ·rename_i p
    split at he
    ·rename_i hz
     cases he
     refine .pure (v':=goInt (Nat.min sl dl)) hR ?_ (.int _ _)
     have hn0:new'= []:=by rw[hz] at hnl;simpa using hnl
     have:=hty (putAt db' new') w (by subst hn0;cases db'<;>rfl) rfl
     simp[execOp,ho,resolve,invoke,builtin,this]
    ·rename_i hz
     simp only[Option.map_eq_some_iff,Prod.mk.injEq] at he;obtain⟨σ₁,hst,rfl,rfl⟩:=he;obtain⟨i,c',o',hi,hsp,_,q,ho'⟩:=h1.of_slice;obtain⟨pb,po,ps⟩:=p;simp only at hsp hi ho';subst hsp;have ho':o'=i.off+po:=by
      rcases ho' with h| ⟨h,_⟩
      ·exact h
      ·exfalso;apply hz;rw[h];simp
     subst ho';obtain⟨w',hrun,hR',hP⟩:=storeE_run hR hi hlr hst;rw[q] at qd;cases qd
     have:=hty (storeCells ⟨i.block,i.off+po,none⟩ new') w' hrun rfl
     refine⟨μ,w',goInt (Nat.min sl dl),_, ?_, .inl rfl, .int _ _,hR',hP⟩
     simp[execOp,ho,resolve,invoke,builtin,this]
  ·cases he
 ·cases he
end
end Go.Ev
end EvSim6
section EvApp
namespace Go.Ev
variable {P :Program}
theorem run_append_in (w:World) (t tx ty e e':TypeId) (i:TypeInfo) (ht:P.underlying t=some (.slice e)) (hi:P.info? e=some i) (hk:P.underlying tx=some (.slice e')) (base:Option Addr) (sLen sCap n:Nat) (x:Value) (news:List Value)
  (hlen:∀w':World,(Builtin.lenOf x).run P w'= .ok n w') (hcells:(Builtin.firstCells i.size n x).run P w= .ok news.toArray w) (hroom:sLen+n≤sCap) (w':World) (hst:(putAt (base.map (·.add (sLen*i.size))) news).run P w= .ok () w'):
  (Builtin.append_ #[t,tx] ty #[.slice base sLen sCap,x]).run P w= .ok (.slice base (sLen+n) sCap) w':=by
 cases base with
 |none=>
  simp only[putAt,Option.map_none,Sem.run_pure,Result.ok.injEq,true_and] at hst;subst hst;simp[Builtin.append_,run_underlying ht,run_underlying hk,sizeOf,typeInfo,hi,hlen,hroom,hcells]
 |some a=>
  simp only[putAt,Option.map_some] at hst;simp[Builtin.append_,run_underlying ht,run_underlying hk,sizeOf,typeInfo,hi,hlen,hroom,hcells,hst]
theorem run_append_grow' (w:World) (t tx ty e e':TypeId) (i:TypeInfo) (z:Value) (ht:P.underlying t=some (.slice e)) (hi:P.info? e=some i) (hz:i.zero=some z) (hk:P.underlying tx=some (.slice e')) (base:Option Addr) (sLen sCap:Nat) (olds:List Value)
  (hold:(Builtin.firstCells i.size sLen (.slice base sLen sCap)).run P w.drew= .ok olds.toArray w.drew) (x:Value) (n:Nat) (news:List Value) (hlen:∀w':World,(Builtin.lenOf x).run P w'= .ok n w') (hcells:(Builtin.firstCells i.size n x).run P w.drew= .ok news.toArray w.drew)
  (hg:sCap<sLen+n) (h63:((sLen+n:Nat):Int)≤9223372036854775807) (hfit:Builtin.nextslicecap (sLen+n) sCap*i.bytes≤281474976710656):
  (Builtin.append_ #[t,tx] ty #[.slice base sLen sCap,x]).run P w=
   .ok (.slice (some ⟨w.heap.size,0,none⟩) (sLen+n) (grownCap w (sLen+n) sCap e))
    (w.drew.alloc (.cells ((olds++news).toArray++Builtin.zeroCells z.cells (grownCap w (sLen+n) sCap e -(sLen+n))) e)):=by
 have hn:¬(sLen+n≤sCap):=by omega
 have h63':¬(9223372036854775807<((sLen:Int)+(n:Int))):=by omega
 have h48':¬(281474976710656<Builtin.nextslicecap (sLen+n) sCap*i.bytes):=by omega
 simp[Builtin.append_,run_underlying ht,run_underlying hk,sizeOf,typeInfo,zeroValue,hi,hz,hlen,hn,h63',h48',Question.forced,hcells,hold,newRow,grownCap]
 congr 2
 apply Array.ext'
 simp[List.append_assoc]
theorem fit_of {need old bytes:Nat} (h:old<need) (h1:need≤2^31) (h2:bytes≤2^16):Builtin.nextslicecap need old*bytes≤281474976710656:=by
 have h3:=nextslicecap_le h
 calc Builtin.nextslicecap need old*bytes≤2^32*2^16:=Nat.mul_le_mul (by omega) h2
  _=281474976710656:=by decide
theorem rel_kill {μ:Mu} {σ:Store} {w:World} (h:Rel P μ σ w) {l:Nat} {i:Img} (hl:μ l=some i) (hnr:¬Ro σ l):Rel P μ (σ.set l .dead) w∧Post μ σ w μ (σ.set l .dead) w:=by
 have hls:=h.dom l i hl;have hroe:∀k,k<σ.size→(Ro (σ.set l .dead) k↔Ro σ k):=by
  intro k hk;unfold Ro;rw[Store.get_set _ _ _ _ hls];by_cases e:k=l
  ·subst e;simp only[if_true]
   constructor
   ·rintro⟨_,_,hh⟩;cases hh
   ·rintro hh;exact absurd hh hnr
  ·simp[e]
 refine⟨⟨fun k j hk=>by rw[Store.size_set];exact h.dom k j hk,h.bnd, ?_, ?_⟩,⟨fun _ _ h=>h,fun _ _ h=> .inl h,by rw[Store.size_set];exact Nat.le_refl _,hroe, ?_,fun k hk=>(by rintro⟨e,c,hh⟩;rw[Store.get_ge (by rw[Store.size_set];exact hk)] at hh;cases hh),Nat.le_refl _,fun _ _ _=>rfl, ?_,fun _ r h=> ⟨r,h⟩, .refl w⟩⟩
 ·intro k j hk
  rw[Store.get_set _ _ _ _ hls];by_cases e:k=l
  ·rw[if_pos e];trivial
  ·rw[if_neg e];exact h.obj k j hk
 ·intro l₁ l₂ i₁ i₂ h1 h2 hne hd1 hd2 hr1
  have d:∀k,¬Dead (σ.set l .dead) k→k≠l∧¬Dead σ k:=by
   intro k hk;unfold Dead at*
   rw[Store.get_set _ _ _ _ hls] at hk;by_cases e:k=l
   ·rw[if_pos e] at hk;exact absurd rfl hk
   ·rw[if_neg e] at hk;exact⟨e,hk⟩
  exact h.apart l₁ l₂ i₁ i₂ h1 h2 hne (d _ hd1).2 (d _ hd2).2 (fun x=>hr1 ((hroe _ (h.dom l₁ i₁ h1)).2 x))
 ·intro k hk hn
  rw[Store.get_set _ _ _ _ hls,if_neg];intro e;subst e;rw[hl] at hn;cases hn
 ·intro k j hk hib hr
  exact⟨k,j,hk,rfl,fun x=>hr ((hroe _ (h.dom k j hk)).2 x)⟩
theorem Rel.set_dead_live {μ:Mu} {σ:Store} {w:World} (h:Rel P μ σ w) {l:Nat} {i:Img} (hl:μ l=some i):∀k,¬Dead (σ.set l .dead) k→k≠l∧¬Dead σ k:=by
 have hls:=h.dom l i hl;intro k hk;unfold Dead at*
 rw[Store.get_set _ _ _ _ hls] at hk;by_cases e:k=l
 ·rw[if_pos e] at hk;exact absurd rfl hk
 ·rw[if_neg e] at hk;exact⟨e,hk⟩
theorem rel_over {μ:Mu} {σ:Store} {w:World} (h:Rel P μ σ w) {l:Nat} {i:Img} (hl:μ l=some i) {e:TypeId} {c:List Value} (hg:σ.get l=some (.cells .grow e c)) {off k:Nat} {new new':List Value}
  (hn:LR μ new new') (hin:off+k≤c.length) (hroom:off+k+new.length≤i.len+i.tail) (hpast:i.len≤off+k+new.length) {C:Array Value} {E:TypeId} {fr:Nat×Nat} (hC:w.heap[i.block]?=some (.cells C E fr)):
  let j:Img:=⟨i.block,i.off+off,k+new.length,i.len+i.tail -(off+k+new.length),P.cellsOf e⟩
  let w':=w.setRow i.block (C.toList.take (i.off+off+k)++new'++C.toList.drop (i.off+off+k+new'.length)).toArray
  Rel P (μ.ext σ.size j) ((σ.set l .dead).alloc (.cells .grow e ((c.drop off).take k++new))) w'∧Post μ σ w (μ.ext σ.size j) ((σ.set l .dead).alloc (.cells .grow e ((c.drop off).take k++new))) w':=by
 intro j w';have hls:=h.dom l i hl;obtain⟨C₀,E₀,fr₀,g1,g2,g3,g4,g5,g6⟩:=h.cells hl hg;rw[hC] at g1;cases g1
 have hln:=hn.length;have hnr:¬Ro σ l:=by unfold Ro;rw[hg];rintro⟨_,_,hh⟩;cases hh
 have hnd:¬Dead σ l:=by unfold Dead;rw[hg];simp
 have hCl:i.off+off+k+new'.length≤C.toList.length:=by simp;omega
 have hsz:(σ.set l .dead).size=σ.size:=rfl
 have hheap:w'.heap[i.block]?=some (.cells (C.toList.take (i.off+off+k)++new'++C.toList.drop (i.off+off+k+new'.length)).toArray E fr):=setRow_heap w _ _ _ _ _ hC
 have hoth:∀b,b≠i.block→w'.heap[b]?=w.heap[b]?:=fun b hb=>setRow_other w _ _ _ hb
 have hws:w'.heap.size=w.heap.size:=setRow_size w _ _
 have hx:=Mu.ext_mono h (j:=j)
 have hCs:(C.toList.take (i.off+off+k)++new'++C.toList.drop (i.off+off+k+new'.length)).toArray.size=C.size:=by
  have:=length_splice C.toList new' (i.off+off+k) hCl
  simpa using this
 have hlive:=h.set_dead_live hl;have hro':∀q,q<σ.size→(Ro ((σ.set l .dead).alloc (.cells .grow e ((c.drop off).take k++new))) q↔Ro σ q):=by
  intro q hq;unfold Ro;rw[Store.get_alloc,hsz,if_neg (by omega),Store.get_set _ _ _ _ hls]
  by_cases eq:q=l
  ·subst eq
   rw[if_pos rfl];constructor
   ·rintro⟨_,_,hh⟩;cases hh
   ·intro hh;exact absurd hh hnr
  ·rw[if_neg eq]
 have hget:∀q,q≠σ.size→q≠l→((σ.set l .dead).alloc (.cells .grow e ((c.drop off).take k++new))).get q=σ.get q:=by
  intro q h1 h2;rw[Store.get_alloc,hsz,if_neg h1,Store.get_set _ _ _ _ hls,if_neg h2]
 have hgl:((σ.set l .dead).alloc (.cells .grow e ((c.drop off).take k++new))).get l=some .dead:=by
  rw[Store.get_alloc,hsz,if_neg (by omega),Store.get_set _ _ _ _ hls,if_pos rfl]
 have hgn:((σ.set l .dead).alloc (.cells .grow e ((c.drop off).take k++new))).get σ.size=some (.cells .grow e ((c.drop off).take k++new)):=by
  rw[Store.get_alloc,hsz,if_pos rfl]
 have hklen:((c.drop off).take k).length=k:=by simp;omega
 have hapart:∀l₂ i₂,μ l₂=some i₂→l₂≠l→¬Dead σ l₂→Disj i i₂:=fun l₂ i₂ h2 hne hd=>h.apart l l₂ i i₂ hl h2 (Ne.symm hne) hnd hd hnr
 have hdj:∀i₂,Disj i i₂→Disj j i₂:=by
  intro i₂ hd;rcases hd with hd|hd|hd
  ·exact .inl hd
  ·right;left;show i.off+off+(k+new.length)+(i.len+i.tail -(off+k+new.length))≤_;omega
  ·right;right;show _≤i.off+off;omega
 refine⟨⟨?_, ?_, ?_, ?_⟩,⟨hx, ?_, ?_,hro', ?_, ?_, ?_, ?_, ?_,fun b r hb=> ⟨r,by
  have:b≠i.block:=by intro e;subst e;rw[hC] at hb;cases hb
  rw[hoth b this];exact hb⟩,SameW.setRow w _ _⟩⟩
 ·intro q iq hq
  by_cases eq:q=σ.size
  ·subst eq;simp[Store.size_alloc,hsz]
  ·rw[Mu.ext_old eq] at hq;have:=h.dom q iq hq;simp[Store.size_alloc,hsz];omega
 ·intro q iq hq
  rw[hws];by_cases eq:q=σ.size
  ·subst eq;rw[Mu.ext_new] at hq;cases hq;exact h.bnd l i hl
  ·rw[Mu.ext_old eq] at hq;exact h.bnd q iq hq
 ·intro q iq hq
  by_cases eq:q=σ.size
  ·subst eq;rw[Mu.ext_new] at hq;cases hq
   rw[hgn];refine⟨by simp[j,hklen],rfl,_,_,_,hheap, ?_, ?_,fun _=>(g6 (by simp))⟩
   ·rw[hCs];show i.off+off+(k+new.length)+(i.len+i.tail -(off+k+new.length))≤C.size;omega
   ·have hseg:((C.toList.take (i.off+off+k)++new'++C.toList.drop (i.off+off+k+new'.length)).drop (i.off+off)).take (k+new.length)=(C.toList.drop (i.off+off)).take k++new':=by
     apply List.ext_getElem?
     intro q;have hk':((C.toList.drop (i.off+off)).take k).length=k:=by simp;omega
     rw[get_seg,get_splice _ _ _ _ hCl];by_cases h1:q<k
     ·rw[if_pos (by omega),if_neg (by omega),List.getElem?_append_left (by omega),get_seg,if_pos h1]
     ·by_cases h2:q<k+new.length
      ·rw[if_pos h2,if_pos (by omega),List.getElem?_append_right (by omega),hk']
       congr 1;omega
      ·rw[if_neg h2,List.getElem?_append_right (by omega),List.getElem?_eq_none (by omega)]
    show LR (μ.ext σ.size j) _ (((C.toList.take (i.off+off+k)++new'++C.toList.drop (i.off+off+k+new'.length)).drop (i.off+off)).take (k+new.length))
    rw[hseg];have hl1:=(g5.drop off).take k;have e1:(((C.toList.drop i.off).take c.length).drop off).take k=(C.toList.drop (i.off+off)).take k:=by
     apply List.ext_getElem?
     intro q;simp only[get_seg];by_cases hj:q<k
     ·rw[if_pos hj,if_pos hj,if_pos (by omega),Nat.add_assoc]
     ·rw[if_neg hj,if_neg hj]
    rw[e1] at hl1;exact LR.mono hx (hl1.append hn)
  ·rw[Mu.ext_old eq] at hq
   by_cases eq2:q=l
   ·subst eq2;rw[hgl];trivial
   ·rw[hget q eq eq2]
    by_cases hbk:iq.block=i.block
    ·by_cases hdk:Dead σ q
     ·rw[show σ.get q=some .dead from hdk];trivial
     ·have hob2:=h.obj q iq hq
      have hdis:=hapart q iq hq eq2 hdk
      match σ.get q,hob2 with
      |some (.cells st2 e2 c2),hob2=>
       obtain⟨k1,k2,C2,E2,fr2,k3,k4,k5,k6⟩:=hob2;rw[hbk,hC] at k3;cases k3
       refine⟨k1,k2,_,_,_,by rw[hbk];exact hheap, ?_, ?_,k6⟩
       ·rw[hCs];exact k4
       ·show LR (μ.ext σ.size j) _ (((C.toList.take (i.off+off+k)++new'++C.toList.drop (i.off+off+k+new'.length)).drop iq.off).take iq.len)
        rw[seg_splice_other _ _ _ _ _ hCl]
        ·exact LR.mono hx k5
        ·rcases hdis with hd|hd|hd
         ·exact absurd hbk.symm hd
         ·right;omega
         ·left;omega
      |some .dead,_=>exact trivial
      |some (.map es cl),hob2=>obtain⟨_,_,es',g,_⟩:=hob2;rw[hbk,hC] at g;cases g
      |some (.iter s p),hob2=>obtain⟨_,_,g⟩:=hob2;rw[hbk,hC] at g;cases g
      |some (.loop _ _ _ _ _ _),hob2=>obtain⟨_,_,r,g,_⟩:=hob2;rw[hbk,hC] at g;cases g
      |none,hob2=>exact hob2.elim
    ·exact(h.obj q iq hq).world hx (hoth _ hbk)
 ·intro l₁ l₂ i₁ i₂ h1 h2 hne hd1 hd2 hr1
  by_cases e1:l₁=σ.size
  ·subst e1;rw[Mu.ext_new] at h1;cases h1
   rw[Mu.ext_old (Ne.symm hne)] at h2;have hl2:l₂≠l:=by intro e;subst e;exact hd2 hgl
   have hd2':¬Dead σ l₂:=by unfold Dead at hd2 ⊢;rw[hget l₂ (Ne.symm hne) hl2] at hd2;exact hd2
   exact hdj _ (hapart l₂ i₂ h2 hl2 hd2')
  ·rw[Mu.ext_old e1] at h1
   have hl1:l₁≠l:=by intro e;subst e;exact hd1 hgl
   have hd1':¬Dead σ l₁:=by unfold Dead at hd1 ⊢;rw[hget l₁ e1 hl1] at hd1;exact hd1
   have hr1':¬Ro σ l₁:=fun x=>hr1 ((hro' _ (h.dom l₁ i₁ h1)).2 x)
   by_cases e2:l₂=σ.size
   ·subst e2;rw[Mu.ext_new] at h2;cases h2
    exact(hdj _ (hapart l₁ i₁ h1 hl1 hd1')).symm
   ·rw[Mu.ext_old e2] at h2
    have hl2:l₂≠l:=by intro e;subst e;exact hd2 hgl
    have hd2':¬Dead σ l₂:=by unfold Dead at hd2 ⊢;rw[hget l₂ e2 hl2] at hd2;exact hd2
    exact h.apart l₁ l₂ i₁ i₂ h1 h2 hne hd1' hd2' hr1'
 ·intro q iq hq
  by_cases eq:q=σ.size
  ·exact .inr (by omega)
  ·rw[Mu.ext_old eq] at hq;exact .inl hq
 ·simp[Store.size_alloc,hsz]
 ·intro q hq hn
  refine hget q (by omega) ?_
  intro eq;subst eq;rw[hl] at hn;cases hn
 ·intro q hq
  rintro⟨e',c',hh⟩
  by_cases eq:q=σ.size
  ·subst eq;rw[hgn] at hh;cases hh
  ·rw[hget q eq (by omega),Store.get_ge hq] at hh;cases hh
 ·omega
 ·intro b hb hr
  apply hoth
  intro eq;subst eq;exact hnr (hr l i hl rfl)
 ·intro q iq hq hib hr
  by_cases eq:q=σ.size
  ·subst eq;rw[Mu.ext_new] at hq;cases hq
   exact⟨l,i,hl,rfl,hnr⟩
  ·rw[Mu.ext_old eq] at hq
   exact⟨q,iq,hq,rfl,fun hn=>hr ((hro' q (h.dom q iq hq)).2 hn)⟩
end Go.Ev
end EvApp
section EvSim7a
namespace Go.Ev
variable {P :Program}
section
variable {o :Oper} {act:Act} {μ:Mu} {σ:Store} {w:World} {a:Env} {v:Value} {σ':Store}
theorem info_zero {e:TypeId} {z:List Value} {ti:TypeInfo} (hz:zeroT P e=some z) (hti:P.info? e=some ti):∃zv,ti.zero=some zv∧zv.cells.toList=z:=by
 unfold zeroT at hz;rw[hti] at hz;simp only at hz;split at hz
 ·rename_i zv hzv
  split at hz
  ·cases hz
   refine⟨zv,hzv, ?_⟩
   cases zv<;>simp[Value.cells,vcells]
  ·cases hz
 ·cases hz
theorem cap_new {len n cap z:Nat} (h1:n≤cap) (hl:len=n*z) (w:Nat) (e:Nat) (hz:z=e):capOK ⟨w,0,len,len+(cap - n)*z - len,e⟩ 0 n INF cap:=by
 unfold capOK;rw[if_pos rfl];subst hz;have:=Nat.sub_mul cap n z
 have h2:n*z≤cap*z:=Nat.mul_le_mul_right _ h1
 refine⟨h1, ?_, ?_⟩
 ·show len≤0+cap*z;omega
 ·show 0+cap*z≤len+(len+(cap - n)*z - len);omega
theorem app_grow {t u e e':TypeId} {ti:TypeInfo} {zv:Value} {s x:Operand} {argTypes:Array TypeId} (ho:o.op= .call {callee:= .builtin .append,args:= #[s,x],argTypes:=argTypes}) (hat:argTypes= #[t,u])
  (ht:P.underlying t=some (.slice e)) (hk:P.underlying u=some (.slice e')) (hti:P.info? e=some ti) (hzv:ti.zero=some zv) (hzs:zv.cells.size=ti.size)
  {σ₁:Store} (hR:Rel P μ σ₁ w) (hP:Post μ σ w μ σ₁ w) {base:Option Addr} {sLen sCap n:Nat} {olds olds' new new':List Value} (hs:act.eval s= .slice base sLen sCap)
  (hold:(Builtin.firstCells ti.size sLen (.slice base sLen sCap)).run P w.drew= .ok olds'.toArray w.drew) (hlo:LR μ olds olds') (hll:olds'.length=sLen*ti.size)
  (hlen:∀w':World,(Builtin.lenOf (act.eval x)).run P w'= .ok n w') (hcells:(Builtin.firstCells ti.size n (act.eval x)).run P w.drew= .ok new'.toArray w.drew) (hln:LR μ new new') (hnl:new'.length=n*ti.size)
  (hg:sCap<sLen+n) (h31:sLen+n≤2^31) (h16:ti.bytes≤2^16):
  Done P o act μ σ w (.slice (some ⟨σ₁.size,0,none⟩) (sLen+n) INF) (σ₁.alloc (.cells .grow e (olds++new))):=by
 have hrun:=run_append_grow' (P:=P) w t u o.type e e' ti zv ht hti hzv hk base sLen sCap olds' hold (act.eval x) n new' hlen hcells hg (by omega) (fit_of hg h31 h16)
 have hlr:LR μ (olds++new) (olds'++new'):=hlo.append hln
 have hcap:=grownCap_ge w (sLen+n) sCap e;have hCl:((olds'++new').toArray++Builtin.zeroCells zv.cells (grownCap w (sLen+n) sCap e -(sLen+n))).toList=(olds'++new')++(Builtin.zeroCells zv.cells (grownCap w (sLen+n) sCap e -(sLen+n))).toList:=by simp
 have hlen2:=hlr.length;have hCs:((olds'++new').toArray++Builtin.zeroCells zv.cells (grownCap w (sLen+n) sCap e -(sLen+n))).size=(olds++new).length+(grownCap w (sLen+n) sCap e -(sLen+n))*ti.size:=by
  simp only[Array.size_append,size_zeroCells,hzs,List.size_toArray,hlen2]
 have hrel:=rel_alloc_cells hR.drew .grow (by simp) e (olds++new) ((olds'++new').toArray++Builtin.zeroCells zv.cells (grownCap w (sLen+n) sCap e -(sLen+n))) e (by
  rw[hCl,hlen2,List.take_left']
  ·exact hlr
  ·rfl) (by rw[hCs];omega)
 have hce:P.cellsOf e=ti.size:=cellsOf_info hti
 refine⟨_,_, .slice (some ⟨w.heap.size,0,none⟩) (sLen+n) (grownCap w (sLen+n) sCap e),_, ?_, .inl rfl, ?_,hrel.1,(hP.trans (Post.drew _ _ _)).trans hrel.2⟩
 ·subst hat
  simp[execOp,ho,resolve,invoke,builtin,hs,hrun]
 ·refine VR.slice (i:=⟨w.heap.size,0,(olds++new).length,_,P.cellsOf e⟩) 0 (sLen+n) INF _ Mu.ext_new ?_
  rw[hCs];refine cap_new hcap ?_ _ _ hce.symm
  rw[hlen2,List.length_append,hll,hnl,Nat.add_mul]
end
end Go.Ev
end EvSim7a
section EvSim7
namespace Go.Ev
variable {P :Program}
section
variable {o :Oper} {act:Act} {μ:Mu} {σ:Store} {w:World} {a:Env} {v:Value} {σ':Store}
theorem sim_app {t u e e':TypeId} {ti:TypeInfo} {z:List Value} {s x:Operand} {argTypes:Array TypeId} (ho:o.op= .call {callee:= .builtin .append,args:= #[s,x],argTypes:=argTypes}) (hat:argTypes= #[t,u])
  (ht:P.underlying t=some (.slice e)) (hk:P.underlying u=some (.slice e')) (hti:P.info? e=some ti) (hz:zeroT P e=some z) (hpos:0<ti.size) (hzl:z.length=ti.size)
  (hE:EnvR μ a act.tmps) (hR:Rel P μ σ w) (hs:okConst s=true) (hx:okConst x=true)
  (he:evI (.app e ti.size ti.bytes s x) a σ=some (v,σ')):Done P o act μ σ w v σ':=by
 simp only[evI] at he;obtain⟨zv,hzv,hzc⟩:=info_zero hz hti;have hzs:zv.cells.size=ti.size:=by rw[←hzl,←hzc];simp
 have h1:=hE.eval hs;have h2:=hE.eval hx;unfold app at he;split at he
 ·rename_i base sLen sCap xb n xc e1 e2
  rw[e1] at h1;rw[e2] at h2;have hlen:∀w:World,(Builtin.lenOf (act.eval x)).run P w= .ok n w:=by
   intro w;generalize act.eval x=vx at h2
   cases h2<;>rfl
  split at he
  ·cases he
  ·rename_i new hsrc
   obtain⟨new',hfc,hlr,hnl⟩:=srcE_run hR h2 (Nat.le_refl _) hsrc;have hll:=hlr.length;have idle:∀(s':Value),act.eval s=s'→(∃b l c,s'= .slice b l c∧l=sLen∧sLen≤c)→n=0→VR μ (a.eval s) s'→Done P o act μ σ w (a.eval s) σ:=by
    intro s' hs' hb hn0 hv;obtain⟨b,l,c,q,rfl,hle⟩:=hb;subst hn0;have hn:new'= []:=by simpa using hnl
    subst hn;subst q;have hr:=run_append_in (P:=P) w t u o.type e e' ti ht hti hk b l c 0 (act.eval x) [] hlen (by simpa using hfc w rfl) (by omega) w (by cases b<;>rfl)
    refine .pure hR ?_ hv
    subst hat;simp[execOp,ho,resolve,invoke,builtin,hs',hr]
   split at he
   ·-- a nil slice
    have hs':act.eval s= .slice none sLen sCap:=by generalize act.eval s=vs at h1;cases h1;rfl
    split at he
    ·rename_i hz0
     obtain⟨rfl,rfl⟩:=hz0;split at he
     ·rename_i hn0
      cases he
      exact idle _ hs' ⟨none,0,0,rfl,rfl,Nat.le_refl _⟩ hn0 (by rw[e1];exact .nils _ _)
     ·rename_i hn0
      split at he
      ·rename_i hb
       cases he
       have:=app_grow (σ:=σ) (olds:= []) (olds':= []) ho hat ht hk hti hzv hzs hR (Post.refl _ _ _) hs' (by simp[Builtin.firstCells]) .nil (by simp) hlen (hfc w.drew rfl) hlr hnl (by omega) (by omega) hb.2
       simpa using this
      ·cases he
    ·cases he
   ·rename_i aa
    obtain⟨i,c',o',hi,hsp,hcap,q,ho'⟩:=h1.of_slice;obtain⟨ab,ao,as⟩:=aa;simp only at hsp hi ho' hcap he;subst hsp;have hcl:sLen≤c':=by
     unfold capOK at hcap;split at hcap<;>omega
    split at he
    ·rename_i st e₀ c hg
     split at he
     ·rename_i hin
      obtain⟨C,E,fr,g1,g2,g3,g4,g5,g6⟩:=hR.cells hi hg;split at he
      ·rename_i hn0
       cases he
       refine idle _ q ⟨_,_,_,rfl,rfl,hcl⟩ hn0 ?_
       rw[e1,←q];exact h1
      ·rename_i hn0
       have hsrcS:srcE σ ti.size sLen (some ⟨ab,ao,none⟩)=some ((c.drop ao).take (sLen*ti.size)):=by
        unfold srcE;simp only[hg];rw[if_pos hin]
       obtain⟨old',hfo,hlo,hlol⟩:=srcE_run hR h1 (Nat.le_refl _) hsrcS;rw[q] at hfo;split at he
       ·rename_i hinf
        subst hinf;have hcap':=hcap;unfold capOK at hcap';rw[if_pos rfl] at hcap';split at he
        ·rename_i hst
         obtain⟨rfl,rfl⟩:=hst;have hesz:i.esz=ti.size:=by rw[g4,cellsOf_info hti]
         rw[hesz] at hcap';split at he
         ·-- within what lies there
          rename_i hroom;simp only[Option.map_eq_some_iff,Prod.mk.injEq] at he;obtain⟨σ₁,hst,rfl,rfl⟩:=he;have hle:sLen+n≤c':=by
           have:(sLen+n)*ti.size≤c'*ti.size:=by omega
           exact Nat.le_of_mul_le_mul_right this hpos
          have ho'':o'=i.off+ao:=by
           rcases ho' with h| ⟨h,h3⟩
           ·exact h
           ·omega
          subst ho'';obtain⟨w',hrun,hR',hP⟩:=storeE_run hR hi hlr hst
          have hr:=run_append_in (P:=P) w t u o.type e₀ e' ti ht hti hk (some ⟨i.block,i.off+ao,none⟩) sLen c' n (act.eval x) new' hlen (hfc w rfl) hle w' (by
           simp only[putAt,Option.map_some,addr_add];rw[Nat.add_assoc];exact hrun)
          refine⟨μ,w', .slice (some ⟨i.block,i.off+ao,none⟩) (sLen+n) c',_, ?_, .inl rfl, ?_,hR',hP⟩
          ·subst hat
           simp[execOp,ho,resolve,invoke,builtin,q,hr]
          ·exact .slice _ _ _ _ hi (by unfold capOK;rw[if_pos rfl,hesz];exact⟨hle,hcap'.2⟩)
         ·rename_i hroom
          split at he
          ·rename_i hb
           cases he
           by_cases hle:sLen+n≤c'
           ·-- the model's array has room
            have ho'':o'=i.off+ao:=by
             rcases ho' with h| ⟨h,h3⟩
             ·exact h
             ·omega
            subst ho'';have hle2:(sLen+n)*ti.size≤c'*ti.size:=Nat.mul_le_mul_right _ hle
            rw[Nat.add_mul] at hle2 hroom;have hrel:=rel_over hR hi hg (off:=ao) (k:=sLen*ti.size) hlr (by omega) (by omega) (by omega) g1
            have hfr:=g6 (by simp)
            subst hfr;have hone:∀v∈new',v.oneCell'=true:=by
             intro v hv';obtain⟨j,hj⟩:=List.mem_iff_getElem?.1 hv';have hlt:j<new.length:=by rw[hll];exact(List.getElem?_eq_some_iff.1 hj).1
             obtain⟨y,hy,hr⟩:=hlr.get (List.getElem?_eq_getElem hlt)
             rw[hj] at hy;cases hy
             rw[←oneC_VR hr];exact(List.all_eq_true.1 hb.2.2) _ (List.getElem_mem hlt)
            have hrun:=run_storeCells_at P i.block (i.off+ao+sLen*ti.size) E new' 0 C w g1 (by omega) hone
            simp only[Nat.add_zero] at hrun
            have hr:=run_append_in (P:=P) w t u o.type e₀ e' ti ht hti hk (some ⟨i.block,i.off+ao,none⟩) sLen c' n (act.eval x) new' hlen (hfc w rfl) hle _ (by
             simp only[putAt,Option.map_some,addr_add];exact hrun)
            refine⟨_,_, .slice (some ⟨i.block,i.off+ao,none⟩) (sLen+n) c',_, ?_, .inl rfl, ?_,hrel.1,hrel.2⟩
            ·subst hat
             simp[execOp,ho,resolve,invoke,builtin,q,hr]
            ·have:=VR.slice (μ:=μ.ext σ.size ⟨i.block,i.off+ao,sLen*ti.size+new.length,i.len+i.tail -(ao+sLen*ti.size+new.length),P.cellsOf e₀⟩)
              (l:=σ.size) (i:=⟨i.block,i.off+ao,sLen*ti.size+new.length,i.len+i.tail -(ao+sLen*ti.size+new.length),P.cellsOf e₀⟩) 0 (sLen+n) INF c' Mu.ext_new (by
               unfold capOK;rw[if_pos rfl,cellsOf_info hti];refine⟨hle, ?_, ?_⟩
               ·show sLen*ti.size+new.length≤0+c'*ti.size;omega
               ·show 0+c'*ti.size≤sLen*ti.size+new.length+(i.len+i.tail -(ao+sLen*ti.size+new.length));omega)
             simpa using this
           ·-- a new array
            have hnr:¬Ro σ ab:=by unfold Ro;rw[hg];rintro⟨_,_,hh⟩;cases hh
            have hk':=rel_kill hR hi hnr;have:=app_grow (σ:=σ) ho hat ht hk hti hzv hzs hk'.1 hk'.2 q (hfo w.drew rfl) hlo hlol hlen (hfc w.drew rfl) hlr hnl (by omega) hb.1 hb.2.1
            exact this
          ·cases he
        ·cases he
       ·rename_i hinf
        have hcap':=hcap;unfold capOK at hcap';rw[if_neg hinf] at hcap';obtain⟨rfl,hle0,hlt⟩:=hcap';split at he
        ·rename_i hle
         simp only[Option.map_eq_some_iff,Prod.mk.injEq] at he;obtain⟨σ₁,hst,rfl,rfl⟩:=he;have ho'':o'=i.off+ao:=by
          rcases ho' with h| ⟨h,h3⟩
          ·exact h
          ·omega
         subst ho'';obtain⟨w',hrun,hR',hP⟩:=storeE_run hR hi hlr hst
         have hr:=run_append_in (P:=P) w t u o.type e e' ti ht hti hk (some ⟨i.block,i.off+ao,none⟩) sLen c' n (act.eval x) new' hlen (hfc w rfl) hle w' (by
          simp only[putAt,Option.map_some,addr_add];rw[Nat.add_assoc];exact hrun)
         refine⟨μ,w', .slice (some ⟨i.block,i.off+ao,none⟩) (sLen+n) c',_, ?_, .inl rfl, ?_,hR',hP⟩
         ·subst hat
          simp[execOp,ho,resolve,invoke,builtin,q,hr]
         ·exact .slice _ _ _ _ hi (by unfold capOK;rw[if_neg hinf];exact⟨rfl,hle,hlt⟩)
        ·rename_i hle
         split at he
         ·rename_i hb
          cases he
          have:=app_grow (σ:=σ) ho hat ht hk hti hzv hzs hR (Post.refl _ _ _) q (hfo w.drew rfl) hlo hlol hlen (hfc w.drew rfl) hlr hnl (by omega) hb.1 hb.2
          exact this
         ·cases he
     ·cases he
    ·cases he
 ·cases he
end
end Go.Ev
end EvSim7
section EvOp
namespace Go.Ev
variable {P :Program}
theorem all_ok {l:List Operand} (h:l.all okConst=true) {x:Operand} (hx:x∈l):okConst x=true:=(List.all_eq_true.1 h) x hx
theorem zeroOf_run {μ:Mu} {t:TypeId} {z:List Value} {g:Bool} (hz:zeroT P t=some z) (hg:isAggT P t=some g) (h1:z.length=1∨g=true) (hzg:zeroAgg P t=some g) (w:World):
  ∃v,(zeroValue t).run P w= .ok v w∧VR μ (zeroOf z g) v:=by
 unfold zeroAgg at hzg;split at hzg
 ·rename_i i hi
  split at hzg
  ·rename_i cs hv
   cases hzg
   exact zeroOf_VR hz hg h1 w (fun _=> ⟨cs,i,hi,hv⟩) (fun h=>by cases h)
  ·rename_i v hna hv
   cases hzg
   refine zeroOf_VR hz hg h1 w (fun h=>by cases h) (fun _=> ⟨v,⟨i,hi,hv⟩, ?_⟩)
   obtain⟨zv,_,hzc,⟨i',hi',hv'⟩,hok⟩:=zeroT_run hz w;rw[hi] at hi';cases hi'
   rw[hv] at hv';cases hv'
   cases v with
   |agg cs=>exact absurd rfl (hna cs)
   |tuple cs=>rw[←hzc] at hok;simp[Value.cells,okCell] at hok
   |_=>rfl
  ·cases hzg
 ·cases hzg
section
variable {o :Oper} {act:Act} {μ:Mu} {σ:Store} {w:World} {a:Env} {v:Value} {σ':Store}
set_option maxHeartbeats 1000000 in
theorem sim_I {i:I} (hc:compOp0 P o=some i) (hok:(operandsI i).all okConst=true) (hE:EnvR μ a act.tmps) (hR:Rel P μ σ w)
  (he:evI i a σ=some (v,σ')):Done P o act μ σ w v σ':=by
 unfold compOp0 at hc;split at hc
 ·-- move
  rename_i x ho;cases hc
  exact sim_mov (fun w=>by simp[execOp,ho]) hE hR (all_ok hok (by simp[operandsI])) he
 ·rename_i x ho
  cases hc
  exact sim_mov (fun w=>by simp[execOp,ho]) hE hR (all_ok hok (by simp[operandsI])) he
 ·rename_i c x y ho
  cases hc
  exact sim_pick ho hE hR (all_ok hok (by simp[operandsI])) (all_ok hok (by simp[operandsI])) (all_ok hok (by simp[operandsI])) he
 ·rename_i e ho
  simp only[Option.map_eq_some_iff] at hc;obtain⟨z,hz,rfl⟩:=hc;exact sim_alloc ho hz hR he
 ·rename_i e x ho
  cases hc
  exact sim_box ho hE hR (all_ok hok (by simp[operandsI])) he
 ·-- build
  rename_i t ps ho;split at hc
  ·rename_i fs z hu hz
   split at hc
   ·rename_i hall
    simp only[Option.map_eq_some_iff] at hc;obtain⟨qs,hq,rfl⟩:=hc;exact sim_build_struct ho hu hz hall hq hE hR (fun x hx=>all_ok hok (by simp only[operandsI,List.mem_map];exact⟨x,hx,rfl⟩)) he
   ·cases hc
  ·rename_i len e z hu hz
   simp only[Option.map_eq_some_iff] at hc;obtain⟨n,hn,rfl⟩:=hc;exact sim_build_array ho hu hz hn hE hR (fun x hx=>all_ok hok (by simp only[operandsI,List.map_map,List.mem_map];exact⟨x,hx,rfl⟩)) he
  ·cases hc
 ·-- buildSlice
  rename_i t len ps ho;split at hc
  ·rename_i e hu
   split at hc
   ·rename_i n z hn hz
    split at hc
    ·rename_i hb
     cases hc
     exact sim_bslice ho hu hn hz hb hE hR (fun x hx=>all_ok hok (by simp only[operandsI,List.map_map,List.mem_map];exact⟨x,hx,rfl⟩)) he
    ·cases hc
   ·cases hc
  ·cases hc
 ·rename_i t x ho
  simp only[Option.map_eq_some_iff] at hc;obtain⟨n,hn,rfl⟩:=hc;exact sim_load ho hn hE hR (all_ok hok (by simp[operandsI])) he
 ·rename_i t x y ho
  simp only[Option.map_eq_some_iff] at hc;obtain⟨n,hn,rfl⟩:=hc;exact sim_store ho hn hE hR (all_ok hok (by simp[operandsI])) (all_ok hok (by simp[operandsI])) he
 ·rename_i x ho
  cases hc
  exact sim_nilc ho hE hR (all_ok hok (by simp[operandsI])) he
 ·-- binOp
  rename_i op t x y yt ho;unfold cmpI at hc;split at hc
  ·-- eql
   split at hc
   ·cases hc;exact sim_bin ho hE hR (all_ok hok (by simp[operandsI])) (all_ok hok (by simp[operandsI])) he
   ·cases hc;exact sim_bin ho hE hR (all_ok hok (by simp[operandsI])) (all_ok hok (by simp[operandsI])) he
   ·rename_i hu;cases hc;exact sim_beq ho (.inl rfl) hu hE hR (all_ok hok (by simp[operandsI])) (all_ok hok (by simp[operandsI])) he
   ·rename_i fs hu
    split at hc
    ·cases hc
    ·rename_i hg
     simp only[Option.map_eq_some_iff] at hc;obtain⟨ks,hk,rfl⟩:=hc;exact sim_peq ho (.inl rfl) hk (by simp[isAggT,hu]) (by simpa using hg) hE hR (all_ok hok (by simp[operandsI])) (all_ok hok (by simp[operandsI])) he
   ·rename_i n e hu
    split at hc
    ·cases hc
    ·rename_i hg
     simp only[Option.map_eq_some_iff] at hc;obtain⟨ks,hk,rfl⟩:=hc;exact sim_peq ho (.inl rfl) hk (by simp[isAggT,hu]) (by simpa using hg) hE hR (all_ok hok (by simp[operandsI])) (all_ok hok (by simp[operandsI])) he
   ·split at hc
    ·rename_i k hk
     split at hc
     ·rename_i hn
      cases hc
      exact sim_nileq ho (.inl rfl) hk hn hE hR (all_ok hok (by simp[operandsI])) he
     ·cases hc
    ·cases hc
  ·split at hc
   ·cases hc;exact sim_bin ho hE hR (all_ok hok (by simp[operandsI])) (all_ok hok (by simp[operandsI])) he
   ·cases hc;exact sim_bin ho hE hR (all_ok hok (by simp[operandsI])) (all_ok hok (by simp[operandsI])) he
   ·rename_i hu;cases hc;exact sim_beq ho (.inr rfl) hu hE hR (all_ok hok (by simp[operandsI])) (all_ok hok (by simp[operandsI])) he
   ·rename_i fs hu
    split at hc
    ·cases hc
    ·rename_i hg
     simp only[Option.map_eq_some_iff] at hc;obtain⟨ks,hk,rfl⟩:=hc;exact sim_peq ho (.inr rfl) hk (by simp[isAggT,hu]) (by simpa using hg) hE hR (all_ok hok (by simp[operandsI])) (all_ok hok (by simp[operandsI])) he
   ·rename_i n e hu
    split at hc
    ·cases hc
    ·rename_i hg
     simp only[Option.map_eq_some_iff] at hc;obtain⟨ks,hk,rfl⟩:=hc;exact sim_peq ho (.inr rfl) hk (by simp[isAggT,hu]) (by simpa using hg) hE hR (all_ok hok (by simp[operandsI])) (all_ok hok (by simp[operandsI])) he
   ·split at hc
    ·rename_i k hk
     split at hc
     ·rename_i hn
      cases hc
      exact sim_nileq ho (.inr rfl) hk hn hE hR (all_ok hok (by simp[operandsI])) he
     ·cases hc
    ·cases hc
  ·cases hc
   exact sim_bin ho hE hR (all_ok hok (by simp[operandsI])) (all_ok hok (by simp[operandsI])) he
 ·rename_i t x ho;cases hc;exact sim_not ho hE hR (all_ok hok (by simp[operandsI])) he
 ·rename_i t x ho;cases hc;exact sim_neg ho hE hR (all_ok hok (by simp[operandsI])) he
 ·-- convert
  rename_i s d x ho;split at hc
  ·rename_i k' k hs hd
   cases hc;exact sim_conv ho hs hd hE hR (all_ok hok (by simp[operandsI])) he
  ·rename_i hs hd
   cases hc
   simp only[evI] at he;split at he
   ·rename_i st e1
    cases he
    have h1:=hE.eval (all_ok hok (show x∈operandsI (.strOf x) by simp[operandsI]));rw[e1] at h1
    refine .pure (v':=_) hR ?_ (.str st)
    simp[execOp,ho,h1.of_str,convert,run_underlying hs,run_underlying hd]
   ·cases he
  ·cases hc
 ·-- makeInterface
  rename_i t x ho;split at hc
  ·cases hc
  ·rename_i d hd hu
   cases hc
   exact sim_mki ho hu (fun ms e=>hd ms e) hE hR (all_ok hok (by simp[operandsI])) he
  ·cases hc
 ·rename_i f fs cs ho
  cases hc
  exact sim_mkf ho hE hR (fun x hx=>all_ok hok (by simp[operandsI,hx])) (fun x hx=>all_ok hok (by simp[operandsI,hx])) he
 ·rename_i t ho
  cases hc
  exact sim_mkm ho hR he
 ·-- makeSlice
  rename_i t l c ho;split at hc
  ·rename_i e hu
   split at hc
   ·rename_i ti z hti hz
    split at hc
    ·rename_i hb
     cases hc
     exact sim_mks ho hu hti hz hb hE hR (all_ok hok (by simp[operandsI])) (all_ok hok (by simp[operandsI])) he
    ·cases hc
   ·cases hc
  ·cases hc
 ·-- slice
  rename_i t x lo hi mx ho;split at hc
  ·rename_i e hu
   simp only[Option.bind_eq_some_iff] at hc;obtain⟨n,hn,hc⟩:=hc;split at hc
   ·cases hc
    exact sim_slcS ho hu hn hE hR (all_ok hok (by simp[operandsI])) (fun y hy=>all_ok hok (by simp only[operandsI,List.mem_cons,List.mem_append];exact .inr (.inl (.inl hy)))) (fun y hy=>all_ok hok (by simp only[operandsI,List.mem_cons,List.mem_append];exact .inr (.inl (.inr hy)))) (fun y hy=>all_ok hok (by simp only[operandsI,List.mem_cons,List.mem_append];exact .inr (.inr hy))) he
   ·cases hc
  ·rename_i len e hu
   simp only[Option.bind_eq_some_iff] at hc;obtain⟨n,hn,hc⟩:=hc;split at hc
   ·cases hc
    exact sim_slcA ho hu hn hE hR (all_ok hok (by simp[operandsI])) (fun y hy=>all_ok hok (by simp only[operandsI,List.mem_cons,List.mem_append];exact .inr (.inl (.inl hy)))) (fun y hy=>all_ok hok (by simp only[operandsI,List.mem_cons,List.mem_append];exact .inr (.inl (.inr hy)))) (fun y hy=>all_ok hok (by simp only[operandsI,List.mem_cons,List.mem_append];exact .inr (.inr hy))) he
   ·cases hc
  ·rename_i hu
   split at hc
   ·rename_i hm
    cases hc
    have:mx=none:=by cases mx<;>simp_all
    subst this;exact sim_slcStr ho hu hE hR (all_ok hok (by simp[operandsI])) (fun y hy=>all_ok hok (by simp only[operandsI,List.mem_cons,List.mem_append];exact .inr (.inl hy))) (fun y hy=>all_ok hok (by simp only[operandsI,List.mem_cons,List.mem_append];exact .inr (.inr hy))) he
   ·cases hc
  ·cases hc
 ·-- fieldAddr
  rename_i t x f ho;split at hc
  ·rename_i fs hu
   split at hc
   ·rename_i fd hf
    split at hc
    ·rename_i n hn
     split at hc
     ·cases hc
     ·rename_i h0
      cases hc
      exact sim_addOff ho hu hf hn h0 hE hR (all_ok hok (by simp[operandsI])) he
    ·cases hc
   ·cases hc
  ·cases hc
 ·-- field
  rename_i t x f ho;split at hc
  ·rename_i fs hu
   split at hc
   ·rename_i fd hf
    simp only[Option.map_eq_some_iff] at hc;obtain⟨n,hn,rfl⟩:=hc;exact sim_field ho hu hf hn hE hR (all_ok hok (by simp[operandsI])) he
   ·cases hc
  ·cases hc
 ·-- indexAddr
  rename_i t x ix ho;split at hc
  ·rename_i e hu
   simp only[Option.map_eq_some_iff] at hc;obtain⟨n,hn,rfl⟩:=hc;exact sim_idxS ho hu hn hE hR (all_ok hok (by simp[operandsI])) (all_ok hok (by simp[operandsI])) he
  ·rename_i len e hu
   simp only[Option.map_eq_some_iff] at hc;obtain⟨n,hn,rfl⟩:=hc;exact sim_idxA ho hu hn hE hR (all_ok hok (by simp[operandsI])) (all_ok hok (by simp[operandsI])) he
  ·cases hc
 ·-- index
  rename_i t x ix ho;split at hc
  ·rename_i len e hu
   split at hc
   ·rename_i s n hs hn
    cases hc
    unfold sizeT at hn;simp only[Option.map_eq_some_iff] at hn;obtain⟨ti,hti,hsz⟩:=hn;exact sim_index ho hu hs hti hsz hE hR (all_ok hok (by simp[operandsI])) (all_ok hok (by simp[operandsI])) he
   ·cases hc
  ·rename_i hu
   cases hc
   exact sim_indexStr ho hu hE hR (all_ok hok (by simp[operandsI])) (all_ok hok (by simp[operandsI])) he
  ·cases hc
 ·-- lookup
  rename_i t m k ok ho;split at hc
  ·rename_i kt e hu
   split at hc
   ·rename_i z g hz hg
    split at hc
    ·rename_i ks hk
     split at hc
     ·rename_i hb
      cases hc
      exact sim_look ho hu hk (fun w=>zeroOf_run hz hg hb.1 hb.2 w) hE hR (all_ok hok (by simp[operandsI])) (all_ok hok (by simp[operandsI])) he
     ·cases hc
    ·cases hc
   ·cases hc
  ·cases hc
 ·-- mapUpdate
  rename_i t m k x ho;split at hc
  ·rename_i kt e hu
   simp only[Option.map_eq_some_iff] at hc;obtain⟨ks,hk,rfl⟩:=hc;exact sim_mupd ho hu hk hE hR (all_ok hok (by simp[operandsI])) (all_ok hok (by simp[operandsI])) (all_ok hok (by simp[operandsI])) he
  ·cases hc
 ·-- mapEntry
  rename_i t m k ho;split at hc
  ·rename_i kt e hu
   split at hc
   ·rename_i z g hz hg
    split at hc
    ·rename_i ks hk
     split at hc
     ·rename_i hb
      cases hc
      exact sim_ment ho hu hk (fun w=>zeroOf_run hz hg hb.1 hb.2 w) hE hR (all_ok hok (by simp[operandsI])) (all_ok hok (by simp[operandsI])) he
     ·cases hc
    ·cases hc
   ·cases hc
  ·cases hc
 ·rename_i t m s x ho
  cases hc
  exact sim_mest ho hE hR (all_ok hok (by simp[operandsI])) (all_ok hok (by simp[operandsI])) (all_ok hok (by simp[operandsI])) he
 ·-- range
  rename_i t x ho;split at hc
  ·rename_i hu
   cases hc
   exact sim_rngStr ho hu hE hR (all_ok hok (by simp[operandsI])) he
  ·cases hc
 ·rename_i x ho
  cases hc
  exact sim_nxtStr ho hE hR (all_ok hok (by simp[operandsI])) he
 ·rename_i x i ho
  cases hc
  exact sim_ext ho hE hR (all_ok hok (by simp[operandsI])) he
 ·-- len
  rename_i args argTypes ho;split at hc
  ·rename_i x e hargs hu
   cases hc
   simp only[Option.bind_eq_some_iff] at hu;obtain⟨t,h0,hu⟩:=hu;have ha:args= #[x]:=by apply Array.ext';simpa using hargs
   subst ha;exact sim_lenS ho h0 hu hE hR (all_ok hok (by simp[operandsI])) he
  ·rename_i x hargs hu
   cases hc
   simp only[Option.bind_eq_some_iff] at hu;obtain⟨t,h0,hu⟩:=hu;have ha:args= #[x]:=by apply Array.ext';simpa using hargs
   subst ha;exact sim_lenStr ho h0 hu hE hR (all_ok hok (by simp[operandsI])) he
  ·rename_i x k e hargs hu
   cases hc
   simp only[Option.bind_eq_some_iff] at hu;obtain⟨t,h0,hu⟩:=hu;have ha:args= #[x]:=by apply Array.ext';simpa using hargs
   subst ha;exact sim_lenM ho h0 hu hE hR (all_ok hok (by simp[operandsI])) he
  ·rename_i x n e hargs hu
   cases hc
   simp only[Option.bind_eq_some_iff] at hu;obtain⟨t,h0,hu⟩:=hu;have ha:args= #[x]:=by apply Array.ext';simpa using hargs
   subst ha;refine sim_const ?_ hR (.int _ _) he
   cases hxx:act.eval x<;>simp[execOp,ho,resolve,invoke,builtin,Builtin.len_,h0,run_underlying hu,goInt,hxx]
  ·rename_i x t' hargs hu
   split at hc
   ·rename_i n e hu2
    cases hc
    simp only[Option.bind_eq_some_iff] at hu;obtain⟨t,h0,hu⟩:=hu;have ha:args= #[x]:=by apply Array.ext';simpa using hargs
    subst ha;refine sim_const ?_ hR (.int _ _) he
    cases hxx:act.eval x<;>simp[execOp,ho,resolve,invoke,builtin,Builtin.len_,h0,run_underlying hu,run_underlying hu2,goInt,hxx]
   ·cases hc
  ·cases hc
 ·rename_i args argTypes ho
  cases hc
  exact sim_mx ho hE hR (fun x hx=>all_ok hok (by simp only[operandsI];exact hx)) he
 ·rename_i args argTypes ho
  cases hc
  exact sim_mn ho hE hR (fun x hx=>all_ok hok (by simp only[operandsI];exact hx)) he
 ·-- append
  rename_i args argTypes ho;split at hc
  ·rename_i s x t u hargs hat
   split at hc
   ·rename_i e e' ht hk
    split at hc
    ·rename_i ti z hti hz
     split at hc
     ·rename_i hb
      cases hc
      have ha:args= #[s,x]:=by apply Array.ext';simpa using hargs
      have hat':argTypes= #[t,u]:=by apply Array.ext';simpa using hat
      subst ha;exact sim_app ho hat' ht hk hti hz hb.1 hb.2 hE hR (all_ok hok (by simp[operandsI])) (all_ok hok (by simp[operandsI])) he
     ·cases hc
    ·cases hc
   ·cases hc
  ·cases hc
 ·-- copy
  rename_i args argTypes ho;split at hc
  ·rename_i d s e hargs hu
   simp only[Option.bind_eq_some_iff] at hu hc;obtain⟨t,h0,hu⟩:=hu;obtain⟨n,hn,hc⟩:=hc;split at hc
   ·rename_i hpos
    cases hc
    have ha:args= #[d,s]:=by apply Array.ext';simpa using hargs
    subst ha;exact sim_copy ho h0 hu hn hpos hE hR (all_ok hok (by simp[operandsI])) (all_ok hok (by simp[operandsI])) he
   ·cases hc
  ·cases hc
 ·cases hc
end
end Go.Ev
end EvOp
section EvMach
namespace Go.Ev
variable {P :Program}
def Marks (μ:Mu) (w:World) (base:Nat) (ds:List Deferred):Prop:=
 ∃Ds:List Nat,ds=Ds.map (fun D=>{target:= .collected D,args:= #[]})∧Ds.Nodup∧
  ∀D∈Ds,base≤D∧w.heap[D]?=some (.deferred (some []))∧∀l i,μ l=some i→i.block≠D
theorem Marks.post {μ μ':Mu} {σ σ':Store} {w w':World} {base:Nat} {ds:List Deferred} (h:Marks μ w base ds) (hP:Post μ σ w μ' σ' w'):Marks μ' w' base ds:=by
 obtain⟨Ds,h1,h2,h3⟩:=h;refine⟨Ds,h1,h2,fun D hD=> ?_⟩
 obtain⟨g1,g2,g3⟩:=h3 D hD;have hlt:D<w.heap.size:=(Array.getElem?_eq_some_iff.1 g2).1
 refine⟨g1, ?_, ?_⟩
 ·rw[hP.keeps D hlt (fun l i hl hb=>absurd hb (g3 l i hl))];exact g2
 ·intro l i hl hb
  rcases hP.newd l i hl with h|h
  ·exact g3 l i h hb
  ·obtain⟨l₀,i₀,h0,hb0,_⟩:=hP.fresh l i hl (by omega) (hP.nro l h)
   exact g3 l₀ i₀ h0 (by omega)
section
variable {b :Frame} {a:Act} {k:List Item} {cs:List Frame} {w w':World} {ops:Array Oper} {i:Nat} {rest:List Nat} {o:Oper}
theorem step_value (ho:ops[i]?=some o) (hw:Region.wanted o (yielded ops a.tmps)=true) (hd:∀c,o.op≠ .defer c) {v:Value} (hr:(execOp a.eval o).run P w= .ok (.value v) w'):
  step P (lone (b.atR a (.inRegion ops (i::rest)::k)) cs w)= .next (lone (b.atR (a.put o.dst v) (.inRegion ops rest::k)) cs w'):=by
 have hfin:(b.atR a (.inRegion ops (i::rest)::k)).finish v=b.atR (a.put o.dst v) (.inRegion ops rest::k):=by
  rw[Frame.finish_atR,ho];rfl
 refine step_lone_go ?_
 rw[stepGR_op ho hw,Oper.semAt_eq _ _ _ hd,←hfin];simp[stepG.apply,Sem.runT_eq,hr,GStep.bare_after]
theorem step_skip' (ho:ops[i]?=some o) (hw:Region.wanted o (yielded ops a.tmps)=true) (hd:∀c,o.op≠ .defer c) (hr:(execOp a.eval o).run P w= .ok .skip w'):
  step P (lone (b.atR a (.inRegion ops (i::rest)::k)) cs w)= .next (lone (b.atR (a.put o.dst undef) (.inRegion ops rest::k)) cs w'):=by
 have hfin:(b.atR a (.inRegion ops (i::rest)::k)).finish undef=b.atR (a.put o.dst undef) (.inRegion ops rest::k):=by
  rw[Frame.finish_atR,ho];rfl
 refine step_lone_go ?_
 rw[stepGR_op ho hw,Oper.semAt_eq _ _ _ hd,←hfin];simp[stepG.apply,Sem.runT_eq,hr,GStep.bare_after]
theorem step_enter (ho:ops[i]?=some o) (hw:Region.wanted o (yielded ops a.tmps)=true) (hd:∀c,o.op≠ .defer c) {f:FuncId} {args:Array Value} (hr:(execOp a.eval o).run P w= .ok (.enter f args) w'):
  step P (lone (b.atR a (.inRegion ops (i::rest)::k)) cs w)= .next (lone (Frame.enter P f args .normal) (b.atR a (.inRegion ops (i::rest)::k)::cs) w'):=by
 refine step_lone_go ?_
 rw[stepGR_op ho hw,Oper.semAt_eq _ _ _ hd];simp[stepG.apply,Sem.runT_eq,hr,GStep.bare_after,Frame.atR]
theorem step_round (ho:ops[i]?=some o) (hw:Region.wanted o (yielded ops a.tmps)=true) (hd:∀c,o.op≠ .defer c) {l:Nat} {f:FuncId} {tmps:Array Value} {as bd:Code} (hr:(execOp a.eval o).run P w= .ok (.round l f tmps as bd) w'):
  step P (lone (b.atR a (.inRegion ops (i::rest)::k)) cs w)= .next (lone (Frame.round l f tmps as bd .normal) (b.atR a (.inRegion ops (i::rest)::k)::cs) w'):=by
 refine step_lone_go ?_
 rw[stepGR_op ho hw,Oper.semAt_eq _ _ _ hd];simp[stepG.apply,Sem.runT_eq,hr,GStep.bare_after,Frame.atR]
end
inductive Starts (P:Program) (μ:Mu) (w:World):Callee→List Value→Frame→Prop where
 |func (f:FuncId) (args:List Value):Starts P μ w (.func f) args (Frame.enter P f args.toArray .normal)
 |yield {l:Nat} {i:Img} {r:Loop} (args:List Value):μ l=some i→w.heap[i.block]?=some (.loop r)→
   Starts P μ w (.yield l) args (Frame.round i.block r.fn ((r.params.zip args.toArray).foldl (fun tmps (t,a)=>tmps.setIfInBounds t a) r.tmps) r.assign r.body .normal)
def Good (P:Program) (C:Caller):Prop:=
 ∀f args σ v σ',C f args σ=some (v,σ')→∀(μ:Mu) (w:World) (args':List Value) (fr:Frame),Rel P μ σ w→LR μ args args'→Starts P μ w f args' fr→
  ∀(c:Frame) (cs:List Frame),∃(μ':Mu) (w':World) (v':Value),Steps P (lone fr (c::cs) w) (lone (c.finish v') cs w')∧VR μ' v v'∧Rel P μ' σ' w'∧Post μ σ w μ' σ' w'
theorem compOp_cases {o:Oper} {i:I} (h:compOp P o=some i):(∃f args ats,i= .call f args∧o.op= .call {callee:= .value f,args:=args.toArray,argTypes:=ats})∨(compOp0 P o=some i∧∀f args,i≠ .call f args):=by
 unfold compOp at h;split at h
 ·rename_i f args ats ho
  cases h;exact .inl ⟨f,args.toList,ats,rfl,by rw[ho]⟩
 ·split at h
  ·cases h
  ·rename_i h1 h2
   refine .inr ⟨h,fun f args e=> ?_⟩
   subst e;exact h2 f args h
theorem compOp0_defer {o:Oper} {i:I} (h:compOp0 P o=some i):∀c,o.op≠ .defer c:=by
 intro c e;unfold compOp0 at h;rw[e] at h;simp at h
structure COK (P:Program) (C:Caller):Prop where
 good:Good P C
 funcs : ∀ f args σ r, C (.func f) args σ = some r → ∃ fn, P.funcs[f]? = some fn ∧ fn.body.isSome = true ∧ fn.name ≠ "runtime.NumGoroutine"
 yields:∀l args σ r,C (.yield l) args σ=some r→∃tm ps as b st pend,σ.get l=some (.loop tm ps as b st pend)∧ps.length=args.length
theorem callFunc_run {f : FuncId} {fn : Func} (hf : P.funcs[f]? = some fn) (hb : fn.body.isSome = true) (hn : fn.name ≠ "runtime.NumGoroutine") (args : Array Value) (w : World) : (callFunc f args).run P w = .ok (.enter f args) w := by
 have:fn.body.isNone=false:=by cases h:fn.body<;>simp_all
 simp only[callFunc,Sem.run_bind,run_program,Result.andThen_ok,hf];rw[if_neg (by simpa using hn),if_neg (by simp[this])]
 rfl
section
variable {b :Frame} {act:Act} {k:List Item} {cs:List Frame} {w:World} {ops:Array Oper} {i:Nat} {rest:List Nat} {o:Oper} {μ:Mu} {σ σ':Store} {a:Env} {v:Value} {C:Caller}
theorem op_steps (hC:COK P C) (ho:ops[i]?=some o) (hw:Region.wanted o (yielded ops act.tmps)=true) {ii:I} (hc:compOp P o=some ii) (hok:(operandsI ii).all okConst=true)
  (hE:EnvR μ a act.tmps) (hR:Rel P μ σ w) (he:evOp C ii a σ=some (v,σ')):
  ∃μ' w' v',Steps P (lone (b.atR act (.inRegion ops (i::rest)::k)) cs w) (lone (b.atR (act.put o.dst v') (.inRegion ops rest::k)) cs w')∧VR μ' v v'∧Rel P μ' σ' w'∧Post μ σ w μ' σ' w':=by
 rcases compOp_cases hc with⟨f,args,ats,rfl,hop⟩| ⟨hc0,hne⟩
 ·have hd:∀c,o.op≠ .defer c:=by rw[hop];simp
  simp only[operandsI,List.all_cons,Bool.and_eq_true] at hok;have hfv:=hE.eval hok.1;have hav:LR μ (args.map a.eval) (args.map act.eval):=L2.same args fun x hx=>hE.eval (all_ok hok.2 hx)
  have he:evCallV C (a.eval f) (args.map a.eval) σ=some (v,σ'):=he
  unfold evCallV at he;have hargs:(args.toArray.map act.eval)=(args.map act.eval).toArray:=by simp
  have fin:∀v',(b.atR act (.inRegion ops (i::rest)::k)).finish v'=b.atR (act.put o.dst v') (.inRegion ops rest::k):=by
   intro v';rw[Frame.finish_atR,ho];rfl
  split at he
  ·rename_i g first caps e
   rw[e] at hfv;obtain⟨f',a',b',q,hfr,h1,h2⟩:=hfv.of_func;cases hfr
   obtain⟨fn,hf1,hf2,hf3⟩:=hC.funcs _ _ _ _ he;have hrun:(execOp act.eval o).run P w= .ok (.enter g ((a'.toList++args.map act.eval++b'.toList).toArray)) w:=by
    have:=callFunc_run hf1 hf2 hf3 (a'++(args.toArray.map act.eval)++b') w
    have e2:(a'.toList++args.map act.eval++b'.toList).toArray=a'++(args.toArray.map act.eval)++b':=by apply Array.ext';simp
    rw[e2];simp only[execOp,hop,resolve,q,Deferred.ofValue,Sem.run_bind,Sem.run_pure,Result.andThen_ok,invoke,this]
   obtain⟨μ',w',v',hs,hv,hR',hP⟩:=hC.good _ _ _ _ _ he μ w _ _ hR ((h1.append hav).append h2) (.func g _) (b.atR act (.inRegion ops (i::rest)::k)) cs;rw[fin] at hs;exact⟨μ',w',v', .head (step_enter ho hw hd hrun) hs,hv,hR',hP⟩
  ·rename_i l first caps e
   split at he
   ·rename_i hz
    rw[e] at hfv;obtain⟨f',a',b',q,hfr,h1,h2⟩:=hfv.of_func;cases hfr
    rename_i il hil;have ha0:a'= #[]:=by
     have:=h1.length
     apply Array.ext'
     simp only[Array.length_toList] at this;have:a'.size=0:=by omega
     simpa using this
    subst ha0;have hrec:∃r,w.heap[il.block]?=some (.loop r)∧r.params.size=(args.map act.eval).length:=by
     obtain⟨tm,ps,as,bd,st,pend,hg,hl⟩:=hC.yields _ _ _ _ he;have:=hR.obj l il hil
     rw[hg] at this;obtain⟨_,_,r,hr,hlo⟩:=this;refine⟨r,hr, ?_⟩
     have h3:=hlo.params;rw[←Array.length_toList,h3,hl];simp
    obtain⟨r,hr,hps⟩:=hrec;have hget:(Instr.getLoop il.block).run P w= .ok r w:=by
     simp[Instr.getLoop,getObj,Sem.run,hr]
    have hrun:(execOp act.eval o).run P w= .ok (.round il.block r.fn ((r.params.zip (args.map act.eval).toArray).foldl (fun tmps (t,a)=>tmps.setIfInBounds t a) r.tmps) r.assign r.body) w:=by
     simp only[execOp,hop,resolve,q,Deferred.ofValue,Sem.run_bind,Sem.run_pure,Result.andThen_ok,invoke,Instr.yield,hget,hargs];simp[hps]
    obtain⟨μ',w',v',hs,hv,hR',hP⟩:=hC.good _ _ _ _ _ he μ w _ _ hR hav (.yield _ hil hr) (b.atR act (.inRegion ops (i::rest)::k)) cs;rw[fin] at hs;exact⟨μ',w',v', .head (step_round ho hw hd hrun) hs,hv,hR',hP⟩
   ·cases he
  ·cases he
 ·have hd:=compOp0_defer hc0
  have he:evI ii a σ=some (v,σ'):=by
   cases ii<;>first
    |exact he
    |exact absurd rfl (hne _ _)
  obtain⟨μ',w',v',nx,hr,hn,hv,hR',hP⟩:=sim_I hc0 hok hE hR he;rcases hn with rfl| ⟨rfl,rfl⟩
  ·exact⟨μ',w',v', .one (step_value ho hw hd hr),hv,hR',hP⟩
  ·exact⟨μ',w',undef, .one (step_skip' ho hw hd hr),hv,hR',hP⟩
theorem op_skipped (ho:ops[i]?=some o) (hw:Region.wanted o (yielded ops act.tmps)=false):
  Steps P (lone (b.atR act (.inRegion ops (i::rest)::k)) cs w) (lone (b.atR (act.put o.dst undef) (.inRegion ops rest::k)) cs w):=by
 have:=stepR_op_skip (P:=P) (b:=b) (a:=act) (k:=k) (cs:=cs) (w:=w) (ops:=ops) (i:=i) (rest:=rest) (by simp[ho,hw])
 simp only[ho,Option.bind_some] at this;exact .one this
theorem compOper_inv {ntmps:Nat} {eo:EOp} (h:compOper P ntmps ops o=some eo):
  ∃ii,(compOp P o=some ii∨ii= .stop)∧(operandsI ii).all okConst=true∧(∀d,o.dst=some d→d<ntmps)∧eo.dst=o.dst∧eo.op=ii∧eo.win=none∧
   ((o.guard=none∧eo.guard=none)∨∃j w t,o.guard=some (j,w)∧(ops[j]?).bind (·.dst)=some t∧eo.guard=some (t,w)∧t<ntmps):=by
 unfold compOper at h;split at h
 ·rename_i h1
  simp only[Bool.and_eq_true] at h1;simp only[Option.map_eq_some_iff] at h;obtain⟨g,hg,rfl⟩:=h;have hd:∀d,o.dst=some d→d<ntmps:=by
   intro d hd;have:=h1.2;rw[hd] at this;simpa[dstOk] using this
  have hii:compOp P o=some ((compOp P o).getD .stop)∨(compOp P o).getD .stop= .stop:=by
   cases hc:compOp P o with
   |none=>exact .inr rfl
   |some x=>exact .inl rfl
  refine⟨_,hii,h1.1,hd,rfl,rfl,rfl, ?_⟩
  unfold compGuard at hg;split at hg
  ·rename_i hgd;cases hg;exact .inl ⟨hgd,rfl⟩
  ·rename_i j w hgd
   split at hg
   ·rename_i t ht
    split at hg
    ·rename_i hlt;cases hg;exact .inr ⟨j,w,t,hgd,ht,rfl,hlt⟩
    ·cases hg
   ·cases hg
 ·cases h
theorem wanted_eq {ntmps:Nat} {eo:EOp} (h:compOper P ntmps ops o=some eo) (hE:EnvR μ a act.tmps) (hn:act.tmps.size=ntmps):
  wanted eo a=Region.wanted o (yielded ops act.tmps):=by
 obtain⟨ii,_,_,_,_,_,_,hg⟩:=compOper_inv h;unfold wanted Region.wanted;rcases hg with⟨h1,h2⟩| ⟨j,w,t,h1,h2,h3,hlt⟩
 ·rw[h1,h2]
 ·rw[h1,h3]
  simp only[yielded,h2,Option.bind_some];have hlt:t<act.tmps.size:=by rw[hn];exact hlt
  have ht:=hE t;have hg:act.tmps[t]?=some act.tmps[t]:=by simp[hlt]
  have hgd:act.tmps.getD t undef=act.tmps[t]:=by simp[hlt]
  rw[hgd] at ht;rw[hg];generalize act.tmps[t]=x at ht
  generalize a.get t=y at ht
  cases ht<;>simp
theorem envR_put {μ:Mu} {a:Env} {act:Act} {ntmps:Nat} (hE:EnvR μ a act.tmps) (hn:act.tmps.size=ntmps) {d:Option Tmp} (hd:∀x,d=some x→x<ntmps) {v v':Value} (hv:VR μ v v'):
  EnvR μ (a.put d v) (act.put d v').tmps∧(act.put d v').tmps.size=ntmps∧(act.put d v').defers=act.defers:=by
 cases d with
 |none=>exact⟨hE,hn,rfl⟩
 |some d=>
  have:=hE.put (d:=some d) (fun x hx=>by rw[hn];exact hd x hx) hv
  exact⟨this,by simp[Act.put,hn],rfl⟩
theorem reg_steps (hC:COK P C) {ntmps:Nat}:
  ∀(os:List Oper) (es:List EOp) (j:Nat) (a:Env) (σ:Store) (a':Env) (σ':Store) (μ:Mu) (act:Act) (w:World),
   ops.toList.drop j=os→os.mapM (compOper P ntmps ops)=some es→evOps C es a σ=some (a',σ')→EnvR μ a act.tmps→act.tmps.size=ntmps→Rel P μ σ w→
   ∃μ' act' w',Steps P (lone (b.atR act (.inRegion ops (List.range' j os.length)::k)) cs w) (lone (b.atR act' (.inRegion ops []::k)) cs w')∧EnvR μ' a' act'.tmps∧act'.tmps.size=ntmps∧act'.defers=act.defers∧Rel P μ' σ' w'∧Post μ σ w μ' σ' w'
 | [],es,j,a,σ,a',σ',μ,act,w,_,hm,he,hE,hn,hR=>by
  simp at hm;subst hm
  simp only[evOps,Option.some.injEq,Prod.mk.injEq] at he;obtain⟨rfl,rfl⟩:=he;exact⟨μ,act,w, .refl _ _,hE,hn,rfl,hR,Post.refl _ _ _⟩
 |o::os,es,j,a,σ,a',σ',μ,act,w,hdrop,hm,he,hE,hn,hR=>by
  simp only[List.mapM_cons,Option.bind_eq_bind,Option.bind_eq_some_iff,Option.pure_def,Option.some.injEq] at hm;obtain⟨eo,hco,es',hm',rfl⟩:=hm;have hoj:ops[j]?=some o:=by
   have:(ops.toList.drop j)[0]?=some o:=by rw[hdrop];rfl
   simpa using this
  have hdrop':ops.toList.drop (j+1)=os:=by
   have:=congrArg List.tail hdrop
   simpa using this
  have hwe:=wanted_eq hco hE hn;obtain⟨ii,hii,hok,hd,hdst,hop,_,_⟩:=compOper_inv hco;have hput:∀(μ₁:Mu) (act₁:Act) (v v':Value),EnvR μ₁ a act₁.tmps→act₁.tmps.size=ntmps→VR μ₁ v v'→EnvR μ₁ (a.put eo.dst v) (act₁.put o.dst v').tmps∧(act₁.put o.dst v').tmps.size=ntmps∧(act₁.put o.dst v').defers=act₁.defers:=by
   intro μ₁ act₁ v v' hE1 hn1 hv;rw[hdst];exact envR_put hE1 hn1 hd hv
  simp only[evOps] at he;rw[List.length_cons,List.range'_succ];split at he
  ·rename_i hw
   split at he
   ·rename_i v σ₁ hev
    rw[hop] at hev;have hc:compOp P o=some ii:=by
     rcases hii with h|h
     ·exact h
     ·subst h;simp[evOp,evI] at hev
    obtain⟨μ₁,w₁,v',hs,hv,hR1,hP1⟩:=op_steps (rest:=List.range' (j+1) os.length) (b:=b) (k:=k) (cs:=cs) hC hoj (by rw[←hwe];exact hw) hc hok hE hR hev
    obtain⟨q1,q2,q3⟩:=hput μ₁ act v v' (hE.mono hP1.ext) hn hv;obtain⟨μ₂,act₂,w₂,hs2,r1,r2,r3,r4,r5⟩:=reg_steps hC os es' (j+1) _ σ₁ a' σ' μ₁ _ w₁ hdrop' hm' he q1 q2 hR1;exact⟨μ₂,act₂,w₂,hs.trans hs2,r1,r2,r3.trans q3,r4,hP1.trans r5⟩
   ·cases he
  ·rename_i hw
   have hs:=op_skipped (P:=P) (rest:=List.range' (j+1) os.length) (b:=b) (k:=k) (cs:=cs) (w:=w) (act:=act) hoj (by rw[←hwe];simpa using hw)
   obtain⟨q1,q2,q3⟩:=hput μ act undefE undef hE hn (VR.undef _);obtain⟨μ₂,act₂,w₂,hs2,r1,r2,r3,r4,r5⟩:=reg_steps hC os es' (j+1) _ σ a' σ' μ _ w hdrop' hm' he q1 q2 hR;exact⟨μ₂,act₂,w₂,hs.trans hs2,r1,r2,r3.trans q3,r4,r5⟩
end
end Go.Ev
end EvMach
section EvDraw1
namespace Go.Ev
theorem evI_congr {op:I} {a a':Env} {σ:Store} (h:∀x∈operandsI op,a.eval x=a'.eval x):evI op a σ=evI op a' σ:=by
 cases op with
 |build z ps=>
  have:ps.map (fun x=>(x.1,x.2.1,a.eval x.2.2))=ps.map (fun x=>(x.1,x.2.1,a'.eval x.2.2)):=
   List.map_congr_left fun p hp=>by rw[h p.2.2 (by simp only[operandsI,List.mem_map];exact⟨p,hp,rfl⟩)]
  simp only[evI];rw[this]
 |bslice e n l z ps=>
  have:ps.map (fun x=>(x.1,x.2.1,a.eval x.2.2))=ps.map (fun x=>(x.1,x.2.1,a'.eval x.2.2)):=
   List.map_congr_left fun p hp=>by rw[h p.2.2 (by simp only[operandsI,List.mem_map];exact⟨p,hp,rfl⟩)]
  simp only[evI];rw[this]
 |mkf f fs cs=>
  have h1:fs.map a.eval=fs.map a'.eval:=List.map_congr_left fun p hp=>h p (by simp[operandsI,hp])
  have h2:cs.map a.eval=cs.map a'.eval:=List.map_congr_left fun p hp=>h p (by simp[operandsI,hp])
  simp only[evI];rw[h1,h2]
 |mx xs=>
  have h1:xs.map a.eval=xs.map a'.eval:=List.map_congr_left fun p hp=>h p (by simp[operandsI,hp])
  simp only[evI];rw[h1]
 |mn xs=>
  have h1:xs.map a.eval=xs.map a'.eval:=List.map_congr_left fun p hp=>h p (by simp[operandsI,hp])
  simp only[evI];rw[h1]
 |slcS e n x lo hi mx=>
  have hm:∀(y:Option Operand),(∀z,y=some z→z∈operandsI (.slcS e n x lo hi mx))→y.map a.eval=y.map a'.eval:=by
   intro y hy;cases y with
   |none=>rfl
   |some z=>simp[h z (hy z rfl)]
  simp only[evI];rw[h x (by simp[operandsI]),hm lo (by rintro z rfl;simp[operandsI]),hm hi (by rintro z rfl;simp[operandsI]),hm mx (by rintro z rfl;simp[operandsI])]
 |slcA e n x lo hi mx=>
  have hm:∀(y:Option Operand),(∀z,y=some z→z∈operandsI (.slcA e n x lo hi mx))→y.map a.eval=y.map a'.eval:=by
   intro y hy;cases y with
   |none=>rfl
   |some z=>simp[h z (hy z rfl)]
  simp only[evI];rw[h x (by simp[operandsI]),hm lo (by rintro z rfl;simp[operandsI]),hm hi (by rintro z rfl;simp[operandsI]),hm mx (by rintro z rfl;simp[operandsI])]
 |slcStr x lo hi=>
  have hm:∀(y:Option Operand),(∀z,y=some z→z∈operandsI (.slcStr x lo hi))→y.map a.eval=y.map a'.eval:=by
   intro y hy;cases y with
   |none=>rfl
   |some z=>simp[h z (hy z rfl)]
  simp only[evI];rw[h x (by simp[operandsI]),hm lo (by rintro z rfl;simp[operandsI]),hm hi (by rintro z rfl;simp[operandsI])]
 |call f args=>rfl
 |_=>
  simp only[operandsI,List.mem_cons,List.not_mem_nil,or_false,forall_eq_or_imp,forall_eq,false_implies,implies_true] at h;simp only[evI,h]
theorem evOp_congr {C:Caller} {op:I} {a a':Env} {σ:Store} (h:∀x∈operandsI op,a.eval x=a'.eval x):evOp C op a σ=evOp C op a' σ:=by
 cases op with
 |call f args=>
  simp only[evOp];rw[h f (by simp[operandsI]),List.map_congr_left fun x hx=>h x (by simp[operandsI,hx])]
 |pre m=>rfl
 |_=>exact evI_congr (σ:=σ) h
theorem evI_quiet {op:I} {a:Env} {σ σ':Store} {v:Value} (hl:op.loud=false) (h:evI op a σ=some (v,σ')):σ'=σ:=by
 cases op<;>simp only[I.loud,Bool.true_eq_false] at hl<;>simp only[evI] at h
 case look ks z g ok m k=>
  split at h
  ·split at h
   ·cases h
   ·split at h<;>simp_all
  ·cases h
 case slcS=>
  split at h
  ·split at h
   ·cases h
   ·simp only[Option.map_eq_some_iff,Prod.mk.injEq] at h;obtain⟨_,_,_,rfl⟩:=h;rfl
  ·cases h
 case slcA=>
  split at h
  ·split at h
   ·simp only[Option.map_eq_some_iff,Prod.mk.injEq] at h;obtain⟨_,_,_,rfl⟩:=h;rfl
   ·cases h
  ·cases h
 case slcStr=>
  split at h
  ·split at h
   ·cases h
   ·split at h
    ·cases h
    ·simp_all
  ·cases h
 case indexStr=>
  split at h
  ·split at h<;>simp_all
  ·cases h
 case lenM=>
  simp only[Option.map_eq_some_iff,Prod.mk.injEq] at h;obtain⟨_,_,_,rfl⟩:=h;rfl
 case build=>
  simp only[Option.map_eq_some_iff,Prod.mk.injEq] at h;obtain⟨_,_,_,rfl⟩:=h;rfl
 all_goals first
  |(simp only[Option.some.injEq,Prod.mk.injEq] at h;exact h.2.symm)
  |(simp only[Option.map_eq_some_iff,Prod.mk.injEq] at h;obtain⟨_,_,_,rfl⟩:=h;rfl)
  |(split at h
    ·first
     |(simp only[Option.some.injEq,Prod.mk.injEq] at h;exact h.2.symm)
     |(simp only[Option.map_eq_some_iff,Prod.mk.injEq] at h;obtain⟨_,_,_,rfl⟩:=h;rfl)
     |(split at h
       ·first
        |(simp only[Option.some.injEq,Prod.mk.injEq] at h;exact h.2.symm)
        |(simp only[Option.map_eq_some_iff,Prod.mk.injEq] at h;obtain⟨_,_,_,rfl⟩:=h;rfl)
       ·cases h)
    ·first
     |cases h
     |(simp only[Option.some.injEq,Prod.mk.injEq] at h;exact h.2.symm))
  |(split at h<;>simp_all)
  |cases h
theorem evI_pure {op:I} {a:Env} {σ σ' τ:Store} {v:Value} (hl:op.loud=false) (hk:op.looks=false) (h:evI op a σ=some (v,σ')):evI op a τ=some (v,τ):=by
 cases op<;>simp only[I.loud,Bool.true_eq_false] at hl<;>simp only[I.looks,Bool.true_eq_false] at hk<;>simp only[evI] at h ⊢
 case indexStr=>
  split at h
  ·split at h<;>simp_all
  ·cases h
 case slcStr=>
  split at h
  ·split at h
   ·cases h
   ·split at h
    ·cases h
    ·simp_all
  ·cases h
 case slcA=>
  split at h
  ·split at h
   ·rename_i h2;rw[if_pos h2];simp only[Option.map_eq_some_iff,Prod.mk.injEq] at h ⊢;obtain⟨x,h1,rfl,rfl⟩:=h;exact⟨_,h1,by simp⟩
   ·cases h
  ·cases h
 all_goals first
  |(simp only[Option.some.injEq,Prod.mk.injEq] at h ⊢;exact⟨h.1,trivial⟩)
  |(simp only[Option.map_eq_some_iff,Prod.mk.injEq] at h ⊢;obtain⟨x,h1,rfl,rfl⟩:=h;exact⟨_,h1,by simp⟩)
  |(split at h
    ·first
     |(simp only[Option.some.injEq,Prod.mk.injEq] at h ⊢;exact⟨h.1,trivial⟩)
     |(simp only[Option.map_eq_some_iff,Prod.mk.injEq] at h ⊢;obtain⟨x,h1,rfl,rfl⟩:=h;exact⟨_,h1,by simp⟩)
     |(split at h
       ·rename_i h2
        rw[if_pos h2]
        first
        |(simp only[Option.some.injEq,Prod.mk.injEq] at h ⊢;exact⟨h.1,trivial⟩)
        |(simp only[Option.map_eq_some_iff,Prod.mk.injEq] at h ⊢;obtain⟨x,h1,rfl,rfl⟩:=h;exact⟨_,h1,by simp⟩)
       ·cases h)
    ·first
     |cases h
     |(simp only[Option.some.injEq,Prod.mk.injEq] at h ⊢;exact⟨h.1,trivial⟩))
  |(split at h<;>simp_all)
  |cases h
theorem zip_all_eq {R:Value→Value→Bool}:∀(xs ys:List Value),(∀x∈xs,∀y,R x y=true→x=y)→xs.length=ys.length→(xs.zip ys).all (fun p=>R p.1 p.2)=true→xs=ys
 | [],[],_,_,_=>rfl
 | [],_::_,_,h,_=>by simp at h
 |_::_,[],_,h,_=>by simp at h
 |x::xs,y::ys,hr,hl,h=>by
  simp only[List.zip_cons_cons,List.all_cons,Bool.and_eq_true] at h;rw[hr x (by simp) y h.1,zip_all_eq xs ys (fun z hz=>hr z (by simp[hz])) (by simpa using hl) h.2]
theorem sameV_eq :∀(n:Nat) (x y:Value),sameV n x y=true→x=y
 |0,_,_,h=>by simp[sameV] at h
 |n+1,x,y,h=>by
  have hall:∀(xs ys:Array Value),(xs.size==ys.size&&(xs.toList.zip ys.toList).all fun(p,q)=>sameV n p q)=true→xs=ys:=by
   intro xs ys hh;simp only[Bool.and_eq_true,beq_iff_eq] at hh
   apply Array.ext'
   exact zip_all_eq (R:=sameV n) _ _ (fun x _ y hxy=>sameV_eq n x y hxy) (by simpa using hh.1) hh.2
  unfold sameV at h;simp only at h;split at h
  ·simp only[Bool.and_eq_true,beq_iff_eq] at h;rw[h.1,h.2]
  ·rw[beq_iff_eq] at h;rw[h]
  ·rename_i a b
   rw[beq_toListBytes,beq_iff_eq,ByteArray.toList_eq,ByteArray.toList_eq] at h;obtain⟨⟨x⟩⟩:=a;obtain⟨⟨y⟩⟩:=b;simp at h;rw[h]
  ·rw[beq_iff_eq] at h;rw[h]
  ·simp only[Bool.and_eq_true,beq_iff_eq] at h;rw[h.1.1,h.1.2,h.2]
  ·rw[beq_iff_eq] at h;rw[h]
  ·rfl
  ·rfl
  ·simp only[Bool.and_eq_true] at h;obtain⟨⟨h1,h2⟩,h3⟩:=h
   rw[beq_iff_eq] at h1;rw[h1,hall _ _ (Bool.and_eq_true_iff.2 h2),hall _ _ (Bool.and_eq_true_iff.2 h3)]
  ·simp only[Bool.and_eq_true] at h;obtain⟨⟨h1,h2⟩,h3⟩:=h
   rw[beq_iff_eq] at h1;rw[h1,hall _ _ (Bool.and_eq_true_iff.2 h2),hall _ _ (Bool.and_eq_true_iff.2 h3)]
  ·simp only[Bool.and_eq_true,beq_iff_eq] at h;rw[h.1,sameV_eq n _ _ h.2]
  ·rw[hall _ _ h]
  ·rw[hall _ _ h]
  ·cases h
theorem stable_at {hist:List Store} {op:I} {env:Env} {v:Value} {lo hi k:Nat} {σ:Store} (h:stable hist ⟨op,env,v,lo,hi⟩=true) (h1:lo≤k) (h2:k≤hi) (hk:hist[k]?=some σ):
  ∃σ',evI op env σ=some (v,σ'):=by
 unfold stable at h;simp only[List.all_eq_true,List.mem_range] at h;have:=h (k - lo) (by omega)
 rw[show lo+(k - lo)=k by omega,hk] at this
 simp only at this;split at this
 ·rename_i v' σ' he
  rw[sameV_eq _ _ _ this] at he;exact⟨σ',he⟩
 ·cases this
theorem cntTo_congr {p q:Nat→Bool}:∀{n:Nat},(∀i,i<n→p i=q i)→cntTo p n=cntTo q n
 |0,_=>rfl
 |n+1,h=>by
  simp only[cntTo];rw[cntTo_congr fun i hi=>h i (by omega),h n (by omega)]
theorem cntTo_mono {p q:Nat→Bool}:∀{n:Nat},(∀i,i<n→p i=true→q i=true)→cntTo p n≤cntTo q n
 |0,_=>Nat.le_refl _
 |n+1,h=>by
  have:=cntTo_mono (p:=p) (q:=q) (n:=n) fun i hi=>h i (by omega)
  have:=h n (by omega)
  simp only[cntTo];cases hp:p n
  ·simp;omega
  ·simp[this hp];omega
theorem cntTo_false {p:Nat→Bool} {j:Nat}:∀{n:Nat},j≤n→(∀i,j≤i→i<n→p i=false)→cntTo p n=cntTo p j
 |0,h,_=>by rw[Nat.le_zero.1 h]
 |n+1,h,hp=>by
  by_cases e:j=n+1
  ·rw[e]
  ·simp only[cntTo];rw[cntTo_false (by omega) fun i h1 h2=>hp i h1 (by omega),hp n (by omega) (by omega)];simp
theorem cntTo_add {p q:Nat→Bool} {j:Nat}:∀{n:Nat},j<n→p j=false→q j=true→(∀i,i<n→i≠j→p i=q i)→cntTo q n=cntTo p n+1
 |0,h,_,_,_=>by omega
 |n+1,h,hp,hq,ho=>by
  simp only[cntTo];by_cases e:j=n
  ·subst e;rw[hp,hq,cntTo_congr (p:=q) (q:=p) fun i hi=>(ho i (by omega) (by omega)).symm];simp
  ·rw[cntTo_add (p:=p) (by omega) hp hq fun i hi hne=>ho i (by omega) hne,ho n (by omega) (Ne.symm e)];omega
theorem cntTo_loud_cons (o:EOp) (es:List EOp):∀j,cntTo (loudAt (o::es)) (j+1)=(if o.op.loud then 1 else 0)+cntTo (loudAt es) j
 |0=>by simp[cntTo,loudAt]
 |j+1=>by
  show cntTo (loudAt (o::es)) (j+1)+(if loudAt (o::es) (j+1) then 1 else 0)=_
  rw[cntTo_loud_cons o es j];have:loudAt (o::es) (j+1)=loudAt es j:=by simp[loudAt]
  rw[this];simp only[cntTo];omega
def Entry (C:Caller) (base:Nat) (ls:List Look) (A:Nat→Env) (S:Nat→Store) (V:Nat→Value) (j:Nat) (o:EOp):Prop:=
 A (j+1)=(A j).put o.dst (V j)∧
 ((wanted o (A j)=true∧evOpD C base o.op (A j) (S j)=some (V j,S (j+1))∧∀lo hi,o.win=some (lo,hi)→o.op.looks=true→⟨o.op,A j,V j,lo,hi⟩∈ls)∨
  (wanted o (A j)=false∧V j=undefE∧S (j+1)=S j))
theorem evOpD_quiet {C:Caller} {base:Nat} {op:I} {a:Env} {σ σ':Store} {v:Value} (hl:op.loud=false) (h:evOpD C base op a σ=some (v,σ')):σ'=σ:=by
 cases op with
 |pre m=>simp only[evOpD,Option.some.injEq,Prod.mk.injEq] at h;exact h.2.symm
 |call f args=>simp[I.loud] at hl
 |_=>exact evI_quiet (a:=a) hl h
theorem evOpsD_log {C:Caller} {base:Nat}:∀(es:List EOp) (a:Env) (σ:Store) (h:List Store) (ls:List Look) (a':Env) (σ':Store) (h':List Store) (ls':List Look),
  evOpsD C base es a σ h ls=some (a',σ',h',ls')→h.getLast?=some σ→
  ∃(A:Nat→Env) (S:Nat→Store) (V:Nat→Value),A 0=a∧S 0=σ∧A es.length=a'∧S es.length=σ'∧(∀j o,es[j]?=some o→Entry C base ls' A S V j o)∧
   (∀j,j≤es.length→h'[h.length - 1+cntTo (loudAt es) j]?=some (S j))∧(∀l∈ls,l∈ls')∧(∃t,h'=h++t)
 | [],a,σ,h,ls,a',σ',h',ls',he,hl=>by
  simp only[evOpsD,Option.some.injEq,Prod.mk.injEq] at he;obtain⟨rfl,rfl,rfl,rfl⟩:=he;refine⟨fun _=>a,fun _=>σ,fun _=>undefE,rfl,rfl,rfl,rfl,by simp, ?_,fun _ h=>h,[],by simp⟩
  intro j hj;have:j=0:=by simpa using hj
  subst this;simp only[cntTo,Nat.add_zero];rw[List.getLast?_eq_getElem?] at hl
  exact hl
 |o::os,a,σ,h,ls,a',σ',h',ls',he,hl=>by
  have hne:h≠ []:=by intro e;subst e;simp at hl
  have hpos:0<h.length:=List.length_pos_iff.2 hne
  have key:∀(v₀:Value) (σ₀:Store) (ls₀:List Look),(o.op.loud=false→σ₀=σ)→evOpsD C base os (a.put o.dst v₀) σ₀ (if o.op.loud then h++ [σ₀] else h) ls₀=some (a',σ',h',ls')→
    ∃(A:Nat→Env) (S:Nat→Store) (V:Nat→Value),A 0=a∧S 0=σ∧V 0=v₀∧S 1=σ₀∧A 1=a.put o.dst v₀∧A (os.length+1)=a'∧S (os.length+1)=σ'∧(∀j o',os[j]?=some o'→Entry C base ls' A S V (j+1) o')∧
     (∀j,j≤os.length+1→h'[h.length - 1+cntTo (loudAt (o::os)) j]?=some (S j))∧(∀l∈ls₀,l∈ls')∧(∃t,h'=h++t):=by
   intro v₀ σ₀ ls₀ hq he;have hl0:(if o.op.loud then h++ [σ₀] else h).getLast?=some σ₀:=by
    cases hlo:o.op.loud
    ·simp[hq hlo,hl]
    ·simp
   obtain⟨A,S,V,h1,h2,h3,h4,h5,h6,h7,t,h8⟩:=evOpsD_log os _ σ₀ _ ls₀ a' σ' h' ls' he hl0;have hpre:∃t,h'=h++t:=by
    cases hlo:o.op.loud
    ·exact⟨t,by rw[h8,hlo];simp⟩
    ·exact⟨σ₀::t,by rw[h8,hlo];simp⟩
   refine⟨fun j=>match j with|0=>a|j+1=>A j,fun j=>match j with|0=>σ|j+1=>S j,fun j=>match j with|0=>v₀|j+1=>V j,rfl,rfl,rfl,h2,h1,h3,h4, ?_, ?_,h7,hpre⟩
   ·intro j o' ho';exact h5 j o' ho'
   ·intro j hj
    cases j with
    |zero=>
     simp only[cntTo,Nat.add_zero];obtain⟨t,rfl⟩:=hpre;rw[List.getLast?_eq_getElem?] at hl
     rw[List.getElem?_append_left (by omega)];exact hl
    |succ j=>
     have:=h6 j (by omega)
     rw[cntTo_loud_cons];simp only
     rw[←this];cases hlo:o.op.loud
     ·simp
     ·congr 1;simp;omega
  simp only[evOpsD] at he;split at he
  ·rename_i hw
   split at he
   ·rename_i v₀ σ₀ hev
    obtain⟨A,S,V,h1,h2,h3,h4,h5,h6,h7,h8,h9,h10,h11⟩:=key v₀ σ₀ _ (fun hq=>evOpD_quiet hq hev) he
    refine⟨A,S,V,h1,h2,h6,h7, ?_,h9, ?_,h11⟩
    ·intro j o' ho'
     cases j with
     |zero=>
      simp at ho';subst ho'
      refine⟨by rw[h5,h1,h3], .inl ⟨by rw[h1];exact hw,by rw[h1,h2,h3,h4];exact hev, ?_⟩⟩
      intro lo hi hwin hlk
      apply h10
      rw[hwin];simp[hlk,h1,h3]
     |succ j=>exact h8 j o' (by simpa using ho')
    ·intro l hl
     apply h10
     split
     ·split
      ·exact List.mem_cons_of_mem _ hl
      ·exact hl
     ·exact hl
   ·cases he
  ·rename_i hw
   obtain⟨A,S,V,h1,h2,h3,h4,h5,h6,h7,h8,h9,h10,h11⟩:=key undefE σ _ (fun _=>rfl) he
   refine⟨A,S,V,h1,h2,h6,h7, ?_,h9,h10,h11⟩
   intro j o' ho';cases j with
   |zero=>
    simp at ho';subst ho'
    exact⟨by rw[h5,h1,h3], .inr ⟨by rw[h1];simpa using hw,h3,by rw[h4,h2]⟩⟩
   |succ j=>exact h8 j o' (by simpa using ho')
end Go.Ev
end EvDraw1
section EvDraw2
namespace Go.Ev
variable {P :Program}
theorem mapM_inv {α β:Type} {f:α→Option β}:∀{l:List α} {r:List β},l.mapM f=some r→r.length=l.length∧∀(j:Nat) (x:α),l[j]?=some x→∃y,r[j]?=some y∧f x=some y
 | [],r,h=>by simp at h;subst h;simp
 |a::l,r,h=>by
  simp only[List.mapM_cons,Option.bind_eq_bind,Option.bind_eq_some_iff,Option.pure_def,Option.some.injEq] at h;obtain⟨y,hy,ys,hys,rfl⟩:=h;obtain⟨h1,h2⟩:=mapM_inv hys;refine⟨by simp[h1], ?_⟩
  intro j x hx;cases j with
  |zero=>simp at hx;subst hx;exact⟨y,rfl,hy⟩
  |succ j=>exact h2 j x (by simpa using hx)
theorem all_zipIdx {α:Type} {l:List α} {p:α×Nat→Bool} (h:l.zipIdx.all p=true) {j:Nat} {x:α} (hx:l[j]?=some x):p (x,j)=true:=
 List.all_eq_true.1 h (x,j) (List.mem_zipIdx_iff_getElem?.2 hx)
structure RD (P:Program) (ntmps:Nat) (ops:Array Oper) (pre:List (TypeId×List Value)) (es:List EOp) (B:List Nat):Prop where
 len:es.length=ops.size
 get:∀j o,ops[j]?=some o→∃eo0 eo,compOper P ntmps ops o=some eo0∧es[j]?=some eo∧eo.dst=eo0.dst∧eo.guard=eo0.guard∧eo0.op.isPre=false∧
  (eo.op=eo0.op∨∃m t z,eo.op= .pre m∧eo0.op= .alloc t z∧pre[m]?=some (t,z))∧(eo.op.looks=true→eo.win=some (winOf B es j)∨(winOf B es j).1=(winOf B es j).2)
 inj:∀(i j m:Nat) (eo eo':EOp),es[i]?=some eo→es[j]?=some eo'→eo.op= .pre m→eo'.op= .pre m→i=j
 back:∀j o,ops[j]?=some o→∀e∈o.after.toList,Region.binds .any e=true→e.on<j
 bef:∀j o,ops[j]?=some o→B.getD j 0=o.after.toList.foldl (fun s e=>if Region.binds .any e then s|||2^e.on|||B.getD e.on 0 else s) 0
 tmps:∀j eo t i p,es[j]?=some eo→t∈namesE eo→es[i]?=some p→p.dst=some t→i=j∨(B.getD (max i j) 0).testBit (min i j)=true
 chain:∀i j,loudAt es i=true→loudAt es j=true→i<j→(B.getD j 0).testBit i=true
theorem winOp_fields (B:List Nat) (es:List EOp) (e:EOp) (j:Nat):(winOp B es e j).dst=e.dst∧(winOp B es e j).op=e.op∧(winOp B es e j).guard=e.guard:=by
 unfold winOp;split<;>exact⟨rfl,rfl,rfl⟩
theorem compRegD_RD {ntmps:Nat} {ops:Array Oper} {pre:List (TypeId×List Value)} {es:List EOp} (h:compRegD P ntmps ops=some (pre,es)):∃B,RD P ntmps ops pre es B:=by
 unfold compRegD at h;split at h
 ·cases h
 ·rename_i es0 hes0
  obtain⟨hl0,hg0⟩:=mapM_inv hes0;simp only at h;split at h
  ·rename_i hchk
   simp only[Bool.and_eq_true] at hchk;obtain⟨⟨⟨hb,ht⟩,hc⟩,hp⟩:=hchk;simp only[Option.some.injEq,Prod.mk.injEq] at h;obtain⟨rfl,rfl⟩:=h;generalize hB:(Region.before ops).toList=B at*
   generalize hfl:floats B es0=fl at*
   have g1:∀j e0,es0[j]?=some e0→(es0.zipIdx.map fun(e,i)=>floatOp fl e i)[j]?=some (floatOp fl e0 j):=by
    intro j e0 he;simp[List.getElem?_map,List.getElem?_zipIdx,he]
   generalize hes':(es0.zipIdx.map fun(e,i)=>floatOp fl e i)=es' at*
   have l1:es'.length=es0.length:=by rw[←hes'];simp
   have g2:∀j e1,es'[j]?=some e1→(es'.zipIdx.map fun(e,i)=>winOp B es' e i)[j]?=some (winOp B es' e1 j):=by
    intro j e1 he;simp[List.getElem?_map,List.getElem?_zipIdx,he]
   have g2':∀j eo,(es'.zipIdx.map fun(e,i)=>winOp B es' e i)[j]?=some eo→∃e1,es'[j]?=some e1∧eo=winOp B es' e1 j:=by
    intro j eo he;cases h1:es'[j]? with
    |none=>simp[List.getElem?_map,List.getElem?_zipIdx,h1] at he
    |some e1=>rw[g2 j e1 h1] at he;cases he;exact⟨e1,rfl,rfl⟩
   have g1':∀j e1,es'[j]?=some e1→∃e0,es0[j]?=some e0∧e1=floatOp fl e0 j:=by
    intro j e1 he;have hj:j<es0.length:=by rw[←l1];exact(List.getElem?_eq_some_iff.1 he).1
    have h0:es0[j]?=some es0[j]:=by simp[hj]
    rw[g1 j _ h0] at he;cases he;exact⟨_,h0,rfl⟩
   have hld:loudAt (es'.zipIdx.map fun(e,i)=>winOp B es' e i)=loudAt es':=by
    funext j
    unfold loudAt;cases h1:es'[j]? with
    |none=>simp[List.getElem?_map,List.getElem?_zipIdx,h1]
    |some e1=>rw[g2 j e1 h1];simp only[(winOp_fields B es' e1 j).2.1]
   have hwin:∀j,winOf B (es'.zipIdx.map fun(e,i)=>winOp B es' e i) j=winOf B es' j:=by
    intro j;unfold winOf;rw[hld];simp
   have hfm:∀i m,fl.findIdx? (· ==i)=some m→fl[m]?=some i:=by
    intro i m hm;rw[List.findIdx?_eq_some_iff_getElem] at hm
    obtain⟨hlt,he,_⟩:=hm;simp only[beq_iff_eq] at he;rw[List.getElem?_eq_getElem hlt,he]
   have hpre:∀(j:Nat) (e0:EOp),es0[j]?=some e0→e0.op.isPre=false:=by
    intro j e0 he;have:=List.all_eq_true.1 hp e0 (List.mem_of_getElem? he)
    simpa using this
   have hfloat:∀(i m:Nat) (e0:EOp),fl.findIdx? (· ==i)=some m→es0[i]?=some e0→∃t z,e0.op= .alloc t z∧(preOf es0 fl)[m]?=some (t,z):=by
    intro i m e0 hm he;have hmi:=hfm i m hm;have hmem:i∈floats B es0:=by rw[hfl];exact List.mem_of_getElem? hmi
    unfold floats at hmem;simp only[List.mem_map,List.mem_filter,Bool.and_eq_true] at hmem;obtain⟨⟨e,i'⟩,⟨hz,hal,_⟩,rfl⟩:=hmem;rw[List.mem_zipIdx_iff_getElem?] at hz;simp only at hz hmi hal;rw[he] at hz;cases hz
    cases hop:e0.op<;>rw[hop] at hal<;>simp[I.isAlloc] at hal
    rename_i t z;refine⟨t,z,rfl, ?_⟩
    simp[preOf,List.getElem?_map,hmi,preAt,he,hop]
   refine⟨B,⟨by simp[l1,hl0], ?_, ?_, ?_, ?_, ?_, ?_⟩⟩
   ·intro j o ho
    obtain⟨e0,he0,hc0⟩:=hg0 j o (by simpa using ho)
    have h1:=g1 j e0 he0;have h2:=g2 j _ h1;obtain⟨w1,w2,w3⟩:=winOp_fields B es' (floatOp fl e0 j) j;refine⟨e0,_,hc0,h2, ?_, ?_,hpre j e0 he0, ?_, ?_⟩
    ·rw[w1];unfold floatOp;split<;>rfl
    ·rw[w3];unfold floatOp;split<;>rfl
    ·rw[w2];unfold floatOp
     split
     ·rename_i m hm
      obtain⟨t,z,h3,h4⟩:=hfloat j m e0 hm he0;exact .inr ⟨m,t,z,rfl,h3,h4⟩
     ·exact .inl rfl
    ·intro hlk
     rw[w2] at hlk;rw[hwin];by_cases hne:(winOf B es' j).1=(winOf B es' j).2
     ·exact .inr hne
     ·left
      unfold winOp;rw[if_pos (by simp[hlk,hne])]
   ·intro i j m eo eo' hi hj hm hm'
    obtain⟨e1,h1,rfl⟩:=g2' i eo hi;obtain⟨e2,h2,rfl⟩:=g2' j eo' hj;obtain⟨f1,k1,rfl⟩:=g1' i e1 h1;obtain⟨f2,k2,rfl⟩:=g1' j e2 h2;rw[(winOp_fields _ _ _ _).2.1] at hm hm';have p1:=hpre i f1 k1;have p2:=hpre j f2 k2;unfold floatOp at hm hm';split at hm
    ·rename_i m1 hm1
     split at hm'
     ·rename_i m2 hm2
      simp at hm hm';subst hm;subst hm'
      have a1:=hfm i _ hm1;have a2:=hfm j _ hm2;rw[a1] at a2;cases a2;rfl
     ·rw[hm'] at p2;simp[I.isPre] at p2
    ·rw[hm] at p1;simp[I.isPre] at p1
   ·intro j o ho e he hbd
    have:=all_zipIdx hb (j:=j) (x:=o) (by simpa using ho)
    simp only[Bool.and_eq_true] at this;have:=List.all_eq_true.1 this.1 e he
    simpa[hbd] using this
   ·intro j o ho
    have:=all_zipIdx hb (j:=j) (x:=o) (by simpa using ho)
    simp only[Bool.and_eq_true,beq_iff_eq] at this;exact this.2
   ·intro j eo t i p hj hn hi hd
    obtain⟨e1,h1,rfl⟩:=g2' j eo hj;obtain⟨e2,h2,rfl⟩:=g2' i p hi;have hn':t∈namesE e1:=by
     unfold namesE at hn ⊢;rw[(winOp_fields _ _ _ _).1,(winOp_fields _ _ _ _).2.1,(winOp_fields _ _ _ _).2.2] at hn;exact hn
    rw[(winOp_fields _ _ _ _).1] at hd;have:=all_zipIdx ht h1
    have:=List.all_eq_true.1 this t hn'
    have:=all_zipIdx this h2
    simp only[Bool.or_eq_true,bne_iff_ne,ne_eq,beq_iff_eq] at this;rcases this with(h|h)|h
    ·exact absurd hd h
    ·exact .inl h
    ·exact .inr h
   ·intro i j hi hj hij
    rw[hld] at hi hj;unfold loudAt at hi hj;split at hi
    ·rename_i e1 h1
     split at hj
     ·rename_i e2 h2
      have:=all_zipIdx hc h2
      simp only[Bool.or_eq_true,Bool.not_eq_true'] at this;rcases this with h|h
      ·rw[hj] at h;cases h
      ·have:=all_zipIdx h h1
       simp only[Bool.or_eq_true,Bool.not_eq_true',decide_eq_false_iff_not] at this;rcases this with(h|h)|h
       ·rw[hi] at h;cases h
       ·exact absurd hij h
       ·exact h
     ·cases hj
    ·cases hi
  ·cases h
def Down (ops:Array Oper) (L:Nat→Bool):Prop:=∀i o e,ops[i]?=some o→L i=true→e∈o.after.toList→Region.binds .any e=true→L e.on=true
theorem fold_bit {B:List Nat} {i:Nat}:∀(l:List Edge) (s:Nat),(l.foldl (fun s e=>if Region.binds .any e then s|||2^e.on|||B.getD e.on 0 else s) s).testBit i=true→
  s.testBit i=true∨∃e∈l,Region.binds .any e=true∧(e.on=i∨(B.getD e.on 0).testBit i=true)
 | [],s,h=> .inl h
 |e::l,s,h=>by
  simp only[List.foldl_cons] at h;rcases fold_bit l _ h with h1| ⟨e',he',h1,h2⟩
  ·split at h1
   ·rename_i hb
    rw[Nat.testBit_or,Nat.testBit_or,Bool.or_eq_true,Bool.or_eq_true] at h1;rcases h1 with(h1|h1)|h1
    ·exact .inl h1
    ·rw[Nat.testBit_two_pow] at h1
     exact .inr ⟨e,by simp,hb, .inl (by simpa using h1)⟩
    ·exact .inr ⟨e,by simp,hb, .inr h1⟩
   ·exact .inl h1
  ·exact .inr ⟨e',by simp[he'],h1,h2⟩
section
variable {ntmps :Nat} {ops:Array Oper} {pre:List (TypeId×List Value)} {es:List EOp} {B:List Nat}
theorem RD.closed (hD:RD P ntmps ops pre es B) {L:Nat→Bool} (hL:Down ops L):∀(j:Nat),j<ops.size→L j=true→∀i,(B.getD j 0).testBit i=true→L i=true:=by
 intro j;induction j using Nat.strongRecOn with
 |ind j ih=>
  intro hj hl i hb;have ho:ops[j]?=some ops[j]:=by simp[hj]
  rw[hD.bef j _ ho] at hb;rcases fold_bit _ _ hb with h| ⟨e,he,hbd,h⟩
  ·simp at h
  ·have hlt:=hD.back j _ ho e he hbd
   have hle:=hL j _ e ho hl he hbd;rcases h with rfl|h
   ·exact hle
   ·exact ih e.on hlt (by omega) hle i h
theorem RD.preds (hD:RD P ntmps ops pre es B) {L:Nat→Bool} (hL:Down ops L) {j:Nat} (hj:j<ops.size) (hr:∀e∈(ops[j]).after.toList,Region.binds .any e=true→L e.on=true):
  ∀i,(B.getD j 0).testBit i=true→L i=true:=by
 intro i hb;have ho:ops[j]?=some ops[j]:=by simp[hj]
 rw[hD.bef j _ ho] at hb;rcases fold_bit _ _ hb with h| ⟨e,he,hbd,h⟩
 ·simp at h
 ·have hlt:=hD.back j _ ho e he hbd
  have hle:=hr e he hbd;rcases h with rfl|h
  ·exact hle
  ·exact hD.closed hL e.on (by omega) hle i h
end
def envL (a:Env) (es:List EOp) (V:Nat→Value) (L:Nat→Bool):Nat→Env
 |0=>a
 |i+1=>if L i then(envL a es V L i).put ((es[i]?).bind (·.dst)) (V i) else envL a es V L i
theorem get_putE (a:Env) (d:Option Tmp) (v:Value) (t:Tmp):(a.put d v).get t=if d=some t then v else a.get t:=by
 cases d with
 |none=>simp[Env.put]
 |some d=>
  simp only[Env.put,Env.get_put,Option.some.injEq];by_cases h:t=d
  ·subst h;simp
  ·simp[h,Ne.symm h]
end Go.Ev
end EvDraw2
section EvDraw3
namespace Go.Ev
variable {P :Program}
theorem allocs_size :∀(pre:List (TypeId×List Value)) (σ:Store),(allocs pre σ).size=σ.size+pre.length
 | [],σ=>rfl
 |(e,z)::r,σ=>by simp only[allocs];rw[allocs_size r];simp[Store.size_alloc];omega
theorem allocs_old :∀(pre:List (TypeId×List Value)) (σ:Store) (l:Nat),l<σ.size→(allocs pre σ).get l=σ.get l
 | [],_,_,_=>rfl
 |(e,z)::r,σ,l,h=>by
  simp only[allocs];rw[allocs_old r _ l (by simp[Store.size_alloc];omega),Store.get_alloc,if_neg (by omega)]
theorem allocs_new :∀(pre:List (TypeId×List Value)) (σ:Store) (m:Nat) (e:TypeId) (z:List Value),pre[m]?=some (e,z)→(allocs pre σ).get (σ.size+m)=some (.cells .rw e z)
 | [],_,m,_,_,h=>by simp at h
 |(e,z)::r,σ,0,e',z',h=>by
  simp at h;obtain⟨rfl,rfl⟩:=h
  simp only[allocs];rw[allocs_old r _ _ (by simp[Store.size_alloc]),Store.get_alloc,if_pos (by omega)]
 |(e,z)::r,σ,m+1,e',z',h=>by
  simp only[allocs];have:=allocs_new r (σ.alloc (.cells .rw e z)) m e' z' (by simpa using h)
  rw[Store.size_alloc] at this;rw[show σ.size+(m+1)=σ.size+1+m by omega];exact this
theorem rel_allocs {μ:Mu} {σ:Store} {w:World} (h:Rel P μ σ w) (pre:List (TypeId×List Value)):Rel P μ (allocs pre σ) w∧Post μ σ w μ (allocs pre σ) w:=by
 have hold:∀l,l<σ.size→(allocs pre σ).get l=σ.get l:=allocs_old pre σ
 have hdd:∀l,l<σ.size→(Dead (allocs pre σ) l↔Dead σ l):=fun l hl=>by unfold Dead;rw[hold l hl]
 have hro:∀l,l<σ.size→(Ro (allocs pre σ) l↔Ro σ l):=fun l hl=>by unfold Ro;rw[hold l hl]
 have hsz:=allocs_size pre σ;refine⟨⟨fun l i hl=>by have:=h.dom l i hl;omega,h.bnd,fun l i hl=>by rw[hold l (h.dom l i hl)];exact h.obj l i hl, ?_⟩,⟨fun _ _ h=>h,fun _ _ h=> .inl h,by omega,hro,fun l hl _=>hold l hl, ?_,Nat.le_refl _,fun _ _ _=>rfl, ?_,fun _ r h=> ⟨r,h⟩, .refl w⟩⟩
 ·intro l₁ l₂ i₁ i₂ h1 h2 hne hd1 hd2 hr1
  exact h.apart l₁ l₂ i₁ i₂ h1 h2 hne (fun x=>hd1 ((hdd _ (h.dom _ _ h1)).2 x)) (fun x=>hd2 ((hdd _ (h.dom _ _ h2)).2 x)) (fun x=>hr1 ((hro _ (h.dom _ _ h1)).2 x))
 ·intro l hl
  rintro⟨e,c,hg⟩
  have hlt:=Store.get_lt hg;cases hp:pre[l - σ.size]? with
  |none=>rw[List.getElem?_eq_none_iff] at hp;omega
  |some p=>
   have:=allocs_new pre σ (l - σ.size) p.1 p.2 hp
   rw[show σ.size+(l - σ.size)=l by omega,hg] at this
   cases this
 ·intro l i hl _ hr
  exact⟨l,i,hl,rfl,fun x=>hr ((hro l (h.dom l i hl)).2 x)⟩
theorem rel_birth {μ:Mu} {σ:Store} {w:World} (h:Rel P μ σ w) {l:Nat} {e:TypeId} {z:List Value} (hl:μ l=none) (hg:σ.get l=some (.cells .rw e z)) (C:Array Value) (hC:LR μ z C.toList):
  Rel P (μ.ext l ⟨w.heap.size,0,z.length,C.size - z.length,P.cellsOf e⟩) σ (w.alloc (.cells C e)):=by
 have hx:∀k i,μ k=some i→(μ.ext l ⟨w.heap.size,0,z.length,C.size - z.length,P.cellsOf e⟩) k=some i:=by
  intro k i hk;have:k≠l:=by intro e;subst e;rw[hl] at hk;cases hk
  rw[Mu.ext_old this];exact hk
 have hsz:(w.alloc (.cells C e)).heap.size=w.heap.size+1:=by show(w.heap.push _).size=_;simp
 have hlen:=hC.length;refine⟨?_, ?_, ?_, ?_⟩
 ·intro k i hk
  by_cases e:k=l
  ·subst e;exact Store.get_lt hg
  ·rw[Mu.ext_old e] at hk;exact h.dom k i hk
 ·intro k i hk
  by_cases e:k=l
  ·subst e;rw[Mu.ext_new] at hk;cases hk;simp only;omega
  ·rw[Mu.ext_old e] at hk;have:=h.bnd k i hk;omega
 ·intro k i hk
  by_cases e:k=l
  ·subst e;rw[Mu.ext_new] at hk;cases hk;rw[hg]
   refine⟨rfl,rfl,C,_,(0,0),heap_push_new _ _, ?_, ?_,fun _=>rfl⟩
   ·simp only[Array.length_toList] at hlen;simp only;omega
   ·have:=LR.mono hx hC
    have e1:(C.toList.drop 0).take z.length=C.toList:=by rw[List.drop_zero,hlen,List.take_length]
    show LR _ z ((C.toList.drop 0).take z.length)
    rw[e1];exact this
  ·rw[Mu.ext_old e] at hk
   exact(h.obj k i hk).world hx (heap_push_old w _ _ (h.bnd k i hk))
 ·intro l₁ l₂ i₁ i₂ h1 h2 hne hd1 hd2 hr1
  by_cases e1:l₁=l
  ·subst e1;rw[Mu.ext_new] at h1;cases h1
   rw[Mu.ext_old (Ne.symm hne)] at h2
   left;have:=h.bnd l₂ i₂ h2;simp only;omega
  ·by_cases e2:l₂=l
   ·subst e2;rw[Mu.ext_new] at h2;cases h2
    rw[Mu.ext_old e1] at h1
    left;have:=h.bnd l₁ i₁ h1;simp only;omega
   ·rw[Mu.ext_old e1] at h1;rw[Mu.ext_old e2] at h2
    exact h.apart l₁ l₂ i₁ i₂ h1 h2 hne hd1 hd2 hr1
theorem Post.birth {μ₀ μ:Mu} {σ₀ σ:Store} {w₀ w:World} (hP:Post μ₀ σ₀ w₀ μ σ w) (hR0:Rel P μ₀ σ₀ w₀) {l:Nat} (hl:μ l=none) (hsz:σ₀.size≤l) (o:Obj) (j:Img) (hj:j.block=w.heap.size) (ho:∀C E fr,o= .cells C E fr→fr=(0,0):=by intro _ _ _ h;cases h<;>rfl):
  Post μ₀ σ₀ w₀ (μ.ext l j) σ (w.alloc o) where
 ext k i hk:=by
  have:k≠l:=by have:=hR0.dom k i hk;omega
  rw[Mu.ext_old this];exact hP.ext k i hk
 newd k i hk:=by
  by_cases e:k=l
  ·subst e;exact .inr hsz
  ·rw[Mu.ext_old e] at hk;exact hP.newd k i hk
 ssz:=hP.ssz
 ro:=hP.ro
 unb:=hP.unb
 nro:=hP.nro
 wsz:=by have:=hP.wsz;show _≤(w.heap.push o).size;simp;omega
 keeps b hb hr:=by
  rw[heap_push_old w o b (by have:=hP.wsz;omega)];exact hP.keeps b hb hr
 fresh k i hk hib hr:=by
  by_cases e:k=l
  ·subst e;rw[Mu.ext_new] at hk;cases hk;have:=hP.wsz;omega
  ·rw[Mu.ext_old e] at hk;exact hP.fresh k i hk hib hr
 loops b r hb:=by
  obtain⟨r1,h1⟩:=hP.loops b r hb;exact⟨r1,by rw[heap_push_old w o b (Array.getElem?_eq_some_iff.1 h1).1];exact h1⟩
 sam:=hP.sam.trans (.alloc w o ho)
theorem mem_ready' {ops:Array Oper} {listed:Array Bool} {j:Nat} (hsz:listed.size=ops.size):j∈Region.ready .any ops listed↔
  ∃o,ops[j]?=some o∧listed.getD j false=false∧∀e∈o.after.toList,Region.binds .any e=true→listed.getD e.on false=true:=by
 unfold Region.ready;simp only[List.mem_filter,List.mem_range,Bool.and_eq_true,Bool.not_eq_true'];constructor
 ·rintro⟨hj,h1,h2⟩
  have ho:ops[j]?=some ops[j]:=by simp[hj]
  refine⟨_,ho, ?_, ?_⟩
  ·have hlt:j<listed.size:=by omega
   simpa[hlt] using h1
  ·intro e he hb
   rw[ho] at h2;simp only[Option.map_some,Option.getD_some] at h2;rw[←Array.all_toList] at h2;have:=List.all_eq_true.1 h2 e he
   simpa[hb] using this
 ·rintro⟨o,ho,h1,h2⟩
  have hj:j<ops.size:=(Array.getElem?_eq_some_iff.1 ho).1
  refine⟨hj, ?_, ?_⟩
  ·have hlt:j<listed.size:=by omega
   simpa[hlt] using h1
  ·rw[ho]
   simp only[Option.map_some,Option.getD_some];rw[←Array.all_toList];refine List.all_eq_true.2 fun e he=> ?_
   cases hb:Region.binds .any e
   ·simp
   ·simp only[Bool.not_true,Bool.false_or];exact h2 e he hb
structure LG (C:Caller) (base:Nat) (es:List EOp) (ls:List Look) (hist:List Store) (a:Env) (A:Nat→Env) (S:Nat→Store) (V:Nat→Value):Prop where
 head:A 0=a
 entry:∀j o,es[j]?=some o→Entry C base ls A S V j o
 hists:∀j,j≤es.length→hist[cntTo (loudAt es) j]?=some (S j)
 stab:∀l∈ls,stable hist l=true
structure J (P:Program) (ntmps:Nat) (ops:Array Oper) (pre:List (TypeId×List Value)) (es:List EOp) (hist:List Store) (a:Env) (V:Nat→Value) (μ₀:Mu) (σ₀:Store) (w₀:World) (defers:List Deferred)
  (listed:Array Bool) (act:Act) (w:World) (μ:Mu):Prop where
 lsz:listed.size=ops.size
 down:Down ops (fun i=>listed.getD i false)
 env:EnvR μ (envL a es V (fun i=>listed.getD i false) es.length) act.tmps
 tsz:act.tmps.size=ntmps
 dfs:act.defers=defers
 st:∃σ,hist[cntTo (fun i=>loudAt es i&&listed.getD i false) es.length]?=some σ∧Rel P μ σ w∧Post μ₀ σ₀ w₀ μ σ w∧
  ∀i m eo,es[i]?=some eo→eo.op= .pre m→listed.getD i false=false→μ (σ₀.size+m)=none∧∃t z,pre[m]?=some (t,z)∧σ.get (σ₀.size+m)=some (.cells .rw t z)
section
variable {ntmps :Nat} {ops:Array Oper} {pre:List (TypeId×List Value)} {es:List EOp} {B:List Nat} {C:Caller} {ls:List Look} {hist:List Store} {a:Env} {A:Nat→Env} {S:Nat→Store} {V:Nat→Value}
 {μ₀:Mu} {σ₀:Store} {w₀:World} {defers:List Deferred} {listed:Array Bool} {act:Act} {w:World} {μ:Mu} {b:Frame} {k:List Item} {cs:List Frame}
theorem getD_set {listed:Array Bool} {j:Nat} (hj:j<listed.size) (i:Nat):(listed.setIfInBounds j true).getD i false=if i=j then true else listed.getD i false:=by
 by_cases e:i=j
 ·subst e;simp[hj]
 ·simp[Array.getElem?_setIfInBounds_ne (Ne.symm e),e]
theorem envL_put {L L':Nat→Bool} {j:Nat} {eo:EOp} (he:es[j]?=some eo) (hL:L j=false) (hL':∀i,L' i=if i=j then true else L i) {t:Tmp}
  (hno:eo.dst=some t→∀i,j<i→L i=true→(es[i]?).bind (·.dst)≠some t):∀i,(envL a es V L' i).get t=if j<i∧eo.dst=some t then V j else(envL a es V L i).get t
 |0=>by simp[envL]
 |i+1=>by
  simp only[envL];have ih:=envL_put he hL hL' hno i;by_cases e:i=j
  ·subst e
   rw[hL' i,if_pos rfl,if_pos rfl,hL,get_putE,he,ih];simp
  ·rw[hL' i,if_neg e]
   cases hl:L i
   ·simp only[Bool.false_eq_true,if_false]
    rw[ih];have:(j<i+1∧eo.dst=some t)↔(j<i∧eo.dst=some t):=by
     constructor
     ·rintro⟨h1,h2⟩;exact⟨by omega,h2⟩
     ·rintro⟨h1,h2⟩;exact⟨by omega,h2⟩
    by_cases hh:j<i∧eo.dst=some t
    ·rw[if_pos hh,if_pos (this.2 hh)]
    ·rw[if_neg hh,if_neg (fun x=>hh (this.1 x))]
   ·simp only[if_true]
    rw[get_putE,get_putE,ih];by_cases hd:(es[i]?).bind (·.dst)=some t
    ·rw[if_pos hd,if_pos hd]
     split
     ·rename_i h;exact absurd hd (hno h.2 i (by omega) hl)
     ·rfl
    ·rw[if_neg hd,if_neg hd]
     have:(j<i+1∧eo.dst=some t)↔(j<i∧eo.dst=some t):=by
      constructor
      ·rintro⟨h1,h2⟩;exact⟨by omega,h2⟩
      ·rintro⟨h1,h2⟩;exact⟨by omega,h2⟩
     by_cases hh:j<i∧eo.dst=some t
     ·rw[if_pos hh,if_pos (this.2 hh)]
     ·rw[if_neg hh,if_neg (fun x=>hh (this.1 x))]
theorem envL_name {L:Nat→Bool} {j:Nat} {t:Tmp} (hA0:A 0=a) (hA:∀i o,es[i]?=some o→A (i+1)=(A i).put o.dst (V i)) (hjn:j≤es.length)
  (h1:∀i p,i<j→es[i]?=some p→p.dst=some t→L i=true) (h2:∀i p,j≤i→es[i]?=some p→p.dst=some t→L i=false):
  ∀n,j≤n→n≤es.length→(envL a es V L n).get t=(A j).get t:=by
 have low:∀i,i≤j→(envL a es V L i).get t=(A i).get t:=by
  intro i;induction i with
  |zero=>intro _;simp[envL,hA0]
  |succ i ih=>
   intro hi;have hlt:i<es.length:=by omega
   have he:es[i]?=some es[i]:=by simp[hlt]
   rw[hA i _ he,get_putE];simp only[envL];by_cases hd:(es[i]).dst=some t
   ·rw[h1 i _ (by omega) he hd,if_pos rfl,get_putE,he];simp[hd]
   ·rw[if_neg hd]
    cases hl:L i
    ·simp only[Bool.false_eq_true,if_false];exact ih (by omega)
    ·simp only[if_true];rw[get_putE,he];simp only[Option.bind_some,if_neg hd];exact ih (by omega)
 intro n;induction n with
 |zero=>intro hj _;have:j=0:=by omega
        subst this;exact low 0 (Nat.le_refl _)
 |succ n ih=>
  intro hj hn;by_cases e:j=n+1
  ·subst e;exact low _ (Nat.le_refl _)
  ·have hlt:n<es.length:=by omega
   have he:es[n]?=some es[n]:=by simp[hlt]
   simp only[envL];rw[←ih (by omega) (by omega)]
   by_cases hd:(es[n]).dst=some t
   ·rw[h2 n _ (by omega) he hd];simp
   ·cases hl:L n
    ·simp
    ·simp only[if_true];rw[get_putE,he];simp only[Option.bind_some,if_neg hd]
theorem alloc_inv {o:Oper} {t:TypeId} {z:List Value} (h:compOp0 P o=some (.alloc t z)):o.op= .alloc t∧zeroT P t=some z:=by
 unfold compOp0 at h;split at h
 case h_4=>
  rename_i e ho;simp only[Option.map_eq_some_iff] at h;obtain⟨z',h1,h2⟩:=h;cases h2
  exact⟨ho,h1⟩
 all_goals (exfalso;revert h)
 all_goals (repeat' split)
 all_goals (first|(intro h;cases h;done)|(simp;done)|skip)
 all_goals (first|(simp[cmpI];done)|skip)
 all_goals (first|(unfold cmpI;repeat' split)|skip)
 all_goals (first|(intro h;cases h;done)|(simp;done)|skip)
 all_goals (cases sizeT P _<;>simp)
set_option maxHeartbeats 1000000 in
theorem draw_step (hC:COK P C) (hD:RD P ntmps ops pre es B) (hG:LG C σ₀.size es ls hist a A S V) (hR0:Rel P μ₀ σ₀ w₀) (hJ:J P ntmps ops pre es hist a V μ₀ σ₀ w₀ defers listed act w μ) {j:Nat} (hj:j∈Region.ready .any ops listed) (rest:List Nat):
  ∃μ' act' w',Steps P (lone (b.atR act (.inRegion ops (j::rest)::k)) cs w) (lone (b.atR act' (.inRegion ops rest::k)) cs w')∧J P ntmps ops pre es hist a V μ₀ σ₀ w₀ defers (listed.setIfInBounds j true) act' w' μ':=by
 obtain⟨o,ho,hlj,hrd⟩:=(mem_ready' hJ.lsz).1 hj;have hjn:j<ops.size:=(Array.getElem?_eq_some_iff.1 ho).1
 have hoj:ops[j]=o:=(Array.getElem?_eq_some_iff.1 ho).2
 have hjl:j<listed.size:=by rw[hJ.lsz];exact hjn
 have hje:j<es.length:=by rw[hD.len];exact hjn
 obtain⟨eo0,eo,hco,heo,hdst,hgd,hnp,hop,hwin⟩:=hD.get j o ho;generalize hL:(fun i=>listed.getD i false)=L at*
 have hLi:∀i,listed.getD i false=L i:=fun i=>congrFun hL i
 have hLj:L j=false:=by rw[←hLi];exact hlj
 have hdown:Down ops L:=by rw[←hL];exact hJ.down
 have hL'i:∀i,(listed.setIfInBounds j true).getD i false=if i=j then true else L i:=fun i=>by rw[getD_set hjl,hLi]
 have hpreds:∀i,(B.getD j 0).testBit i=true→L i=true:=hD.preds hdown hjn (fun e he hb=>by rw[←hLi];rw[hoj] at he;exact hrd e he hb)
 have hafter:∀i,i<ops.size→(B.getD i 0).testBit j=true→L i=false:=by
  intro i hi hb;cases h:L i with
  |false=>rfl
  |true=>have:=hD.closed hdown i hi h j hb;rw[hLj] at this;cases this
 have hA:∀i o,es[i]?=some o→A (i+1)=(A i).put o.dst (V i):=fun i o h=>(hG.entry i o h).1
 have hilt:∀{i:Nat} {p:EOp},es[i]?=some p→i<ops.size:=fun h=>by rw[←hD.len];exact(List.getElem?_eq_some_iff.1 h).1
 have hw1:∀t,t∈namesE eo→∀i p,i<j→es[i]?=some p→p.dst=some t→L i=true:=by
  intro t ht i p hij hp hd;rcases hD.tmps j eo t i p heo ht hp hd with h|h
  ·omega
  ·rw[Nat.max_eq_right (by omega),Nat.min_eq_left (by omega)] at h;exact hpreds i h
 have hw2:∀t,t∈namesE eo→∀i p,j≤i→es[i]?=some p→p.dst=some t→L i=false:=by
  intro t ht i p hij hp hd;by_cases e:i=j
  ·subst e;exact hLj
  ·rcases hD.tmps j eo t i p heo ht hp hd with h|h
   ·omega
   ·rw[Nat.max_eq_left (by omega),Nat.min_eq_right (by omega)] at h;exact hafter i (hilt hp) h
 have hname:∀t,t∈namesE eo→(envL a es V L es.length).get t=(A j).get t:=fun t ht=>
  envL_name hG.head hA (by omega) (hw1 t ht) (hw2 t ht) es.length (by omega) (Nat.le_refl _)
 generalize hEL:envL a es V L es.length=EL at*
 have hEnv:EnvR μ EL act.tmps:=by rw[←hEL,←hL];exact hJ.env
 obtain⟨ii,hii,hok,hd,hdst0,hop0,_,hg0⟩:=compOper_inv hco;have hwanted:wanted eo (A j)=Region.wanted o (yielded ops act.tmps):=by
  rw[←wanted_eq hco hEnv hJ.tsz];unfold wanted;rw[hgd];cases hq:eo0.guard with
  |none=>rfl
  |some p=>
   obtain⟨t,wv⟩:=p;simp only
   rw[hname t (by simp[namesE,hgd,hq])]
 have heval:∀x∈operandsI eo.op,(A j).eval x=EL.eval x:=by
  intro x hx;cases x with
  |tmp t=>
   simp only[Env.eval];rw[hname t];simp only[namesE,List.mem_append,List.mem_filterMap];exact .inr (.inr ⟨_,hx,rfl⟩)
  |_=>rfl
 have next:∀(μ₁:Mu) (w₁:World) (v':Value),(∀l i,μ l=some i→μ₁ l=some i)→VR μ₁ (V j) v'→
   (∃σ,hist[cntTo (fun i=>loudAt es i&&if i=j then true else L i) es.length]?=some σ∧Rel P μ₁ σ w₁∧Post μ₀ σ₀ w₀ μ₁ σ w₁∧
    ∀i m eo,es[i]?=some eo→eo.op= .pre m→(if i=j then true else L i)=false→μ₁ (σ₀.size+m)=none∧∃t z,pre[m]?=some (t,z)∧σ.get (σ₀.size+m)=some (.cells .rw t z))→
   J P ntmps ops pre es hist a V μ₀ σ₀ w₀ defers (listed.setIfInBounds j true) (act.put o.dst v') w₁ μ₁:=by
  intro μ₁ w₁ v' hx hv hst;have hLL:(fun i=>(listed.setIfInBounds j true).getD i false)=fun i=>if i=j then true else L i:=funext hL'i
  obtain⟨q1,q2,q3⟩:=envR_put (d:=o.dst) (hEnv.mono hx) hJ.tsz hd hv
  refine⟨by simp[hJ.lsz], ?_, ?_,q2,by rw[q3];exact hJ.dfs, ?_⟩
  ·rw[hLL]
   intro i o' e ho' hl he hb;simp only at hl ⊢;split at hl
   ·rename_i e1;subst e1
    rw[ho] at ho';cases ho'
    have h1:=hrd e he hb;have:e.on≠i:=by have:=hD.back i o ho e he hb;omega
    rw[if_neg this,←hLi];exact h1
   ·have h1:=hdown i o' e ho' hl he hb
    split
    ·rfl
    ·exact h1
  ·rw[hLL]
   intro t
   have:=envL_put (a:=a) (V:=V) (es:=es) (L:=L) (L':=fun i=>if i=j then true else L i) heo hLj (fun i=>rfl) (t:=t) (by
    intro hdt i hji hl hb;cases hp:es[i]? with
    |none=>rw[hp] at hb;cases hb
    |some p=>
     rw[hp] at hb;simp only[Option.bind_some] at hb;have:=hw2 t (by simp[namesE,hdt]) i p (by omega) hp hb
     rw[hl] at this;cases this) es.length
   rw[this,hEL];have q:=q1 t;rw[get_putE] at q;have e1:eo.dst=o.dst:=by rw[hdst,hdst0]
   rw[e1];by_cases h:o.dst=some t
   ·rw[if_pos h] at q;rw[if_pos ⟨hje,h⟩];exact q
   ·rw[if_neg h] at q;rw[if_neg (fun x=>h x.2)];exact q
  ·obtain⟨σ,s1,s2,s3,s4⟩:=hst
   refine⟨σ, ?_,s2,s3, ?_⟩
   ·rw[←s1,show(fun i=>loudAt es i&&(listed.setIfInBounds j true).getD i false)=(fun i=>loudAt es i&&if i=j then true else L i) from funext fun i=>by rw[hL'i]]
   ·intro i m eo hi hm hl
    exact s4 i m eo hi hm (by rw[←hL'i];exact hl)
 obtain⟨σ,hσ,hRel,hPost,hunb⟩:=hJ.st;rw[show(fun i=>loudAt es i&&listed.getD i false)=(fun i=>loudAt es i&&L i) from funext fun i=>by rw[hLi]] at hσ
 have hloudj:loudAt es j=eo.op.loud:=by simp[loudAt,heo]
 have hcq:loudAt es j=false→cntTo (fun i=>loudAt es i&&if i=j then true else L i) es.length=cntTo (fun i=>loudAt es i&&L i) es.length:=by
  intro hq;refine cntTo_congr fun i _=> ?_
  by_cases e:i=j
  ·subst e;rw[hq];rfl
  ·rw[if_neg e]
 have hlt:∀{i:Nat},loudAt es i=true→i<ops.size:=by
  intro i hi;unfold loudAt at hi;split at hi
  ·rename_i e h;exact hilt h
  ·cases hi
 have hcl:loudAt es j=true→cntTo (fun i=>loudAt es i&&L i) es.length=cntTo (loudAt es) j∧cntTo (fun i=>loudAt es i&&if i=j then true else L i) es.length=cntTo (loudAt es) (j+1):=by
  intro hq;have hin:∀i,i<j→loudAt es i=true→L i=true:=fun i hi h=>hpreds i (hD.chain i j h hq hi)
  have hout:∀i,j<i→loudAt es i=true→L i=false:=fun i hi h=>hafter i (hlt h) (hD.chain j i hq h hi)
  have c1:cntTo (fun i=>loudAt es i&&L i) es.length=cntTo (loudAt es) j:=by
   rw[cntTo_false (j:=j) (by omega)]
   ·refine cntTo_congr fun i hi=> ?_
    cases h:loudAt es i
    ·rfl
    ·rw[hin i hi h];rfl
   ·intro i h1 h2
    cases h:loudAt es i
    ·rfl
    ·by_cases e:i=j
     ·subst e;rw[hLj];rfl
     ·rw[hout i (by omega) h];rfl
  refine⟨c1, ?_⟩
  rw[cntTo_add (p:=fun i=>loudAt es i&&L i) (j:=j) hje (by simp[hLj]) (by simp[hq]) (fun i _ hne=>by simp[hne]),c1]
  simp[cntTo,hq]
 obtain⟨_,hent⟩:=hG.entry j eo heo;have unbK:∀{μ₁:Mu} {σ₁:Store} {w₁:World},Post μ σ w μ₁ σ₁ w₁→∀i m eo,es[i]?=some eo→eo.op= .pre m→(if i=j then true else L i)=false→μ₁ (σ₀.size+m)=none∧∃t z,pre[m]?=some (t,z)∧σ₁.get (σ₀.size+m)=some (.cells .rw t z):=by
  intro μ₁ σ₁ w₁ hP i m eo' hi hm hl;split at hl
  ·cases hl
  ·obtain⟨u1,t,z,u2,u3⟩:=hunb i m eo' hi hm (by rw[hLi];exact hl)
   have hlt:=Store.get_lt u3;refine⟨?_,t,z,u2, ?_⟩
   ·cases hh:μ₁ (σ₀.size+m) with
    |none=>rfl
    |some im=>
     rcases hP.newd _ _ hh with h|h
     ·rw[u1] at h;cases h
     ·omega
   ·rw[hP.unb _ hlt u1];exact u3
 have hid:∀i m eo,es[i]?=some eo→eo.op= .pre m→(if i=j then true else L i)=false→μ (σ₀.size+m)=none∧∃t z,pre[m]?=some (t,z)∧σ.get (σ₀.size+m)=some (.cells .rw t z):=unbK (Post.refl _ _ _)
 rcases hent with⟨hw,hev,hlook⟩| ⟨hw,hv,hS⟩
 ·-- wanted
  rw[hwanted] at hw;rcases hop with hop| ⟨m,t,z,hpm,hal,hpz⟩
  ·-- its own
   have hnp':eo.op.isPre=false:=by rw[hop];exact hnp
   have hev':evOp C eo.op (A j) (S j)=some (V j,S (j+1)):=by
    revert hev hnp'
    cases eo.op<;>simp[evOpD,I.isPre]
   have hiieo:eo.op=ii:=by rw[hop,hop0]
   have hc:compOp P o=some ii:=by
    rcases hii with h|h
    ·exact h
    ·rw[hiieo,h] at hev';simp[evOp,evI] at hev'
   cases hlo:eo.op.loud
   ·-- not loud
    have hne:∀f args,eo.op≠ .call f args:=by
     intro f args e;rw[e] at hlo;cases hlo
    have hevI:∀(a:Env) (σ:Store),evOp C eo.op a σ=evI eo.op a σ:=by
     intro a σ;cases h:eo.op<;>first
      |rfl
      |exact absurd h (hne _ _)
    have hS:S (j+1)=S j:=by rw[hevI] at hev';exact evI_quiet hlo hev'
    have hnow:evOp C ii EL σ=some (V j,σ):=by
     rw[←hiieo,←evOp_congr heval,hevI];rw[hevI] at hev';cases hlk:eo.op.looks
     ·exact evI_pure hlo hlk hev'
     ·have hlo1:(winOf B es j).1≤cntTo (fun i=>loudAt es i&&L i) es.length:=by
       refine cntTo_mono fun i _ hi=> ?_
       simp only[Bool.and_eq_true] at hi ⊢;exact⟨hi.1,hpreds i hi.2⟩
      have hhi1:cntTo (fun i=>loudAt es i&&L i) es.length≤(winOf B es j).2:=by
       refine cntTo_mono fun i _ hi=> ?_
       simp only[Bool.and_eq_true,Bool.not_eq_true'] at hi ⊢;refine⟨hi.1, ?_⟩
       cases hb:(B.getD i 0).testBit j
       ·rfl
       ·have:=hafter i (hlt hi.1) hb;rw[hi.2] at this;cases this
      rcases hwin hlk with hwn|hwn
      ·have hmem:=hlook _ _ hwn hlk
       obtain⟨σ',hh⟩:=stable_at (hG.stab _ hmem) (k:=cntTo (fun i=>loudAt es i&&L i) es.length) hlo1 hhi1 hσ
       rw[evI_quiet hlo hh] at hh;exact hh
      ·-- but one place: that of the own order
       have hdj:Down ops (fun i=>decide (i<j)):=by
        intro i o e ho' hl he hb;have h1:=hD.back i o ho' e he hb;simp only[decide_eq_true_eq] at hl ⊢;omega
       have hpj:=hD.preds hdj hjn (fun e he hb=>by simpa using hD.back j o ho e (by rw[hoj] at he;exact he) hb)
       have c0:cntTo (fun i=>loudAt es i&&decide (i<j)) es.length=cntTo (loudAt es) j:=by
        rw[cntTo_false (j:=j) (by omega)]
        ·exact cntTo_congr fun i hi=>by simp[hi]
        ·intro i h1 h2;simp;omega
       have hlo2:(winOf B es j).1≤cntTo (loudAt es) j:=by
        rw[←c0];refine cntTo_mono fun i _ hi=> ?_
        simp only[Bool.and_eq_true] at hi ⊢;exact⟨hi.1,hpj i hi.2⟩
       have hhi2:cntTo (loudAt es) j≤(winOf B es j).2:=by
        rw[←c0];refine cntTo_mono fun i _ hi=> ?_
        simp only[Bool.and_eq_true,Bool.not_eq_true'] at hi ⊢;refine⟨hi.1, ?_⟩
        cases hb:(B.getD i 0).testBit j
        ·rfl
        ·have:=hD.closed hdj i (hlt hi.1) hi.2 j hb
         simp at this
       have hk:cntTo (fun i=>loudAt es i&&L i) es.length=cntTo (loudAt es) j:=by omega
       have hSj:σ=S j:=by
        rw[hk,hG.hists j (by omega)] at hσ;cases hσ;rfl
       rw[hSj];rw[hS] at hev';exact hev'
    obtain⟨μ',w',v',hs,hvv,hR',hP⟩:=op_steps (rest:=rest) (b:=b) (k:=k) (cs:=cs) hC ho hw hc hok hEnv hRel hnow
    refine⟨μ',_,w',hs,next μ' w' v' hP.ext hvv ⟨σ, ?_,hR',hPost.trans hP,unbK hP⟩⟩
    rw[hcq (by rw[hloudj];exact hlo)];exact hσ
   ·-- loud
    obtain⟨c1,c2⟩:=hcl (by rw[hloudj];exact hlo)
    have hSj:σ=S j:=by
     rw[c1,hG.hists j (by omega)] at hσ;cases hσ;rfl
    have hnow:evOp C ii EL σ=some (V j,S (j+1)):=by
     rw[←hiieo,←evOp_congr heval,hSj];exact hev'
    obtain⟨μ',w',v',hs,hvv,hR',hP⟩:=op_steps (rest:=rest) (b:=b) (k:=k) (cs:=cs) hC ho hw hc hok hEnv hRel hnow
    refine⟨μ',_,w',hs,next μ' w' v' hP.ext hvv ⟨S (j+1), ?_,hR',hPost.trans hP,unbK hP⟩⟩
    rw[c2];exact hG.hists (j+1) (by omega)
  ·-- a variable of the region's head
   have hlo:eo.op.loud=false:=by rw[hpm];rfl
   rw[hpm] at hev;simp only[evOpD,Option.some.injEq,Prod.mk.injEq] at hev;obtain⟨hVj,_⟩:=hev;obtain⟨u1,t',z',u2,u3⟩:=hunb j m eo heo hpm (by rw[hLi];exact hLj)
   rw[hpz] at u2;cases u2
   rw[hop0] at hal;subst hal;have hc:compOp P o=some (.alloc t z):=by
    rcases hii with h|h
    ·exact h
    ·cases h
   have hc0:compOp0 P o=some (.alloc t z):=by
    rcases compOp_cases hc with⟨_,_,_,h,_⟩|h
    ·cases h
    ·exact h.1
   obtain⟨hopo,hz⟩:o.op= .alloc t∧zeroT P t=some z:=alloc_inv hc0
   obtain⟨zv,hzr,hzc,_,hokz⟩:=zeroT_run hz w;have hrun:(execOp act.eval o).run P w= .ok (.value (.pointer (some ⟨w.heap.size,0,none⟩))) (w.alloc (.cells zv.cells t)):=by
    simp[execOp,hopo,Instr.alloc,hzr,newVar,newRow]
   have hlr:LR μ z zv.cells.toList:=by rw[hzc];exact okCells_LR hokz
   have hRb:=rel_birth hRel u1 u3 zv.cells hlr;have hPb:=hPost.birth hR0 u1 (by omega) (.cells zv.cells t) ⟨w.heap.size,0,z.length,zv.cells.size - z.length,P.cellsOf t⟩ rfl
   have hxb:∀l i,μ l=some i→(μ.ext (σ₀.size+m) ⟨w.heap.size,0,z.length,zv.cells.size - z.length,P.cellsOf t⟩) l=some i:=by
    intro l i hl;have:l≠σ₀.size+m:=by intro e;subst e;rw[u1] at hl;cases hl
    rw[Mu.ext_old this];exact hl
   have hvv:VR (μ.ext (σ₀.size+m) ⟨w.heap.size,0,z.length,zv.cells.size - z.length,P.cellsOf t⟩) (V j) (.pointer (some ⟨w.heap.size,0,none⟩)):=by
    rw[←hVj];exact VR.ptr (i:=⟨w.heap.size,0,z.length,zv.cells.size - z.length,P.cellsOf t⟩) 0 Mu.ext_new
   refine⟨_,_,_, .one (step_value ho hw (compOp0_defer hc0) hrun),next _ _ _ hxb hvv ⟨σ, ?_,hRb,hPb, ?_⟩⟩
   ·rw[hcq (by rw[hloudj];exact hlo)];exact hσ
   ·intro i m' eo' hi hm' hl
    obtain⟨k1,k2⟩:=hid i m' eo' hi hm' hl;refine⟨?_,k2⟩
    have:σ₀.size+m'≠σ₀.size+m:=by
     intro e;have:m'=m:=by omega
     subst this;have:=hD.inj i j m' eo' eo hi heo hm' hpm
     subst this;simp at hl
    rw[Mu.ext_old this];exact k1
 ·-- not wanted
  rw[hwanted] at hw;have hs:=op_skipped (P:=P) (rest:=rest) (b:=b) (k:=k) (cs:=cs) (w:=w) (act:=act) ho hw
  refine⟨μ,_,w,hs,next μ w undef (fun _ _ h=>h) (by rw[hv];exact VR.undef μ) ?_⟩
  cases hlo:eo.op.loud
  ·exact⟨σ,by rw[hcq (by rw[hloudj];exact hlo)];exact hσ,hRel,hPost,hid⟩
  ·obtain⟨c1,c2⟩:=hcl (by rw[hloudj];exact hlo)
   have hSj:σ=S j:=by
    rw[c1,hG.hists j (by omega)] at hσ;cases hσ;rfl
   exact⟨σ,by rw[c2,hG.hists (j+1) (by omega),hS,hSj],hRel,hPost,hid⟩
end
end Go.Ev
end EvDraw3
section EvDraw4
namespace Go.Ev
variable {P :Program}
section
variable {ntmps :Nat} {ops:Array Oper} {pre:List (TypeId×List Value)} {es:List EOp} {B:List Nat} {C:Caller} {ls:List Look} {hist:List Store} {a:Env} {A:Nat→Env} {S:Nat→Store} {V:Nat→Value}
 {μ₀:Mu} {σ₀:Store} {w₀:World} {defers:List Deferred} {b:Frame} {k:List Item} {cs:List Frame}
theorem all_of_none (hD:RD P ntmps ops pre es B) {listed:Array Bool} (hsz:listed.size=ops.size) (hr:Region.ready .any ops listed= []):∀i,i<ops.size→listed.getD i false=true:=by
 intro i;induction i using Nat.strongRecOn with
 |ind i ih=>
  intro hi;cases h:listed.getD i false with
  |true=>rfl
  |false=>
   have ho:ops[i]?=some ops[i]:=by simp[hi]
   have:i∈Region.ready .any ops listed:=(mem_ready' hsz).2 ⟨_,ho,h,fun e he hb=>by
    have:=hD.back i _ ho e he hb
    exact ih e.on this (by omega)⟩
   rw[hr] at this;cases this
theorem draw_loop (hC:COK P C) (hD:RD P ntmps ops pre es B) (hG:LG C σ₀.size es ls hist a A S V) (hR0:Rel P μ₀ σ₀ w₀):
  ∀(fuel t:Nat) (listed:Array Bool) (act:Act) (w:World) (μ:Mu),listed.toList.count false≤fuel→J P ntmps ops pre es hist a V μ₀ σ₀ w₀ defers listed act w μ→
  ∃μ' act' w' listed',Steps P (lone (b.atR act (.inRegion ops (Region.linearise.go .any ops fuel t listed [])::k)) cs w) (lone (b.atR act' (.inRegion ops []::k)) cs w')∧
   J P ntmps ops pre es hist a V μ₀ σ₀ w₀ defers listed' act' w' μ'∧∀i,i<ops.size→listed'.getD i false=true:=by
 intro fuel;induction fuel with
 |zero=>
  intro t listed act w μ hc hJ;refine⟨μ,act,w,listed,by simpa[Region.linearise.go] using Steps.refl _ _,hJ, ?_⟩
  intro i hi;cases h:listed.getD i false with
  |true=>rfl
  |false=>
   have hlt:i<listed.size:=by rw[hJ.lsz];exact hi
   have:false∈listed.toList:=by
    have h2:listed[i]=false:=by simpa[hlt] using h
    rw[←h2];simp
   have:=List.count_pos_iff.2 this
   omega
 |succ fuel ih=>
  intro t listed act w μ hc hJ;simp only[Region.linearise.go]
  change ∃μ' act' w' listed',Steps P (lone (b.atR act (.inRegion ops (match(Region.ready .any ops listed)[t%(Region.ready .any ops listed).length]? with
   |some i=>Region.linearise.go .any ops fuel (t/(Region.ready .any ops listed).length) (listed.setIfInBounds i true) [i]
   |none=> [].reverse)::k)) cs w) _∧_
  cases hi:(Region.ready .any ops listed)[t%(Region.ready .any ops listed).length]? with
  |none=>
   have hnil:Region.ready .any ops listed= []:=by
    cases hr:Region.ready .any ops listed with
    |nil=>rfl
    |cons x xs=>
     rw[hr] at hi;have hlt:t%(x::xs).length<(x::xs).length:=Nat.mod_lt _ (by simp)
     simp at hi
     simp at hlt
     omega
   exact⟨μ,act,w,listed,by simpa using Steps.refl _ _,hJ,all_of_none hD hJ.lsz hnil⟩
  |some i=>
   simp only[];rw[linearise_go_acc,List.reverse_singleton,List.singleton_append];have hmem:=List.mem_of_getElem? hi;obtain⟨μ₁,act₁,w₁,hs,hJ1⟩:=draw_step (b:=b) (k:=k) (cs:=cs) hC hD hG hR0 hJ hmem (Region.linearise.go .any ops fuel (t/(Region.ready .any ops listed).length) (listed.setIfInBounds i true) [])
   obtain⟨o,ho,hf,_⟩:=(mem_ready' hJ.lsz).1 hmem;have hlt:i<listed.size:=by rw[hJ.lsz];exact(Array.getElem?_eq_some_iff.1 ho).1
   have hfi:listed.toList[i]'(by simpa using hlt)=false:=by simpa[hlt] using hf
   have hcnt:(listed.setIfInBounds i true).toList.count false≤fuel:=by
    rw[Array.toList_setIfInBounds,List.count_set (by simpa using hlt),hfi,if_pos (by decide),if_neg (by decide)]
    omega
   obtain⟨μ₂,act₂,w₂,l₂,hs2,hJ2,hall⟩:=ih (t/(Region.ready .any ops listed).length) _ act₁ w₁ μ₁ hcnt hJ1;exact⟨μ₂,act₂,w₂,l₂,hs.trans hs2,hJ2,hall⟩
theorem envL_all (hA0:A 0=a) (hA:∀i o,es[i]?=some o→A (i+1)=(A i).put o.dst (V i)) {L:Nat→Bool} (hL:∀i,i<es.length→L i=true):∀n,n≤es.length→envL a es V L n=A n
 |0,_=>hA0.symm
 |n+1,h=>by
  have he:es[n]?=some es[n]:=by simp[show n<es.length by omega]
  simp only[envL];rw[hL n (by omega),if_pos rfl,envL_all hA0 hA hL n (by omega),hA n _ he,he];rfl
theorem regD_steps (hC:COK P C) {act:Act} {w:World} {μ:Mu} {σ σ':Store} {a':Env} (hc:compRegD P ntmps ops=some (pre,es)) (he:evRegD C pre es a σ=some (a',σ')) (hE:EnvR μ a act.tmps) (hn:act.tmps.size=ntmps) (hR:Rel P μ σ w) (t:Nat):
  ∃μ' act' w',Steps P (lone (b.atR act (.inRegion ops (Region.linearise .any ops t)::k)) cs w) (lone (b.atR act' (.inRegion ops []::k)) cs w')∧EnvR μ' a' act'.tmps∧act'.tmps.size=ntmps∧act'.defers=act.defers∧Rel P μ' σ' w'∧Post μ σ w μ' σ' w':=by
 obtain⟨B,hD⟩:=compRegD_RD hc;unfold evRegD at he;split at he
 ·rename_i a₁ σ₁ hist ls hev
  split at he
  ·rename_i hst
   cases he
   obtain⟨A,S,V,h1,h2,h3,h4,h5,h6,_,_⟩:=evOpsD_log _ _ _ _ _ _ _ _ _ hev (by simp)
   simp only[List.length_singleton,Nat.sub_self,Nat.zero_add] at h6;have hG:LG C σ.size es ls hist a A S V:=⟨h1,h5,h6,fun l hl=>List.all_eq_true.1 hst l hl⟩
   obtain⟨r1,r2⟩:=rel_allocs hR pre;have hf0:∀i,(Array.replicate ops.size false).getD i false=false:=by
    intro i;by_cases h:i<ops.size<;>simp[Array.getElem?_replicate,h]
   have hJ:J P ntmps ops pre es hist a V μ σ w act.defers (Array.replicate ops.size false) act w μ:=by
    refine⟨by simp, ?_, ?_,hn,rfl,allocs pre σ, ?_,r1,r2, ?_⟩
    ·intro i o e _ hl;simp only[hf0] at hl;cases hl
    ·have:∀n,envL a es V (fun i=>(Array.replicate ops.size false).getD i false) n=a:=by
      intro n;induction n with
      |zero=>rfl
      |succ n ih=>simp only[envL,hf0];simp only[Bool.false_eq_true,if_false];simpa[hf0] using ih
     rw[this];exact hE
    ·have:cntTo (fun i=>loudAt es i&&(Array.replicate ops.size false).getD i false) es.length=0:=by
      rw[cntTo_false (j:=0) (Nat.zero_le _) (fun i _ _=>by rw[hf0];simp)];rfl
     rw[this];have:=h6 0 (Nat.zero_le _)
     simp only[cntTo] at this;rw[this,h2]
    ·intro i m eo hi hm _
     have hil:i<ops.size:=by rw[←hD.len];exact(List.getElem?_eq_some_iff.1 hi).1
     obtain⟨eo0,eo',_,g2,_,_,g5,g6,_⟩:=hD.get i ops[i] (by simp[hil])
     rw[hi] at g2;cases g2
     rcases g6 with g| ⟨m',t',z',g7,g8,g9⟩
     ·rw[←g,hm] at g5;simp[I.isPre] at g5
     ·rw[hm] at g7;cases g7
      refine⟨?_,t',z',g9,allocs_new pre σ m t' z' g9⟩
      exact hR.none_size (by omega)
   obtain⟨μ',act',w',listed',hs,hJ',hall⟩:=draw_loop (b:=b) (k:=k) (cs:=cs) hC hD hG hR ops.size t _ act w μ (by
    have:=List.count_le_length (a:=false) (l:=(Array.replicate ops.size false).toList)
    simpa using this) hJ
   have hall':∀i,i<es.length→listed'.getD i false=true:=fun i hi=>hall i (by rw[←hD.len];exact hi)
   obtain⟨σ₂,s1,s2,s3,_⟩:=hJ'.st;have hσ:σ₂=σ':=by
    have:cntTo (fun i=>loudAt es i&&listed'.getD i false) es.length=cntTo (loudAt es) es.length:=cntTo_congr fun i hi=>by rw[hall' i hi];simp
    rw[this,h6 _ (Nat.le_refl _),h4] at s1;exact(Option.some.inj s1).symm
   subst hσ;refine⟨μ',act',w',hs, ?_,hJ'.tsz,hJ'.dfs,s2,s3⟩
   have:=hJ'.env
   rw[envL_all h1 (fun i o h=>(h5 i o h).1) hall' _ (Nat.le_refl _),h3] at this
   exact this
  ·cases he
 ·cases he
end
end Go.Ev
end EvDraw4
section EvCode
namespace Go.Ev
variable {P :Program}
def Reach (P:Program) (m:Machine) (b:Frame) (act:Act) (k:List Item) (cs:List Frame) (w:World):Ex→Prop
 | .norm=>Steps P m (lone (b.atR act k) cs w)
 | .exit id=>∃k₁,exitTo id k₁=exitTo id k∧Steps P m (lone (b.atR act (.code (.exit id)::k₁)) cs w)
 | .ret=>∃k₁,Steps P m (lone (b.atR act (.code .ret::k₁)) cs w)
theorem Reach.head {m m₁:Machine} {b:Frame} {act:Act} {k:List Item} {cs:List Frame} {w:World} {e:Ex} (h:Steps P m m₁) (h':Reach P m₁ b act k cs w e):Reach P m b act k cs w e:=by
 cases e with
 |norm=>exact h.trans h'
 |exit id=>obtain⟨k₁,h1,h2⟩:=h';exact⟨k₁,h1,h.trans h2⟩
 |ret=>obtain⟨k₁,h2⟩:=h';exact⟨k₁,h.trans h2⟩
theorem Reach.drop {m:Machine} {b:Frame} {act:Act} {k k':List Item} {cs:List Frame} {w:World} {e:Ex} (h:Reach P m b act k cs w e) (hn:e≠ .norm) (hk:∀id,e= .exit id→exitTo id k=exitTo id k'):Reach P m b act k' cs w e:=by
 cases e with
 |norm=>exact absurd rfl hn
 |exit id=>obtain⟨k₁,h1,h2⟩:=h;exact⟨k₁,h1.trans (hk id rfl),h2⟩
 |ret=>exact h
theorem stepR_scope {b:Frame} {a:Act} {k:List Item} {cs:List Frame} {w:World} {c:Code}:step P (lone (b.atR a (.code (.scope c)::k)) cs w)= .next (lone (b.atR a (.code c:: .inScope c::k)) cs w):=
 step_lone_go (by simp[stepG,stepG.exec,Frame.atR])
theorem stepR_inScope {b:Frame} {a:Act} {k:List Item} {cs:List Frame} {w:World} {c:Code}:step P (lone (b.atR a (.inScope c::k)) cs w)= .next (lone (b.atR a k) cs w):=
 step_lone_go (by simp[stepG,stepG.exec,Frame.atR])
def RoundOK (b:Frame) (w:World):Prop:=∀l,b.roundOf=some l→∃r,w.heap[l]?=some (.loop r)
theorem RoundOK.post {b:Frame} {μ μ':Mu} {σ σ':Store} {w w':World} (h:RoundOK b w) (hP:Post μ σ w μ' σ' w'):RoundOK b w':=by
 intro l hl;obtain⟨r,hr⟩:=h l hl;exact hP.loops l r hr
structure At (P:Program) (ntmps base:Nat) (b:Frame) (μ:Mu) (a:Env) (act:Act) (σ:Store) (w:World):Prop where
 env:EnvR μ a act.tmps
 size:act.tmps.size=ntmps
 rel:Rel P μ σ w
 marks:Marks μ w base act.defers
 base:base≤w.heap.size
 round:RoundOK b w
theorem At.next {ntmps base:Nat} {b:Frame} {μ μ':Mu} {a a':Env} {act act':Act} {σ σ':Store} {w w':World} (h:At P ntmps base b μ a act σ w) (hE:EnvR μ' a' act'.tmps) (hn:act'.tmps.size=ntmps) (hd:act'.defers=act.defers) (hR:Rel P μ' σ' w') (hP:Post μ σ w μ' σ' w'):At P ntmps base b μ' a' act' σ' w':=
 ⟨hE,hn,hR,by rw[hd];exact h.marks.post hP,Nat.le_trans h.base hP.wsz,h.round.post hP⟩
def Does (P:Program) (ntmps base:Nat) (b:Frame) (C:Caller) (n:Nat) (c:Code) (ec:EC):Prop:=
 ∀a σ e a' σ',evCode C n ec a σ=some (e,a',σ')→∀μ act w,At P ntmps base b μ a act σ w→∀k cs,
  ∃μ' act' w',Reach P (lone (b.atR act (.code c::k)) cs w) b act' k cs w' e∧At P ntmps base b μ' a' act' σ' w'∧Post μ σ w μ' σ' w'
theorem loop_steps {ntmps base:Nat} {b:Frame} {C:Caller} {n:Nat} {c:Code} {ec:EC} (h:Does P ntmps base b C n c ec):∀(f:Nat) (a:Env) (σ:Store) (e:Ex) (a':Env) (σ':Store),loopN (evCode C n ec) f a σ=some (e,a',σ')→
  ∀μ act w,At P ntmps base b μ a act σ w→∀k cs,∃μ' act' w',Reach P (lone (b.atR act (.inLoop c::k)) cs w) b act' k cs w' e∧At P ntmps base b μ' a' act' σ' w'∧Post μ σ w μ' σ' w'
 |0,a,σ,e,a',σ',he=>by simp[loopN] at he
 |f+1,a,σ,e,a',σ',he=>by
  intro μ act w hA k cs;simp only[loopN] at he;split at he
  ·rename_i a₁ σ₁ h1
   obtain⟨μ₁,act₁,w₁,r1,r2,r3⟩:=h _ _ _ _ _ h1 μ act w hA (.inLoop c::k) cs;obtain⟨μ₂,act₂,w₂,q1,q2,q3⟩:=loop_steps h f a₁ σ₁ e a' σ' he μ₁ act₁ w₁ r2 k cs;exact⟨μ₂,act₂,w₂,Reach.head (.head stepR_inLoop r1) q1,q2,r3.trans q3⟩
  ·rename_i hne
   obtain⟨μ₁,act₁,w₁,r1,r2,r3⟩:=h _ _ _ _ _ he μ act w hA (.inLoop c::k) cs;have hn:e≠ .norm:=by
    intro h;subst h;exact hne _ _ he
   exact⟨μ₁,act₁,w₁,Reach.head (.one stepR_inLoop) (r1.drop hn fun id _=>rfl),r2,r3⟩
theorem loop_first {ntmps base:Nat} {b:Frame} {C:Caller} {n:Nat} {c:Code} {ec:EC} (h:Does P ntmps base b C n c ec):∀(f:Nat) (a:Env) (σ:Store) (e:Ex) (a':Env) (σ':Store),loopN (evCode C n ec) f a σ=some (e,a',σ')→
  ∀μ act w,At P ntmps base b μ a act σ w→∀k cs,∃μ' act' w',Reach P (lone (b.atR act (.code (.loop c)::k)) cs w) b act' k cs w' e∧At P ntmps base b μ' a' act' σ' w'∧Post μ σ w μ' σ' w'
 |0,a,σ,e,a',σ',he=>by simp[loopN] at he
 |f+1,a,σ,e,a',σ',he=>by
  intro μ act w hA k cs;simp only[loopN] at he;split at he
  ·rename_i a₁ σ₁ h1
   obtain⟨μ₁,act₁,w₁,r1,r2,r3⟩:=h _ _ _ _ _ h1 μ act w hA (.inLoop c::k) cs;obtain⟨μ₂,act₂,w₂,q1,q2,q3⟩:=loop_steps h f a₁ σ₁ e a' σ' he μ₁ act₁ w₁ r2 k cs;exact⟨μ₂,act₂,w₂,Reach.head (.head stepR_loop r1) q1,q2,r3.trans q3⟩
  ·rename_i hne
   obtain⟨μ₁,act₁,w₁,r1,r2,r3⟩:=h _ _ _ _ _ he μ act w hA (.inLoop c::k) cs;have hn:e≠ .norm:=by
    intro h;subst h;exact hne _ _ he
   exact⟨μ₁,act₁,w₁,Reach.head (.one stepR_loop) (r1.drop hn fun id _=>rfl),r2,r3⟩
theorem Marks.push {μ:Mu} {w:World} {base:Nat} {ds:List Deferred} {σ:Store} (h:Marks μ w base ds) (hR:Rel P μ σ w) (hb:base≤w.heap.size):Marks μ (w.alloc (.deferred (some []))) base ({target:= .collected w.heap.size,args:= #[]}::ds):=by
 obtain⟨Ds,h1,h2,h3⟩:=h;refine⟨w.heap.size::Ds,by simp[h1], ?_, ?_⟩
 ·refine List.nodup_cons.2 ⟨fun hm=> ?_,h2⟩
  have:=(Array.getElem?_eq_some_iff.1 (h3 _ hm).2.1).1
  omega
 ·intro D hD
  rcases List.mem_cons.1 hD with rfl|hD
  ·exact⟨hb,heap_push_new _ _,fun l i hl e=>by have:=hR.bnd l i hl;omega⟩
  ·obtain⟨g1,g2,g3⟩:=h3 D hD
   exact⟨g1,by rw[heap_push_old _ _ _ (Array.getElem?_eq_some_iff.1 g2).1];exact g2,g3⟩
theorem rel_loop {μ:Mu} {σ:Store} {w:World} (hR:Rel P μ σ w) {a:Env} {act:Act} {ps:Array Tmp} {as bd:Code} {eas eb:EC} (hE:EnvR μ a act.tmps) (hps:ps.all (· <act.tmps.size)=true) (has:compCode P act.tmps.size as=some eas) (hbd:compCode P act.tmps.size bd=some eb) (fn:FuncId) (D:Nat):
  let j:Img:=⟨w.heap.size,0,1,0,1⟩
  let r:Loop:={state:= .ready,pending:=none,fn,tmps:=act.tmps,params:=ps,assign:=as,body:=bd,defers:=D}
  Rel P (μ.ext σ.size j) (σ.alloc (.loop a ps.toList eas eb .ready none)) (w.alloc (.loop r))∧Post μ σ w (μ.ext σ.size j) (σ.alloc (.loop a ps.toList eas eb .ready none)) (w.alloc (.loop r)):=by
 intro j r;refine rel_alloc hR _ _ j rfl (by intro e c h;cases h) ⟨rfl,rfl,r,heap_push_new _ _,⟨hE.mono (Mu.ext_mono hR),rfl, ?_,has,hbd,rfl, .none⟩⟩
 intro t ht;rw[←Array.all_toList] at hps;have:=List.all_eq_true.1 hps t ht
 simpa using this
theorem enter_loop {ntmps base:Nat} {b:Frame} {μ:Mu} {a:Env} {act:Act} {σ:Store} {w:World} (hA:At P ntmps base b μ a act σ w) (ps:Array Tmp) (as bd:Code):
  ∃mark D w1,(Instr.enterLoop b.fn act.tmps ps as bd b.roundOf).run P w= .ok (w1.heap.size,mark) (w1.alloc (.loop {state:= .ready,pending:=none,fn:=b.fn,tmps:=act.tmps,params:=ps,assign:=as,body:=bd,defers:=D}))∧
   Rel P μ σ w1∧Post μ σ w μ σ w1∧Marks μ w1 base (mark++act.defers)∧RoundOK b w1:=by
 cases hr:b.roundOf with
 |none=>
  refine⟨[{target:= .collected w.heap.size,args:= #[]}],w.heap.size,w.alloc (.deferred (some [])), ?_,hA.rel.priv _,Post.priv _ _ _ _,hA.marks.push hA.rel hA.base,hA.round.post (Post.priv μ σ w _)⟩
  have:=run_enterLoop_outer (P:=P) (w:=w) b.fn act.tmps ps as bd
  rw[this];simp[World.size_alloc]
 |some l=>
  obtain⟨r,hl⟩:=hA.round l hr;refine⟨[],r.defers,w, ?_,hA.rel,Post.refl _ _ _,hA.marks,hA.round⟩
  unfold Instr.enterLoop;simp only[Sem.run_bind,run_getLoop hl,run_newObj_alloc,Result.andThen,Sem.run_pure]
theorem rangeF_does {ntmps base:Nat} {b:Frame} {C:Caller} {n:Nat} (hC:COK P C) {f:Operand} {ps:Array Tmp} {as bd:Code} {eas eb:EC} (has:compCode P ntmps as=some eas) (hbd:compCode P ntmps bd=some eb) (hf:okConst f=true) (hps:ps.all (· <ntmps)=true):
  Does P ntmps base b C n (.rangeFunc f ps as bd) (.rangeF f ps.toList eas eb):=by
 intro a σ e a' σ' he μ act w hA k cs;simp only[evCode] at he;split at he
 ·rename_i g first caps e0
  split at he
  ·rename_i v1 σ₁ hcall
   split at he
   ·rename_i tm ps' as' b' st pend hg
    split at he
    ·cases he
    ·rename_i hnb
     have hfv:=hA.env.eval hf;rw[e0] at hfv hcall;obtain⟨f',a1,b1,q,hfr,h1,h2⟩:=hfv.of_func;cases hfr
     obtain⟨mark,D,w1,hrun,hR1,hP1,hM1,hO1⟩:=enter_loop hA ps as bd;have hsz:=hA.size;obtain⟨hR2,hP2⟩:=rel_loop hR1 hA.env (by rw[hsz];exact hps) (by rw[hsz];exact has) (by rw[hsz];exact hbd) b.fn D
     generalize hj:(⟨w1.heap.size,0,1,0,1⟩:Img)=j at hR2 hP2
     have hjb:j.block=w1.heap.size:=by rw[←hj]
     simp only[evCallV] at hcall;obtain⟨fn,hf1,hf2,hf3⟩:=hC.funcs _ _ _ _ hcall;generalize hw2:(w1.alloc (.loop {state:= .ready,pending:=none,fn:=b.fn,tmps:=act.tmps,params:=ps,assign:=as,body:=bd,defers:=D}))=w2 at*
     have hx:∀l i,μ l=some i→(μ.ext σ.size j) l=some i:=Mu.ext_mono hA.rel
     have hav:LR (μ.ext σ.size j) [.func (.yield σ.size) #[] #[]] [.func (.yield w1.heap.size) #[] #[]]:=
      .cons (.func (by rw[←hjb];exact .yield Mu.ext_new) rfl (by simp) rfl (by simp)) .nil
     have hargs:=((LR.mono hx h1).append hav).append (LR.mono hx h2);have hinv:=callFunc_run hf1 hf2 hf3 (a1++ #[.func (.yield w1.heap.size) #[] #[]]++b1) w2;have e2:(a1.toList++ [Value.func (.yield w1.heap.size) #[] #[]]++b1.toList).toArray=a1++ #[Value.func (.yield w1.heap.size) #[] #[]]++b1:=by apply Array.ext';simp
     have hstep:=stepR_rangeFunc (P:=P) (b:=b) (a:=act) (k:=k) (cs:=cs) (w:=w) (g:=f) (ps:=ps) (assign:=as) (body:=bd) (l:=w1.heap.size) (mark:=mark) (w₁:=w2) (w₁':=w2) (w₂:=w2)
      (d:={target:= .fn (.func g) b1,args:=a1++ #[.func (.yield w1.heap.size) #[] #[]]}) (f:=g) (args:=a1++ #[.func (.yield w1.heap.size) #[] #[]]++b1) hrun
      (by
       simp only[resolve,q,Deferred.ofValue]
       simp[Act.eval]) (by simp only[invoke,hinv])
     obtain⟨μ3,w3,v3,hs,hv,hR3,hP3⟩:=hC.good _ _ _ _ _ hcall _ w2 _ _ hR2 hargs (.func g _) (b.atR {act with defers:=mark++act.defers} (.inRangeFunc w1.heap.size::k)) cs
     rw[finish_atR_inRangeFunc,e2] at hs;have hl3:μ3 σ.size=some j:=hP3.ext _ _ Mu.ext_new
     have hob:=hR3.obj _ _ hl3;rw[hg] at hob;obtain⟨o1,o2,r,hr,hlo⟩:=hob;have hstr:r.state≠ .busy:=by rw[hlo.state];exact hnb
     have hend:=run_endLoop (P:=P) hr hstr
     have hset:=rel_setObj hR3 hl3 (by unfold Dead;rw[hg];simp) (by unfold Ro;rw[hg];rintro⟨_,_,hh⟩;cases hh) (.loop tm ps' as' b' .exhausted pend) (.loop {r with state:= .exhausted}) (by simp) (by simp)
      ⟨_,hr,by simp,fun _ _=> ⟨_,rfl⟩⟩ ⟨o1,o2⟩ ⟨o1,o2,_,heap_set_self hr,⟨hlo.env,hlo.params,hlo.bnd,hlo.assign,hlo.body,rfl,hlo.pend⟩⟩
     rw[hjb] at hend hset;obtain⟨hR4,hP4⟩:=hset;have hM2:Marks (μ.ext σ.size j) w2 base (mark++act.defers):=hM1.post hP2
     have hPall:Post μ σ w μ3 (σ₁.set σ.size (.loop tm ps' as' b' .exhausted pend)) (w3.putObj w1.heap.size (.loop {r with state:= .exhausted})):=((hP1.trans hP2).trans hP3).trans hP4
     have hA':At P ntmps base b μ3 a {act with defers:=mark++act.defers} (σ₁.set σ.size (.loop tm ps' as' b' .exhausted pend)) (w3.putObj w1.heap.size (.loop {r with state:= .exhausted})):=
      ⟨hA.env.mono hPall.ext,hA.size,hR4,(hM2.post hP3).post hP4,Nat.le_trans hA.base hPall.wsz,hA.round.post hPall⟩
     have hsteps:Steps P (lone (b.atR act (.code (.rangeFunc f ps as bd)::k)) cs w) (lone (b.atR {act with defers:=mark++act.defers} ((r.pending.map Item.code).toList++k)) cs (w3.putObj w1.heap.size (.loop {r with state:= .exhausted}))):=
      .head hstep (hs.trans (.one (stepR_endRangeFunc hend)))
     have hpd:=hlo.pend;generalize w3.putObj w1.heap.size (.loop {r with state:= .exhausted})=w4 at hA' hsteps hPall
     split at he
     ·cases he
      cases hp:r.pending with
      |some c=>rw[hp] at hpd;cases hpd
      |none=>
       rw[hp] at hsteps;exact⟨μ3,_,_,hsteps,hA',hPall⟩
     ·cases he
      cases hp:r.pending with
      |none=>rw[hp] at hpd;cases hpd
      |some c=>
       rw[hp] at hpd hsteps;cases hpd
       exact⟨μ3,_,_,⟨k,rfl,hsteps⟩,hA',hPall⟩
     ·cases he
      cases hp:r.pending with
      |none=>rw[hp] at hpd;cases hpd
      |some c=>
       rw[hp] at hpd hsteps;cases hpd
       exact⟨μ3,_,_,⟨k,hsteps⟩,hA',hPall⟩
     ·cases he
   ·cases he
  ·cases he
 ·cases he
theorem code_does {ntmps base:Nat} {b:Frame} {C:Caller} {n:Nat} (hC:COK P C) (hmix:P.follows .mixedOrders=true):∀(c:Code) (ec:EC),compCode P ntmps c=some ec→Does P ntmps base b C n c ec:=by
 intro c;induction c with
 |skip=>
  intro ec hc;simp only[compCode,Option.some.injEq] at hc;subst hc;intro a σ e a' σ' he μ act w hA k cs;simp only[evCode,Option.some.injEq,Prod.mk.injEq] at he;obtain⟨rfl,rfl,rfl⟩:=he;exact⟨μ,act,w, .one stepR_skip,hA,Post.refl _ _ _⟩
 |region id ops draw=>
  intro ec hc;intro a σ e a' σ' he μ act w hA k cs;cases draw with
  |false=>
   simp only[compCode,Option.map_eq_some_iff] at hc;obtain⟨es,hes,rfl⟩:=hc;simp only[evCode,evReg,Option.map_eq_some_iff,Prod.mk.injEq] at he;obtain⟨⟨a1,σ1⟩,hev,rfl,rfl,rfl⟩:=he;obtain⟨μ',act',w',hs,h1,h2,h3,h4,h5⟩:=reg_steps (b:=b) (k:=k) (cs:=cs) (ops:=ops) hC ops.toList es 0 a σ a1 σ1 μ act w rfl hes hev hA.env hA.size hA.rel
   rw[←List.range_eq_range'] at hs;refine⟨μ',act',w',Steps.head stepR_region (Steps.trans (by simpa using hs) (.one stepR_region_end)),hA.next h1 h2 h3 h4 h5,h5⟩
  |true=>
   simp only[compCode,Option.map_eq_some_iff] at hc;obtain⟨⟨pre,es⟩,hes,rfl⟩:=hc;simp only[evCode,Option.map_eq_some_iff,Prod.mk.injEq] at he;obtain⟨⟨a1,σ1⟩,hev,rfl,rfl,rfl⟩:=he;have hA2:At P ntmps base b μ a act σ w.drew:=hA.next hA.env hA.size rfl hA.rel.drew (Post.drew _ _ _)
   have hst:=stepR_region_draw (P:=P) (b:=b) (a:=act) (k:=k) (cs:=cs) (w:=w) (ops:=ops) (id:=id)
   simp only[Region.schedule,hmix,Bool.true_or,if_true] at hst;obtain⟨μ',act',w',hs,h1,h2,h3,h4,h5⟩:=regD_steps (b:=b) (k:=k) (cs:=cs) hC hes hev hA2.env hA2.size hA2.rel (w.tape w.drawn (.order b.fn id))
   exact⟨μ',act',w',Steps.head hst (hs.trans (.one stepR_region_end)),hA2.next h1 h2 h3 h4 h5,(Post.drew μ σ w).trans h5⟩
 |seq x y ihx ihy=>
  intro ec hc;simp only[compCode] at hc;split at hc
  ·rename_i ex ey hx hy
   cases hc
   intro a σ e a' σ' he μ act w hA k cs;simp only[evCode] at he;split at he
   ·rename_i a1 σ1 h1
    obtain⟨μ₁,act₁,w₁,r1,r2,r3⟩:=ihx _ hx _ _ _ _ _ h1 μ act w hA (.code y::k) cs;obtain⟨μ₂,act₂,w₂,q1,q2,q3⟩:=ihy _ hy _ _ _ _ _ he μ₁ act₁ w₁ r2 k cs;exact⟨μ₂,act₂,w₂,Reach.head (.head stepR_seq r1) q1,q2,r3.trans q3⟩
   ·rename_i hne
    obtain⟨μ₁,act₁,w₁,r1,r2,r3⟩:=ihx _ hx _ _ _ _ _ he μ act w hA (.code y::k) cs;have hn:e≠ .norm:=by intro h;subst h;exact hne _ _ he
    exact⟨μ₁,act₁,w₁,Reach.head (.one stepR_seq) (r1.drop hn fun id _=>rfl),r2,r3⟩
  ·cases hc
 |cond c x y ihx ihy=>
  intro ec hc;simp only[compCode] at hc;split at hc
  ·rename_i ex ey hx hy
   split at hc
   ·rename_i hok
    cases hc
    intro a σ e a' σ' he μ act w hA k cs;simp only[evCode] at he;split at he
    ·rename_i hb
     have h1:=hA.env.eval hok;rw[hb] at h1;obtain⟨μ₁,act₁,w₁,r1,r2,r3⟩:=ihx _ hx _ _ _ _ _ he μ act w hA k cs;exact⟨μ₁,act₁,w₁,Reach.head (.one (stepR_cond h1.of_bool)) r1,r2,r3⟩
    ·rename_i hb
     have h1:=hA.env.eval hok;rw[hb] at h1;obtain⟨μ₁,act₁,w₁,r1,r2,r3⟩:=ihy _ hy _ _ _ _ _ he μ act w hA k cs;exact⟨μ₁,act₁,w₁,Reach.head (.one (stepR_cond h1.of_bool)) r1,r2,r3⟩
    ·cases he
   ·cases hc
  ·cases hc
 |block id c ih=>
  intro ec hc;simp only[compCode,Option.map_eq_some_iff] at hc;obtain⟨ex,hx,rfl⟩:=hc;intro a σ e a' σ' he μ act w hA k cs;simp only[evCode] at he;split at he
  ·rename_i id' a1 σ1 h1
   obtain⟨μ₁,act₁,w₁,r1,r2,r3⟩:=ih _ hx _ _ _ _ _ h1 μ act w hA (.inBlock id::k) cs;obtain⟨k₁,hk,hs⟩:=r1;split at he
   ·rename_i heq
    cases he
    subst heq;refine⟨μ₁,act₁,w₁,Steps.head stepR_block (hs.trans (.one (stepR_exit ?_))),r2,r3⟩
    rw[hk];simp[exitTo]
   ·rename_i hne
    cases he
    refine⟨μ₁,act₁,w₁,⟨k₁, ?_, .head stepR_block hs⟩,r2,r3⟩
    rw[hk];simp[exitTo,Ne.symm hne]
  ·rename_i hne
   obtain⟨μ₁,act₁,w₁,r1,r2,r3⟩:=ih _ hx _ _ _ _ _ he μ act w hA (.inBlock id::k) cs;cases e with
   |norm=>exact⟨μ₁,act₁,w₁,Reach.head (.one stepR_block) (Steps.trans r1 (.one stepR_inBlock)),r2,r3⟩
   |exit id'=>exact absurd he (hne _ _ _)
   |ret=>exact⟨μ₁,act₁,w₁,Reach.head (.one stepR_block) (r1.drop (by simp) (by simp)),r2,r3⟩
 |loop c ih=>
  intro ec hc;simp only[compCode,Option.map_eq_some_iff] at hc;obtain⟨ex,hx,rfl⟩:=hc;intro a σ e a' σ' he μ act w hA k cs;simp only[evCode] at he;exact loop_first (ih _ hx) n a σ e a' σ' he μ act w hA k cs
 |rangeFunc f ps as bd ihas ihbd=>
  intro ec hc;simp only[compCode] at hc;split at hc
  ·rename_i eas eb has hbd
   split at hc
   ·rename_i hok
    cases hc
    exact rangeF_does hC has hbd hok.1 hok.2
   ·cases hc
  ·cases hc
 |exit id=>
  intro ec hc;simp only[compCode,Option.some.injEq] at hc;subst hc;intro a σ e a' σ' he μ act w hA k cs;simp only[evCode,Option.some.injEq,Prod.mk.injEq] at he;obtain⟨rfl,rfl,rfl⟩:=he;exact⟨μ,act,w,⟨k,rfl, .refl _ _⟩,hA,Post.refl _ _ _⟩
 |ret=>
  intro ec hc;simp only[compCode,Option.some.injEq] at hc;subst hc;intro a σ e a' σ' he μ act w hA k cs;simp only[evCode,Option.some.injEq,Prod.mk.injEq] at he;obtain⟨rfl,rfl,rfl⟩:=he;exact⟨μ,act,w,⟨k, .refl _ _⟩,hA,Post.refl _ _ _⟩
 |label l=>
  intro ec hc;simp only[compCode,Option.some.injEq] at hc;subst hc;intro a σ e a' σ' he μ act w hA k cs;simp only[evCode,Option.some.injEq,Prod.mk.injEq] at he;obtain⟨rfl,rfl,rfl⟩:=he;exact⟨μ,act,w, .one stepR_label,hA,Post.refl _ _ _⟩
 |scope c ih=>
  intro ec hc;simp only[compCode] at hc;intro a σ e a' σ' he μ act w hA k cs;obtain⟨μ₁,act₁,w₁,r1,r2,r3⟩:=ih _ hc _ _ _ _ _ he μ act w hA (.inScope c::k) cs;cases e with
  |norm=>exact⟨μ₁,act₁,w₁,Reach.head (.one stepR_scope) (Steps.trans r1 (.one stepR_inScope)),r2,r3⟩
  |exit id'=>exact⟨μ₁,act₁,w₁,Reach.head (.one stepR_scope) (r1.drop (by simp) (fun id _=>rfl)),r2,r3⟩
  |ret=>exact⟨μ₁,act₁,w₁,Reach.head (.one stepR_scope) (r1.drop (by simp) (by simp)),r2,r3⟩
 |_=>
  intro ec hc;simp only[compCode,Option.some.injEq] at hc;subst hc;intro a σ e a' σ' he;simp[evCode] at he
end Go.Ev
end EvCode
section EvCall
namespace Go.Ev
variable {P :Program}
theorem get_zipFold (v:List Value):∀(k:Nat) (e:Env) (j:Nat),Env.get ((v.zipIdx k).foldl (fun e (x:Value×Nat)=>T.set e x.2 x.1) e) j=if k≤j∧j<k+v.length then(v[j - k]?).getD undefE else Env.get e j:=by
 induction v with
 |nil=>intro k e j;simp;intro h1 h2;omega
 |cons x v ih=>
  intro k e j;simp only[List.zipIdx_cons,List.foldl_cons];rw[ih (k+1)];by_cases h:k+1≤j∧j<k+1+v.length
  ·rw[if_pos h,if_pos (by simp;omega)]
   rw[show j - k=(j -(k+1))+1 by omega];simp
  ·rw[if_neg h,Env.get_put]
   by_cases e1:j=k
   ·subst e1;rw[if_pos rfl,if_pos (by simp)];simp
   ·rw[if_neg e1,if_neg (by simp;omega)]
theorem envOf_R {μ:Mu} {args args':List Value} (h:LR μ args args') {n:Nat} (hn:args.length≤n):EnvR μ (envOf args) (args'.toArray++Array.replicate (n - args'.toArray.size) undef)∧(args'.toArray++Array.replicate (n - args'.toArray.size) undef).size=n:=by
 have hl:=h.length;refine⟨?_,by simp;omega⟩
 intro(j:Nat)
 have e1:Env.get (envOf args) j=(args[j]?).getD undefE:=by
  have:=get_zipFold args 0 .leaf j
  unfold envOf;rw[this];by_cases hj:j<args.length
  ·rw[if_pos (by omega)];simp
  ·rw[if_neg (by omega)]
   simp[Env.get,T.get,undefE,Nat.le_of_not_lt hj]
 rw[e1];by_cases hj:j<args.length
 ·have ha:args[j]?=some args[j]:=by simp[hj]
  obtain⟨y,hy,hr⟩:=h.get ha;have:(args'.toArray++Array.replicate (n - args'.toArray.size) undef).getD j undef=y:=by
   have hj':j<args'.length:=by omega
   have:args'[j]=y:=by
    have:=List.getElem?_eq_getElem hj'
    rw[hy] at this;exact(Option.some.inj this).symm
   rw[Array.getD_eq_getD_getElem?,Array.getElem?_append_left (by simpa using hj')]
   simp[hj',this]
  rw[this,ha];exact hr
 ·have:(args'.toArray++Array.replicate (n - args'.toArray.size) undef).getD j undef=undef:=by
   rw[Array.getD_eq_getD_getElem?,Array.getElem?_append_right (by simp;omega),Array.getElem?_replicate]
   split<;>rfl
  rw[this,List.getElem?_eq_none (by omega)]
  exact VR.undef μ
theorem params_R {μ:Mu}:∀(ps:List Tmp) (args args':List Value) (e:Env) (t:Array Value),EnvR μ e t→LR μ args args'→(∀p∈ps,p<t.size)→
  EnvR μ ((ps.zip args).foldl (fun e (x:Tmp×Value)=>T.set e x.1 x.2) e) ((ps.zip args').foldl (fun t (x:Tmp×Value)=>t.setIfInBounds x.1 x.2) t)∧((ps.zip args').foldl (fun t (x:Tmp×Value)=>t.setIfInBounds x.1 x.2) t).size=t.size
 | [],_,_,e,t,hE,_,_=> ⟨hE,rfl⟩
 |p::ps,[],args',e,t,hE,hl,_=>by cases hl;exact⟨hE,rfl⟩
 |p::ps,x::xs,args',e,t,hE,hl,hb=>by
  cases hl with
  |cons hr hrs=>
   rename_i y ys;simp only[List.zip_cons_cons,List.foldl_cons];have:=hE.put (d:=some p) (fun q hq=>by cases hq;exact hb p (by simp)) hr
   obtain⟨h1,h2⟩:=params_R ps xs ys _ _ this hrs (fun q hq=>by simp;exact hb q (by simp[hq]))
   exact⟨h1,by rw[h2];simp⟩
def resV (tmps:Array Value):ResultVar→Sem Value
 | .tmp t=>pure (tmps.getD t undef)
 | .cell a t=>do loadVar t (←asAddr (tmps.getD a undef))
theorem results_resV (fn:Func) (tmps:Array Value):results fn tmps=(do let vs ←fn.results.mapM (resV tmps);pure (if h:vs.size=1 then vs[0] else .tuple vs)):=by
 unfold results
 congr 2
theorem results_run {μ:Mu} {σ:Store} {w:World} (hR:Rel P μ σ w) {a:Env} {tmps:Array Value} (hE:EnvR μ a tmps):∀(rs:List ResultVar) (ers:List (Tmp×Option (Option Nat))) (vs:List Value),
  rs.mapM (m:=Option) (fun r=>match r with| .tmp t=>some (t,(none:Option (Option Nat)))| .cell t ty=>(shapeT P ty).map fun n=>(t,some n))=some ers→resultsE ers a σ=some vs→
  ∃vs',(rs.mapM (m:=Sem) (resV tmps)).run P w= .ok vs' w∧LR μ vs vs'
 | [],ers,vs,h1,h2=>by
  simp at h1;subst h1
  simp[resultsE] at h2;subst h2
  exact⟨[],by simp, .nil⟩
 |r::rs,ers,vs,h1,h2=>by
  simp only[List.mapM_cons,Option.bind_eq_bind,Option.bind_eq_some_iff,Option.pure_def,Option.some.injEq] at h1;obtain⟨er,hr,ers',hrs,rfl⟩:=h1;simp only[resultsE,List.mapM_cons,Option.bind_eq_bind,Option.bind_eq_some_iff,Option.pure_def,Option.some.injEq] at h2;obtain⟨v,hv,vs',hvs,rfl⟩:=h2;obtain⟨xs,hx1,hx2⟩:=results_run hR hE rs ers' vs' hrs hvs;cases r with
  |tmp t=>
   simp only[Option.some.injEq] at hr;subst hr;simp only[Option.some.injEq] at hv;subst hv;refine⟨tmps.getD t undef::xs, ?_, .cons (hE t) hx2⟩
   simp only[List.mapM_cons,resV,Sem.run_bind,Sem.run_pure,Result.andThen_ok,hx1]
  |cell t ty=>
   simp only[Option.map_eq_some_iff] at hr;obtain⟨n,hn,rfl⟩:=hr;simp only at hv;split at hv
   ·rename_i p hp
    have h1:=hE t;rw[hp] at h1;obtain⟨i,hi,hsp,q⟩:=h1.of_ptr;obtain⟨v',hr,hvr⟩:=run_loadVar hR hn hv hi;refine⟨v'::xs, ?_, .cons hvr hx2⟩
    simp only[List.mapM_cons,resV,Sem.run_bind,Sem.run_pure,Result.andThen_ok,hx1,q,asAddr,hr]
   ·cases hv
theorem pack_run {μ:Mu} {vs vs':List Value} (h:LR μ vs vs'):VR μ (packE vs) (if hh:vs'.toArray.size=1 then vs'.toArray[0] else .tuple vs'.toArray):=by
 cases h with
 |nil=>simp[packE];exact VR.tuple' .nil
 |cons h1 h2=>
  cases h2 with
  |nil=>simpa[packE] using h1
  |cons h3 h4=>
   simp only[packE];have:=VR.tuple' (.cons h1 (.cons h3 h4))
   simpa using this
theorem results_ok {μ:Mu} {σ:Store} {w:World} (hR:Rel P μ σ w) {a:Env} {tmps:Array Value} (hE:EnvR μ a tmps) {fn:Func} {ers:List (Tmp×Option (Option Nat))} {vs:List Value}
  (h1:fn.results.toList.mapM (m:=Option) (fun r=>match r with| .tmp t=>some (t,(none:Option (Option Nat)))| .cell t ty=>(shapeT P ty).map fun n=>(t,some n))=some ers) (h2:resultsE ers a σ=some vs):
  ∃v',(results fn tmps).run P w= .ok v' w∧VR μ (packE vs) v':=by
 obtain⟨vs',h3,h4⟩:=results_run hR hE _ _ _ h1 h2;refine⟨_, ?_,pack_run h4⟩
 rw[results_resV,Sem.run_bind];have:(Array.mapM (m:=Sem) (resV tmps) fn.results).run P w= .ok vs'.toArray w:=by
  rw[Array.mapM_eq_mapM_toList];simp only[Sem.run_map];rw[h3];rfl
 rw[this];simp[Result.andThen_ok]
end Go.Ev
end EvCall
section EvGood
namespace Go.Ev
variable {P :Program}
theorem Post.putPriv {μ₀ μ:Mu} {σ₀ σ:Store} {w₀ w:World} (h:Post μ₀ σ₀ w₀ μ σ w) {D:Nat} (hD:w₀.heap.size≤D) (o:Obj) (h1:∀C E fr,w.heap[D]?≠some (.cells C E fr)) (h2:∀C E fr,o≠ .cells C E fr:=by intro _ _ _ h;cases h):Post μ₀ σ₀ w₀ μ σ (w.putObj D o) where
 ext:=h.ext
 newd:=h.newd
 ssz:=h.ssz
 ro:=h.ro
 unb:=h.unb
 nro:=h.nro
 wsz:=by rw[World.putObj_size];exact h.wsz
 keeps b hb hr:=by rw[World.putObj_heap_other (by omega)];exact h.keeps b hb hr
 fresh:=h.fresh
 loops b r hb:=by
  obtain⟨r',h'⟩:=h.loops b r hb;have:=(Array.getElem?_eq_some_iff.1 hb).1
  exact⟨r',by rw[World.putObj_heap_other (by omega)];exact h'⟩
 sam:=h.sam.trans (.setIn w D o h1 h2)
theorem unwind_marks {μ₀ μ:Mu} {σ₀ σ:Store} {w₀:World} {cs:List Frame}:∀(Ds:List Nat) (fr:Frame) (w:World),fr.mode= .returning→fr.defers=Ds.map (fun D=>{target:= .collected D,args:= #[]})→Ds.Nodup→
  (∀D∈Ds,w₀.heap.size≤D∧w.heap[D]?=some (.deferred (some []))∧∀l i,μ l=some i→i.block≠D)→Rel P μ σ w→Post μ₀ σ₀ w₀ μ σ w→
  ∃w',Steps P (lone fr cs w) (lone {fr with defers:= []} cs w')∧Rel P μ σ w'∧Post μ₀ σ₀ w₀ μ σ w'
 | [],fr,w,hm,hd,_,_,hR,hP=>by
  refine⟨w, ?_,hR,hP⟩
  have:{fr with defers:= []}=fr:=by cases fr;simp at hd;simp[hd]
  rw[this];exact .refl _ _
 |D::Ds,fr,w,hm,hd,hn,hall,hR,hP=>by
  obtain⟨h1,h2,h3⟩:=hall D (by simp)
  have hk:=run_takeDeferred (P:=P) h2
  have hst:=step_collected (cs:=cs) (fr:=fr) (d:={target:= .collected D,args:= #[]}) (ds:=Ds.map (fun D=>{target:= .collected D,args:= #[]})) (by rw[hm];simp) (by rw[hd];rfl) rfl hk
  have hn':=List.nodup_cons.1 hn
  obtain⟨w',s1,s2,s3⟩:=unwind_marks (cs:=cs) Ds {fr with defers:= []++Ds.map (fun D=>{target:= .collected D,args:= #[]})} (w.putObj D (.deferred none)) hm (by simp) hn'.2 (by
   intro D' hD';obtain⟨g1,g2,g3⟩:=hall D' (by simp[hD'])
   refine⟨g1, ?_,g3⟩
   rw[World.putObj_heap_other (by intro e;subst e;exact hn'.1 hD')];exact g2) (hR.putPriv D _ h3) (hP.putPriv h1 _ (by rw[h2];intro _ _ _ hh;cases hh))
  exact⟨w', .head hst s1,s2,s3⟩
theorem compFunc_inv {f : FuncId} {ef : EFunc} (h : compFunc P f = some ef) : ∃ fn c, P.funcs[f]? = some fn ∧ fn.body = some c ∧ compCode P fn.ntmps c = some ef.body ∧ fn.name ≠ "runtime.NumGoroutine" ∧ ef.ntmps = fn.ntmps ∧
  fn.results.toList.mapM (m:=Option) (fun r=>match r with| .tmp t=>some (t,(none:Option (Option Nat)))| .cell t ty=>(shapeT P ty).map fun n=>(t,some n))=some ef.results:=by
 unfold compFunc at h;split at h
 ·cases h
 ·rename_i fn hf
  split at h
  ·cases h
  ·rename_i c hb
   split at h
   ·rename_i eb rs hc hr
    split at h
    ·cases h
    ·rename_i hn
     cases h;exact⟨fn,c,hf,hb,hc,by simpa using hn,rfl,hr⟩
   ·cases h
theorem func_run {C:Caller} (hC:COK P C) (hmix:P.follows .mixedOrders=true) {f:FuncId} {ef:EFunc} (hf:compFunc P f=some ef) {n:Nat} {args:List Value} {a:Env} {σ σ':Store} {e:Ex} {vs:List Value}
  (hlen:args.length≤ef.ntmps) (he:evCode C n ef.body (envOf args) σ=some (e,a,σ')) (hex:e= .norm∨e= .ret) (hvs:resultsE ef.results a σ'=some vs)
  {μ:Mu} {w:World} {args':List Value} (hR:Rel P μ σ w) (hav:LR μ args args') (cs:List Frame):
  ∃μ' w' v' fr',Steps P (lone (Frame.enter P f args'.toArray .normal) cs w) (lone fr' cs w')∧fr'.fn=f∧fr'.leaving P w' (.returned v')∧VR μ' (packE vs) v'∧Rel P μ' σ' w'∧Post μ σ w μ' σ' w':=by
 obtain⟨fn,c,hfn,hbody,hcc,hname,hnt,hres⟩:=compFunc_inv hf;rw[hnt] at hlen;obtain⟨hE,hsz⟩:=envOf_R hav hlen;generalize htm:args'.toArray++Array.replicate (fn.ntmps - args'.toArray.size) undef=tm at hE hsz
 let b:Frame:={(default:Frame) with fn:=f,kind:= .normal,roundOf:=none}
 have hent:Frame.enter P f args'.toArray .normal=b.atR {tmps:=tm,defers:= []} [.code c]:=by
  unfold Frame.enter;simp only[hfn,Option.map_some,Option.getD_some,Option.bind_some,hbody];rw[htm];rfl
 have hA:At P fn.ntmps w.heap.size b μ (envOf args) {tmps:=tm,defers:= []} σ w:=
  ⟨hE,hsz,hR,⟨[],rfl,List.nodup_nil,by simp⟩,Nat.le_refl _,by intro l hl;cases hl⟩
 obtain⟨μ1,act1,w1,hr,hA1,hP1⟩:=code_does (b:=b) (base:=w.heap.size) hC hmix c _ hcc _ _ _ _ _ he μ _ w hA [] cs
 have hout:∃todo,Steps P (lone (Frame.enter P f args'.toArray .normal) cs w) (lone {b.atR act1 todo with mode:= .returning} cs w1):=by
  rw[hent];rcases hex with rfl|rfl
  ·exact⟨[],Steps.trans hr (.one (stepR_end rfl))⟩
  ·obtain⟨k₁,hs⟩:=hr
   exact⟨_,hs.trans (.one (stepR_ret rfl))⟩
 obtain⟨todo,hs⟩:=hout;obtain⟨Ds,d1,d2,d3⟩:=hA1.marks;obtain⟨w2,s1,s2,s3⟩:=unwind_marks (cs:=cs) Ds {b.atR act1 todo with mode:= .returning} w1 rfl d1 d2 d3 hA1.rel hP1
 obtain⟨v',hv1,hv2⟩:=results_ok s2 hA1.env hres hvs;exact⟨μ1,w2,v',_,hs.trans s1,rfl,⟨rfl,rfl,rfl,fn,hfn,hv1⟩,hv2,s2,s3⟩
theorem Rel.loopAt {μ:Mu} {σ:Store} {w:World} (hR:Rel P μ σ w) {l:Nat} {i:Img} (hl:μ l=some i) {tm:T Value} {ps:List Tmp} {as b:EC} {st:LoopState} {pend:Option EC} (hg:σ.get l=some (.loop tm ps as b st pend)):
  i.off=0∧i.len=1∧∃r,w.heap[i.block]?=some (.loop r)∧LoopOK P μ tm ps as b st pend r:=by
 have:=hR.obj l i hl
 rw[hg] at this;exact this
theorem rel_setLoop {μ:Mu} {σ:Store} {w:World} (hR:Rel P μ σ w) {l:Nat} {i:Img} (hl:μ l=some i) {tm tm':T Value} {ps ps':List Tmp} {as as' b b':EC} {st st':LoopState} {pend pend':Option EC} (hg:σ.get l=some (.loop tm ps as b st pend))
  {r r':Loop} (hr:w.heap[i.block]?=some (.loop r)) (hlo:LoopOK P μ tm' ps' as' b' st' pend' r'):
  Rel P μ (σ.set l (.loop tm' ps' as' b' st' pend')) (w.putObj i.block (.loop r'))∧Post μ σ w μ (σ.set l (.loop tm' ps' as' b' st' pend')) (w.putObj i.block (.loop r')):=by
 obtain⟨o1,o2,_⟩:=hR.loopAt hl hg;exact rel_setObj hR hl (by unfold Dead;rw[hg];simp) (by unfold Ro;rw[hg];rintro⟨_,_,hh⟩;cases hh) _ _ (by simp) (by simp) ⟨_,hr,by simp,fun _ _=> ⟨_,rfl⟩⟩ ⟨o1,o2⟩ ⟨o1,o2,_,heap_set_self hr,hlo⟩
theorem round_run {C:Caller} (hC:COK P C) (hmix:P.follows .mixedOrders=true) {l:Nat} {tm:T Value} {ps:List Tmp} {as bd:EC} {st:LoopState} {pend:Option EC} {n:Nat} {args:List Value} {σ σ₁ σ₂:Store} {a a₂:Env} {e:Ex}
  {tm₁ tm₂:T Value} {ps₁ ps₂:List Tmp} {as₁ b₁ as₂ b₂:EC} {pend₁ pend₂:Option EC} {st₂:LoopState}
  (hg:σ.get l=some (.loop tm ps as bd st pend))
  (he1:evCode C n as ((ps.zip args).foldl (fun e (x:Tmp×Value)=>T.set e x.1 x.2) tm) σ=some (.norm,a,σ₁)) (hg1:σ₁.get l=some (.loop tm₁ ps₁ as₁ b₁ .ready pend₁))
  (he2:evCode C n bd a (σ₁.set l (.loop tm₁ ps₁ as₁ b₁ .busy pend₁))=some (e,a₂,σ₂)) (hg2:σ₂.get l=some (.loop tm₂ ps₂ as₂ b₂ st₂ pend₂))
  {μ:Mu} {w:World} {args':List Value} (hR:Rel P μ σ w) (hav:LR μ args args') {i:Img} {r:Loop} (hl:μ l=some i) (hr:w.heap[i.block]?=some (.loop r)) (c:Frame) (cs:List Frame):
  ∃μ' w' v',Steps P (lone (Frame.round i.block r.fn ((r.params.zip args'.toArray).foldl (fun tmps (t,a)=>tmps.setIfInBounds t a) r.tmps) r.assign r.body .normal) (c::cs) w) (lone (c.finish v') cs w')∧
   VR μ' (.bool (e= .norm)) v'∧Rel P μ' (σ₂.set l (.loop tm₂ ps₂ as₂ b₂ (if e= .norm then .ready else .done) (pendEx e))) w'∧Post μ σ w μ' (σ₂.set l (.loop tm₂ ps₂ as₂ b₂ (if e= .norm then .ready else .done) (pendEx e))) w':=by
 obtain⟨_,_,r0,hr0,hlo⟩:=hR.loopAt hl hg;rw[hr] at hr0;cases hr0
 obtain⟨hE,hsz⟩:=params_R ps args args' tm r.tmps hlo.env hav hlo.bnd;have hfold:(r.params.zip args'.toArray).foldl (fun tmps (t,a)=>tmps.setIfInBounds t a) r.tmps=(ps.zip args').foldl (fun t (x:Tmp×Value)=>t.setIfInBounds x.1 x.2) r.tmps:=by
  rw[←Array.foldl_toList,Array.toList_zip,hlo.params]
 generalize htm:(ps.zip args').foldl (fun t (x:Tmp×Value)=>t.setIfInBounds x.1 x.2) r.tmps=tmps at hE hsz hfold
 rw[hfold]
 let b:Frame:={(default:Frame) with fn:=r.fn,kind:= .normal,roundOf:=some i.block}
 have hb0:Frame.round i.block r.fn tmps r.assign r.body .normal=b.atR {tmps:=tmps,defers:= []} [.code r.assign, .beginRound, .code r.body]:=by
  simp[Frame.round,Frame.atR,b]
 rw[hb0];have hA:At P r.tmps.size w.heap.size b μ ((ps.zip args).foldl (fun e (x:Tmp×Value)=>T.set e x.1 x.2) tm) {tmps:=tmps,defers:= []} σ w:=
  ⟨hE,hsz,hR,⟨[],rfl,List.nodup_nil,by simp⟩,Nat.le_refl _,by intro l' hl';cases hl';exact⟨r,hr⟩⟩
 obtain⟨μ1,act1,w1,hr1,hA1,hP1⟩:=code_does (b:=b) (base:=w.heap.size) hC hmix r.assign _ hlo.assign _ _ _ _ _ he1 μ _ w hA [.beginRound, .code r.body] (c::cs)
 have hl1:μ1 l=some i:=hP1.ext _ _ hl
 obtain⟨_,_,r1,hrr1,hlo1⟩:=hA1.rel.loopAt hl1 hg1;have hbr:=run_beginRound (P:=P) hrr1 hlo1.state
 obtain⟨hR2,hP2⟩:=rel_setLoop hA1.rel hl1 hg1 (r':={r1 with state:= .busy}) (st':= .busy) hrr1 ⟨hlo1.env,hlo1.params,hlo1.bnd,hlo1.assign,hlo1.body,rfl,hlo1.pend⟩
 have hA2:At P r.tmps.size w.heap.size b μ1 a act1 (σ₁.set l (.loop tm₁ ps₁ as₁ b₁ .busy pend₁)) (w1.putObj i.block (.loop {r1 with state:= .busy})):=
  hA1.next hA1.env hA1.size rfl hR2 hP2
 obtain⟨μ3,act3,w3,hr3,hA3,hP3⟩:=code_does (b:=b) (base:=w.heap.size) hC hmix r.body _ hlo.body _ _ _ _ _ he2 μ1 _ _ hA2 [] (c::cs)
 have hl3:μ3 l=some i:=hP3.ext _ _ hl1
 obtain⟨_,_,r3,hrr3,hlo3⟩:=hA3.rel.loopAt hl3 hg2;have pre:Steps P (lone (b.atR {tmps:=tmps,defers:= []} [.code r.assign, .beginRound, .code r.body]) (c::cs) w) (lone (b.atR act1 [.code r.body]) (c::cs) (w1.putObj i.block (.loop {r1 with state:= .busy}))):=
  Steps.trans hr1 (.one (stepR_beginRound rfl hbr))
 cases e with
 |norm=>
  have hend:=run_endRound (P:=P) none hrr3
  obtain⟨hR4,hP4⟩:=rel_setLoop hA3.rel hl3 hg2 (r':={r3 with state:= .ready,pending:=none}) (st':= .ready) (pend':=none) hrr3 ⟨hlo3.env,hlo3.params,hlo3.bnd,hlo3.assign,hlo3.body,rfl, .none⟩
  exact⟨μ3,_,_,pre.trans (Steps.trans hr3 (.one (stepR_round_end rfl rfl hend))), .bool _,hR4,((hP1.trans hP2).trans hP3).trans hP4⟩
 |ret=>
  have hend:=run_endRound (P:=P) (some .ret) hrr3
  obtain⟨hR4,hP4⟩:=rel_setLoop hA3.rel hl3 hg2 (r':={r3 with state:= .done,pending:=some .ret}) (st':= .done) (pend':=some .ret) hrr3 ⟨hlo3.env,hlo3.params,hlo3.bnd,hlo3.assign,hlo3.body,rfl, .ret⟩
  obtain⟨k₁,hs⟩:=hr3;exact⟨μ3,_,_,pre.trans (hs.trans (.one (stepR_round_ret rfl rfl hend))), .bool _,hR4,((hP1.trans hP2).trans hP3).trans hP4⟩
 |exit id=>
  have hend:=run_endRound (P:=P) (some (.exit id)) hrr3
  obtain⟨hR4,hP4⟩:=rel_setLoop hA3.rel hl3 hg2 (r':={r3 with state:= .done,pending:=some (.exit id)}) (st':= .done) (pend':=some (.exit id)) hrr3 ⟨hlo3.env,hlo3.params,hlo3.bnd,hlo3.assign,hlo3.body,rfl, .exit id⟩
  obtain⟨k₁,hk,hs⟩:=hr3;exact⟨μ3,_,_,pre.trans (hs.trans (.one (stepR_round_exit rfl rfl (by rw[hk];rfl) hend))), .bool _,hR4,((hP1.trans hP2).trans hP3).trans hP4⟩
def FOK (P:Program) (F:FuncId→Option EFunc):Prop:=∀f ef,F f=some ef→compFunc P f=some ef
theorem evStep_func {F:FuncId→Option EFunc} {C:Caller} {n:Nat} {f:FuncId} {args:List Value} {σ:Store} {r:Value×Store} (h:evStep F C n (.func f) args σ=some r):
  ∃ef e a σ' vs,F f=some ef∧args.length≤ef.ntmps∧evCode C n ef.body (envOf args) σ=some (e,a,σ')∧(e= .norm∨e= .ret)∧resultsE ef.results a σ'=some vs∧r=(packE vs,σ'):=by
 simp only[evStep] at h;split at h
 ·cases h
 ·rename_i ef hf
  split at h
  ·cases h
  ·rename_i hlt
   split at h
   ·rename_i a σ' he
    simp only[Option.map_eq_some_iff] at h;obtain⟨vs,hvs,rfl⟩:=h;exact⟨ef, .norm,a,σ',vs,hf,by omega,he, .inl rfl,hvs,rfl⟩
   ·rename_i a σ' he
    simp only[Option.map_eq_some_iff] at h;obtain⟨vs,hvs,rfl⟩:=h;exact⟨ef, .ret,a,σ',vs,hf,by omega,he, .inr rfl,hvs,rfl⟩
   ·cases h
theorem evStep_yield {F:FuncId→Option EFunc} {C:Caller} {n:Nat} {l:Nat} {args:List Value} {σ:Store} {r:Value×Store} (h:evStep F C n (.yield l) args σ=some r):
  ∃tm ps as bd st pend a σ₁ tm₁ ps₁ as₁ b₁ pend₁ e a₂ σ₂ tm₂ ps₂ as₂ b₂ st₂ pend₂,σ.get l=some (.loop tm ps as bd st pend)∧ps.length=args.length∧
   evCode C n as ((ps.zip args).foldl (fun e (x:Tmp×Value)=>T.set e x.1 x.2) tm) σ=some (.norm,a,σ₁)∧σ₁.get l=some (.loop tm₁ ps₁ as₁ b₁ .ready pend₁)∧
   evCode C n bd a (σ₁.set l (.loop tm₁ ps₁ as₁ b₁ .busy pend₁))=some (e,a₂,σ₂)∧σ₂.get l=some (.loop tm₂ ps₂ as₂ b₂ st₂ pend₂)∧
   r=(.bool (e= .norm),σ₂.set l (.loop tm₂ ps₂ as₂ b₂ (if e= .norm then .ready else .done) (pendEx e))):=by
 simp only[evStep] at h;split at h
 ·rename_i tm ps as bd st pend hg
  split at h
  ·cases h
  ·rename_i hlen
   split at h
   ·rename_i a σ₁ he1
    split at h
    ·rename_i tm₁ ps₁ as₁ b₁ st₁ pend₁ hg1
     split at h
     ·cases h
     ·rename_i hst
      split at h
      ·rename_i e a₂ σ₂ he2
       split at h
       ·rename_i tm₂ ps₂ as₂ b₂ st₂ pend₂ hg2
        cases h;have:st₁= .ready:=by simpa using hst
        subst this;exact⟨tm,ps,as,bd,st,pend,a,σ₁,tm₁,ps₁,as₁,b₁,pend₁,e,a₂,σ₂,tm₂,ps₂,as₂,b₂,st₂,pend₂,hg,by simpa using hlen,he1,hg1,he2,hg2,rfl⟩
       ·cases h
      ·cases h
    ·cases h
   ·cases h
 ·cases h
theorem evStep_COK {F:FuncId→Option EFunc} (hF:FOK P F) (hmix:P.follows .mixedOrders=true) {C:Caller} (hC:COK P C) (n:Nat):COK P (evStep F C n) where
 good:=by
  intro f args σ v σ' h μ w args' fr hR hav hst c cs;cases hst with
  |func f args'=>
   obtain⟨ef,e,a,σ₁,vs,hf,hlen,he,hex,hvs,hr⟩:=evStep_func h;cases hr
   obtain⟨μ',w',v',fr',h1,h2,h3,h4,h5,h6⟩:=func_run hC hmix (hF _ _ hf) hlen he hex hvs hR hav (c::cs);exact⟨μ',w',v',h1.trans (.one (step_leave_returned h3)),h4,h5,h6⟩
  |yield args' hl hr=>
   obtain⟨tm,ps,as,bd,st,pend,a,σ₁,tm₁,ps₁,as₁,b₁,pend₁,e,a₂,σ₂,tm₂,ps₂,as₂,b₂,st₂,pend₂,hg,hlen,he1,hg1,he2,hg2,hh⟩:=evStep_yield h;cases hh
   exact round_run hC hmix hg he1 hg1 he2 hg2 hR hav hl hr c cs
 funcs:=by
  intro f args σ r h;obtain⟨ef,e,a,σ₁,vs,hf,hlen,he,hex,hvs,hr⟩:=evStep_func h;obtain⟨fn,c,hfn,hb,_,hn,_⟩:=compFunc_inv (hF _ _ hf);exact⟨fn,hfn,by simp[hb],hn⟩
 yields:=by
  intro l args σ r h;obtain⟨tm,ps,as,bd,st,pend,a,σ₁,tm₁,ps₁,as₁,b₁,pend₁,e,a₂,σ₂,tm₂,ps₂,as₂,b₂,st₂,pend₂,hg,hlen,_⟩:=evStep_yield h;exact⟨tm,ps,as,bd,st,pend,hg,hlen⟩
theorem COK.or {C D:Caller} (hC:COK P C) (hD:COK P D):COK P (fun f args σ=>match C f args σ with|some r=>some r|none=>D f args σ) where
 good:=by
  intro f args σ v σ' h;simp only at h;split at h
  ·rename_i r hr;cases h;exact hC.good _ _ _ _ _ hr
  ·exact hD.good _ _ _ _ _ h
 funcs:=by
  intro f args σ r h;split at h
  ·rename_i r hr;exact hC.funcs _ _ _ _ hr
  ·exact hD.funcs _ _ _ _ h
 yields:=by
  intro f args σ r h;split at h
  ·rename_i r hr;exact hC.yields _ _ _ _ hr
  ·exact hD.yields _ _ _ _ h
theorem COK.none :COK P (fun _ _ _=>none):=⟨fun _ _ _ _ _ h=>(by cases h),fun _ _ _ _ h=>(by cases h),fun _ _ _ _ h=>(by cases h)⟩
theorem evCall_COK {F:FuncId→Option EFunc} (hF:FOK P F) (hmix:P.follows .mixedOrders=true) {H:Caller} (hH:COK P H):∀n,COK P (evCall F H n)
 |0=>COK.none
 |n+1=>COK.or hH (evStep_COK hF hmix (evCall_COK hF hmix hH n) n)
theorem func_calls {F:FuncId→Option EFunc} (hF:FOK P F) (hmix:P.follows .mixedOrders=true) {C:Caller} (hC:COK P C) {n:Nat} {f:FuncId} {args:List Value} {σ σ':Store} {v:Value} (h:evStep F C n (.func f) args σ=some (v,σ'))
  {μ:Mu} {w:World} {args':List Value} (hR:Rel P μ σ w) (hav:LR μ args args'):
  Calls P f args'.toArray w fun e w'=>∃μ' v',e= .returned v'∧VR μ' v v'∧Rel P μ' σ' w'∧Post μ σ w μ' σ' w':=by
 intro cs;obtain⟨ef,e,a,σ₁,vs,hf,hlen,he,hex,hvs,hr⟩:=evStep_func h;cases hr
 obtain⟨μ',w',v',fr',h1,h2,h3,h4,h5,h6⟩:=func_run hC hmix (hF _ _ hf) hlen he hex hvs hR hav cs;exact⟨.returned v',w',fr',⟨μ',v',rfl,h4,h5,h6⟩,h1,h2,h3⟩
end Go.Ev
end EvGood
section EvHook
namespace Go.Ev
variable {P :Program}
def sb (d n0 l:Nat):Nat:=if l<n0 then l else l+d
def shC (d n0:Nat):Value→Option Value
 | .int k n=>some (.int k n)
 | .bool b=>some (.bool b)
 | .string s=>some (.string s)
 | .pointer none=>some (.pointer none)
 | .pointer (some p)=>some (.pointer (some ⟨sb d n0 p.block,p.off,p.spot⟩))
 | .slice none n c=>some (.slice none n c)
 | .slice (some p) n c=>some (.slice (some ⟨sb d n0 p.block,p.off,p.spot⟩) n c)
 | .map none=>some (.map none)
 | .nilFunc=>some .nilFunc
 | .nilIface=>some .nilIface
 |_=>none
def okSh :Value→Bool
 | .int _ _| .bool _| .string _| .pointer _| .slice _ _ _| .map none| .nilFunc| .nilIface=>true
 |_=>false
def shL (d n0:Nat):List Value→Option (List Value)
 | []=>some []
 |v::vs=>match shC d n0 v,shL d n0 vs with
  |some w,some ws=>some (w::ws)
  |_,_=>none
def shT (d n0:Nat):Value→Option Value
 | .agg cs=>(shL d n0 cs.toList).map fun cs=> .agg cs.toArray
 |v=>shC d n0 v
def shTs (d n0:Nat):List Value→Option (List Value)
 | []=>some []
 |v::vs=>match shT d n0 v,shTs d n0 vs with
  |some w,some ws=>some (w::ws)
  |_,_=>none
def shTop (d n0:Nat):Value→Option Value
 | .tuple vs=>(shTs d n0 vs.toList).map fun vs=> .tuple vs.toArray
 |v=>shT d n0 v
def shObj (d n0:Nat):Option EObj→EObj
 |some (.cells st e c)=>match shL d n0 c with
  |some c'=> .cells st e c'
  |none=> .dead
 |_=> .dead
def embed (d n0:Nat) (τ:Store):Nat→Store→Store
 |0,σ=>σ
 |k+1,σ=>(embed d n0 τ k σ).alloc (shObj d n0 (τ.get (n0+k)))
theorem embed_size (d n0:Nat) (τ σ:Store):∀k,(embed d n0 τ k σ).size=σ.size+k
 |0=>rfl
 |k+1=>by simp only[embed,Store.size_alloc,embed_size d n0 τ σ k];omega
theorem embed_get (d n0:Nat) (τ σ:Store) (l:Nat):∀k,(embed d n0 τ k σ).get l=if l<σ.size then σ.get l else if l<σ.size+k then some (shObj d n0 (τ.get (n0+(l - σ.size)))) else none
 |0=>by
  simp only[embed];split
  ·rfl
  ·split
   ·omega
   ·exact Store.get_ge (by omega)
 |k+1=>by
  simp only[embed];rw[Store.get_alloc,embed_size,embed_get d n0 τ σ l k];by_cases h:l<σ.size
  ·have:l≠σ.size+k:=by omega
   simp[h,this]
  ·by_cases e:l=σ.size+k
   ·subst e;simp[show ¬σ.size+k<σ.size by omega]
   ·by_cases h2:l<σ.size+k
    ·have:l<σ.size+(k+1):=by omega
     simp[h,e,h2,this]
    ·have:¬l<σ.size+(k+1):=by omega
     simp[h,e,h2,this]
def Mu.cut (μ:Mu) (n:Nat):Mu:=fun l=>if l<n then μ l else none
theorem Mu.cut_some {μ:Mu} {n l:Nat} {i:Img}:μ.cut n l=some i↔l<n∧μ l=some i:=by
 unfold Mu.cut;by_cases h:l<n<;>simp[h]
def blockOf :Value→Option Nat
 | .slice (some p) _ _=>some p.block
 | .pointer (some p)=>some p.block
 |_=>none
structure Low (n:Nat) (v:Value):Prop where
 cut:∀(μ:Mu) (v':Value),VR μ v v'→VR (μ.cut n) v v'
 blk:∀l,blockOf v=some l→l<n
def Mu.join (μ μ₁:Mu) (sz d:Nat):Mu:=fun l=>if l<sz then μ l else μ₁ (l - d)
structure Ext (σ0 σ:Store):Prop where
 size:σ0.size≤σ.size
 same:∀l,l<σ0.size→σ.get l=σ0.get l
theorem Ext.refl (σ:Store):Ext σ σ:=⟨Nat.le_refl _,fun _ _=>rfl⟩
theorem Ext.trans {σ σ₁ σ₂:Store} (h:Ext σ σ₁) (h':Ext σ₁ σ₂):Ext σ σ₂:=⟨Nat.le_trans h.size h'.size,fun l hl=>(h'.same l (Nat.lt_of_lt_of_le hl h.size)).trans (h.same l hl)⟩
def RoAll (σ0:Store):Prop:=∀l,l<σ0.size→∃e c,σ0.get l=some (.cells .ro e c)∧∀v∈c,Low σ0.size v∧okSh v=true
theorem RoAll.ro {σ0:Store} (h:RoAll σ0) {l:Nat} (hl:l<σ0.size):Ro σ0 l:=by
 obtain⟨e,c,hg,_⟩:=h l hl;exact⟨e,c,hg⟩
theorem LR.cut {n:Nat}:∀{vs vs':List Value} {μ:Mu},LR μ vs vs'→(∀v∈vs,Low n v)→LR (μ.cut n) vs vs'
 |_,_,_, .nil,_=> .nil
 |_,_,_, .cons h hs,hl=> .cons ((hl _ (by simp)).cut _ _ h) (LR.cut hs fun v hv=>hl v (by simp[hv]))
theorem Rel.cut {μ:Mu} {σ σ0:Store} {w:World} (h:Rel P μ σ w) (h0:RoAll σ0) (hx:Ext σ0 σ):Rel P (μ.cut σ0.size) σ0 w where
 dom l i hl:=(Mu.cut_some.1 hl).1
 bnd l i hl:=h.bnd l i (Mu.cut_some.1 hl).2
 obj l i hl:=by
  obtain⟨hlt,hm⟩:=Mu.cut_some.1 hl;obtain⟨e,c,hg,hc⟩:=h0 l hlt;have:=h.obj l i hm
  rw[hx.same l hlt,hg] at this;rw[hg];obtain⟨h1,h2,C,E,fr,h3,h4,h5,h6⟩:=this;exact⟨h1,h2,C,E,fr,h3,h4,h5.cut fun v hv=>(hc v hv).1,h6⟩
 apart l₁ l₂ i₁ i₂ h1 _ _ _ _ hr:=absurd (h0.ro (Mu.cut_some.1 h1).1) hr
section
variable {μ μ₁:Mu} {σ σ0 τ:Store} {w w₁:World}
theorem made_fresh (h0:RoAll σ0) (hP:Post (μ.cut σ0.size) σ0 w μ₁ τ w₁) {l:Nat} {i:Img} (hl:μ₁ l=some i) (hn:σ0.size≤l):w.heap.size≤i.block:=by
 apply Classical.byContradiction
 intro hb;obtain⟨l₀,i₀,g1,_,g3⟩:=hP.fresh l i hl (by omega) (hP.nro l hn)
 exact g3 (h0.ro (Mu.cut_some.1 g1).1)
theorem join_ext (h:Rel P μ σ w) (d:Nat):∀l i,μ l=some i→(μ.join μ₁ σ.size d) l=some i:=by
 intro l i hl;have:=h.dom l i hl
 simp[Mu.join,this,hl]
theorem join_sb (hx:Ext σ0 σ) (hP:Post (μ.cut σ0.size) σ0 w μ₁ τ w₁) {l:Nat} {i:Img} (hl:μ₁ l=some i):(μ.join μ₁ σ.size (σ.size - σ0.size)) (sb (σ.size - σ0.size) σ0.size l)=some i:=by
 have hs:=hx.size;unfold sb;by_cases h:l<σ0.size
 ·rw[if_pos h]
  rcases hP.newd l i hl with h1|h1
  ·have:=(Mu.cut_some.1 h1).2
   simp[Mu.join,this,show l<σ.size by omega]
  ·omega
 ·rw[if_neg h]
  have h1:¬l+(σ.size - σ0.size)<σ.size:=by omega
  have h2:l+(σ.size - σ0.size) -(σ.size - σ0.size)=l:=by omega
  simp only[Mu.join,if_neg h1,h2,hl]
theorem shC_VR (hx:Ext σ0 σ) (hP:Post (μ.cut σ0.size) σ0 w μ₁ τ w₁) {v v' u:Value} (h:VR μ₁ v v') (hs:shC (σ.size - σ0.size) σ0.size v=some u):VR (μ.join μ₁ σ.size (σ.size - σ0.size)) u v':=by
 cases h<;>simp only[shC,Option.some.injEq] at hs
 case bool b=>subst hs;exact .bool b
 case int k n=>subst hs;exact .int k n
 case str s=>subst hs;exact .str s
 case nilp=>subst hs;exact .nilp
 case ptr l i o hl=>subst hs;exact .ptr o (join_sb hx hP hl)
 case nils n c=>subst hs;exact .nils n c
 case slice l i o n c c' hl hc=>subst hs;exact .slice o n c c' (join_sb hx hP hl) hc
 case slice0 l i o o' c hl hc=>subst hs;exact .slice0 o o' c (join_sb hx hP hl) hc
 case nilm=>subst hs;exact .nilm
 case nilf=>subst hs;exact .nilf
 case nili=>subst hs;exact .nili
 all_goals cases hs
theorem shL_LR (hx:Ext σ0 σ) (hP:Post (μ.cut σ0.size) σ0 w μ₁ τ w₁):∀{vs vs' us:List Value},LR μ₁ vs vs'→shL (σ.size - σ0.size) σ0.size vs=some us→LR (μ.join μ₁ σ.size (σ.size - σ0.size)) us vs'
 | [],_,us, .nil,hs=>by simp[shL] at hs;subst hs;exact .nil
 |v::vs,_,us, .cons h1 h2,hs=>by
  simp only[shL] at hs;split at hs
  ·rename_i u us' hu hus
   cases hs
   exact .cons (shC_VR hx hP h1 hu) (shL_LR hx hP h2 hus)
  ·cases hs
theorem shT_VR (hx:Ext σ0 σ) (hP:Post (μ.cut σ0.size) σ0 w μ₁ τ w₁) {v v' u:Value} (h:VR μ₁ v v') (hs:shT (σ.size - σ0.size) σ0.size v=some u):VR (μ.join μ₁ σ.size (σ.size - σ0.size)) u v':=by
 unfold shT at hs;split at hs
 ·rename_i cs
  simp only[Option.map_eq_some_iff] at hs;obtain⟨us,hu,rfl⟩:=hs;obtain⟨a',rfl,hl⟩:=h.of_agg;have:=VR.agg' (shL_LR hx hP hl hu)
  simpa using this
 ·exact shC_VR hx hP h hs
theorem shTs_LR (hx:Ext σ0 σ) (hP:Post (μ.cut σ0.size) σ0 w μ₁ τ w₁):∀{vs vs' us:List Value},LR μ₁ vs vs'→shTs (σ.size - σ0.size) σ0.size vs=some us→LR (μ.join μ₁ σ.size (σ.size - σ0.size)) us vs'
 | [],_,us, .nil,hs=>by simp[shTs] at hs;subst hs;exact .nil
 |v::vs,_,us, .cons h1 h2,hs=>by
  simp only[shTs] at hs;split at hs
  ·rename_i u us' hu hus
   cases hs
   exact .cons (shT_VR hx hP h1 hu) (shTs_LR hx hP h2 hus)
  ·cases hs
theorem shTop_VR (hx:Ext σ0 σ) (hP:Post (μ.cut σ0.size) σ0 w μ₁ τ w₁) {v v' u:Value} (h:VR μ₁ v v') (hs:shTop (σ.size - σ0.size) σ0.size v=some u):VR (μ.join μ₁ σ.size (σ.size - σ0.size)) u v':=by
 unfold shTop at hs;split at hs
 ·rename_i cs
  simp only[Option.map_eq_some_iff] at hs;obtain⟨us,hu,rfl⟩:=hs;obtain⟨a',rfl,hl⟩:=h.of_tuple;have:=VR.tuple' (shTs_LR hx hP hl hu)
  simpa using this
 ·exact shT_VR hx hP h hs
theorem rel_join (hR:Rel P μ σ w) (h0:RoAll σ0) (hx:Ext σ0 σ) (hR1:Rel P μ₁ τ w₁) (hP:Post (μ.cut σ0.size) σ0 w μ₁ τ w₁):
  Rel P (μ.join μ₁ σ.size (σ.size - σ0.size)) (embed (σ.size - σ0.size) σ0.size τ (τ.size - σ0.size) σ) w₁∧
  Post μ σ w (μ.join μ₁ σ.size (σ.size - σ0.size)) (embed (σ.size - σ0.size) σ0.size τ (τ.size - σ0.size) σ) w₁:=by
 have hs:=hx.size;have hts:=hP.ssz;have hext:=join_ext (μ₁:=μ₁) hR (σ.size - σ0.size)
 have hkeep:∀b,b<w.heap.size→w₁.heap[b]?=w.heap[b]?:=fun b hb=>hP.keeps b hb fun l i hl _=>h0.ro (Mu.cut_some.1 hl).1
 have hold:∀l,l<σ.size→(embed (σ.size - σ0.size) σ0.size τ (τ.size - σ0.size) σ).get l=σ.get l:=fun l hl=>by rw[embed_get,if_pos hl]
 have hnew:∀l i,σ.size≤l→(μ.join μ₁ σ.size (σ.size - σ0.size)) l=some i→μ₁ (l -(σ.size - σ0.size))=some i∧σ0.size≤l -(σ.size - σ0.size)∧l<σ.size+(τ.size - σ0.size)∧
   (embed (σ.size - σ0.size) σ0.size τ (τ.size - σ0.size) σ).get l=some (shObj (σ.size - σ0.size) σ0.size (τ.get (l -(σ.size - σ0.size))))∧w.heap.size≤i.block:=by
  intro l i hl hm;have hm1:μ₁ (l -(σ.size - σ0.size))=some i:=by simpa[Mu.join,show ¬l<σ.size by omega] using hm
  have hd:=hR1.dom _ _ hm1;have h1:l<σ.size+(τ.size - σ0.size):=by omega
  refine⟨hm1,by omega,h1, ?_,made_fresh h0 hP hm1 (by omega)⟩
  rw[embed_get,if_neg (by omega),if_pos h1]
  congr 3;omega
 have hcase:∀l i,(μ.join μ₁ σ.size (σ.size - σ0.size)) l=some i→(l<σ.size∧μ l=some i)∨σ.size≤l:=by
  intro l i hm;by_cases h:l<σ.size
  ·left;exact⟨h,by simpa[Mu.join,h] using hm⟩
  ·right;omega
 have hnd:∀l,¬Dead (embed (σ.size - σ0.size) σ0.size τ (τ.size - σ0.size) σ) l→l<σ.size+(τ.size - σ0.size)→σ.size≤l→¬Dead τ (l -(σ.size - σ0.size)):=by
  intro l hd h1 h2 hh
  apply hd
  unfold Dead;rw[embed_get,if_neg (by omega),if_pos h1]
  have:σ0.size+(l - σ.size)=l -(σ.size - σ0.size):=by omega
  rw[this,show τ.get (l -(σ.size - σ0.size))=some .dead from hh];rfl
 have hnro:∀l,σ.size≤l→¬Ro (embed (σ.size - σ0.size) σ0.size τ (τ.size - σ0.size) σ) l:=by
  rintro l hl ⟨e,c,hg⟩
  rw[embed_get,if_neg (by omega)] at hg
  split at hg
  ·have e1:σ0.size+(l - σ.size)=l -(σ.size - σ0.size):=by omega
   rw[e1] at hg;have:=hP.nro (l -(σ.size - σ0.size)) (by omega)
   unfold shObj at hg;split at hg
   ·rename_i st e' c' hg'
    split at hg
    ·cases hg;exact this ⟨_,_,hg'⟩
    ·cases hg
   ·cases hg
  ·cases hg
 refine⟨⟨?_, ?_, ?_, ?_⟩,⟨hext, ?_, ?_, ?_, ?_,hnro,hP.wsz,fun b hb _=>hkeep b hb, ?_,hP.loops,hP.sam⟩⟩
 ·intro l i hm
  rw[embed_size];rcases hcase l i hm with⟨h,_⟩|h
  ·omega
  ·exact(hnew l i h hm).2.2.1
 ·intro l i hm
  rcases hcase l i hm with⟨_,h⟩|h
  ·have:=hR.bnd l i h;have:=hP.wsz;omega
  ·exact hR1.bnd _ _ (hnew l i h hm).1
 ·intro l i hm
  rcases hcase l i hm with⟨h,h2⟩|h
  ·rw[hold l h]
   exact(hR.obj l i h2).world hext (hkeep _ (hR.bnd l i h2))
  ·obtain⟨m1,m2,m3,m4,m5⟩:=hnew l i h hm
   rw[m4];have hob:=hR1.obj _ _ m1;unfold shObj;split
   ·rename_i st e c hg
    rw[hg] at hob;split
    ·rename_i c' hc'
     obtain⟨g1,g2,C,E,fr,g3,g4,g5,g6⟩:=hob;have hl:=shL_LR hx hP g5 hc';have e1:=hl.length;have e2:=g5.length;exact⟨by rw[g1];omega,g2,C,E,fr,g3,g4,hl,g6⟩
    ·trivial
   ·trivial
 ·intro l₁ l₂ i₁ i₂ h1 h2 hne hd1 hd2 hr1
  rcases hcase l₁ i₁ h1 with⟨a1,a2⟩|a
  ·rcases hcase l₂ i₂ h2 with⟨b1,b2⟩|b
   ·refine hR.apart l₁ l₂ i₁ i₂ a2 b2 hne ?_ ?_ ?_
    ·intro x;exact hd1 (by unfold Dead at*;rw[hold _ a1];exact x)
    ·intro x;exact hd2 (by unfold Dead at*;rw[hold _ b1];exact x)
    ·intro x;exact hr1 (by unfold Ro at*;rw[hold _ a1];exact x)
   ·left
    have:=hR.bnd _ _ a2
    have:=(hnew l₂ i₂ b h2).2.2.2.2
    omega
  ·obtain⟨m1,m2,m3,m4,m5⟩:=hnew l₁ i₁ a h1
   rcases hcase l₂ i₂ h2 with⟨b1,b2⟩|b
   ·left
    have:=hR.bnd _ _ b2
    omega
   ·obtain⟨n1,n2,n3,n4,n5⟩:=hnew l₂ i₂ b h2
    exact hR1.apart _ _ _ _ m1 n1 (by omega) (hnd l₁ hd1 m3 a) (hnd l₂ hd2 n3 b) (hP.nro _ m2)
 ·intro l i hm
  rcases hcase l i hm with⟨_,h⟩|h
  ·exact .inl h
  ·exact .inr h
 ·rw[embed_size];omega
 ·intro l hl;unfold Ro;rw[hold l hl]
 ·intro l hl _;exact hold l hl
 ·intro l i hm hib hr
  rcases hcase l i hm with⟨h,h2⟩|h
  ·exact⟨l,i,h2,rfl,fun x=>hr (by unfold Ro at*;rw[hold _ h];exact x)⟩
  ·have:=(hnew l i h hm).2.2.2.2;omega
end
open Classical in
noncomputable def hook (σ0:Store) (K:FuncId→List Value→Option (Value×Store)):Caller:=fun f args σ=>
 match f with
 | .func g=>
  if Ext σ0 σ∧∀a∈args,Low σ0.size a then
   match K g args with
   |some (v,τ)=>(shTop (σ.size - σ0.size) σ0.size v).map fun v'=>(v',embed (σ.size - σ0.size) σ0.size τ (τ.size - σ0.size) σ)
   |none=>none
  else none
 | .yield _=>none
theorem hook_at {σ0:Store} {K:FuncId→List Value→Option (Value×Store)} {g:FuncId} {args:List Value} {σ:Store} {r:Value×Store} (h:hook σ0 K (.func g) args σ=some r):
  Ext σ0 σ∧(∀a∈args,Low σ0.size a)∧∃v τ v',K g args=some (v,τ)∧shTop (σ.size - σ0.size) σ0.size v=some v'∧r=(v',embed (σ.size - σ0.size) σ0.size τ (τ.size - σ0.size) σ):=by
 unfold hook at h;simp only at h;split at h
 ·rename_i hh
  split at h
  ·rename_i v τ hK
   simp only[Option.map_eq_some_iff] at h;obtain⟨v',hv,rfl⟩:=h;exact⟨hh.1,hh.2,v,τ,v',hK,hv,rfl⟩
  ·cases h
 ·cases h
theorem hook_eq {σ0:Store} {K:FuncId→List Value→Option (Value×Store)} {g:FuncId} {args:List Value} {σ τ:Store} {v v':Value} (h1:Ext σ0 σ) (h2:∀a∈args,Low σ0.size a) (h3:K g args=some (v,τ)) (h4:shTop (σ.size - σ0.size) σ0.size v=some v'):
  hook σ0 K (.func g) args σ=some (v',embed (σ.size - σ0.size) σ0.size τ (τ.size - σ0.size) σ):=by
 unfold hook;simp only
 rw[if_pos ⟨h1,h2⟩,h3];simp only[h4,Option.map_some]
theorem hook_COK {σ0:Store} (h0:RoAll σ0) {K:FuncId→List Value→Option (Value×Store)} (hK:∀g args r,K g args=some r→∃C,COK P C∧C (.func g) args σ0=some r):COK P (hook σ0 K) where
 good:=by
  intro f args σ v σ' h μ w args' fr hR hav hst c cs;cases hst with
  |func g args'=>
   obtain⟨hx,hlow,v0,τ,v1,hk,hv,hr⟩:=hook_at h;cases hr
   obtain⟨C,hC,hrun⟩:=hK _ _ _ hk;obtain⟨μ1,w1,v',hs,hvr,hR1,hP1⟩:=hC.good _ _ _ _ _ hrun (μ.cut σ0.size) w _ _ (hR.cut h0 hx) (hav.cut hlow) (.func g args') c cs;obtain⟨hj,hpj⟩:=rel_join hR h0 hx hR1 hP1;exact⟨_,w1,v',hs,shTop_VR hx hP1 hvr hv,hj,hpj⟩
  |yield args' hl hr=>simp[hook] at h
 funcs:=by
  intro g args σ r h;obtain⟨hx,hlow,v0,τ,v1,hk,hv,hr⟩:=hook_at h;obtain⟨C,hC,hrun⟩:=hK _ _ _ hk;exact hC.funcs _ _ _ _ hrun
 yields:=by
  intro l args σ r h;simp[hook] at h
end Go.Ev
end EvHook
section EvT
namespace Go.Ev
def RunC (F:FuncId→Option EFunc) (H:Caller) (f:Callee) (args:List Value) (σ:Store) (r:Value×Store):Prop:=∃N,∀n,N≤n→evCall F H n f args σ=some r
def RunB (F:FuncId→Option EFunc) (H:Caller) (c:EC) (a:Env) (σ:Store) (r:Ex×Env×Store):Prop:=∃N,∀n,N≤n→evCode (evCall F H n) n c a σ=some r
def RunO (F:FuncId→Option EFunc) (H:Caller) (ops:List EOp) (a:Env) (σ:Store) (r:Env×Store):Prop:=∃N,∀n,N≤n→evOps (evCall F H n) ops a σ=some r
def RunD (F:FuncId→Option EFunc) (H:Caller) (base:Nat) (ops:List EOp) (a:Env) (σ:Store) (r:Env×Store):Prop:=
 ∃N,∀n,N≤n→∀h,∃h',evOpsD (evCall F H n) base ops a σ h []=some (r.1,r.2,h',[])
def WC (F:FuncId→Option EFunc) (H:Caller) (f:Callee) (args:List Value) (Q:Value→Store→Prop) (σ:Store):Prop:=∃v σ',RunC F H f args σ (v,σ')∧Q v σ'
def WB (F:FuncId→Option EFunc) (H:Caller) (c:EC) (Q:Ex→Env→Store→Prop) (a:Env) (σ:Store):Prop:=∃e a' σ',RunB F H c a σ (e,a',σ')∧Q e a' σ'
def WO (F:FuncId→Option EFunc) (H:Caller) (ops:List EOp) (Q:Env→Store→Prop) (a:Env) (σ:Store):Prop:=∃a' σ',RunO F H ops a σ (a',σ')∧Q a' σ'
def WD (F:FuncId→Option EFunc) (H:Caller) (base:Nat) (ops:List EOp) (Q:Env→Store→Prop) (a:Env) (σ:Store):Prop:=∃a' σ',RunD F H base ops a σ (a',σ')∧Q a' σ'
def WL (F:FuncId→Option EFunc) (H:Caller) (b:EC) (Q:Ex→Env→Store→Prop) (a:Env) (σ:Store):Prop:=
 ∃e a' σ',(∃N,∀n m,N≤n→N≤m→loopN (evCode (evCall F H n) n b) m a σ=some (e,a',σ'))∧Q e a' σ'
section
variable {F :FuncId→Option EFunc} {H:Caller} {a:Env} {σ:Store}
theorem WC.mono {f:Callee} {args:List Value} {Q Q':Value→Store→Prop} (h:WC F H f args Q σ) (hq:∀v σ',Q v σ'→Q' v σ'):WC F H f args Q' σ:=by
 obtain⟨v,σ',h1,h2⟩:=h;exact⟨v,σ',h1,hq _ _ h2⟩
theorem WB.mono {c:EC} {Q Q':Ex→Env→Store→Prop} (h:WB F H c Q a σ) (hq:∀e a' σ',Q e a' σ'→Q' e a' σ'):WB F H c Q' a σ:=by
 obtain⟨e,a',σ',h1,h2⟩:=h;exact⟨e,a',σ',h1,hq _ _ _ h2⟩
theorem WO.mono {ops:List EOp} {Q Q':Env→Store→Prop} (h:WO F H ops Q a σ) (hq:∀a' σ',Q a' σ'→Q' a' σ'):WO F H ops Q' a σ:=by
 obtain⟨a',σ',h1,h2⟩:=h;exact⟨a',σ',h1,hq _ _ h2⟩
theorem WO_nil {Q:Env→Store→Prop} (h:Q a σ):WO F H [] Q a σ:=⟨a,σ,⟨0,fun _ _=>rfl⟩,h⟩
theorem WO_op {o:EOp} {os:List EOp} {Q:Env→Store→Prop} {v:Value} {σ':Store} (hw:wanted o a=true) (he:∀C,evOp C o.op a σ=some (v,σ')) (h:WO F H os Q (a.put o.dst v) σ'):WO F H (o::os) Q a σ:=by
 obtain⟨a2,σ2,⟨N,hN⟩,hq⟩:=h;exact⟨a2,σ2,⟨N,fun n hn=>by simp only[evOps,hw,if_true,he,hN n hn]⟩,hq⟩
theorem WO_skip {o:EOp} {os:List EOp} {Q:Env→Store→Prop} (hw:wanted o a=false) (h:WO F H os Q (a.put o.dst undefE) σ):WO F H (o::os) Q a σ:=by
 obtain⟨a2,σ2,⟨N,hN⟩,hq⟩:=h;exact⟨a2,σ2,⟨N,fun n hn=>by simp only[evOps,hw,Bool.false_eq_true,if_false,hN n hn]⟩,hq⟩
theorem WO_call {o:EOp} {os:List EOp} {Q:Env→Store→Prop} {f:Operand} {args:List Operand} (hw:wanted o a=true) (ho:o.op= .call f args) {g:FuncId} {first caps:Array Value} (hf:a.eval f= .func (.func g) first caps)
  (h:WC F H (.func g) (first.toList++args.map a.eval++caps.toList) (fun v σ'=>WO F H os Q (a.put o.dst v) σ') σ):WO F H (o::os) Q a σ:=by
 obtain⟨v,σ1,⟨N,hN⟩,a2,σ2,⟨M,hM⟩,hq⟩:=h;exact⟨a2,σ2,⟨max N M,fun n hn=>by simp only[evOps,hw,if_true,ho,evOp,hf,evCallV,hN n (by omega),hM n (by omega)]⟩,hq⟩
theorem WD_nil {base:Nat} {Q:Env→Store→Prop} (h:Q a σ):WD F H base [] Q a σ:=⟨a,σ,⟨0,fun _ _ h=> ⟨h,rfl⟩⟩,h⟩
theorem WD_op {base:Nat} {o:EOp} {os:List EOp} {Q:Env→Store→Prop} {v:Value} {σ':Store} (hwin:o.win=none) (hw:wanted o a=true) (he:∀C,evOpD C base o.op a σ=some (v,σ')) (h:WD F H base os Q (a.put o.dst v) σ'):WD F H base (o::os) Q a σ:=by
 obtain⟨a2,σ2,⟨N,hN⟩,hq⟩:=h;refine⟨a2,σ2,⟨N,fun n hn h=> ?_⟩,hq⟩
 obtain⟨h',hh⟩:=hN n hn (if o.op.loud then h++ [σ'] else h)
 exact⟨h',by simp only[evOpsD,hw,if_true,he,hwin,hh]⟩
variable {Q :Ex→Env→Store→Prop}
theorem WB_skip (h:Q .norm a σ):WB F H .skip Q a σ:=⟨.norm,a,σ,⟨0,fun _ _=>rfl⟩,h⟩
theorem WB_exit {id:Nat} (h:Q (.exit id) a σ):WB F H (.exit id) Q a σ:=⟨_,a,σ,⟨0,fun _ _=>rfl⟩,h⟩
theorem WB_ret (h:Q .ret a σ):WB F H .ret Q a σ:=⟨_,a,σ,⟨0,fun _ _=>rfl⟩,h⟩
theorem WB_reg {ops:List EOp} (h:WO F H ops (fun a σ=>Q .norm a σ) a σ):WB F H (.reg ops) Q a σ:=by
 obtain⟨a2,σ2,⟨N,hN⟩,hq⟩:=h;exact⟨_,a2,σ2,⟨N,fun n hn=>by simp only[evCode,evReg,hN n hn,Option.map_some]⟩,hq⟩
theorem WB_regD {pre:List (TypeId×List Value)} {ops:List EOp} (h:WD F H σ.size ops (fun a σ=>Q .norm a σ) a (allocs pre σ)):WB F H (.regD pre ops) Q a σ:=by
 obtain⟨a2,σ2,⟨N,hN⟩,hq⟩:=h;refine⟨_,a2,σ2,⟨N,fun n hn=> ?_⟩,hq⟩
 obtain⟨h',hh⟩:=hN n hn [allocs pre σ];simp[evCode,evRegD,hh]
theorem WB_seq {x y:EC} (h:WB F H x (fun e a σ=>match e with| .norm=>WB F H y Q a σ|e=>Q e a σ) a σ):WB F H (.seq x y) Q a σ:=by
 obtain⟨e,a1,σ1,⟨N,hN⟩,h1⟩:=h;cases e with
 |norm=>
  obtain⟨e2,a2,σ2,⟨M,hM⟩,hq⟩:=h1;exact⟨e2,a2,σ2,⟨max N M,fun n hn=>by simp only[evCode,hN n (by omega),hM n (by omega)]⟩,hq⟩
 |exit id=>exact⟨_,a1,σ1,⟨N,fun n hn=>by simp only[evCode,hN n hn]⟩,h1⟩
 |ret=>exact⟨_,a1,σ1,⟨N,fun n hn=>by simp only[evCode,hN n hn]⟩,h1⟩
theorem WB_cond {c:Operand} {x y:EC} {b:Bool} (hb:a.eval c= .bool b) (h:WB F H (if b then x else y) Q a σ):WB F H (.cond c x y) Q a σ:=by
 obtain⟨e,a1,σ1,⟨N,hN⟩,h1⟩:=h;refine⟨e,a1,σ1,⟨N,fun n hn=> ?_⟩,h1⟩
 have:=hN n hn
 cases b
 ·simp only[evCode,hb];exact this
 ·simp only[evCode,hb];exact this
theorem WB_block {id:Nat} {b:EC} (h:WB F H b (fun e a σ=>if e= .exit id then Q .norm a σ else Q e a σ) a σ):WB F H (.block id b) Q a σ:=by
 obtain⟨e,a1,σ1,⟨N,hN⟩,h1⟩:=h;cases e with
 |norm=>exact⟨.norm,a1,σ1,⟨N,fun n hn=>by simp only[evCode,hN n hn]⟩,by simpa using h1⟩
 |ret=>exact⟨.ret,a1,σ1,⟨N,fun n hn=>by simp only[evCode,hN n hn]⟩,by simpa using h1⟩
 |exit id'=>
  by_cases e:id'=id
  ·subst e;exact⟨.norm,a1,σ1,⟨N,fun n hn=>by simp only[evCode,hN n hn,if_true]⟩,by simpa using h1⟩
  ·exact⟨.exit id',a1,σ1,⟨N,fun n hn=>by simp only[evCode,hN n hn,if_neg e]⟩,by simpa[e] using h1⟩
theorem WL_step {b:EC} (h:WB F H b (fun e a σ=>match e with| .norm=>WL F H b Q a σ|e=>Q e a σ) a σ):WL F H b Q a σ:=by
 obtain⟨e,a1,σ1,⟨N,hN⟩,h1⟩:=h;cases e with
 |norm=>
  obtain⟨e2,a2,σ2,⟨M,hM⟩,hq⟩:=h1;refine⟨e2,a2,σ2,⟨max N M+1,fun n m hn hm=> ?_⟩,hq⟩
  obtain⟨m',rfl⟩:∃m',m=m'+1:=⟨m - 1,by omega⟩
  simp only[loopN,hN n (by omega),hM n m' (by omega) (by omega)]
 |exit id=>
  refine⟨_,a1,σ1,⟨N+1,fun n m hn hm=> ?_⟩,h1⟩
  obtain⟨m',rfl⟩:∃m',m=m'+1:=⟨m - 1,by omega⟩
  simp only[loopN,hN n (by omega)]
 |ret=>
  refine⟨_,a1,σ1,⟨N+1,fun n m hn hm=> ?_⟩,h1⟩
  obtain⟨m',rfl⟩:∃m',m=m'+1:=⟨m - 1,by omega⟩
  simp only[loopN,hN n (by omega)]
theorem WB_loop {b:EC} (h:WL F H b Q a σ):WB F H (.loop b) Q a σ:=by
 obtain⟨e,a1,σ1,⟨N,hN⟩,h1⟩:=h;exact⟨e,a1,σ1,⟨N,fun n hn=>by simp only[evCode,hN n n hn hn]⟩,h1⟩
theorem WB_loop_inv {b:EC} (I:Nat→Env→Store→Prop) (h:∀k a σ,I k a σ→WB F H b (fun e a' σ'=>match e with| .norm=>∃k',k'<k∧I k' a' σ'|e=>Q e a' σ') a σ) {k:Nat} (h0:I k a σ):WB F H (.loop b) Q a σ:=by
 refine WB_loop ?_
 induction k using Nat.strongRecOn generalizing a σ with
 |ind k ih=>
  refine WL_step ((h k a σ h0).mono fun e a' σ' hq=> ?_)
  cases e with
  |norm=>obtain⟨k',hk,hi⟩:=hq;exact ih k' hk hi
  |exit id=>exact hq
  |ret=>exact hq
theorem WC_func {f:FuncId} {fn:EFunc} {args:List Value} {Q:Value→Store→Prop} (hf:F f=some fn) (hH:H (.func f) args σ=none) (hl:args.length≤fn.ntmps)
  (h:WB F H fn.body (fun e a σ'=>(e= .norm∨e= .ret)∧∃vs,resultsE fn.results a σ'=some vs∧Q (packE vs) σ') (envOf args) σ):WC F H (.func f) args Q σ:=by
 obtain⟨e,a1,σ1,⟨N,hN⟩,he,vs,hvs,hq⟩:=h;refine⟨packE vs,σ1,⟨N+1,fun n hn=> ?_⟩,hq⟩
 obtain⟨n',rfl⟩:∃n',n=n'+1:=⟨n - 1,by omega⟩
 have:=hN n' (by omega)
 have hl':¬fn.ntmps<args.length:=by omega
 simp only[evCall,hH,evStep,hf,if_neg hl',this];rcases he with rfl|rfl<;>simp[hvs]
theorem WC_hook {f:Callee} {args:List Value} {Q:Value→Store→Prop} {v:Value} {σ':Store} (hH:H f args σ=some (v,σ')) (hq:Q v σ'):WC F H f args Q σ:=by
 refine⟨v,σ',⟨1,fun n hn=> ?_⟩,hq⟩
 obtain⟨n',rfl⟩:∃n',n=n'+1:=⟨n - 1,by omega⟩
 simp only[evCall,hH]
theorem WC_yield {l:Nat} {args:List Value} {Q:Value→Store→Prop} {tm:T Value} {ps:List Tmp} {as b:EC} {st:LoopState} {pend:Option EC} (hH:H (.yield l) args σ=none) (hg:σ.get l=some (.loop tm ps as b st pend)) (hl:ps.length=args.length)
  (h:WB F H as (fun e a σ₁=>e= .norm∧∃tm' ps' as' b' pend',σ₁.get l=some (.loop tm' ps' as' b' .ready pend')∧
   WB F H b (fun e _ σ₂=>∃tm'' ps'' as'' b'' st'' pend'',σ₂.get l=some (.loop tm'' ps'' as'' b'' st'' pend'')∧Q (.bool (e= .norm)) (σ₂.set l (.loop tm'' ps'' as'' b'' (if e= .norm then .ready else .done) (pendEx e)))) a
    (σ₁.set l (.loop tm' ps' as' b' .busy pend'))) ((ps.zip args).foldl (fun e (x:Tmp×Value)=>T.set e x.1 x.2) tm) σ):WC F H (.yield l) args Q σ:=by
 obtain⟨e,a1,σ1,⟨N,hN⟩,rfl,tm',ps',as',b',pend',hg1,e2,a2,σ2,⟨M,hM⟩,tm'',ps'',as'',b'',st'',pend'',hg2,hq⟩:=h;refine⟨_,_,⟨max N M+1,fun n hn=> ?_⟩,hq⟩
 obtain⟨n',rfl⟩:∃n',n=n'+1:=⟨n - 1,by omega⟩
 have h1:=hN n' (by omega)
 have h2:=hM n' (by omega)
 have hl':¬ps.length≠args.length:=by simp[hl]
 have h1':evCode (evCall F H n') n' as ((ps.zip args).foldl (fun e (t,v)=>T.set e t v) tm) σ=some (.norm,a1,σ1):=h1
 simp only[evCall,hH,evStep,hg,if_neg hl',h1',hg1,ne_eq,not_true_eq_false,if_false,h2,hg2]
theorem WB_rangeF {f:Operand} {ps:List Tmp} {as b:EC} {g:FuncId} {first caps:Array Value} (hf:a.eval f= .func (.func g) first caps)
  (h:WC F H (.func g) (first.toList++ [.func (.yield σ.size) #[] #[]]++caps.toList) (fun _ σ'=>∃tm ps' as' b' st pend e,σ'.get σ.size=some (.loop tm ps' as' b' st pend)∧st≠ .busy∧pend=pendEx e∧
   Q e a (σ'.set σ.size (.loop tm ps' as' b' .exhausted pend))) (σ.alloc (.loop a ps as b .ready none))):WB F H (.rangeF f ps as b) Q a σ:=by
 obtain⟨v,σ1,⟨N,hN⟩,tm,ps',as',b',st,pend,e,hg,hst,rfl,hq⟩:=h;refine⟨e,a,_,⟨N,fun n hn=> ?_⟩,hq⟩
 have:=hN n hn
 simp only[evCode,hf,evCallV,this,hg,if_neg hst];cases e<;>rfl
end
end Go.Ev
end EvT
section EvS
namespace Go.Ev
section
variable {F :FuncId→Option EFunc} {H:Caller} {a:Env} {σ:Store}
def I.isCall :I→Bool
 | .call .. =>true
 |_=>false
theorem sO_op {d:Option Tmp} {op:I} {w:Option (Nat×Nat)} {os:List EOp} {Q:Env→Store→Prop} (hc:op.isCall=false) (h:∃v σ',evI op a σ=some (v,σ')∧WO F H os Q (a.put d v) σ'):WO F H (⟨d,op,none,w⟩::os) Q a σ:=by
 obtain⟨v,σ',he,h⟩:=h;refine WO_op (o:=⟨d,op,none,w⟩) rfl (fun C=> ?_) h
 cases op<;>first|exact he|cases hc
theorem sO_call {d:Option Tmp} {f:Operand} {args:List Operand} {w:Option (Nat×Nat)} {os:List EOp} {Q:Env→Store→Prop} {g:FuncId} {first caps:Array Value} {L:List Value} (hg:(⟨d, .call f args,none,w⟩:EOp).guard=none) (hf:a.eval f= .func (.func g) first caps) (hL:first.toList++args.map a.eval++caps.toList=L)
  (h:WC F H (.func g) L (fun v σ'=>WO F H os Q (a.put d v) σ') σ):WO F H (⟨d, .call f args,none,w⟩::os) Q a σ:=by
 subst hL;exact WO_call (o:=⟨d, .call f args,none,w⟩) rfl rfl hf h
theorem sO_opg {d:Option Tmp} {op:I} {t:Tmp} {g:Bool} {w:Option (Nat×Nat)} {os:List EOp} {Q:Env→Store→Prop} (hc:op.isCall=false) (hg:a.get t= .bool g) (h:∃v σ',evI op a σ=some (v,σ')∧WO F H os Q (a.put d v) σ'):WO F H (⟨d,op,some (t,g),w⟩::os) Q a σ:=by
 obtain⟨v,σ',he,h⟩:=h;refine WO_op (o:=⟨d,op,some (t,g),w⟩) (by simp[wanted,hg]) (fun C=> ?_) h
 cases op<;>first|exact he|cases hc
theorem sO_skip {d:Option Tmp} {op:I} {t:Tmp} {g b:Bool} {w:Option (Nat×Nat)} {os:List EOp} {Q:Env→Store→Prop} (hg:a.get t= .bool b) (hb:(b==g)=false) (h:WO F H os Q (a.put d undefE) σ):WO F H (⟨d,op,some (t,g),w⟩::os) Q a σ:=
 WO_skip (o:=⟨d,op,some (t,g),w⟩) (by simp only[wanted,hg,hb]) h
theorem sO_callg {d:Option Tmp} {f:Operand} {args:List Operand} {t:Tmp} {gb:Bool} {w:Option (Nat×Nat)} {os:List EOp} {Q:Env→Store→Prop} {g:FuncId} {first caps:Array Value} {L:List Value} (hgd:a.get t= .bool gb) (hf:a.eval f= .func (.func g) first caps) (hL:first.toList++args.map a.eval++caps.toList=L)
  (h:WC F H (.func g) L (fun v σ'=>WO F H os Q (a.put d v) σ') σ):WO F H (⟨d, .call f args,some (t,gb),w⟩::os) Q a σ:=by
 subst hL;exact WO_call (o:=⟨d, .call f args,some (t,gb),w⟩) (by simp[wanted,hgd]) rfl hf h
theorem sD_op {base:Nat} {d:Option Tmp} {op:I} {os:List EOp} {Q:Env→Store→Prop} (hc:(op.isCall||op.isPre)=false) (h:∃v σ',evI op a σ=some (v,σ')∧WD F H base os Q (a.put d v) σ'):WD F H base (⟨d,op,none,none⟩::os) Q a σ:=by
 obtain⟨v,σ',he,h⟩:=h;refine WD_op (o:=⟨d,op,none,none⟩) rfl rfl (fun C=> ?_) h
 cases op<;>first|exact he|cases hc
end
end Go.Ev
end EvS
section EvPut
namespace Go.Ev
def sL :=And.intro @loadE.eq_1 (And.intro @fillE.eq_2 (And.intro @fillE.eq_1 (And.intro @envOf.eq_1 (And.intro @Env.put.eq_2 (And.intro @Env.put.eq_1 (And.intro @Env.eval.eq_3 (And.intro @Env.eval.eq_2 (And.intro @Env.eval.eq_1 (And.intro @Env.get_put (And.intro @List.zipIdx_cons.{0} (And.intro @List.zipIdx_nil.{0} (And.intro @List.foldl_cons.{0,0} (And.intro @List.foldl_nil.{0,0} (And.intro @if_true.{1} (And.intro @if_false.{1} (And.intro @addr_add (And.intro @List.getElem?_cons_zero.{0} (And.intro @List.getElem?_cons_succ.{0} (And.intro @Nat.add_zero (And.intro @Nat.zero_add (And.intro @Option.map_some.{0,0} (And.intro @List.map_cons.{0,0} (And.intro @List.map_nil.{0,0} (And.intro @List.length_cons.{0} (And.intro @List.length_nil.{0} (And.intro @List.take_zero.{0} (And.intro @List.drop_zero.{0} (And.intro @List.take_succ_cons.{0} (And.intro @List.drop_succ_cons.{0} (And.intro @List.take_nil.{0} (And.intro @List.drop_nil.{0} (And.intro @List.nil_append.{0} (And.intro @List.append_nil.{0} (And.intro @List.cons_append.{0} (And.intro @Nat.le_refl (And.intro @and_self (And.intro @List.length_take.{0} (And.intro @Store.get_alloc (And.intro @Store.size_alloc (And.intro @Store.size_set (And.intro @Nat.add_left_cancel_iff (And.intro @List.all_cons.{0} (And.intro @List.all_nil.{0} (And.intro @Bool.and_true (And.intro @ne_eq.{1} (And.intro @not_false_eq_true (And.intro @true_and (@and_true))))))))))))))))))))))))))))))))))))))))))))))))
inductive LAt (σ:Store) (e:TypeId):Value→List Value→Prop where
 |nil:LAt σ e (.slice none 0 0) []
 |at (l:Nat) (N:List Value):σ.get l=some (.cells .grow e N)→N.all oneC=true→LAt σ e (.slice (some ⟨l,0,none⟩) N.length INF) N
theorem LAt.keep {σ σ':Store} {e:TypeId} {s:Value} {N:List Value} (h:LAt σ e s N) (hk:∀l,blockOf s=some l→σ'.get l=σ.get l):LAt σ' e s N:=by
 cases h with
 |nil=>exact .nil
 | «at» l N hg hN=>exact .at l N (by rw[hk l rfl];exact hg) hN
theorem LAt.lt {σ:Store} {e:TypeId} {s:Value} {N:List Value} (h:LAt σ e s N) {l:Nat} (hb:blockOf s=some l):l<σ.size:=by
 cases h with
 |nil=>cases hb
 | «at» l' N hg hN=>cases hb;exact Store.get_lt hg
theorem LAt.app {σ:Store} {e:TypeId} {s:Value} {N:List Value} (h:LAt σ e s N) {bytes n c:Nat} {xb:Option Addr} {new:List Value} (hsrc:srcE σ 1 n xb=some new) (hn:new.length=n) (hpos:0<n) (hnew:new.all oneC=true) (hroom:N.length+n≤2^31) (hbytes:bytes≤2^16):
  ∃σ',app σ e 1 bytes s (.slice xb n c)=some (.slice (some ⟨σ.size,0,none⟩) (N++new).length INF,σ')∧LAt σ' e (.slice (some ⟨σ.size,0,none⟩) (N++new).length INF) (N++new)∧σ'.size=σ.size+1∧∀l,l<σ.size→blockOf s≠some l→σ'.get l=σ.get l:=by
 have hlen:(N++new).length=N.length+n:=by simp[hn]
 cases h with
 |nil=>
  refine⟨σ.alloc (.cells .grow e new), ?_, ?_,rfl, ?_⟩
  ·unfold Ev.app
   simp only[hsrc];rw[if_pos (by simp),if_neg (by omega),if_pos ⟨by simpa using hroom,hbytes⟩,hlen]
   simp
  ·simp only[List.nil_append]
   exact .at _ _ (by rw[Store.get_alloc,if_pos rfl]) hnew
  ·intro l hl _
   rw[Store.get_alloc,if_neg (by omega)]
 | «at» l0 N hg hN=>
  have hlt:=Store.get_lt hg;refine⟨(σ.set l0 .dead).alloc (.cells .grow e (N++new)), ?_, ?_,rfl, ?_⟩
  ·unfold Ev.app
   simp only[hsrc,hg,Nat.zero_add,Nat.mul_one,Nat.le_refl,if_true];rw[if_neg (by omega),if_pos ⟨trivial,trivial⟩,if_neg (by omega),if_pos ⟨hroom,hbytes,hnew⟩,hlen]
   simp
  ·refine .at _ _ ?_ (by simp[List.all_append,hN,hnew])
   rw[Store.get_alloc];have:(σ.set l0 .dead).size=σ.size:=rfl
   rw[this,if_pos rfl]
  ·intro l hl hne
   have h1:l≠l0:=by intro e;subst e;exact hne rfl
   rw[Store.get_alloc,show(σ.set l0 EObj.dead).size=σ.size from rfl,if_neg (by omega),Store.get_set _ _ _ _ hlt,if_neg h1]
structure HT where
 hp:TypeId
 int:TypeId
 str:TypeId
structure HAt (t:HT) (σ:Store) (h:Nat) (N S:List Value) (sn ss:Value):Prop where
 cell:σ.get h=some (.cells .rw t.hp [sn,ss])
 nums:LAt σ t.int sn N
 strs:LAt σ t.str ss S
 ne:∀l,blockOf sn=some l→blockOf ss≠some l
 hn:blockOf sn≠some h
 hs:blockOf ss≠some h
def ownH (h:Nat) (sn ss:Value) (l:Nat):Prop:=l=h∨blockOf sn=some l∨blockOf ss=some l
structure KeepH (σ σ':Store) (h:Nat) (sn ss sn' ss':Value):Prop where
 size:σ.size≤σ'.size
 same:∀l,l<σ.size→¬ownH h sn ss l→σ'.get l=σ.get l
 own:∀l,ownH h sn' ss' l→ownH h sn ss l∨σ.size≤l
theorem KeepH.refl (σ:Store) (h:Nat) (sn ss:Value):KeepH σ σ h sn ss sn ss:=⟨Nat.le_refl _,fun _ _ _=>rfl,fun _ h=> .inl h⟩
theorem KeepH.trans {σ σ₁ σ₂:Store} {h:Nat} {sn ss sn₁ ss₁ sn₂ ss₂:Value} (k:KeepH σ σ₁ h sn ss sn₁ ss₁) (k':KeepH σ₁ σ₂ h sn₁ ss₁ sn₂ ss₂):KeepH σ σ₂ h sn ss sn₂ ss₂ where
 size:=Nat.le_trans k.size k'.size
 same l hl hn:=by
  rw[k'.same l (Nat.lt_of_lt_of_le hl k.size) (fun ho=> ?_),k.same l hl hn]
  rcases k.own l ho with h1|h1
  ·exact hn h1
  ·omega
 own l hl:=by
  rcases k'.own l hl with h1|h1
  ·exact k.own l h1
  ·exact .inr (Nat.le_trans k.size h1)
def Puts (t:HT) (F:FuncId→Option EFunc) (H:Caller) (f:FuncId) (args:List Value) (σ:Store) (h:Nat) (N S:List Value) (sn ss:Value) (A B:List Value):Prop:=
 WC F H (.func f) (.pointer (some ⟨h,0,none⟩)::args) (fun _ σ'=>∃sn' ss',HAt t σ' h (N++A) (S++B) sn' ss'∧KeepH σ σ' h sn ss sn' ss') σ
end Go.Ev
end EvPut
section EvPut2
namespace Go.Ev
theorem LAt.one {σ:Store} {e:TypeId} {s:Value} {N:List Value} (h:LAt σ e s N):oneC s=true:=by cases h<;>rfl
inductive SAt (σ:Store) (esz:Nat):Value→Nat→List Value→Prop where
 |nil (cap:Nat):SAt σ esz (.slice none 0 cap) 0 []
 |at (l o n cap:Nat) (st:St) (e:TypeId) (c:List Value):σ.get l=some (.cells st e c)→o+n*esz≤c.length→SAt σ esz (.slice (some ⟨l,o,none⟩) n cap) n ((c.drop o).take (n*esz))
theorem SAt.keep {σ σ':Store} {esz:Nat} {v:Value} {n:Nat} {cs:List Value} (h:SAt σ esz v n cs) (hk:∀l,blockOf v=some l→σ'.get l=σ.get l):SAt σ' esz v n cs:=by
 cases h with
 |nil cap=>exact .nil cap
 | «at» l o n cap st e c hg hl=>exact .at l o n cap st e c (by rw[hk l rfl];exact hg) hl
theorem SAt.lt {σ:Store} {esz:Nat} {v:Value} {n:Nat} {cs:List Value} (h:SAt σ esz v n cs) {l:Nat} (hb:blockOf v=some l):l<σ.size:=by
 cases h with
 |nil=>cases hb
 | «at» l' o n cap st e c hg hl=>cases hb;exact Store.get_lt hg
def elemV (esz:Nat) (sh:Option Nat) (cs:List Value) (i:Nat):Value:=
 match sh with
 |none=>cs.getD (i*esz) undefE
 |some m=> .agg ((cs.drop (i*esz)).take m).toArray
theorem SAt.load {σ:Store} {esz:Nat} {v:Value} {n:Nat} {cs:List Value} (h:SAt σ esz v n cs) {sh:Option Nat} (hsh:sh=none∧0<esz∨sh=some esz) {i:Nat} (hi:i<n):
  ∃p cap,v= .slice (some p) n cap∧loadE σ sh (p.add (i*esz))=some (elemV esz sh cs i):=by
 cases h with
 |nil=>omega
 | «at» l o n cap st e c hg hl=>
  have h1:(i+1)*esz≤n*esz:=Nat.mul_le_mul_right _ hi
  rw[Nat.succ_mul] at h1;refine⟨_,cap,rfl, ?_⟩
  unfold loadE elemV;simp only[addr_add,hg];rcases hsh with⟨rfl,hpos⟩|rfl
  ·simp only
   have h2:o+i*esz<c.length:=by omega
   rw[List.getElem?_eq_getElem h2]
   have:((c.drop o).take (n*esz)).getD (i*esz) undefE=c[o+i*esz]:=by
    rw[List.getD_eq_getElem?_getD,get_seg,if_pos (by omega),List.getElem?_eq_getElem h2];rfl
   rw[this]
  ·simp only
   rw[if_pos (by omega)]
   have:((((c.drop o).take (n*esz)).drop (i*esz)).take esz)=((c.drop (o+i*esz)).take esz):=by
    apply List.ext_getElem?
    intro j;rw[get_seg,get_seg,get_seg];by_cases hj:j<esz
    ·rw[if_pos hj,if_pos hj,if_pos (by omega),Nat.add_assoc]
    ·rw[if_neg hj,if_neg hj]
   rw[this]
def OK :=Store→Nat→Value→Value→Prop
def Stable (ok:OK):Prop:=∀σ σ' h sn ss sn' ss',ok σ h sn ss→KeepH σ σ' h sn ss sn' ss'→ok σ' h sn' ss'
structure PV (t:HT) (F:FuncId→Option EFunc) (H:Caller) (f:FuncId) (args:List Value) (ok:OK) (A B:List Value):Prop where
 stable:Stable ok
 run:∀σ h N S sn ss,HAt t σ h N S sn ss→ok σ h sn ss→N.length+A.length≤2^31→S.length+B.length≤2^31→Puts t F H f args σ h N S sn ss A B
def okS (esz:Nat) (v:Value) (n:Nat) (cs:List Value):OK:=fun σ h sn ss=>SAt σ esz v n cs∧∀l,blockOf v=some l→¬ownH h sn ss l
theorem okS_stable (esz:Nat) (v:Value) (n:Nat) (cs:List Value):Stable (okS esz v n cs):=by
 rintro σ σ' h sn ss sn' ss' ⟨h1,h2⟩ hk
 refine⟨h1.keep fun l hl=>hk.same l (h1.lt hl) (h2 l hl),fun l hl ho=> ?_⟩
 rcases hk.own l ho with h3|h3
 ·exact h2 l hl h3
 ·have:=h1.lt hl;omega
theorem HAt.push {t:HT} {σ:Store} {h:Nat} {N S:List Value} {sn ss:Value} (hA:HAt t σ h N S sn ss) {bytes n c:Nat} {xb:Option Addr} {new:List Value} (hsrc:srcE σ 1 n xb=some new) (hn:new.length=n) (hpos:0<n) (hnew:new.all oneC=true) (hroom:N.length+n≤2^31) (hbytes:bytes≤2^16):
  ∃σ',app σ t.int 1 bytes sn (.slice xb n c)=some (.slice (some ⟨σ.size,0,none⟩) (N++new).length INF,σ')∧h<σ'.size∧σ'.get h=some (.cells .rw t.hp [sn,ss])∧
   HAt t (σ'.set h (.cells .rw t.hp [.slice (some ⟨σ.size,0,none⟩) (N++new).length INF,ss])) h (N++new) S (.slice (some ⟨σ.size,0,none⟩) (N++new).length INF) ss∧
   KeepH σ (σ'.set h (.cells .rw t.hp [.slice (some ⟨σ.size,0,none⟩) (N++new).length INF,ss])) h sn ss (.slice (some ⟨σ.size,0,none⟩) (N++new).length INF) ss:=by
 obtain⟨σ',h1,h2,h4,h5⟩:=hA.nums.app (c:=c) hsrc hn hpos hnew hroom hbytes
 generalize hs':(.slice (some ⟨σ.size,0,none⟩) (N++new).length INF:Value)=s' at*
 have h3:blockOf s'=some σ.size:=by rw[←hs'];rfl
 have hlt:=Store.get_lt hA.cell;have hlt':h<σ'.size:=by omega
 have hh:σ'.get h=some (.cells .rw t.hp [sn,ss]):=by rw[h5 h hlt hA.hn];exact hA.cell
 refine⟨σ',h1,hlt',hh,⟨?_, ?_, ?_, ?_, ?_,hA.hs⟩,⟨?_, ?_, ?_⟩⟩
 ·rw[Store.get_set _ _ _ _ hlt',if_pos rfl]
 ·refine h2.keep fun l hl=> ?_
  rw[h3] at hl;cases hl
  rw[Store.get_set _ _ _ _ hlt',if_neg (by omega)]
 ·refine hA.strs.keep fun l hl=> ?_
  have h6:=hA.strs.lt hl;rw[Store.get_set _ _ _ _ hlt',if_neg (by intro e;subst e;exact hA.hs hl)]
  exact h5 l h6 fun e=>hA.ne l e hl
 ·intro l hl he
  rw[h3] at hl;cases hl
  have:=hA.strs.lt he;omega
 ·rw[h3];intro e;cases e;omega
 ·show σ.size≤σ'.size;omega
 ·intro l hl ho
  rw[Store.get_set _ _ _ _ hlt',if_neg (fun e=>ho (.inl e))]
  exact h5 l hl fun e=>ho (.inr (.inl e))
 ·rintro l (rfl|h6|h6)
  ·exact .inl (.inl rfl)
  ·rw[h3] at h6;cases h6;exact .inr (Nat.le_refl _)
  ·exact .inl (.inr (.inr h6))
theorem HAt.pushS {t:HT} {σ:Store} {h:Nat} {N S:List Value} {sn ss:Value} (hA:HAt t σ h N S sn ss) {bytes n c:Nat} {xb:Option Addr} {new:List Value} (hsrc:srcE σ 1 n xb=some new) (hn:new.length=n) (hpos:0<n) (hnew:new.all oneC=true) (hroom:S.length+n≤2^31) (hbytes:bytes≤2^16):
  ∃σ',app σ t.str 1 bytes ss (.slice xb n c)=some (.slice (some ⟨σ.size,0,none⟩) (S++new).length INF,σ')∧h<σ'.size∧σ'.get h=some (.cells .rw t.hp [sn,ss])∧
   HAt t (σ'.set h (.cells .rw t.hp [sn, .slice (some ⟨σ.size,0,none⟩) (S++new).length INF])) h N (S++new) sn (.slice (some ⟨σ.size,0,none⟩) (S++new).length INF)∧
   KeepH σ (σ'.set h (.cells .rw t.hp [sn, .slice (some ⟨σ.size,0,none⟩) (S++new).length INF])) h sn ss sn (.slice (some ⟨σ.size,0,none⟩) (S++new).length INF):=by
 obtain⟨σ',h1,h2,h4,h5⟩:=hA.strs.app (c:=c) hsrc hn hpos hnew hroom hbytes
 generalize hs':(.slice (some ⟨σ.size,0,none⟩) (S++new).length INF:Value)=s' at*
 have h3:blockOf s'=some σ.size:=by rw[←hs'];rfl
 have hlt:=Store.get_lt hA.cell;have hlt':h<σ'.size:=by omega
 have hh:σ'.get h=some (.cells .rw t.hp [sn,ss]):=by rw[h5 h hlt hA.hs];exact hA.cell
 refine⟨σ',h1,hlt',hh,⟨?_, ?_, ?_, ?_,hA.hn, ?_⟩,⟨?_, ?_, ?_⟩⟩
 ·rw[Store.get_set _ _ _ _ hlt',if_pos rfl]
 ·refine hA.nums.keep fun l hl=> ?_
  have h6:=hA.nums.lt hl;rw[Store.get_set _ _ _ _ hlt',if_neg (by intro e;subst e;exact hA.hn hl)]
  exact h5 l h6 fun e=>hA.ne l hl e
 ·refine h2.keep fun l hl=> ?_
  rw[h3] at hl;cases hl
  rw[Store.get_set _ _ _ _ hlt',if_neg (by omega)]
 ·intro l hl he
  rw[h3] at he;cases he
  have:=hA.nums.lt hl;omega
 ·rw[h3];intro e;cases e;omega
 ·show σ.size≤σ'.size;omega
 ·intro l hl ho
  rw[Store.get_set _ _ _ _ hlt',if_neg (fun e=>ho (.inl e))]
  exact h5 l hl fun e=>ho (.inr (.inr e))
 ·rintro l (rfl|h6|h6)
  ·exact .inl (.inl rfl)
  ·exact .inl (.inr (.inl h6))
  ·rw[h3] at h6;cases h6;exact .inr (Nat.le_refl _)
end Go.Ev
end EvPut2
section EvPut3
namespace Go.Ev
variable {t :HT} {F:FuncId→Option EFunc} {H:Caller}
theorem HAt.keep {σ σ':Store} {h:Nat} {N S:List Value} {sn ss:Value} (hA:HAt t σ h N S sn ss) (hk:∀l,ownH h sn ss l→σ'.get l=σ.get l):HAt t σ' h N S sn ss:=
 ⟨by rw[hk h (.inl rfl)];exact hA.cell,hA.nums.keep fun l hl=>hk l (.inr (.inl hl)),hA.strs.keep fun l hl=>hk l (.inr (.inr hl)),hA.ne,hA.hn,hA.hs⟩
theorem HAt.lt {σ:Store} {h:Nat} {N S:List Value} {sn ss:Value} (hA:HAt t σ h N S sn ss) {l:Nat} (hl:ownH h sn ss l):l<σ.size:=by
 rcases hl with rfl|hl|hl
 ·exact Store.get_lt hA.cell
 ·exact hA.nums.lt hl
 ·exact hA.strs.lt hl
theorem HAt.alloc {σ:Store} {h:Nat} {N S:List Value} {sn ss:Value} (hA:HAt t σ h N S sn ss) (o:EObj):HAt t (σ.alloc o) h N S sn ss:=
 hA.keep fun l hl=>by rw[Store.get_alloc,if_neg (by have:=hA.lt hl;omega)]
theorem KeepH.alloc (σ:Store) (h:Nat) (sn ss:Value) (o:EObj):KeepH σ (σ.alloc o) h sn ss sn ss:=
 ⟨by simp[Store.size_alloc],fun l hl _=>by rw[Store.get_alloc,if_neg (by omega)],fun _ h=> .inl h⟩
def putIntFn (ti:TypeId):EFunc:=⟨14,[],
 .reg [
 ⟨(some 4), .mov (.tmp 0),none,none⟩,
 ⟨(some 5), .mov (.tmp 0),none,none⟩,
 ⟨(some 6), .nilc (.tmp 5),none,none⟩,
 ⟨(some 7), .addOff (.tmp 6) 0,none,none⟩,
 ⟨(some 8), .load none (.tmp 7),none,none⟩,
 ⟨(some 9), .mov (.tmp 1),none,none⟩,
 ⟨(some 10), .bslice ti 1 1 [(.int .i64 0)] [(0,1,(.tmp 9))],none,none⟩,
 ⟨(some 11), .app ti 1 8 (.tmp 8) (.tmp 10),none,none⟩,
 ⟨(some 12), .nilc (.tmp 4),none,none⟩,
 ⟨(some 13), .addOff (.tmp 12) 0,none,none⟩,
 ⟨none, .store 1 (.tmp 13) (.tmp 11),none,none⟩]⟩
theorem putInt_PV {f:FuncId} (hF:F f=some (putIntFn t.int)) (hH:∀args σ,H (.func f) args σ=none) (k:IntKind) (x:Int):PV t F H f [.int k x] (fun _ _ _ _=>True) [.int k x] [] where
 stable:=fun _ _ _ _ _ _ _ _ _=>trivial
 run:=by
  intro σ h N S sn ss hA _ hr _;have hc:=hA.cell;have e1:=Store.get_lt hc;have n1:h≠σ.size:=by omega
  refine WC_func hF (hH _ _) (by simp[putIntFn]) ?_
  show WB F H (putIntFn t.int).body _ _ _
  simp only[putIntFn];refine WB_reg ?_
  repeat (refine sO_op rfl ⟨_,_,(by simp only[evI,Nat.reduceEqDiff,Nat.reduceAdd,reduceCtorEq,vcells,oneC,Nat.reduceLeDiff,sL,hc,n1];rfl), ?_⟩)
  obtain⟨σ',h1,h2,h3,h5,h6⟩:=(hA.alloc (.cells .rw t.int [.int k x])).push (bytes:=8) (n:=1) (c:=1) (xb:=some ⟨σ.size,0,none⟩) (new:= [.int k x]) (by simp[srcE,Store.get_alloc]) rfl (by omega) rfl (by simpa using hr) (by omega)
  refine sO_op rfl ⟨_,_,(by simp only[evI,Nat.reduceEqDiff,Nat.reduceAdd,reduceCtorEq,vcells,oneC,Nat.reduceLeDiff,sL];exact h1), ?_⟩
  repeat (refine sO_op rfl ⟨_,_,(by simp only[evI,Nat.reduceEqDiff,Nat.reduceAdd,reduceCtorEq,vcells,oneC,Nat.reduceLeDiff,sL];rfl), ?_⟩)
  refine sO_op rfl ⟨_,_,(by simp only[evI,Nat.reduceEqDiff,Nat.reduceAdd,reduceCtorEq,vcells,oneC,Nat.reduceLeDiff,sL,storeE,h3];rfl), ?_⟩
  refine WO_nil ⟨.inl rfl,_,rfl,_,_,by rw[List.append_nil];exact h5,(KeepH.alloc ..).trans h6⟩
def putTextFn (ts:TypeId):EFunc:=⟨14,[],
 .reg [
 ⟨(some 4), .mov (.tmp 0),none,none⟩,
 ⟨(some 5), .mov (.tmp 0),none,none⟩,
 ⟨(some 6), .nilc (.tmp 5),none,none⟩,
 ⟨(some 7), .addOff (.tmp 6) 1,none,none⟩,
 ⟨(some 8), .load none (.tmp 7),none,none⟩,
 ⟨(some 9), .mov (.tmp 1),none,none⟩,
 ⟨(some 10), .bslice ts 1 1 [(.string ⟨#[]⟩)] [(0,1,(.tmp 9))],none,none⟩,
 ⟨(some 11), .app ts 1 16 (.tmp 8) (.tmp 10),none,none⟩,
 ⟨(some 12), .nilc (.tmp 4),none,none⟩,
 ⟨(some 13), .addOff (.tmp 12) 1,none,none⟩,
 ⟨none, .store 1 (.tmp 13) (.tmp 11),none,none⟩]⟩
theorem putText_PV {f:FuncId} (hF:F f=some (putTextFn t.str)) (hH:∀args σ,H (.func f) args σ=none) (x:ByteArray):PV t F H f [.string x] (fun _ _ _ _=>True) [] [.string x] where
 stable:=fun _ _ _ _ _ _ _ _ _=>trivial
 run:=by
  intro σ h N S sn ss hA _ _ hr;have hc:=hA.cell;have e1:=Store.get_lt hc;have n1:h≠σ.size:=by omega
  refine WC_func hF (hH _ _) (by simp[putTextFn]) ?_
  show WB F H (putTextFn t.str).body _ _ _
  simp only[putTextFn];refine WB_reg ?_
  repeat (refine sO_op rfl ⟨_,_,(by simp only[evI,Nat.reduceEqDiff,Nat.reduceAdd,reduceCtorEq,vcells,oneC,Nat.reduceLeDiff,sL,hc,n1];rfl), ?_⟩)
  obtain⟨σ',h1,h2,h3,h5,h6⟩:=(hA.alloc (.cells .rw t.str [.string x])).pushS (bytes:=16) (n:=1) (c:=1) (xb:=some ⟨σ.size,0,none⟩) (new:= [.string x]) (by simp[srcE,Store.get_alloc]) rfl (by omega) rfl (by simpa using hr) (by omega)
  refine sO_op rfl ⟨_,_,(by simp only[evI,Nat.reduceEqDiff,Nat.reduceAdd,reduceCtorEq,vcells,oneC,Nat.reduceLeDiff,sL];exact h1), ?_⟩
  repeat (refine sO_op rfl ⟨_,_,(by simp only[evI,Nat.reduceEqDiff,Nat.reduceAdd,reduceCtorEq,vcells,oneC,Nat.reduceLeDiff,sL];rfl), ?_⟩)
  refine sO_op rfl ⟨_,_,(by simp only[evI,Nat.reduceEqDiff,Nat.reduceAdd,reduceCtorEq,vcells,oneC,Nat.reduceLeDiff,sL,storeE,h3];rfl), ?_⟩
  refine WO_nil ⟨.inl rfl,_,rfl,_,_,by rw[List.append_nil];exact h5,(KeepH.alloc ..).trans h6⟩
def putsFn (ti:TypeId) (esz:Nat) (sh:Option Nat):EFunc:=⟨31,[],
 .seq (.reg [
  ⟨(some 7), .mov (.tmp 0),none,none⟩,
  ⟨(some 8), .mov (.tmp 0),none,none⟩,
  ⟨(some 9), .nilc (.tmp 8),none,none⟩,
  ⟨(some 10), .addOff (.tmp 9) 0,none,none⟩,
  ⟨(some 11), .load none (.tmp 10),none,none⟩,
  ⟨(some 12), .mov (.tmp 1),none,none⟩,
  ⟨(some 13), .lenS (.tmp 12),none,none⟩,
  ⟨(some 14), .bslice ti 1 1 [(.int .i64 0)] [(0,1,(.tmp 13))],none,none⟩,
  ⟨(some 15), .app ti 1 8 (.tmp 11) (.tmp 14),none,none⟩,
  ⟨(some 16), .nilc (.tmp 7),none,none⟩,
  ⟨(some 17), .addOff (.tmp 16) 0,none,none⟩,
  ⟨none, .store 1 (.tmp 17) (.tmp 15),none,none⟩])
 (.seq (.reg [
  ⟨(some 6), .mov (.const (.int .i64 0)),none,none⟩])
 (.block 0 (.loop (.seq (.seq (.reg [
   ⟨(some 18), .mov (.tmp 6),none,none⟩,
   ⟨(some 19), .mov (.tmp 1),none,none⟩,
   ⟨(some 20), .lenS (.tmp 19),none,none⟩,
   ⟨(some 21), .bin .lss (.tmp 18) (.tmp 20),none,none⟩])
    (.cond (.tmp 21) (.skip) (.exit 0)))
  (.seq (.block 1 (.reg [
   ⟨(some 24), .mov (.tmp 2),none,none⟩,
   ⟨(some 25), .mov (.tmp 0),none,none⟩,
   ⟨(some 26), .mov (.tmp 1),none,none⟩,
   ⟨(some 27), .mov (.tmp 6),none,none⟩,
   ⟨(some 28), .idxS esz (.tmp 26) (.tmp 27),none,none⟩,
   ⟨(some 29), .load sh (.tmp 28),none,none⟩,
   ⟨(some 30), .call (.tmp 24) [(.tmp 25),(.tmp 29)],none,none⟩]))
  (.reg [
  ⟨(some 22), .mov (.tmp 6),none,none⟩,
  ⟨(some 23), .bin .add (.tmp 22) (.const (.int .i64 1)),none,none⟩,
  ⟨(some 6), .mov (.tmp 23),none,none⟩]))))))⟩
def catN (A:Nat→List Value):Nat→List Value
 |0=> []
 |i+1=>catN A i++A i
theorem catN_le (A:Nat→List Value):∀{i n:Nat},i≤n→(catN A i).length≤(catN A n).length
 |i,0,h=>by rw[Nat.le_zero.1 h];exact Nat.le_refl _
 |i,n+1,h=>by
  by_cases e:i=n+1
  ·subst e;exact Nat.le_refl _
  ·have:=catN_le A (i:=i) (n:=n) (by omega)
   simp only[catN,List.length_append];omega
theorem SAt.ex {σ:Store} {esz:Nat} {v:Value} {n:Nat} {cs:List Value} (h:SAt σ esz v n cs):∃p cap,v= .slice p n cap:=by
 cases h with
 |nil=>exact⟨_,_,rfl⟩
 | «at» l o n cap st e c hg hl=>exact⟨_,_,rfl⟩
theorem puts_PV {f g:FuncId} {esz:Nat} {sh:Option Nat} (hF:F f=some (putsFn t.int esz sh)) (hH:∀args σ,H (.func f) args σ=none) (hsh:sh=none∧0<esz∨sh=some esz) {v:Value} {n:Nat} {cs:List Value} (hn:n≤2^31)
  {ok:Nat→OK} {A B:Nat→List Value} (hel:∀i,i<n→PV t F H g [elemV esz sh cs i] (ok i) (A i) (B i)):
  PV t F H f [v, .func (.func g) #[] #[]] (fun σ h sn ss=>okS esz v n cs σ h sn ss∧∀i,i<n→ok i σ h sn ss) (.int .i64 n::catN A n) (catN B n) where
 stable:=by
  rintro σ σ' h sn ss sn' ss' ⟨h1,h2⟩ hk
  exact⟨okS_stable _ _ _ _ _ _ _ _ _ _ _ h1 hk,fun i hi=>(hel i hi).stable _ _ _ _ _ _ _ (h2 i hi) hk⟩
 run:=by
  rintro σ h N S sn ss hA ⟨hok,hoks⟩ hr1 hr2
  have hc:=hA.cell;have e1:=Store.get_lt hc;have n1:h≠σ.size:=by omega
  obtain⟨p,cap,rfl⟩:=hok.1.ex;refine WC_func hF (hH _ _) (by simp[putsFn]) ?_
  show WB F H (putsFn t.int esz sh).body _ _ _
  simp only[putsFn];refine WB_seq (WB_reg ?_)
  repeat (refine sO_op rfl ⟨_,_,(by simp only[evI,Nat.reduceEqDiff,Nat.reduceAdd,reduceCtorEq,vcells,oneC,Nat.reduceLeDiff,sL,hc,n1];rfl), ?_⟩)
  simp only[List.length_cons] at hr1;obtain⟨σ',h1,h2,h3,h5,h6⟩:=(hA.alloc (.cells .rw t.int [.int .i64 n])).push (bytes:=8) (n:=1) (c:=1) (xb:=some ⟨σ.size,0,none⟩) (new:= [.int .i64 n]) (by simp[srcE,Store.get_alloc]) rfl (by omega) rfl (by omega) (by omega)
  refine sO_op rfl ⟨_,_,(by simp only[evI,Nat.reduceEqDiff,Nat.reduceAdd,reduceCtorEq,vcells,oneC,Nat.reduceLeDiff,sL];exact h1), ?_⟩
  repeat (refine sO_op rfl ⟨_,_,(by simp only[evI,Nat.reduceEqDiff,Nat.reduceAdd,reduceCtorEq,vcells,oneC,Nat.reduceLeDiff,sL];rfl), ?_⟩)
  refine sO_op rfl ⟨_,_,(by simp only[evI,Nat.reduceEqDiff,Nat.reduceAdd,reduceCtorEq,vcells,oneC,Nat.reduceLeDiff,sL,storeE,h3];rfl), ?_⟩
  refine WO_nil (WB_seq (WB_reg ?_))
  repeat (refine sO_op rfl ⟨_,_,(by simp only[evI,Nat.reduceEqDiff,Nat.reduceAdd,reduceCtorEq,vcells,oneC,Nat.reduceLeDiff,sL];rfl), ?_⟩)
  refine WO_nil (WB_block ?_)
  have hk1:=(KeepH.alloc σ h sn ss (.cells .rw t.int [.int .i64 n])).trans h6
  refine WB_loop_inv (fun k a τ=>∃i sn2 ss2,k=n - i∧i≤n∧a.get 0= .pointer (some ⟨h,0,none⟩)∧a.get 1= .slice p n cap∧a.get 2= .func (.func g) #[] #[]∧a.get 6= .int .i64 i∧
   HAt t τ h (N++(.int .i64 n::catN A i)) (S++catN B i) sn2 ss2∧KeepH σ τ h sn ss sn2 ss2) ?_ (k:=n) ⟨0,_,_,by omega,by omega, ?_, ?_, ?_, ?_,by rw[show S++catN B 0=S from List.append_nil S];exact h5,hk1⟩
  ·rintro k a τ ⟨i,sn2,ss2,rfl,hi,g0,g1,g2,g6,hAi,hki⟩
   refine WB_seq (WB_seq (WB_reg ?_))
   repeat (refine sO_op rfl ⟨_,_,(by simp only[evI,Nat.reduceEqDiff,Nat.reduceAdd,reduceCtorEq,vcells,oneC,Nat.reduceLeDiff,sL,g0,g1,g2,g6,binV,intBin];rfl), ?_⟩)
   refine WO_nil ?_
   by_cases hlt:i<n
   ·have hlt':decide ((i:Int)<(n:Int))=true:=by simp;omega
    refine WB_cond (b:=true) (by simp only[evI,Nat.reduceEqDiff,Nat.reduceAdd,reduceCtorEq,vcells,oneC,Nat.reduceLeDiff,sL,hlt']) (WB_skip ?_)
    have hok':=okS_stable _ _ _ _ _ _ _ _ _ _ _ hok hki;obtain⟨q,cap',hq,hld⟩:=hok'.1.load hsh hlt;cases hq
    have hin:(0:Int)≤i∧(i:Int)<n:=by omega
    have htn:((i:Int)).toNat=i:=by omega
    refine WB_seq (WB_block (WB_reg ?_))
    refine sO_op rfl ⟨_,_,(by simp only[evI,Nat.reduceEqDiff,Nat.reduceAdd,reduceCtorEq,vcells,oneC,Nat.reduceLeDiff,sL,g2];rfl), ?_⟩
    refine sO_op rfl ⟨_,_,(by simp only[evI,Nat.reduceEqDiff,Nat.reduceAdd,reduceCtorEq,vcells,oneC,Nat.reduceLeDiff,sL,g0];rfl), ?_⟩
    refine sO_op rfl ⟨_,_,(by simp only[evI,Nat.reduceEqDiff,Nat.reduceAdd,reduceCtorEq,vcells,oneC,Nat.reduceLeDiff,sL,g1];rfl), ?_⟩
    refine sO_op rfl ⟨_,_,(by simp only[evI,Nat.reduceEqDiff,Nat.reduceAdd,reduceCtorEq,vcells,oneC,Nat.reduceLeDiff,sL,g6];rfl), ?_⟩
    refine sO_op rfl ⟨_,_,(by simp only[evI,Nat.reduceEqDiff,Nat.reduceAdd,reduceCtorEq,vcells,oneC,Nat.reduceLeDiff,sL,g1,g6];rw[if_pos hin,htn]), ?_⟩
    refine sO_op rfl ⟨_,_,(by simp only[evI,Env.eval,Env.put,Env.get_put,Nat.reduceEqDiff,if_true,if_false,hld];rfl), ?_⟩
    refine sO_call rfl (by simp only[evI,Nat.reduceEqDiff,Nat.reduceAdd,reduceCtorEq,vcells,oneC,Nat.reduceLeDiff,sL,g0,g1,g2,g6];rfl) (by simp only[evI,Nat.reduceEqDiff,Nat.reduceAdd,reduceCtorEq,vcells,oneC,Nat.reduceLeDiff,sL,g0,g1,g2,g6];rfl) ?_
    have hPV:=hel i hlt;have hle:=catN_le A (i:=i+1) (n:=n) (by omega)
    have hle2:=catN_le B (i:=i+1) (n:=n) (by omega)
    simp only[catN,List.length_append,List.length_cons] at hle hle2 hr1 hr2;refine(hPV.run τ h _ _ sn2 ss2 hAi (hPV.stable _ _ _ _ _ _ _ (hoks i hlt) hki) (by simp only[List.length_append,List.length_cons];omega) (by simp only[List.length_append];omega)).mono ?_
    rintro v' τ' ⟨sn3,ss3,hA3,hk3⟩
    refine WO_nil ?_
    simp only[reduceCtorEq,if_false];refine WB_reg ?_
    repeat (refine sO_op rfl ⟨_,_,(by simp only[evI,Nat.reduceEqDiff,Nat.reduceAdd,reduceCtorEq,vcells,oneC,Nat.reduceLeDiff,sL,g0,g1,g2,g6,binV,intBin];rfl), ?_⟩)
    refine WO_nil ⟨n -(i+1),by omega,i+1,sn3,ss3,rfl,by omega, ?_, ?_, ?_, ?_, ?_,hki.trans hk3⟩
    ·simp only[evI,Nat.reduceEqDiff,Nat.reduceAdd,reduceCtorEq,vcells,oneC,Nat.reduceLeDiff,sL,g0]
    ·simp only[evI,Nat.reduceEqDiff,Nat.reduceAdd,reduceCtorEq,vcells,oneC,Nat.reduceLeDiff,sL,g1]
    ·simp only[evI,Nat.reduceEqDiff,Nat.reduceAdd,reduceCtorEq,vcells,oneC,Nat.reduceLeDiff,sL,g2]
    ·have hw:IntKind.i64.wrap ((i:Int)+1)=((i+1:Nat):Int):=by
      rw[wrap_small]<;>omega
     simp only[evI,Nat.reduceEqDiff,Nat.reduceAdd,reduceCtorEq,vcells,oneC,Nat.reduceLeDiff,sL,hw]
    ·have e1:N++Value.int .i64 n::catN A (i+1)=(N++Value.int .i64 n::catN A i)++A i:=by simp[catN]
     have e2:S++catN B (i+1)=(S++catN B i)++B i:=by simp[catN]
     rw[e1,e2];exact hA3
   ·have hlt':decide ((i:Int)<(n:Int))=false:=by simp;omega
    have hin:i=n:=by omega
    subst hin;refine WB_cond (b:=false) (by simp only[evI,Nat.reduceEqDiff,Nat.reduceAdd,reduceCtorEq,vcells,oneC,Nat.reduceLeDiff,sL,hlt']) ?_
    simp only[Bool.false_eq_true,if_false];refine WB_exit ?_
    simp only[if_true];exact⟨.inl trivial,_,rfl,sn2,ss2,hAi,hki⟩
  ·simp only[evI,Nat.reduceEqDiff,Nat.reduceAdd,reduceCtorEq,vcells,oneC,Nat.reduceLeDiff,sL]
  ·simp only[evI,Nat.reduceEqDiff,Nat.reduceAdd,reduceCtorEq,vcells,oneC,Nat.reduceLeDiff,sL]
  ·simp only[evI,Nat.reduceEqDiff,Nat.reduceAdd,reduceCtorEq,vcells,oneC,Nat.reduceLeDiff,sL]
  ·simp only[evI,Nat.reduceEqDiff,Nat.reduceAdd,reduceCtorEq,vcells,oneC,Nat.reduceLeDiff,sL];rfl
end Go.Ev
end EvPut3
