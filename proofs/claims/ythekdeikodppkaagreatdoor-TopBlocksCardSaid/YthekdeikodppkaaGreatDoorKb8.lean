/-
  Texts of this claim, one behind the other: Statements that draw their order; Statements that draw their order come to what is told, in whatever order; the whole machine is right. No program in sight; sha; Functions that begin by deferring one call; Functions known of their own accord; The stable sort, whatever the elements; The stable sort of slices of coins.
-/
import Derived.Test.YthekdeikodppkaaGreatDoorKb7
import Derived.Deep.LoopGhost
import Derived.WalkLawsBesides
import Derived.WalkSpells
import Derived.Deep.DeepCutAuto
import Derived.Deep.CutBlock
import Derived.Test.YthekdeikodppkaaGreatDoorRows
import Derived.Defers
import Derived.Carry
import Derived.BigQuiet
import Derived.Deep.QuietTactic
set_option linter.unusedVariables false
namespace Go.Proofs.YthekdeikodppkaaGreatDoor
open Go.RowKit
noncomputable section
theorem aput_get{f:Fr}(hf:f.ok)(d:Option Tmp)(v:AV)(t:Nat):(aput f d v).get t=if d=some t∧t<f.n then v else f.get t:=by
 cases d with
 | none=>simp [aput]
 | some d=>
  simp only [aput,Fr.get_set hf,Option.some.injEq]
  by_cases h:d=t
  ·subst h;rfl
  ·simp [h]
theorem aput_n(f:Fr)(d:Option Tmp)(v:AV):(aput f d v).n=f.n:=by cases d <;> simp [aput,Fr.set_n]
theorem aput_ok{f:Fr}(hf:f.ok)(d:Option Tmp)(v:AV):(aput f d v).ok:=by
 unfold Fr.ok;rw [aput_n];exact hf
theorem frm_succ:∀ (r:List Oper) (vs:List AV) (tm:Fr) (k:Nat) (o:Oper) (v:AV),r[k]?=some o→vs[k]?=some v→frm r vs tm (k+1)=aput (frm r vs tm k) o.dst v
 | [],_,_,_,_,_,h,_=>by simp at h
 | _::_,[],_,_,_,_,_,h=>by simp at h
 | o::r,v::vs,tm,0,o',v',h,g=>by
  simp at h g;subst h;subst g
  simp [frm]
 | o::r,v::vs,tm,k+1,o',v',h,g=>by
  have:=frm_succ r vs (aput tm o.dst v) k o' v' (by simpa using h) (by simpa using g)
  simpa only [frm] using this
theorem mkGo_get{f:Fr}(hf:f.ok):∀ (lk:List Nat) (s:Tr) (t:Nat),t<4000→(lk.foldl (fun s i=>if Nat.blt i f.n then s.set 12 i (f.get i) else s) s).get 12 t=if t∈lk∧t<f.n then f.get t else s.get 12 t
 | [],s,t,_=>by simp
 | x::lk,s,t,ht=>by
  rw [List.foldl_cons,mkGo_get hf lk _ t ht]
  have h4:f.n≤4000:=hf
  by_cases h1:t∈lk∧t<f.n
  ·rw [if_pos h1,if_pos ⟨by simp [h1.1],h1.2⟩]
  ·rw [if_neg h1]
   by_cases hx:x<f.n
   ·rw [if_pos (by simpa using hx),Tr.get_set 12 s x t _ (by omega) (by omega)]
    by_cases hxt:x=t
    ·subst hxt;rw [if_pos rfl,if_pos ⟨by simp,hx⟩]
    ·rw [if_neg hxt,if_neg]
     rintro ⟨h2,h3⟩
     rcases List.mem_cons.1 h2 with h | h
     ·exact hxt h.symm
     ·exact h1 ⟨h,h3⟩
   ·rw [if_neg (by simpa using hx),if_neg]
    rintro ⟨h2,h3⟩
    rcases List.mem_cons.1 h2 with h | h
    ·subst h;exact hx h3
    ·exact h1 ⟨h,h3⟩
theorem mk_get{f:Fr}(hf:f.ok)(lk:List Tmp)(t:Nat):(mk lk f).get t=if t∈lk∧t<f.n then f.get t else .tup []:=by
 have h4:f.n≤4000:=hf
 unfold Fr.get
 simp only [mk]
 by_cases ht:t<f.n
 ·have hb:Nat.blt t f.n=true:=by simpa using ht
  rw [if_pos hb,mkGo_get hf lk .lf t (by omega),Tr.get_lf]
  simp only [Fr.get,hb,if_true]
 ·have hb:Nat.blt t f.n=false:=by rw [Bool.eq_false_iff];simpa using ht
  simp only [hb,Bool.false_eq_true,if_false,ite_self]
theorem mk_eq{f g:Fr}(hn:f.n=g.n):∀ {lk:List Tmp},(∀ t∈lk,t<f.n→f.get t=g.get t)→mk lk f=mk lk g:=by
 intro lk h
 unfold mk
 rw [hn]
 congr 1
 have:∀ (l:List Tmp) (s:Tr),(∀ t∈l,t<f.n→f.get t=g.get t)→l.foldl (fun s i=>if Nat.blt i g.n then s.set 12 i (f.get i) else s) s=l.foldl (fun s i=>if Nat.blt i g.n then s.set 12 i (g.get i) else s) s:=by
  intro l
  induction l with
  | nil=>intro s _;rfl
  | cons x l ih=>
   intro s hl
   simp only [List.foldl_cons]
   have e:(if Nat.blt x g.n then s.set 12 x (f.get x) else s)=(if Nat.blt x g.n then s.set 12 x (g.get x) else s):=by
    split
    ·rename_i hx
     rw [hl x (by simp) (by rw [hn];simpa using hx)]
    ·rfl
   rw [e]
   exact ih _ fun t ht=>hl t (by simp [ht])
 exact this lk .lf h
def maskA(lk:List Tmp)(tmps:Array Value):Array Value:=tmps.mapIdx fun i v=>if lk.contains i then v else undef
theorem maskA_get(lk:List Tmp)(tmps:Array Value)(t:Nat):(maskA lk tmps).getD t undef=if t∈lk then tmps.getD t undef else undef:=by
 unfold maskA
 rw [Array.getD_eq_getD_getElem?,Array.getElem?_mapIdx,Array.getD_eq_getD_getElem?]
 by_cases ht:t<tmps.size
 ·rw [Array.getElem?_eq_getElem ht]
  simp
 ·rw [Array.getElem?_eq_none (by omega)]
  simp
section
variable {F:Funs} {e e' e0:Env} {w0 w:World} {P:Program} {call:Jq} {ops:Array Oper} {ancs:List (List Nat)} {cs:List Nat} {flt:Option Nat} {on:Option AV} {tm:Fr} {V:List AV} {G:List AH}
theorem FR.mask{f:Fr}{tmps:Array Value}(h:FR F e f tmps)(lk:List Tmp):FR F e (mk lk f) (maskA lk tmps):=by
 obtain ⟨h1,h2,h3⟩:=h
 refine ⟨h1,by simpa [mk,maskA] using h2,fun t=>?_⟩
 rw [mk_get h1,maskA_get]
 by_cases ht:t∈lk
 ·rw [if_pos ht]
  by_cases hn:t<f.n
  ·rw [if_pos ⟨ht,hn⟩];exact h3 t
  ·rw [if_neg (fun h=>hn h.2)]
   have:=h3 t
   rw [Fr.get_out (by omega)] at this
   exact this
 ·rw [if_neg ht,if_neg (fun h=>ht h.1)]
  exact ⟨[],rfl,rfl⟩
theorem exec_mask{o:Oper}(hs:∀ cs b,o.op≠.select cs b)(a:Act):execOp a.eval o=execOp (⟨maskA (o.looksAt ops) a.tmps,a.defers⟩:Act).eval o:=by
 refine execOp_congr o hs fun x hx=>?_
 cases x with
 | tmp t=>
  have:t∈o.looksAt ops:=List.mem_append_left _ (List.mem_filterMap.2 ⟨.tmp t,by simpa using hx,rfl⟩)
  simp only [Act.eval]
  rw [maskA_get,if_pos this]
 | const v=>rfl
 | global g=>rfl
 | func f=>rfl
theorem wanted_mask{o:Oper}{cur:Fr}{a:Act}(h:FR F e cur a.tmps):Region.wanted o (yielded ops a.tmps)=Vm ops (mk (o.looksAt ops) cur) o:=by
 unfold Region.wanted Vm
 cases hg:o.guard with
 | none=>rfl
 | some gw=>
  obtain ⟨g,want⟩:=gw
  simp only
  rw [aYield_eq h]
  have:aYield ops cur g=aYield ops (mk (o.looksAt ops) cur) g:=by
   unfold aYield
   cases hgo:ops[g]? with
   | none=>rfl
   | some og=>
    simp only
    cases hd:og.dst with
    | none=>rfl
    | some t=>
     simp only
     have ht:t∈o.looksAt ops:=by simp [Oper.looksAt,hg,hgo,hd]
     rw [mk_get h.1]
     by_cases hn:t<cur.n
     ·rw [if_pos ⟨ht,hn⟩]
     ·rw [if_neg (fun h=>hn h.2),Fr.get_out (Nat.le_of_not_lt hn)]
  rw [this]
theorem cls_same{ev:Ev}{o:Oper}{g h':AH}{v:AV}(hc:cls P o.op=1)(hop:aOp P ev o g=some (.val v h')):h'=g:=by
 obtain ⟨dst,op,type,pos,after,guard⟩:=o
 have hval:∀ {r:AR},aVal P ev ⟨dst,op,type,pos,after,guard⟩ g=some r→∀ v h',r=.val v h'→h'=g:=by
  intro r hr v h' e
  simp only [aVal,Option.map_eq_some_iff] at hr
  obtain ⟨u,_,rfl⟩:=hr
  cases e;rfl
 cases op <;> simp only [cls] at hc <;> try (exfalso;omega)
 case load t a=>
  simp only [aOp] at hop
  unfold aLoad at hop
  repeat' split at hop
  all_goals first
   | (cases hop;rfl)
   | (cases hop;done)
 case lookup t m k ok=>
  simp only [aOp] at hop
  unfold aLookup at hop
  repeat' split at hop
  all_goals first
   | (cases hop;rfl)
   | (cases hop;done)
   | (simp only [Option.map_eq_some_iff] at hop;obtain ⟨z,_,hz⟩:=hop;cases hz;rfl)
 case slice t x lo hi mx=>
  cases mx with
  | some m=>cases hc
  | none=>
   simp only [aOp,oSlice] at hop
   split at hop
   ·unfold aSliceArr at hop
    repeat' split at hop
    all_goals first
     | (cases hop;rfl)
     | (cases hop;done)
   ·exact hval hop _ _ rfl
 case convert s d x=>
  split at hc
  ·cases hc
  ·rename_i hd
   simp only [aOp,oConv] at hop
   split at hop
   ·rename_i r hr
    cases hop
    unfold aConv at hr
    repeat' split at hr
    all_goals first
     | (cases hr;rfl)
     | (cases hr;done)
     | (exfalso;exact hd _ (by assumption))
   ·exact hval hop _ _ rfl
 case call c=>
  obtain ⟨callee,args,ts⟩:=c
  cases callee with
  | value f=>cases hc
  | invoke x m=>cases hc
  | builtin b=>cases b <;> cases hc
abbrev Lst(L:Array Bool)(i:Nat):Prop:=L.getD i false=true
theorem lst_set{L:Array Bool}{i:Nat}(hi:i<L.size)(j:Nat):Lst (L.setIfInBounds i true) j↔Lst L j∨j=i:=by
 unfold Lst
 by_cases h:j=i
 ·subst h;simp [hi]
 ·rw [show (L.setIfInBounds i true).getD j false=L.getD j false by simp [Array.getElem?_setIfInBounds_ne (Ne.symm h)]]
  simp [h]
structure WayOk (P:Program) (call:Jq) (ops:Array Oper) (ancs:List (List Nat)) (cs:List Nat) (flt:Option Nat) (on:Option AV) (tm:Fr) (V:List AV) (G:List AH):Prop where
 len:V.length=ops.toList.length
 fact:∀ i o v,ops.toList[i]?=some o→V[i]?=some v→(flt=some i∧v=on.getD (.tup []))∨lefts ancs flt on i=true∨WayFact P call ops cs G i o (mk (o.looksAt ops) (frm ops.toList V tm i)) v
 sure:∀ i o v,ops.toList[i]?=some o→V[i]?=some v→flt≠some i→lefts ancs flt on i=false→Vm ops (mk (o.looksAt ops) (frm ops.toList V tm i)) o=true→cls P o.op=1 →
  ∀ m g,G[m]?=some g→aMay ancs cs i m=true→∃ h',aOp P (evOf (mk (o.looksAt ops) (frm ops.toList V tm i))) o g=some (.val v h')
structure ChainOk (P:Program) (ops:Array Oper) (ancs:List (List Nat)) (cs:List Nat):Prop where
 next:∀ (k i j:Nat),cs[k]?=some i→cs[k+1]?=some j→i∈ancs.getD j []
 two:∀ (k i:Nat) (o:Oper),cs[k]?=some i→ops.toList[i]?=some o→cls P o.op=2
 once:∀ (k k' i:Nat),cs[k]?=some i→cs[k']?=some i→k=k'
structure Inv (F:Funs) (e0:Env) (w0:World) (ops:Array Oper) (ancs:List (List Nat)) (cs:List Nat) (tm:Fr) (V:List AV) (G:List AH) (ds:List Deferred) (L:Array Bool) (a:Act) (w:World) (m:Nat) (e:Env):Prop where
 size:L.size=ops.size
 closed:∀ i,Lst L i→∀ j∈ancs.getD i [],Lst L j
 chain:∀ (k i:Nat),cs[k]?=some i→(Lst L i↔k<m)
 le:e0.le e
 mem:∃ g,G[m]?=some g∧HR F e w0 w g
 frame:∃ cur:Fr,FR F e cur a.tmps∧cur.n=tm.n∧(∀ (j:Nat) (o:Oper) (t:Tmp) (v:AV),ops.toList[j]?=some o→o.dst=some t→Lst L j→V[j]?=some v→t<tm.n→cur.get t=v) ∧
  ∀ t:Nat,(∀ (j:Nat) (o:Oper),ops.toList[j]?=some o→Lst L j→o.dst≠some t)→cur.get t=tm.get t
 defers:a.defers=ds
theorem frm_get(T:TextOk ops ancs)(hV:V.length=ops.toList.length)(ht:tm.ok):∀ k,k≤ops.toList.length→(frm ops.toList V tm k).n=tm.n∧(frm ops.toList V tm k).ok ∧
 (∀ (j:Nat) (o:Oper) (t:Tmp) (v:AV),j<k→ops.toList[j]?=some o→o.dst=some t→V[j]?=some v→t<tm.n→(frm ops.toList V tm k).get t=v) ∧
 ∀ t:Nat,(∀ (j:Nat) (o:Oper),j<k→ops.toList[j]?=some o→o.dst≠some t)→(frm ops.toList V tm k).get t=tm.get t:=by
 intro k
 induction k with
 | zero=>
  intro _
  have:frm ops.toList V tm 0=tm:=by cases ops.toList <;> cases V <;> rfl
  rw [this]
  exact ⟨rfl,ht,fun j o t v hj=>by omega,fun t _=>rfl⟩
 | succ k ih=>
  intro hk
  obtain ⟨h1,h2,h3,h4⟩:=ih (by omega)
  obtain ⟨o,ho⟩:∃ o,ops.toList[k]?=some o:=⟨_,List.getElem?_eq_getElem (by omega)⟩
  obtain ⟨v,hv⟩:∃ v,V[k]?=some v:=⟨_,List.getElem?_eq_getElem (by omega)⟩
  rw [frm_succ _ _ _ _ _ _ ho hv]
  refine ⟨by rw [aput_n,h1],aput_ok h2 _ _,fun j o' t v' hj ho' hd hv' htn=>?_,fun t htj=>?_⟩
  ·rw [aput_get h2]
   by_cases hjk:j=k
   ·subst hjk
    rw [ho] at ho';cases ho'
    rw [hv] at hv';cases hv'
    rw [if_pos ⟨hd,by rw [h1];exact htn⟩]
   ·have:=T.uniq k j o o' t ho ho' hd hjk
    rw [if_neg (fun h=>this h.1)]
    exact h3 j o' t v' (by omega) ho' hd hv' htn
  ·rw [aput_get h2,if_neg (fun h=>htj k o (by omega) ho h.1)]
   exact h4 t fun j o' hj ho'=>htj j o' (by omega) ho'
theorem ready_anc(T:TextOk ops (Qv [] ops.toList)){L:Array Bool}(hcl:∀ i,Lst L i→∀ j∈(Qv [] ops.toList).getD i [],Lst L j){i:Nat}{o:Oper}(ho:ops.toList[i]?=some o)
 (hr:∀ x∈o.after,Region.binds .any x=true→L.getD x.on false=true):∀ j∈(Qv [] ops.toList).getD i [],Lst L j:=by
 intro j hj
 obtain ⟨x,hx,hb,h | h⟩:=ancs_spec ho (T.back i o ho) hj
 ·rw [h];exact hr x (by simpa using hx) hb
 ·exact hcl _ (hr x (by simpa using hx) hb) j h
theorem Inv.step(hc:Vs F P call)(T:TextOk ops (Qv [] ops.toList))(C:ChainOk P ops (Qv [] ops.toList) cs)(W:WayOk P call ops (Qv [] ops.toList) cs flt on tm V G)(htm:tm.ok){ds:List Deferred}{L:Array Bool}{a:Act}{m:Nat}
 (I:Inv F e0 w0 ops (Qv [] ops.toList) cs tm V G ds L a w m e) {i:Nat} (hi:i∈Region.ready .any ops L) (hf:flt≠some i) (hlf:lefts (Qv [] ops.toList) flt on i=false) {K:Act→World→Prop} {Q:Exit→Act→World→Prop}
 (hk:∀ a' w' m' e',Inv F e0 w0 ops (Qv [] ops.toList) cs tm V G ds (L.setIfInBounds i true) a' w' m' e'→K a' w'):wpOp P ops Q i K a w:=by
 obtain ⟨hisz,hnl,o,ho',hrd⟩:=Jz.1 hi
 have ho:ops.toList[i]?=some o:=by rw [Array.getElem?_toList];exact ho'
 have hnot:¬ Lst L i:=by
  have:L.getD i true=L.getD i false:=Jm (by rw [I.size];exact hisz)
  unfold Lst;rw [← this,hnl];simp
 have hanc:=ready_anc T I.closed ho hrd
 obtain ⟨v,hv⟩:∃ v,V[i]?=some v:=⟨_,List.getElem?_eq_getElem (by rw [W.len];exact (gJ ho).1)⟩
 obtain ⟨cur,hFR,hcn,hc1,hc2⟩:=I.frame
 obtain ⟨g,hg,H⟩:=I.mem
 obtain ⟨f1,f2,f3,f4⟩:=frm_get T W.len htm i (Nat.le_of_lt (gJ ho).1)
 have hlst:=lst_set (L:=L) (i:=i) (by rw [I.size];exact hisz)
 have hmk:Go.Proofs.YthekdeikodppkaaGreatDoor.mk (o.looksAt ops) cur=Go.Proofs.YthekdeikodppkaaGreatDoor.mk (o.looksAt ops) (frm ops.toList V tm i):=by
  refine mk_eq (by rw [hcn,f1]) fun t ht htn=>?_
  by_cases hex:∃ (j:Nat) (o':Oper),ops.toList[j]?=some o'∧o'.dst=some t
  ·obtain ⟨j,o',hj,hd⟩:=hex
   obtain ⟨u,hu⟩:∃ u,V[j]?=some u:=⟨_,List.getElem?_eq_getElem (by rw [W.len];exact (gJ hj).1)⟩
   by_cases hji:j=i
   ·subst hji
    rw [ho] at hj;cases hj
    exact absurd ht (T.self _ _ _ ho hd)
   ·obtain ⟨r1,r2⟩:=T.reads i j o o' t ho hj hd hji ht
    rcases Nat.lt_or_ge j i with hlt | hge
    ·rw [hc1 j o' t u hj hd (hanc j (r1 hlt)) hu (hcn▸htn),f3 j o' t u hlt hj hd hu (hcn▸htn)]
    ·have hnj:¬ Lst L j:=fun h=>hnot (I.closed j h i (r2 (by omega)))
     have huq:∀ (k:Nat) (ok:Oper),ops.toList[k]?=some ok→k≠j→ok.dst≠some t:=fun k ok hk hne=>T.uniq k j ok o' t hk hj hd (Ne.symm hne)
     rw [hc2 t fun k ok hk hl=>huq k ok hk fun h=>hnj (h▸hl),f4 t fun k ok hki hk=>huq k ok hk (by omega)]
  ·have hno:∀ (k:Nat) (ok:Oper),ops.toList[k]?=some ok→ok.dst≠some t:=fun k ok hk h=>hex ⟨k,ok,hk,h⟩
   rw [hc2 t fun k ok hk _=>hno k ok hk,f4 t fun k ok _ hk=>hno k ok hk]
 have hwant:=wanted_mask (F:=F) (e:=e) (ops:=ops) (o:=o) hFR
 have post:∀ (u:Value) (w':World) (e':Env) (m':Nat),e.le e'→VR F e' v u→(∃ g',G[m']?=some g'∧HR F e' w0 w' g')→(∀ (k j:Nat),cs[k]?=some j→(Lst (L.setIfInBounds i true) j↔k<m')) →
  Inv F e0 w0 ops (Qv [] ops.toList) cs tm V G ds (L.setIfInBounds i true) (a.put o.dst u) w' m' e':=by
  intro u w' e' m' hle hu hm hch
  refine ⟨by simpa using I.size,?_,hch,Env.le_trans I.le hle,hm,⟨aput cur o.dst v,aput_vr (hFR.le hle) hu,by rw [aput_n,hcn],?_,?_⟩,?_⟩
  ·intro j hj k hk'
   rw [hlst] at hj
   rw [hlst]
   rcases hj with hj | rfl
   ·exact .inl (I.closed j hj k hk')
   ·exact .inl (hanc k hk')
  ·intro j o' t v' hj hd hl hv' htn
   rw [aput_get hFR.1]
   by_cases hji:j=i
   ·subst hji
    rw [ho] at hj;cases hj
    rw [hv] at hv';cases hv'
    rw [if_pos ⟨hd,by rw [hcn];exact htn⟩]
   ·rw [if_neg (fun h=>T.uniq i j o o' t ho hj hd hji h.1)]
    rw [hlst] at hl
    exact hc1 j o' t v' hj hd (hl.resolve_right hji) hv' htn
  ·intro t htj
   rw [aput_get hFR.1,if_neg (fun h=>htj i o ho ((hlst i).2 (.inr rfl)) h.1)]
   exact hc2 t fun j o' hj hl=>htj j o' hj ((hlst j).2 (.inl hl))
  ·rw [← I.defers];cases o.dst <;> rfl
 have chNot:i ∉ cs→∀ (k j:Nat),cs[k]?=some j→(Lst (L.setIfInBounds i true) j↔k<m):=by
  intro hics k j hkj
  rw [hlst]
  have:j≠i:=fun h=>hics (h▸List.mem_of_getElem? hkj)
  simp only [this,or_false]
  exact I.chain k j hkj
 have chIn:∀ q,cs[q]?=some i→q=m∧∀ (k j:Nat),cs[k]?=some j→(Lst (L.setIfInBounds i true) j↔k<m+1):=by
  intro q hq
  have h1:¬ q<m:=fun h=>hnot ((I.chain q i hq).2 h)
  have h2:q≤m:=by
   cases q with
   | zero=>omega
   | succ q=>
    obtain ⟨c,hcq⟩:∃ c,cs[q]?=some c:=⟨_,List.getElem?_eq_getElem (by have:=(gJ hq).1;omega)⟩
    have:=(I.chain q c hcq).1 (hanc c (C.next q c i hcq hq))
    omega
  refine ⟨by omega,fun k j hkj=>?_⟩
  rw [hlst,I.chain k j hkj]
  constructor
  ·rintro (h | rfl)
   ·omega
   ·have:=C.once k q j hkj hq;omega
  ·intro h
   by_cases hkm:k=m
   ·right
    have:q=k:=by omega
    subst this
    rw [hq] at hkj;exact (Option.some.inj hkj).symm
   ·left;omega
 unfold wpOp
 simp only [ho']
 rw [hwant,hmk]
 have hev:=evR_of (a:=⟨maskA (o.looksAt ops) a.tmps,a.defers⟩) (hFR.mask (o.looksAt ops))
 rw [hmk] at hev
 have hex:=exec_mask (ops:=ops) (T.noSel i o ho) a
 rcases W.fact i o v ho hv with ⟨h,_⟩ | h | h
 ·exact absurd h hf
 ·rw [hlf] at h;cases h
 rcases h with ⟨hw,hcl,q,g1,g2,hq,hg1,hg2,hdo⟩ | ⟨hw,hcl⟩ | ⟨hw,hcl1,hcl2,hp⟩ | ⟨hw,rfl,hun⟩
 ·rw [if_pos hw]
  obtain ⟨rfl,hch⟩:=chIn q hq
  rw [hg] at hg1;cases hg1
  refine .inl (aDo_wp hc hex hev H hdo fun u w' e' k1 k2 k3=>hk _ _ _ _ (post u w' e' (q+1) k1 k2 ⟨g2,hg2,k3⟩ hch))
 ·rw [if_pos hw]
  have hics:i ∉ cs:=fun h=>by
   obtain ⟨k,hk'⟩:=List.getElem?_of_mem h
   have:=C.two k i o hk' ho
   omega
  have hmay:aMay (Qv [] ops.toList) cs i m=true:=by
   unfold aMay
   refine List.all_eq_true.2 fun k hkr=>?_
   have hkl:=List.mem_range.1 hkr
   obtain ⟨c,hck⟩:∃ c,cs[k]?=some c:=⟨_,List.getElem?_eq_getElem hkl⟩
   have hcd:cs.getD k 0=c:=by rw [List.getD_eq_getElem?_getD,hck];rfl
   rw [hcd]
   simp only [Bool.and_eq_true,Bool.or_eq_true,Bool.not_eq_true',decide_eq_true_eq]
   constructor
   ·by_cases hmem:c∈(Qv [] ops.toList).getD i []
    ·right;exact (I.chain k c hck).1 (hanc c hmem)
    ·left;rw [Bool.eq_false_iff];intro h;exact hmem (List.contains_iff_mem.1 h)
   ·by_cases hmem:i∈(Qv [] ops.toList).getD c []
    ·left
     rcases Nat.lt_or_ge k m with h | h
     ·exact absurd (I.closed c ((I.chain k c hck).2 h) i hmem) hnot
     ·exact h
    ·right;rw [Bool.eq_false_iff];intro h;exact hmem (List.contains_iff_mem.1 h)
  obtain ⟨h',hop⟩:=W.sure i o v ho hv hf hlf hw hcl m g hg hmay
  have hsame:=cls_same hcl hop
  subst hsame
  have hdo:aDo P call (evOf (Go.Proofs.YthekdeikodppkaaGreatDoor.mk (o.looksAt ops) (frm ops.toList V tm i))) o h'=.ok (v,h'):=by unfold aDo;rw [hop]
  refine .inl (aDo_wp hc hex hev H hdo fun u w' e' k1 k2 k3=>hk _ _ _ _ (post u w' e' m k1 k2 ⟨h',hg,k3⟩ (chNot hics)))
 ·rw [if_pos hw]
  have hics:i ∉ cs:=fun h=>by
   obtain ⟨k,hk'⟩:=List.getElem?_of_mem h
   exact hcl2 (C.two k i o hk' ho)
  obtain ⟨u,r1,r2⟩:=aPure_gives hev hp w
  refine .inl ?_
  unfold Oper.wp
  rw [hex,r1]
  exact hk _ _ _ _ (post u w e m (Env.le_refl _) r2 ⟨g,hg,H⟩ (chNot hics))
 ·rw [if_neg (by rw [hw];simp)]
  by_cases hics:i∈cs
  ·obtain ⟨q,g1,hq,hg1,hg2⟩:=hun hics
   obtain ⟨rfl,hch⟩:=chIn q hq
   rw [hg] at hg1;cases hg1
   exact hk _ _ _ _ (post undef w e (q+1) (Env.le_refl _) ⟨[],rfl,rfl⟩ ⟨g,hg2,H⟩ hch)
  ·exact hk _ _ _ _ (post undef w e m (Env.le_refl _) ⟨[],rfl,rfl⟩ ⟨g,hg,H⟩ (chNot hics))
end
end
noncomputable section
def Tr.upT(n:Nat):Tr→Tr
 | .lf=>.lf
 | .nd v l r=>.nd (v.up n) (upT n l) (upT n r)
theorem Tr.upT_get(n f:Nat):∀ (t:Tr) (i:Nat),(t.upT n).get f i=(t.get f i).up n
 | .lf,i=>rfl
 | .nd v l r,0=>rfl
 | .nd v l r,i+1=>by
  rw [Tr.upT,Tr.get_nd f f,Tr.get_nd f f]
  split
  ·exact Tr.upT_get n f l _
  ·exact Tr.upT_get n f r _
def Fr.up(n:Nat)(f:Fr):Fr:=⟨f.n,f.t.upT n⟩
theorem Fr.up_get(n:Nat)(f:Fr)(i:Nat):(f.up n).get i=(f.get i).up n:=by
 unfold Fr.get Fr.up
 simp only
 split
 ·exact Tr.upT_get n 12 f.t i
 ·rfl
section
variable {F:Funs} {e e' e0:Env} {w0 w:World} {P:Program} {call:Jq} {ops:Array Oper} {cs:List Nat} {flt:Option Nat} {on:Option AV} {tm:Fr} {V:List AV} {G:List AH} {Q:Exit→Act→World→Prop} {ds:List Deferred}
theorem FR.up{f:Fr}{tmps:Array Value}{n:Nat}{x:Nat × Nat × Nat}(hn:n≤e.bl.length)(h:FR F e f tmps):FR F (e.ins n x) (f.up n) tmps:=
 ⟨h.1,h.2.1,fun i=>by rw [Fr.up_get];exact VR.up hn _ _ (h.2.2 i)⟩
theorem all_done(T:TextOk ops (Qv [] ops.toList)){L:Array Bool}(hs:L.size=ops.size)(hr:Region.ready .any ops L=[]):∀ i,i<ops.size→Lst L i:=by
 intro i
 induction i using Nat.strongRecOn with
 | _ i ih=>
  intro hi
  rcases Bool.eq_false_or_eq_true (L.getD i false) with h | h
  ·exact h
  ·exfalso
   obtain ⟨o,ho⟩:∃ o,ops[i]?=some o:=⟨_,Array.getElem?_eq_getElem hi⟩
   have ho':ops.toList[i]?=some o:=by rw [Array.getElem?_toList];exact ho
   have:i∈Region.ready .any ops L:=Jz.2 ⟨hi,by rw [Jm (by rw [hs];exact hi)];exact h,o,ho,fun x hx hb=>?_⟩
   ·rw [hr] at this;cases this
   ·have hlt:=T.back i o ho' x (by simpa using hx) hb
    exact ih x.on hlt (by omega)
theorem ready_lt{L:Array Bool}(hs:L.size=ops.size){i:Nat}(hi:i∈Region.ready .any ops L):i<L.size∧L.getD i true=false∧¬ Lst L i:=by
 obtain ⟨h1,h2,_⟩:=Jz.1 hi
 have h1':i<L.size:=by rw [hs];exact h1
 refine ⟨h1',h2,?_⟩
 unfold Lst
 rw [← Jm h1',h2];simp
theorem putAll_frm:∀ (l:List Oper) (V:List AV) (tm:Fr),V.length=l.length→putAll l V tm=frm l V tm l.length
 | [],[],tm,_=>rfl
 | [],_::_,tm,h=>by simp at h
 | _::_,[],tm,h=>by simp at h
 | o::l,v::V,tm,h=>by
  simp only [putAll,fput_eq]
  rw [putAll_frm l V _ (by simpa using h)]
  rfl
theorem way_all(hc:Vs F P call)(T:TextOk ops (Qv [] ops.toList))(C:ChainOk P ops (Qv [] ops.toList) cs)(W:WayOk P call ops (Qv [] ops.toList) cs flt on tm V G)(htm:tm.ok)(hGl:G.length=cs.length+1)
 (hcs:∀ i∈cs,i<ops.size) (hon:flt=none∨on.isSome=true) {gl:AH} (hlast:G.getLast? = some gl)
 (hfin:∀ a w e,e0.le e→FR F e (putAll ops.toList V tm) a.tmps→a.defers=ds→HR F e w0 w gl→Q .normal a w) :
 ∀ (fuel:Nat) (L:Array Bool) (a:Act) (w:World) (m:Nat) (e:Env),left L=fuel→Inv F e0 w0 ops (Qv [] ops.toList) cs tm V G ds L a w m e→(∀ x,flt=some x→Lst L x)→wpAny P .any ops Q fuel L a w:=by
 have hlf:∀ i,lefts (Qv [] ops.toList) flt on i=false:=by
  intro i
  unfold lefts
  rcases hon with h | h
  ·rw [h];simp
  ·cases on with
   | none=>cases h
   | some x=>rfl
 have done:∀ (L:Array Bool) (a:Act) (w:World) (m:Nat) (e:Env),Inv F e0 w0 ops (Qv [] ops.toList) cs tm V G ds L a w m e→(∀ i,i<ops.size→Lst L i)→Q .normal a w:=by
  intro L a w m e I hall
  obtain ⟨g,hg,H⟩:=I.mem
  have hm:m=cs.length:=by
   have h1:=(gJ hg).1
   rcases Nat.lt_or_ge m cs.length with h | h
   ·exfalso
    have hck:cs[m]?=some cs[m]:=List.getElem?_eq_getElem h
    have:=(I.chain m _ hck).1 (hall _ (hcs _ (List.mem_of_getElem? hck)))
    omega
   ·omega
  have hgl:g=gl:=by
   rw [List.getLast?_eq_getElem?,hGl,Nat.add_sub_cancel,← hm,hg] at hlast
   exact Option.some.inj hlast
  subst hgl
  obtain ⟨cur,hFR,hcn,hc1,hc2⟩:=I.frame
  refine hfin a w e I.le ?_ I.defers H
  rw [putAll_frm _ _ _ W.len]
  obtain ⟨f1,f2,f3,f4⟩:=frm_get T W.len htm ops.toList.length (Nat.le_refl _)
  refine ⟨f2,by rw [f1,← hcn];exact hFR.2.1,fun t=>?_⟩
  have:(frm ops.toList V tm ops.toList.length).get t=cur.get t:=by
   by_cases htn:t<tm.n
   ·by_cases hex:∃ (j:Nat) (o:Oper),ops.toList[j]?=some o∧o.dst=some t
    ·obtain ⟨j,o,hj,hd⟩:=hex
     have hjl:=(gJ hj).1
     obtain ⟨u,hu⟩:∃ u,V[j]?=some u:=⟨_,List.getElem?_eq_getElem (by rw [W.len];exact hjl)⟩
     rw [f3 j o t u hjl hj hd hu htn,hc1 j o t u hj hd (hall j (by simpa using hjl)) hu htn]
    ·have hno:∀ (k:Nat) (ok:Oper),ops.toList[k]?=some ok→ok.dst≠some t:=fun k ok hk h=>hex ⟨k,ok,hk,h⟩
     rw [f4 t fun k ok _ hk=>hno k ok hk,hc2 t fun k ok hk _=>hno k ok hk]
   ·rw [Fr.get_out (by omega),Fr.get_out (by omega)]
  rw [this]
  exact hFR.2.2 t
 intro fuel
 induction fuel with
 | zero=>
  intro L a w m e hl I hfl
  have hall:∀ i,i<ops.size→Lst L i:=by
   intro i hi
   have hi':i<L.size:=by rw [I.size];exact hi
   rcases Bool.eq_false_or_eq_true (L.getD i true) with h | h
   ·unfold Lst;rw [← Jm hi'];exact h
   ·have:=left_pos hi' h;omega
  refine ⟨?_,done L a w m e I hall⟩
  rcases hr:Region.ready .any ops L with _ | ⟨i,r⟩
  ·rfl
  ·obtain ⟨h1,_,h3⟩:=ready_lt I.size (i:=i) (by rw [hr];simp)
   exact absurd (hall i (by rw [← I.size];exact h1)) h3
 | succ fuel ih=>
  intro L a w m e hl I hfl
  refine ⟨fun hr=>done L a w m e I (all_done T I.size hr),fun i hi=>?_⟩
  obtain ⟨h1,h2,h3⟩:=ready_lt I.size hi
  refine I.step hc T C W htm hi (fun h=>h3 (hfl i h)) (hlf i) fun a' w' m' e' I'=>?_
  refine ih _ a' w' m' e' ?_ I' fun x hx=>?_
  ·have:=Vz h1 h2;omega
  ·exact (lst_set h1 x).2 (.inl (hfl x hx))
theorem Inv.alloc(T:TextOk ops (Qv [] ops.toList)){al n:Nat}{oa:Oper}{t:TypeId}{z:AV}{VF VT:List AV}{GF GT:List AH}(hoa:ops.toList[al]?=some oa)(hop:oa.op=.alloc t)(hg:oa.guard=none)(hz:zeroT P t=some z)
 (hanc:(Qv [] ops.toList).getD al []=[]) (hcs:al ∉ cs) (hn:e0.bl.length=n) (hVF:VF.length=ops.toList.length)
 (htmup:∀ i:Nat,(tm.get i).up n=tm.get i) (hG:∀ (m:Nat) (g:AH),GF[m]?=some g→GT[m]?=some (g.ins n (.cells z.cells)))
 (hV:∀ (i:Nat) (u v:AV),i≠al→al ∉ (Qv [] ops.toList).getD i []→VF[i]?=some u→VT[i]?=some v→v=u.up n) (hVal:∀ v,VT[al]?=some v→v=.ptr n 0)
 {L:Array Bool} {a:Act} {m:Nat} (I:Inv F e0 w0 ops (Qv [] ops.toList) cs tm VF GF ds L a w m e) (hi:al∈Region.ready .any ops L) {K:Act→World→Prop}
 (hk:∀ a' w' m' e',Inv F e0 w0 ops (Qv [] ops.toList) cs tm VT GT ds (L.setIfInBounds al true) a' w' m' e'→K a' w'):wpOp P ops Q al K a w:=by
 obtain ⟨h1,h2,h3⟩:=ready_lt I.size hi
 have hlst:=lst_set (L:=L) (i:=al) h1
 have hoa':ops[al]?=some oa:=by rw [← Array.getElem?_toList];exact hoa
 obtain ⟨g,hg1,H⟩:=I.mem
 obtain ⟨cur,hFR,hcn,hc1,hc2⟩:=I.frame
 have hle:n≤e.bl.length:=by
  obtain ⟨⟨l,hl⟩,_⟩:=I.le
  rw [hl,lJ];omega
 unfold wpOp
 simp only [hoa']
 have hw:Region.wanted oa (yielded ops a.tmps)=true:=by unfold Region.wanted;rw [hg]
 rw [if_pos hw]
 refine .inl ?_
 obtain ⟨zv,g1,g2⟩:=zeroValue_run (F:=F) (e:=e) (w:=w) hz
 have hcz:=g2.cells
 have g2':VR F (e.ins n (w.heap.size,0,zv.cells.size)) z zv:=by
  unfold zeroT at hz
  cases hi:P.info? t with
  | none=>rw [hi] at hz;cases hz
  | some i=>
   rw [hi] at hz
   cases hzz:i.zero with
   | none=>simp [hzz] at hz
   | some z0=>
    simp [hzz] at hz
    subst hz
    have:zv=z0:=by
     have hr:(zeroValue t).run P w=.ok z0 w:=by simp [zeroValue,typeInfo,hi,hzz]
     rw [hr] at g1;injection g1 with g1 _;exact g1.symm
    subst this
    exact vr_ofVal F _ zv
 have hcz':=g2'.cells
 have H':=H.ins (o:=.cells zv.cells t) (ao:=.cells z.cells) (n:=n) (k:=0) (m:=zv.cells.size) (by rw [H.len];exact hle)
  ⟨zv.cells,t,(0,0),heap_alloc_new w _,rfl,by simp,zv.cells.toList,hcz',by rw [← VRs.length _ _ hcz',List.drop_zero,List.take_length]⟩
 have hrun:(execOp a.eval oa).run P w=.ok (.value (.pointer (some ⟨w.heap.size,0,none⟩))) (w.alloc (.cells zv.cells t)):=by
  simp [execOp,hop,Instr.alloc,g1,newVar,newRow]
 unfold Oper.wp
 rw [hrun]
 refine hk _ _ m (e.ins n (w.heap.size,0,zv.cells.size)) ⟨by simpa using I.size,?_,?_,?_,⟨_,hG m g hg1,H'⟩,⟨aput (cur.up n) oa.dst (.ptr n 0),?_,by rw [aput_n];exact hcn,?_,?_⟩,?_⟩
 ·intro j hj k hkj
  rw [hlst] at hj
  rw [hlst]
  rcases hj with hj | rfl
  ·exact .inl (I.closed j hj k hkj)
  ·rw [hanc] at hkj;cases hkj
 ·intro k j hkj
  rw [hlst]
  have:j≠al:=fun h=>hcs (h▸List.mem_of_getElem? hkj)
  simp only [this,or_false]
  exact I.chain k j hkj
 ·obtain ⟨⟨l,hl⟩,lt,hlt⟩:=I.le
  refine ⟨⟨(w.heap.size,0,zv.cells.size)::l,?_⟩,lt,hlt⟩
  simp only [Env.ins,hl]
  rw [List.take_append_of_le_length (by omega),List.take_of_length_le (by omega),List.drop_append_of_le_length (by omega),List.drop_of_length_le (by omega)]
  rfl
 ·refine aput_vr (FR.up hle hFR) ⟨w.heap.size,0,zv.cells.size,?_,rfl⟩
  simp only [Env.ins]
  rw [Go.Proofs.YthekdeikodppkaaGreatDoor.ins_get _ _ _ hle,if_neg (by omega),if_pos rfl]
 ·intro j o t' v hj hd hl hv htn
  rw [aput_get (f:=cur.up n) hFR.1]
  by_cases hja:j=al
  ·subst hja
   rw [hoa] at hj;cases hj
   rw [if_pos ⟨hd,by show t'<cur.n;rw [hcn];exact htn⟩,hVal v hv]
  ·rw [if_neg (fun h=>T.uniq al j oa o t' hoa hj hd hja h.1),Fr.up_get]
   rw [hlst] at hl
   have hl:=hl.resolve_right hja
   obtain ⟨u,hu⟩:∃ u,VF[j]?=some u:=⟨_,List.getElem?_eq_getElem (by rw [hVF];exact (gJ hj).1)⟩
   rw [hc1 j o t' u hj hd hl hu htn]
   exact (hV j u v hja (fun h=>h3 (I.closed j hl al h)) hu hv).symm
 ·intro t' htj
  rw [aput_get (f:=cur.up n) hFR.1,if_neg (fun h=>htj al oa hoa ((hlst al).2 (.inr rfl)) h.1),Fr.up_get]
  rw [hc2 t' fun j o hj hl=>htj j o hj ((hlst j).2 (.inl hl))]
  exact htmup t'
 ·rw [← I.defers];cases oa.dst <;> rfl
theorem way_float(hc:Vs F P call)(T:TextOk ops (Qv [] ops.toList))(C:ChainOk P ops (Qv [] ops.toList) cs)(htm:tm.ok)(hcs':∀ i∈cs,i<ops.size){al n:Nat}{oa:Oper}{t:TypeId}{z:AV}{VF VT:List AV}{GF GT:List AH}
 (WF:WayOk P call ops (Qv [] ops.toList) cs (some al) none tm VF GF) (WT:WayOk P call ops (Qv [] ops.toList) cs (some al) (some (.ptr n 0)) tm VT GT) (hGl:GT.length=cs.length+1)
 (hoa:ops.toList[al]?=some oa) (hop:oa.op=.alloc t) (hg:oa.guard=none) (hz:zeroT P t=some z)
 (hanc:(Qv [] ops.toList).getD al []=[]) (hcs:al ∉ cs) (hn:e0.bl.length=n)
 (htmup:∀ i:Nat,(tm.get i).up n=tm.get i) (hG:∀ (m:Nat) (g:AH),GF[m]?=some g→GT[m]?=some (g.ins n (.cells z.cells)))
 (hV:∀ (i:Nat) (u v:AV),i≠al→al ∉ (Qv [] ops.toList).getD i []→VF[i]?=some u→VT[i]?=some v→v=u.up n) (hVal:∀ v,VT[al]?=some v→v=.ptr n 0)
 {gl:AH} (hlast:GT.getLast? = some gl) (hfin:∀ a w e,e0.le e→FR F e (putAll ops.toList VT tm) a.tmps→a.defers=ds→HR F e w0 w gl→Q .normal a w) :
 ∀ (fuel:Nat) (L:Array Bool) (a:Act) (w:World) (m:Nat) (e:Env),left L=fuel→Inv F e0 w0 ops (Qv [] ops.toList) cs tm VF GF ds L a w m e→¬ Lst L al→wpAny P .any ops Q fuel L a w:=by
 have hal:al<ops.size:=by simpa using (gJ hoa).1
 intro fuel
 induction fuel with
 | zero=>
  intro L a w m e hl I hnl
  have hal':al<L.size:=by rw [I.size];exact hal
  exfalso
  rcases Bool.eq_false_or_eq_true (L.getD al true) with h | h
  ·exact hnl (by unfold Lst;rw [← Jm hal'];exact h)
  ·have:=left_pos hal' h;omega
 | succ fuel ih=>
  intro L a w m e hl I hnl
  refine ⟨fun hr=>absurd (all_done T I.size hr al hal) hnl,fun i hi=>?_⟩
  obtain ⟨h1,h2,h3⟩:=ready_lt I.size hi
  by_cases hia:i=al
  ·subst hia
   refine Inv.alloc T hoa hop hg hz hanc hcs hn WF.len htmup hG hV hVal I hi fun a' w' m' e' I'=>?_
   refine way_all hc T C WT htm hGl hcs' (.inr rfl) hlast hfin fuel _ a' w' m' e' ?_ I' fun x hx=>?_
   ·have:=Vz h1 h2;omega
   ·cases hx
    exact (lst_set h1 _).2 (.inr rfl)
  ·obtain ⟨_,_,o,ho',hrd⟩:=Jz.1 hi
   have ho:ops.toList[i]?=some o:=by rw [Array.getElem?_toList];exact ho'
   have hanci:=ready_anc T I.closed ho hrd
   have hlf:lefts (Qv [] ops.toList) (some al) none i=false:=by
    unfold lefts
    simp only [Option.isNone_none,Bool.true_and]
    rw [Bool.eq_false_iff]
    intro h
    exact hnl (hanci al (List.contains_iff_mem.1 h))
   refine I.step hc T C WF htm hi (fun h=>hia (Option.some.inj h).symm) hlf fun a' w' m' e' I'=>?_
   refine ih _ a' w' m' e' ?_ I' fun h=>?_
   ·have:=Vz h1 h2;omega
   ·rcases (lst_set h1 al).1 h with h | h
    ·exact hnl h
    ·exact hia h.symm
theorem chainOk_spec{ancs:List (List Nat)}:∀ {l:List Nat},chainOk ancs l=true→∀ (k i j:Nat),l[k]?=some i→l[k+1]?=some j→i∈ancs.getD j []
 | [],_,k,i,j,h,_=>by simp at h
 | [a],_,k,i,j,_,h=>by simp at h
 | a::b::r,h,0,i,j,h1,h2=>by
  simp only [chainOk,Bool.and_eq_true] at h
  simp at h1 h2
  subst h1;subst h2
  exact List.contains_iff_mem.1 h.1
 | a::b::r,h,k+1,i,j,h1,h2=>by
  simp only [chainOk,Bool.and_eq_true] at h
  exact chainOk_spec h.2 k i j (by simpa using h1) (by simpa using h2)
def isTwo(P:Program)(l:List Oper)(i:Nat):Bool:=match l[i]? with | some o=>cls P o.op==2 | none=>false
theorem chainOk_of{p:Nat→Bool}(hp:∀ i,p i=true→isTwo P ops.toList i=true)(hch:chainOk (Qv [] ops.toList) ((List.range ops.toList.length).filter p)=true) :
 ChainOk P ops (Qv [] ops.toList) ((List.range ops.toList.length).filter p)∧∀ i∈(List.range ops.toList.length).filter p,i<ops.size:=by
 have hnd:((List.range ops.toList.length).filter p).Nodup:=List.nodup_range.filter _
 refine ⟨⟨chainOk_spec hch,fun k i o hk ho=>?_,fun k k' i hk hk'=>?_⟩,fun i hi=>?_⟩
 ·have h1:=hp i (List.mem_filter.1 (List.mem_of_getElem? hk)).2
  unfold isTwo at h1
  rw [ho] at h1
  simpa using h1
 ·have h1:=(gJ hk)
  have h2:=(gJ hk')
  exact (List.getElem_inj hnd).1 (h1.2.trans h2.2.symm)
 ·have:=List.mem_range.1 (List.mem_filter.1 hi).1
  simpa using this
theorem Inv.start{w:World}{gl0:AH}(hh:∃ t,G=[gl0]++t){h:AH}(hgl:gl0=h)(H:HR F e0 w0 w h){a:Act}(ht:FR F e0 tm a.tmps) :
 Inv F e0 w0 ops (Qv [] ops.toList) cs tm V G a.defers (Array.replicate ops.size false) a { w with drawn:=w.drawn+1 } 0 e0:=by
 have no:∀ i,¬ Lst (Array.replicate ops.size false) i:=by
  intro i h
  unfold Lst at h
  rw [Array.getD_eq_getD_getElem?,Array.getElem?_replicate] at h
  split at h <;> simp at h
 obtain ⟨t,ht'⟩:=hh
 refine ⟨by simp,fun i h=>absurd h (no i),fun k i _=>⟨fun h=>absurd h (no i),fun h=>by omega⟩,Env.le_refl _,⟨h,by rw [ht',hgl];rfl,H.same rfl rfl rfl rfl⟩,⟨tm,ht,rfl,fun j o t v _ _ h=>absurd h (no j),fun t _=>rfl⟩,rfl⟩
theorem way_of{gs:List AH}(hW:aWay P call ops (Qv [] ops.toList) cs flt on 0 ops.toList tm [] gs=.ok (V,G))(hS:aSure P ops (Qv [] ops.toList) cs flt on G 0 ops.toList tm V=true) :
 WayOk P call ops (Qv [] ops.toList) cs flt on tm V G∧(∃ t,G=gs++t)∧∀ (i:Nat) (o:Oper) (v:AV),ops.toList[i]?=some o→V[i]?=some v→flt=some i→v=on.getD (.tup []):=by
 obtain ⟨vs,hV,hl,ht,hf⟩:=aWay_spec _ _ _ _ _ _ _ hW
 simp only [List.nil_append] at hV
 subst hV
 refine ⟨⟨hl,fun i o v ho hv=>?_,fun i o v ho hv hf' hlf hw hc m g hg hm=>?_⟩,ht,fun i o v ho hv=>?_⟩
 ·have:=(hf i o v ho hv).2
  simpa only [Nat.zero_add] using this
 rotate_left
 ·have:=(hf i o v ho hv).1
  simpa only [Nat.zero_add] using this
 ·exact aSure_spec _ _ _ _ hS i o v ho hv (by simpa only [Nat.zero_add] using hf') (by simpa only [Nat.zero_add] using hlf) hw hc m g hg (by simpa only [Nat.zero_add] using hm)
theorem aDraw_ok(hm:P.follows .mixedOrders=true)(hc:Vs F P call):DrawOk F P (fun ops tm h=>aDraw P call ops tm h):=by
 intro ops tm h tm' h' hr e w0 w a Q id ht H hk
 unfold aDraw at hr
 dsimp only at hr
 split at hr
 rotate_left
 ·cases hr
 rename_i htx
 have T:=textOk_spec htx
 split at hr
 ·cases hr
 ·
  rename_i hfl
  have hch:chainOk (Qv [] ops.toList) ((List.range ops.toList.length).filter fun i=>match ops.toList[i]? with | some o=>cls P o.op==2 | none=>false)=true:=by
   unfold floatOf at hfl
   split at hfl
   ·assumption
   ·split at hfl <;> cases hfl
  obtain ⟨C,hlt⟩:=chainOk_of (P:=P) (ops:=ops) (fun i hi=>hi) hch
  split at hr
  rotate_left
  ·cases hr
  rename_i V G hW
  split at hr
  rotate_left
  ·cases hr
  rename_i hS
  simp only [Bool.and_eq_true,decide_eq_true_eq] at hS
  split at hr
  rotate_left
  ·cases hr
  rename_i g hg
  cases hr
  obtain ⟨W,hG0,_⟩:=way_of hW hS.1
  refine wp_region_any hm ?_
  refine way_all (e0:=e) (w0:=w0) (ds:=a.defers) hc T C W ht.1 hS.2 hlt (.inl rfl) hg (fun a' w' e' k1 k2 k3 k4=>hk a' w' e' k1 k2 k3 k4) ops.size _ a _ 0 e (left_none _) (Inv.start hG0 rfl H ht) (by simp)
 ·
  rename_i al hfl
  have hfl':∃ oa,ops.toList[al]?=some oa∧isAlloc oa=true∧(Qv [] ops.toList).getD al []=[]∧chainOk (Qv [] ops.toList) ((((List.range ops.toList.length).filter fun i=>match ops.toList[i]? with | some o=>cls P o.op==2 | none=>false)).filter (· != al))=true:=by
   unfold floatOf at hfl
   split at hfl
   ·cases hfl
   ·split at hfl
    ·rename_i a' hfind
     cases hfl
     have:=List.find?_some hfind
     simp only [Bool.and_eq_true] at this
     obtain ⟨⟨q1,q2⟩,q3⟩:=this
     split at q1
     ·rename_i o ho
      exact ⟨o,ho,q1,by simpa using q2,q3⟩
     ·cases q1
    ·cases hfl
  obtain ⟨oa,hoa,hal,hanc,hch⟩:=hfl'
  rw [List.filter_filter] at hch
  obtain ⟨C,hlt⟩:=chainOk_of (P:=P) (ops:=ops) (p:=fun i=>(i != al)&&(match ops.toList[i]? with | some o=>cls P o.op==2 | none=>false)) (fun i hi=>by simp only [Bool.and_eq_true] at hi;exact hi.2) hch
  rw [← List.filter_filter] at C hlt
  have hnal:al ∉ ((List.range ops.toList.length).filter fun i=>match ops.toList[i]? with | some o=>cls P o.op==2 | none=>false).filter (· != al):=by
   intro h
   have:=(List.mem_filter.1 h).2
   simp at this
  split at hr
  rotate_left
  ·cases hr
  rename_i oa' hoa'
  rw [hoa] at hoa';cases hoa'
  split at hr
  rotate_left
  ·cases hr
  rename_i t hop
  split at hr
  rotate_left
  ·cases hr
  rename_i z hz
  split at hr
  ·rename_i vt gt vf gf hWT hWF
   split at hr
   rotate_left
   ·cases hr
   rename_i hS
   simp only [Bool.and_eq_true,decide_eq_true_eq] at hS
   obtain ⟨⟨⟨s1,s2⟩,s3⟩,s4⟩:=hS
   split at hr
   rotate_left
   ·cases hr
   rename_i g hg
   cases hr
   obtain ⟨WT,_,hal0⟩:=way_of hWT s1
   obtain ⟨WF,hG0,_⟩:=way_of hWF s2
   have hgd:oa.guard=none:=by
    unfold isAlloc at hal
    rw [hop] at hal
    simpa using hal
   unfold aBoth at s4
   simp only [Bool.and_eq_true,decide_eq_true_eq] at s4
   obtain ⟨⟨⟨b1,b2⟩,b3⟩,b4⟩:=s4
   refine wp_region_any hm ?_
   refine way_float (e0:=e) (w0:=w0) (ds:=a.defers) (n:=h.bs.length) (z:=z) hc T C ht.1 hlt WF WT s3 hoa hop hgd hz hanc hnal H.len.symm ?_ ?_ ?_ ?_ hg (fun a' w' e' k1 k2 k3 k4=>hk a' w' e' k1 k2 k3 k4) ops.size _ a _ 0 e (left_none _) (Inv.start hG0 rfl H ht) ?_
   ·intro i
    rcases Nat.lt_or_ge i tm.n with hi | hi
    ·exact AV.eq_of_beq (List.all_eq_true.1 b1 i (List.mem_range.2 hi))
    ·rw [Fr.get_out hi];rfl
   ·intro m g' hg'
    have:=List.all_eq_true.1 b3 m (List.mem_range.2 (gJ hg').1)
    rw [hg'] at this
    split at this
    ·rename_i x y hx hy
     cases hx
     rw [hy,AH.eq_of_same this]
    ·cases this
   ·intro i u v hia hna hu hv
    have hil:i<ops.toList.length:=by rw [← WF.len];exact (gJ hu).1
    have:=List.all_eq_true.1 b4 i (List.mem_range.2 hil)
    simp only [hu,hv,Bool.or_eq_true,beq_iff_eq] at this
    rcases this with (h1 | h1) | h1
    ·exact absurd h1 hia
    ·exact absurd (List.contains_iff_mem.1 h1) hna
    ·exact (AV.eq_of_beq h1).symm
   ·intro v hv
    exact hal0 al oa v hoa hv rfl
   ·intro h'
    unfold Lst at h'
    rw [Array.getD_eq_getD_getElem?,Array.getElem?_replicate] at h'
    split at h' <;> simp at h'
  ·cases hr
  ·cases hr
theorem Qt(hm:P.follows .mixedOrders=true){pr:Prims}(hp:Qc F P pr)(fuel depth:Nat):Vs F P (aRun P pr fuel depth):=
 aCall_ok hp (fun _ hc=>aDraw_ok hm hc) depth
end
end
def turnF(x:Int)(k:Nat):Int:=bits .or .u32 (x/2^k) (IntKind.u32.wrap (x*2^(32-k)))
set_option maxHeartbeats 800000 in
theorem shturn_any(x:Int)(k:Nat)(hk:1≤k∧k≤31)(w:World):Calls Tryz.prog 200 #[.int .u32 x,.int .i64 k] w (fun r w'=>r=.returned (.int .u32 (turnF x k))∧Own w w' []):=by
 obtain ⟨hk1,hk2⟩:=hk
 have d11:(k:Int)<64:=by omega
 have d12:¬ (k:Int)<0:=by omega
 have h1:¬ ((32:Int)-k)<0:=by omega
 have h2:IntKind.i64.wrap (32-(k:Int))=32-k:=IntWalk.i64_in _ ⟨by omega,by omega⟩
 have h3:((32:Int)-k).toNat=32-k:=by omega
 unfold turnF
 have H:=Own.start w
 go_enter Tryz.func200,Tryz.ntmps200
 go_upto_region 1 with (fail)
 refine Qa (fun w1=>Own w w1 []) 8 (by kernel_rfl) (by kernel_rfl) H.drew ?_
 simp only [List.take_succ_cons,List.take_zero,List.drop_succ_cons,List.drop_zero]
 repeat
  first
  | (refine calm_value (v:=?_) (by decide) rfl (fun σ w1 hS=>?_) ?_
     rotate_left
     ·skip
      first | (go_simp;rfl) | rfl
     simp only [Act.put,putC])
  | (refine calm_skip (by decide) rfl ?_
     simp only [Act.put,putC])
 refine calm_nil ?_
 intro wd HD
 go_wp2
 go_ret
 exact ⟨rfl,HD⟩
def wds(l:List Int):List Value:=l.map fun x=>.int .u32 x
theorem Qi(l:List Int):(wds l).length=l.length:=List.length_map _
theorem wds_one(l:List Int):∀ u∈wds l,u.oneCell'=true:=by
 intro u hu
 obtain ⟨x,-,rfl⟩:=List.mem_map.1 hu
 rfl
theorem Vu{l:List Int}{i:Nat}(h:i<l.length):(wds l).toArray[i]?=some (.int .u32 (l.getD i 0)):=by
 rw [List.getElem?_toArray,wds,List.getElem?_map,List.getD_eq_getElem?_getD,List.getElem?_eq_getElem h]
 rfl
theorem Vt(l:List Int)(k:Nat)(v:Int):(wds l).toArray.setIfInBounds k (.int .u32 v)=(wds (l.set k v)).toArray:=by
 rw [List.setIfInBounds_toArray,wds,wds,List.map_set]
def kF:List Int:=[1116352408,1899447441,3049323471,3921009573,961987163,1508970993,2453635748,2870763221,3624381080,310598401,607225278,1426881987,1925078388,2162078206,2614888103,3248222580,3835390401,4022224774,264347078,604807628,770255983,1249150122,1555081692,1996064986,2554220882,2821834349,2952996808,3210313671,3336571891,3584528711,113926993,338241895,666307205,773529912,1294757372,1396182291,1695183700,1986661051,2177026350,2456956037,2730485921,2820302411,3259730800,3345764771,3516065817,3600352804,4094571909,275423344,430227734,506948616,659060556,883997877,958139571,1322822218,1537002063,1747873779,1955562222,2024104815,2227730452,2361852424,2428436474,2756734187,3204031479,3329325298]
def roundF(i:Nat):Int:=kF.getD i 0
set_option maxRecDepth 100000 in
set_option maxHeartbeats 1600000 in
theorem shround_any(i:Nat)(hi:i<64)(w:World):Calls Tryz.prog 201 #[.int .i64 i] w (fun r w'=>r=.returned (.int .u32 (roundF i))∧Own w w' []):=by
 have hiI:(i:Int)<64:=by omega
 obtain ⟨y,hy⟩:∃ y,Hid (roundF i=y):=⟨_,rfl⟩
 have hc:Hid ((wds kF).toArray[i]?=some (.int .u32 y)):=jd (by rw [← hy.out];exact Vu (by simpa [kF] using hi))
 rw [hy.out]
 go_enter Tryz.func201,Tryz.ntmps201
 go_upto_region 2 with (refine Qe (vs:=wds kF) (cur':=(wds kF).toArray) rfl _ _ rfl rfl ((Own.start w).alloc (.cells #[.int .u32 0,.int .u32 0,.int .u32 0,.int .u32 0,.int .u32 0,.int .u32 0,.int .u32 0,.int .u32 0,.int .u32 0,.int .u32 0,.int .u32 0,.int .u32 0,.int .u32 0,.int .u32 0,.int .u32 0,.int .u32 0,.int .u32 0,.int .u32 0,.int .u32 0,.int .u32 0,.int .u32 0,.int .u32 0,.int .u32 0,.int .u32 0,.int .u32 0,.int .u32 0,.int .u32 0,.int .u32 0,.int .u32 0,.int .u32 0,.int .u32 0,.int .u32 0,.int .u32 0,.int .u32 0,.int .u32 0,.int .u32 0,.int .u32 0,.int .u32 0,.int .u32 0,.int .u32 0,.int .u32 0,.int .u32 0,.int .u32 0,.int .u32 0,.int .u32 0,.int .u32 0,.int .u32 0,.int .u32 0,.int .u32 0,.int .u32 0,.int .u32 0,.int .u32 0,.int .u32 0,.int .u32 0,.int .u32 0,.int .u32 0,.int .u32 0,.int .u32 0,.int .u32 0,.int .u32 0,.int .u32 0,.int .u32 0,.int .u32 0,.int .u32 0] 314)) rfl (by kernel_rfl) (by simp [wds,kF]) (wds_one _) rfl ?_;intro w5 H)
 generalize w.heap.size=g at *
 have c0:w5.cell? ⟨g,i,none⟩=some (.int .u32 y):=by rw [H.cells];exact hc.out
 go_wp2
 go_ret
 exact ⟨rfl,H.bare⟩
noncomputable section
def dLast(P:Program)(call:Jq)(draw:Km)(fuel:Nat)(fn:Func)(g:FuncId)(args:List AV)(tm:Fr)(h:AH):Rs (AV × AH):=
 match P.funcs[g]? with
 | some gn=>match gn.body with
  | some c=>if Nat.ble (args.length+(gn.ntmps-args.length)) 4000 then match aCode P call draw fuel c ⟨args.length+(gn.ntmps-args.length),trArgs args 0 .lf⟩ h with
   | .ok (.exit _,_,_)=>.no [4445]
   | .ok (_,tg,h')=>match Ka P tg h' gn.results.toList,Ka P tm h' fn.results.toList with
    | some _,some l=>.ok (aRet l,h')
    | _,_=>.no [3334]
   | .no l=>.no (g::l)
   else .no [2224]
  | none=>.no [2225]
 | none=>.no [2226]
def dRest(P:Program)(call:Jq)(draw:Km)(fuel:Nat)(fn:Func)(rest:Code)(f:AV)(tm:Fr)(h:AH):Rs (AV × AH):=
 match f with
 | .fn (.func g) x y=>if enters P g then match aCode P call draw fuel rest tm h with
  | .ok (.exit _,_,_)=>.no [4446]
  | .ok (_,tm',h')=>dLast P call draw fuel fn g (x++y) tm' h'
  | .no l=>.no l
  else .no [2227]
 | _=>.no [2228]
def dBody(P:Program)(call:Jq)(draw:Km)(fuel:Nat)(fn:Func)(r0:Code)(ops:Array Oper)(m d:Oper)(f:Operand)(rest:Code)(tm:Fr)(h:AH):Rs (AV × AH):=
 match aCode P call draw fuel r0 tm h with
 | .ok (.normal,tm1,h1)=>match aStep P call ops m tm1 h1 with
  | .ok (tm2,h2)=>dRest P call draw fuel fn rest (evOf tm2 f) tm2 h2
  | .no l=>.no l
 | .ok _=>.no [4447]
 | .no l=>.no l
section
variable {F:Funs} {e:Env} {w0 w:World} {h h':AH} {P:Program} {call:Jq} {draw:Km} {fuel:Nat} {fn:Func} {v:AV} {R:Ending→World→Prop}
theorem dLast_leaves(hc:Vs F P call)(hd:DrawOk F P draw){g:FuncId}{args:List AV}{dargs cap:Array Value}{tm:Fr}{a:Act}(hen:enters P g=true)(hv:VRs F e args (dargs++cap).toList)(ht:FR F e tm a.tmps)(H:HR F e w0 w h)
 (hr:dLast P call draw fuel fn g args tm h=.ok (v,h')) (hk:∀ u w' e',e.le e'→VR F e' v u→HR F e' w0 w' h'→R (.returned u) w') :
 Leaves P fn a.tmps R [{ target:=.fn (.func g) cap,args:=dargs }] .returning w:=by
 unfold dLast at hr
 split at hr
 rotate_left
 ·cases hr
 rename_i gn hgn
 split at hr
 rotate_left
 ·cases hr
 rename_i c hb
 split at hr
 rotate_left
 ·cases hr
 rename_i h4
 split at hr
 ·cases hr
 ·rename_i x tg h1 hne hcode
  split at hr
  ·rename_i lg l hlg hl
   cases hr
   refine leaves_cons (f:=g) (args:=dargs++cap) (by simp) ?_ ?_
   ·unfold enters at hen
    rw [hgn] at hen
    simp only [Bool.and_eq_true,Bool.not_eq_true'] at hen
    have hnm:¬ gn.name = "runtime.NumGoroutine":=by simpa using hen.1
    simp [invoke,callFunc,hgn,hnm,hb]
   ·have hfr:=frOf (F:=F) (e:=e) (vs:=dargs++cap) (n:=gn.ntmps) rfl (by simpa using h4) hv
    refine (callsD_of_wp (R:=fun en w'=>∃ u e',en=.returned u∧e.le e'∧HR F e' w0 w' h') hgn hb ((Zn hc hd fuel c (a:=⟨(dargs++cap)++Array.replicate (gn.ntmps-(dargs++cap).size) undef,[]⟩) hfr H hcode fun a' w' e' g1 g2 g3 g4=>?_).1)).mono ?_
    ·obtain ⟨u,k1,k2⟩:=aRet_run g2 g4 hlg
     cases x with
     | normal=>exact ⟨g3,u,k1,u,e',rfl,g1,g4⟩
     | ret=>exact ⟨g3,u,k1,u,e',rfl,g1,g4⟩
     | exit id=>exact absurd rfl (hne id)
    ·rintro en u' w' ⟨rfl,u,e',rfl,g1,g4⟩
     obtain ⟨r,k1,k2⟩:=aRet_run (fn:=fn) (ht.le g1) g4 hl
     exact ⟨r,k1,hk r w' e' g1 k2 g4⟩
  ·cases hr
 ·cases hr
theorem dBody_calls(hc:Vs F P call)(hd:DrawOk F P draw){f:FuncId}{r0 rest:Code}{id:Nat}{m d:Oper}{x:Operand}{ts:Array TypeId}(hfn:P.funcs[f]?=some fn)(hb:fn.body=some (.seq r0 (.seq (.region id #[m,d] false) rest)))
 (hdop:d.op=.defer ⟨.value x,#[],ts⟩) (hdg:d.guard=none) (hdd:d.dst=none) {args:List AV} {vs:Array Value} (hv:VRs F e args vs.toList) (H:HR F e w0 w h) (h4:args.length+(fn.ntmps-args.length)≤4000)
 (hr:dBody P call draw fuel fn r0 #[m,d] m d x rest ⟨args.length+(fn.ntmps-args.length),trArgs args 0 .lf⟩ h=.ok (v,h')) :
 Calls P f vs w fun en w'=>∃ u,en=.returned u∧∃ e',e.le e'∧VR F e' v u∧HR F e' w0 w' h':=by
 unfold dBody at hr
 split at hr
 ·rename_i tm1 h1 hcode
  split at hr
  ·rename_i tm2 h2 hstep
   have ht:=frOf (n:=fn.ntmps) rfl h4 hv
   refine calls_of_wp_defers hfn hb (wp_seq ((Zn hc hd fuel r0 (a:=⟨vs++Array.replicate (fn.ntmps-vs.size) undef,[]⟩) ht H hcode fun a1 w1 e1 g1 g2 g3 g4=>?_).1))
   refine wp_seq (wp_region ?_)
   show wpOps P #[m,d] _ [0,1] a1 w1
   rw [wpOps_cons]
   refine aStep_wp hc (o:=m) rfl g2 g4 hstep fun a2 w2 e2 k1 k2 k3 k4=>?_
   rw [wpOps_cons]
   unfold dRest at hr
   split at hr
   ·rename_i g fx fy hg
    split at hr
    ·rename_i hen
     have hx:=evR_of k2 x
     rw [hg] at hx
     obtain ⟨la,lb,hxv,p1,p2⟩:=hx
     unfold wpOp
     simp only [show (#[m,d]:Array Oper)[1]?=some d from rfl]
     have hw:Region.wanted d (yielded #[m,d] a2.tmps)=true:=by unfold Region.wanted;rw [hdg]
     rw [if_pos hw]
     refine .inl ?_
     have hrun:(execOp a2.eval d).run P w2=.ok (.defer { target:=.fn (.func g) lb.toArray,args:=la.toArray }) w2:=by
      simp [execOp,hdop,resolve,hxv,Deferred.ofValue]
     unfold Oper.wp
     rw [hrun]
     simp only [Oper.upon,hdd,Act.put]
     have hdf:a2.defers=[]:=by rw [k3,g3]
     split at hr
     ·cases hr
     ·rename_i x3 tm3 h3 hne hrest
      show rest.wp P _ { tmps:=a2.tmps,defers:={ target:=.fn (.func g) lb.toArray,args:=la.toArray }::a2.defers } w2
      refine (Zn hc hd fuel rest (a:={ tmps:=a2.tmps,defers:={ target:=.fn (.func g) lb.toArray,args:=la.toArray }::a2.defers }) k2 k4 hrest fun a3 w3 e3 q1 q2 q3 q4=>?_).1
      have hds:a3.defers=[{ target:=.fn (.func g) lb.toArray,args:=la.toArray }]:=by rw [q3,hdf]
      have hargs:VRs F e3 (fx++fy) (la.toArray++lb.toArray).toList:=by
       simp only [Array.toList_append]
       exact VRs.append _ _ _ _ (VRs.le q1 _ _ p1) (VRs.le q1 _ _ p2)
      have hlv:=dLast_leaves (R:=fun en w'=>∃ u,en=.returned u∧∃ e',e.le e'∧VR F e' v u∧HR F e' w0 w' h') hc hd hen hargs q2 q4 hr fun u w' e' r1 r2 r3=>
       ⟨u,rfl,e',Env.le_trans g1 (Env.le_trans k1 (Env.le_trans q1 r1)),r2,r3⟩
      cases x3 with
      | normal=>show Leaves P fn a3.tmps _ a3.defers .returning w3;rw [hds];exact hlv
      | ret=>show Leaves P fn a3.tmps _ a3.defers .returning w3;rw [hds];exact hlv
      | exit id=>exact absurd rfl (hne id)
     ·cases hr
    ·cases hr
   ·cases hr
  ·cases hr
 ·cases hr
 ·cases hr
end
end
noncomputable section
section
variable {F:Funs} {e:Env} {w0 w w':World} {h:AH} {P:Program}
theorem HR.mono(H:HR F e w0 w h)(hb:Below w.heap.size w w'):HR F e w0 w' h where
 below:=H.below.trans (hb.mono H.below')
 len:=H.len
 nv:=H.nv
 objs:=fun i o x h1 h2 h3=>by
  obtain ⟨g1,g2,g3⟩:=H.objs i o x h1 h2 h3
  exact ⟨g1,Nat.lt_of_lt_of_le g2 hb.size,g3.of_heap (hb.block _ g2)⟩
 inj:=H.inj
theorem HR.text(H:HR F e w0 w h)(t:List UInt8):HR F ⟨e.bl,e.tx++[t]⟩ w0 w { h with nv:=h.nv+1 }:=by
 have hle:e.le ⟨e.bl,e.tx++[t]⟩:=⟨⟨[],by simp⟩,⟨_,rfl⟩⟩
 refine ⟨H.below,H.len,by simp [H.nv],fun i o x h1 h2 h3=>?_,H.inj⟩
 obtain ⟨g1,g2,g3⟩:=H.objs i o x h1 h2 h3
 exact ⟨g1,g2,g3.le hle⟩
theorem Qc.none:Qc F P fun _ _ _=>none:=fun f args h v h' hr=>by cases hr
def orPr(p q:Prims):Prims:=fun f args h=>match p f args h with
 | some r=>some r
 | none=>q f args h
theorem Qc.or{p q:Prims}(hp:Qc F P p)(hq:Qc F P q):Qc F P (orPr p q):=by
 intro f args h v h' hr
 unfold orPr at hr
 split at hr
 ·rename_i r hr'
  cases hr
  exact hp f args h v h' hr'
 ·exact hq f args h v h' hr
def onPr(f0:FuncId)(p:List AV→AH→Option (Rs (AV × AH))):Prims:=fun f args h=>if Nat.beq f f0 then p args h else none
theorem Qc.on{f0:FuncId}{p:List AV→AH→Option (Rs (AV × AH))}(hp:∀ args h v h',p args h=some (.ok (v,h'))→∀ (e:Env) (w0 w:World) (vs:Array Value),HR F e w0 w h→VRs F e args vs.toList →
 Calls P f0 vs w fun en w'=>∃ u,en=.returned u∧∃ e',e.le e'∧VR F e' v u∧HR F e' w0 w' h'):Qc F P (onPr f0 p):=by
 intro f args h v h' hr
 unfold onPr at hr
 split at hr
 ·rename_i hf
  have:f=f0:=Nat.eq_of_beq_eq_true hf
  subst this
  exact hp args h v h' hr
 ·cases hr
def tabPr(f0:FuncId)(args0:List AV)(h0:AH)(v0:AV)(h1:AH):Prims:=fun f args h=>
 if Nat.beq f f0 then if Ko args args0 then if h.same h0 then some (.ok (v0,h1)) else none else none else none
theorem Qc.tab{call:Jq}(hc:Vs F P call){f0:FuncId}{args0:List AV}{h0:AH}{v0:AV}{h1:AH}(hr:call f0 args0 h0=.ok (v0,h1)):Qc F P (tabPr f0 args0 h0 v0 h1):=by
 intro f args h v h' hr'
 unfold tabPr at hr'
 split at hr'
 ·rename_i hf
  split at hr'
  ·rename_i ha
   split at hr'
   ·rename_i hs
    cases hr'
    have e1:f=f0:=Nat.eq_of_beq_eq_true hf
    have e2:=Zb ha
    have e3:=AH.eq_of_same hs
    subst e1;subst e2;subst e3
    exact hc _ _ _ _ _ hr
   ·cases hr'
  ·cases hr'
 ·cases hr'
def okEq(r:Rs (AV × AH))(v:AV)(h:AH):Bool:=
 match r with
 | .ok (u,g)=>u.beq v&&g.same h
 | .no _=>false
theorem Qw{r:Rs (AV × AH)}{v:AV}{h:AH}(hr:okEq r v h=true):r=.ok (v,h):=by
 unfold okEq at hr
 split at hr
 ·simp only [Bool.and_eq_true] at hr
  rw [AV.eq_of_beq hr.1,AH.eq_of_same hr.2]
 ·cases hr
def dPr(P:Program)(f0:FuncId)(call:Jq)(draw:Km)(fuel:Nat):Prims:=onPr f0 fun args h=>
 match P.funcs[f0]? with
 | some fn=>match fn.body with
  | some (.seq r0 (.seq (.region _ ops false) rest))=>match ops.toList with
   | [m,d]=>match d.op,d.guard,d.dst with
    | .defer ⟨.value x,dargs,_⟩,none,none=>if dargs.size=0∧args.length+(fn.ntmps-args.length)≤4000 then some (dBody P call draw fuel fn r0 #[m,d] m d x rest ⟨args.length+(fn.ntmps-args.length),trArgs args 0 .lf⟩ h) else none
    | _,_,_=>none
   | _=>none
  | _=>none
 | none=>none
theorem Qc.defer{call:Jq}{draw:Km}(hc:Vs F P call)(hd:DrawOk F P draw)(f0:FuncId)(fuel:Nat):Qc F P (dPr P f0 call draw fuel):=by
 refine Qc.on fun args h v h' hr e w0 w vs H hv=>?_
 split at hr
 rotate_left
 ·cases hr
 rename_i fn hfn
 split at hr
 rotate_left
 ·cases hr
 rename_i r0 id ops rest hb
 split at hr
 rotate_left
 ·cases hr
 rename_i m d hops
 split at hr
 rotate_left
 ·cases hr
 rename_i x dargs ts hop hg hdd
 split at hr
 rotate_left
 ·cases hr
 rename_i hsz
 have hda:dargs=#[]:=Array.eq_empty_of_size_eq_zero hsz.1
 subst hda
 have ho:ops=#[m,d]:=by apply Array.ext';exact hops
 subst ho
 exact dBody_calls hc hd hfn hb hop hg hdd hv H hsz.2 (Option.some.inj hr)
end
end
end Go.Proofs.YthekdeikodppkaaGreatDoor
namespace Go.Proofs.YthekdeikodppkaaGreatDoor
open Go.RowKit
set_option maxRecDepth 1000000
def T_swap_any(A:Type)(eC:A→List Value)(EL:TypeId)(SZ:Nat)(F_swapRangeCmpFunc:FuncId):Prop:=∀ ⦃w0:World⦄ ⦃w:World⦄ ⦃ps:List Piece⦄ ⦃g c N:Nat⦄ ⦃p x m y q:List A⦄ ⦃a b n:Nat⦄ (cmp:Value) (ha:a=p.length) (hb:b=a+x.length+m.length) (hn:n=x.length) (hy:y.length=x.length) (hN:N=(p++x++m++y++q).length) (hNb:N≤1000000) (H:Own w0 w (slc EL SZ (.slice (some ⟨g,0,none⟩) N c) N (rows eC (p++x++m++y++q))::ps)),Calls Tryz.prog F_swapRangeCmpFunc #[.slice (some ⟨g,0,none⟩) N c,.int .i64 a,.int .i64 b,.int .i64 n,cmp] w (Ret fun _ w'=>Own w0 w' (slc EL SZ (.slice (some ⟨g,0,none⟩) N c) N (rows eC (p++y++m++x++q))::ps))
theorem mk_swap_any(A:Type)(eC:A→List Value)(EL:TypeId)(SZ:Nat)(F_swapRangeCmpFunc:FuncId)(h:T_swap_any A eC EL SZ F_swapRangeCmpFunc:=by
 unfold T_swap_any
 intro w0 w ps g c N p x m y q a b n cmp ha hb hn hy hN hNb H
 have hN1:N=a+n+m.length+n+q.length:=by rw [hN];simp only [lJ];omega
 have hbn:b=a+n+m.length:=by omega
 have HX:=jd hn
 have HY:=jd hy
 have HP:=jd ha
 have HB:=jd hbn
 have HN1:=jd hN1
 have hab:a+n≤b:=by omega
 have hbN:b+n≤N:=by omega
 have hNc:N≤c:=by obtain ⟨_,_,e,h1,_⟩:=H.rd.shape;cases e;exact h1
 have hc2:c≤9223372036854775807:=by obtain ⟨_,_,e,_,h1⟩:=H.rd.shape;cases e;exact h1
 clear ha hb hn hy hN hbn hN1
 go_enter fuswapRangeCmpFunc,ntswapRangeCmpFunc
 go_wp2_with fail
 go_loopw [10] (fun s10 wx=>∃ (i:Nat) (x1 x2 y1 y2:List A),i≤n∧s10=.int .i64 i∧Hid (x=x1++x2)∧Hid (y=y1++y2)∧Hid (x1.length=i)∧Hid (y1.length=i)∧Own w0 wx ((sL g N c (p++y1++x2++m++x1++y2++q))::ps)) (fun s10 _=>n-(intOf s10).toNat)
 case atStart=>exact ⟨0,[],x,[],y,by omega,rfl,jd rfl,jd rfl,jd rfl,jd rfl,by simpa using H⟩
 case round=>
  clear H
  obtain ⟨i,x1,x2,y1,y2,hi,rfl,hx,hy,hx1,hy1,H⟩:=hrel
  by_cases hlt:i<n
  ·obtain ⟨u,x3,hx2⟩:∃ u x3,x2=u::x3:=by
    cases x2 with
    | nil=>exfalso;have h1:=hx.out;have h2:=HX.out;have h3:=hx1.out;rw [h1] at h2;simp at h2;omega
    | cons u x3=>exact ⟨u,x3,rfl⟩
   obtain ⟨v,y3,hy2⟩:∃ v y3,y2=v::y3:=by
    cases y2 with
    | nil=>exfalso;have h1:=hy.out;have h2:=HX.out;have h3:=hy1.out;have h4:=HY.out;rw [h1] at h4;simp at h4;omega
    | cons v y3=>exact ⟨v,y3,rfl⟩
   subst hx2 hy2
   have el1:p++y1++u::x3++m++x1++v::y3++q=(p++y1)++u::((x3++m++x1)++v::(y3++q)):=by simp
   rw [el1] at H
   have hia:a+i=(p++y1).length:=by rw [lJ,hy1.out,HP.out]
   have hxl:x.length=i+(x3.length+1):=by rw [hx.out,lJ,hx1.out];simp
   have hib:b+i=(p++y1).length+1+(x3++m++x1).length:=by
    have h1:=HX.out
    have h2:=HB.out
    have h3:=hx1.out
    have h4:=HP.out
    have h5:=hy1.out
    simp only [lJ]
    omega
   have hLn:((p++y1)++u::((x3++m++x1)++v::(y3++q))).length=N:=by
    have h1:=HX.out
    have h2:=HN1.out
    have h3:=hx1.out
    have h4:=HP.out
    have h5:=hy1.out
    have h6:=HY.out
    rw [hy.out] at h6
    simp only [lJ,List.length_cons] at h6 ⊢
    omega
   have hg1:((p++y1)++u::((x3++m++x1)++v::(y3++q)))[a+i]?=some u:=get_mid _ _ _ hia
   have hg2:((p++y1)++u::((x3++m++x1)++v::(y3++q)))[b+i]?=some v:=by
    have:(p++y1)++u::((x3++m++x1)++v::(y3++q))=((p++y1)++u::(x3++m++x1))++v::(y3++q):=by simp
    rw [this]
    exact get_mid _ _ _ (by rw [hib];simp only [lJ,List.length_cons];omega)
   have hsw:=set_swap (p++y1) (x3++m++x1) (y3++q) u v hia hib
   obtain ⟨L,hL⟩:∃ L,Hid ((p++y1)++u::((x3++m++x1)++v::(y3++q))=L):=⟨_,rfl⟩
   rw [hL.out] at H hg1 hg2 hsw hLn
   have HG1:=jd hg1
   have HG2:=jd hg2
   have HLN:=jd hLn
   have e1:=set_rows (l:=L) (i:=(a+i)) (by rw [hLn];omega) v
   have e2:=(set_rows (l:=L.set (a+i) v) (i:=(b+i)) (by rw [List.length_set,hLn];omega) u).trans (show rows eC ((L.set (a+i) v).set (b+i) u)=rows eC (p++(y1++[v])++x3++m++(x1++[u])++y3++q) from by rw [hsw];simp)
   have E1:=jd e1
   have E2:=jd e2
   have hX':Hid (x=(x1++[u])++x3):=jd (by rw [hx.out];simp)
   have hY':Hid (y=(y1++[v])++y3):=jd (by rw [hy.out];simp)
   have hx1':Hid ((x1++[u]).length=i+1):=jd (by rw [lJ,hx1.out];rfl)
   have hy1':Hid ((y1++[v]).length=i+1):=jd (by rw [lJ,hy1.out];rfl)
   have haw:IntKind.i64.wrap ((a:Int)+(i:Int))=(a:Int)+(i:Int):=IntWalk.i64_in _ ⟨by omega,by omega⟩
   have hbw:IntKind.i64.wrap ((b:Int)+(i:Int))=(b:Int)+(i:Int):=IntWalk.i64_in _ ⟨by omega,by omega⟩
   have haT:((a:Int)+(i:Int)).toNat=a+i:=by omega
   have hbT:((b:Int)+(i:Int)).toNat=b+i:=by omega
   have haI:(a:Int)+(i:Int)<(N:Int):=by omega
   have hbI:(b:Int)+(i:Int)<(N:Int):=by omega
   clear hg1 hg2 hsw hLn e1 e2 el1 hia hib hxl hL
   go_upto_region 3 with (fail)
   refine wp_region_pres (fun _ w1=>Own w0 w1 ((sL g N c L)::ps)) 20 [] [4,5,6,7] (by kernel_rfl) (by kernel_rfl) (by kernel_rfl) (by kernel_rfl) (fun _ _ d _ _ h=>by cases d <;> exact h) ⟨_,_,rfl,fun w=>(by first | rfl | (go_simp;rfl)),_,_,rfl,fun w=>(by first | rfl | (go_simp;rfl)),_,_,rfl,fun w=>(by first | rfl | (go_simp;rfl)),_,_,rfl,fun w=>(by first | rfl | (go_simp;rfl)),rfl⟩ H.drew ?_
   simp only [List.take_succ_cons,List.take_zero,List.drop_succ_cons,List.drop_zero]
   repeat
    first
    | (refine calm_value (v:=?_) (by decide) rfl (fun σ w1 hS=>?_) ?_
       rotate_left
       ·obtain ⟨c1,c1'⟩:=el hS.rd HG1.out;obtain ⟨c2,c2'⟩:=el hS.rd HG2.out
        first | (go_simp;rfl) | rfl
       simp only [Act.put,putC])
    | (refine calm_skip (by decide) rfl ?_
       simp only [Act.put,putC])
   refine calm_nil ?_
   intro σ2 wd2 _ H2
   simp only [Jx,List.foldl_nil]
   clear H
   go_wp2_with (first
    | (refine Jf rfl _ _ rfl (i:=a+i) (by first | rfl | (rw [Nat.mul_one];rfl)) H2 (eC v) rfl (by kernel_rfl) rfl (by omega) (e_one v) ?_;clear H2;intro w5 H;rw [E1.out] at H)
    | (refine Jf rfl _ _ rfl (i:=b+i) (by first | rfl | (rw [Nat.mul_one];rfl)) H (eC u) rfl (by kernel_rfl) rfl (by omega) (e_one u) ?_;clear H;intro w6 H;rw [E2.out] at H))
   go_roundw
   case rel=>exact ⟨i+1,x1++[u],x3,y1++[v],y3,by omega,by go_num,hX',hY',hx1',hy1',H⟩
   case measure=>simp [intOf];omega
  ·obtain rfl:i=n:=by omega
   have hx2:x2=[]:=by
    have h1:=HX.out;have h2:=hx1.out
    rw [hx.out,lJ] at h1
    exact eJ (by omega)
   have hy2:y2=[]:=by
    have h1:=HX.out;have h2:=hy1.out;have h3:=HY.out
    rw [hy.out,lJ] at h3
    exact eJ (by omega)
   subst hx2 hy2
   have ex:x1=x:=by rw [hx.out,List.append_nil]
   have ey:y1=y:=by rw [hy.out,List.append_nil]
   have e:p++y1++[]++m++x1++[]++q=p++y++m++x++q:=by rw [ex,ey];simp
   rw [e] at H
   clear e ex ey
   go_wp2
   go_end0
   exact ⟨_,rfl,H⟩):T_swap_any A eC EL SZ F_swapRangeCmpFunc:=h
end Go.Proofs.YthekdeikodppkaaGreatDoor
namespace Go.Proofs.YthekdeikodppkaaGreatDoor
open Go.RowKit
structure Coin where
 w:Int
 pair:Bool
deriving DecidableEq,Inhabited
def ce(x:Coin):List Value:=[.int .i64 x.w,.bool x.pair]
def cval(x:Coin):Value:=.agg #[.int .i64 x.w,.bool x.pair]
namespace SC
theorem e_length(x:Coin):(ce x).length=2:=rfl
theorem e_one(x:Coin):∀ u∈ce x,u.oneCell'=true:=by intro u hu;simp [ce] at hu;rcases hu with rfl | rfl <;> rfl
abbrev Sl(v:Value)(l:List Coin):Piece:=slc 431 2 v l.length (rows ce l)
theorem el{w:World}{b c i n:Nat}{l:List Coin}{x:Coin}(h:Rd w 2 (.slice (some ⟨b,0,none⟩) n c) n (rows ce l))(hx:l[i]?=some x) :
 w.cell? ⟨b,i*2,none⟩=some (.int .i64 x.w)∧w.cell? ⟨b,i*2+1,none⟩=some (.bool x.pair):=by
 have h0:=h.cell ((Jt ce e_length hx 0 (by omega)).trans rfl)
 have h1:=h.cell ((Jt ce e_length hx 1 (by omega)).trans rfl)
 rw [Nat.zero_add] at h0 h1
 exact ⟨h0,h1⟩
theorem set_rows{l:List Coin}{i:Nat}(hi:i<l.length)(y:Coin):(rows ce l).take (i*2)++ce y++(rows ce l).drop (i*2+2)=rows ce (l.set i y):=(rows_set ce e_length hi y).symm
theorem set_swap{α:Type}(u v w:List α)(x y:α){i j:Nat}(hi:i=u.length)(hj:j=u.length+1+v.length) :
 ((u++x::(v++y::w)).set i y).set j x=u++y::(v++x::w):=by
 subst hi hj
 rw [List.set_append_right _ _ (Nat.le_refl _),Nat.sub_self,List.set_cons_zero,List.set_append_right _ _ (by omega),show u.length+1+v.length-u.length=v.length+1 by omega,List.set_cons_succ,List.set_append_right _ _ (Nat.le_refl _),Nat.sub_self,List.set_cons_zero]
theorem get_mid{α:Type}(u w:List α)(x:α){i:Nat}(hi:i=u.length):(u++x::w)[i]?=some x:=by
 subst hi
 rw [List.getElem?_append_right (Nat.le_refl _),Nat.sub_self];rfl
abbrev A:=Coin
abbrev sL(g N c:Nat)(l:List Coin):Piece:=slc 431 2 (.slice (some ⟨g,0,none⟩) N c) N (rows ce l)
open Go.Proofs.Tryz renaming func393 → fuswapRangeCmpFunc, ntmps393 → ntswapRangeCmpFunc
open Go.Proofs.YthekdeikodppkaaGreatDoor renaming ce → eC
section
variable {w0 w:World} {ps:List Piece}
set_option maxRecDepth 100000 in
set_option maxHeartbeats 3200000 in
theorem swap_any:T_swap_any Coin ce 431 2 393:=mk_swap_any _ _ _ _ _
end
end SC
end Go.Proofs.YthekdeikodppkaaGreatDoor
