/-
  Texts of this claim, one behind the other: Statements that draw their order; Statements that draw their order come to what is told, in whatever order; the whole machine is right. No program in sight; sha; Functions that begin by deferring one call; Functions known of their own accord; The stable sort, whatever the elements; The stable sort of slices of coins; huff; huff; huff; huff; huff; The stable sort of slices of ints; The stable sort, whatever the elements; The stable sort of slices of ints; The stable sort, whatever the elements; The stable sort of slices of ints; The stable sort, whatever the elements; The stable sort of slices of ints; The stable sort, whatever the elements; The stable sort of slices of ints.
-/
import Derived.Test.YthekdeikodppkaaGreatDoorKb3
import Derived.Deep.LoopGhost
import Derived.WalkLawsBesides
import Derived.WalkSpells
import Derived.Deep.DeepCutAuto
import Derived.Deep.CutBlock
import Derived.Test.YthekdeikodppkaaGreatDoorRows
import Derived.Defers
import Derived.Carry
import Derived.BigQuiet
import Derived.Deep.QuietTactic
set_option linter.unusedVariables false
namespace Go.Proofs.YthekdeikodppkaaGreatDoor
open Go.RowKit
noncomputable section
theorem aput_get{f:Fr}(hf:f.ok)(d:Option Tmp)(v:AV)(t:Nat):(aput f d v).get t=if d=some t∧t<f.n then v else f.get t:=by
 cases d with
 | none=>simp [aput]
 | some d=>
  simp only [aput,Fr.get_set hf,Option.some.injEq]
  by_cases h:d=t
  ·subst h;rfl
  ·simp [h]
theorem aput_n(f:Fr)(d:Option Tmp)(v:AV):(aput f d v).n=f.n:=by cases d <;> simp [aput,Fr.set_n]
theorem aput_ok{f:Fr}(hf:f.ok)(d:Option Tmp)(v:AV):(aput f d v).ok:=by
 unfold Fr.ok;rw [aput_n];exact hf
theorem frm_succ:∀ (r:List Oper) (vs:List AV) (tm:Fr) (k:Nat) (o:Oper) (v:AV),r[k]?=some o→vs[k]?=some v→frm r vs tm (k+1)=aput (frm r vs tm k) o.dst v
 | [],_,_,_,_,_,h,_=>by simp at h
 | _::_,[],_,_,_,_,_,h=>by simp at h
 | o::r,v::vs,tm,0,o',v',h,g=>by
  simp at h g;subst h;subst g
  simp [frm]
 | o::r,v::vs,tm,k+1,o',v',h,g=>by
  have:=frm_succ r vs (aput tm o.dst v) k o' v' (by simpa using h) (by simpa using g)
  simpa only [frm] using this
theorem mkGo_get{f:Fr}(hf:f.ok):∀ (lk:List Nat) (s:Tr) (t:Nat),t<4000→(lk.foldl (fun s i=>if Nat.blt i f.n then s.set 12 i (f.get i) else s) s).get 12 t=if t∈lk∧t<f.n then f.get t else s.get 12 t
 | [],s,t,_=>by simp
 | x::lk,s,t,ht=>by
  rw [List.foldl_cons,mkGo_get hf lk _ t ht]
  have h4:f.n≤4000:=hf
  by_cases h1:t∈lk∧t<f.n
  ·rw [if_pos h1,if_pos ⟨by simp [h1.1],h1.2⟩]
  ·rw [if_neg h1]
   by_cases hx:x<f.n
   ·rw [if_pos (by simpa using hx),Tr.get_set 12 s x t _ (by omega) (by omega)]
    by_cases hxt:x=t
    ·subst hxt;rw [if_pos rfl,if_pos ⟨by simp,hx⟩]
    ·rw [if_neg hxt,if_neg]
     rintro ⟨h2,h3⟩
     rcases List.mem_cons.1 h2 with h | h
     ·exact hxt h.symm
     ·exact h1 ⟨h,h3⟩
   ·rw [if_neg (by simpa using hx),if_neg]
    rintro ⟨h2,h3⟩
    rcases List.mem_cons.1 h2 with h | h
    ·subst h;exact hx h3
    ·exact h1 ⟨h,h3⟩
theorem mk_get{f:Fr}(hf:f.ok)(lk:List Tmp)(t:Nat):(mk lk f).get t=if t∈lk∧t<f.n then f.get t else .tup []:=by
 have h4:f.n≤4000:=hf
 unfold Fr.get
 simp only [mk]
 by_cases ht:t<f.n
 ·have hb:Nat.blt t f.n=true:=by simpa using ht
  rw [if_pos hb,mkGo_get hf lk .lf t (by omega),Tr.get_lf]
  simp only [Fr.get,hb,if_true]
 ·have hb:Nat.blt t f.n=false:=by rw [Bool.eq_false_iff];simpa using ht
  simp only [hb,Bool.false_eq_true,if_false,ite_self]
theorem mk_eq{f g:Fr}(hn:f.n=g.n):∀ {lk:List Tmp},(∀ t∈lk,t<f.n→f.get t=g.get t)→mk lk f=mk lk g:=by
 intro lk h
 unfold mk
 rw [hn]
 congr 1
 have:∀ (l:List Tmp) (s:Tr),(∀ t∈l,t<f.n→f.get t=g.get t)→l.foldl (fun s i=>if Nat.blt i g.n then s.set 12 i (f.get i) else s) s=l.foldl (fun s i=>if Nat.blt i g.n then s.set 12 i (g.get i) else s) s:=by
  intro l
  induction l with
  | nil=>intro s _;rfl
  | cons x l ih=>
   intro s hl
   simp only [List.foldl_cons]
   have e:(if Nat.blt x g.n then s.set 12 x (f.get x) else s)=(if Nat.blt x g.n then s.set 12 x (g.get x) else s):=by
    split
    ·rename_i hx
     rw [hl x (by simp) (by rw [hn];simpa using hx)]
    ·rfl
   rw [e]
   exact ih _ fun t ht=>hl t (by simp [ht])
 exact this lk .lf h
def maskA(lk:List Tmp)(tmps:Array Value):Array Value:=tmps.mapIdx fun i v=>if lk.contains i then v else undef
theorem maskA_get(lk:List Tmp)(tmps:Array Value)(t:Nat):(maskA lk tmps).getD t undef=if t∈lk then tmps.getD t undef else undef:=by
 unfold maskA
 rw [Array.getD_eq_getD_getElem?,Array.getElem?_mapIdx,Array.getD_eq_getD_getElem?]
 by_cases ht:t<tmps.size
 ·rw [Array.getElem?_eq_getElem ht]
  simp
 ·rw [Array.getElem?_eq_none (by omega)]
  simp
section
variable {F:Funs} {e e' e0:Env} {w0 w:World} {P:Program} {call:Jq} {ops:Array Oper} {ancs:List (List Nat)} {cs:List Nat} {flt:Option Nat} {on:Option AV} {tm:Fr} {V:List AV} {G:List AH}
theorem FR.mask{f:Fr}{tmps:Array Value}(h:FR F e f tmps)(lk:List Tmp):FR F e (mk lk f) (maskA lk tmps):=by
 obtain ⟨h1,h2,h3⟩:=h
 refine ⟨h1,by simpa [mk,maskA] using h2,fun t=>?_⟩
 rw [mk_get h1,maskA_get]
 by_cases ht:t∈lk
 ·rw [if_pos ht]
  by_cases hn:t<f.n
  ·rw [if_pos ⟨ht,hn⟩];exact h3 t
  ·rw [if_neg (fun h=>hn h.2)]
   have:=h3 t
   rw [Fr.get_out (by omega)] at this
   exact this
 ·rw [if_neg ht,if_neg (fun h=>ht h.1)]
  exact ⟨[],rfl,rfl⟩
theorem exec_mask{o:Oper}(hs:∀ cs b,o.op≠.select cs b)(a:Act):execOp a.eval o=execOp (⟨maskA (o.looksAt ops) a.tmps,a.defers⟩:Act).eval o:=by
 refine execOp_congr o hs fun x hx=>?_
 cases x with
 | tmp t=>
  have:t∈o.looksAt ops:=List.mem_append_left _ (List.mem_filterMap.2 ⟨.tmp t,by simpa using hx,rfl⟩)
  simp only [Act.eval]
  rw [maskA_get,if_pos this]
 | const v=>rfl
 | global g=>rfl
 | func f=>rfl
theorem wanted_mask{o:Oper}{cur:Fr}{a:Act}(h:FR F e cur a.tmps):Region.wanted o (yielded ops a.tmps)=awanted ops (mk (o.looksAt ops) cur) o:=by
 unfold Region.wanted awanted
 cases hg:o.guard with
 | none=>rfl
 | some gw=>
  obtain ⟨g,want⟩:=gw
  simp only
  rw [aYield_eq h]
  have:aYield ops cur g=aYield ops (mk (o.looksAt ops) cur) g:=by
   unfold aYield
   cases hgo:ops[g]? with
   | none=>rfl
   | some og=>
    simp only
    cases hd:og.dst with
    | none=>rfl
    | some t=>
     simp only
     have ht:t∈o.looksAt ops:=by simp [Oper.looksAt,hg,hgo,hd]
     rw [mk_get h.1]
     by_cases hn:t<cur.n
     ·rw [if_pos ⟨ht,hn⟩]
     ·rw [if_neg (fun h=>hn h.2),Fr.get_out (Nat.le_of_not_lt hn)]
  rw [this]
theorem cls_same{ev:Ev}{o:Oper}{g h':AH}{v:AV}(hc:cls P o.op=1)(hop:aOp P ev o g=some (.val v h')):h'=g:=by
 obtain ⟨dst,op,type,pos,after,guard⟩:=o
 have hval:∀ {r:AR},aVal P ev ⟨dst,op,type,pos,after,guard⟩ g=some r→∀ v h',r=.val v h'→h'=g:=by
  intro r hr v h' e
  simp only [aVal,Option.map_eq_some_iff] at hr
  obtain ⟨u,_,rfl⟩:=hr
  cases e;rfl
 cases op <;> simp only [cls] at hc <;> try (exfalso;omega)
 case load t a=>
  simp only [aOp] at hop
  unfold aLoad at hop
  repeat' split at hop
  all_goals first
   | (cases hop;rfl)
   | (cases hop;done)
 case lookup t m k ok=>
  simp only [aOp] at hop
  unfold aLookup at hop
  repeat' split at hop
  all_goals first
   | (cases hop;rfl)
   | (cases hop;done)
   | (simp only [Option.map_eq_some_iff] at hop;obtain ⟨z,_,hz⟩:=hop;cases hz;rfl)
 case slice t x lo hi mx=>
  cases mx with
  | some m=>cases hc
  | none=>
   simp only [aOp,oSlice] at hop
   split at hop
   ·unfold aSliceArr at hop
    repeat' split at hop
    all_goals first
     | (cases hop;rfl)
     | (cases hop;done)
   ·exact hval hop _ _ rfl
 case convert s d x=>
  split at hc
  ·cases hc
  ·rename_i hd
   simp only [aOp,oConv] at hop
   split at hop
   ·rename_i r hr
    cases hop
    unfold aConv at hr
    repeat' split at hr
    all_goals first
     | (cases hr;rfl)
     | (cases hr;done)
     | (exfalso;exact hd _ (by assumption))
   ·exact hval hop _ _ rfl
 case call c=>
  obtain ⟨callee,args,ts⟩:=c
  cases callee with
  | value f=>cases hc
  | invoke x m=>cases hc
  | builtin b=>cases b <;> cases hc
abbrev Lst(L:Array Bool)(i:Nat):Prop:=L.getD i false=true
theorem lst_set{L:Array Bool}{i:Nat}(hi:i<L.size)(j:Nat):Lst (L.setIfInBounds i true) j↔Lst L j∨j=i:=by
 unfold Lst
 by_cases h:j=i
 ·subst h;simp [hi]
 ·rw [show (L.setIfInBounds i true).getD j false=L.getD j false by simp [Array.getElem?_setIfInBounds_ne (Ne.symm h)]]
  simp [h]
structure WayOk (P:Program) (call:Jq) (ops:Array Oper) (ancs:List (List Nat)) (cs:List Nat) (flt:Option Nat) (on:Option AV) (tm:Fr) (V:List AV) (G:List AH):Prop where
 len:V.length=ops.toList.length
 fact:∀ i o v,ops.toList[i]?=some o→V[i]?=some v→(flt=some i∧v=on.getD (.tup []))∨lefts ancs flt on i=true∨WayFact P call ops cs G i o (mk (o.looksAt ops) (frm ops.toList V tm i)) v
 sure:∀ i o v,ops.toList[i]?=some o→V[i]?=some v→flt≠some i→lefts ancs flt on i=false→awanted ops (mk (o.looksAt ops) (frm ops.toList V tm i)) o=true→cls P o.op=1 →
  ∀ m g,G[m]?=some g→aMay ancs cs i m=true→∃ h',aOp P (evOf (mk (o.looksAt ops) (frm ops.toList V tm i))) o g=some (.val v h')
structure ChainOk (P:Program) (ops:Array Oper) (ancs:List (List Nat)) (cs:List Nat):Prop where
 next:∀ (k i j:Nat),cs[k]?=some i→cs[k+1]?=some j→i∈ancs.getD j []
 two:∀ (k i:Nat) (o:Oper),cs[k]?=some i→ops.toList[i]?=some o→cls P o.op=2
 once:∀ (k k' i:Nat),cs[k]?=some i→cs[k']?=some i→k=k'
structure Inv (F:Funs) (e0:Env) (w0:World) (ops:Array Oper) (ancs:List (List Nat)) (cs:List Nat) (tm:Fr) (V:List AV) (G:List AH) (ds:List Deferred) (L:Array Bool) (a:Act) (w:World) (m:Nat) (e:Env):Prop where
 size:L.size=ops.size
 closed:∀ i,Lst L i→∀ j∈ancs.getD i [],Lst L j
 chain:∀ (k i:Nat),cs[k]?=some i→(Lst L i↔k<m)
 le:e0.le e
 mem:∃ g,G[m]?=some g∧HR F e w0 w g
 frame:∃ cur:Fr,FR F e cur a.tmps∧cur.n=tm.n∧(∀ (j:Nat) (o:Oper) (t:Tmp) (v:AV),ops.toList[j]?=some o→o.dst=some t→Lst L j→V[j]?=some v→t<tm.n→cur.get t=v) ∧
  ∀ t:Nat,(∀ (j:Nat) (o:Oper),ops.toList[j]?=some o→Lst L j→o.dst≠some t)→cur.get t=tm.get t
 defers:a.defers=ds
theorem frm_get(T:TextOk ops ancs)(hV:V.length=ops.toList.length)(ht:tm.ok):∀ k,k≤ops.toList.length→(frm ops.toList V tm k).n=tm.n∧(frm ops.toList V tm k).ok ∧
 (∀ (j:Nat) (o:Oper) (t:Tmp) (v:AV),j<k→ops.toList[j]?=some o→o.dst=some t→V[j]?=some v→t<tm.n→(frm ops.toList V tm k).get t=v) ∧
 ∀ t:Nat,(∀ (j:Nat) (o:Oper),j<k→ops.toList[j]?=some o→o.dst≠some t)→(frm ops.toList V tm k).get t=tm.get t:=by
 intro k
 induction k with
 | zero=>
  intro _
  have:frm ops.toList V tm 0=tm:=by cases ops.toList <;> cases V <;> rfl
  rw [this]
  exact ⟨rfl,ht,fun j o t v hj=>by omega,fun t _=>rfl⟩
 | succ k ih=>
  intro hk
  obtain ⟨h1,h2,h3,h4⟩:=ih (by omega)
  obtain ⟨o,ho⟩:∃ o,ops.toList[k]?=some o:=⟨_,List.getElem?_eq_getElem (by omega)⟩
  obtain ⟨v,hv⟩:∃ v,V[k]?=some v:=⟨_,List.getElem?_eq_getElem (by omega)⟩
  rw [frm_succ _ _ _ _ _ _ ho hv]
  refine ⟨by rw [aput_n,h1],aput_ok h2 _ _,fun j o' t v' hj ho' hd hv' htn=>?_,fun t htj=>?_⟩
  ·rw [aput_get h2]
   by_cases hjk:j=k
   ·subst hjk
    rw [ho] at ho';cases ho'
    rw [hv] at hv';cases hv'
    rw [if_pos ⟨hd,by rw [h1];exact htn⟩]
   ·have:=T.uniq k j o o' t ho ho' hd hjk
    rw [if_neg (fun h=>this h.1)]
    exact h3 j o' t v' (by omega) ho' hd hv' htn
  ·rw [aput_get h2,if_neg (fun h=>htj k o (by omega) ho h.1)]
   exact h4 t fun j o' hj ho'=>htj j o' (by omega) ho'
theorem ready_anc(T:TextOk ops (Qv [] ops.toList)){L:Array Bool}(hcl:∀ i,Lst L i→∀ j∈(Qv [] ops.toList).getD i [],Lst L j){i:Nat}{o:Oper}(ho:ops.toList[i]?=some o)
 (hr:∀ x∈o.after,Region.binds .any x=true→L.getD x.on false=true):∀ j∈(Qv [] ops.toList).getD i [],Lst L j:=by
 intro j hj
 obtain ⟨x,hx,hb,h | h⟩:=ancs_spec ho (T.back i o ho) hj
 ·rw [h];exact hr x (by simpa using hx) hb
 ·exact hcl _ (hr x (by simpa using hx) hb) j h
theorem Inv.step(hc:CallOk F P call)(T:TextOk ops (Qv [] ops.toList))(C:ChainOk P ops (Qv [] ops.toList) cs)(W:WayOk P call ops (Qv [] ops.toList) cs flt on tm V G)(htm:tm.ok){ds:List Deferred}{L:Array Bool}{a:Act}{m:Nat}
 (I:Inv F e0 w0 ops (Qv [] ops.toList) cs tm V G ds L a w m e) {i:Nat} (hi:i∈Region.ready .any ops L) (hf:flt≠some i) (hlf:lefts (Qv [] ops.toList) flt on i=false) {K:Act→World→Prop} {Q:Exit→Act→World→Prop}
 (hk:∀ a' w' m' e',Inv F e0 w0 ops (Qv [] ops.toList) cs tm V G ds (L.setIfInBounds i true) a' w' m' e'→K a' w'):wpOp P ops Q i K a w:=by
 obtain ⟨hisz,hnl,o,ho',hrd⟩:=Jz.1 hi
 have ho:ops.toList[i]?=some o:=by rw [Array.getElem?_toList];exact ho'
 have hnot:¬ Lst L i:=by
  have:L.getD i true=L.getD i false:=Jm (by rw [I.size];exact hisz)
  unfold Lst;rw [← this,hnl];simp
 have hanc:=ready_anc T I.closed ho hrd
 obtain ⟨v,hv⟩:∃ v,V[i]?=some v:=⟨_,List.getElem?_eq_getElem (by rw [W.len];exact (gJ ho).1)⟩
 obtain ⟨cur,hFR,hcn,hc1,hc2⟩:=I.frame
 obtain ⟨g,hg,H⟩:=I.mem
 obtain ⟨f1,f2,f3,f4⟩:=frm_get T W.len htm i (Nat.le_of_lt (gJ ho).1)
 have hlst:=lst_set (L:=L) (i:=i) (by rw [I.size];exact hisz)
 have hmk:Go.Proofs.YthekdeikodppkaaGreatDoor.mk (o.looksAt ops) cur=Go.Proofs.YthekdeikodppkaaGreatDoor.mk (o.looksAt ops) (frm ops.toList V tm i):=by
  refine mk_eq (by rw [hcn,f1]) fun t ht htn=>?_
  by_cases hex:∃ (j:Nat) (o':Oper),ops.toList[j]?=some o'∧o'.dst=some t
  ·obtain ⟨j,o',hj,hd⟩:=hex
   obtain ⟨u,hu⟩:∃ u,V[j]?=some u:=⟨_,List.getElem?_eq_getElem (by rw [W.len];exact (gJ hj).1)⟩
   by_cases hji:j=i
   ·subst hji
    rw [ho] at hj;cases hj
    exact absurd ht (T.self _ _ _ ho hd)
   ·obtain ⟨r1,r2⟩:=T.reads i j o o' t ho hj hd hji ht
    rcases Nat.lt_or_ge j i with hlt | hge
    ·rw [hc1 j o' t u hj hd (hanc j (r1 hlt)) hu (hcn▸htn),f3 j o' t u hlt hj hd hu (hcn▸htn)]
    ·have hnj:¬ Lst L j:=fun h=>hnot (I.closed j h i (r2 (by omega)))
     have huq:∀ (k:Nat) (ok:Oper),ops.toList[k]?=some ok→k≠j→ok.dst≠some t:=fun k ok hk hne=>T.uniq k j ok o' t hk hj hd (Ne.symm hne)
     rw [hc2 t fun k ok hk hl=>huq k ok hk fun h=>hnj (h▸hl),f4 t fun k ok hki hk=>huq k ok hk (by omega)]
  ·have hno:∀ (k:Nat) (ok:Oper),ops.toList[k]?=some ok→ok.dst≠some t:=fun k ok hk h=>hex ⟨k,ok,hk,h⟩
   rw [hc2 t fun k ok hk _=>hno k ok hk,f4 t fun k ok _ hk=>hno k ok hk]
 have hwant:=wanted_mask (F:=F) (e:=e) (ops:=ops) (o:=o) hFR
 have post:∀ (u:Value) (w':World) (e':Env) (m':Nat),e.le e'→VR F e' v u→(∃ g',G[m']?=some g'∧HR F e' w0 w' g')→(∀ (k j:Nat),cs[k]?=some j→(Lst (L.setIfInBounds i true) j↔k<m')) →
  Inv F e0 w0 ops (Qv [] ops.toList) cs tm V G ds (L.setIfInBounds i true) (a.put o.dst u) w' m' e':=by
  intro u w' e' m' hle hu hm hch
  refine ⟨by simpa using I.size,?_,hch,Env.le_trans I.le hle,hm,⟨aput cur o.dst v,aput_vr (hFR.le hle) hu,by rw [aput_n,hcn],?_,?_⟩,?_⟩
  ·intro j hj k hk'
   rw [hlst] at hj
   rw [hlst]
   rcases hj with hj | rfl
   ·exact .inl (I.closed j hj k hk')
   ·exact .inl (hanc k hk')
  ·intro j o' t v' hj hd hl hv' htn
   rw [aput_get hFR.1]
   by_cases hji:j=i
   ·subst hji
    rw [ho] at hj;cases hj
    rw [hv] at hv';cases hv'
    rw [if_pos ⟨hd,by rw [hcn];exact htn⟩]
   ·rw [if_neg (fun h=>T.uniq i j o o' t ho hj hd hji h.1)]
    rw [hlst] at hl
    exact hc1 j o' t v' hj hd (hl.resolve_right hji) hv' htn
  ·intro t htj
   rw [aput_get hFR.1,if_neg (fun h=>htj i o ho ((hlst i).2 (.inr rfl)) h.1)]
   exact hc2 t fun j o' hj hl=>htj j o' hj ((hlst j).2 (.inl hl))
  ·rw [← I.defers];cases o.dst <;> rfl
 have chNot:i ∉ cs→∀ (k j:Nat),cs[k]?=some j→(Lst (L.setIfInBounds i true) j↔k<m):=by
  intro hics k j hkj
  rw [hlst]
  have:j≠i:=fun h=>hics (h▸List.mem_of_getElem? hkj)
  simp only [this,or_false]
  exact I.chain k j hkj
 have chIn:∀ q,cs[q]?=some i→q=m∧∀ (k j:Nat),cs[k]?=some j→(Lst (L.setIfInBounds i true) j↔k<m+1):=by
  intro q hq
  have h1:¬ q<m:=fun h=>hnot ((I.chain q i hq).2 h)
  have h2:q≤m:=by
   cases q with
   | zero=>omega
   | succ q=>
    obtain ⟨c,hcq⟩:∃ c,cs[q]?=some c:=⟨_,List.getElem?_eq_getElem (by have:=(gJ hq).1;omega)⟩
    have:=(I.chain q c hcq).1 (hanc c (C.next q c i hcq hq))
    omega
  refine ⟨by omega,fun k j hkj=>?_⟩
  rw [hlst,I.chain k j hkj]
  constructor
  ·rintro (h | rfl)
   ·omega
   ·have:=C.once k q j hkj hq;omega
  ·intro h
   by_cases hkm:k=m
   ·right
    have:q=k:=by omega
    subst this
    rw [hq] at hkj;exact (Option.some.inj hkj).symm
   ·left;omega
 unfold wpOp
 simp only [ho']
 rw [hwant,hmk]
 have hev:=evR_of (a:=⟨maskA (o.looksAt ops) a.tmps,a.defers⟩) (hFR.mask (o.looksAt ops))
 rw [hmk] at hev
 have hex:=exec_mask (ops:=ops) (T.noSel i o ho) a
 rcases W.fact i o v ho hv with ⟨h,_⟩ | h | h
 ·exact absurd h hf
 ·rw [hlf] at h;cases h
 rcases h with ⟨hw,hcl,q,g1,g2,hq,hg1,hg2,hdo⟩ | ⟨hw,hcl⟩ | ⟨hw,hcl1,hcl2,hp⟩ | ⟨hw,rfl,hun⟩
 ·rw [if_pos hw]
  obtain ⟨rfl,hch⟩:=chIn q hq
  rw [hg] at hg1;cases hg1
  refine .inl (aDo_wp hc hex hev H hdo fun u w' e' k1 k2 k3=>hk _ _ _ _ (post u w' e' (q+1) k1 k2 ⟨g2,hg2,k3⟩ hch))
 ·rw [if_pos hw]
  have hics:i ∉ cs:=fun h=>by
   obtain ⟨k,hk'⟩:=List.getElem?_of_mem h
   have:=C.two k i o hk' ho
   omega
  have hmay:aMay (Qv [] ops.toList) cs i m=true:=by
   unfold aMay
   refine List.all_eq_true.2 fun k hkr=>?_
   have hkl:=List.mem_range.1 hkr
   obtain ⟨c,hck⟩:∃ c,cs[k]?=some c:=⟨_,List.getElem?_eq_getElem hkl⟩
   have hcd:cs.getD k 0=c:=by rw [List.getD_eq_getElem?_getD,hck];rfl
   rw [hcd]
   simp only [Bool.and_eq_true,Bool.or_eq_true,Bool.not_eq_true',decide_eq_true_eq]
   constructor
   ·by_cases hmem:c∈(Qv [] ops.toList).getD i []
    ·right;exact (I.chain k c hck).1 (hanc c hmem)
    ·left;rw [Bool.eq_false_iff];intro h;exact hmem (List.contains_iff_mem.1 h)
   ·by_cases hmem:i∈(Qv [] ops.toList).getD c []
    ·left
     rcases Nat.lt_or_ge k m with h | h
     ·exact absurd (I.closed c ((I.chain k c hck).2 h) i hmem) hnot
     ·exact h
    ·right;rw [Bool.eq_false_iff];intro h;exact hmem (List.contains_iff_mem.1 h)
  obtain ⟨h',hop⟩:=W.sure i o v ho hv hf hlf hw hcl m g hg hmay
  have hsame:=cls_same hcl hop
  subst hsame
  have hdo:aDo P call (evOf (Go.Proofs.YthekdeikodppkaaGreatDoor.mk (o.looksAt ops) (frm ops.toList V tm i))) o h'=.ok (v,h'):=by unfold aDo;rw [hop]
  refine .inl (aDo_wp hc hex hev H hdo fun u w' e' k1 k2 k3=>hk _ _ _ _ (post u w' e' m k1 k2 ⟨h',hg,k3⟩ (chNot hics)))
 ·rw [if_pos hw]
  have hics:i ∉ cs:=fun h=>by
   obtain ⟨k,hk'⟩:=List.getElem?_of_mem h
   exact hcl2 (C.two k i o hk' ho)
  obtain ⟨u,r1,r2⟩:=aPure_gives hev hp w
  refine .inl ?_
  unfold Oper.wp
  rw [hex,r1]
  exact hk _ _ _ _ (post u w e m (Env.le_refl _) r2 ⟨g,hg,H⟩ (chNot hics))
 ·rw [if_neg (by rw [hw];simp)]
  by_cases hics:i∈cs
  ·obtain ⟨q,g1,hq,hg1,hg2⟩:=hun hics
   obtain ⟨rfl,hch⟩:=chIn q hq
   rw [hg] at hg1;cases hg1
   exact hk _ _ _ _ (post undef w e (q+1) (Env.le_refl _) ⟨[],rfl,rfl⟩ ⟨g,hg2,H⟩ hch)
  ·exact hk _ _ _ _ (post undef w e m (Env.le_refl _) ⟨[],rfl,rfl⟩ ⟨g,hg,H⟩ (chNot hics))
end
end
noncomputable section
def Tr.upT(n:Nat):Tr→Tr
 | .lf=>.lf
 | .nd v l r=>.nd (v.up n) (upT n l) (upT n r)
theorem Tr.upT_get(n f:Nat):∀ (t:Tr) (i:Nat),(t.upT n).get f i=(t.get f i).up n
 | .lf,i=>rfl
 | .nd v l r,0=>rfl
 | .nd v l r,i+1=>by
  rw [Tr.upT,Tr.get_nd f f,Tr.get_nd f f]
  split
  ·exact Tr.upT_get n f l _
  ·exact Tr.upT_get n f r _
def Fr.up(n:Nat)(f:Fr):Fr:=⟨f.n,f.t.upT n⟩
theorem Fr.up_get(n:Nat)(f:Fr)(i:Nat):(f.up n).get i=(f.get i).up n:=by
 unfold Fr.get Fr.up
 simp only
 split
 ·exact Tr.upT_get n 12 f.t i
 ·rfl
section
variable {F:Funs} {e e' e0:Env} {w0 w:World} {P:Program} {call:Jq} {ops:Array Oper} {cs:List Nat} {flt:Option Nat} {on:Option AV} {tm:Fr} {V:List AV} {G:List AH} {Q:Exit→Act→World→Prop} {ds:List Deferred}
theorem FR.up{f:Fr}{tmps:Array Value}{n:Nat}{x:Nat × Nat × Nat}(hn:n≤e.bl.length)(h:FR F e f tmps):FR F (e.ins n x) (f.up n) tmps:=
 ⟨h.1,h.2.1,fun i=>by rw [Fr.up_get];exact VR.up hn _ _ (h.2.2 i)⟩
theorem all_done(T:TextOk ops (Qv [] ops.toList)){L:Array Bool}(hs:L.size=ops.size)(hr:Region.ready .any ops L=[]):∀ i,i<ops.size→Lst L i:=by
 intro i
 induction i using Nat.strongRecOn with
 | _ i ih=>
  intro hi
  rcases Bool.eq_false_or_eq_true (L.getD i false) with h | h
  ·exact h
  ·exfalso
   obtain ⟨o,ho⟩:∃ o,ops[i]?=some o:=⟨_,Array.getElem?_eq_getElem hi⟩
   have ho':ops.toList[i]?=some o:=by rw [Array.getElem?_toList];exact ho
   have:i∈Region.ready .any ops L:=Jz.2 ⟨hi,by rw [Jm (by rw [hs];exact hi)];exact h,o,ho,fun x hx hb=>?_⟩
   ·rw [hr] at this;cases this
   ·have hlt:=T.back i o ho' x (by simpa using hx) hb
    exact ih x.on hlt (by omega)
theorem ready_lt{L:Array Bool}(hs:L.size=ops.size){i:Nat}(hi:i∈Region.ready .any ops L):i<L.size∧L.getD i true=false∧¬ Lst L i:=by
 obtain ⟨h1,h2,_⟩:=Jz.1 hi
 have h1':i<L.size:=by rw [hs];exact h1
 refine ⟨h1',h2,?_⟩
 unfold Lst
 rw [← Jm h1',h2];simp
theorem putAll_frm:∀ (l:List Oper) (V:List AV) (tm:Fr),V.length=l.length→putAll l V tm=frm l V tm l.length
 | [],[],tm,_=>rfl
 | [],_::_,tm,h=>by simp at h
 | _::_,[],tm,h=>by simp at h
 | o::l,v::V,tm,h=>by
  simp only [putAll,fput_eq]
  rw [putAll_frm l V _ (by simpa using h)]
  rfl
theorem way_all(hc:CallOk F P call)(T:TextOk ops (Qv [] ops.toList))(C:ChainOk P ops (Qv [] ops.toList) cs)(W:WayOk P call ops (Qv [] ops.toList) cs flt on tm V G)(htm:tm.ok)(hGl:G.length=cs.length+1)
 (hcs:∀ i∈cs,i<ops.size) (hon:flt=none∨on.isSome=true) {gl:AH} (hlast:G.getLast? = some gl)
 (hfin:∀ a w e,e0.le e→FR F e (putAll ops.toList V tm) a.tmps→a.defers=ds→HR F e w0 w gl→Q .normal a w) :
 ∀ (fuel:Nat) (L:Array Bool) (a:Act) (w:World) (m:Nat) (e:Env),left L=fuel→Inv F e0 w0 ops (Qv [] ops.toList) cs tm V G ds L a w m e→(∀ x,flt=some x→Lst L x)→wpAny P .any ops Q fuel L a w:=by
 have hlf:∀ i,lefts (Qv [] ops.toList) flt on i=false:=by
  intro i
  unfold lefts
  rcases hon with h | h
  ·rw [h];simp
  ·cases on with
   | none=>cases h
   | some x=>rfl
 have done:∀ (L:Array Bool) (a:Act) (w:World) (m:Nat) (e:Env),Inv F e0 w0 ops (Qv [] ops.toList) cs tm V G ds L a w m e→(∀ i,i<ops.size→Lst L i)→Q .normal a w:=by
  intro L a w m e I hall
  obtain ⟨g,hg,H⟩:=I.mem
  have hm:m=cs.length:=by
   have h1:=(gJ hg).1
   rcases Nat.lt_or_ge m cs.length with h | h
   ·exfalso
    have hck:cs[m]?=some cs[m]:=List.getElem?_eq_getElem h
    have:=(I.chain m _ hck).1 (hall _ (hcs _ (List.mem_of_getElem? hck)))
    omega
   ·omega
  have hgl:g=gl:=by
   rw [List.getLast?_eq_getElem?,hGl,Nat.add_sub_cancel,← hm,hg] at hlast
   exact Option.some.inj hlast
  subst hgl
  obtain ⟨cur,hFR,hcn,hc1,hc2⟩:=I.frame
  refine hfin a w e I.le ?_ I.defers H
  rw [putAll_frm _ _ _ W.len]
  obtain ⟨f1,f2,f3,f4⟩:=frm_get T W.len htm ops.toList.length (Nat.le_refl _)
  refine ⟨f2,by rw [f1,← hcn];exact hFR.2.1,fun t=>?_⟩
  have:(frm ops.toList V tm ops.toList.length).get t=cur.get t:=by
   by_cases htn:t<tm.n
   ·by_cases hex:∃ (j:Nat) (o:Oper),ops.toList[j]?=some o∧o.dst=some t
    ·obtain ⟨j,o,hj,hd⟩:=hex
     have hjl:=(gJ hj).1
     obtain ⟨u,hu⟩:∃ u,V[j]?=some u:=⟨_,List.getElem?_eq_getElem (by rw [W.len];exact hjl)⟩
     rw [f3 j o t u hjl hj hd hu htn,hc1 j o t u hj hd (hall j (by simpa using hjl)) hu htn]
    ·have hno:∀ (k:Nat) (ok:Oper),ops.toList[k]?=some ok→ok.dst≠some t:=fun k ok hk h=>hex ⟨k,ok,hk,h⟩
     rw [f4 t fun k ok _ hk=>hno k ok hk,hc2 t fun k ok hk _=>hno k ok hk]
   ·rw [Fr.get_out (by omega),Fr.get_out (by omega)]
  rw [this]
  exact hFR.2.2 t
 intro fuel
 induction fuel with
 | zero=>
  intro L a w m e hl I hfl
  have hall:∀ i,i<ops.size→Lst L i:=by
   intro i hi
   have hi':i<L.size:=by rw [I.size];exact hi
   rcases Bool.eq_false_or_eq_true (L.getD i true) with h | h
   ·unfold Lst;rw [← Jm hi'];exact h
   ·have:=left_pos hi' h;omega
  refine ⟨?_,done L a w m e I hall⟩
  rcases hr:Region.ready .any ops L with _ | ⟨i,r⟩
  ·rfl
  ·obtain ⟨h1,_,h3⟩:=ready_lt I.size (i:=i) (by rw [hr];simp)
   exact absurd (hall i (by rw [← I.size];exact h1)) h3
 | succ fuel ih=>
  intro L a w m e hl I hfl
  refine ⟨fun hr=>done L a w m e I (all_done T I.size hr),fun i hi=>?_⟩
  obtain ⟨h1,h2,h3⟩:=ready_lt I.size hi
  refine I.step hc T C W htm hi (fun h=>h3 (hfl i h)) (hlf i) fun a' w' m' e' I'=>?_
  refine ih _ a' w' m' e' ?_ I' fun x hx=>?_
  ·have:=left_set h1 h2;omega
  ·exact (lst_set h1 x).2 (.inl (hfl x hx))
theorem Inv.alloc(T:TextOk ops (Qv [] ops.toList)){al n:Nat}{oa:Oper}{t:TypeId}{z:AV}{VF VT:List AV}{GF GT:List AH}(hoa:ops.toList[al]?=some oa)(hop:oa.op=.alloc t)(hg:oa.guard=none)(hz:zeroT P t=some z)
 (hanc:(Qv [] ops.toList).getD al []=[]) (hcs:al ∉ cs) (hn:e0.bl.length=n) (hVF:VF.length=ops.toList.length)
 (htmup:∀ i:Nat,(tm.get i).up n=tm.get i) (hG:∀ (m:Nat) (g:AH),GF[m]?=some g→GT[m]?=some (g.ins n (.cells z.cells)))
 (hV:∀ (i:Nat) (u v:AV),i≠al→al ∉ (Qv [] ops.toList).getD i []→VF[i]?=some u→VT[i]?=some v→v=u.up n) (hVal:∀ v,VT[al]?=some v→v=.ptr n 0)
 {L:Array Bool} {a:Act} {m:Nat} (I:Inv F e0 w0 ops (Qv [] ops.toList) cs tm VF GF ds L a w m e) (hi:al∈Region.ready .any ops L) {K:Act→World→Prop}
 (hk:∀ a' w' m' e',Inv F e0 w0 ops (Qv [] ops.toList) cs tm VT GT ds (L.setIfInBounds al true) a' w' m' e'→K a' w'):wpOp P ops Q al K a w:=by
 obtain ⟨h1,h2,h3⟩:=ready_lt I.size hi
 have hlst:=lst_set (L:=L) (i:=al) h1
 have hoa':ops[al]?=some oa:=by rw [← Array.getElem?_toList];exact hoa
 obtain ⟨g,hg1,H⟩:=I.mem
 obtain ⟨cur,hFR,hcn,hc1,hc2⟩:=I.frame
 have hle:n≤e.bl.length:=by
  obtain ⟨⟨l,hl⟩,_⟩:=I.le
  rw [hl,lJ];omega
 unfold wpOp
 simp only [hoa']
 have hw:Region.wanted oa (yielded ops a.tmps)=true:=by unfold Region.wanted;rw [hg]
 rw [if_pos hw]
 refine .inl ?_
 obtain ⟨zv,g1,g2⟩:=zeroValue_run (F:=F) (e:=e) (w:=w) hz
 have hcz:=g2.cells
 have g2':VR F (e.ins n (w.heap.size,0,zv.cells.size)) z zv:=by
  unfold zeroT at hz
  cases hi:P.info? t with
  | none=>rw [hi] at hz;cases hz
  | some i=>
   rw [hi] at hz
   cases hzz:i.zero with
   | none=>simp [hzz] at hz
   | some z0=>
    simp [hzz] at hz
    subst hz
    have:zv=z0:=by
     have hr:(zeroValue t).run P w=.ok z0 w:=by simp [zeroValue,typeInfo,hi,hzz]
     rw [hr] at g1;injection g1 with g1 _;exact g1.symm
    subst this
    exact vr_ofVal F _ zv
 have hcz':=g2'.cells
 have H':=H.ins (o:=.cells zv.cells t) (ao:=.cells z.cells) (n:=n) (k:=0) (m:=zv.cells.size) (by rw [H.len];exact hle)
  ⟨zv.cells,t,(0,0),heap_alloc_new w _,rfl,by simp,zv.cells.toList,hcz',by rw [← VRs.length _ _ hcz',List.drop_zero,List.take_length]⟩
 have hrun:(execOp a.eval oa).run P w=.ok (.value (.pointer (some ⟨w.heap.size,0,none⟩))) (w.alloc (.cells zv.cells t)):=by
  simp [execOp,hop,Instr.alloc,g1,newVar,newRow]
 unfold Oper.wp
 rw [hrun]
 refine hk _ _ m (e.ins n (w.heap.size,0,zv.cells.size)) ⟨by simpa using I.size,?_,?_,?_,⟨_,hG m g hg1,H'⟩,⟨aput (cur.up n) oa.dst (.ptr n 0),?_,by rw [aput_n];exact hcn,?_,?_⟩,?_⟩
 ·intro j hj k hkj
  rw [hlst] at hj
  rw [hlst]
  rcases hj with hj | rfl
  ·exact .inl (I.closed j hj k hkj)
  ·rw [hanc] at hkj;cases hkj
 ·intro k j hkj
  rw [hlst]
  have:j≠al:=fun h=>hcs (h▸List.mem_of_getElem? hkj)
  simp only [this,or_false]
  exact I.chain k j hkj
 ·obtain ⟨⟨l,hl⟩,lt,hlt⟩:=I.le
  refine ⟨⟨(w.heap.size,0,zv.cells.size)::l,?_⟩,lt,hlt⟩
  simp only [Env.ins,hl]
  rw [List.take_append_of_le_length (by omega),List.take_of_length_le (by omega),List.drop_append_of_le_length (by omega),List.drop_of_length_le (by omega)]
  rfl
 ·refine aput_vr (FR.up hle hFR) ⟨w.heap.size,0,zv.cells.size,?_,rfl⟩
  simp only [Env.ins]
  rw [Go.Proofs.YthekdeikodppkaaGreatDoor.ins_get _ _ _ hle,if_neg (by omega),if_pos rfl]
 ·intro j o t' v hj hd hl hv htn
  rw [aput_get (f:=cur.up n) hFR.1]
  by_cases hja:j=al
  ·subst hja
   rw [hoa] at hj;cases hj
   rw [if_pos ⟨hd,by show t'<cur.n;rw [hcn];exact htn⟩,hVal v hv]
  ·rw [if_neg (fun h=>T.uniq al j oa o t' hoa hj hd hja h.1),Fr.up_get]
   rw [hlst] at hl
   have hl:=hl.resolve_right hja
   obtain ⟨u,hu⟩:∃ u,VF[j]?=some u:=⟨_,List.getElem?_eq_getElem (by rw [hVF];exact (gJ hj).1)⟩
   rw [hc1 j o t' u hj hd hl hu htn]
   exact (hV j u v hja (fun h=>h3 (I.closed j hl al h)) hu hv).symm
 ·intro t' htj
  rw [aput_get (f:=cur.up n) hFR.1,if_neg (fun h=>htj al oa hoa ((hlst al).2 (.inr rfl)) h.1),Fr.up_get]
  rw [hc2 t' fun j o hj hl=>htj j o hj ((hlst j).2 (.inl hl))]
  exact htmup t'
 ·rw [← I.defers];cases oa.dst <;> rfl
theorem way_float(hc:CallOk F P call)(T:TextOk ops (Qv [] ops.toList))(C:ChainOk P ops (Qv [] ops.toList) cs)(htm:tm.ok)(hcs':∀ i∈cs,i<ops.size){al n:Nat}{oa:Oper}{t:TypeId}{z:AV}{VF VT:List AV}{GF GT:List AH}
 (WF:WayOk P call ops (Qv [] ops.toList) cs (some al) none tm VF GF) (WT:WayOk P call ops (Qv [] ops.toList) cs (some al) (some (.ptr n 0)) tm VT GT) (hGl:GT.length=cs.length+1)
 (hoa:ops.toList[al]?=some oa) (hop:oa.op=.alloc t) (hg:oa.guard=none) (hz:zeroT P t=some z)
 (hanc:(Qv [] ops.toList).getD al []=[]) (hcs:al ∉ cs) (hn:e0.bl.length=n)
 (htmup:∀ i:Nat,(tm.get i).up n=tm.get i) (hG:∀ (m:Nat) (g:AH),GF[m]?=some g→GT[m]?=some (g.ins n (.cells z.cells)))
 (hV:∀ (i:Nat) (u v:AV),i≠al→al ∉ (Qv [] ops.toList).getD i []→VF[i]?=some u→VT[i]?=some v→v=u.up n) (hVal:∀ v,VT[al]?=some v→v=.ptr n 0)
 {gl:AH} (hlast:GT.getLast? = some gl) (hfin:∀ a w e,e0.le e→FR F e (putAll ops.toList VT tm) a.tmps→a.defers=ds→HR F e w0 w gl→Q .normal a w) :
 ∀ (fuel:Nat) (L:Array Bool) (a:Act) (w:World) (m:Nat) (e:Env),left L=fuel→Inv F e0 w0 ops (Qv [] ops.toList) cs tm VF GF ds L a w m e→¬ Lst L al→wpAny P .any ops Q fuel L a w:=by
 have hal:al<ops.size:=by simpa using (gJ hoa).1
 intro fuel
 induction fuel with
 | zero=>
  intro L a w m e hl I hnl
  have hal':al<L.size:=by rw [I.size];exact hal
  exfalso
  rcases Bool.eq_false_or_eq_true (L.getD al true) with h | h
  ·exact hnl (by unfold Lst;rw [← Jm hal'];exact h)
  ·have:=left_pos hal' h;omega
 | succ fuel ih=>
  intro L a w m e hl I hnl
  refine ⟨fun hr=>absurd (all_done T I.size hr al hal) hnl,fun i hi=>?_⟩
  obtain ⟨h1,h2,h3⟩:=ready_lt I.size hi
  by_cases hia:i=al
  ·subst hia
   refine Inv.alloc T hoa hop hg hz hanc hcs hn WF.len htmup hG hV hVal I hi fun a' w' m' e' I'=>?_
   refine way_all hc T C WT htm hGl hcs' (.inr rfl) hlast hfin fuel _ a' w' m' e' ?_ I' fun x hx=>?_
   ·have:=left_set h1 h2;omega
   ·cases hx
    exact (lst_set h1 _).2 (.inr rfl)
  ·obtain ⟨_,_,o,ho',hrd⟩:=Jz.1 hi
   have ho:ops.toList[i]?=some o:=by rw [Array.getElem?_toList];exact ho'
   have hanci:=ready_anc T I.closed ho hrd
   have hlf:lefts (Qv [] ops.toList) (some al) none i=false:=by
    unfold lefts
    simp only [Option.isNone_none,Bool.true_and]
    rw [Bool.eq_false_iff]
    intro h
    exact hnl (hanci al (List.contains_iff_mem.1 h))
   refine I.step hc T C WF htm hi (fun h=>hia (Option.some.inj h).symm) hlf fun a' w' m' e' I'=>?_
   refine ih _ a' w' m' e' ?_ I' fun h=>?_
   ·have:=left_set h1 h2;omega
   ·rcases (lst_set h1 al).1 h with h | h
    ·exact hnl h
    ·exact hia h.symm
theorem chainOk_spec{ancs:List (List Nat)}:∀ {l:List Nat},chainOk ancs l=true→∀ (k i j:Nat),l[k]?=some i→l[k+1]?=some j→i∈ancs.getD j []
 | [],_,k,i,j,h,_=>by simp at h
 | [a],_,k,i,j,_,h=>by simp at h
 | a::b::r,h,0,i,j,h1,h2=>by
  simp only [chainOk,Bool.and_eq_true] at h
  simp at h1 h2
  subst h1;subst h2
  exact List.contains_iff_mem.1 h.1
 | a::b::r,h,k+1,i,j,h1,h2=>by
  simp only [chainOk,Bool.and_eq_true] at h
  exact chainOk_spec h.2 k i j (by simpa using h1) (by simpa using h2)
def isTwo(P:Program)(l:List Oper)(i:Nat):Bool:=match l[i]? with | some o=>cls P o.op==2 | none=>false
theorem chainOk_of{p:Nat→Bool}(hp:∀ i,p i=true→isTwo P ops.toList i=true)(hch:chainOk (Qv [] ops.toList) ((List.range ops.toList.length).filter p)=true) :
 ChainOk P ops (Qv [] ops.toList) ((List.range ops.toList.length).filter p)∧∀ i∈(List.range ops.toList.length).filter p,i<ops.size:=by
 have hnd:((List.range ops.toList.length).filter p).Nodup:=List.nodup_range.filter _
 refine ⟨⟨chainOk_spec hch,fun k i o hk ho=>?_,fun k k' i hk hk'=>?_⟩,fun i hi=>?_⟩
 ·have h1:=hp i (List.mem_filter.1 (List.mem_of_getElem? hk)).2
  unfold isTwo at h1
  rw [ho] at h1
  simpa using h1
 ·have h1:=(gJ hk)
  have h2:=(gJ hk')
  exact (List.getElem_inj hnd).1 (h1.2.trans h2.2.symm)
 ·have:=List.mem_range.1 (List.mem_filter.1 hi).1
  simpa using this
theorem Inv.start{w:World}{gl0:AH}(hh:∃ t,G=[gl0]++t){h:AH}(hgl:gl0=h)(H:HR F e0 w0 w h){a:Act}(ht:FR F e0 tm a.tmps) :
 Inv F e0 w0 ops (Qv [] ops.toList) cs tm V G a.defers (Array.replicate ops.size false) a { w with drawn:=w.drawn+1 } 0 e0:=by
 have no:∀ i,¬ Lst (Array.replicate ops.size false) i:=by
  intro i h
  unfold Lst at h
  rw [Array.getD_eq_getD_getElem?,Array.getElem?_replicate] at h
  split at h <;> simp at h
 obtain ⟨t,ht'⟩:=hh
 refine ⟨by simp,fun i h=>absurd h (no i),fun k i _=>⟨fun h=>absurd h (no i),fun h=>by omega⟩,Env.le_refl _,⟨h,by rw [ht',hgl];rfl,H.same rfl rfl rfl rfl⟩,⟨tm,ht,rfl,fun j o t v _ _ h=>absurd h (no j),fun t _=>rfl⟩,rfl⟩
theorem way_of{gs:List AH}(hW:aWay P call ops (Qv [] ops.toList) cs flt on 0 ops.toList tm [] gs=.ok (V,G))(hS:aSure P ops (Qv [] ops.toList) cs flt on G 0 ops.toList tm V=true) :
 WayOk P call ops (Qv [] ops.toList) cs flt on tm V G∧(∃ t,G=gs++t)∧∀ (i:Nat) (o:Oper) (v:AV),ops.toList[i]?=some o→V[i]?=some v→flt=some i→v=on.getD (.tup []):=by
 obtain ⟨vs,hV,hl,ht,hf⟩:=aWay_spec _ _ _ _ _ _ _ hW
 simp only [List.nil_append] at hV
 subst hV
 refine ⟨⟨hl,fun i o v ho hv=>?_,fun i o v ho hv hf' hlf hw hc m g hg hm=>?_⟩,ht,fun i o v ho hv=>?_⟩
 ·have:=(hf i o v ho hv).2
  simpa only [Nat.zero_add] using this
 rotate_left
 ·have:=(hf i o v ho hv).1
  simpa only [Nat.zero_add] using this
 ·exact aSure_spec _ _ _ _ hS i o v ho hv (by simpa only [Nat.zero_add] using hf') (by simpa only [Nat.zero_add] using hlf) hw hc m g hg (by simpa only [Nat.zero_add] using hm)
theorem aDraw_ok(hm:P.follows .mixedOrders=true)(hc:CallOk F P call):DrawOk F P (fun ops tm h=>aDraw P call ops tm h):=by
 intro ops tm h tm' h' hr e w0 w a Q id ht H hk
 unfold aDraw at hr
 dsimp only at hr
 split at hr
 rotate_left
 ·cases hr
 rename_i htx
 have T:=textOk_spec htx
 split at hr
 ·cases hr
 ·
  rename_i hfl
  have hch:chainOk (Qv [] ops.toList) ((List.range ops.toList.length).filter fun i=>match ops.toList[i]? with | some o=>cls P o.op==2 | none=>false)=true:=by
   unfold floatOf at hfl
   split at hfl
   ·assumption
   ·split at hfl <;> cases hfl
  obtain ⟨C,hlt⟩:=chainOk_of (P:=P) (ops:=ops) (fun i hi=>hi) hch
  split at hr
  rotate_left
  ·cases hr
  rename_i V G hW
  split at hr
  rotate_left
  ·cases hr
  rename_i hS
  simp only [Bool.and_eq_true,decide_eq_true_eq] at hS
  split at hr
  rotate_left
  ·cases hr
  rename_i g hg
  cases hr
  obtain ⟨W,hG0,_⟩:=way_of hW hS.1
  refine wp_region_any hm ?_
  refine way_all (e0:=e) (w0:=w0) (ds:=a.defers) hc T C W ht.1 hS.2 hlt (.inl rfl) hg (fun a' w' e' k1 k2 k3 k4=>hk a' w' e' k1 k2 k3 k4) ops.size _ a _ 0 e (left_none _) (Inv.start hG0 rfl H ht) (by simp)
 ·
  rename_i al hfl
  have hfl':∃ oa,ops.toList[al]?=some oa∧isAlloc oa=true∧(Qv [] ops.toList).getD al []=[]∧chainOk (Qv [] ops.toList) ((((List.range ops.toList.length).filter fun i=>match ops.toList[i]? with | some o=>cls P o.op==2 | none=>false)).filter (· != al))=true:=by
   unfold floatOf at hfl
   split at hfl
   ·cases hfl
   ·split at hfl
    ·rename_i a' hfind
     cases hfl
     have:=List.find?_some hfind
     simp only [Bool.and_eq_true] at this
     obtain ⟨⟨q1,q2⟩,q3⟩:=this
     split at q1
     ·rename_i o ho
      exact ⟨o,ho,q1,by simpa using q2,q3⟩
     ·cases q1
    ·cases hfl
  obtain ⟨oa,hoa,hal,hanc,hch⟩:=hfl'
  rw [List.filter_filter] at hch
  obtain ⟨C,hlt⟩:=chainOk_of (P:=P) (ops:=ops) (p:=fun i=>(i != al)&&(match ops.toList[i]? with | some o=>cls P o.op==2 | none=>false)) (fun i hi=>by simp only [Bool.and_eq_true] at hi;exact hi.2) hch
  rw [← List.filter_filter] at C hlt
  have hnal:al ∉ ((List.range ops.toList.length).filter fun i=>match ops.toList[i]? with | some o=>cls P o.op==2 | none=>false).filter (· != al):=by
   intro h
   have:=(List.mem_filter.1 h).2
   simp at this
  split at hr
  rotate_left
  ·cases hr
  rename_i oa' hoa'
  rw [hoa] at hoa';cases hoa'
  split at hr
  rotate_left
  ·cases hr
  rename_i t hop
  split at hr
  rotate_left
  ·cases hr
  rename_i z hz
  split at hr
  ·rename_i vt gt vf gf hWT hWF
   split at hr
   rotate_left
   ·cases hr
   rename_i hS
   simp only [Bool.and_eq_true,decide_eq_true_eq] at hS
   obtain ⟨⟨⟨s1,s2⟩,s3⟩,s4⟩:=hS
   split at hr
   rotate_left
   ·cases hr
   rename_i g hg
   cases hr
   obtain ⟨WT,_,hal0⟩:=way_of hWT s1
   obtain ⟨WF,hG0,_⟩:=way_of hWF s2
   have hgd:oa.guard=none:=by
    unfold isAlloc at hal
    rw [hop] at hal
    simpa using hal
   unfold aBoth at s4
   simp only [Bool.and_eq_true,decide_eq_true_eq] at s4
   obtain ⟨⟨⟨b1,b2⟩,b3⟩,b4⟩:=s4
   refine wp_region_any hm ?_
   refine way_float (e0:=e) (w0:=w0) (ds:=a.defers) (n:=h.bs.length) (z:=z) hc T C ht.1 hlt WF WT s3 hoa hop hgd hz hanc hnal H.len.symm ?_ ?_ ?_ ?_ hg (fun a' w' e' k1 k2 k3 k4=>hk a' w' e' k1 k2 k3 k4) ops.size _ a _ 0 e (left_none _) (Inv.start hG0 rfl H ht) ?_
   ·intro i
    rcases Nat.lt_or_ge i tm.n with hi | hi
    ·exact AV.eq_of_beq (List.all_eq_true.1 b1 i (List.mem_range.2 hi))
    ·rw [Fr.get_out hi];rfl
   ·intro m g' hg'
    have:=List.all_eq_true.1 b3 m (List.mem_range.2 (gJ hg').1)
    rw [hg'] at this
    split at this
    ·rename_i x y hx hy
     cases hx
     rw [hy,AH.eq_of_same this]
    ·cases this
   ·intro i u v hia hna hu hv
    have hil:i<ops.toList.length:=by rw [← WF.len];exact (gJ hu).1
    have:=List.all_eq_true.1 b4 i (List.mem_range.2 hil)
    simp only [hu,hv,Bool.or_eq_true,beq_iff_eq] at this
    rcases this with (h1 | h1) | h1
    ·exact absurd h1 hia
    ·exact absurd (List.contains_iff_mem.1 h1) hna
    ·exact (AV.eq_of_beq h1).symm
   ·intro v hv
    exact hal0 al oa v hoa hv rfl
   ·intro h'
    unfold Lst at h'
    rw [Array.getD_eq_getD_getElem?,Array.getElem?_replicate] at h'
    split at h' <;> simp at h'
  ·cases hr
  ·cases hr
theorem Qt(hm:P.follows .mixedOrders=true){pr:Prims}(hp:Qc F P pr)(fuel depth:Nat):CallOk F P (aRun P pr fuel depth):=
 aCall_ok hp (fun _ hc=>aDraw_ok hm hc) depth
end
end
def turnF(x:Int)(k:Nat):Int:=bits .or .u32 (x/2^k) (IntKind.u32.wrap (x*2^(32-k)))
set_option maxHeartbeats 800000 in
theorem shturn_any(x:Int)(k:Nat)(hk:1≤k∧k≤31)(w:World):Calls Tryz.prog 200 #[.int .u32 x,.int .i64 k] w (fun r w'=>r=.returned (.int .u32 (turnF x k))∧Own w w' []):=by
 obtain ⟨hk1,hk2⟩:=hk
 have d11:(k:Int)<64:=by omega
 have d12:¬ (k:Int)<0:=by omega
 have h1:¬ ((32:Int)-k)<0:=by omega
 have h2:IntKind.i64.wrap (32-(k:Int))=32-k:=IntWalk.i64_in _ ⟨by omega,by omega⟩
 have h3:((32:Int)-k).toNat=32-k:=by omega
 unfold turnF
 have H:=Own.start w
 go_enter Tryz.func200,Tryz.ntmps200
 go_upto_region 1 with (fail)
 refine Qa (fun w1=>Own w w1 []) 8 (by kernel_rfl) (by kernel_rfl) H.drew ?_
 simp only [List.take_succ_cons,List.take_zero,List.drop_succ_cons,List.drop_zero]
 repeat
  first
  | (refine calm_value (v:=?_) (by decide) rfl (fun σ w1 hS=>?_) ?_
     rotate_left
     ·skip
      first | (go_simp;rfl) | rfl
     simp only [Act.put,putC])
  | (refine calm_skip (by decide) rfl ?_
     simp only [Act.put,putC])
 refine calm_nil ?_
 intro wd HD
 go_wp2
 go_ret
 exact ⟨rfl,HD⟩
def wds(l:List Int):List Value:=l.map fun x=>.int .u32 x
theorem Qi(l:List Int):(wds l).length=l.length:=List.length_map _
theorem wds_one(l:List Int):∀ u∈wds l,u.oneCell'=true:=by
 intro u hu
 obtain ⟨x,-,rfl⟩:=List.mem_map.1 hu
 rfl
theorem wds_get{l:List Int}{i:Nat}(h:i<l.length):(wds l).toArray[i]?=some (.int .u32 (l.getD i 0)):=by
 rw [List.getElem?_toArray,wds,List.getElem?_map,List.getD_eq_getElem?_getD,List.getElem?_eq_getElem h]
 rfl
theorem wds_set(l:List Int)(k:Nat)(v:Int):(wds l).toArray.setIfInBounds k (.int .u32 v)=(wds (l.set k v)).toArray:=by
 rw [List.setIfInBounds_toArray,wds,wds,List.map_set]
def kF:List Int:=[1116352408,1899447441,3049323471,3921009573,961987163,1508970993,2453635748,2870763221,3624381080,310598401,607225278,1426881987,1925078388,2162078206,2614888103,3248222580,3835390401,4022224774,264347078,604807628,770255983,1249150122,1555081692,1996064986,2554220882,2821834349,2952996808,3210313671,3336571891,3584528711,113926993,338241895,666307205,773529912,1294757372,1396182291,1695183700,1986661051,2177026350,2456956037,2730485921,2820302411,3259730800,3345764771,3516065817,3600352804,4094571909,275423344,430227734,506948616,659060556,883997877,958139571,1322822218,1537002063,1747873779,1955562222,2024104815,2227730452,2361852424,2428436474,2756734187,3204031479,3329325298]
def roundF(i:Nat):Int:=kF.getD i 0
set_option maxRecDepth 100000 in
set_option maxHeartbeats 1600000 in
theorem shround_any(i:Nat)(hi:i<64)(w:World):Calls Tryz.prog 201 #[.int .i64 i] w (fun r w'=>r=.returned (.int .u32 (roundF i))∧Own w w' []):=by
 have hiI:(i:Int)<64:=by omega
 obtain ⟨y,hy⟩:∃ y,Hid (roundF i=y):=⟨_,rfl⟩
 have hc:Hid ((wds kF).toArray[i]?=some (.int .u32 y)):=jd (by rw [← hy.out];exact wds_get (by simpa [kF] using hi))
 rw [hy.out]
 go_enter Tryz.func201,Tryz.ntmps201
 go_upto_region 2 with (refine Qe (vs:=wds kF) (cur':=(wds kF).toArray) rfl _ _ rfl rfl ((Own.start w).alloc (.cells #[.int .u32 0,.int .u32 0,.int .u32 0,.int .u32 0,.int .u32 0,.int .u32 0,.int .u32 0,.int .u32 0,.int .u32 0,.int .u32 0,.int .u32 0,.int .u32 0,.int .u32 0,.int .u32 0,.int .u32 0,.int .u32 0,.int .u32 0,.int .u32 0,.int .u32 0,.int .u32 0,.int .u32 0,.int .u32 0,.int .u32 0,.int .u32 0,.int .u32 0,.int .u32 0,.int .u32 0,.int .u32 0,.int .u32 0,.int .u32 0,.int .u32 0,.int .u32 0,.int .u32 0,.int .u32 0,.int .u32 0,.int .u32 0,.int .u32 0,.int .u32 0,.int .u32 0,.int .u32 0,.int .u32 0,.int .u32 0,.int .u32 0,.int .u32 0,.int .u32 0,.int .u32 0,.int .u32 0,.int .u32 0,.int .u32 0,.int .u32 0,.int .u32 0,.int .u32 0,.int .u32 0,.int .u32 0,.int .u32 0,.int .u32 0,.int .u32 0,.int .u32 0,.int .u32 0,.int .u32 0,.int .u32 0,.int .u32 0,.int .u32 0,.int .u32 0] 314)) rfl (by kernel_rfl) (by simp [wds,kF]) (wds_one _) rfl ?_;intro w5 H)
 generalize w.heap.size=g at *
 have c0:w5.cell? ⟨g,i,none⟩=some (.int .u32 y):=by rw [H.cells];exact hc.out
 go_wp2
 go_ret
 exact ⟨rfl,H.bare⟩
noncomputable section
def dLast(P:Program)(call:Jq)(draw:Drawer)(fuel:Nat)(fn:Func)(g:FuncId)(args:List AV)(tm:Fr)(h:AH):Rs (AV × AH):=
 match P.funcs[g]? with
 | some gn=>match gn.body with
  | some c=>if Nat.ble (args.length+(gn.ntmps-args.length)) 4000 then match aCode P call draw fuel c ⟨args.length+(gn.ntmps-args.length),trArgs args 0 .lf⟩ h with
   | .ok (.exit _,_,_)=>.no [4445]
   | .ok (_,tg,h')=>match aResults P tg h' gn.results.toList,aResults P tm h' fn.results.toList with
    | some _,some l=>.ok (aRet l,h')
    | _,_=>.no [3334]
   | .no l=>.no (g::l)
   else .no [2224]
  | none=>.no [2225]
 | none=>.no [2226]
def dRest(P:Program)(call:Jq)(draw:Drawer)(fuel:Nat)(fn:Func)(rest:Code)(f:AV)(tm:Fr)(h:AH):Rs (AV × AH):=
 match f with
 | .fn (.func g) x y=>if enters P g then match aCode P call draw fuel rest tm h with
  | .ok (.exit _,_,_)=>.no [4446]
  | .ok (_,tm',h')=>dLast P call draw fuel fn g (x++y) tm' h'
  | .no l=>.no l
  else .no [2227]
 | _=>.no [2228]
def dBody(P:Program)(call:Jq)(draw:Drawer)(fuel:Nat)(fn:Func)(r0:Code)(ops:Array Oper)(m d:Oper)(f:Operand)(rest:Code)(tm:Fr)(h:AH):Rs (AV × AH):=
 match aCode P call draw fuel r0 tm h with
 | .ok (.normal,tm1,h1)=>match aStep P call ops m tm1 h1 with
  | .ok (tm2,h2)=>dRest P call draw fuel fn rest (evOf tm2 f) tm2 h2
  | .no l=>.no l
 | .ok _=>.no [4447]
 | .no l=>.no l
section
variable {F:Funs} {e:Env} {w0 w:World} {h h':AH} {P:Program} {call:Jq} {draw:Drawer} {fuel:Nat} {fn:Func} {v:AV} {R:Ending→World→Prop}
theorem dLast_leaves(hc:CallOk F P call)(hd:DrawOk F P draw){g:FuncId}{args:List AV}{dargs cap:Array Value}{tm:Fr}{a:Act}(hen:enters P g=true)(hv:VRs F e args (dargs++cap).toList)(ht:FR F e tm a.tmps)(H:HR F e w0 w h)
 (hr:dLast P call draw fuel fn g args tm h=.ok (v,h')) (hk:∀ u w' e',e.le e'→VR F e' v u→HR F e' w0 w' h'→R (.returned u) w') :
 Leaves P fn a.tmps R [{ target:=.fn (.func g) cap,args:=dargs }] .returning w:=by
 unfold dLast at hr
 split at hr
 rotate_left
 ·cases hr
 rename_i gn hgn
 split at hr
 rotate_left
 ·cases hr
 rename_i c hb
 split at hr
 rotate_left
 ·cases hr
 rename_i h4
 split at hr
 ·cases hr
 ·rename_i x tg h1 hne hcode
  split at hr
  ·rename_i lg l hlg hl
   cases hr
   refine leaves_cons (f:=g) (args:=dargs++cap) (by simp) ?_ ?_
   ·unfold enters at hen
    rw [hgn] at hen
    simp only [Bool.and_eq_true,Bool.not_eq_true'] at hen
    have hnm:¬ gn.name = "runtime.NumGoroutine":=by simpa using hen.1
    simp [invoke,callFunc,hgn,hnm,hb]
   ·have hfr:=frOf (F:=F) (e:=e) (vs:=dargs++cap) (n:=gn.ntmps) rfl (by simpa using h4) hv
    refine (callsD_of_wp (R:=fun en w'=>∃ u e',en=.returned u∧e.le e'∧HR F e' w0 w' h') hgn hb ((Zn hc hd fuel c (a:=⟨(dargs++cap)++Array.replicate (gn.ntmps-(dargs++cap).size) undef,[]⟩) hfr H hcode fun a' w' e' g1 g2 g3 g4=>?_).1)).mono ?_
    ·obtain ⟨u,k1,k2⟩:=aRet_run g2 g4 hlg
     cases x with
     | normal=>exact ⟨g3,u,k1,u,e',rfl,g1,g4⟩
     | ret=>exact ⟨g3,u,k1,u,e',rfl,g1,g4⟩
     | exit id=>exact absurd rfl (hne id)
    ·rintro en u' w' ⟨rfl,u,e',rfl,g1,g4⟩
     obtain ⟨r,k1,k2⟩:=aRet_run (fn:=fn) (ht.le g1) g4 hl
     exact ⟨r,k1,hk r w' e' g1 k2 g4⟩
  ·cases hr
 ·cases hr
theorem dBody_calls(hc:CallOk F P call)(hd:DrawOk F P draw){f:FuncId}{r0 rest:Code}{id:Nat}{m d:Oper}{x:Operand}{ts:Array TypeId}(hfn:P.funcs[f]?=some fn)(hb:fn.body=some (.seq r0 (.seq (.region id #[m,d] false) rest)))
 (hdop:d.op=.defer ⟨.value x,#[],ts⟩) (hdg:d.guard=none) (hdd:d.dst=none) {args:List AV} {vs:Array Value} (hv:VRs F e args vs.toList) (H:HR F e w0 w h) (h4:args.length+(fn.ntmps-args.length)≤4000)
 (hr:dBody P call draw fuel fn r0 #[m,d] m d x rest ⟨args.length+(fn.ntmps-args.length),trArgs args 0 .lf⟩ h=.ok (v,h')) :
 Calls P f vs w fun en w'=>∃ u,en=.returned u∧∃ e',e.le e'∧VR F e' v u∧HR F e' w0 w' h':=by
 unfold dBody at hr
 split at hr
 ·rename_i tm1 h1 hcode
  split at hr
  ·rename_i tm2 h2 hstep
   have ht:=frOf (n:=fn.ntmps) rfl h4 hv
   refine calls_of_wp_defers hfn hb (wp_seq ((Zn hc hd fuel r0 (a:=⟨vs++Array.replicate (fn.ntmps-vs.size) undef,[]⟩) ht H hcode fun a1 w1 e1 g1 g2 g3 g4=>?_).1))
   refine wp_seq (wp_region ?_)
   show wpOps P #[m,d] _ [0,1] a1 w1
   rw [wpOps_cons]
   refine aStep_wp hc (o:=m) rfl g2 g4 hstep fun a2 w2 e2 k1 k2 k3 k4=>?_
   rw [wpOps_cons]
   unfold dRest at hr
   split at hr
   ·rename_i g fx fy hg
    split at hr
    ·rename_i hen
     have hx:=evR_of k2 x
     rw [hg] at hx
     obtain ⟨la,lb,hxv,p1,p2⟩:=hx
     unfold wpOp
     simp only [show (#[m,d]:Array Oper)[1]?=some d from rfl]
     have hw:Region.wanted d (yielded #[m,d] a2.tmps)=true:=by unfold Region.wanted;rw [hdg]
     rw [if_pos hw]
     refine .inl ?_
     have hrun:(execOp a2.eval d).run P w2=.ok (.defer { target:=.fn (.func g) lb.toArray,args:=la.toArray }) w2:=by
      simp [execOp,hdop,resolve,hxv,Deferred.ofValue]
     unfold Oper.wp
     rw [hrun]
     simp only [Oper.upon,hdd,Act.put]
     have hdf:a2.defers=[]:=by rw [k3,g3]
     split at hr
     ·cases hr
     ·rename_i x3 tm3 h3 hne hrest
      show rest.wp P _ { tmps:=a2.tmps,defers:={ target:=.fn (.func g) lb.toArray,args:=la.toArray }::a2.defers } w2
      refine (Zn hc hd fuel rest (a:={ tmps:=a2.tmps,defers:={ target:=.fn (.func g) lb.toArray,args:=la.toArray }::a2.defers }) k2 k4 hrest fun a3 w3 e3 q1 q2 q3 q4=>?_).1
      have hds:a3.defers=[{ target:=.fn (.func g) lb.toArray,args:=la.toArray }]:=by rw [q3,hdf]
      have hargs:VRs F e3 (fx++fy) (la.toArray++lb.toArray).toList:=by
       simp only [Array.toList_append]
       exact VRs.append _ _ _ _ (VRs.le q1 _ _ p1) (VRs.le q1 _ _ p2)
      have hlv:=dLast_leaves (R:=fun en w'=>∃ u,en=.returned u∧∃ e',e.le e'∧VR F e' v u∧HR F e' w0 w' h') hc hd hen hargs q2 q4 hr fun u w' e' r1 r2 r3=>
       ⟨u,rfl,e',Env.le_trans g1 (Env.le_trans k1 (Env.le_trans q1 r1)),r2,r3⟩
      cases x3 with
      | normal=>show Leaves P fn a3.tmps _ a3.defers .returning w3;rw [hds];exact hlv
      | ret=>show Leaves P fn a3.tmps _ a3.defers .returning w3;rw [hds];exact hlv
      | exit id=>exact absurd rfl (hne id)
     ·cases hr
    ·cases hr
   ·cases hr
  ·cases hr
 ·cases hr
 ·cases hr
end
end
noncomputable section
section
variable {F:Funs} {e:Env} {w0 w w':World} {h:AH} {P:Program}
theorem HR.mono(H:HR F e w0 w h)(hb:Below w.heap.size w w'):HR F e w0 w' h where
 below:=H.below.trans (hb.mono H.below')
 len:=H.len
 nv:=H.nv
 objs:=fun i o x h1 h2 h3=>by
  obtain ⟨g1,g2,g3⟩:=H.objs i o x h1 h2 h3
  exact ⟨g1,Nat.lt_of_lt_of_le g2 hb.size,g3.of_heap (hb.block _ g2)⟩
 inj:=H.inj
theorem HR.text(H:HR F e w0 w h)(t:List UInt8):HR F ⟨e.bl,e.tx++[t]⟩ w0 w { h with nv:=h.nv+1 }:=by
 have hle:e.le ⟨e.bl,e.tx++[t]⟩:=⟨⟨[],by simp⟩,⟨_,rfl⟩⟩
 refine ⟨H.below,H.len,by simp [H.nv],fun i o x h1 h2 h3=>?_,H.inj⟩
 obtain ⟨g1,g2,g3⟩:=H.objs i o x h1 h2 h3
 exact ⟨g1,g2,g3.le hle⟩
theorem Qc.none:Qc F P fun _ _ _=>none:=fun f args h v h' hr=>by cases hr
def orPr(p q:Prims):Prims:=fun f args h=>match p f args h with
 | some r=>some r
 | none=>q f args h
theorem Qc.or{p q:Prims}(hp:Qc F P p)(hq:Qc F P q):Qc F P (orPr p q):=by
 intro f args h v h' hr
 unfold orPr at hr
 split at hr
 ·rename_i r hr'
  cases hr
  exact hp f args h v h' hr'
 ·exact hq f args h v h' hr
def onPr(f0:FuncId)(p:List AV→AH→Option (Rs (AV × AH))):Prims:=fun f args h=>if Nat.beq f f0 then p args h else none
theorem Qc.on{f0:FuncId}{p:List AV→AH→Option (Rs (AV × AH))}(hp:∀ args h v h',p args h=some (.ok (v,h'))→∀ (e:Env) (w0 w:World) (vs:Array Value),HR F e w0 w h→VRs F e args vs.toList →
 Calls P f0 vs w fun en w'=>∃ u,en=.returned u∧∃ e',e.le e'∧VR F e' v u∧HR F e' w0 w' h'):Qc F P (onPr f0 p):=by
 intro f args h v h' hr
 unfold onPr at hr
 split at hr
 ·rename_i hf
  have:f=f0:=Nat.eq_of_beq_eq_true hf
  subst this
  exact hp args h v h' hr
 ·cases hr
def tabPr(f0:FuncId)(args0:List AV)(h0:AH)(v0:AV)(h1:AH):Prims:=fun f args h=>
 if Nat.beq f f0 then if avsBeq args args0 then if h.same h0 then some (.ok (v0,h1)) else none else none else none
theorem Qc.tab{call:Jq}(hc:CallOk F P call){f0:FuncId}{args0:List AV}{h0:AH}{v0:AV}{h1:AH}(hr:call f0 args0 h0=.ok (v0,h1)):Qc F P (tabPr f0 args0 h0 v0 h1):=by
 intro f args h v h' hr'
 unfold tabPr at hr'
 split at hr'
 ·rename_i hf
  split at hr'
  ·rename_i ha
   split at hr'
   ·rename_i hs
    cases hr'
    have e1:f=f0:=Nat.eq_of_beq_eq_true hf
    have e2:=Zb ha
    have e3:=AH.eq_of_same hs
    subst e1;subst e2;subst e3
    exact hc _ _ _ _ _ hr
   ·cases hr'
  ·cases hr'
 ·cases hr'
def okEq(r:Rs (AV × AH))(v:AV)(h:AH):Bool:=
 match r with
 | .ok (u,g)=>u.beq v&&g.same h
 | .no _=>false
theorem Qw{r:Rs (AV × AH)}{v:AV}{h:AH}(hr:okEq r v h=true):r=.ok (v,h):=by
 unfold okEq at hr
 split at hr
 ·simp only [Bool.and_eq_true] at hr
  rw [AV.eq_of_beq hr.1,AH.eq_of_same hr.2]
 ·cases hr
def dPr(P:Program)(f0:FuncId)(call:Jq)(draw:Drawer)(fuel:Nat):Prims:=onPr f0 fun args h=>
 match P.funcs[f0]? with
 | some fn=>match fn.body with
  | some (.seq r0 (.seq (.region _ ops false) rest))=>match ops.toList with
   | [m,d]=>match d.op,d.guard,d.dst with
    | .defer ⟨.value x,dargs,_⟩,none,none=>if dargs.size=0∧args.length+(fn.ntmps-args.length)≤4000 then some (dBody P call draw fuel fn r0 #[m,d] m d x rest ⟨args.length+(fn.ntmps-args.length),trArgs args 0 .lf⟩ h) else none
    | _,_,_=>none
   | _=>none
  | _=>none
 | none=>none
theorem Qc.defer{call:Jq}{draw:Drawer}(hc:CallOk F P call)(hd:DrawOk F P draw)(f0:FuncId)(fuel:Nat):Qc F P (dPr P f0 call draw fuel):=by
 refine Qc.on fun args h v h' hr e w0 w vs H hv=>?_
 split at hr
 rotate_left
 ·cases hr
 rename_i fn hfn
 split at hr
 rotate_left
 ·cases hr
 rename_i r0 id ops rest hb
 split at hr
 rotate_left
 ·cases hr
 rename_i m d hops
 split at hr
 rotate_left
 ·cases hr
 rename_i x dargs ts hop hg hdd
 split at hr
 rotate_left
 ·cases hr
 rename_i hsz
 have hda:dargs=#[]:=Array.eq_empty_of_size_eq_zero hsz.1
 subst hda
 have ho:ops=#[m,d]:=by apply Array.ext';exact hops
 subst ho
 exact dBody_calls hc hd hfn hb hop hg hdd hv H hsz.2 (Option.some.inj hr)
end
end
end Go.Proofs.YthekdeikodppkaaGreatDoor
namespace Go.Proofs.YthekdeikodppkaaGreatDoor
open Go.RowKit
set_option maxRecDepth 1000000
def T_swap_any(A:Type)(eC:A→List Value)(EL:TypeId)(SZ:Nat)(F_swapRangeCmpFunc:FuncId):Prop:=∀ ⦃w0:World⦄ ⦃w:World⦄ ⦃ps:List Piece⦄ ⦃g c N:Nat⦄ ⦃p x m y q:List A⦄ ⦃a b n:Nat⦄ (cmp:Value) (ha:a=p.length) (hb:b=a+x.length+m.length) (hn:n=x.length) (hy:y.length=x.length) (hN:N=(p++x++m++y++q).length) (hNb:N≤1000000) (H:Own w0 w (slc EL SZ (.slice (some ⟨g,0,none⟩) N c) N (rows eC (p++x++m++y++q))::ps)),Calls Tryz.prog F_swapRangeCmpFunc #[.slice (some ⟨g,0,none⟩) N c,.int .i64 a,.int .i64 b,.int .i64 n,cmp] w (Ret fun _ w'=>Own w0 w' (slc EL SZ (.slice (some ⟨g,0,none⟩) N c) N (rows eC (p++y++m++x++q))::ps))
theorem mk_swap_any(A:Type)(eC:A→List Value)(EL:TypeId)(SZ:Nat)(F_swapRangeCmpFunc:FuncId)(h:T_swap_any A eC EL SZ F_swapRangeCmpFunc:=by
 unfold T_swap_any
 intro w0 w ps g c N p x m y q a b n cmp ha hb hn hy hN hNb H
 have hN1:N=a+n+m.length+n+q.length:=by rw [hN];simp only [lJ];omega
 have hbn:b=a+n+m.length:=by omega
 have HX:=jd hn
 have HY:=jd hy
 have HP:=jd ha
 have HB:=jd hbn
 have HN1:=jd hN1
 have hab:a+n≤b:=by omega
 have hbN:b+n≤N:=by omega
 have hNc:N≤c:=by obtain ⟨_,_,e,h1,_⟩:=H.rd.shape;cases e;exact h1
 have hc2:c≤9223372036854775807:=by obtain ⟨_,_,e,_,h1⟩:=H.rd.shape;cases e;exact h1
 clear ha hb hn hy hN hbn hN1
 go_enter fuswapRangeCmpFunc,ntswapRangeCmpFunc
 go_wp2_with fail
 go_loopw [10] (fun s10 wx=>∃ (i:Nat) (x1 x2 y1 y2:List A),i≤n∧s10=.int .i64 i∧Hid (x=x1++x2)∧Hid (y=y1++y2)∧Hid (x1.length=i)∧Hid (y1.length=i)∧Own w0 wx ((sL g N c (p++y1++x2++m++x1++y2++q))::ps)) (fun s10 _=>n-(intOf s10).toNat)
 case atStart=>exact ⟨0,[],x,[],y,by omega,rfl,jd rfl,jd rfl,jd rfl,jd rfl,by simpa using H⟩
 case round=>
  clear H
  obtain ⟨i,x1,x2,y1,y2,hi,rfl,hx,hy,hx1,hy1,H⟩:=hrel
  by_cases hlt:i<n
  ·obtain ⟨u,x3,hx2⟩:∃ u x3,x2=u::x3:=by
    cases x2 with
    | nil=>exfalso;have h1:=hx.out;have h2:=HX.out;have h3:=hx1.out;rw [h1] at h2;simp at h2;omega
    | cons u x3=>exact ⟨u,x3,rfl⟩
   obtain ⟨v,y3,hy2⟩:∃ v y3,y2=v::y3:=by
    cases y2 with
    | nil=>exfalso;have h1:=hy.out;have h2:=HX.out;have h3:=hy1.out;have h4:=HY.out;rw [h1] at h4;simp at h4;omega
    | cons v y3=>exact ⟨v,y3,rfl⟩
   subst hx2 hy2
   have el1:p++y1++u::x3++m++x1++v::y3++q=(p++y1)++u::((x3++m++x1)++v::(y3++q)):=by simp
   rw [el1] at H
   have hia:a+i=(p++y1).length:=by rw [lJ,hy1.out,HP.out]
   have hxl:x.length=i+(x3.length+1):=by rw [hx.out,lJ,hx1.out];simp
   have hib:b+i=(p++y1).length+1+(x3++m++x1).length:=by
    have h1:=HX.out
    have h2:=HB.out
    have h3:=hx1.out
    have h4:=HP.out
    have h5:=hy1.out
    simp only [lJ]
    omega
   have hLn:((p++y1)++u::((x3++m++x1)++v::(y3++q))).length=N:=by
    have h1:=HX.out
    have h2:=HN1.out
    have h3:=hx1.out
    have h4:=HP.out
    have h5:=hy1.out
    have h6:=HY.out
    rw [hy.out] at h6
    simp only [lJ,List.length_cons] at h6 ⊢
    omega
   have hg1:((p++y1)++u::((x3++m++x1)++v::(y3++q)))[a+i]?=some u:=get_mid _ _ _ hia
   have hg2:((p++y1)++u::((x3++m++x1)++v::(y3++q)))[b+i]?=some v:=by
    have:(p++y1)++u::((x3++m++x1)++v::(y3++q))=((p++y1)++u::(x3++m++x1))++v::(y3++q):=by simp
    rw [this]
    exact get_mid _ _ _ (by rw [hib];simp only [lJ,List.length_cons];omega)
   have hsw:=set_swap (p++y1) (x3++m++x1) (y3++q) u v hia hib
   obtain ⟨L,hL⟩:∃ L,Hid ((p++y1)++u::((x3++m++x1)++v::(y3++q))=L):=⟨_,rfl⟩
   rw [hL.out] at H hg1 hg2 hsw hLn
   have HG1:=jd hg1
   have HG2:=jd hg2
   have HLN:=jd hLn
   have e1:=set_rows (l:=L) (i:=(a+i)) (by rw [hLn];omega) v
   have e2:=(set_rows (l:=L.set (a+i) v) (i:=(b+i)) (by rw [List.length_set,hLn];omega) u).trans (show rows eC ((L.set (a+i) v).set (b+i) u)=rows eC (p++(y1++[v])++x3++m++(x1++[u])++y3++q) from by rw [hsw];simp)
   have E1:=jd e1
   have E2:=jd e2
   have hX':Hid (x=(x1++[u])++x3):=jd (by rw [hx.out];simp)
   have hY':Hid (y=(y1++[v])++y3):=jd (by rw [hy.out];simp)
   have hx1':Hid ((x1++[u]).length=i+1):=jd (by rw [lJ,hx1.out];rfl)
   have hy1':Hid ((y1++[v]).length=i+1):=jd (by rw [lJ,hy1.out];rfl)
   have haw:IntKind.i64.wrap ((a:Int)+(i:Int))=(a:Int)+(i:Int):=IntWalk.i64_in _ ⟨by omega,by omega⟩
   have hbw:IntKind.i64.wrap ((b:Int)+(i:Int))=(b:Int)+(i:Int):=IntWalk.i64_in _ ⟨by omega,by omega⟩
   have haT:((a:Int)+(i:Int)).toNat=a+i:=by omega
   have hbT:((b:Int)+(i:Int)).toNat=b+i:=by omega
   have haI:(a:Int)+(i:Int)<(N:Int):=by omega
   have hbI:(b:Int)+(i:Int)<(N:Int):=by omega
   clear hg1 hg2 hsw hLn e1 e2 el1 hia hib hxl hL
   go_upto_region 3 with (fail)
   refine wp_region_pres (fun _ w1=>Own w0 w1 ((sL g N c L)::ps)) 20 [] [4,5,6,7] (by kernel_rfl) (by kernel_rfl) (by kernel_rfl) (by kernel_rfl) (fun _ _ d _ _ h=>by cases d <;> exact h) ⟨_,_,rfl,fun w=>(by first | rfl | (go_simp;rfl)),_,_,rfl,fun w=>(by first | rfl | (go_simp;rfl)),_,_,rfl,fun w=>(by first | rfl | (go_simp;rfl)),_,_,rfl,fun w=>(by first | rfl | (go_simp;rfl)),rfl⟩ H.drew ?_
   simp only [List.take_succ_cons,List.take_zero,List.drop_succ_cons,List.drop_zero]
   repeat
    first
    | (refine calm_value (v:=?_) (by decide) rfl (fun σ w1 hS=>?_) ?_
       rotate_left
       ·obtain ⟨c1,c1'⟩:=el hS.rd HG1.out;obtain ⟨c2,c2'⟩:=el hS.rd HG2.out
        first | (go_simp;rfl) | rfl
       simp only [Act.put,putC])
    | (refine calm_skip (by decide) rfl ?_
       simp only [Act.put,putC])
   refine calm_nil ?_
   intro σ2 wd2 _ H2
   simp only [Jx,List.foldl_nil]
   clear H
   go_wp2_with (first
    | (refine Jf rfl _ _ rfl (i:=a+i) (by first | rfl | (rw [Nat.mul_one];rfl)) H2 (eC v) rfl (by kernel_rfl) rfl (by omega) (e_one v) ?_;clear H2;intro w5 H;rw [E1.out] at H)
    | (refine Jf rfl _ _ rfl (i:=b+i) (by first | rfl | (rw [Nat.mul_one];rfl)) H (eC u) rfl (by kernel_rfl) rfl (by omega) (e_one u) ?_;clear H;intro w6 H;rw [E2.out] at H))
   go_roundw
   case rel=>exact ⟨i+1,x1++[u],x3,y1++[v],y3,by omega,by go_num,hX',hY',hx1',hy1',H⟩
   case measure=>simp [intOf];omega
  ·obtain rfl:i=n:=by omega
   have hx2:x2=[]:=by
    have h1:=HX.out;have h2:=hx1.out
    rw [hx.out,lJ] at h1
    exact eJ (by omega)
   have hy2:y2=[]:=by
    have h1:=HX.out;have h2:=hy1.out;have h3:=HY.out
    rw [hy.out,lJ] at h3
    exact eJ (by omega)
   subst hx2 hy2
   have ex:x1=x:=by rw [hx.out,List.append_nil]
   have ey:y1=y:=by rw [hy.out,List.append_nil]
   have e:p++y1++[]++m++x1++[]++q=p++y++m++x++q:=by rw [ex,ey];simp
   rw [e] at H
   clear e ex ey
   go_wp2
   go_end0
   exact ⟨_,rfl,H⟩):T_swap_any A eC EL SZ F_swapRangeCmpFunc:=h
end Go.Proofs.YthekdeikodppkaaGreatDoor
namespace Go.Proofs.YthekdeikodppkaaGreatDoor
open Go.RowKit
structure Coin where
 w:Int
 pair:Bool
deriving DecidableEq,Inhabited
def ce(x:Coin):List Value:=[.int .i64 x.w,.bool x.pair]
def cval(x:Coin):Value:=.agg #[.int .i64 x.w,.bool x.pair]
namespace SC
theorem e_length(x:Coin):(ce x).length=2:=rfl
theorem e_one(x:Coin):∀ u∈ce x,u.oneCell'=true:=by intro u hu;simp [ce] at hu;rcases hu with rfl | rfl <;> rfl
abbrev Sl(v:Value)(l:List Coin):Piece:=slc 431 2 v l.length (rows ce l)
theorem el{w:World}{b c i n:Nat}{l:List Coin}{x:Coin}(h:Rd w 2 (.slice (some ⟨b,0,none⟩) n c) n (rows ce l))(hx:l[i]?=some x) :
 w.cell? ⟨b,i*2,none⟩=some (.int .i64 x.w)∧w.cell? ⟨b,i*2+1,none⟩=some (.bool x.pair):=by
 have h0:=h.cell ((Jt ce e_length hx 0 (by omega)).trans rfl)
 have h1:=h.cell ((Jt ce e_length hx 1 (by omega)).trans rfl)
 rw [Nat.zero_add] at h0 h1
 exact ⟨h0,h1⟩
theorem set_rows{l:List Coin}{i:Nat}(hi:i<l.length)(y:Coin):(rows ce l).take (i*2)++ce y++(rows ce l).drop (i*2+2)=rows ce (l.set i y):=(rows_set ce e_length hi y).symm
theorem set_swap{α:Type}(u v w:List α)(x y:α){i j:Nat}(hi:i=u.length)(hj:j=u.length+1+v.length) :
 ((u++x::(v++y::w)).set i y).set j x=u++y::(v++x::w):=by
 subst hi hj
 rw [List.set_append_right _ _ (Nat.le_refl _),Nat.sub_self,List.set_cons_zero,List.set_append_right _ _ (by omega),show u.length+1+v.length-u.length=v.length+1 by omega,List.set_cons_succ,List.set_append_right _ _ (Nat.le_refl _),Nat.sub_self,List.set_cons_zero]
theorem get_mid{α:Type}(u w:List α)(x:α){i:Nat}(hi:i=u.length):(u++x::w)[i]?=some x:=by
 subst hi
 rw [List.getElem?_append_right (Nat.le_refl _),Nat.sub_self];rfl
abbrev A:=Coin
abbrev sL(g N c:Nat)(l:List Coin):Piece:=slc 431 2 (.slice (some ⟨g,0,none⟩) N c) N (rows ce l)
open Go.Proofs.Tryz renaming func393 → fuswapRangeCmpFunc, ntmps393 → ntswapRangeCmpFunc
open Go.Proofs.YthekdeikodppkaaGreatDoor renaming ce → eC
section
variable {w0 w:World} {ps:List Piece}
set_option maxRecDepth 100000 in
set_option maxHeartbeats 3200000 in
def swap_any:=mk_swap_any Coin ce 431 2 393
end
end SC
def sumF{α:Type}(f:α→Int):List α→Int
 | []=>0
 | x::t=>f x+sumF f t
section
variable {α β:Type} {f g:α→Int}
theorem Je(x:α)(t:List α):sumF f (x::t)=f x+sumF f t:=rfl
theorem sumF_append(a b:List α):sumF f (a++b)=sumF f a+sumF f b:=by
 induction a with
 | nil=>simp [sumF]
 | cons x t ih=>rw [List.cons_append,Je,Je,ih];omega
theorem sumF_perm{a b:List α}(h:a.Perm b):sumF f a=sumF f b:=by
 induction h with
 | nil=>rfl
 | cons x _ ih=>rw [Je,Je,ih]
 | swap x y l=>simp only [Je];omega
 | trans _ _ h1 h2=>exact h1.trans h2
theorem sumF_congr{l:List α}(h:∀ x∈l,f x=g x):sumF f l=sumF g l:=by
 induction l with
 | nil=>rfl
 | cons x t ih=>rw [Je,Je,h x (by simp),ih fun y hy=>h y (by simp [hy])]
theorem sumF_map(m:β→α)(l:List β):sumF f (l.map m)=sumF (fun x=>f (m x)) l:=by
 induction l with
 | nil=>rfl
 | cons x t ih=>rw [List.map_cons,Je,Je,ih]
theorem sumF_nonneg{l:List α}(h:∀ x∈l,0≤f x):0≤sumF f l:=by
 induction l with
 | nil=>exact Int.le_refl _
 | cons x t ih=>
  rw [Je]
  have:=h x (by simp)
  have:=ih fun y hy=>h y (by simp [hy])
  omega
theorem sumF_filter(p:α→Bool)(l:List α):sumF f l=sumF f (l.filter p)+sumF f (l.filter fun x=>!p x):=by
 induction l with
 | nil=>rfl
 | cons x t ih=>
  rw [Je,ih,List.filter_cons,List.filter_cons]
  cases p x <;> simp [Je] <;> omega
theorem sumF_const(c:Int)(l:List α):sumF (fun _=>c) l=l.length*c:=by
 induction l with
 | nil=>simp [sumF]
 | cons x t ih=>rw [Je,ih,List.length_cons,Int.natCast_add,Int.add_mul];simp;omega
end
section
variable {α:Type} {key:α→Int}
end
def Ji:List Coin→List Coin
 | a::b::t=>⟨a.w+b.w,true⟩::Ji t
 | _=>[]
def rowF(base ahead:List Coin):List Coin:=sortF Coin.w (base++Ji ahead)
def rowsF(base:List Coin):Nat→List Coin
 | 0=>base
 | i+1=>rowF base (rowsF base i)
def npF(l:List Coin)(n:Nat):Nat:=(l.take n).countP fun c=>c.pair
def cntF(base:List Coin):Nat→Nat→List Nat
 | 0,n=>[n-npF (rowsF base 0) n]
 | i+1,n=>(n-npF (rowsF base (i+1)) n)::cntF base i (2*npF (rowsF base (i+1)) n)
theorem pairsF_length:∀ l:List Coin,(Ji l).length=l.length/2
 | []=>rfl
 | [_]=>by simp [Ji]
 | a::b::t=>by rw [Ji,List.length_cons,pairsF_length t];simp only [List.length_cons];omega
theorem pairsF_pair:∀ (l:List Coin) (c:Coin),c∈Ji l→c.pair=true
 | [],_,h=>by simp [Ji] at h
 | [_],_,h=>by simp [Ji] at h
 | a::b::t,c,h=>by
  rw [Ji] at h
  rcases List.mem_cons.1 h with rfl | h
  ·rfl
  ·exact pairsF_pair t c h
theorem pairsF_ge:∀ (l:List Coin) (m:Int),(∀ c∈l,m≤c.w)→∀ c∈Ji l,m+m≤c.w
 | [],_,_,_,h=>by simp [Ji] at h
 | [_],_,_,_,h=>by simp [Ji] at h
 | a::b::t,m,hm,c,h=>by
  rw [Ji] at h
  rcases List.mem_cons.1 h with rfl | h
  ·have:=hm a (by simp)
   have:=hm b (by simp)
   show m+m≤a.w+b.w
   omega
  ·exact pairsF_ge t m (fun c hc=>hm c (by simp [hc])) c h
theorem pairsF_le:∀ (l:List Coin) (m:Int),(∀ c∈l,c.w≤m)→∀ c∈Ji l,c.w≤m+m
 | [],_,_,_,h=>by simp [Ji] at h
 | [_],_,_,_,h=>by simp [Ji] at h
 | a::b::t,m,hm,c,h=>by
  rw [Ji] at h
  rcases List.mem_cons.1 h with rfl | h
  ·have:=hm a (by simp)
   have:=hm b (by simp)
   show a.w+b.w≤m+m
   omega
  ·exact pairsF_le t m (fun c hc=>hm c (by simp [hc])) c h
theorem pairsF_srt:∀ l:List Coin,Srt Coin.w l→Srt Coin.w (Ji l)
 | [],_=>by simp [Ji,Srt]
 | [_],_=>by simp [Ji,Srt]
 | a::b::t,h=>by
  rw [Ji]
  have h1:∀ x∈t,a.w≤x.w:=fun x hx=>(List.pairwise_cons.1 h).1 x (by simp [hx])
  have h2:∀ x∈t,b.w≤x.w:=fun x hx=>(List.pairwise_cons.1 (List.pairwise_cons.1 h).2).1 x hx
  have h0:a.w≤b.w:=(List.pairwise_cons.1 h).1 b (by simp)
  refine List.pairwise_cons.2 ⟨fun c hc=>?_,pairsF_srt t (List.pairwise_cons.1 (List.pairwise_cons.1 h).2).2⟩
  have:=pairsF_ge t b.w h2 c hc
  show a.w+b.w≤c.w
  omega
structure Base (base:List Coin):Prop where
 single:∀ c∈base,c.pair=false
 srt:Srt Coin.w base
 pos:∀ c∈base,1≤c.w
theorem StEq.filter{α:Type}{key:α→Int}{l m:List α}(h:StEq key l m)(p:α→Bool):StEq key (l.filter p) (m.filter p):=fun k=>by
 rw [List.filter_filter,List.filter_filter]
 have:=congrArg (List.filter p) (h k)
 rw [List.filter_filter,List.filter_filter] at this
 simpa [Bool.and_comm] using this
section
variable {base:List Coin} (hb:Base base)
theorem rowF_srt(base a:List Coin):Srt Coin.w (rowF base a):=(Zo _).1
theorem rowF_perm(base a:List Coin):(base++Ji a).Perm (rowF base a):=(Zo _).2.perm
include hb
theorem rowsF_srt(i:Nat):Srt Coin.w (rowsF base i):=by
 cases i with
 | zero=>exact hb.srt
 | succ i=>exact rowF_srt _ _
theorem rowF_pairs(a:List Coin)(ha:Srt Coin.w a):(rowF base a).filter (fun c=>c.pair)=Ji a:=by
 have h1:=(Zo (key:=Coin.w) (base++Ji a)).2.filter (fun c=>c.pair)
 have e:(base++Ji a).filter (fun c=>c.pair)=Ji a:=by
  rw [List.filter_append,List.filter_eq_nil_iff.2 (fun c hc=>by simp [hb.single c hc]),List.nil_append,List.filter_eq_self.2 (fun c hc=>pairsF_pair a c hc)]
 rw [e] at h1
 exact (StEq.unique (pairsF_srt a ha) ((rowF_srt base a).filter _) h1).symm
theorem rowF_singles(a:List Coin):(rowF base a).filter (fun c=>!c.pair)=base:=by
 have h1:=(Zo (key:=Coin.w) (base++Ji a)).2.filter (fun c=>!c.pair)
 have e:(base++Ji a).filter (fun c=>!c.pair)=base:=by
  rw [List.filter_append,List.filter_eq_self.2 (fun c hc=>by simp [hb.single c hc]),List.filter_eq_nil_iff.2 (fun c hc=>by simp [pairsF_pair a c hc]),List.append_nil]
 rw [e] at h1
 exact (StEq.unique hb.srt ((rowF_srt base a).filter _) h1).symm
theorem rowsF_singles(i:Nat):(rowsF base i).filter (fun c=>!c.pair)=base:=by
 cases i with
 | zero=>exact List.filter_eq_self.2 (fun c hc=>by simp [hb.single c hc])
 | succ i=>exact rowF_singles hb _
theorem rowsF_zero_np(n:Nat):npF (rowsF base 0) n=0:=by
 unfold npF
 rw [List.countP_eq_zero]
 intro c hc
 simp [hb.single c (List.mem_of_mem_take hc)]
theorem rowsF_pos(i:Nat):∀ c∈rowsF base i,1≤c.w:=by
 induction i with
 | zero=>exact hb.pos
 | succ i ih=>
  intro c hc
  rcases List.mem_append.1 ((rowF_perm base _).symm.subset hc) with h | h
  ·exact hb.pos c h
  ·have:=pairsF_ge _ 1 ih c h;omega
omit hb
theorem rowsF_le(i:Nat)(m:Int)(hm:0≤m)(h:∀ c∈base,c.w≤m):∀ c∈rowsF base i,c.w≤2^i*m:=by
 induction i with
 | zero=>intro c hc;have:=h c hc;simpa using this
 | succ i ih=>
  intro c hc
  have e:(2:Int)^(i+1)*m=2^i*m+2^i*m:=by rw [Int.pow_succ,Int.mul_comm (2^i) 2,Int.mul_assoc];omega
  rcases List.mem_append.1 ((rowF_perm base _).symm.subset hc) with h1 | h1
  ·have h2:=h c h1
   have h3:(1:Int)≤2^(i+1):=by
    have:(0:Int)<2^(i+1):=Int.pow_pos (by omega)
    omega
   have:=Int.mul_le_mul_of_nonneg_right h3 hm
   omega
  ·rw [e]
   exact pairsF_le _ _ ih c h1
theorem rowsF_length(i:Nat):(rowsF base (i+1)).length=base.length+(rowsF base i).length/2:=by
 show (rowF base (rowsF base i)).length=_
 rw [← (rowF_perm base _).length_eq,lJ,pairsF_length]
theorem rowsF_enough(i:Nat):base.length≤2^(i+1)→2*base.length≤(rowsF base i).length+2:=by
 have key:∀ i,(2*base.length-(rowsF base i).length)*2^i<base.length+2^i:=by
  intro i
  induction i with
  | zero=>simp [rowsF];omega
  | succ i ih=>
   rw [rowsF_length,Nat.pow_succ]
   have e:2*base.length-(base.length+(rowsF base i).length/2)≤(2*base.length-(rowsF base i).length+1)/2:=by omega
   have h1:(2*base.length-(base.length+(rowsF base i).length/2))*2≤2*base.length-(rowsF base i).length+1:=by omega
   have h2:=Nat.mul_le_mul_right (2^i) h1
   rw [Nat.add_mul,Nat.one_mul] at h2
   have h3:(2*base.length-(base.length+(rowsF base i).length/2))*(2^i*2)=(2*base.length-(base.length+(rowsF base i).length/2))*2*2^i:=by
    rw [Nat.mul_assoc,Nat.mul_comm 2 (2^i)]
   omega
 intro h
 have h1:=key i
 rw [Nat.pow_succ] at h
 have hp:0<2^i:=Nat.pow_pos (by omega)
 rcases Nat.lt_or_ge (2*base.length-(rowsF base i).length) 3 with h2 | h2
 ·omega
 ·have:=Nat.mul_le_mul_right (2^i) h2
  omega
theorem npF_le(l:List Coin)(n:Nat):npF l n≤n:=by
 unfold npF
 exact Nat.le_trans List.countP_le_length (by rw [List.length_take];omega)
theorem take_filter{α:Type}(l:List α)(n:Nat)(q:α→Bool):(l.take n).filter q=(l.filter q).take ((l.take n).countP q):=by
 have e:l.filter q=(l.take n).filter q++(l.drop n).filter q:=by rw [← List.filter_append,List.take_append_drop]
 rw [e,List.countP_eq_length_filter,List.take_left]
include hb
theorem np_pairs(i n:Nat):npF (rowsF base (i+1)) n≤(Ji (rowsF base i)).length∧((rowsF base (i+1)).take n).filter (fun c=>c.pair)=(Ji (rowsF base i)).take (npF (rowsF base (i+1)) n):=by
 have e:=take_filter (rowsF base (i+1)) n (fun c=>c.pair)
 have e2:(rowsF base (i+1)).filter (fun c=>c.pair)=Ji (rowsF base i):=rowF_pairs hb _ (rowsF_srt hb i)
 rw [e2] at e
 refine ⟨?_,e⟩
 rw [← e2,← List.countP_eq_length_filter]
 exact (List.take_sublist n (rowsF base (i+1))).countP_le
theorem np_two(i n:Nat):2*npF (rowsF base (i+1)) n≤(rowsF base i).length:=by
 have:=(np_pairs hb i n).1
 rw [pairsF_length] at this
 omega
theorem ns_singles(i n:Nat)(hn:n≤(rowsF base i).length):n-npF (rowsF base i) n≤base.length∧((rowsF base i).take n).filter (fun c=>!c.pair)=base.take (n-npF (rowsF base i) n):=by
 have e:=take_filter (rowsF base i) n (fun c=>!c.pair)
 rw [rowsF_singles hb] at e
 have hc:((rowsF base i).take n).countP (fun c=>!c.pair)=n-npF (rowsF base i) n:=by
  have h:=List.length_eq_countP_add_countP (fun c:Coin=>c.pair) (l:=(rowsF base i).take n)
  rw [List.length_take,Nat.min_eq_left hn] at h
  have h2:((rowsF base i).take n).countP (fun c=>!c.pair)=((rowsF base i).take n).countP (fun c=>decide (¬ c.pair=true)):=by
   congr 1;funext c;cases c.pair <;> rfl
  rw [h2]
  unfold npF
  omega
 rw [hc] at e
 refine ⟨?_,e⟩
 rw [← hc]
 have h3:=(List.take_sublist n (rowsF base i)).countP_le (p:=fun c=>!c.pair)
 rw [List.countP_eq_length_filter (l:=rowsF base i),rowsF_singles hb] at h3
 exact h3
theorem ns_falls(i n m:Nat)(hn:n≤(rowsF base (i+1)).length)(hm:m=2*npF (rowsF base (i+1)) n) :
 m-npF (rowsF base i) m≤n-npF (rowsF base (i+1)) n:=by
 subst hm
 have hs1:=ns_singles hb (i+1) n hn
 have hs0:=ns_singles hb i _ (np_two hb i n)
 have hp:=np_pairs hb i n
 obtain ⟨P,hP⟩:∃ P,P=npF (rowsF base (i+1)) n:=⟨_,rfl⟩
 obtain ⟨s1,h1⟩:∃ s,s=n-P:=⟨_,rfl⟩
 obtain ⟨s0,h0⟩:∃ s,s=2*P-npF (rowsF base i) (2*P):=⟨_,rfl⟩
 rw [← hP] at hs1 hs0 hp ⊢
 rw [← h1] at hs1 ⊢
 rw [← h0] at hs0 ⊢
 refine Nat.le_of_not_lt fun hlt=>?_
 have hk:s1<base.length:=by omega
 have hin:base[s1]∈(rowsF base i).take (2*P):=by
  have:base[s1]∈((rowsF base i).take (2*P)).filter (fun c=>!c.pair):=by
   rw [hs0.2]
   exact List.mem_take_iff_getElem.2 ⟨s1,by omega,rfl⟩
  exact (List.mem_filter.1 this).1
 have hpair:∀ (l:List Coin) (P:Nat) (c:Coin),(∀ c∈l,1≤c.w)→2*P≤l.length→c∈l.take (2*P)→∃ d∈(Ji l).take P,c.w<d.w:=by
  intro l
  induction l using Ji.induct with
  | case1 a b t ih=>
   intro P c hpos hl hc
   cases P with
   | zero=>simp at hc
   | succ P=>
    have e:2*(P+1)=2*P+1+1:=by omega
    rw [e,List.take_succ_cons,List.take_succ_cons] at hc
    rw [Ji,List.take_succ_cons]
    have ha:=hpos a (by simp)
    have hb:=hpos b (by simp)
    rcases List.mem_cons.1 hc with rfl | hc
    ·exact ⟨_,List.mem_cons_self,by show c.w<c.w+b.w;omega⟩
    ·rcases List.mem_cons.1 hc with rfl | hc
     ·exact ⟨_,List.mem_cons_self,by show c.w<a.w+c.w;omega⟩
     ·obtain ⟨d,hd,hlt⟩:=ih P c (fun c hc=>hpos c (by simp [hc])) (by simp at hl;omega) hc
      exact ⟨d,List.mem_cons_of_mem _ hd,hlt⟩
  | case2 l h=>
   intro P c _ hl hc
   have:P=0:=by
    match l,h with
    | [],_=>simp at hl;omega
    | [_],_=>simp at hl;omega
    | a::b::t,h=>exact absurd rfl (h a b t)
   subst this
   simp at hc
 obtain ⟨d,hd,hlt2⟩:=hpair (rowsF base i) P base[s1] (rowsF_pos hb i) (by rw [hP];exact np_two hb i n) hin
 rw [← hp.2] at hd
 have hd':=(List.mem_filter.1 hd).1
 have hall:base[s1]∈(rowsF base (i+1)).take n:=by
  have hmem:base[s1]∈rowsF base (i+1):=by
   have:base[s1]∈(rowsF base (i+1)).filter (fun c=>!c.pair):=by rw [rowsF_singles hb];exact List.getElem_mem _
   exact (List.mem_filter.1 this).1
  have hsp:=List.take_append_drop n (rowsF base (i+1))
  rw [← hsp] at hmem
  rcases List.mem_append.1 hmem with h | h
  ·exact h
  ·exfalso
   have:=(by rw [hsp];exact rowsF_srt hb (i+1):Srt Coin.w ((rowsF base (i+1)).take n++(rowsF base (i+1)).drop n)).across d hd' _ h
   omega
 have:base[s1]∈((rowsF base (i+1)).take n).filter (fun c=>!c.pair):=List.mem_filter.2 ⟨hall,by simp [hb.single _ (List.getElem_mem hk)]⟩
 rw [hs1.2] at this
 have hcount:(base.take (s1+1)).length≤s1:=by
  have hsub:∀ c∈base.take (s1+1),c.w≤base[s1].w:=by
   intro c hc
   obtain ⟨j,hj,rfl⟩:=List.getElem_of_mem hc
   rw [List.length_take] at hj
   rw [List.getElem_take]
   rcases Nat.lt_or_ge j s1 with h | h
   ·exact List.pairwise_iff_getElem.1 hb.srt j s1 (by omega) hk h
   ·have:j=s1:=by omega
    subst this;exact Int.le_refl _
  have hpre:(base.take (s1+1)).countP (fun c=>decide (c.w<d.w))=s1+1:=by
   rw [List.countP_eq_length.2 (fun c hc=>by have:=hsub c hc;simp;omega),List.length_take];omega
  have hle:base.countP (fun c=>decide (c.w<d.w))≤s1:=by
   have e1:base.countP (fun c=>decide (c.w<d.w))=(((rowsF base (i+1)).filter (fun c=>!c.pair))).countP (fun c=>decide (c.w<d.w)):=by rw [rowsF_singles hb]
   have e2:((rowsF base (i+1)).drop n).countP (fun c=>decide (c.w<d.w))=0:=by
    rw [List.countP_eq_zero]
    intro c hc
    have hsp:=List.take_append_drop n (rowsF base (i+1))
    have:=(by rw [hsp];exact rowsF_srt hb (i+1):Srt Coin.w ((rowsF base (i+1)).take n++(rowsF base (i+1)).drop n)).across d hd' _ hc
    simp;omega
   rw [e1,← List.take_append_drop n (rowsF base (i+1)),List.filter_append,List.countP_append,hs1.2]
   have e3:(((rowsF base (i+1)).drop n).filter (fun c=>!c.pair)).countP (fun c=>decide (c.w<d.w))=0:=by
    rw [List.countP_eq_zero] at e2 ⊢
    intro c hc
    exact e2 c (List.mem_filter.1 hc).1
   rw [e3]
   have:=List.countP_le_length (p:=fun c:Coin=>decide (c.w<d.w)) (l:=base.take s1)
   rw [List.length_take] at this
   omega
  have:=(List.take_sublist (s1+1) base).countP_le (p:=fun c:Coin=>decide (c.w<d.w))
  omega
 rw [List.length_take] at hcount
 omega
end
section
variable {base:List Coin} (hb:Base base)
def worthF(C:Nat→List Coin):Nat→Nat
 | 0=>(C 0).length
 | i+1=>worthF C i+(C (i+1)).length*2^(i+1)
def weighF(C:Nat→List Coin):Nat→Int
 | 0=>sumF Coin.w (C 0)
 | i+1=>weighF C i+sumF Coin.w (C (i+1))
include hb
omit hb in
theorem cntF_length(i n:Nat):(cntF base i n).length=i+1:=by
 induction i generalizing n with
 | zero=>rfl
 | succ i ih=>rw [cntF,List.length_cons,ih]
omit hb in
theorem cntF_head(i n:Nat):∃ t,cntF base i n=(n-npF (rowsF base i) n)::t:=by
 cases i with
 | zero=>exact ⟨[],rfl⟩
 | succ i=>exact ⟨_,rfl⟩
theorem cntF_le(i:Nat):∀ n,n≤(rowsF base i).length→∀ s∈cntF base i n,s≤base.length:=by
 induction i with
 | zero=>
  intro n hn s hs
  simp only [cntF,List.mem_singleton] at hs
  subst hs
  exact (ns_singles hb 0 n hn).1
 | succ i ih=>
  intro n hn s hs
  rw [cntF] at hs
  rcases List.mem_cons.1 hs with rfl | hs
  ·exact (ns_singles hb (i+1) n hn).1
  ·exact ih _ (np_two hb i n) s hs
theorem cntF_falls(i:Nat):∀ n,n≤(rowsF base i).length→(cntF base i n).Pairwise (fun a b=>b≤a):=by
 induction i with
 | zero=>intro n _;simp [cntF]
 | succ i ih=>
  intro n hn
  have h:=ih _ (np_two hb i n)
  rw [cntF]
  refine List.pairwise_cons.2 ⟨fun b hb'=>?_,h⟩
  have hf:=ns_falls hb i n _ hn rfl
  obtain ⟨t,ht⟩:=cntF_head (base:=base) i (2*npF (rowsF base (i+1)) n)
  rw [ht] at h hb'
  rcases List.mem_cons.1 hb' with rfl | hb'
  ·exact hf
  ·exact Nat.le_trans ((List.pairwise_cons.1 h).1 b hb') hf
theorem cntF_all(i:Nat)(h2:2≤base.length):∀ n,n≤(rowsF base i).length→2*base.length≤n+2→n-npF (rowsF base i) n=base.length:=by
 induction i with
 | zero=>
  intro n hn h
  have h1:=(ns_singles hb 0 n hn).1
  rw [rowsF_zero_np hb] at h1 ⊢
  omega
 | succ i ih=>
  intro n hn h
  have h1:=(ns_singles hb (i+1) n hn).1
  have hf:=ns_falls hb i n _ hn rfl
  have h3:=npF_le (rowsF base (i+1)) n
  rcases Nat.lt_or_ge (n-npF (rowsF base (i+1)) n) base.length with hlt | hge
  ·have:=ih _ (np_two hb i n) (by omega)
   omega
  ·omega
omit hb in
def krF:List Nat→Nat
 | []=>0
 | s::t=>s*2^t.length+krF t
theorem krF_cnt(i:Nat):∀ n,krF (cntF base i n)=n*2^i:=by
 induction i with
 | zero=>intro n;rw [cntF,rowsF_zero_np hb];simp [krF]
 | succ i ih=>
  intro n
  have h:=npF_le (rowsF base (i+1)) n
  rw [cntF,krF,ih,cntF_length,Nat.mul_comm 2,Nat.mul_assoc,Nat.mul_comm 2,← Nat.pow_succ,← Nat.add_mul,Nat.sub_add_cancel h]
end
def addF(s:Nat)(ls:List Nat):List Nat:=(ls.take s).map (· + 1)++ls.drop s
def lensF(cs:List Nat)(ls:List Nat):List Nat:=cs.foldl (fun ls s=>addF s ls) ls
theorem addF_length(s:Nat)(ls:List Nat):(addF s ls).length=ls.length:=by
 unfold addF
 rw [lJ,List.length_map,List.length_take,List.length_drop];omega
theorem addF_get(s:Nat)(ls:List Nat)(k:Nat):(addF s ls).getD k 0=if k<s∧k<ls.length then ls.getD k 0+1 else ls.getD k 0:=by
 unfold addF
 simp only [List.getD_eq_getElem?_getD]
 by_cases h:k<s∧k<ls.length
 ·rw [if_pos h,List.getElem?_append_left (by simp;omega),List.getElem?_map,List.getElem?_take,if_pos h.1,List.getElem?_eq_getElem h.2]
  rfl
 ·rw [if_neg h]
  rcases Nat.lt_or_ge k ls.length with h1 | h1
  ·rw [List.getElem?_append_right (by simp;omega),List.length_map,List.length_take,List.getElem?_drop]
   congr 2;omega
  ·rw [List.getElem?_eq_none (by simp;omega),List.getElem?_eq_none h1]
def kwF(ls:List Nat):Int:=sumF (fun l=>(2:Int)^(15-l)) ls
theorem kw_addF{s t:Nat}{ls:List Nat}(hs:s≤ls.length)(h:∀ k,k<s→ls.getD k 0=t)(ht:t+1≤15):kwF (addF s ls)=kwF ls-s*2^(14-t):=by
 have e:kwF ls=kwF (ls.take s)+kwF (ls.drop s):=by
  unfold kwF
  rw [← sumF_append,List.take_append_drop]
 have hall:∀ l∈ls.take s,l=t:=by
  intro l hl
  obtain ⟨k,hk,rfl⟩:=List.getElem_of_mem hl
  rw [List.length_take] at hk
  have:=h k (by omega)
  rw [List.getD_eq_getElem?_getD,List.getElem?_eq_getElem (by omega)] at this
  rw [List.getElem_take]
  exact this
 have e1:kwF (ls.take s)=s*2^(15-t):=by
  unfold kwF
  rw [sumF_congr (g:=fun _=>(2:Int)^(15-t)) (fun l hl=>by rw [hall l hl]),sumF_const,List.length_take,Nat.min_eq_left hs]
 have e2:kwF ((ls.take s).map (· + 1))=s*2^(14-t):=by
  unfold kwF
  rw [sumF_map,sumF_congr (g:=fun _=>(2:Int)^(14-t)) (fun l hl=>by rw [hall l hl,show 15-(t+1)=14-t by omega]),sumF_const,List.length_take,Nat.min_eq_left hs]
 have e3:(2:Int)^(15-t)=2^(14-t)+2^(14-t):=by
  rw [show 15-t=(14-t)+1 by omega,Int.pow_succ];omega
 unfold addF
 rw [show kwF ((ls.take s).map (· + 1)++ls.drop s)=kwF ((ls.take s).map (· + 1))+kwF (ls.drop s) from sumF_append _ _,e2,e,e1,e3,Int.mul_add]
 omega
theorem kw_lensF(cs:List Nat):∀ (t:Nat) (ls:List Nat),cs.Pairwise (fun a b=>b≤a)→(∀ s∈cs,s≤ls.length)→(∀ s∈cs,∀ k,k<s→ls.getD k 0=t)→t+cs.length≤15 →
 kwF (lensF cs ls)=kwF ls-krF cs*2^(15-t-cs.length):=by
 induction cs with
 | nil=>intro t ls _ _ _ _;simp [lensF,krF]
 | cons s cs ih=>
  intro t ls hp hle heq ht
  simp only [List.length_cons] at ht
  show kwF (lensF cs (addF s ls))=_
  rw [ih (t+1) (addF s ls) (List.pairwise_cons.1 hp).2 (fun x hx=>by rw [addF_length];exact hle x (by simp [hx])) (fun x hx k hk=>?_) (by omega),kw_addF (hle s (by simp)) (heq s (by simp)) (by omega),krF,List.length_cons]
  ·have e:(2:Int)^(14-t)=2^cs.length*2^(15-t-(cs.length+1)):=by
    rw [← Int.pow_add];congr 1;omega
   have e2:15-(t+1)-cs.length=15-t-(cs.length+1):=by omega
   rw [e2,e]
   simp only [Int.natCast_add,Int.natCast_mul,Int.natCast_pow,Int.add_mul,Int.mul_assoc,Int.cast_ofNat_Int]
   omega
  ·have h1:=(List.pairwise_cons.1 hp).1 x hx
   rw [addF_get,if_pos ⟨by omega,by have:=hle x (by simp [hx]);omega⟩,heq s (by simp) k (by omega)]
theorem lensF_le(cs:List Nat):∀ ls k,(lensF cs ls).getD k 0≤ls.getD k 0+cs.length:=by
 induction cs with
 | nil=>intro ls k;exact Nat.le_refl _
 | cons s cs ih=>
  intro ls k
  have:=ih (addF s ls) k
  show (lensF cs (addF s ls)).getD k 0≤_
  rw [addF_get] at this
  rw [List.length_cons]
  split at this <;> omega
theorem lensF_ge(cs:List Nat):∀ ls k,ls.getD k 0≤(lensF cs ls).getD k 0:=by
 induction cs with
 | nil=>intro ls k;exact Nat.le_refl _
 | cons s cs ih=>
  intro ls k
  have:=ih (addF s ls) k
  show _≤(lensF cs (addF s ls)).getD k 0
  rw [addF_get] at this
  split at this <;> omega
theorem rep_zero(n k:Nat):(List.replicate n 0).getD k 0=0:=by
 rw [List.getD_eq_getElem?_getD]
 rcases Nat.lt_or_ge k n with h | h
 ·rw [List.getElem?_replicate,if_pos h];rfl
 ·rw [List.getElem?_replicate,if_neg (by omega)];rfl
theorem whole{base:List Coin}(hb:Base base)(L:Nat)(h2:2≤base.length)(hL:1≤L∧L≤15)(hN:base.length≤2^L) :
 kwF (lensF (cntF base (L-1) (2*base.length-2)) (List.replicate base.length 0))=2^15 ∧
 ∀ k,k<base.length→1≤(lensF (cntF base (L-1) (2*base.length-2)) (List.replicate base.length 0)).getD k 0∧(lensF (cntF base (L-1) (2*base.length-2)) (List.replicate base.length 0)).getD k 0≤L:=by
 obtain ⟨i,rfl⟩:∃ i,L=i+1:=⟨L-1,by omega⟩
 rw [Nat.add_sub_cancel]
 have hn:2*base.length-2≤(rowsF base i).length:=by have:=rowsF_enough (base:=base) i hN;omega
 refine ⟨?_,fun k hk=>?_⟩
 ·rw [kw_lensF _ 0 _ (cntF_falls hb i _ hn) (fun s hs=>by rw [List.length_replicate];exact cntF_le hb i _ hn s hs) (fun s hs k _=>rep_zero _ _) (by rw [cntF_length];omega),krF_cnt hb,cntF_length]
  have e:kwF (List.replicate base.length 0)=base.length*2^15:=by
   unfold kwF
   rw [sumF_congr (g:=fun _=>(2:Int)^15) (fun l hl=>by rw [(List.mem_replicate.1 hl).2]),sumF_const,List.length_replicate]
  rw [e]
  have e2:(((2*base.length-2)*2^i:Nat):Int)*2^(15-0-(i+1))=((2*base.length-2:Nat):Int)*2^14:=by
   rw [Int.natCast_mul,Int.mul_assoc,Int.natCast_pow,show ((2:Nat):Int)=2 by rfl,← Int.pow_add]
   congr 2;omega
  rw [e2]
  have:((2*base.length-2:Nat):Int)=2*base.length-2:=by omega
  rw [this]
  omega
 ·obtain ⟨t,ht⟩:=cntF_head (base:=base) i (2*base.length-2)
  constructor
  ·rw [ht,cntF_all hb i h2 _ hn (by omega)]
   have:=lensF_ge t (addF base.length (List.replicate base.length 0)) k
   rw [addF_get,if_pos ⟨hk,by simpa using hk⟩] at this
   show 1≤(lensF t (addF base.length (List.replicate base.length 0))).getD k 0
   omega
  ·have:=lensF_le (cntF base i (2*base.length-2)) (List.replicate base.length 0) k
   rw [cntF_length,rep_zero] at this
   omega
def frq(F:List Int)(x:Int):Int:=F.getD x.toNat 0
def usedN(F:List Int):Nat→List Int
 | 0=>[]
 | k+1=>if 0<F.getD k 0 then usedN F k++[(k:Int)] else usedN F k
def usedF(F:List Int):List Int:=usedN F F.length
def symsF(F:List Int):List Int:=sortF (frq F) (usedF F)
def coinOf(F:List Int)(s:Int):Coin:=⟨frq F s,false⟩
def baseF(F:List Int):List Coin:=(symsF F).map (coinOf F)
def bump1(o:List Int)(s:Int):List Int:=o.set s.toNat (o.getD s.toNat 0+1)
def bumpF(o:List Int)(l:List Int):List Int:=l.foldl bump1 o
def Qm(n:Nat):List Int:=List.replicate n 0
def outF(syms:List Int)(cs:List Nat)(o:List Int):List Int:=cs.foldl (fun o c=>bumpF o (syms.take c)) o
def Zz(F:List Int)(L:Nat):List Int:=
 if (symsF F).length<2 then bumpF (Qm F.length) (symsF F)
 else outF (symsF F) (cntF (baseF F) (L-1) (2*(symsF F).length-2)) (Qm F.length)
section
variable (F:List Int)
theorem usedN_mem(k:Nat):∀ x,x∈usedN F k↔∃ s:Nat,x=s∧s<k∧0<F.getD s 0:=by
 induction k with
 | zero=>intro x;simp [usedN]
 | succ k ih=>
  intro x
  rw [usedN]
  split
  ·next h=>
   rw [List.mem_append,List.mem_singleton,ih]
   constructor
   ·rintro (⟨s,rfl,h1,h2⟩ | rfl)
    ·exact ⟨s,rfl,by omega,h2⟩
    ·exact ⟨k,rfl,by omega,h⟩
   ·rintro ⟨s,rfl,h1,h2⟩
    rcases Nat.lt_or_ge s k with h3 | h3
    ·exact .inl ⟨s,rfl,h3,h2⟩
    ·right;congr 1;omega
  ·next h=>
   rw [ih]
   constructor
   ·rintro ⟨s,rfl,h1,h2⟩
    exact ⟨s,rfl,by omega,h2⟩
   ·rintro ⟨s,rfl,h1,h2⟩
    refine ⟨s,rfl,?_,h2⟩
    rcases Nat.lt_or_ge s k with h3 | h3
    ·exact h3
    ·have:s=k:=by omega
     subst this;exact absurd h2 h
theorem usedN_nodup(k:Nat):(usedN F k).Nodup:=by
 induction k with
 | zero=>simp [usedN]
 | succ k ih=>
  rw [usedN]
  split
  ·rw [List.nodup_append]
   refine ⟨ih,by simp,fun a ha b hb'=>?_⟩
   rw [usedN_mem] at ha
   obtain ⟨s,rfl,h1,_⟩:=ha
   rw [List.mem_singleton] at hb'
   subst hb'
   omega
  ·exact ih
theorem usedN_length(k:Nat):(usedN F k).length≤k:=by
 induction k with
 | zero=>simp [usedN]
 | succ k ih=>
  rw [usedN]
  split
  ·rw [lJ];simp;omega
  ·omega
theorem syms_perm:(usedF F).Perm (symsF F):=(Zo _).2.perm
theorem syms_srt:Srt (frq F) (symsF F):=(Zo _).1
theorem syms_mem(x:Int):x∈symsF F↔∃ s:Nat,x=s∧s<F.length∧0<F.getD s 0:=by
 rw [← (syms_perm F).mem_iff]
 exact usedN_mem F _ x
theorem syms_nodup:(symsF F).Nodup:=(syms_perm F).nodup_iff.1 (usedN_nodup F _)
theorem syms_length:(symsF F).length=(usedF F).length:=(syms_perm F).length_eq.symm
theorem Vb:(baseF F).length=(symsF F).length:=by unfold baseF;simp
theorem base_law:Base (baseF F):=by
 refine ⟨?_,?_,?_⟩
 ·intro c hc
  obtain ⟨s,_,rfl⟩:=List.mem_map.1 hc
  rfl
 ·exact List.pairwise_map.2 (syms_srt F)
 ·intro c hc
  obtain ⟨s,hs,rfl⟩:=List.mem_map.1 hc
  obtain ⟨n,rfl,_,h⟩:=(syms_mem F s).1 hs
  show 1≤F.getD (Int.toNat n) 0
  rw [Int.toNat_natCast]
  omega
end
theorem bump1_length(o:List Int)(s:Int):(bump1 o s).length=o.length:=by simp [bump1]
theorem Jl(l:List Int):∀ o,(bumpF o l).length=o.length:=by
 induction l with
 | nil=>intro _;rfl
 | cons s t ih=>intro o;show (bumpF (bump1 o s) t).length=_;rw [ih,bump1_length]
theorem bump1_get(o:List Int)(s j:Nat)(hs:s<o.length):(bump1 o s).getD j 0=o.getD j 0+if j=s then 1 else 0:=by
 unfold bump1
 simp only [List.getD_eq_getElem?_getD,Int.toNat_natCast]
 by_cases h:j=s
 ·subst h
  rw [List.getElem?_set_self hs,if_pos rfl]
  rfl
 ·rw [List.getElem?_set_ne (fun e=>h e.symm),if_neg h,Int.add_zero]
theorem bumpF_get(l:List Int):∀ (o:List Int) (j:Nat),(∀ x∈l,∃ s:Nat,x=s∧s<o.length)→(bumpF o l).getD j 0=o.getD j 0+(l.countP fun x=>decide (x=(j:Int)):Nat):=by
 induction l with
 | nil=>intro o j _;simp [bumpF]
 | cons x t ih=>
  intro o j h
  obtain ⟨s,rfl,hs⟩:=h x (by simp)
  show (bumpF (bump1 o s) t).getD j 0=_
  rw [ih _ j (fun x hx=>by rw [bump1_length];exact h x (by simp [hx])),bump1_get o s j hs,List.countP_cons]
  by_cases hj:j=s
  ·subst hj;simp;omega
  ·have:¬ ((s:Int)=j):=by omega
   simp [hj,this]
theorem count_nodup{l:List Int}(h:l.Nodup)(x:Int):(l.countP fun y=>decide (y=x))=if x∈l then 1 else 0:=by
 induction l with
 | nil=>simp
 | cons a t ih=>
  rw [List.nodup_cons] at h
  rw [List.countP_cons,ih h.2]
  by_cases ha:a=x
  ·subst ha
   simp [h.1]
  ·have:¬ x=a:=fun e=>ha e.symm
   simp [ha,this]
structure OutRel (F o:List Int) (ls:List Nat):Prop where
 len:o.length=F.length
 lsl:ls.length=(symsF F).length
 get:∀ k (h:k<(symsF F).length),o.getD ((symsF F)[k]).toNat 0=ls.getD k 0
 zero:∀ j:Nat,(j:Int) ∉ symsF F→o.getD j 0=0
theorem out_start(F:List Int):OutRel F (Qm F.length) (List.replicate (symsF F).length 0):=by
 have hz:∀ j,(Qm F.length).getD j 0=0:=by
  intro j
  unfold Qm
  rw [List.getD_eq_getElem?_getD,List.getElem?_replicate]
  split <;> rfl
 exact ⟨by simp [Qm],by simp,fun k _=>by rw [hz,rep_zero];rfl,fun j _=>hz j⟩
theorem nodup_idx{l:List Int}(h:l.Nodup){i j:Nat}(hi:i<l.length)(hj:j<l.length)(e:l[i]=l[j]):i=j:=by
 rcases Nat.lt_trichotomy i j with h1 | h1 | h1
 ·exact absurd e (List.pairwise_iff_getElem.1 h i j hi hj h1)
 ·exact h1
 ·exact absurd e.symm (List.pairwise_iff_getElem.1 h j i hj hi h1)
theorem out_bump{F o:List Int}{ls:List Nat}(h:OutRel F o ls)(c:Nat):OutRel F (bumpF o ((symsF F).take c)) (addF c ls):=by
 have hin:∀ x∈(symsF F).take c,∃ s:Nat,x=s∧s<o.length:=fun x hx=>by
  obtain ⟨s,rfl,h1,_⟩:=(syms_mem F x).1 (List.mem_of_mem_take hx)
  exact ⟨s,rfl,by rw [h.len];exact h1⟩
 have hnd:((symsF F).take c).Nodup:=(syms_nodup F).sublist (List.take_sublist _ _)
 refine ⟨by rw [Jl,h.len],by rw [addF_length,h.lsl],fun k hk=>?_,fun j hj=>?_⟩
 ·rw [bumpF_get _ _ _ hin,h.get k hk,addF_get,count_nodup hnd]
  have hpos:(((symsF F)[k]).toNat:Int)=(symsF F)[k]:=by
   obtain ⟨s,e,_⟩:=(syms_mem F ((symsF F)[k])).1 (List.getElem_mem _)
   rw [e];rfl
  rw [hpos]
  by_cases hc:k<c
  ·have h1:k<c∧k<ls.length:=⟨hc,by rw [h.lsl];exact hk⟩
   have h2:(symsF F)[k]∈(symsF F).take c:=List.mem_take_iff_getElem.2 ⟨k,by omega,rfl⟩
   rw [if_pos h1,if_pos h2]
   simp
  ·have h1:¬ (k<c∧k<ls.length):=fun hh=>hc hh.1
   have h2:¬ (symsF F)[k]∈(symsF F).take c:=by
    intro hm
    obtain ⟨j,hj,e⟩:=List.mem_take_iff_getElem.1 hm
    have:=nodup_idx (syms_nodup F) (by omega) hk e
    omega
   rw [if_neg h1,if_neg h2]
   simp
 ·rw [bumpF_get _ _ _ hin,h.zero j hj,count_nodup hnd,if_neg (fun hm=>hj (List.mem_of_mem_take hm))]
  simp
theorem out_fold{F:List Int}(cs:List Nat):∀ {o:List Int} {ls:List Nat},OutRel F o ls→OutRel F (outF (symsF F) cs o) (lensF cs ls):=by
 induction cs with
 | nil=>intro o ls h;exact h
 | cons c cs ih=>intro o ls h;exact ih (out_bump h c)
def wtF(x:Int):Int:=if 0<x then 2^(15-x.toNat) else 0
theorem sum_range(l:List Int)(f:Int→Int):sumF f l=sumF (fun j:Nat=>f (l.getD j 0)) (List.range l.length):=by
 have e:l=(List.range l.length).map (fun j=>l.getD j 0):=by
  refine List.ext_getElem (by simp) fun i h1 h2=>?_
  simp [List.getD_eq_getElem?_getD,h1]
 conv=>lhs;rw [e]
 rw [sumF_map]
theorem used_range(F:List Int)(k:Nat):usedN F k=((List.range k).filter fun s=>decide (0<F.getD s 0)).map Int.ofNat:=by
 induction k with
 | zero=>rfl
 | succ k ih=>
  rw [usedN,List.range_succ,List.filter_append,List.map_append,← ih]
  split
  ·next h=>simp only [List.filter_cons,List.filter_nil,h,decide_true,if_true];rfl
  ·next h=>simp only [List.filter_cons,List.filter_nil,h,decide_false];simp
theorem sum_syms(F:List Int)(f:Nat→Int)(h:∀ j,j<F.length→¬ 0<F.getD j 0→f j=0):sumF f (List.range F.length)=sumF (fun x:Int=>f x.toNat) (symsF F):=by
 rw [← sumF_perm (syms_perm F)]
 unfold usedF
 rw [used_range,sumF_map,sumF_filter (fun s=>decide (0<F.getD s 0)) (List.range F.length)]
 have e:sumF f ((List.range F.length).filter fun x=>!decide (0<F.getD x 0))=0:=by
  rw [sumF_congr (g:=fun _=>0) (fun j hj=>by
   have:=List.mem_filter.1 hj
   exact h j (List.mem_range.1 this.1) (by simpa using this.2)),sumF_const]
  simp
 rw [e,Int.add_zero]
 exact sumF_congr fun x _=>by simp
def costF:List Int→List Int→Int
 | a::F,b::l=>a*b+costF F l
 | _,_=>0
theorem getD_self{ls:List Nat}:(List.range ls.length).map (fun k=>ls.getD k 0)=ls:=by
 refine List.ext_getElem (by simp) fun i h1 h2=>?_
 simp [List.getD_eq_getElem?_getD,h2]
theorem sum_places{α:Type}(f:α→Int)(l:List α)(g:Nat→Int)(h:∀ k (hk:k<l.length),f l[k]=g k):sumF f l=sumF g (List.range l.length):=by
 induction l generalizing g with
 | nil=>rfl
 | cons a t ih=>
  rw [List.length_cons,List.range_succ_eq_map,Je,Je,sumF_map,ih (fun k=>g (k+1)) (fun k hk=>h (k+1) (by simpa using hk))]
  have:=h 0 (by simp)
  simp only [List.getElem_cons_zero] at this
  rw [this]
section
variable {F:List Int} {L:Nat} (hF:∀ f∈F,0≤f) (hL:1≤L∧L≤15) (hU:(symsF F).length≤2^L)
theorem getD_nonneg(hF:∀ f∈F,0≤f)(j:Nat):0≤F.getD j 0:=by
 rw [List.getD_eq_getElem?_getD]
 rcases Nat.lt_or_ge j F.length with h | h
 ·rw [List.getElem?_eq_getElem h];exact hF _ (List.getElem_mem _)
 ·rw [List.getElem?_eq_none h];exact Int.le_refl _
theorem lengthsF_rel(F:List Int)(L:Nat):OutRel F (Zz F L) (if (symsF F).length<2 then addF (symsF F).length (List.replicate (symsF F).length 0) else lensF (cntF (baseF F) (L-1) (2*(baseF F).length-2)) (List.replicate (baseF F).length 0)):=by
 unfold Zz
 split
 ·have:=out_bump (out_start F) (symsF F).length
  rwa [List.take_length] at this
 ·rw [Vb]
  exact out_fold _ (out_start F)
theorem lengthsF_length(F:List Int)(L:Nat):(Zz F L).length=F.length:=(lengthsF_rel F L).len
theorem out_weight{o:List Int}{ls:List Nat}(h:OutRel F o ls)(h1:∀ k,k<ls.length→1≤ls.getD k 0):sumF wtF o=kwF ls:=by
 rw [sum_range,h.len,sum_syms F (fun j=>wtF (o.getD j 0)) (fun j _ hj=>by
  show wtF (o.getD j 0)=0
  rw [h.zero j (fun hm=>by
   obtain ⟨s,e,_,h2⟩:=(syms_mem F j).1 hm
   have:j=s:=by omega
   subst this;exact hj h2)];rfl)]
 unfold kwF
 rw [sum_places (fun x:Int=>wtF (o.getD x.toNat 0)) (symsF F) (fun k=>(2:Int)^(15-ls.getD k 0)) (fun k hk=>?_),← h.lsl]
 ·conv=>rhs;rw [← getD_self (ls:=ls),sumF_map]
 ·rw [h.get k hk]
  have:=h1 k (by rw [h.lsl];exact hk)
  unfold wtF
  rw [if_pos (by omega)]
  simp
include hL hU
theorem places_ok{ls:List Nat}(hls:ls=if (symsF F).length<2 then addF (symsF F).length (List.replicate (symsF F).length 0) else lensF (cntF (baseF F) (L-1) (2*(baseF F).length-2)) (List.replicate (baseF F).length 0)) :
 ∀ k,k<(symsF F).length→1≤ls.getD k 0∧ls.getD k 0≤L:=by
 intro k hk
 subst hls
 split
 ·rw [addF_get,if_pos ⟨hk,by simpa using hk⟩,rep_zero]
  omega
 ·next h=>
  have hw:=whole (base_law F) L (by rw [Vb];omega) hL (by rw [Vb];exact hU)
  rw [Vb] at hw ⊢
  exact hw.2 k hk
theorem lengthsF_range(hF:∀ f∈F,0≤f)(j:Nat)(hj:j<F.length):0≤(Zz F L).getD j 0∧(Zz F L).getD j 0≤L∧((Zz F L).getD j 0=0↔F.getD j 0=0):=by
 obtain ⟨ls,hls⟩:∃ ls,ls=if (symsF F).length<2 then addF (symsF F).length (List.replicate (symsF F).length 0) else lensF (cntF (baseF F) (L-1) (2*(baseF F).length-2)) (List.replicate (baseF F).length 0):=⟨_,rfl⟩
 have hr:=lengthsF_rel F L
 rw [← hls] at hr
 have hp:=places_ok (F:=F) hL hU hls
 have h0:=getD_nonneg hF j
 by_cases hm:(j:Int)∈symsF F
 ·obtain ⟨k,hk,e⟩:=List.getElem_of_mem hm
  have hg:=hr.get k hk
  rw [e] at hg
  simp only [Int.toNat_natCast] at hg
  have h1:=hp k hk
  obtain ⟨s,e2,_,h2⟩:=(syms_mem F j).1 hm
  have:j=s:=by omega
  subst this
  rw [hg]
  omega
 ·rw [hr.zero j hm]
  have:¬ 0<F.getD j 0:=fun h=>hm ((syms_mem F j).2 ⟨j,rfl,hj,h⟩)
  omega
theorem lengthsF_weight:sumF wtF (Zz F L)=if (symsF F).length<2 then ((symsF F).length:Int)*2^14 else 2^15:=by
 obtain ⟨ls,hls⟩:∃ ls,ls=if (symsF F).length<2 then addF (symsF F).length (List.replicate (symsF F).length 0) else lensF (cntF (baseF F) (L-1) (2*(baseF F).length-2)) (List.replicate (baseF F).length 0):=⟨_,rfl⟩
 have hr:=lengthsF_rel F L
 rw [← hls] at hr
 have hp:=places_ok (F:=F) hL hU hls
 rw [out_weight hr (fun k hk=>(hp k (by rw [← hr.lsl];exact hk)).1),hls]
 split
 ·next h=>
  rw [kw_addF (t:=0) (by simp) (fun k _=>rep_zero _ _) (by omega)]
  have e:kwF (List.replicate (symsF F).length 0)=(symsF F).length*2^15:=by
   unfold kwF
   rw [sumF_congr (g:=fun _=>(2:Int)^15) (fun l hl=>by rw [(List.mem_replicate.1 hl).2]),sumF_const,List.length_replicate]
  rw [e]
  omega
 ·next h=>
  exact (whole (base_law F) L (by rw [Vb];omega) hL (by rw [Vb];exact hU)).1
end
theorem Za{F:List Int}{i:Nat}(h:i<F.length):F[i]?=some (F.getD i 0):=by
 rw [List.getD_eq_getElem?_getD,List.getElem?_eq_getElem h];rfl
theorem rd_len{w:World}{v:Value}{n:Nat}{F:List Int}(hr:Rd w 1 v n (nums F)):F.length=n:=by have:=hr.len;rw [Qg] at this;omega
def okLen(x:Int):Bool:=decide (0≤x)&&decide (x≤15)
def mayF(l:List Int):Bool:=decide (l.length≤320)&&l.all okLen
theorem mayF_len{l:List Int}(h:mayF l=true):l.length≤320∧∀ x∈l,0≤x∧x≤15:=by
 unfold mayF at h
 simp only [Bool.and_eq_true,decide_eq_true_eq,List.all_eq_true,okLen] at h
 exact ⟨h.1,fun x hx=>h.2 x hx⟩
theorem all_take_succ{p:Int→Bool}{F:List Int}{i:Nat}(h:i<F.length):(F.take (i+1)).all p=((F.take i).all p&&p (F.getD i 0)):=by
 rw [List.take_add_one,Za h,List.all_append]
 simp
def badF(f:Int):Bool:=decide (f<0∨4294967296<f)
def anyBad(F:List Int):Bool:=F.any badF
theorem rd_num{w w':World}{n:Nat}{F:List Int}{v:Value}{ps:List Piece}(hr:Rd w 1 v n (nums F))(H:Own w w' ps){i:Nat}(hi:i<F.length){a:Option Addr}{c:Nat}(hv:v=.slice a n c):∃ b o,a=some ⟨b,o,none⟩∧w'.cell? ⟨b,o+i,none⟩=some (.int .i64 (F.getD i 0)):=by
 subst hv
 obtain ⟨b,o,c',he,_⟩:=hr.some (by rw [Qg];omega)
 cases he
 exact ⟨b,o,rfl,(hr.old H).cell (Jj (by rw [List.getElem?_eq_getElem hi];simp [List.getD_eq_getElem?_getD,hi]))⟩
theorem rd_at{w w':World}{n:Nat}{F:List Int}{a:Option Addr}{c:Nat}{ps:List Piece}(hr:Rd w 1 (.slice a n c) n (nums F))(H:Own w w' ps){i:Nat}(hi:i<n):∃ b o,a=some ⟨b,o,none⟩∧w'.cell? ⟨b,o+i,none⟩=some (.int .i64 (F.getD i 0)):=
 rd_num hr H (by have:=hr.len;rw [Qg] at this;omega) rfl
def badArg(F:List Int)(L:Int):Bool:=decide (L<1)||decide (15<L)||decide (320<F.length)||anyBad F
def errF(F:List Int)(L:Int):Int:=if badArg F L then 1 else if 2^L.toNat<(usedF F).length then 3 else 0
def resF(F:List Int)(L:Int):List Int:=if errF F L=0 then Zz F L.toNat else []
def Zf(l:List Int):List Int:=(bumpF (Qm 16) l).set 0 0
theorem bump_bound(l:List Int):∀ (o:List Int) (j:Nat) (B:Int),(∀ j,0≤o.getD j 0∧o.getD j 0≤B)→0≤(bumpF o l).getD j 0∧(bumpF o l).getD j 0≤B+l.length:=by
 induction l with
 | nil=>intro o j B h;have:=h j;simp [bumpF] at this ⊢;omega
 | cons x t ih=>
  intro o j B h
  have h2:∀ j,0≤(bump1 o x).getD j 0∧(bump1 o x).getD j 0≤B+1:=by
   intro j
   unfold bump1
   have h1:=h j
   have h3:=h x.toNat
   rw [List.getD_eq_getElem?_getD,List.getElem?_set]
   rw [List.getD_eq_getElem?_getD] at h1
   split
   ·split
    ·simp;simp at h3;omega
    ·simp;have:=h 0;omega
   ·omega
  have:=ih (bump1 o x) j (B+1) h2
  show 0≤(bumpF (bump1 o x) t).getD j 0∧(bumpF (bump1 o x) t).getD j 0≤_
  rw [List.length_cons]
  omega
theorem zeros_get(n j:Nat):(Qm n).getD j 0=0:=by
 unfold Qm
 rw [List.getD_eq_getElem?_getD,List.getElem?_replicate]
 split <;> rfl
def leftL:Int→List Int→Int
 | n,[]=>n
 | n,k::t=>if 2*n-k<0 then -1 else leftL (2*n-k) t
def leftF(cs:List Int):Int:=leftL 1 (cs.drop 1)
theorem nums_set(o:List Int)(s:Nat)(x:Int):(nums o).set s (.int .i64 x)=nums (o.set s x):=by simp [nums,List.map_set]
theorem bump_take{o syms:List Int}{j:Nat}{x:Int}(hx:syms[j]?=some x):bumpF o (syms.take (j+1))=bump1 (bumpF o (syms.take j)) x:=by
 unfold bumpF
 rw [List.take_add_one,hx,List.foldl_append]
 rfl
theorem arr_set(cs:List Int)(k:Nat)(v:Int):(nums cs).toArray.setIfInBounds k (.int .i64 v)=(nums (cs.set k v)).toArray:=by
 rw [List.setIfInBounds_toArray,nums_set]
theorem arr_get{cs:List Int}{k:Nat}(h:k<cs.length):(nums cs).toArray[k]?=some (.int .i64 (cs.getD k 0)):=by
 rw [List.getElem?_toArray]
 exact Jj (Za h)
theorem arr_zero:(nums (Qm 16)).toArray=#[.int .i64 0,.int .i64 0,.int .i64 0,.int .i64 0,.int .i64 0,.int .i64 0,.int .i64 0,.int .i64 0,.int .i64 0,.int .i64 0,.int .i64 0,.int .i64 0,.int .i64 0,.int .i64 0,.int .i64 0,.int .i64 0]:=rfl
theorem nums_one(cs:List Int):∀ u∈nums cs,u.oneCell'=true:=by
 intro u hu
 obtain ⟨x,_,rfl⟩:=List.mem_map.1 hu
 rfl
theorem store_whole(a b:List Value)(h:b.length=a.length):(a.toArray.toList.take 0++b++a.toArray.toList.drop (0+b.length)).toArray=b.toArray:=by
 simp [h]
def cerrF(l:List Int):Int:=if mayF l then (if sumF wtF l≤2^15 then 0 else 2) else 1
theorem pow_pos_nat(d:Nat)(h:d≤15):∃ p:Int,(2:Int)^d=p∧1≤p∧p≤32768:=by
 refine ⟨_,rfl,?_,?_⟩
 ·have:(0:Int)<2^d:=Int.pow_pos (by omega)
  omega
 ·have:(2:Nat)^d≤2^15:=Nat.pow_le_pow_right (by omega) h
  have h2:((2^d:Nat):Int)≤((2^15:Nat):Int):=Int.ofNat_le.2 this
  simpa using h2
def cntL(l:List Int)(k:Nat):Nat:=l.countP fun x=>decide (x=(k:Int))
def lowT(n:Nat)(x:Int):Int:=if 0<x∧x<n then 2^(n-x.toNat) else 0
def lowF(l:List Int)(n:Nat):Int:=sumF (lowT n) l
def cntC(l:List Int)(k:Nat):Int:=if k=0 then 0 else cntL l k
def codeF(l:List Int)(s:Nat):Int:=if 0<l.getD s 0 then lowF l (l.getD s 0).toNat+cntL (l.take s) (l.getD s 0).toNat else 0
def Zc(l:List Int):List Int:=(List.range l.length).map (codeF l)
theorem codesF_length(l:List Int):(Zc l).length=l.length:=by simp [Zc]
theorem codesF_get{l:List Int}{s:Nat}(h:s<l.length):(Zc l).getD s 0=codeF l s:=by
 unfold Zc
 rw [List.getD_eq_getElem?_getD]
 simp [h]
section
variable {l:List Int}
theorem cntL_take_succ{k s:Nat}(h:s<l.length):cntL (l.take (s+1)) k=cntL (l.take s) k+if l.getD s 0=(k:Int) then 1 else 0:=by
 unfold cntL
 rw [List.take_add_one,Za h,List.countP_append]
 simp
theorem cntL_le(l:List Int)(k:Nat):cntL l k≤l.length:=List.countP_le_length
theorem cntL_take_le(l:List Int)(s k:Nat):cntL (l.take s) k≤cntL l k:=(List.take_sublist s l).countP_le
theorem lowT_nonneg(n:Nat)(x:Int):0≤lowT n x:=by
 unfold lowT
 split
 ·exact Int.le_of_lt (Int.pow_pos (by omega))
 ·exact Int.le_refl _
theorem lowF_nonneg(l:List Int)(n:Nat):0≤lowF l n:=sumF_nonneg fun x _=>lowT_nonneg n x
theorem lowF_zero(l:List Int):lowF l 0=0:=by
 unfold lowF
 rw [sumF_congr (g:=fun _=>0) (fun x _=>by unfold lowT;rw [if_neg];rintro ⟨h1,h2⟩;have:x<0:=h2;omega),sumF_const]
 simp
theorem lowF_succ(l:List Int)(n:Nat):lowF l (n+1)=2*(lowF l n+cntC l n):=by
 have key:∀ x:Int,lowT (n+1) x=2*(lowT n x+if x=(n:Int)∧n≠0 then 1 else 0):=by
  intro x
  unfold lowT
  by_cases h1:0<x∧x<n
  ·rw [if_pos h1,if_pos ⟨h1.1,by omega⟩,if_neg (by omega),show n+1-x.toNat=(n-x.toNat)+1 by omega,Int.pow_succ]
   omega
  ·rw [if_neg h1]
   by_cases h2:x=(n:Int)∧n≠0
   ·rw [if_pos h2,if_pos ⟨by omega,by omega⟩]
    have:n+1-x.toNat=1:=by omega
    rw [this]
    rfl
   ·rw [if_neg h2,if_neg (by omega)]
    rfl
 unfold lowF
 rw [sumF_congr (fun x _=>key x)]
 clear key
 have h2:∀ l:List Int,sumF (fun x=>2*(lowT n x+if x=(n:Int)∧n≠0 then 1 else 0)) l=2*(sumF (lowT n) l+cntC l n):=by
  intro l
  induction l with
  | nil=>simp [sumF,cntC,cntL]
  | cons x t ih=>
   rw [Je,ih,Je]
   unfold cntC cntL
   rw [List.countP_cons]
   by_cases hn:n=0
   ·simp [hn];omega
   ·by_cases hx:x=(n:Int)
    ·simp [hn,hx];omega
    ·simp [hn,hx];omega
 exact h2 l
theorem low_weight(hl:∀ x∈l,0≤x∧x≤15):lowF l 15+cntC l 15=sumF wtF l:=by
 have h:=lowF_succ l 15
 have key:lowF l 16=2*sumF wtF l:=by
  unfold lowF
  clear h
  induction l with
  | nil=>rfl
  | cons x t ih=>
   rw [Je,Je,ih fun y hy=>hl y (by simp [hy])]
   have:=hl x (by simp)
   have e:lowT 16 x=2*wtF x:=by
    unfold lowT wtF
    by_cases hx:0<x
    ·rw [if_pos ⟨hx,by omega⟩,if_pos hx,show 16-x.toNat=(15-x.toNat)+1 by omega,Int.pow_succ]
     omega
    ·rw [if_neg (by omega),if_neg hx];rfl
   rw [e]
   omega
 have e:lowF l (15+1)=lowF l 16:=rfl
 rw [e,key] at h
 omega
theorem cntC_nonneg(l:List Int)(k:Nat):0≤cntC l k:=by unfold cntC;split <;> omega
theorem low_far(l:List Int)(n:Nat):∀ d,2^(d+1)*(lowF l n+cntC l n)≤lowF l (n+1+d):=by
 intro d
 induction d with
 | zero=>rw [Nat.add_zero,lowF_succ];simp
 | succ d ih=>
  rw [← Nat.add_assoc,lowF_succ,Int.pow_succ]
  have:=cntC_nonneg l (n+1+d)
  have e:(2:Int)^(d+1)*2*(lowF l n+cntC l n)=2*(2^(d+1)*(lowF l n+cntC l n)):=by
   rw [Int.mul_comm (2^(d+1)) 2,Int.mul_assoc]
  rw [e]
  omega
theorem low_room(hl:∀ x∈l,0≤x∧x≤15)(hw:sumF wtF l≤2^15)(n:Nat)(hn:n≤15):lowF l n+cntC l n≤2^n:=by
 rw [← low_weight hl] at hw
 rcases Nat.lt_or_ge n 15 with h | h
 ·have h1:=low_far l n (14-n)
  have e:n+1+(14-n)=15:=by omega
  rw [e] at h1
  have h2:=cntC_nonneg l 15
  have h3:(2:Int)^(14-n+1)*(lowF l n+cntC l n)≤2^(14-n+1)*2^n:=by
   rw [← Int.pow_add,show 14-n+1+n=15 by omega]
   omega
  exact Int.le_of_mul_le_mul_left h3 (Int.pow_pos (by omega))
 ·have:n=15:=by omega
  subst this
  exact hw
theorem counts_get(hl:∀ x∈l,0≤x∧x≤15)(k:Nat)(hk:k<16):(Zf l).getD k 0=cntC l k:=by
 have hb:(bumpF (Qm 16) l).length=16:=by rw [Jl];simp [Qm]
 unfold Zf cntC
 rw [List.getD_eq_getElem?_getD,List.getElem?_set]
 by_cases h0:k=0
 ·subst h0
  rw [if_pos rfl,if_pos rfl,if_pos (by omega)]
  rfl
 ·rw [if_neg (fun e=>h0 e.symm),if_neg h0,← List.getD_eq_getElem?_getD,bumpF_get _ _ _ (fun x hx=>⟨x.toNat,by have:=hl x hx;omega,by have:=hl x hx;simp [Qm];omega⟩),zeros_get]
  unfold cntL
  omega
theorem counts_length(l:List Int):(Zf l).length=16:=by unfold Zf;rw [List.length_set,Jl];simp [Qm]
theorem left_step(l:List Int)(hl:∀ x∈l,0≤x∧x≤15):∀ m j,j+m=15→lowF l j+cntC l j≤2^j →
 leftL (2^j-(lowF l j+cntC l j)) ((Zf l).drop (1+j))=if sumF wtF l≤2^15 then 2^15-sumF wtF l else -1:=by
 intro m
 induction m with
 | zero=>
  intro j hj hle
  have:j=15:=by omega
  subst this
  rw [List.drop_eq_nil_of_le (by rw [counts_length];omega),leftL]
  rw [low_weight hl] at hle ⊢
  rw [if_pos hle]
 | succ m ih=>
  intro j hj hle
  have hd:(Zf l).drop (1+j)=(Zf l).getD (1+j) 0::(Zf l).drop (1+(j+1)):=by
   have:=counts_length l
   rw [List.drop_eq_getElem_cons (by omega),List.getD_eq_getElem?_getD,List.getElem?_eq_getElem (by omega)]
   rfl
  rw [hd,leftL,counts_get hl _ (by omega)]
  have e:2*(2^j-(lowF l j+cntC l j))-cntC l (1+j)=2^(j+1)-(lowF l (j+1)+cntC l (j+1)):=by
   rw [lowF_succ,Int.pow_succ,Nat.add_comm 1 j]
   omega
  rw [e]
  by_cases hneg:2^(j+1)-(lowF l (j+1)+cntC l (j+1))<0
  ·rw [if_pos hneg,if_neg]
   intro hw
   have:=low_room hl hw (j+1) (by omega)
   omega
  ·rw [if_neg hneg]
   exact ih (j+1) (by omega) (by omega)
theorem left_law(hl:∀ x∈l,0≤x∧x≤15):leftF (Zf l)=if sumF wtF l≤2^15 then 2^15-sumF wtF l else -1:=by
 have:=left_step l hl 15 0 rfl (by rw [lowF_zero];simp [cntC])
 rw [lowF_zero] at this
 exact this
theorem code_lt{s:Nat}(hs:s<l.length)(h0:0<l.getD s 0):codeF l s+1≤lowF l (l.getD s 0).toNat+cntC l (l.getD s 0).toNat:=by
 unfold codeF cntC
 rw [if_pos h0,if_neg (by omega)]
 have h1:=cntL_take_succ (k:=(l.getD s 0).toNat) hs
 rw [if_pos (by omega)] at h1
 have h2:=cntL_take_le l (s+1) (l.getD s 0).toNat
 omega
theorem code_nonneg(s:Nat):0≤codeF l s:=by
 unfold codeF
 split
 ·have:=lowF_nonneg l (l.getD s 0).toNat;omega
 ·omega
theorem code_fits(hl:∀ x∈l,0≤x∧x≤15)(hw:sumF wtF l≤2^15){s:Nat}(hs:s<l.length)(h0:0<l.getD s 0):codeF l s<2^(l.getD s 0).toNat:=by
 have h1:=code_lt hs h0
 have hm:l.getD s 0∈l:=by rw [List.getD_eq_getElem?_getD,List.getElem?_eq_getElem hs];exact List.getElem_mem _
 have h2:=low_room hl hw (l.getD s 0).toNat (by have:=hl _ hm;omega)
 omega
def befT(l:List Int)(s t:Nat):Int:=if 0<l.getD t 0∧(l.getD t 0<l.getD s 0∨l.getD t 0=l.getD s 0∧t<s) then 2^(15-(l.getD t 0).toNat) else 0
def befN(l:List Int)(s:Nat):Nat→Int
 | 0=>0
 | k+1=>befN l s k+befT l s k
end
namespace SI
def ie(x:Int):List Value:=[.int .i64 x]
theorem e_length(x:Int):(ie x).length=1:=rfl
theorem e_one(x:Int):∀ u∈ie x,u.oneCell'=true:=by intro u hu;simp [ie] at hu;subst hu;rfl
abbrev Sl(v:Value)(l:List Int):Piece:=slc 3 1 v l.length (rows ie l)
theorem el{w:World}{b c i n:Nat}{l:List Int}{x:Int}(h:Rd w 1 (.slice (some ⟨b,0,none⟩) n c) n (rows ie l))(hx:l[i]?=some x) :
 w.cell? ⟨b,i,none⟩=some (.int .i64 x)∧True:=by
 have h0:=h.cell ((Jt ie e_length hx 0 (by omega)).trans rfl)
 rw [Nat.zero_add,Nat.mul_one] at h0
 exact ⟨h0,trivial⟩
theorem set_rows{l:List Int}{i:Nat}(hi:i<l.length)(y:Int):(rows ie l).take (i*1)++ie y++(rows ie l).drop (i*1+1)=rows ie (l.set i y):=(rows_set ie e_length hi y).symm
theorem set_swap{α:Type}(u v w:List α)(x y:α){i j:Nat}(hi:i=u.length)(hj:j=u.length+1+v.length) :
 ((u++x::(v++y::w)).set i y).set j x=u++y::(v++x::w):=by
 subst hi hj
 rw [List.set_append_right _ _ (Nat.le_refl _),Nat.sub_self,List.set_cons_zero,List.set_append_right _ _ (by omega),show u.length+1+v.length-u.length=v.length+1 by omega,List.set_cons_succ,List.set_append_right _ _ (Nat.le_refl _),Nat.sub_self,List.set_cons_zero]
theorem get_mid{α:Type}(u w:List α)(x:α){i:Nat}(hi:i=u.length):(u++x::w)[i]?=some x:=by
 subst hi
 rw [List.getElem?_append_right (Nat.le_refl _),Nat.sub_self];rfl
abbrev A:=Int
abbrev sL(g N c:Nat)(l:List Int):Piece:=slc 3 1 (.slice (some ⟨g,0,none⟩) N c) N (rows ie l)
open Go.Proofs.Tryz renaming func391 → fuswapRangeCmpFunc, ntmps391 → ntswapRangeCmpFunc
open Go.Proofs.YthekdeikodppkaaGreatDoor.SI renaming ie → eC
section
variable {w0 w:World} {ps:List Piece}
set_option maxRecDepth 100000 in
set_option maxHeartbeats 3200000 in
def swap_any:=mk_swap_any Int ie 3 1 391
end
end SI
end Go.Proofs.YthekdeikodppkaaGreatDoor
namespace Go.Proofs.YthekdeikodppkaaGreatDoor
open Go.RowKit
set_option maxRecDepth 1000000
def T_rotate_any(A:Type)(eC:A→List Value)(EL:TypeId)(SZ:Nat)(F_rotateCmpFunc:FuncId):Prop:=∀ ⦃w0:World⦄ ⦃w:World⦄ ⦃ps:List Piece⦄ ⦃g c N:Nat⦄ ⦃p x y q:List A⦄ ⦃a m b:Nat⦄ (cmp:Value) (ha:a=p.length) (hm:m=a+x.length) (hb:b=m+y.length) (hx0:0<x.length) (hy0:0<y.length) (hN:N=(p++x++y++q).length) (hNb:N≤1000000) (H:Own w0 w (slc EL SZ (.slice (some ⟨g,0,none⟩) N c) N (rows eC (p++x++y++q))::ps)),Calls Tryz.prog F_rotateCmpFunc #[.slice (some ⟨g,0,none⟩) N c,.int .i64 a,.int .i64 m,.int .i64 b,cmp] w (Ret fun _ w'=>Own w0 w' (slc EL SZ (.slice (some ⟨g,0,none⟩) N c) N (rows eC (p++y++x++q))::ps))
theorem mk_rotate_any(A:Type)(eC:A→List Value)(EL:TypeId)(SZ:Nat)(F_rotateCmpFunc:FuncId)(h:T_rotate_any A eC EL SZ F_rotateCmpFunc:=by
 unfold T_rotate_any
 intro w0 w ps g c N p x y q a m b cmp ha hm hb hx0 hy0 hN hNb H
 obtain ⟨T,hT⟩:∃ T,Hid (T=p++y++x++q):=⟨_,jd rfl⟩
 rw [← hT.out]
 have hbN:b≤N:=by rw [hN];simp only [lJ];omega
 obtain ⟨i0,hi0⟩:∃ i,Hid (x.length=i):=⟨_,rfl⟩
 obtain ⟨j0,hj0⟩:∃ j,Hid (y.length=j):=⟨_,rfl⟩
 rw [hi0.out] at hx0 hm
 rw [hj0.out] at hy0 hb
 have hNn:Hid ((p++x++y++q).length=N):=jd hN.symm
 have HP:=jd ha
 have ham:m=a+i0:=hm
 have hbm:b=m+j0:=hb
 clear ha hN
 go_enter furotateCmpFunc,ntrotateCmpFunc
 have e1:((m:Int)-(a:Int))=(i0:Int):=by omega
 have e2:((b:Int)-(m:Int))=(j0:Int):=by omega
 have hst:a+i0=m∧m+j0≤N:=⟨by omega,by omega⟩
 have HST:=jd hst
 have ham2:a≤m:=by omega
 have hmb2:m≤b:=by omega
 have hbN2:b≤N:=by omega
 clear ham hm hst hb hbN hbm
 go_upto_region 2 with (fail)
 go_loopw [10,11] (fun s10 s11 wx=>∃ (i j pl:Nat) (X Y P Q:List A),s10=.int .i64 i∧s11=.int .i64 j∧1≤i∧1≤j∧pl+i=m∧m+j≤N∧Hid (X.length=i)∧Hid (Y.length=j)∧Hid (P.length=pl)∧Hid ((P++X++Y++Q).length=N)∧Hid (T=P++Y++X++Q)∧Own w0 wx ((sL g N c (P++X++Y++Q))::ps)) (fun s10 s11 _=>(intOf s10).toNat+(intOf s11).toNat)
 case atStart=>exact ⟨i0,j0,a,x,y,p,q,by rw [← e1];try go_num,by rw [← e2];try go_num,by omega,by omega,HST.out.1,HST.out.2,hi0,hj0,jd HP.out.symm,hNn,hT,H⟩
 case round=>
  clear H hNn hT HP hi0 hj0 e1 e2
  obtain ⟨i,j,pl,X,Y,P,Q,rfl,rfl,hi,hj,hpl,hmj,hX,hY,hP,hLn,hT,H⟩:=hrel
  have em:((m:Int)-(i:Int))=(pl:Int):=by omega
  have hN1:(m:Int)+(j:Int)≤(N:Int):=by omega
  rcases Nat.lt_trichotomy i j with hij | hij | hij
  ·
   obtain ⟨d,rfl⟩:∃ d,j=d+i:=⟨j-i,by omega⟩
   obtain ⟨bd,hbd⟩:∃ bd,bd=m+d:=⟨_,rfl⟩
   have eb:((m:Int)+((d+i:Nat):Int)-(i:Int))=(bd:Int):=by omega
   have eb':((m:Int)+((d:Int)+(i:Int))-(i:Int))=(bd:Int):=by omega
   have ed:((d:Int)+(i:Int)-(i:Int))=(d:Int):=by omega
   obtain ⟨Y1,Y2,hYs,hY1⟩:=split_at Y d (by rw [hY.out];omega)
   subst hYs
   have hY2:Y2.length=i:=by have:=hY.out;rw [lJ] at this;omega
   have hne:((i:Int)==((d:Int)+(i:Int)))=false:=by simp;omega
   have hng:¬ ((d:Int)+(i:Int)<(i:Int)):=by omega
   have el1:P++X++(Y1++Y2)++Q=P++X++Y1++Y2++Q:=by simp
   rw [el1] at H
   have hLn':N=(P++X++Y1++Y2++Q).length:=by rw [← el1];exact hLn.out.symm
   have hNb':N≤1000000:=hNb
   have hsw:=swap_any (w0:=w0) (w:=wr) (ps:=ps) (g:=g) (c:=c) (N:=N) (p:=P) (x:=X) (m:=Y1) (y:=Y2) (q:=Q) (a:=pl) (b:=bd) (n:=i) cmp (by rw [hP.out]) (by rw [hX.out,hY1,hbd];omega) (by rw [hX.out]) (by rw [hY2,hX.out]) hLn' hNb H
   have HSW:=jd hsw
   have el2:P++Y2++Y1++X++Q=P++Y2++Y1++(X++Q):=by simp
   have hT':Hid (T=P++Y1++Y2++(X++Q)):=jd (by rw [hT.out];simp)
   have hX':Hid (Y2.length=i):=jd hY2
   have hY':Hid (Y1.length=d):=jd hY1
   have hLn2:Hid ((P++Y2++Y1++(X++Q)).length=N):=jd (by rw [hLn'];simp only [lJ];omega)
   rw [el2] at HSW
   clear hsw el1 el2 hLn' hY1 hY2 hT hX hY hLn hbd
   go_wp2_with fail
   refine HSW.out.mono ?_
   rintro e w3 ⟨_,rfl,H3⟩
   clear HSW H
   go_wp2
   go_roundw
   case rel=>exact ⟨i,d,pl,Y2,Y1,P,X++Q,rfl,by go_num,by omega,by omega,hpl,by omega,hX',hY',hP,hLn2,hT',H3⟩
   case measure=>simp [intOf];omega
  ·subst hij
   have hLn':N=(P++X++[]++Y++Q).length:=by have:=hLn.out;rw [← this];simp
   have H':Own w0 wr ((sL g N c (P++X++[]++Y++Q))::ps):=by simpa using H
   have hsw:=swap_any (w0:=w0) (w:=wr) (ps:=ps) (g:=g) (c:=c) (N:=N) (p:=P) (x:=X) (m:=[]) (y:=Y) (q:=Q) (a:=pl) (b:=m) (n:=i) cmp (by rw [hP.out]) (by rw [hX.out];simp;omega) (by rw [hX.out]) (by rw [hY.out,hX.out]) hLn' hNb H'
   have HSW:=jd hsw
   clear hsw H' hLn'
   go_wp2_with fail
   refine HSW.out.mono ?_
   rintro e w3 ⟨_,rfl,H3⟩
   clear HSW H
   go_wp2
   go_end0
   exact ⟨_,rfl,by rw [hT.out];simpa using H3⟩
  ·obtain ⟨d,rfl⟩:∃ d,i=j+d:=⟨i-j,by omega⟩
   obtain ⟨X1,X2,hXs,hX1⟩:=split_at X j (by rw [hX.out];omega)
   subst hXs
   have hX2:X2.length=d:=by have:=hX.out;rw [lJ] at this;omega
   have em':((m:Int)-((j:Int)+(d:Int)))=(pl:Int):=by omega
   have ed:((j:Int)+(d:Int)-(j:Int))=(d:Int):=by omega
   have hne:(((j:Int)+(d:Int))==(j:Int))=false:=by simp;omega
   have hng:((j:Int)<(j:Int)+(d:Int)):=by omega
   have el1:P++(X1++X2)++Y++Q=P++X1++X2++Y++Q:=by simp
   rw [el1] at H
   have hLn':N=(P++X1++X2++Y++Q).length:=by rw [← el1];exact hLn.out.symm
   have hsw:=swap_any (w0:=w0) (w:=wr) (ps:=ps) (g:=g) (c:=c) (N:=N) (p:=P) (x:=X1) (m:=X2) (y:=Y) (q:=Q) (a:=pl) (b:=m) (n:=j) cmp (by rw [hP.out]) (by rw [hX1,hX2];omega) (by rw [hX1]) (by rw [hY.out,hX1]) hLn' hNb H
   have HSW:=jd hsw
   have el2:P++Y++X2++X1++Q=(P++Y)++X2++X1++Q:=by simp
   have hT':Hid (T=(P++Y)++X1++X2++Q):=jd (by rw [hT.out];simp)
   have hX':Hid (X2.length=d):=jd hX2
   have hY':Hid (X1.length=j):=jd hX1
   have hP':Hid ((P++Y).length=pl+j):=jd (by rw [lJ,hP.out,hY.out])
   have hLn2:Hid (((P++Y)++X2++X1++Q).length=N):=jd (by rw [hLn'];simp only [lJ];omega)
   clear hsw el1 el2 hLn' hX1 hX2 hT hX hY hLn hP
   go_wp2_with fail
   refine HSW.out.mono ?_
   rintro e w3 ⟨_,rfl,H3⟩
   clear HSW H
   go_wp2
   go_roundw
   case rel=>exact ⟨d,j,pl+j,X2,X1,P++Y,Q,by go_num,rfl,by omega,by omega,by omega,by omega,hX',hY',hP',hLn2,hT',H3⟩
   case measure=>simp [intOf];omega):T_rotate_any A eC EL SZ F_rotateCmpFunc:=h
end Go.Proofs.YthekdeikodppkaaGreatDoor
namespace Go.Proofs.YthekdeikodppkaaGreatDoor
open Go.RowKit
namespace SI
theorem split_at{α:Type}(l:List α)(n:Nat)(h:n≤l.length):∃ a b,l=a++b∧a.length=n:=⟨l.take n,l.drop n,(List.take_append_drop n l).symm,by simp;omega⟩
open Go.Proofs.Tryz renaming func387 → furotateCmpFunc, ntmps387 → ntrotateCmpFunc
open Go.Proofs.YthekdeikodppkaaGreatDoor.SI renaming ie → eC
section
variable {w0 w:World} {ps:List Piece}
set_option maxRecDepth 100000 in
set_option maxHeartbeats 3200000 in
def rotate_any:=mk_rotate_any Int ie 3 1 387
end
end SI
end Go.Proofs.YthekdeikodppkaaGreatDoor
namespace Go.Proofs.YthekdeikodppkaaGreatDoor
open Go.RowKit
set_option maxRecDepth 1000000
def T_insert_any(A:Type)(eC:A→List Value)(EL:TypeId)(SZ:Nat)(F_insertionSortCmpFunc:FuncId)(cf:Nat→Value)(Cmps:World→List Piece→Nat→(A→Prop)→(A→Int)→Prop):Prop:=∀ ⦃w0:World⦄ ⦃w:World⦄ ⦃ps:List Piece⦄ ⦃ok:A→Prop⦄ ⦃key:A→Int⦄ ⦃B:Nat⦄ ⦃g c N:Nat⦄ ⦃p s q:List A⦄ ⦃a b:Nat⦄ (hcmp:Cmps w0 ps B ok key) (hok:∀ x∈s,ok x) (ha:a=p.length) (hb:b=a+s.length) (hN:N=(p++s++q).length) (hNb:N≤1000000) (H:Own w0 w (slc EL SZ (.slice (some ⟨g,0,none⟩) N c) N (rows eC (p++s++q))::ps)),Calls Tryz.prog F_insertionSortCmpFunc #[.slice (some ⟨g,0,none⟩) N c,.int .i64 a,.int .i64 b,cf B] w (Ret fun _ w'=>∃ s',Srt key s'∧StEq key s s'∧Own w0 w' (slc EL SZ (.slice (some ⟨g,0,none⟩) N c) N (rows eC (p++s'++q))::ps))
theorem mk_insert_any(A:Type)(eC:A→List Value)(EL:TypeId)(SZ:Nat)(F_insertionSortCmpFunc:FuncId)(cf:Nat→Value)(Cmps:World→List Piece→Nat→(A→Prop)→(A→Int)→Prop)(h:T_insert_any A eC EL SZ F_insertionSortCmpFunc cf Cmps:=by
 unfold T_insert_any
 intro w0 w ps ok key B g c N p s q a b hcmp hok ha hb hN hNb H
 have hbN:b≤N:=by rw [hN];simp only [lJ];omega
 have hNc:N≤c:=by obtain ⟨_,_,e,h1,_⟩:=H.rd.shape;cases e;exact h1
 have hc2:c≤9223372036854775807:=by obtain ⟨_,_,e,_,h1⟩:=H.rd.shape;cases e;exact h1
 have HP:=jd ha
 have HB:=jd hb
 have HN:=jd hN
 have HC:=jd hcmp
 have HOK:=jd hok
 have hab:a≤b:=by omega
 clear ha hb hN hcmp hok
 go_enter fuinsertionSortCmpFunc,ntinsertionSortCmpFunc
 by_cases hs0:s.length=0
 ·have hs:s=[]:=eJ hs0
  have hba:Hid (b=a):=jd (by rw [HB.out,hs0];rfl)
  have hlt:¬ ((a:Int)+1<(b:Int)):=by rw [hba.out];omega
  subst hs
  clear hs0
  go_wp2_with fail
  go_loop [8] (fun s8=>s8=.int .i64 ((a:Int)+1)) (fun _=>0)
  case atStart=>go_num
  case round=>
   obtain rfl:=hrel
   go_wp2
   go_end0
   exact ⟨_,rfl,[],List.Pairwise.nil,StEq.refl _,by simpa using H⟩
 ·have hs1:a+1≤b:=by have:=HB.out;omega
  go_wp2_with fail
  go_loopw [8] (fun s8 wx=>∃ (i:Nat) (S1 S2 U:List A),a+1≤i∧i≤b∧s8=.int .i64 i∧Hid (s=S1++S2)∧Hid (a+S1.length=i)∧Hid (Srt key U)∧Hid (StEq key S1 U)∧Own w0 wx ((sL g N c (p++U++S2++q))::ps)) (fun s8 _=>b-(intOf s8).toNat)
  case atStart=>
   obtain ⟨x,s2,hs⟩:∃ x s2,s=x::s2:=by
    cases s with
    | nil=>simp at hs0
    | cons x s2=>exact ⟨x,s2,rfl⟩
   exact ⟨a+1,[x],s2,[x],by omega,hs1,by go_num,jd (by rw [hs];rfl),jd rfl,jd (List.pairwise_singleton ..),jd (StEq.refl _),by rw [hs] at H;simpa using H⟩
  case round=>
   clear H hs0
   obtain ⟨i,S1,S2,U,hi1,hi2,rfl,hs,hl,hU,hSU,H⟩:=hrel
   by_cases hib:i<b
   ·obtain ⟨x,S3,hS2⟩:∃ x S3,S2=x::S3:=by
     cases S2 with
     | nil=>exfalso;have h1:=HB.out;have h2:=hl.out;rw [hs.out] at h1;simp at h1;omega
     | cons x S3=>exact ⟨x,S3,rfl⟩
    subst hS2
    have hokx:ok x:=HOK.out x (by rw [hs.out];simp)
    have hokU:Hid (∀ u∈U,ok u):=jd fun u hu=>HOK.out u (by rw [hs.out];exact List.mem_append.2 (.inl (hSU.out.symm.mem hu)))
    have hUl:Hid (a+U.length=i):=jd (by rw [← hSU.out.length];exact hl.out)
    have hibI:(i:Int)<(b:Int):=by omega
    go_upto_block 1 with (fail)
    go_cut [] (fun wx=>∃ U',Hid (Srt key U')∧Hid (StEq key (S1++[x]) U')∧Own w0 wx ((sL g N c (p++U'++S3++q))::ps))
    case first=>
     go_wp2_with fail
     go_loopw [9] (fun s9 wx=>∃ (j:Nat) (U1 U2:List A),a≤j∧j≤i∧s9=.int .i64 j∧Hid (U=U1++U2)∧Hid (a+U1.length=j)∧Hid (∀ u∈U2,key x<key u)∧Own w0 wx ((sL g N c (p++U1++x::(U2++S3++q)))::ps)) (fun s9 _=>(intOf s9).toNat)
     case atStart=>exact ⟨i,U,[],by omega,by omega,rfl,jd (by simp),hUl,jd (by simp),by simpa using H⟩
     case round=>
      clear H
      obtain ⟨j,U1,U2,hj1,hj2,rfl,hU12,hU1,hgt,H⟩:=hrel
      have hfin:∀ wz,(∀ u∈U1,key u≤key x)→Own w0 wz ((sL g N c (p++U1++x::(U2++S3++q)))::ps)→∃ U',Hid (Srt key U')∧Hid (StEq key (S1++[x]) U')∧Own w0 wz ((sL g N c (p++U'++S3++q))::ps):=by
       intro wz hle h
       have hs':Srt key (U1++U2):=by rw [← hU12.out];exact hU.out
       have hm:=Mrg.one_right (y:=x) hs' hle hgt.out
       refine ⟨U1++x::U2,jd hm.1,jd (StEq.trans ((hSU.out.app (StEq.refl [x]))) (by rw [hU12.out];exact hm.2)),?_⟩
       simpa using h
      have HFIN:=jd hfin
      clear hfin
      by_cases hja:a<j
      ·obtain ⟨U3,u,hU3⟩:=last_split U1 (by have:=hU1.out;omega)
       subst hU3
       have hjl:j=(p++U3).length+1:=by
        have h1:=hU1.out
        have h2:=HP.out
        rw [lJ,List.length_singleton] at h1
        rw [lJ]
        omega
       have el1:p++(U3++[u])++x::(U2++S3++q)=(p++U3)++u::([]++x::(U2++S3++q)):=by simp
       rw [el1] at H HFIN
       have hg1:((p++U3)++u::([]++x::(U2++S3++q)))[j-1]?=some u:=get_mid _ _ _ (by omega)
       have hg2:((p++U3)++u::([]++x::(U2++S3++q)))[j]?=some x:=by
        have:(p++U3)++u::([]++x::(U2++S3++q))=((p++U3)++[u])++x::(U2++S3++q):=by simp
        rw [this]
        exact get_mid _ _ _ (by simp only [lJ,List.length_cons,List.length_nil] at hjl ⊢;omega)
       have hLn:((p++U3)++u::([]++x::(U2++S3++q))).length=N:=by
        have h1:=HN.out
        have h2:=hUl.out
        have h3:=hU12.out
        have h4:=hl.out
        rw [hs.out] at h1
        rw [h3] at h2
        simp only [lJ,List.length_cons,List.length_nil] at h1 h2 ⊢
        omega
       obtain ⟨j',rfl⟩:∃ j',j=j'+1:=⟨j-1,by omega⟩
       have hsw:=set_swap (p++U3) [] (U2++S3++q) u x (i:=j') (j:=j'+1) (by omega) (by simp only [List.length_nil];omega)
       rw [Nat.add_sub_cancel] at hg1
       obtain ⟨L,hL⟩:∃ L,Hid ((p++U3)++u::([]++x::(U2++S3++q))=L):=⟨_,jd rfl⟩
       rw [hL.out] at H hg1 hg2 hsw hLn HFIN
       have HG1:=jd hg1
       have HG2:=jd hg2
       have e1:=set_rows (l:=L) (i:=(j'+1)) (by rw [hLn];omega) u
       have e2:=(set_rows (l:=L.set (j'+1) u) (i:=j') (by rw [List.length_set,hLn];omega) x).trans (show rows eC ((L.set (j'+1) u).set j' x)=rows eC (p++U3++x::((u::U2)++S3++q)) from by rw [List.set_comm _ _ (by omega),hsw];simp)
       have E1:=jd e1
       have E2:=jd e2
       have hU3l:Hid (a+U3.length=j'):=jd (by have:=HP.out;simp only [lJ] at hjl;omega)
       have hoku:ok u:=hokU.out u (by rw [hU12.out];simp)
       have hcall:=fun (wz:World) (h:Own w0 wz ((sL g N c L)::ps))=>HC.out wz _ h x u hokx hoku
       have hcl:=cmpI_lt (key x) (key u)
       obtain ⟨cv,hcv⟩:∃ cv,Hid (cmpI (key x) (key u)=cv):=⟨_,rfl⟩
       simp only [hcv.out] at hcall hcl
       have HCALL:=jd hcall
       have hj1':a≤j':=by omega
       have hjaI:(a:Int)<(j':Int)+1:=by omega
       have hjN:(j':Int)+1<(N:Int):=by omega
       have hjT:((j':Int)+1).toNat=j'+1:=by omega
       have hjw:IntKind.i64.wrap (j':Int)=(j':Int):=IntWalk.i64_in _ ⟨by omega,by omega⟩
       have hjN0:(j':Int)<(N:Int):=by omega
       have hj0:(0:Int)≤(j':Int):=by omega
       have hjs:((j':Int)+1-1)=(j':Int):=by omega
       clear hg1 hg2 hsw hLn e1 e2 el1 hjl hL hcall hja hU1 hj1
       go_upto_region 4 with (fail)
       refine Qa (fun w1=>Own w0 w1 ((sL g N c L)::ps)) 16 (by kernel_rfl) (by kernel_rfl) H.drew ?_
       simp only [List.take_succ_cons,List.take_zero,List.drop_succ_cons,List.drop_zero]
       repeat
        first
        | (refine calm_value (v:=?_) (by decide) rfl (fun σ w1 hS=>?_) ?_
           rotate_left
           ·obtain ⟨c1,c1'⟩:=el hS.rd HG1.out;obtain ⟨c2,c2'⟩:=el hS.rd HG2.out
            first | (go_simp;rfl) | rfl
           simp only [Act.put,putC])
        | (refine calm_skip (by decide) rfl ?_
           simp only [Act.put,putC])
       refine calm_call (v:=.int .i64 cv) (by decide) rfl (fun w1=>(by go_simp;first | exact ⟨rfl,rfl⟩ | rfl)) (fun σ w1 hS=>?_) ?_
       ·refine (HCALL.out w1 hS).mono ?_
        rintro e w2 ⟨_,rfl,rfl,h2⟩
        exact ⟨rfl,hS.join h2⟩
       simp only [Act.put,putC]
       repeat
        first
        | (refine calm_value (v:=?_) (by decide) rfl (fun σ w1 hS=>?_) ?_
           rotate_left
           ·skip
            first | (go_simp;rfl) | rfl
           simp only [Act.put,putC])
        | (refine calm_skip (by decide) rfl ?_
           simp only [Act.put,putC])
       refine calm_nil ?_
       intro wd HD
       clear H
       by_cases hxu:key x<key u
       ·have hxu2:decide (key x<key u)=true:=by simp [hxu]
        have hgt2:Hid (∀ v∈u::U2,key x<key v):=jd fun v hv=>by
         rcases List.mem_cons.1 hv with rfl | hv
         ·exact hxu
         ·exact hgt.out v hv
        have hU':Hid (U=U3++(u::U2)):=jd (by rw [hU12.out];simp)
        rw [hxu2]
        clear hxu hxu2 HFIN hcl
        go_upto_region 6 with (fail)
        refine wp_region_pres (fun _ w1=>Own w0 w1 ((sL g N c L)::ps)) 14 [] [2,3,4] (by kernel_rfl) (by kernel_rfl) (by kernel_rfl) (by kernel_rfl) (fun _ _ d _ _ h=>by cases d <;> exact h) ⟨_,_,rfl,fun w=>(by first | rfl | (go_simp;rfl)),_,_,rfl,fun w=>(by first | rfl | (go_simp;rfl)),_,_,rfl,fun w=>(by first | rfl | (go_simp;rfl)),rfl⟩ HD.drew ?_
        simp only [List.take_succ_cons,List.take_zero,List.drop_succ_cons,List.drop_zero]
        repeat
         first
         | (refine calm_value (v:=?_) (by decide) rfl (fun σ w1 hS=>?_) ?_
            rotate_left
            ·obtain ⟨c1,c1'⟩:=el hS.rd HG1.out;obtain ⟨c2,c2'⟩:=el hS.rd HG2.out
             first | (go_simp;rfl) | rfl
            simp only [Act.put,putC])
         | (refine calm_skip (by decide) rfl ?_
            simp only [Act.put,putC])
        refine calm_nil ?_
        intro σ2 wd2 _ H2
        simp only [Jx,List.foldl_nil]
        clear HD
        go_wp2_with (first
         | (refine Jf rfl _ _ rfl (i:=j'+1) (by first | rfl | (rw [Nat.mul_one];rfl)) H2 (eC u) rfl (by kernel_rfl) rfl (by omega) (e_one u) ?_;clear H2;intro w5 H;rw [E1.out] at H)
         | (refine Jf rfl _ _ rfl (i:=j') (by first | rfl | (rw [Nat.mul_one];rfl)) H (eC x) rfl (by kernel_rfl) rfl (by omega) (e_one x) ?_;clear H;intro w6 H;rw [E2.out] at H))
        go_roundw
        case rel=>exact ⟨j',U3,u::U2,hj1',by omega,by go_num,hU',hU3l,hgt2,H⟩
        case measure=>simp [intOf]
       ·have hxu2:decide (key x<key u)=false:=by simp [hxu]
        rw [hxu2]
        have hle:Hid (∀ v∈U3++[u],key v≤key x):=jd fun v hv=>by
         have hs':Srt key ((U3++[u])++U2):=by rw [← hU12.out];exact hU.out
         rcases List.mem_append.1 hv with hv | hv
         ·have:=(hs'.left).across v hv u (by simp);omega
         ·simp at hv;subst hv;omega
        clear hxu hxu2 hcl
        go_wp2
        go_meet
        exact HFIN.out _ hle.out HD
      ·have hja2:j=a:=by omega
       have hU10:U1=[]:=by have:=hU1.out;exact eJ (by omega)
       subst hja2
       clear hja
       go_upto_region 4 with (fail)
       refine Qa (fun w1=>Own w0 w1 ((sL g N c (p++U1++x::(U2++S3++q)))::ps)) 16 (by kernel_rfl) (by kernel_rfl) H.drew ?_
       simp only [List.take_succ_cons,List.take_zero,List.drop_succ_cons,List.drop_zero]
       repeat
        first
        | (refine calm_value (v:=?_) (by decide) rfl (fun σ w1 hS=>?_) ?_
           rotate_left
           ·skip
            first | (go_simp;rfl) | rfl
           simp only [Act.put,putC])
        | (refine calm_skip (by decide) rfl ?_
           simp only [Act.put,putC])
       refine calm_nil ?_
       intro wd HD
       clear H
       go_wp2
       go_meet
       exact HFIN.out _ (by rw [hU10];simp) HD
    case rest=>
     clear H
     obtain ⟨U',hs',he',H⟩:=hcut
     go_wp2
     go_roundw
     case rel=>exact ⟨i+1,S1++[x],S3,U',by omega,by omega,by go_num,jd (by rw [hs.out];simp),jd (by rw [lJ,← Nat.add_assoc,hl.out];rfl),hs',he',H⟩
     case measure=>simp [intOf];omega
   ·have hib2:i=b:=by omega
    subst hib2
    have hS20:S2=[]:=by
     have h1:=HB.out;have h2:=hl.out
     rw [hs.out,lJ] at h1
     exact eJ (by omega)
    have hs1':s=S1:=by rw [hs.out,hS20,List.append_nil]
    rw [hS20,List.append_nil] at H
    have HE:=jd hs1'
    clear hS20 hs1'
    go_wp2
    go_end0
    exact ⟨_,rfl,U,hU.out,by rw [HE.out];exact hSU.out,H⟩):T_insert_any A eC EL SZ F_insertionSortCmpFunc cf Cmps:=h
end Go.Proofs.YthekdeikodppkaaGreatDoor
namespace Go.Proofs.YthekdeikodppkaaGreatDoor
open Go.RowKit
namespace SI
abbrev cf(B:Nat):Value:=.func (.func 329) #[] #[.pointer (some ⟨B,0,none⟩)]
abbrev ca(B:Nat)(x y:Int):Array Value:=#[.int .i64 x,.int .i64 y,.pointer (some ⟨B,0,none⟩)]
abbrev cg:Nat:=329
def Cmps(w0:World)(ps:List Piece)(B:Nat)(ok:Int→Prop)(key:Int→Int):Prop:=
 ∀ (wz:World) (row:Piece),Own w0 wz (row::ps)→∀ x y,ok x→ok y→Calls Tryz.prog cg (ca B x y) wz (Ret fun v w'=>v=.int .i64 (cmpI (key x) (key y))∧Own wz w' [])
open Go.Proofs.Tryz renaming func378 → fuinsertionSortCmpFunc, ntmps378 → ntinsertionSortCmpFunc
open Go.Proofs.YthekdeikodppkaaGreatDoor.SI renaming ie → eC
section
variable {w0 w:World} {ps:List Piece} {ok:Int→Prop} {key:Int→Int} {B:Nat}
set_option maxRecDepth 100000 in
set_option maxHeartbeats 3200000 in
def insert_any:=mk_insert_any Int ie 3 1 378 cf Cmps
end
end SI
end Go.Proofs.YthekdeikodppkaaGreatDoor
namespace Go.Proofs.YthekdeikodppkaaGreatDoor
open Go.RowKit
set_option maxRecDepth 1000000
def T_symL_any(A:Type)(eC:A→List Value)(EL:TypeId)(SZ:Nat)(F_symMergeCmpFunc:FuncId)(cf:Nat→Value)(Cmps:World→List Piece→Nat→(A→Prop)→(A→Int)→Prop):Prop:=∀ ⦃w0:World⦄ ⦃w:World⦄ ⦃ps:List Piece⦄ ⦃ok:A→Prop⦄ ⦃key:A→Int⦄ ⦃B:Nat⦄ ⦃g c N:Nat⦄ ⦃p y q:List A⦄ ⦃u:A⦄ ⦃a m b:Nat⦄ (hcmp:Cmps w0 ps B ok key) (hoku:ok u) (hoky:∀ v∈y,ok v) (hy:Srt key y) (ha:a=p.length) (hm:m=a+1) (hb:b=m+y.length) (hN:N=(p++[u]++y++q).length) (hNb:N≤1000000) (H:Own w0 w (slc EL SZ (.slice (some ⟨g,0,none⟩) N c) N (rows eC (p++[u]++y++q))::ps)),Calls Tryz.prog F_symMergeCmpFunc #[.slice (some ⟨g,0,none⟩) N c,.int .i64 a,.int .i64 m,.int .i64 b,cf B] w (Ret fun _ w'=>∃ z,Mrg key [u] y z∧Own w0 w' (slc EL SZ (.slice (some ⟨g,0,none⟩) N c) N (rows eC (p++z++q))::ps))
theorem mk_symL_any(A:Type)(eC:A→List Value)(EL:TypeId)(SZ:Nat)(F_symMergeCmpFunc:FuncId)(cf:Nat→Value)(Cmps:World→List Piece→Nat→(A→Prop)→(A→Int)→Prop)(h:T_symL_any A eC EL SZ F_symMergeCmpFunc cf Cmps:=by
 unfold T_symL_any
 intro w0 w ps ok key B g c N p y q u a m b hcmp hoku hoky hy ha hm hb hN hNb H
 have hbN:b≤N:=by rw [hN];simp only [lJ,List.length_singleton];omega
 have hNc:N≤c:=by obtain ⟨_,_,e,h1,_⟩:=H.rd.shape;cases e;exact h1
 have hc2:c≤9223372036854775807:=by obtain ⟨_,_,e,_,h1⟩:=H.rd.shape;cases e;exact h1
 have hgu:(p++[u]++y++q)[a]?=some u:=by
  have:p++[u]++y++q=p++u::(y++q):=by simp
  rw [this];exact get_mid _ _ _ ha
 have hgy:∀ t v,y[t]?=some v→(p++[u]++y++q)[m+t]?=some v:=by
  intro t v hv
  have:p++[u]++y++q=(p++[u])++(y++q):=by simp
  rw [this,List.getElem?_append_right (by simp only [lJ,List.length_singleton];omega),List.getElem?_append_left (by have:=(gJ hv).1;simp only [lJ,List.length_singleton];omega)]
  simp only [lJ,List.length_singleton]
  rw [show m+t-(p.length+1)=t by omega]
  exact hv
 have HGU:=jd hgu
 have HGY:=jd hgy
 have HP:=jd ha
 have HB:=jd hb
 have HN:=jd hN
 have HC:=jd hcmp
 have HOK:=jd hoky
 have HS:=jd hy
 obtain ⟨L,hL⟩:∃ L,Hid (p++[u]++y++q=L):=⟨_,jd rfl⟩
 rw [hL.out] at H HGU HGY
 have hmb:m≤b:=by omega
 have hma:((m:Int)-(a:Int))=1:=by omega
 have ham:a<m:=by omega
 have haN:(a:Int)<(N:Int):=by omega
 have HM:=jd hm
 clear ha hb hN hcmp hoky hy hgu hgy hm
 go_enter fusymMergeCmpFunc,ntsymMergeCmpFunc
 go_wp2_with fail
 go_loopw [10,11] (fun s10 s11 wx=>∃ (i j:Nat),s10=.int .i64 i∧s11=.int .i64 j∧m≤i∧i≤j∧j≤b∧Hid (∀ (t:Nat) (v:A),m+t<i→y[t]?=some v→key v<key u)∧Hid (∀ (t:Nat) (v:A),j≤m+t→y[t]?=some v→key u≤key v)∧Own w0 wx ((sL g N c L)::ps)) (fun s10 s11 _=>(intOf s11).toNat-(intOf s10).toNat)
 case atStart=>exact ⟨m,b,rfl,rfl,by omega,by omega,by omega,jd (fun t v h=>by omega),jd (fun t v h hv=>by have:=(gJ hv).1;have:=HB.out;omega),H⟩
 case round=>
  clear H
  obtain ⟨i,j,rfl,rfl,hmi,hij,hjb,hlo,hhi,H⟩:=hrel
  by_cases hlt:i<j
  ·obtain ⟨h,hh⟩:∃ h,Hid ((i+j)/2=h):=⟨_,rfl⟩
   have hih:i≤h:=by rw [← hh.out];omega
   have hhj:h<j:=by rw [← hh.out];omega
   have hsI:(((i:Int)+(j:Int))/2)=(h:Int):=by have:=hh.out;omega
   have hsU:IntKind.u64.wrap ((i:Int)+(j:Int))=(i:Int)+(j:Int):=by simp [IntKind.wrap,IntKind.bits,IntKind.signed];omega
   obtain ⟨t,ht⟩:∃ t,h=m+t:=⟨h-m,by omega⟩
   obtain ⟨v,hv⟩:=Ql (l:=y) (k:=t) (by have:=HB.out;omega)
   have hg:=HGY.out t v hv
   rw [← ht] at hg
   have HG:=jd hg
   have hokv:ok v:=HOK.out v (List.mem_of_getElem? hv)
   have hcall:=fun (wz:World) (h:Own w0 wz ((sL g N c L)::ps))=>HC.out wz _ h v u hokv hoku
   have hcl:=cmpI_lt (key v) (key u)
   obtain ⟨cv,hcv⟩:∃ cv,Hid (cmpI (key v) (key u)=cv):=⟨_,rfl⟩
   simp only [hcv.out] at hcall hcl
   have HCALL:=jd hcall
   have hhN:(h:Int)<(N:Int):=by omega
   have hlo2:key v<key u→Hid (∀ (t':Nat) (v':A),m+t'<h+1→y[t']?=some v'→key v'<key u):=fun hk=>jd fun t' v' ht' hv'=>by
    by_cases e:t'=t
    ·subst e;rw [hv] at hv';cases hv';exact hk
    ·have h1:=List.pairwise_iff_getElem.1 HS.out t' t (gJ hv').1 (gJ hv).1 (by omega)
     rw [(gJ hv').2,(gJ hv).2] at h1
     omega
   have hhi2:¬ key v<key u→Hid (∀ (t':Nat) (v':A),h≤m+t'→y[t']?=some v'→key u≤key v'):=fun hk=>jd fun t' v' ht' hv'=>by
    by_cases e:t'=t
    ·subst e;rw [hv] at hv';cases hv';omega
    ·have h1:=List.pairwise_iff_getElem.1 HS.out t t' (gJ hv).1 (gJ hv').1 (by omega)
     rw [(gJ hv').2,(gJ hv).2] at h1
     omega
   have HLO2:=jd hlo2
   have HHI2:=jd hhi2
   clear hlo2 hhi2 hg hv ht hcall
   go_upto_region 5 with (fail)
   refine Qa (fun w1=>Own w0 w1 ((sL g N c L)::ps)) 10 (by kernel_rfl) (by kernel_rfl) H.drew ?_
   simp only [List.take_succ_cons,List.take_zero,List.drop_succ_cons,List.drop_zero]
   repeat
    first
    | (refine calm_value (v:=?_) (by decide) rfl (fun σ w1 hS=>?_) ?_
       rotate_left
       ·obtain ⟨c1,c1'⟩:=el hS.rd HG.out;obtain ⟨c2,c2'⟩:=el hS.rd HGU.out
        first | (go_simp;rfl) | rfl
       simp only [Act.put,putC])
    | (refine calm_skip (by decide) rfl ?_
       simp only [Act.put,putC])
   refine calm_call (v:=.int .i64 cv) (by decide) rfl (fun w1=>(by go_simp;first | exact ⟨rfl,rfl⟩ | rfl)) (fun σ w1 hS=>?_) ?_
   ·refine (HCALL.out w1 hS).mono ?_
    rintro e w2 ⟨_,rfl,rfl,h2⟩
    exact ⟨rfl,hS.join h2⟩
   simp only [Act.put,putC]
   refine calm_nil ?_
   intro wd HD
   clear H
   by_cases hk:key v<key u
   ·have hk2:decide (cv<0)=true:=by rw [hcl];simp [hk]
    have hn:=HLO2.out hk
    clear hk hcl HHI2
    go_wp2
    go_roundw
    case rel=>exact ⟨h+1,j,by go_num,rfl,by omega,by omega,by omega,hn,hhi,HD⟩
    case measure=>simp [intOf];omega
   ·have hk2:decide (cv<0)=false:=by rw [hcl];simp [hk]
    have hn:=HHI2.out hk
    clear hk hcl HLO2
    go_wp2
    go_roundw
    case rel=>exact ⟨i,h,rfl,by go_num,by omega,by omega,by omega,hlo,hn,HD⟩
    case measure=>simp [intOf];omega
  ·have hij2:i=j:=by omega
   subst hij2
   obtain ⟨y1,y2,hys,hy1⟩:=split_at y (i-m) (by have:=HB.out;omega)
   have hlt1:∀ v∈y1,key v<key u:=fun v hv=>by
    obtain ⟨t,ht,rfl⟩:=List.getElem_of_mem hv
    refine hlo.out t _ (by omega) ?_
    rw [hys,List.getElem?_append_left ht,List.getElem?_eq_getElem ht]
   have hge2:∀ v∈y2,key u≤key v:=fun v hv=>by
    obtain ⟨t,ht,rfl⟩:=List.getElem_of_mem hv
    refine hhi.out (y1.length+t) _ (by omega) ?_
    rw [hys,List.getElem?_append_right (by omega),Nat.add_sub_cancel_left,List.getElem?_eq_getElem ht]
   have hmrg:Mrg key [u] y (y1++u::y2):=by
    have:=Mrg.one_left (key:=key) (x:=u) (y1:=y1) (y2:=y2) (by rw [← hys];exact HS.out) hlt1 hge2
    rwa [← hys] at this
   have HMRG:=jd hmrg
   have HY1:=jd hy1
   have hLe:Hid (L=p++u::(y1++y2++q)):=jd (by rw [← hL.out,hys];simp)
   have hiw:IntKind.i64.wrap ((i:Int)-1)=(i:Int)-1:=IntWalk.i64_in _ ⟨by omega,by omega⟩
   have hHL:Hid (L.length=N):=jd (by rw [← hL.out,← HN.out])
   clear hlo hhi hys hlt1 hge2 hmrg hy1 hlt
   rw [hLe.out] at H
   go_wp2_with fail
   go_loopw [13] (fun s13 wx=>∃ (k:Nat) (Y1 Y2:List A),s13=.int .i64 k∧a≤k∧k+1≤i∧Hid (y1=Y1++Y2)∧Hid (a+Y1.length=k)∧Own w0 wx ((sL g N c (p++Y1++u::(Y2++(y2++q))))::ps)) (fun s13 _=>i-(intOf s13).toNat)
   case atStart=>exact ⟨a,[],y1,rfl,by omega,by omega,jd rfl,jd rfl,by simpa using H⟩
   case round=>
    clear H
    obtain ⟨k,Y1,Y2,rfl,hk1,hk2,hy1,hYl,H⟩:=hrel
    by_cases hki:k+1<i
    ·obtain ⟨v,Y3,hY2⟩:∃ v Y3,Y2=v::Y3:=by
      cases Y2 with
      | nil=>exfalso;have h1:=HY1.out;have h2:=hYl.out;rw [hy1.out] at h1;simp at h1;have:=HM.out;omega
      | cons v Y3=>exact ⟨v,Y3,rfl⟩
     subst hY2
     have el1:p++Y1++u::(v::Y3++(y2++q))=(p++Y1)++u::([]++v::(Y3++(y2++q))):=by simp
     rw [el1] at H
     have hkl:k=(p++Y1).length:=by rw [lJ,← HP.out];exact hYl.out.symm
     have hLn:((p++Y1)++u::([]++v::(Y3++(y2++q)))).length=N:=by
      rw [← hHL.out,hLe.out,hy1.out]
      simp only [lJ,List.length_cons,List.length_nil]
      omega
     have hg1:((p++Y1)++u::([]++v::(Y3++(y2++q))))[k]?=some u:=get_mid _ _ _ hkl
     have hg2:((p++Y1)++u::([]++v::(Y3++(y2++q))))[k+1]?=some v:=by
      have:(p++Y1)++u::([]++v::(Y3++(y2++q)))=((p++Y1)++[u])++v::(Y3++(y2++q)):=by simp
      rw [this]
      exact get_mid _ _ _ (by rw [lJ,List.length_singleton,← hkl])
     have hsw:=set_swap (p++Y1) [] (Y3++(y2++q)) u v (i:=k) (j:=k+1) hkl (by simp only [List.length_nil];omega)
     obtain ⟨M,hM⟩:∃ M,Hid ((p++Y1)++u::([]++v::(Y3++(y2++q)))=M):=⟨_,jd rfl⟩
     rw [hM.out] at H hg1 hg2 hsw hLn
     have HG1:=jd hg1
     have HG2:=jd hg2
     have e1:=set_rows (l:=M) (i:=k) (by rw [hLn];omega) v
     have e2:=(set_rows (l:=M.set k v) (i:=(k+1)) (by rw [List.length_set,hLn];omega) u).trans (show rows eC ((M.set k v).set (k+1) u)=rows eC (p++(Y1++[v])++u::(Y3++(y2++q))) from by rw [hsw];simp)
     have E1:=jd e1
     have E2:=jd e2
     have hkiI:(k:Int)<(i:Int)-1:=by omega
     have hkN:(k:Int)<(N:Int):=by omega
     have hkN1:(k:Int)+1<(N:Int):=by omega
     have hkT:((k:Int)+1).toNat=k+1:=by omega
     have hkw:IntKind.i64.wrap ((k:Int)+1)=(k:Int)+1:=IntWalk.i64_in _ ⟨by omega,by omega⟩
     have hY':Hid (y1=(Y1++[v])++Y3):=jd (by rw [hy1.out];simp)
     have hYl':Hid (a+(Y1++[v]).length=k+1):=jd (by rw [lJ,List.length_singleton];have:=hYl.out;omega)
     clear hg1 hg2 hsw hLn e1 e2 el1 hkl hM
     go_upto_region 11 with (fail)
     refine wp_region_pres (fun _ w1=>Own w0 w1 ((sL g N c M)::ps)) 14 [] [2,3,4] (by kernel_rfl) (by kernel_rfl) (by kernel_rfl) (by kernel_rfl) (fun _ _ d _ _ h=>by cases d <;> exact h) ⟨_,_,rfl,fun w=>(by first | rfl | (go_simp;rfl)),_,_,rfl,fun w=>(by first | rfl | (go_simp;rfl)),_,_,rfl,fun w=>(by first | rfl | (go_simp;rfl)),rfl⟩ H.drew ?_
     simp only [List.take_succ_cons,List.take_zero,List.drop_succ_cons,List.drop_zero]
     repeat
      first
      | (refine calm_value (v:=?_) (by decide) rfl (fun σ w1 hS=>?_) ?_
         rotate_left
         ·obtain ⟨c1,c1'⟩:=el hS.rd HG1.out;obtain ⟨c2,c2'⟩:=el hS.rd HG2.out
          first | (go_simp;rfl) | rfl
         simp only [Act.put,putC])
      | (refine calm_skip (by decide) rfl ?_
         simp only [Act.put,putC])
     refine calm_nil ?_
     intro σ2 wd2 _ H2
     simp only [Jx,List.foldl_nil]
     clear H
     go_wp2_with (first
      | (refine Jf rfl _ _ rfl (i:=k) (by first | rfl | (rw [Nat.mul_one];rfl)) H2 (eC v) rfl (by kernel_rfl) rfl (by omega) (e_one v) ?_;clear H2;intro w5 H;rw [E1.out] at H)
      | (refine Jf rfl _ _ rfl (i:=k+1) (by first | rfl | (rw [Nat.mul_one];rfl)) H (eC u) rfl (by kernel_rfl) rfl (by omega) (e_one u) ?_;clear H;intro w6 H;rw [E2.out] at H))
     go_roundw
     case rel=>exact ⟨k+1,Y1++[v],Y3,by go_num,by omega,by omega,hY',hYl',H⟩
     case measure=>simp [intOf];omega
    ·have hY20:Y2=[]:=by
      have h1:=HY1.out;have h2:=hYl.out
      rw [hy1.out,lJ] at h1
      have:=HM.out
      exact eJ (by omega)
     have hnk:¬ ((k:Int)<(i:Int)-1):=by omega
     have e1:Hid (y1=Y1):=jd (by rw [hy1.out,hY20,List.append_nil])
     have el2:p++Y1++u::(Y2++(y2++q))=p++(y1++u::y2)++q:=by rw [hY20,e1.out];simp
     rw [el2] at H
     clear el2 hY20 hki
     go_wp2
     go_end0
     exact ⟨_,rfl,_,HMRG.out,by simpa using H⟩):T_symL_any A eC EL SZ F_symMergeCmpFunc cf Cmps:=h
end Go.Proofs.YthekdeikodppkaaGreatDoor
namespace Go.Proofs.YthekdeikodppkaaGreatDoor
open Go.RowKit
namespace SI
open Go.Proofs.Tryz renaming func379 → fusymMergeCmpFunc, ntmps379 → ntsymMergeCmpFunc
open Go.Proofs.YthekdeikodppkaaGreatDoor.SI renaming ie → eC
section
variable {w0 w:World} {ps:List Piece} {ok:Int→Prop} {key:Int→Int} {B:Nat}
set_option maxRecDepth 100000 in
set_option maxHeartbeats 6400000 in
def symL_any:=mk_symL_any Int ie 3 1 379 cf Cmps
end
end SI
end Go.Proofs.YthekdeikodppkaaGreatDoor
namespace Go.Proofs.YthekdeikodppkaaGreatDoor
open Go.RowKit
set_option maxRecDepth 1000000
def T_symR_any(A:Type)(eC:A→List Value)(EL:TypeId)(SZ:Nat)(F_symMergeCmpFunc:FuncId)(cf:Nat→Value)(Cmps:World→List Piece→Nat→(A→Prop)→(A→Int)→Prop):Prop:=∀ ⦃w0:World⦄ ⦃w:World⦄ ⦃ps:List Piece⦄ ⦃ok:A→Prop⦄ ⦃key:A→Int⦄ ⦃B:Nat⦄ ⦃g c N:Nat⦄ ⦃p x q:List A⦄ ⦃u:A⦄ ⦃a m b:Nat⦄ (hcmp:Cmps w0 ps B ok key) (hoku:ok u) (hokx:∀ v∈x,ok v) (hx:Srt key x) (hx2:2≤x.length) (ha:a=p.length) (hm:m=a+x.length) (hb:b=m+1) (hN:N=(p++x++[u]++q).length) (hNb:N≤1000000) (H:Own w0 w (slc EL SZ (.slice (some ⟨g,0,none⟩) N c) N (rows eC (p++x++[u]++q))::ps)),Calls Tryz.prog F_symMergeCmpFunc #[.slice (some ⟨g,0,none⟩) N c,.int .i64 a,.int .i64 m,.int .i64 b,cf B] w (Ret fun _ w'=>∃ z,Mrg key x [u] z∧Own w0 w' (slc EL SZ (.slice (some ⟨g,0,none⟩) N c) N (rows eC (p++z++q))::ps))
theorem mk_symR_any(A:Type)(eC:A→List Value)(EL:TypeId)(SZ:Nat)(F_symMergeCmpFunc:FuncId)(cf:Nat→Value)(Cmps:World→List Piece→Nat→(A→Prop)→(A→Int)→Prop)(h:T_symR_any A eC EL SZ F_symMergeCmpFunc cf Cmps:=by
 unfold T_symR_any
 intro w0 w ps ok key B g c N p x q u a m b hcmp hoku hokx hx hx2 ha hm hb hN hNb H
 have hbN:b≤N:=by rw [hN];simp only [lJ,List.length_singleton];omega
 have hNc:N≤c:=by obtain ⟨_,_,e,h1,_⟩:=H.rd.shape;cases e;exact h1
 have hc2:c≤9223372036854775807:=by obtain ⟨_,_,e,_,h1⟩:=H.rd.shape;cases e;exact h1
 have hgu:(p++x++[u]++q)[m]?=some u:=by
  have:p++x++[u]++q=(p++x)++u::q:=by simp
  rw [this];exact get_mid _ _ _ (by rw [lJ];omega)
 have hgx:∀ (t:Nat) v,x[t]?=some v→(p++x++[u]++q)[a+t]?=some v:=by
  intro t v hv
  have:p++x++[u]++q=p++(x++(u::q)):=by simp
  rw [this,List.getElem?_append_right (by omega),List.getElem?_append_left (by have:=(gJ hv).1;omega)]
  rw [show a+t-p.length=t by omega]
  exact hv
 have HGU:=jd hgu
 have HGX:=jd hgx
 have HP:=jd ha
 have HM:=jd hm
 have HN:=jd hN
 have HC:=jd hcmp
 have HOK:=jd hokx
 have HS:=jd hx
 obtain ⟨L,hL⟩:∃ L,Hid (p++x++[u]++q=L):=⟨_,jd rfl⟩
 rw [hL.out] at H HGU HGX
 have hmN:m<N:=by omega
 have ham:a+2≤m:=by omega
 have hma:(((m:Int)-(a:Int))==1)=false:=by simp;omega
 have hbm:((b:Int)-(m:Int))=1:=by omega
 have hbm2:m≤b:=by omega
 clear ha hb hN hcmp hokx hx hgu hgx hm hx2
 go_enter fusymMergeCmpFunc,ntsymMergeCmpFunc
 go_wp2_with fail
 go_loopw [14,15] (fun s10 s11 wx=>∃ (i j:Nat),s10=.int .i64 i∧s11=.int .i64 j∧a≤i∧i≤j∧j≤m∧Hid (∀ (t:Nat) (v:A),a+t<i→x[t]?=some v→key v≤key u)∧Hid (∀ (t:Nat) (v:A),j≤a+t→x[t]?=some v→key u<key v)∧Own w0 wx ((sL g N c L)::ps)) (fun s10 s11 _=>(intOf s11).toNat-(intOf s10).toNat)
 case atStart=>exact ⟨a,m,rfl,rfl,by omega,by omega,by omega,jd (fun t v h=>by omega),jd (fun t v h hv=>by have:=(gJ hv).1;have:=HM.out;omega),H⟩
 case round=>
  clear H
  obtain ⟨i,j,rfl,rfl,hmi,hij,hjb,hlo,hhi,H⟩:=hrel
  by_cases hlt:i<j
  ·obtain ⟨h,hh⟩:∃ h,Hid ((i+j)/2=h):=⟨_,rfl⟩
   have hih:i≤h:=by rw [← hh.out];omega
   have hhj:h<j:=by rw [← hh.out];omega
   have hsI:(((i:Int)+(j:Int))/2)=(h:Int):=by have:=hh.out;omega
   have hsU:IntKind.u64.wrap ((i:Int)+(j:Int))=(i:Int)+(j:Int):=by simp [IntKind.wrap,IntKind.bits,IntKind.signed];omega
   obtain ⟨t,ht⟩:∃ t,h=a+t:=⟨h-a,by omega⟩
   obtain ⟨v,hv⟩:=Ql (l:=x) (k:=t) (by have:=HM.out;omega)
   have hg:=HGX.out t v hv
   rw [← ht] at hg
   have HG:=jd hg
   have hokv:ok v:=HOK.out v (List.mem_of_getElem? hv)
   have hcall:=fun (wz:World) (h:Own w0 wz ((sL g N c L)::ps))=>HC.out wz _ h u v hoku hokv
   have hcl:=cmpI_lt (key u) (key v)
   obtain ⟨cv,hcv⟩:∃ cv,Hid (cmpI (key u) (key v)=cv):=⟨_,rfl⟩
   simp only [hcv.out] at hcall hcl
   have HCALL:=jd hcall
   have hhN:(h:Int)<(N:Int):=by omega
   have hlo2:¬ key u<key v→Hid (∀ (t':Nat) (v':A),a+t'<h+1→x[t']?=some v'→key v'≤key u):=fun hk=>jd fun t' v' ht' hv'=>by
    by_cases e:t'=t
    ·subst e;rw [hv] at hv';cases hv';omega
    ·have h1:=List.pairwise_iff_getElem.1 HS.out t' t (gJ hv').1 (gJ hv).1 (by omega)
     rw [(gJ hv').2,(gJ hv).2] at h1
     omega
   have hhi2:key u<key v→Hid (∀ (t':Nat) (v':A),h≤a+t'→x[t']?=some v'→key u<key v'):=fun hk=>jd fun t' v' ht' hv'=>by
    by_cases e:t'=t
    ·subst e;rw [hv] at hv';cases hv';exact hk
    ·have h1:=List.pairwise_iff_getElem.1 HS.out t t' (gJ hv).1 (gJ hv').1 (by omega)
     rw [(gJ hv').2,(gJ hv).2] at h1
     omega
   have HLO2:=jd hlo2
   have HHI2:=jd hhi2
   clear hlo2 hhi2 hg hv ht hcall
   go_upto_region 17 with (fail)
   refine Qa (fun w1=>Own w0 w1 ((sL g N c L)::ps)) 10 (by kernel_rfl) (by kernel_rfl) H.drew ?_
   simp only [List.take_succ_cons,List.take_zero,List.drop_succ_cons,List.drop_zero]
   have hmNI:(m:Int)<(N:Int):=by omega
   repeat
    first
    | (refine calm_value (v:=?_) (by decide) rfl (fun σ w1 hS=>?_) ?_
       rotate_left
       ·obtain ⟨c1,c1'⟩:=el hS.rd HG.out;obtain ⟨c2,c2'⟩:=el hS.rd HGU.out
        first | (go_simp;rfl) | rfl
       simp only [Act.put,putC])
    | (refine calm_skip (by decide) rfl ?_
       simp only [Act.put,putC])
   refine calm_call (v:=.int .i64 cv) (by decide) rfl (fun w1=>(by go_simp;first | exact ⟨rfl,rfl⟩ | rfl)) (fun σ w1 hS=>?_) ?_
   ·refine (HCALL.out w1 hS).mono ?_
    rintro e w2 ⟨_,rfl,rfl,h2⟩
    exact ⟨rfl,hS.join h2⟩
   simp only [Act.put,putC]
   refine calm_nil ?_
   intro wd HD
   clear H
   by_cases hk:key u<key v
   ·have hk2:decide (cv<0)=true:=by rw [hcl];simp [hk]
    have hn:=HHI2.out hk
    clear hk hcl HLO2
    go_wp2
    go_roundw
    case rel=>exact ⟨i,h,rfl,by go_num,by omega,by omega,by omega,hlo,hn,HD⟩
    case measure=>simp [intOf];omega
   ·have hk2:decide (cv<0)=false:=by rw [hcl];simp [hk]
    have hn:=HLO2.out hk
    clear hk hcl HHI2
    go_wp2
    go_roundw
    case rel=>exact ⟨h+1,j,by go_num,rfl,by omega,by omega,by omega,hn,hhi,HD⟩
    case measure=>simp [intOf];omega
  ·have hij2:i=j:=by omega
   subst hij2
   obtain ⟨x1,x2,hxs,hx1⟩:=split_at x (i-a) (by have:=HM.out;omega)
   have hle1:∀ v∈x1,key v≤key u:=fun v hv=>by
    obtain ⟨t,ht,rfl⟩:=List.getElem_of_mem hv
    refine hlo.out t _ (by omega) ?_
    rw [hxs,List.getElem?_append_left ht,List.getElem?_eq_getElem ht]
   have hgt2:∀ v∈x2,key u<key v:=fun v hv=>by
    obtain ⟨t,ht,rfl⟩:=List.getElem_of_mem hv
    refine hhi.out (x1.length+t) _ (by omega) ?_
    rw [hxs,List.getElem?_append_right (by omega),Nat.add_sub_cancel_left,List.getElem?_eq_getElem ht]
   have hmrg:Mrg key x [u] (x1++u::x2):=by
    have:=Mrg.one_right (key:=key) (y:=u) (x1:=x1) (x2:=x2) (by rw [← hxs];exact HS.out) hle1 hgt2
    rwa [← hxs] at this
   have HMRG:=jd hmrg
   have HX1:=jd hx1
   have hx12:Hid (i+x2.length=m):=jd (by have h1:=HM.out;rw [hxs,lJ] at h1;omega)
   have hLe:Hid (L=p++x1++x2++u::q):=jd (by rw [← hL.out,hxs];simp)
   have hHL:Hid (L.length=N):=jd (by rw [← hL.out,← HN.out])
   clear hlo hhi hxs hle1 hgt2 hmrg hx1 hlt
   rw [hLe.out] at H
   go_wp2_with fail
   go_loopw [17] (fun s13 wx=>∃ (k:Nat) (X1 X2:List A),s13=.int .i64 k∧i≤k∧k≤m∧Hid (x2=X1++X2)∧Hid (i+X1.length=k)∧Own w0 wx ((sL g N c (p++x1++X1++u::(X2++q)))::ps)) (fun s13 _=>(intOf s13).toNat)
   case atStart=>exact ⟨m,x2,[],rfl,by omega,by omega,jd (by simp),hx12,by simpa using H⟩
   case round=>
    clear H
    obtain ⟨k,X1,X2,rfl,hk1,hk2,hx2,hXl,H⟩:=hrel
    by_cases hki:i<k
    ·obtain ⟨X3,v,hX1⟩:=last_split X1 (by have:=hXl.out;omega)
     subst hX1
     have el1:p++x1++(X3++[v])++u::(X2++q)=(p++x1++X3)++v::([]++u::(X2++q)):=by simp
     rw [el1] at H
     obtain ⟨k',rfl⟩:∃ k',k=k'+1:=⟨k-1,by omega⟩
     have hkl:k'=(p++x1++X3).length:=by
      have h1:=hXl.out;have h2:=HP.out;have h3:=HX1.out
      rw [lJ,List.length_singleton] at h1
      simp only [lJ]
      omega
     have hLn:((p++x1++X3)++v::([]++u::(X2++q))).length=N:=by
      rw [← hHL.out,hLe.out,hx2.out]
      simp only [lJ,List.length_cons,List.length_nil]
      omega
     have hg1:((p++x1++X3)++v::([]++u::(X2++q)))[k']?=some v:=get_mid _ _ _ hkl
     have hg2:((p++x1++X3)++v::([]++u::(X2++q)))[k'+1]?=some u:=by
      have:(p++x1++X3)++v::([]++u::(X2++q))=((p++x1++X3)++[v])++u::(X2++q):=by simp
      rw [this]
      exact get_mid _ _ _ (by rw [lJ (bs:=[v]),List.length_singleton,← hkl])
     have hsw:=set_swap (p++x1++X3) [] (X2++q) v u (i:=k') (j:=k'+1) hkl (by simp only [List.length_nil];omega)
     obtain ⟨M,hM⟩:∃ M,Hid ((p++x1++X3)++v::([]++u::(X2++q))=M):=⟨_,jd rfl⟩
     rw [hM.out] at H hg1 hg2 hsw hLn
     have HG1:=jd hg1
     have HG2:=jd hg2
     have e1:=set_rows (l:=M) (i:=(k'+1)) (by rw [hLn];omega) v
     have e2:=(set_rows (l:=M.set (k'+1) v) (i:=k') (by rw [List.length_set,hLn];omega) u).trans (show rows eC ((M.set (k'+1) v).set k' u)=rows eC (p++x1++X3++u::((v::X2)++q)) from by rw [List.set_comm _ _ (by omega),hsw];simp)
     have E1:=jd e1
     have E2:=jd e2
     have hik:i≤k':=by omega
     have hikI:(i:Int)<(k':Int)+1:=by omega
     have hkN:(k':Int)<(N:Int):=by omega
     have hkN1:(k':Int)+1<(N:Int):=by omega
     have hkT:((k':Int)+1).toNat=k'+1:=by omega
     have hkw:IntKind.i64.wrap (k':Int)=(k':Int):=IntWalk.i64_in _ ⟨by omega,by omega⟩
     have hX':Hid (x2=X3++(v::X2)):=jd (by rw [hx2.out];simp)
     have hXl':Hid (i+X3.length=k'):=jd (by have:=hXl.out;rw [lJ,List.length_singleton] at this;omega)
     clear hg1 hg2 hsw hLn e1 e2 el1 hkl hM hki
     go_upto_region 23 with (fail)
     refine wp_region_pres (fun _ w1=>Own w0 w1 ((sL g N c M)::ps)) 14 [] [2,3,4] (by kernel_rfl) (by kernel_rfl) (by kernel_rfl) (by kernel_rfl) (fun _ _ d _ _ h=>by cases d <;> exact h) ⟨_,_,rfl,fun w=>(by first | rfl | (go_simp;rfl)),_,_,rfl,fun w=>(by first | rfl | (go_simp;rfl)),_,_,rfl,fun w=>(by first | rfl | (go_simp;rfl)),rfl⟩ H.drew ?_
     simp only [List.take_succ_cons,List.take_zero,List.drop_succ_cons,List.drop_zero]
     repeat
      first
      | (refine calm_value (v:=?_) (by decide) rfl (fun σ w1 hS=>?_) ?_
         rotate_left
         ·obtain ⟨c1,c1'⟩:=el hS.rd HG1.out;obtain ⟨c2,c2'⟩:=el hS.rd HG2.out
          first | (go_simp;rfl) | rfl
         simp only [Act.put,putC])
      | (refine calm_skip (by decide) rfl ?_
         simp only [Act.put,putC])
     refine calm_nil ?_
     intro σ2 wd2 _ H2
     simp only [Jx,List.foldl_nil]
     clear H
     go_wp2_with (first
      | (refine Jf rfl _ _ rfl (i:=k'+1) (by first | rfl | (rw [Nat.mul_one];rfl)) H2 (eC v) rfl (by kernel_rfl) rfl (by omega) (e_one v) ?_;clear H2;intro w5 H;rw [E1.out] at H)
      | (refine Jf rfl _ _ rfl (i:=k') (by first | rfl | (rw [Nat.mul_one];rfl)) H (eC u) rfl (by kernel_rfl) rfl (by omega) (e_one u) ?_;clear H;intro w6 H;rw [E2.out] at H))
     go_roundw
     case rel=>exact ⟨k',X3,v::X2,by go_num,by omega,by omega,hX',hXl',H⟩
     case measure=>simp [intOf]
    ·have hik2:k=i:=by omega
     subst hik2
     have hX10:X1=[]:=by have:=hXl.out;exact eJ (by omega)
     have e1:Hid (x2=X2):=jd (by rw [hx2.out,hX10,List.nil_append])
     have el2:p++x1++X1++u::(X2++q)=p++(x1++u::x2)++q:=by rw [hX10,e1.out];simp
     rw [el2] at H
     clear el2 hX10 hki
     go_wp2
     go_end0
     exact ⟨_,rfl,_,HMRG.out,by simpa using H⟩):T_symR_any A eC EL SZ F_symMergeCmpFunc cf Cmps:=h
end Go.Proofs.YthekdeikodppkaaGreatDoor
namespace Go.Proofs.YthekdeikodppkaaGreatDoor
open Go.RowKit
namespace SI
open Go.Proofs.Tryz renaming func379 → fusymMergeCmpFunc, ntmps379 → ntsymMergeCmpFunc
open Go.Proofs.YthekdeikodppkaaGreatDoor.SI renaming ie → eC
section
variable {w0 w:World} {ps:List Piece} {ok:Int→Prop} {key:Int→Int} {B:Nat}
set_option maxRecDepth 100000 in
set_option maxHeartbeats 6400000 in
def symR_any:=mk_symR_any Int ie 3 1 379 cf Cmps
end
end SI
end Go.Proofs.YthekdeikodppkaaGreatDoor
