/-
  Texts of this claim, one behind the other: One step of a statement, statements in the text's own order, code, calls; Statements that draw their order; Blocks one further, a block put in; what looks the same is the same. No program in sight; Statements that draw their order.
-/
import Derived.Test.YthekdeikodppkaaGreatDoorKb6
import Derived.Orders
set_option linter.unusedVariables false
namespace Go.Proofs.YthekdeikodppkaaGreatDoor
open Go.RowKit
noncomputable section
inductive Rs (α:Type) where
 | ok (a:α)
 | no (l:List Nat)
inductive Tr where
 | lf
 | nd (v:AV) (l r:Tr)
def Tr.get(_:Nat)(t:Tr):Nat→AV:=
 Tr.rec (motive:=fun _=>Nat→AV) (fun _=>.tup []) (fun v _ _ il ir i=>Nat.casesOn (motive:=fun _=>AV) i v fun j=>Nat.casesOn (motive:=fun _=>AV) (j%2) (il (j/2)) fun _=>ir (j/2)) t
def Tr.set:Nat→Tr→Nat→AV→Tr
 | 0,t,_,_=>t
 | f+1,.lf,i,x=>match i with
  | 0=>.nd x .lf .lf
  | j+1=>match j%2 with
   | 0=>.nd (.tup []) (Tr.set f .lf (j/2) x) .lf
   | _=>.nd (.tup []) .lf (Tr.set f .lf (j/2) x)
 | f+1,.nd v l r,i,x=>match i with
  | 0=>.nd x l r
  | j+1=>match j%2 with
   | 0=>.nd v (Tr.set f l (j/2) x) r
   | _=>.nd v l (Tr.set f r (j/2) x)
def Tr.fset{β:Type}(f:Nat):Tr→Nat→AV→(Tr→β)→β:=
 Nat.rec (motive:=fun _=>Tr→Nat→AV→(Tr→β)→β) (fun t _ _ k=>k t) (fun _ ih t i x k=>
  Tr.casesOn (motive:=fun _=>β) t
   (Nat.casesOn (motive:=fun _=>β) i (k (.nd x .lf .lf)) fun j=>Nat.casesOn (motive:=fun _=>β) (j%2) (ih .lf (j/2) x fun l=>k (.nd (.tup []) l .lf)) fun _=>ih .lf (j/2) x fun r=>k (.nd (.tup []) .lf r))
   fun v l r=>Nat.casesOn (motive:=fun _=>β) i (k (.nd x l r)) fun j=>Nat.casesOn (motive:=fun _=>β) (j%2) (ih l (j/2) x fun l=>k (.nd v l r)) fun _=>ih r (j/2) x fun r=>k (.nd v l r)) f
theorem Tr.fset_eq{β:Type}:∀ (f:Nat) (t:Tr) (i:Nat) (x:AV) (k:Tr→β),Tr.fset f t i x k=k (t.set f i x)
 | 0,_,_,_,_=>rfl
 | f+1,.lf,0,_,_=>rfl
 | f+1,.nd v l r,0,_,_=>rfl
 | f+1,.lf,j+1,x,k=>by
  unfold Tr.set
  show Nat.casesOn (motive:=fun _=>β) (j%2) (Tr.fset f .lf (j/2) x fun l=>k (.nd (.tup []) l .lf)) (fun _=>Tr.fset f .lf (j/2) x fun r=>k (.nd (.tup []) .lf r))=_
  dsimp only
  generalize j%2=m
  cases m
  ·exact Tr.fset_eq f _ _ _ _
  ·exact Tr.fset_eq f _ _ _ _
 | f+1,.nd v l r,j+1,x,k=>by
  unfold Tr.set
  show Nat.casesOn (motive:=fun _=>β) (j%2) (Tr.fset f l (j/2) x fun l=>k (.nd v l r)) (fun _=>Tr.fset f r (j/2) x fun r=>k (.nd v l r))=_
  dsimp only
  generalize j%2=m
  cases m
  ·exact Tr.fset_eq f _ _ _ _
  ·exact Tr.fset_eq f _ _ _ _
theorem Tr.get_lf(f i:Nat):Tr.get f .lf i=.tup []:=rfl
theorem Tr.get_nd0(f:Nat)(v:AV)(l r:Tr):Tr.get f (.nd v l r) 0=v:=rfl
theorem Tr.get_nd(f g:Nat)(v:AV)(l r:Tr)(j:Nat):Tr.get f (.nd v l r) (j+1)=match j%2 with | 0=>Tr.get g l (j/2) | _=>Tr.get g r (j/2):=by
 show Nat.casesOn (motive:=fun _=>AV) (j%2) (Tr.get g l (j/2)) (fun _=>Tr.get g r (j/2))=_
 generalize j%2=m
 cases m <;> rfl
theorem Tr.get_set:∀ (f:Nat) (t:Tr) (i j:Nat) (x:AV),i+1<2^f→j+1<2^f→Tr.get f (t.set f i x) j=if i=j then x else Tr.get f t j
 | 0,t,i,j,x,hi,_=>by simp at hi
 | f+1,.lf,0,0,x,_,_=>rfl
 | f+1,.lf,0,j+1,x,_,_=>by
  simp only [Tr.set]
  rw [Tr.get_nd _ f]
  split <;> simp [Tr.get_lf]
 | f+1,.lf,i+1,0,x,_,_=>by
  simp only [Tr.set]
  split <;> simp [Tr.get_nd0,Tr.get_lf]
 | f+1,.lf,i+1,j+1,x,hi,hj=>by
  have h1:i/2+1<2^f:=by rw [Nat.pow_succ] at hi;omega
  have h2:j/2+1<2^f:=by rw [Nat.pow_succ] at hj;omega
  have ih:=Tr.get_set f .lf (i/2) (j/2) x h1 h2
  rw [Tr.get_lf] at ih
  have key:∀ a b:Nat,i%2=a→j%2=b→(i+1=j+1↔a=b∧i/2=j/2):=by intro a b;omega
  unfold Tr.set
  dsimp only
  split
  ·rename_i hp
   rw [Tr.get_nd _ f]
   split
   ·rename_i hq
    rw [ih]
    by_cases h:i/2=j/2
    ·rw [if_pos h,if_pos (by omega)]
    ·rw [if_neg h,if_neg (by omega)];rfl
   ·rename_i hq
    rw [if_neg (by intro h;exact hq (by omega))];rfl
  ·rename_i hp
   rw [Tr.get_nd _ f]
   split
   ·rename_i hq
    rw [if_neg (by intro h;exact hp (by omega))];rfl
   ·rename_i hq
    have hp':i%2≠0:=fun h=>hp h
    have hq':j%2≠0:=fun h=>hq h
    rw [ih]
    by_cases h:i/2=j/2
    ·rw [if_pos h,if_pos (by omega)]
    ·rw [if_neg h,if_neg (by omega)];rfl
 | f+1,.nd v l r,0,0,x,_,_=>rfl
 | f+1,.nd v l r,0,j+1,x,_,_=>by simp only [Tr.set];rw [Tr.get_nd _ f,Tr.get_nd _ f];simp
 | f+1,.nd v l r,i+1,0,x,_,_=>by
  simp only [Tr.set]
  split <;> simp [Tr.get_nd0,Tr.get_lf]
 | f+1,.nd v l r,i+1,j+1,x,hi,hj=>by
  have h1:i/2+1<2^f:=by rw [Nat.pow_succ] at hi;omega
  have h2:j/2+1<2^f:=by rw [Nat.pow_succ] at hj;omega
  have ih:=fun t=>Tr.get_set f t (i/2) (j/2) x h1 h2
  unfold Tr.set
  dsimp only
  split
  ·rename_i hp
   rw [Tr.get_nd _ f]
   split
   ·rename_i hq
    rw [ih]
    by_cases h:i/2=j/2
    ·rw [if_pos h,if_pos (by omega)]
    ·rw [if_neg h,if_neg (by omega),Tr.get_nd _ f];simp [*]
   ·rename_i hq
    rw [if_neg (by intro h;exact hq (by omega)),Tr.get_nd _ f];simp [*]
  ·rename_i hp
   rw [Tr.get_nd _ f]
   split
   ·rename_i hq
    rw [if_neg (by intro h;exact hp (by omega)),Tr.get_nd _ f];simp [*]
   ·rename_i hq
    have hp':i%2≠0:=fun h=>hp h
    have hq':j%2≠0:=fun h=>hq h
    rw [ih]
    by_cases h:i/2=j/2
    ·rw [if_pos h,if_pos (by omega)]
    ·rw [if_neg h,if_neg (by omega),Tr.get_nd _ f];simp [*]
structure Fr where
 n:Nat
 t:Tr
def Fr.get(f:Fr)(i:Nat):AV:=if Nat.blt i f.n then f.t.get 12 i else .tup []
def Fr.set(f:Fr)(i:Nat)(x:AV):Fr:=if Nat.blt i f.n then ⟨f.n,f.t.set 12 i x⟩ else f
def Fr.ok(f:Fr):Prop:=f.n≤4000
theorem Fr.get_out{f:Fr}{i:Nat}(h:f.n≤i):f.get i=.tup []:=by
 unfold Fr.get
 rw [if_neg (by simp only [Nat.blt_eq];omega)]
theorem Fr.get_set{f:Fr}(hf:f.ok)(i j:Nat)(x:AV):(f.set i x).get j=if i=j∧i<f.n then x else f.get j:=by
 unfold Fr.ok at hf
 unfold Fr.set
 by_cases hi:i<f.n
 ·have hb:Nat.blt i f.n=true:=by simpa using hi
  simp only [hb,if_true,Fr.get,hi,and_true]
  by_cases hj:j<f.n
  ·have hb2:Nat.blt j f.n=true:=by simpa using hj
   simp only [hb2,if_true]
   rw [Tr.get_set 12 f.t i j x (by omega) (by omega)]
  ·have hb2:¬ Nat.blt j f.n=true:=by simpa using hj
   rw [if_neg hb2,if_neg hb2,if_neg (by omega)]
 ·have hb:¬ Nat.blt i f.n=true:=by simpa using hi
  rw [if_neg hb,if_neg (by omega)]
theorem Fr.set_n(f:Fr)(i:Nat)(x:AV):(f.set i x).n=f.n:=by
 unfold Fr.set;split <;> rfl
theorem Fr.set_ok{f:Fr}(hf:f.ok)(i:Nat)(x:AV):(f.set i x).ok:=by unfold Fr.ok;rw [Fr.set_n];exact hf
def evOf(tm:Fr):Ev
 | .tmp t=>tm.get t
 | .const v=>ofVal v
 | .global g=>.lit (.pointer (some ⟨g,0,none⟩))
 | .func f=>.fn (.func f) [] []
def aput(tm:Fr)(d:Option Tmp)(v:AV):Fr:=
 match d with
 | some t=>tm.set t v
 | none=>tm
def fput{β:Type}(tm:Fr)(d:Option Tmp)(v:AV)(k:Fr→β):β:=
 match d with
 | some t=>if Nat.blt t tm.n then fAV v fun v=>Tr.fset 12 tm.t t v fun tr=>fNat tm.n fun n=>k ⟨n,tr⟩ else k tm
 | none=>k tm
theorem fput_eq{β:Type}(tm:Fr)(d:Option Tmp)(v:AV)(k:Fr→β):fput tm d v k=k (aput tm d v):=by
 cases d with
 | none=>rfl
 | some t=>
  simp only [fput,aput,fAV_eq,Tr.fset_eq,Vv,Fr.set]
  split <;> rfl
def aYield(ops:Array Oper)(tm:Fr)(j:Nat):Option Bool:=
 match ops[j]? with
 | some o=>match o.dst with
  | some t=>match tm.get t with
   | .lit (.bool b)=>some b
   | _=>none
  | none=>none
 | none=>none
section
variable {F:Funs} {e e':Env} {w0 w w':World} {h h':AH} {P:Program}
def FR(F:Funs)(e:Env)(tm:Fr)(tmps:Array Value):Prop:=tm.ok∧tm.n=tmps.size∧∀ i,VR F e (tm.get i) (tmps.getD i undef)
theorem FR.le{tm:Fr}{tmps:Array Value}(hle:e.le e')(ht:FR F e tm tmps):FR F e' tm tmps:=⟨ht.1,ht.2.1,fun i=>VR.le hle _ _ (ht.2.2 i)⟩
theorem evR_of{tm:Fr}{a:Act}(ht:FR F e tm a.tmps):EvR F e (evOf tm) a.eval:=by
 intro x
 cases x with
 | tmp t=>exact ht.2.2 t
 | const v=>exact vr_ofVal F e v
 | global g=>rfl
 | func f=>exact ⟨[],[],rfl,rfl,rfl⟩
theorem aput_vr{tm:Fr}{a:Act}{d:Option Tmp}{x:AV}{v:Value}(ht:FR F e tm a.tmps)(hv:VR F e x v):FR F e (aput tm d x) (a.put d v).tmps:=by
 cases d with
 | none=>exact ht
 | some t=>
  obtain ⟨h1,h2,h3⟩:=ht
  refine ⟨Fr.set_ok h1 _ _,by rw [aput,Fr.set_n];simpa [Act.put] using h2,fun i=>?_⟩
  simp only [aput,Act.put,Fr.get_set h1]
  by_cases hi:t=i∧t<tm.n
  ·obtain ⟨rfl,hi⟩:=hi
   rw [if_pos ⟨rfl,hi⟩]
   have:(a.tmps.setIfInBounds t v).getD t undef=v:=by
    rw [Array.getD_eq_getD_getElem?,Array.getElem?_setIfInBounds_self_of_lt (h2▸hi)];rfl
   rw [this];exact hv
  ·rw [if_neg hi]
   have:(a.tmps.setIfInBounds t v).getD i undef=a.tmps.getD i undef:=by
    by_cases hti:t=i
    ·subst hti
     have hlt:¬ t<a.tmps.size:=fun h=>hi ⟨rfl,h2.symm▸h⟩
     rw [Array.getD_eq_getD_getElem?,Array.getD_eq_getD_getElem?,Array.getElem?_eq_none (by simpa using hlt),Array.getElem?_eq_none (Nat.le_of_not_lt hlt)]
    ·rw [Array.getD_eq_getD_getElem?,Array.getD_eq_getD_getElem?,Array.getElem?_setIfInBounds_ne hti]
   rw [this];exact h3 i
theorem aYield_eq{ops:Array Oper}{tm:Fr}{a:Act}(ht:FR F e tm a.tmps)(j:Nat):yielded ops a.tmps j=aYield ops tm j:=by
 unfold yielded aYield
 cases hj:ops[j]? with
 | none=>rfl
 | some o=>
  simp only [Option.bind_some]
  cases hd:o.dst with
  | none=>rfl
  | some t=>
   simp only [Option.bind_some]
   have h2:=ht.2.2 t
   rcases Nat.lt_or_ge t a.tmps.size with hl | hl
   ·obtain ⟨v,h1⟩:∃ v,a.tmps[t]?=some v:=⟨_,Array.getElem?_eq_getElem hl⟩
    rw [Array.getD_eq_getD_getElem?,h1] at h2
    simp only [Option.getD_some] at h2
    rw [h1]
    generalize tm.get t=x at h2
    cases x
    case lit u=>rw [show v=u from h2];cases u <;> rfl
    case txt t=>rw [h2.2]
    case ptr b o=>obtain ⟨_,_,_,_,rfl⟩:=h2;rfl
    case slc b o n c es=>obtain ⟨_,_,_,_,_,_,rfl,_⟩:=h2;rfl
    case agg cs=>obtain ⟨_,rfl,_⟩:=h2;rfl
    case tup cs=>obtain ⟨_,rfl,_⟩:=h2;rfl
    case fn f x y=>obtain ⟨_,_,rfl,_⟩:=h2;rfl
    case map b=>obtain ⟨_,_,_,_,rfl⟩:=h2;rfl
   ·rw [Array.getElem?_eq_none hl,Fr.get_out (by rw [ht.2.1];exact hl)]
abbrev Jq:=FuncId→List AV→AH→Rs (AV × AH)
def Vs(F:Funs)(P:Program)(call:Jq):Prop:=∀ f args h v h',call f args h=.ok (v,h')→∀ (e:Env) (w0 w:World) (vs:Array Value),HR F e w0 w h→VRs F e args vs.toList →
 Calls P f vs w fun en w'=>∃ u,en=.returned u∧∃ e',e.le e'∧VR F e' v u∧HR F e' w0 w' h'
def Vm(ops:Array Oper)(tm:Fr)(o:Oper):Bool:=
 match o.guard with
 | none=>true
 | some (j,want)=>aYield ops tm j==some want
theorem awanted_eq{ops:Array Oper}{tm:Fr}{a:Act}(ht:FR F e tm a.tmps)(o:Oper):Region.wanted o (yielded ops a.tmps)=Vm ops tm o:=by
 unfold Region.wanted Vm
 split
 ·rename_i hg;rw [hg]
 ·rename_i j want hg;rw [hg];simp only;rw [aYield_eq ht]
def aDo(P:Program)(call:Jq)(ev:Ev)(o:Oper)(h:AH):Rs (AV × AH):=
 match aOp P ev o h with
 | some (.val v h')=>.ok (v,h')
 | some (.skip h')=>.ok (.tup [],h')
 | some (.enter f args)=>match call f args h with
  | .ok x=>.ok x
  | .no l=>.no (f::l)
 | none=>.no []
theorem aDo_wp{call:Jq}(hc:Vs F P call){o:Oper}{a:Act}{ev:Ev}{v:AV}{K:Act→World→Prop}{Q:Exit→Act→World→Prop}{ρ:Operand→Value}(he:execOp a.eval o=execOp ρ o)(hev:EvR F e ev ρ)(H:HR F e w0 w h)(hr:aDo P call ev o h=.ok (v,h'))
 (hk:∀ u w' e',e.le e'→VR F e' v u→HR F e' w0 w' h'→K (a.put o.dst u) w'):o.wp P a w K Q:=by
 unfold aDo at hr
 unfold Oper.wp
 rw [he]
 split at hr
 ·rename_i v' h'' ho
  cases hr
  obtain ⟨u,w',e',h1,h2,h3,h4⟩:=aOp_holds (P:=P) hev H ho
  rw [h1]
  exact hk u w' e' h2 h3 h4
 ·rename_i h'' ho
  cases hr
  obtain ⟨w',e',h1,h2,h3⟩:=aOp_holds (P:=P) hev H ho
  rw [h1]
  exact hk undef w' e' h2 ⟨[],rfl,rfl⟩ h3
 ·rename_i f args ho
  obtain ⟨us,h1,h2⟩:=aOp_holds (P:=P) hev H ho
  rw [h1]
  split at hr
  ·rename_i x hcall
   cases hr
   refine (hc f args h v h' hcall e w0 w us H h2).mono ?_
   rintro en w' ⟨u,rfl,e',g1,g2,g3⟩
   exact hk u w' e' g1 g2 g3
  ·cases hr
 ·cases hr
def aStep(P:Program)(call:Jq)(ops:Array Oper)(o:Oper)(tm:Fr)(h:AH):Rs (Fr × AH):=
 if Vm ops tm o then match aDo P call (evOf tm) o h with
  | .ok (v,h')=>fput tm o.dst v fun tm=>.ok (tm,h')
  | .no l=>.no l
 else fput tm o.dst (.tup []) fun tm=>.ok (tm,h)
theorem aStep_wp{call:Jq}(hc:Vs F P call){ops:Array Oper}{i:Nat}{o:Oper}(ho:ops[i]?=some o){a:Act}{tm tm':Fr}{K:Act→World→Prop}{Q:Exit→Act→World→Prop}(ht:FR F e tm a.tmps)(H:HR F e w0 w h)
 (hr:aStep P call ops o tm h=.ok (tm',h')) (hk:∀ a' w' e',e.le e'→FR F e' tm' a'.tmps→a'.defers=a.defers→HR F e' w0 w' h'→K a' w'):wpOp P ops Q i K a w:=by
 unfold aStep at hr
 simp only [fput_eq] at hr
 unfold wpOp
 simp only [ho]
 rw [awanted_eq ht]
 have hd:∀ u,(a.put o.dst u).defers=a.defers:=fun u=>by cases o.dst <;> rfl
 split at hr
 ·rename_i hw
  rw [if_pos hw]
  split at hr
  ·rename_i v h'' hdo
   cases hr
   refine .inl (aDo_wp hc rfl (evR_of ht) H hdo fun u w' e' g1 g2 g3=>hk _ w' e' g1 (aput_vr (ht.le g1) g2) (hd u) g3)
  ·cases hr
 ·rename_i hw
  cases hr
  rw [if_neg hw]
  exact hk _ w e (Env.le_refl _) (aput_vr ht ⟨[],rfl,rfl⟩) (hd _) H
def aSeq(P:Program)(call:Jq)(ops:Array Oper)(i:Nat)(l:List Oper)(tm:Fr)(h:AH):Rs (Fr × AH):=
 List.rec (motive:=fun _=>Nat→Fr→AH→Rs (Fr × AH)) (fun _ tm h=>.ok (tm,h)) (fun o _ ih i tm h=>match aStep P call ops o tm h with
  | .ok x=>ih (i+1) x.1 x.2
  | .no l=>.no (i::l)) l i tm h
theorem aSeq_wp{call:Jq}(hc:Vs F P call){ops:Array Oper}{Q:Exit→Act→World→Prop}:∀ (r:List Oper) (i:Nat) {tm tm':Fr} {h h':AH} {a:Act} {w:World} {e:Env},(∀ k o,r[k]?=some o→ops[i+k]?=some o)→FR F e tm a.tmps→HR F e w0 w h →
 aSeq P call ops i r tm h=.ok (tm',h')→(∀ a' w' e',e.le e'→FR F e' tm' a'.tmps→a'.defers=a.defers→HR F e' w0 w' h'→Q .normal a' w')→wpOps P ops Q ((List.range r.length).map (i + ·)) a w
 | [],i,tm,tm',h,h',a,w,e,hops,ht,H,hr,hk=>by
  cases hr
  exact hk a w e (Env.le_refl _) ht rfl H
 | o::r,i,tm,tm',h,h',a,w,e,hops,ht,H,hr,hk=>by
  replace hr:(match aStep P call ops o tm h with | .ok x=>aSeq P call ops (i+1) r x.1 x.2 | .no l=>.no (i::l))=.ok (tm',h'):=hr
  split at hr
  ·rename_i x hs
   obtain ⟨tm1,h1⟩:=x
   have hl:(List.range (o::r).length).map (i + ·)=i::(List.range r.length).map (i+1 + ·):=by
    rw [List.length_cons,List.range_succ_eq_map,List.map_cons,List.map_map]
    congr 1
    exact List.map_congr_left fun x _=>by simp only [Function.comp];omega
   rw [hl,wpOps_cons]
   refine aStep_wp hc (hops 0 o rfl) ht H hs fun a' w' e' g1 g2 g3 g4=>?_
   refine aSeq_wp hc r (i+1) (fun k o' hk'=>by rw [show i+1+k=i+(k+1) by omega];exact hops (k+1) o' hk') g2 g4 hr fun a'' w'' e'' k1 k2 k3 k4=>?_
   exact hk a'' w'' e'' (Env.le_trans g1 k1) k2 (k3.trans g3) k4
  ·cases hr
abbrev Km:=Array Oper→Fr→AH→Rs (Fr × AH)
def DrawOk(F:Funs)(P:Program)(draw:Km):Prop:=∀ ops tm h tm' h',draw ops tm h=.ok (tm',h')→∀ (e:Env) (w0 w:World) (a:Act) (Q:Exit→Act→World→Prop) (id:Nat),FR F e tm a.tmps→HR F e w0 w h →
 (∀ a' w' e',e.le e'→FR F e' tm' a'.tmps→a'.defers=a.defers→HR F e' w0 w' h'→Q .normal a' w')→(Code.region id ops true).wp P Q a w
inductive AX where
 | normal
 | exit (id:Nat)
 | ret
def AX.to:AX→Exit
 | .normal=>.normal
 | .exit id=>.exit id
 | .ret=>.ret
abbrev Coder:=Code→Fr→AH→Rs (AX × Fr × AH)
def cSeq(ih:Coder)(y:Code)(r:Rs (AX × Fr × AH)):Rs (AX × Fr × AH):=
 match r with
 | .ok (.normal,tm',h')=>ih y tm' h'
 | r=>r
def cBlock(id:Nat)(r:Rs (AX × Fr × AH)):Rs (AX × Fr × AH):=
 match r with
 | .ok (.exit id',tm',h')=>if id'=id then .ok (.normal,tm',h') else .ok (.exit id',tm',h')
 | r=>r
def cRegion(k:List Nat)(r:Rs (Fr × AH)):Rs (AX × Fr × AH):=
 match r with
 | .ok (tm',h')=>.ok (.normal,tm',h')
 | .no l=>.no (k++l)
def cCond(ih:Coder)(c:AV)(x y:Code)(tm:Fr)(h:AH):Rs (AX × Fr × AH):=
 match c with
 | .lit (.bool true)=>ih x tm h
 | .lit (.bool false)=>ih y tm h
 | _=>.no [8888]
def codeStep(P:Program)(call:Jq)(draw:Km)(ih:Coder)(c:Code)(tm:Fr)(h:AH):Rs (AX × Fr × AH):=
 match c with
 | .skip=>.ok (.normal,tm,h)
 | .label _=>.ok (.normal,tm,h)
 | .ret=>.ok (.ret,tm,h)
 | .exit id=>.ok (.exit id,tm,h)
 | .region id ops d=>match d with
  | false=>cRegion [id] (aSeq P call ops 0 ops.toList tm h)
  | true=>cRegion [id,7777] (draw ops tm h)
 | .seq x y=>cSeq ih y (ih x tm h)
 | .cond c x y=>cCond ih (evOf tm c) x y tm h
 | .block id x=>cBlock id (ih x tm h)
 | .loop x=>cSeq ih (.loop x) (ih x tm h)
 | _=>.no [6666]
def aCode(P:Program)(call:Jq)(draw:Km)(n:Nat):Coder:=
 Nat.rec (motive:=fun _=>Coder) (fun _ _ _=>.no [9999]) (fun _ ih=>codeStep P call draw ih) n
def LoopWp(P:Program)(c:Code)(Q:Exit→Act→World→Prop)(a:Act)(w:World):Prop:=
 ∀ (b:Frame) (k:List Item) (cs:List Frame),∃ x a' w',Q x a' w'∧Arrives P (lone (b.at a (.code c::.inLoop c::k)) cs w) b k cs x a' w'
theorem LoopWp.loop{c:Code}{Q:Exit→Act→World→Prop}{a:Act}{w:World}(h:LoopWp P c Q a w):(Code.loop c).wp P Q a w:=by
 intro b k cs
 obtain ⟨x,a',w',hq,harr⟩:=h b k cs
 exact ⟨x,a',w',hq,.of_steps (.one step_loop) harr⟩
theorem LoopWp.one{c:Code}{Q:Exit→Act→World→Prop}{a:Act}{w:World}(h:c.wp P (Exit.then (LoopWp P c Q) Q) a w):LoopWp P c Q a w:=by
 intro b k cs
 obtain ⟨x,a₁,w₁,hq,harr⟩:=h b (.inLoop c::k) cs
 cases x with
 | normal=>
  obtain ⟨e₂,a₂,w₂,hq₂,harr₂⟩:=hq b k cs
  exact ⟨e₂,a₂,w₂,hq₂,.of_steps (Steps.trans harr (.one step_inLoop)) harr₂⟩
 | exit id=>exact ⟨_,a₁,w₁,hq,.pass (x:=.inLoop c) rfl (fun _ _=>.inl (by simp)) harr⟩
 | goto l=>exact ⟨_,a₁,w₁,hq,.pass (x:=.inLoop c) rfl (fun _ _=>.inl (by simp)) harr⟩
 | ret=>exact ⟨_,a₁,w₁,hq,.pass (x:=.inLoop c) rfl (fun _ _=>.inl (by simp)) harr⟩
 | panic ch=>exact ⟨_,a₁,w₁,hq,.pass (x:=.inLoop c) rfl (fun _ _=>.inl (by simp)) harr⟩
 | outgrown=>exact ⟨_,a₁,w₁,hq,.pass (x:=.inLoop c) rfl (fun _ _=>.inl (by simp)) harr⟩
theorem Zn{call:Jq}{draw:Km}(hc:Vs F P call)(hd:DrawOk F P draw):∀ (n:Nat) (c:Code) {tm tm':Fr} {h h':AH} {x:AX} {a:Act} {w:World} {e:Env} {Q:Exit→Act→World→Prop},
 FR F e tm a.tmps→HR F e w0 w h→aCode P call draw n c tm h=.ok (x,tm',h')→(∀ a' w' e',e.le e'→FR F e' tm' a'.tmps→a'.defers=a.defers→HR F e' w0 w' h'→Q x.to a' w') →
 c.wp P Q a w∧∀ y,c=.loop y→LoopWp P y Q a w
 | 0,c,tm,tm',h,h',x,a,w,e,Q,ht,H,hr,hk=>by cases hr
 | n+1,c,tm,tm',h,h',x,a,w,e,Q,ht,H,hr,hk=>by
  replace hr:codeStep P call draw (aCode P call draw n) c tm h=.ok (x,tm',h'):=hr
  unfold codeStep at hr
  have ne:∀ {c:Code},(∀ y,c≠.loop y)→c.wp P Q a w→c.wp P Q a w∧∀ y,c=.loop y→LoopWp P y Q a w:=fun h1 h2=>⟨h2,fun y hy=>absurd hy (h1 y)⟩
  split at hr
  ·cases hr
   exact ne (by simp) (wp_skip (hk a w e (Env.le_refl _) ht rfl H))
  ·cases hr
   exact ne (by simp) (wp_label (hk a w e (Env.le_refl _) ht rfl H))
  ·cases hr
   exact ne (by simp) (wp_ret (hk a w e (Env.le_refl _) ht rfl H))
  ·cases hr
   exact ne (by simp) (wp_exit (hk a w e (Env.le_refl _) ht rfl H))
  ·rename_i id ops d
   split at hr
   ·unfold cRegion at hr
    split at hr
    ·rename_i tm1 h1 hs
     cases hr
     refine ne (by simp) (wp_region ?_)
     have:=aSeq_wp hc ops.toList 0 (fun k o hk'=>by rw [Nat.zero_add,← Array.getElem?_toList];exact hk') ht H hs hk
     simpa using this
    ·cases hr
   ·unfold cRegion at hr
    split at hr
    ·rename_i tm1 h1 hs
     cases hr
     exact ne (by simp) (hd _ _ _ _ _ hs e w0 w a Q id ht H hk)
    ·cases hr
  ·rename_i y z
   unfold cSeq at hr
   split at hr
   ·rename_i tm1 h1 hs
    refine ne (by simp) (wp_seq ((Zn hc hd n y ht H hs fun a1 w1 e1 g1 g2 g3 g4=>?_).1))
    exact (Zn hc hd n z g2 g4 hr fun a2 w2 e2 k1 k2 k3 k4=>hk a2 w2 e2 (Env.le_trans g1 k1) k2 (k3.trans g3) k4).1
   ·rename_i hne
    refine ne (by simp) (wp_seq ((Zn hc hd n y ht H hr fun a1 w1 e1 g1 g2 g3 g4=>?_).1))
    cases x with
    | normal=>exact absurd hr (hne _ _)
    | exit id=>exact hk a1 w1 e1 g1 g2 g3 g4
    | ret=>exact hk a1 w1 e1 g1 g2 g3 g4
  ·rename_i c y z
   have hv:=evR_of ht c
   unfold cCond at hr
   split at hr
   ·rename_i hb
    rw [hb] at hv
    exact ne (by simp) (wp_cond_true hv ((Zn hc hd n y ht H hr hk).1))
   ·rename_i hb
    rw [hb] at hv
    exact ne (by simp) (wp_cond_false hv ((Zn hc hd n z ht H hr hk).1))
   ·cases hr
  ·rename_i id y
   unfold cBlock at hr
   split at hr
   ·rename_i id' tm1 h1 hs
    split at hr
    ·rename_i hid
     cases hr
     refine ne (by simp) (wp_block ((Zn hc hd n y ht H hs fun a1 w1 e1 g1 g2 g3 g4=>?_).1))
     show Exit.inBlock id Q (.exit id') a1 w1
     simp only [Exit.inBlock,hid,if_true]
     exact hk a1 w1 e1 g1 g2 g3 g4
    ·rename_i hid
     cases hr
     refine ne (by simp) (wp_block ((Zn hc hd n y ht H hs fun a1 w1 e1 g1 g2 g3 g4=>?_).1))
     show Exit.inBlock id Q (.exit id') a1 w1
     simp only [Exit.inBlock,hid,if_false]
     exact hk a1 w1 e1 g1 g2 g3 g4
   ·rename_i hne
    refine ne (by simp) (wp_block ((Zn hc hd n y ht H hr fun a1 w1 e1 g1 g2 g3 g4=>?_).1))
    cases x with
    | normal=>exact hk a1 w1 e1 g1 g2 g3 g4
    | exit id'=>exact absurd hr (hne _ _ _)
    | ret=>exact hk a1 w1 e1 g1 g2 g3 g4
  ·rename_i y
   have key:LoopWp P y Q a w:=by
    unfold cSeq at hr
    split at hr
    ·rename_i tm1 h1 hs
     refine LoopWp.one ((Zn hc hd n y ht H hs fun a1 w1 e1 g1 g2 g3 g4=>?_).1)
     exact (Zn hc hd n (.loop y) g2 g4 hr fun a2 w2 e2 k1 k2 k3 k4=>hk a2 w2 e2 (Env.le_trans g1 k1) k2 (k3.trans g3) k4).2 y rfl
    ·rename_i hne
     refine LoopWp.one ((Zn hc hd n y ht H hr fun a1 w1 e1 g1 g2 g3 g4=>?_).1)
     cases x with
     | normal=>exact absurd hr (hne _ _)
     | exit id=>exact hk a1 w1 e1 g1 g2 g3 g4
     | ret=>exact hk a1 w1 e1 g1 g2 g3 g4
   exact ⟨key.loop,fun z hz=>by cases hz;exact key⟩
  ·cases hr
def Ka(P:Program)(tm:Fr)(h:AH):List ResultVar→Option (List AV)
 | []=>some []
 | .tmp t::r=>(Ka P tm h r).map (tm.get t :: ·)
 | .cell a t::r=>match aLoad P t (tm.get a) h,Ka P tm h r with
  | some (.val v _),some l=>some (v::l)
  | _,_=>none
def aRet:List AV→AV
 | [v]=>v
 | l=>.tup l
def resV(tmps:Array Value):ResultVar→Sem Value
 | .tmp t=>pure (tmps.getD t undef)
 | .cell a t=>do loadVar t (← asAddr (tmps.getD a undef))
theorem results_eq(fn:Func)(tmps:Array Value):results fn tmps=(do
 let vs ← fn.results.mapM (resV tmps)
 pure (if h:vs.size=1 then vs[0] else .tuple vs)):=by
 unfold results
 congr 1
theorem aResults_run{tm:Fr}{a:Act}(ht:FR F e tm a.tmps)(H:HR F e w0 w h):∀ {rs:List ResultVar} {l:List AV},Ka P tm h rs=some l →
 ∃ vs,(rs.mapM (resV a.tmps)).run P w=.ok vs w∧VRs F e l vs
 | [],l,hr=>by cases hr;exact ⟨[],rfl,rfl⟩
 | .tmp t::rs,l,hr=>by
  simp only [Ka,Option.map_eq_some_iff] at hr
  obtain ⟨l',hl,rfl⟩:=hr
  obtain ⟨vs,h1,h2⟩:=aResults_run ht H hl
  have hv:=evR_of ht (.tmp t)
  refine ⟨a.tmps.getD t undef::vs,?_,_,_,rfl,hv,h2⟩
  rw [List.mapM_cons]
  simp only [resV,Sem.run_bind,Sem.run_pure,Result.andThen_ok,h1]
 | .cell x t::rs,l,hr=>by
  unfold Ka at hr
  split at hr
  ·rename_i v h' l' hld hl
   cases hr
   obtain ⟨vs,h1,h2⟩:=aResults_run ht H hl
   have hv:=evR_of ht (.tmp x)
   obtain ⟨v',hvv,u,g1,g2⟩:=aLoad_run (P:=P) H hv hld
   cases hvv
   refine ⟨u::vs,?_,_,_,rfl,g2,h2⟩
   rw [List.mapM_cons]
   have hp:∃ b o,tm.get x=.ptr b o:=by
    unfold aLoad at hld
    split at hld
    ·rename_i b o heq;exact ⟨b,o,heq⟩
    ·cases hld
   obtain ⟨b,o,hp⟩:=hp
   have hv2:VR F e (.ptr b o) (a.tmps.getD x undef):=by rw [← hp];exact hv
   obtain ⟨B,k,n,hb,hpv⟩:=hv2
   have g1':(Instr.loadAt t (a.tmps.getD x undef)).run P w=.ok u w:=g1
   rw [hpv] at g1'
   simp only [Instr.loadAt,Instr.sureAddr,Sem.run_bind,Sem.run_pure,Result.andThen_ok] at g1'
   simp only [resV,hpv,asAddr,Sem.run_bind,Sem.run_pure,Result.andThen_ok,g1',h1]
  ·cases hr
theorem aRet_run{fn:Func}{tm:Fr}{a:Act}{l:List AV}(ht:FR F e tm a.tmps)(H:HR F e w0 w h)(hr:Ka P tm h fn.results.toList=some l) :
 ∃ v,(results fn a.tmps).run P w=.ok v w∧VR F e (aRet l) v:=by
 obtain ⟨vs,h1,h2⟩:=aResults_run (P:=P) ht H hr
 have hl:=VRs.length _ _ h2
 rw [results_eq,Array.mapM_eq_mapM_toList]
 simp only [Sem.run_bind,Sem.run_map,h1,Result.andThen_ok,Sem.run_pure,List.size_toArray]
 refine ⟨_,rfl,?_⟩
 unfold aRet
 split
 ·rename_i v
  obtain ⟨u,l',rfl,g1,g2⟩:=h2
  rw [show l'=[] from g2]
  simpa using g1
 ·rename_i hne
  have:¬ vs.length=1:=by
   intro hv
   rw [hl] at hv
   match l,hv with
   | [x],_=>exact hne x rfl
  rw [dif_neg this]
  exact ⟨vs,rfl,h2⟩
abbrev Prims:=FuncId→List AV→AH→Option (Rs (AV × AH))
def Qc(F:Funs)(P:Program)(pr:Prims):Prop:=∀ f args h v h',pr f args h=some (.ok (v,h'))→∀ (e:Env) (w0 w:World) (vs:Array Value),HR F e w0 w h→VRs F e args vs.toList →
 Calls P f vs w fun en w'=>∃ u,en=.returned u∧∃ e',e.le e'∧VR F e' v u∧HR F e' w0 w' h'
def trArgs:List AV→Nat→Tr→Tr
 | [],_,t=>t
 | a::l,i,t=>Tr.fset 12 t i a fun t=>trArgs l (i+1) t
def callRes(P:Program)(fn:Func)(r:Rs (AX × Fr × AH)):Rs (AV × AH):=
 match r with
 | .ok (.exit _,_,_)=>.no [4444]
 | .ok (_,tm,h')=>match Ka P tm h' fn.results.toList with
  | some l=>.ok (aRet l,h')
  | none=>.no [3333]
 | .no l=>.no l
def callBody(P:Program)(draw:Jq→Km)(fuel:Nat)(ih:Jq)(fn:Func)(c:Code)(args:List AV)(h:AH):Rs (AV × AH):=
 if Nat.ble (args.length+(fn.ntmps-args.length)) 4000 then fNat (args.length+(fn.ntmps-args.length)) fun m=>callRes P fn (aCode P ih (draw ih) fuel c ⟨m,trArgs args 0 .lf⟩ h)
 else .no [2223]
def callStep(P:Program)(pr:Prims)(draw:Jq→Km)(fuel:Nat)(ih:Jq)(f:FuncId)(args:List AV)(h:AH):Rs (AV × AH):=
 match pr f args h with
 | some r=>r
 | none=>match P.funcs[f]? with
  | some fn=>match fn.body with
   | some c=>callBody P draw fuel ih fn c args h
   | none=>.no [2222]
  | none=>.no [1111]
def aCall(P:Program)(pr:Prims)(draw:Jq→Km)(fuel:Nat)(n:Nat):Jq:=
 Nat.rec (motive:=fun _=>Jq) (fun _ _ _=>.no [5555]) (fun _ ih=>callStep P pr draw fuel ih) n
theorem trArgs_get:∀ (l:List AV) (i:Nat) (t:Tr) (j:Nat),i+l.length≤4000→j<4000→(trArgs l i t).get 12 j=if i≤j∧j<i+l.length then l.getD (j-i) (.tup []) else t.get 12 j
 | [],i,t,j,_,_=>by rw [if_neg (by simp only [List.length_nil];omega)];rfl
 | a::l,i,t,j,hi,hj=>by
  simp only [List.length_cons] at hi
  simp only [trArgs,Tr.fset_eq]
  rw [trArgs_get l (i+1) _ j (by omega) hj,Tr.get_set 12 t i j a (by omega) (by omega)]
  simp only [List.length_cons]
  by_cases h1:i+1≤j∧j<i+1+l.length
  ·rw [if_pos h1,if_pos (by omega)]
   rw [show j-i=(j-(i+1))+1 by omega];rfl
  ·rw [if_neg h1]
   by_cases h2:i=j
   ·subst h2;rw [if_pos rfl,if_pos (by omega),Nat.sub_self];rfl
   ·rw [if_neg h2,if_neg (by omega)]
theorem frOf{args:List AV}{vs:Array Value}{n m:Nat}(hm:m=args.length+(n-args.length))(h4:m≤4000)(hv:VRs F e args vs.toList):FR F e ⟨m,trArgs args 0 .lf⟩ (vs++Array.replicate (n-vs.size) undef):=by
 have hal:=VRs.length _ _ hv
 simp only [Array.length_toList] at hal
 refine ⟨h4,by simp only [Array.size_append,Array.size_replicate];omega,fun i=>?_⟩
 unfold Fr.get
 by_cases hi:i<m
 ·rw [if_pos (by simpa using hi)]
  simp only
  rw [trArgs_get args 0 .lf i (by omega) (by omega),Tr.get_lf]
  by_cases h1:i<args.length
  ·rw [if_pos (by omega),Nat.sub_zero]
   obtain ⟨v,g1,g2⟩:=VRs.get _ _ i _ hv (List.getElem?_eq_getElem h1)
   rw [List.getD_eq_getElem?_getD,List.getElem?_eq_getElem h1]
   rw [Array.getElem?_toList] at g1
   rw [Array.getD_eq_getD_getElem?,Array.getElem?_append_left (by omega),g1]
   exact g2
  ·rw [if_neg (by omega),Array.getD_eq_getD_getElem?,Array.getElem?_append_right (by omega)]
   have:(Array.replicate (n-vs.size) undef)[i-vs.size]?=some undef:=by
    rw [Array.getElem?_replicate,if_pos (by omega)]
   rw [this]
   exact ⟨[],rfl,rfl⟩
 ·rw [if_neg (by simpa using hi),Array.getD_eq_getD_getElem?,Array.getElem?_eq_none (by simp only [Array.size_append,Array.size_replicate];omega)]
  exact ⟨[],rfl,rfl⟩
theorem aCall_ok{pr:Prims}{draw:Jq→Km}{fuel:Nat}(hp:Qc F P pr)(hd:∀ call,Vs F P call→DrawOk F P (draw call)):∀ n,Vs F P (aCall P pr draw fuel n)
 | 0=>fun f args h v h' hr=>by cases hr
 | n+1=>by
  intro f args h v h' hr e w0 w vs H hv
  replace hr:callStep P pr draw fuel (aCall P pr draw fuel n) f args h=.ok (v,h'):=hr
  unfold callStep at hr
  split at hr
  ·rename_i r hpr
   subst hr
   exact hp f args h v h' hpr e w0 w vs H hv
  ·split at hr
   ·rename_i fn hfn
    split at hr
    ·rename_i c hb
     have hcall:=aCall_ok (fuel:=fuel) hp hd n
     unfold callBody at hr
     split at hr
     rotate_left
     ·cases hr
     rename_i h4
     rw [Vv] at hr
     unfold callRes at hr
     have ht:=frOf (n:=fn.ntmps) rfl (by simpa using h4) hv
     split at hr
     ·cases hr
     ·rename_i x tm h1 hne hcode
      split at hr
      ·rename_i l hl
       cases hr
       refine calls_of_wp hfn hb ((Zn hcall (hd _ hcall) fuel c ht H hcode fun a' w' e' g1 g2 g3 g4=>?_).1)
       obtain ⟨u,k1,k2⟩:=aRet_run g2 g4 hl
       cases x with
       | normal=>exact ⟨g3,u,k1,u,rfl,e',g1,k2,g4⟩
       | ret=>exact ⟨g3,u,k1,u,rfl,e',g1,k2,g4⟩
       | exit id=>exact absurd rfl (hne id)
      ·cases hr
     ·cases hr
    ·cases hr
   ·cases hr
end
end
noncomputable section
def Qv:List (List Nat)→List Oper→List (List Nat)
 | acc,[]=>acc
 | acc,o::r=>Qv (acc++[o.after.toList.foldl (fun s e=>if Region.binds .any e then (e.on::acc.getD e.on []).foldl (fun s x=>if s.contains x then s else x::s) s else s) []]) r
def cls(P:Program):Op→Nat
 | .load .. | .lookup .. => 1
 | .slice _ _ _ _ none=>1
 | .convert _ d _=>match P.underlying d with
  | some (.slice _)=>2
  | _=>1
 | .store .. | .alloc _ | .box .. | .buildSlice .. | .makeMap .. | .mapUpdate .. | .insert .. | .mapEntry .. | .entryStore .. => 2
 | .call { callee:=.builtin .len,.. } | .call { callee:=.builtin .min,.. } | .call { callee:=.builtin .max,.. }=>0
 | .call _=>2
 | _=>0
def textOk(ancs:List (List Nat))(ops:Array Oper):Bool:=
 let l:=ops.toList
 (List.range l.length).all fun j=>match l[j]? with
   | none=>true
   | some oj=>
    !(match oj.op with | .select .. => true | _=>false)&&oj.after.toList.all (fun e=>!Region.binds .any e||decide (e.on<j)) &&
    (List.range l.length).all fun k=>match l[k]? with
      | none=>true
      | some ok=>match ok.dst with
       | none=>true
       | some d=>let lk:=(oj.looksAt ops).contains d
        if k=j then !lk else (match oj.dst with | some d'=>d' != d | none=>true)&&(!lk||(if k<j then (ancs.getD j []).contains k else (ancs.getD k []).contains j))
def chainOk(ancs:List (List Nat)):List Nat→Bool
 | a::b::r=>(ancs.getD b []).contains a&&chainOk ancs (b::r)
 | _=>true
def isAlloc(o:Oper):Bool:=
 match o.op with
 | .alloc _=>o.guard.isNone
 | _=>false
def floatOf(ancs:List (List Nat))(ops:List Oper)(es:List Nat):Option (Option Nat):=
 if chainOk ancs es then some none
 else match es.find? (fun a=>(match ops[a]? with | some o=>isAlloc o | none=>false)&&(ancs.getD a []).isEmpty&&chainOk ancs (es.filter (· != a))) with
  | some a=>some (some a)
  | none=>none
def veq:Value→Value→Bool
 | .bool a,.bool b=>a==b
 | .int k a,.int j b=>decide (k=j)&&decide (a=b)
 | .pointer none,.pointer none=>true
 | .pointer (some ⟨a,b,none⟩),.pointer (some ⟨c,d,none⟩)=>a==c&&b==d
 | .slice none a b,.slice none c d=>a==c&&b==d
 | .map none,.map none=>true
 | .nilFunc,.nilFunc=>true
 | .nilIface,.nilIface=>true
 | _,_=>false
mutual
def AV.beq:AV→AV→Bool
 | .lit v,.lit u=>veq v u
 | .txt s,.txt t=>tbeq s t
 | .ptr a b,.ptr c d=>a==c&&b==d
 | .slc a b c d i,.slc a' b' c' d' i'=>a==a'&&b==b'&&c==c'&&d==d'&&i==i'
 | .agg l,.agg m=>Ko l m
 | .tup l,.tup m=>Ko l m
 | .fn f x y,.fn g z u=>decide (f=g)&&Ko x z&&Ko y u
 | .map a,.map b=>a==b
 | _,_=>false
def Ko:List AV→List AV→Bool
 | [],[]=>true
 | a::l,b::m=>a.beq b&&Ko l m
 | _,_=>false
end
def AO.beq:AO→AO→Bool
 | .dead,.dead=>true
 | .cells a,.cells b=>Ko a b
 | .map es c,.map fs d=>Ko (es.map (·.1)) (fs.map (·.1))&&Ko (es.map (·.2)) (fs.map (·.2))&&c==d
 | _,_=>false
def aosBeq:List AO→List AO→Bool
 | [],[]=>true
 | a::l,b::m=>a.beq b&&aosBeq l m
 | _,_=>false
mutual
def AV.up(n:Nat):AV→AV
 | .ptr b o=>.ptr (if b<n then b else b+1) o
 | .slc b o l c s=>.slc (if b<n then b else b+1) o l c s
 | .agg l=>.agg (avsUp n l)
 | .tup l=>.tup (avsUp n l)
 | .fn f x y=>.fn f (avsUp n x) (avsUp n y)
 | .map b=>.map (if b<n then b else b+1)
 | .lit v=>.lit v
 | .txt t=>.txt t
def avsUp(n:Nat):List AV→List AV
 | []=>[]
 | a::l=>a.up n::avsUp n l
end
def AO.up(n:Nat):AO→AO
 | .dead=>.dead
 | .cells l=>.cells (avsUp n l)
 | .map es c=>.map (es.map fun p=>(p.1.up n,p.2.up n)) c
def AH.ins(n:Nat)(o:AO)(h:AH):AH:={ h with bs:=(h.bs.map (AO.up n)).take n++o::(h.bs.map (AO.up n)).drop n }
def AH.same(h g:AH):Bool:=aosBeq h.bs g.bs&&h.nv==g.nv
def aMay(ancs:List (List Nat))(cs:List Nat)(i m:Nat):Bool:=
 (List.range cs.length).all fun k=>(!(ancs.getD i []).contains (cs.getD k 0)||decide (k<m))&&(decide (m≤k) || !(ancs.getD (cs.getD k 0) []).contains i)
def firstMay(ancs:List (List Nat))(cs:List Nat)(i:Nat):List AH→Nat→Option AH
 | [],_=>none
 | g::gs,m=>if aMay ancs cs i m then some g else firstMay ancs cs i gs (m+1)
def mk(lk:List Tmp)(tm:Fr):Fr:=⟨tm.n,lk.foldl (fun s i=>if Nat.blt i tm.n then s.set 12 i (tm.get i) else s) .lf⟩
def lefts(ancs:List (List Nat))(flt:Option Nat)(on:Option AV)(i:Nat):Bool:=
 on.isNone&&match flt with
  | some a=>(ancs.getD i []).contains a
  | none=>false
def aWay(P:Program)(call:Jq)(ops:Array Oper)(ancs:List (List Nat))(cs:List Nat)(flt:Option Nat)(on:Option AV):Nat→List Oper→Fr→List AV→List AH→Rs (List AV × List AH)
 | _,[],_,vals,gs=>.ok (vals,gs)
 | i,o::r,tm,vals,gs=>
  if flt=some i then fput tm o.dst (on.getD (.tup [])) fun tm=>aWay P call ops ancs cs flt on (i+1) r tm (vals++[on.getD (.tup [])]) gs
  else if lefts ancs flt on i then fput tm o.dst (.tup []) fun tm=>aWay P call ops ancs cs flt on (i+1) r tm (vals++[.tup []]) gs
  else if Vm ops (mk (o.looksAt ops) tm) o then
   if cls P o.op=2 then
    if cs[gs.length-1]?=some i then
     match gs.getLast? with
     | some g=>match aDo P call (evOf (mk (o.looksAt ops) tm)) o g with
      | .ok (v,g')=>fput tm o.dst v fun tm=>aWay P call ops ancs cs flt on (i+1) r tm (vals++[v]) (gs++[g'])
      | .no l=>.no (i::l)
     | none=>.no [i,10]
    else .no [i,11]
   else if cls P o.op=1 then match firstMay ancs cs i gs 0 with
    | some g=>match aOp P (evOf (mk (o.looksAt ops) tm)) o g with
     | some (.val v _)=>fput tm o.dst v fun tm=>aWay P call ops ancs cs flt on (i+1) r tm (vals++[v]) gs
     | _=>.no [i,12]
    | none=>.no [i,13]
   else match aPure P (evOf (mk (o.looksAt ops) tm)) o with
    | some v=>fput tm o.dst v fun tm=>aWay P call ops ancs cs flt on (i+1) r tm (vals++[v]) gs
    | none=>.no [i,14]
  else if cs.contains i then
   if cs[gs.length-1]?=some i then
    match gs.getLast? with
    | some g=>fput tm o.dst (.tup []) fun tm=>aWay P call ops ancs cs flt on (i+1) r tm (vals++[.tup []]) (gs++[g])
    | none=>.no [i,16]
   else .no [i,15]
  else fput tm o.dst (.tup []) fun tm=>aWay P call ops ancs cs flt on (i+1) r tm (vals++[.tup []]) gs
def aSure(P:Program)(ops:Array Oper)(ancs:List (List Nat))(cs:List Nat)(flt:Option Nat)(on:Option AV)(gs:List AH):Nat→List Oper→Fr→List AV→Bool
 | _,[],_,_=>true
 | _,_::_,_,[]=>false
 | i,o::r,tm,v::vals=>
  (flt==some i||lefts ancs flt on i || !(Vm ops (mk (o.looksAt ops) tm) o&&cls P o.op==1)||(List.range gs.length).all fun m=>!aMay ancs cs i m||match gs[m]? with
    | some g=>match aOp P (evOf (mk (o.looksAt ops) tm)) o g with
     | some (.val u _)=>u.beq v
     | _=>false
    | none=>false)&&fput tm o.dst v fun tm=>aSure P ops ancs cs flt on gs (i+1) r tm vals
def putAll:List Oper→List AV→Fr→Fr
 | o::r,v::vs,tm=>fput tm o.dst v fun tm=>putAll r vs tm
 | _,_,tm=>tm
def aBoth(ancs:List (List Nat))(flt n:Nat)(z:AO)(l:List Oper)(tm:Fr)(vf vt:List AV)(gf gt:List AH):Bool:=
 (List.range tm.n).all (fun i=>((tm.get i).up n).beq (tm.get i))&&decide (gf.length≤gt.length) &&
 (List.range gf.length).all (fun m=>match gf[m]?,gt[m]? with | some a,some b=>(a.ins n z).same b | _,_=>false) &&
 (List.range l.length).all fun i=>i==flt||(ancs.getD i []).contains flt||(match vf[i]?,vt[i]? with | some a,some b=>(a.up n).beq b | _,_=>false)
def aDraw(P:Program)(call:Jq)(ops:Array Oper)(tm:Fr)(h:AH):Rs (Fr × AH):=
 let l:=ops.toList
 let ancs:=Qv [] l
 if textOk ancs ops then
  let es:=(List.range l.length).filter fun i=>match l[i]? with | some o=>cls P o.op==2 | none=>false
  match floatOf ancs l es with
  | none=>.no [2]
  | some none=>match aWay P call ops ancs es none none 0 l tm [] [h] with
   | .ok (vals,gs)=>if aSure P ops ancs es none none gs 0 l tm vals&&decide (gs.length=es.length+1) then match gs.getLast? with
    | some g=>.ok (putAll l vals tm,g)
    | none=>.no [3]
    else .no [4]
   | .no l=>.no (5::l)
  | some (some a)=>
   let cs:=es.filter (· != a)
   match l[a]? with
   | some oa=>match oa.op with
    | .alloc t=>match zeroT P t with
     | some z=>
      let n:=h.bs.length
      match aWay P call ops ancs cs (some a) (some (.ptr n 0)) 0 l tm [] [{ h with bs:=h.bs++[.cells z.cells] }],aWay P call ops ancs cs (some a) none 0 l tm [] [h] with
      | .ok (vt,gt),.ok (vf,gf)=>
       if aSure P ops ancs cs (some a) (some (.ptr n 0)) gt 0 l tm vt&&aSure P ops ancs cs (some a) none gf 0 l tm vf&&decide (gt.length=cs.length+1)&&aBoth ancs a n (.cells z.cells) l tm vf vt gf gt then match gt.getLast? with
        | some g=>.ok (putAll l vt tm,g)
        | none=>.no [6]
       else .no [7]
      | .no l,_=>.no (8::l)
      | _,.no l=>.no (9::l)
     | none=>.no [10]
    | _=>.no [11]
   | none=>.no [12]
 else .no [1]
def aRun(P:Program)(pr:Prims)(fuel depth:Nat):Jq:=aCall P pr (fun call=>aDraw P call) fuel depth
end
noncomputable section
theorem veq_eq:∀ {a b:Value},veq a b=true→a=b:=by
 intro a b h
 unfold veq at h
 split at h
 all_goals first
  | rfl
  | (simp only [Bool.and_eq_true,beq_iff_eq,decide_eq_true_eq] at h;first | (rw [h];done) | (obtain ⟨h1,h2⟩:=h;subst h1;subst h2;rfl))
  | cases h
mutual
theorem AV.eq_of_beq:∀ {a b:AV},a.beq b=true→a=b
 | .lit v,b,h=>by
  cases b <;> simp only [AV.beq] at h <;> first | (rw [veq_eq h];done) | cases h
 | .txt t,b,h=>by
  cases b <;> simp only [AV.beq] at h <;> first | (rw [eq_of_tbeq h];done) | cases h
 | .ptr x y,b,h=>by
  cases b <;> simp only [AV.beq,Bool.and_eq_true,beq_iff_eq] at h <;> first | (rw [h.1,h.2];done) | cases h
 | .slc x y z u s,b,h=>by
  cases b <;> simp only [AV.beq,Bool.and_eq_true,beq_iff_eq] at h <;> first | (rw [h.1.1.1.1,h.1.1.1.2,h.1.1.2,h.1.2,h.2];done) | cases h
 | .agg l,b,h=>by
  cases b <;> simp only [AV.beq] at h <;> first | (rw [Zb h];done) | cases h
 | .tup l,b,h=>by
  cases b <;> simp only [AV.beq] at h <;> first | (rw [Zb h];done) | cases h
 | .fn f x y,b,h=>by
  cases b <;> simp only [AV.beq,Bool.and_eq_true,decide_eq_true_eq] at h <;> first | (rw [h.1.1,Zb h.1.2,Zb h.2];done) | cases h
 | .map x,b,h=>by
  cases b <;> simp only [AV.beq,beq_iff_eq] at h <;> first | (rw [h];done) | cases h
theorem Zb:∀ {a b:List AV},Ko a b=true→a=b
 | [],[],_=>rfl
 | a::l,b::m,h=>by
  simp only [Ko,Bool.and_eq_true] at h
  rw [AV.eq_of_beq h.1,Zb h.2]
 | [],_::_,h=>by simp [Ko] at h
 | _::_,[],h=>by simp [Ko] at h
end
theorem pairs_eq{α β:Type _}:∀ {l m:List (α × β)},l.map (·.1)=m.map (·.1)→l.map (·.2)=m.map (·.2)→l=m
 | [],[],_,_=>rfl
 | [],_::_,h,_=>by simp at h
 | _::_,[],h,_=>by simp at h
 | (a,b)::l,(c,d)::m,h,g=>by
   simp only [List.map_cons,List.cons.injEq] at h g
   rw [h.1,g.1,pairs_eq h.2 g.2]
theorem AO.eq_of_beq:∀ {a b:AO},a.beq b=true→a=b:=by
 intro a b h
 unfold AO.beq at h
 split at h
 ·rfl
 ·rw [Zb h]
 ·simp only [Bool.and_eq_true,beq_iff_eq] at h
  rw [h.2,pairs_eq (Zb h.1.1) (Zb h.1.2)]
 ·cases h
theorem eq_of_aosBeq:∀ {a b:List AO},aosBeq a b=true→a=b
 | [],[],_=>rfl
 | a::l,b::m,h=>by
  simp only [aosBeq,Bool.and_eq_true] at h
  rw [AO.eq_of_beq h.1,eq_of_aosBeq h.2]
 | [],_::_,h=>by simp [aosBeq] at h
 | _::_,[],h=>by simp [aosBeq] at h
theorem AH.eq_of_same{h g:AH}(hs:h.same g=true):h=g:=by
 obtain ⟨a,b⟩:=h
 obtain ⟨c,d⟩:=g
 simp only [AH.same,Bool.and_eq_true,beq_iff_eq] at hs
 rw [eq_of_aosBeq hs.1,hs.2]
section
variable {F:Funs} {e e':Env} {w0 w w':World} {h:AH}
mutual
theorem Ck.den_tx(ht:e'.tx=e.tx):∀ c:Ck,c.den F e'=c.den F e
 | .by l=>rfl
 | .zr n=>rfl
 | .vr k lo hi=>by simp only [Ck.den,ht]
 | .op f args lo hi=>by simp only [Ck.den,dens_tx ht args]
theorem den_tx(ht:e'.tx=e.tx):∀ c:List Ck,den F e' c=den F e c
 | []=>rfl
 | c::cs=>by simp only [den,Ck.den_tx ht c,den_tx ht cs]
theorem dens_tx(ht:e'.tx=e.tx):∀ c:List (List Ck),dens F e' c=dens F e c
 | []=>rfl
 | c::cs=>by simp only [dens,den_tx ht c,dens_tx ht cs]
end
mutual
theorem Ck.ok_tx(ht:e'.tx=e.tx):∀ c:Ck,c.ok F e→c.ok F e'
 | .by l,h=>h
 | .zr n,h=>h
 | .vr k lo hi,h=>by
  obtain ⟨x,hx,h1,h2⟩:=h
  exact ⟨x,by rw [ht];exact hx,h1,h2⟩
 | .op f args lo hi,h=>by
  refine ⟨h.1,?_,oks_tx ht args h.2.2⟩
  rw [dens_tx ht];exact h.2.1
theorem ok_tx(ht:e'.tx=e.tx):∀ c:List Ck,ok F e c→ok F e' c
 | [],_=>trivial
 | c::cs,h=>⟨Ck.ok_tx ht c h.1,ok_tx ht cs h.2⟩
theorem oks_tx(ht:e'.tx=e.tx):∀ c:List (List Ck),oks F e c→oks F e' c
 | [],_=>trivial
 | c::cs,h=>⟨ok_tx ht c h.1,oks_tx ht cs h.2⟩
end
theorem ins_get{α:Type _}(l:List α)(n:Nat)(x:α)(hn:n≤l.length)(i:Nat) :
 (l.take n++x::l.drop n)[i]?=if i<n then l[i]? else if i=n then some x else l[i-1]?:=by
 split
 ·rename_i hi
  rw [List.getElem?_append_left (by rw [List.length_take];omega),List.getElem?_take_of_lt hi]
 ·rename_i hi
  rw [List.getElem?_append_right (by rw [List.length_take];omega),List.length_take,Nat.min_eq_left hn]
  split
  ·rename_i h;subst h;simp
  ·rename_i h
   rw [show i-n=(i-n-1)+1 by omega,List.getElem?_cons_succ,List.getElem?_drop]
   congr 1;omega
def Env.ins(n:Nat)(x:Nat × Nat × Nat)(e:Env):Env:=⟨e.bl.take n++x::e.bl.drop n,e.tx⟩
theorem Env.ins_get{n:Nat}{x:Nat × Nat × Nat}(hn:n≤e.bl.length){b:Nat}{y:Nat × Nat × Nat}(hb:e.bl[b]?=some y):(e.ins n x).bl[if b<n then b else b+1]?=some y:=by
 simp only [Env.ins]
 rw [Go.Proofs.YthekdeikodppkaaGreatDoor.ins_get _ _ _ hn]
 by_cases h:b<n
 ·rw [if_pos h,if_pos h];exact hb
 ·rw [if_neg h,if_neg (by omega),if_neg (by omega)]
  simpa using hb
mutual
theorem VR.up{n:Nat}{x:Nat × Nat × Nat}(hn:n≤e.bl.length):∀ (a:AV) (v:Value),VR F e a v→VR F (e.ins n x) (a.up n) v
 | .lit u,v,hv=>hv
 | .txt t,v,hv=>⟨ok_tx (e:=e) (e':=e.ins n x) rfl t hv.1,by rw [den_tx (e:=e) (e':=e.ins n x) rfl t];exact hv.2⟩
 | .ptr b o,v,hv=>by
  obtain ⟨B,k,m,hb,hv⟩:=hv
  exact ⟨B,k,m,Env.ins_get hn hb,hv⟩
 | .slc b o len cap es,v,hv=>by
  obtain ⟨B,k,m,c',o',hb,hv⟩:=hv
  exact ⟨B,k,m,c',o',Env.ins_get hn hb,hv⟩
 | .agg cs,v,hv=>by
  obtain ⟨a,hv,hs⟩:=hv
  exact ⟨a,hv,VRs.up hn cs a hs⟩
 | .tup cs,v,hv=>by
  obtain ⟨a,hv,hs⟩:=hv
  exact ⟨a,hv,VRs.up hn cs a hs⟩
 | .fn f y z,v,hv=>by
  obtain ⟨a,b,hv,hs,hs2⟩:=hv
  exact ⟨a,b,hv,VRs.up hn y a hs,VRs.up hn z b hs2⟩
 | .map b,v,hv=>by
  obtain ⟨B,k,m,hb,hv⟩:=hv
  exact ⟨B,k,m,Env.ins_get hn hb,hv⟩
theorem VRs.up{n:Nat}{x:Nat × Nat × Nat}(hn:n≤e.bl.length):∀ (a:List AV) (v:List Value),VRs F e a v→VRs F (e.ins n x) (avsUp n a) v
 | [],l,hl=>hl
 | a::az,l,hl=>by
  obtain ⟨v,l',hl,h1,h2⟩:=hl
  exact ⟨v,l',hl,VR.up hn a v h1,VRs.up hn az l' h2⟩
end
theorem avsUp_length(n:Nat):∀ l:List AV,(avsUp n l).length=l.length
 | []=>rfl
 | a::l=>by simp [avsUp,avsUp_length n l]
theorem avsUp_map(n:Nat):∀ l:List AV,avsUp n l=l.map (AV.up n)
 | []=>rfl
 | a::l=>by simp [avsUp,avsUp_map n l]
theorem OR.up{n:Nat}{y x:Nat × Nat × Nat}(hn:n≤e.bl.length):∀ {o:AO},OR F e w x o→OR F (e.ins n y) w x (o.up n)
 | .dead,_=>trivial
 | .cells cs,⟨cur,t,fz,h1,h2,h3,vs,h4,h5⟩=>⟨cur,t,fz,h1,h2,h3,vs,VRs.up hn _ _ h4,by rw [avsUp_length];exact h5⟩
 | .map es clock,⟨ms,h1,h2,h3,h4⟩=>by
  refine ⟨ms,h1,?_,?_,h4⟩
  ·have:=VRs.up (x:=y) hn _ _ h2
   rw [avsUp_map] at this
   simpa [List.map_map,Function.comp_def] using this
  ·have:=VRs.up (x:=y) hn _ _ h3
   rw [avsUp_map] at this
   simpa [List.map_map,Function.comp_def] using this
theorem AO.up_live(n:Nat)(o:AO):(o.up n).live=o.live:=by cases o <;> rfl
theorem HR.ins(H:HR F e w0 w h){o:Obj}{ao:AO}{n k m:Nat}(hn:n≤h.bs.length)(ho:OR F (e.ins n (w.heap.size,k,m)) (w.alloc o) (w.heap.size,k,m) ao) :
 HR F (e.ins n (w.heap.size,k,m)) w0 (w.alloc o) (h.ins n ao):=by
 have hl:=H.len
 have hne:n≤e.bl.length:=by omega
 have hold:∀ j,j<w.heap.size→(w.alloc o).heap[j]?=w.heap[j]?:=fun j hj=>Below.heap_alloc _ _ _ hj
 have hsz:(w.alloc o).heap.size=w.heap.size+1:=by simp
 have key:∀ (i:Nat) (p:AO) (x:Nat × Nat × Nat),(h.ins n ao).bs[i]?=some p→(e.ins n (w.heap.size,k,m)).bl[i]?=some x→p.live=true →
  (i=n∧p=ao∧x=(w.heap.size,k,m))∨(i≠n∧∃ q,p=q.up n∧h.bs[if i<n then i else i-1]?=some q∧e.bl[if i<n then i else i-1]?=some x∧q.live=true):=by
  intro i p x h1 h2 h3
  simp only [AH.ins] at h1
  rw [Go.Proofs.YthekdeikodppkaaGreatDoor.ins_get _ _ _ (by simpa using hn)] at h1
  simp only [Env.ins] at h2
  rw [Go.Proofs.YthekdeikodppkaaGreatDoor.ins_get _ _ _ hne] at h2
  by_cases hi:i<n
  ·rw [if_pos hi] at h1 h2 ⊢
   simp only [List.getElem?_map,Option.map_eq_some_iff] at h1
   obtain ⟨q,hq,rfl⟩:=h1
   exact .inr ⟨by omega,q,rfl,hq,h2,by rw [AO.up_live] at h3;exact h3⟩
  ·rw [if_neg hi] at h1 h2 ⊢
   by_cases hin:i=n
   ·rw [if_pos hin] at h1 h2
    cases h1;cases h2
    exact .inl ⟨hin,rfl,rfl⟩
   ·rw [if_neg hin] at h1 h2
    simp only [List.getElem?_map,Option.map_eq_some_iff] at h1
    obtain ⟨q,hq,rfl⟩:=h1
    exact .inr ⟨hin,q,rfl,hq,h2,by rw [AO.up_live] at h3;exact h3⟩
 refine ⟨H.below.alloc H.below' o,?_,H.nv,?_,?_⟩
 ·simp only [AH.ins,Env.ins,lJ,List.length_take,List.length_cons,List.length_drop,List.length_map]
  omega
 ·intro i p x h1 h2 h3
  rcases key i p x h1 h2 h3 with ⟨_,rfl,rfl⟩ | ⟨_,q,rfl,g1,g2,g3⟩
  ·exact ⟨H.below',by simp,ho⟩
  ·obtain ⟨q1,q2,q3⟩:=H.objs _ q x g1 g2 g3
   exact ⟨q1,by omega,(q3.up hne).of_heap (hold _ q2)⟩
 ·intro i j o1 o2 x y hij h1 h2 l1 l2 b1 b2
  rcases key i o1 x h1 b1 l1 with ⟨a1,rfl,rfl⟩ | ⟨a1,q,rfl,a2,a3,a4⟩ <;> rcases key j o2 y h2 b2 l2 with ⟨c1,rfl,rfl⟩ | ⟨c1,q',rfl,c2,c3,c4⟩
  ·omega
  ·have:=(H.objs _ q' y c2 c3 c4).2.1;simp only;omega
  ·have:=(H.objs _ q x a2 a3 a4).2.1;simp only;omega
  ·refine H.inj _ _ q q' x y ?_ a2 c2 a4 c4 a3 c3
   by_cases hi:i<n <;> by_cases hj:j<n <;> simp only [hi,hj,if_true,if_false] <;> omega
end
end
noncomputable section
def ancF(acc:List (List Nat))(o:Oper):List Nat:=
 o.after.toList.foldl (fun s e=>if Region.binds .any e then (e.on::acc.getD e.on []).foldl (fun s x=>if s.contains x then s else x::s) s else s) []
theorem ancsOf_cons(acc:List (List Nat))(o:Oper)(r:List Oper):Qv acc (o::r)=Qv (acc++[ancF acc o]) r:=rfl
theorem ancsOf_prefix:∀ (r:List Oper) (acc:List (List Nat)),∃ t,Qv acc r=acc++t∧t.length=r.length
 | [],acc=>⟨[],by simp [Qv]⟩
 | o::r,acc=>by
  obtain ⟨t,ht,hl⟩:=ancsOf_prefix r (acc++[ancF acc o])
  exact ⟨ancF acc o::t,by rw [ancsOf_cons,ht];simp,by simp [hl]⟩
theorem ancsOf_get:∀ (r:List Oper) (acc:List (List Nat)) (k:Nat) (o:Oper),r[k]?=some o→(Qv acc r)[acc.length+k]?=some (ancF ((Qv acc r).take (acc.length+k)) o)
 | [],_,_,_,h=>by simp at h
 | o::r,acc,0,o',h=>by
  simp at h;subst h
  obtain ⟨t,ht,hl⟩:=ancsOf_prefix r (acc++[ancF acc o])
  rw [ancsOf_cons,ht]
  simp
 | o::r,acc,k+1,o',h=>by
  have:=ancsOf_get r (acc++[ancF acc o]) k o' (by simpa using h)
  rw [ancsOf_cons]
  simp only [lJ,List.length_cons,List.length_nil,Nat.zero_add] at this
  rw [show acc.length+(k+1)=acc.length+1+k by omega]
  exact this
theorem mem_foldl_ins(l:List Nat):∀ (s:List Nat) (x:Nat),x∈l.foldl (fun s x=>if s.contains x then s else x::s) s→x∈s∨x∈l:=by
 induction l with
 | nil=>intro s x h;exact .inl h
 | cons a l ih=>
  intro s x h
  rcases ih _ _ h with h | h
  ·dsimp only at h
   split at h
   ·exact .inl h
   ·rcases List.mem_cons.1 h with rfl | h
    ·exact .inr (by simp)
    ·exact .inl h
  ·exact .inr (by simp [h])
theorem mem_ancF(acc:List (List Nat)):∀ (es:List Edge) (s:List Nat) (x:Nat),x∈es.foldl (fun s e=>if Region.binds .any e then (e.on::acc.getD e.on []).foldl (fun s x=>if s.contains x then s else x::s) s else s) s →
 x∈s∨∃ e∈es,Region.binds .any e=true∧(x=e.on∨x∈acc.getD e.on []):=by
 intro es
 induction es with
 | nil=>intro s x h;exact .inl h
 | cons e es ih=>
  intro s x h
  rw [List.foldl_cons] at h
  rcases ih _ _ h with h | ⟨e',h1,h2,h3⟩
  ·split at h
   ·rename_i hb
    rcases mem_foldl_ins _ _ _ h with h | h
    ·exact .inl h
    ·rcases List.mem_cons.1 h with h | h
     ·exact .inr ⟨e,by simp,hb,.inl h⟩
     ·exact .inr ⟨e,by simp,hb,.inr h⟩
   ·exact .inl h
  ·exact .inr ⟨e',by simp [h1],h2,h3⟩
section
variable {ops:Array Oper}
theorem ancs_spec{i:Nat}{o:Oper}(ho:ops.toList[i]?=some o)(hlt:∀ e∈o.after.toList,Region.binds .any e=true→e.on<i){x:Nat}(hx:x∈(Qv [] ops.toList).getD i []) :
 ∃ e∈o.after.toList,Region.binds .any e=true∧(x=e.on∨x∈(Qv [] ops.toList).getD e.on []):=by
 have:=ancsOf_get ops.toList [] i o ho
 simp only [List.length_nil,Nat.zero_add] at this
 rw [List.getD_eq_getElem?_getD,this] at hx
 simp only [Option.getD_some] at hx
 rcases mem_ancF _ _ _ _ hx with h | ⟨e,h1,h2,h3⟩
 ·cases h
 ·refine ⟨e,h1,h2,h3.imp id fun h=>?_⟩
  rw [List.getD_eq_getElem?_getD,List.getElem?_take_of_lt (hlt e h1 h2)] at h
  rw [List.getD_eq_getElem?_getD]
  exact h
structure TextOk (ops:Array Oper) (ancs:List (List Nat)):Prop where
 noSel:∀ (j:Nat) (o:Oper),ops.toList[j]?=some o→∀ cs b,o.op≠.select cs b
 back:∀ (j:Nat) (o:Oper),ops.toList[j]?=some o→∀ e∈o.after.toList,Region.binds .any e=true→e.on<j
 self:∀ (j:Nat) (o:Oper) (d:Tmp),ops.toList[j]?=some o→o.dst=some d→d ∉ o.looksAt ops
 uniq:∀ (j k:Nat) (o o':Oper) (d:Tmp),ops.toList[j]?=some o→ops.toList[k]?=some o'→o'.dst=some d→k≠j→o.dst≠some d
 reads:∀ (j k:Nat) (o o':Oper) (d:Tmp),ops.toList[j]?=some o→ops.toList[k]?=some o'→o'.dst=some d→k≠j→d∈o.looksAt ops→(k<j→k∈ancs.getD j [])∧(j<k→j∈ancs.getD k [])
theorem textOk_spec{ancs:List (List Nat)}(h:textOk ancs ops=true):TextOk ops ancs:=by
 have key:∀ (j:Nat) (o:Oper),ops.toList[j]?=some o→(∀ cs b,o.op≠.select cs b)∧(∀ e∈o.after.toList,Region.binds .any e=true→e.on<j) ∧
  ∀ (k:Nat) (o':Oper) (d:Tmp),ops.toList[k]?=some o'→o'.dst=some d→(k=j→d ∉ o.looksAt ops)∧(k≠j→o.dst≠some d∧(d∈o.looksAt ops→(k<j→k∈ancs.getD j [])∧(j<k→j∈ancs.getD k []))):=by
  intro j o ho
  have hj:j<ops.toList.length:=(gJ ho).1
  unfold textOk at h
  have h1:=List.all_eq_true.1 h j (List.mem_range.2 hj)
  rw [ho] at h1
  simp only [Bool.and_eq_true] at h1
  obtain ⟨⟨ha,hb⟩,hc⟩:=h1
  refine ⟨fun cs b e=>?_,fun e he hbd=>?_,fun k o' d ho' hd=>?_⟩
  ·rw [e] at ha;cases ha
  ·have:=List.all_eq_true.1 hb e he
   rw [hbd] at this
   simpa using this
  ·have hk:k<ops.toList.length:=(gJ ho').1
   have h2:=List.all_eq_true.1 hc k (List.mem_range.2 hk)
   rw [ho'] at h2
   simp only [hd] at h2
   refine ⟨fun e=>?_,fun e=>?_⟩
   ·rw [if_pos e] at h2
    simpa using h2
   ·rw [if_neg e] at h2
    simp only [Bool.and_eq_true,Bool.or_eq_true,Bool.not_eq_true'] at h2
    refine ⟨fun e2=>?_,fun hl=>⟨fun hkj=>?_,fun hjk=>?_⟩⟩
    ·rw [e2] at h2
     simp at h2
    ·rcases h2.2 with h3 | h3
     ·rw [List.contains_iff_mem.2 hl] at h3;cases h3
     ·rw [if_pos hkj] at h3;exact List.contains_iff_mem.1 h3
    ·rcases h2.2 with h3 | h3
     ·rw [List.contains_iff_mem.2 hl] at h3;cases h3
     ·rw [if_neg (by omega)] at h3;exact List.contains_iff_mem.1 h3
 exact ⟨fun j o ho=>(key j o ho).1,fun j o ho=>(key j o ho).2.1,fun j o d ho hd=>((key j o ho).2.2 j o d ho hd).1 rfl,
  fun j k o o' d ho ho' hd hne=>(((key j o ho).2.2 k o' d ho' hd).2 hne).1,fun j k o o' d ho ho' hd hne hl=>(((key j o ho).2.2 k o' d ho' hd).2 hne).2 hl⟩
end
def frm:List Oper→List AV→Fr→Nat→Fr
 | _,_,tm,0=>tm
 | o::r,v::vs,tm,k+1=>frm r vs (aput tm o.dst v) k
 | _,_,tm,_=>tm
section
variable {P:Program} {call:Jq} {ops:Array Oper} {ancs:List (List Nat)} {cs:List Nat} {flt:Option Nat} {on:Option AV}
def WayFact(P:Program)(call:Jq)(ops:Array Oper)(cs:List Nat)(G:List AH)(i:Nat)(o:Oper)(f:Fr)(v:AV):Prop:=
 (Vm ops f o=true∧cls P o.op=2∧∃ q g g',cs[q]?=some i∧G[q]?=some g∧G[q+1]?=some g'∧aDo P call (evOf f) o g=.ok (v,g')) ∨
 (Vm ops f o=true∧cls P o.op=1) ∨
 (Vm ops f o=true∧cls P o.op≠1∧cls P o.op≠2∧aPure P (evOf f) o=some v) ∨
 (Vm ops f o=false∧v=.tup []∧(i∈cs→∃ q g,cs[q]?=some i∧G[q]?=some g∧G[q+1]?=some g))
theorem WayFact.grow{G G':List AH}{i:Nat}{o:Oper}{f:Fr}{v:AV}(h:WayFact P call ops cs G i o f v)(hG:∃ t,G'=G++t):WayFact P call ops cs G' i o f v:=by
 obtain ⟨t,rfl⟩:=hG
 have gr:∀ {q:Nat} {g:AH},G[q]?=some g→(G++t)[q]?=some g:=fun hg=>by
  rw [List.getElem?_append_left (gJ hg).1];exact hg
 rcases h with ⟨h1,h2,q,g,g',h3,h4,h5,h6⟩ | h | h | ⟨h1,h2,h3⟩
 ·exact .inl ⟨h1,h2,q,g,g',h3,gr h4,gr h5,h6⟩
 ·exact .inr (.inl h)
 ·exact .inr (.inr (.inl h))
 ·refine .inr (.inr (.inr ⟨h1,h2,fun hi=>?_⟩))
  obtain ⟨q,g,g1,g2,g3⟩:=h3 hi
  exact ⟨q,g,g1,gr g2,gr g3⟩
theorem last_get{gs:List AH}{g:AH}(h:gs.getLast? = some g):0<gs.length∧gs[gs.length-1]?=some g:=by
 rw [List.getLast?_eq_getElem?] at h
 exact ⟨by have:=(gJ h).1;omega,h⟩
theorem aWay_spec:∀ (r:List Oper) (i:Nat) (tm:Fr) (vals:List AV) (gs:List AH) (V:List AV) (G:List AH),aWay P call ops ancs cs flt on i r tm vals gs=.ok (V,G) →
 ∃ vs,V=vals++vs∧vs.length=r.length∧(∃ t,G=gs++t) ∧
  ∀ k o v,r[k]?=some o→vs[k]?=some v→(flt=some (i+k)→v=on.getD (.tup []))∧((flt=some (i+k)∧v=on.getD (.tup []))∨lefts ancs flt on (i+k)=true∨WayFact P call ops cs G (i+k) o (mk (o.looksAt ops) (frm r vs tm k)) v)
 | [],i,tm,vals,gs,V,G,h=>by
  cases h
  exact ⟨[],by simp,rfl,⟨[],by simp⟩,fun k o v hk=>by simp at hk⟩
 | o::r,i,tm,vals,gs,V,G,h=>by
  have step:∀ (v:AV) (gs':List AH),(∃ t,gs'=gs++t)→aWay P call ops ancs cs flt on (i+1) r (aput tm o.dst v) (vals++[v]) gs'=.ok (V,G) →
   ((flt=some i→v=on.getD (.tup []))∧((flt=some i∧v=on.getD (.tup []))∨lefts ancs flt on i=true∨WayFact P call ops cs gs' i o (mk (o.looksAt ops) tm) v)) →
   ∃ vs,V=vals++vs∧vs.length=(o::r).length∧(∃ t,G=gs++t) ∧
   ∀ k o' v,(o::r)[k]?=some o'→vs[k]?=some v→(flt=some (i+k)→v=on.getD (.tup []))∧((flt=some (i+k)∧v=on.getD (.tup []))∨lefts ancs flt on (i+k)=true∨WayFact P call ops cs G (i+k) o' (mk (o'.looksAt ops) (frm (o::r) vs tm k)) v):=by
   rintro v gs' ⟨t,rfl⟩ hr h0
   obtain ⟨vs,hV,hl,⟨t',hG⟩,hk⟩:=aWay_spec r (i+1) _ _ _ _ _ hr
   refine ⟨v::vs,by rw [hV];simp,by simp [hl],⟨t++t',by rw [hG];simp⟩,fun k o' v' ho' hv'=>?_⟩
   cases k with
   | zero=>
    simp at ho' hv'
    subst ho';subst hv'
    exact ⟨h0.1,h0.2.imp id fun h=>h.imp id fun h=>h.grow ⟨t',hG⟩⟩
   | succ k=>
    have:=hk k o' v' (by simpa using ho') (by simpa using hv')
    rw [show i+1+k=i+(k+1) by omega] at this
    exact this
  unfold aWay at h
  simp only [fput_eq] at h
  split at h
  ·rename_i hf
   exact step _ gs ⟨[],by simp⟩ h ⟨fun _=>rfl,.inl ⟨hf,rfl⟩⟩
  ·rename_i hnf
   split at h
   ·rename_i hlf
    exact step _ gs ⟨[],by simp⟩ h ⟨fun h=>absurd h hnf,.inr (.inl hlf)⟩
   ·split at h
    ·rename_i hw
     split at h
     ·rename_i hc
      split at h
      ·rename_i hq
       split at h
       ·rename_i g hg
        split at h
        ·rename_i v g' hdo
         obtain ⟨hp,hg⟩:=last_get hg
         refine step v (gs++[g']) ⟨[g'],rfl⟩ h ⟨fun h=>absurd h hnf,.inr (.inr (.inl ⟨hw,hc,gs.length-1,g,g',hq,?_,?_,hdo⟩))⟩
         ·rw [List.getElem?_append_left (by omega)];exact hg
         ·rw [show gs.length-1+1=gs.length by omega];simp
        ·cases h
       ·cases h
      ·cases h
     ·rename_i hc2
      split at h
      ·rename_i hc
       split at h
       ·split at h
        ·rename_i v _ hop
         exact step v gs ⟨[],by simp⟩ h ⟨fun h=>absurd h hnf,.inr (.inr (.inr (.inl ⟨hw,hc⟩)))⟩
        ·cases h
       ·cases h
      ·rename_i hc1
       split at h
       ·rename_i v hp
        exact step v gs ⟨[],by simp⟩ h ⟨fun h=>absurd h hnf,.inr (.inr (.inr (.inr (.inl ⟨hw,hc1,hc2,hp⟩))))⟩
       ·cases h
    ·rename_i hw
     have hw:Vm ops (mk (o.looksAt ops) tm) o=false:=by simpa using hw
     split at h
     ·rename_i hi
      split at h
      ·rename_i hq
       split at h
       ·rename_i g hg
        obtain ⟨hp,hg⟩:=last_get hg
        refine step _ (gs++[g]) ⟨[g],rfl⟩ h ⟨fun h=>absurd h hnf,.inr (.inr (.inr (.inr (.inr ⟨hw,rfl,fun _=>⟨gs.length-1,g,hq,?_,?_⟩⟩))))⟩
        ·rw [List.getElem?_append_left (by omega)];exact hg
        ·rw [show gs.length-1+1=gs.length by omega];simp
       ·cases h
      ·cases h
     ·rename_i hi
      exact step _ gs ⟨[],by simp⟩ h ⟨fun h=>absurd h hnf,.inr (.inr (.inr (.inr (.inr ⟨hw,rfl,fun hm=>absurd (List.contains_iff_mem.2 hm) hi⟩))))⟩
theorem aSure_spec{G:List AH}:∀ (r:List Oper) (i:Nat) (tm:Fr) (vs:List AV),aSure P ops ancs cs flt on G i r tm vs=true→∀ k o v,r[k]?=some o→vs[k]?=some v→flt≠some (i+k)→lefts ancs flt on (i+k)=false →
 Vm ops (mk (o.looksAt ops) (frm r vs tm k)) o=true→cls P o.op=1→∀ m g,G[m]?=some g→aMay ancs cs (i+k) m=true→∃ h',aOp P (evOf (mk (o.looksAt ops) (frm r vs tm k))) o g=some (.val v h')
 | [],_,_,_,_,k,o,v,hk,_,_,_,_,_,_,_,_,_=>by simp at hk
 | _::_,_,_,[],_,k,o,v,_,hv,_,_,_,_,_,_,_,_=>by simp at hv
 | o::r,i,tm,v::vs,h,k,o',v',hk,hv,hf,hl,hw,hc,m,g,hg,hm=>by
  unfold aSure at h
  simp only [fput_eq,Bool.and_eq_true] at h
  cases k with
  | zero=>
   simp at hk hv
   subst hk;subst hv
   simp only [Nat.add_zero] at hf hl hm
   simp only [frm] at hw ⊢
   have h1:=h.1
   simp only [hw,hc,hl,Bool.or_eq_true,Bool.not_eq_true',Bool.and_eq_false_iff] at h1
   rcases h1 with ((h1 | h1) | h1) | h1
   ·exact absurd (by simpa using h1) hf
   ·cases h1
   ·simp at h1
   ·have:=List.all_eq_true.1 h1 m (List.mem_range.2 (gJ hg).1)
    simp only [hm,Bool.not_true,Bool.false_or,hg] at this
    split at this
    ·rename_i u h' hop
     rw [AV.eq_of_beq this] at hop
     exact ⟨h',hop⟩
    ·cases this
  | succ k=>
   have:=aSure_spec r (i+1) _ vs h.2 k o' v' (by simpa using hk) (by simpa using hv) (by rw [show i+1+k=i+(k+1) by omega];exact hf) (by rw [show i+1+k=i+(k+1) by omega];exact hl) hw hc m g hg (by rw [show i+1+k=i+(k+1) by omega];exact hm)
   exact this
end
end
end Go.Proofs.YthekdeikodppkaaGreatDoor
