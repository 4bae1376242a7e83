/-
  Texts of this claim, one behind the other: Cells that are read and written, variables, new ones; Operations that ask nothing of the memory, against real ones. No program in sight; merkle, grow, consist, multi; What an int, a byte, a string are to the program; Slices of the call's own that begin anywhere in their row (what 'xs = xs[1:]' leaves); Rows that are read, cell by cell; texts. No program in sight; Rows of structs; Stable sorts, plainly.
-/
import Derived.Test.YthekdeikodppkaaGreatDoorKb1
import Derived.Test.YthekdeikodppkaaGreatDoorRows
import Derived.Deep.Slices
set_option linter.unusedVariables false
namespace Go.Proofs.YthekdeikodppkaaGreatDoor
open Go.RowKit
noncomputable section
def putAt:List AV→Nat→List AV→List AV
 | cs,_,[]=>cs
 | cs,o,x::xs=>putAt (cs.set o x) (o+1) xs
def fPutAt{β:Type}:List AV→Nat→List AV→(List AV→β)→β
 | cs,_,[],k=>k cs
 | cs,o,x::xs,k=>fSet cs o x fun cs=>fPutAt cs (o+1) xs k
theorem fPutAt_eq{β:Type}:∀ (xs cs:List AV) (o:Nat) (k:List AV→β),fPutAt cs o xs k=k (putAt cs o xs)
 | [],_,_,_=>rfl
 | x::xs,cs,o,k=>by simp only [fPutAt,fSet_eq,fPutAt_eq xs,putAt]
def AV.one:AV→Bool
 | .lit (.agg _) | .lit (.tuple _) | .agg _ | .tup _=>false
 | _=>true
def one1:Value→Bool
 | .agg _ | .tuple _=>false
 | _=>true
theorem VR.one1{F:Funs}{e:Env}:∀ {x:AV} {v:Value},VR F e x v→x.one=true→one1 v=true
 | .lit u,v,h,g=>by rw [show v=u from h];cases u <;> first | rfl | cases g
 | .txt t,v,h,_=>by rw [h.2];rfl
 | .ptr b o,v,h,_=>by obtain ⟨_,_,_,_,rfl⟩:=h;rfl
 | .slc b o len cap es,v,h,_=>by obtain ⟨_,_,_,_,_,_,rfl,_⟩:=h;rfl
 | .fn f x y,v,h,_=>by obtain ⟨_,_,rfl,_⟩:=h;rfl
 | .map b,v,h,_=>by obtain ⟨_,_,_,_,rfl⟩:=h;rfl
 | .agg _,_,_,g=>by cases g
 | .tup _,_,_,g=>by cases g
def AV.cells:AV→List AV
 | .agg cs=>cs
 | .lit (.agg cs)=>cs.toList.map ofVal1
 | v=>[v]
theorem VR.cells{F:Funs}{e:Env}:∀ {x:AV} {v:Value},VR F e x v→VRs F e x.cells v.cells.toList
 | .agg cs,v,h=>by obtain ⟨a,rfl,h⟩:=h;simpa [AV.cells,Value.cells] using h
 | .lit u,v,h=>by
  rw [show v=u from h]
  cases u
  case agg cs=>exact vrs_map _ (vr_ofVal1 F e) _
  all_goals exact ⟨_,[],rfl,rfl,rfl⟩
 | .txt t,v,h=>⟨v,[],by rw [h.2];rfl,h,rfl⟩
 | .ptr b o,v,h=>⟨v,[],by obtain ⟨_,_,_,_,rfl⟩:=h;rfl,h,rfl⟩
 | .slc b o len cap es,v,h=>⟨v,[],by obtain ⟨_,_,_,_,_,_,rfl,_⟩:=h;rfl,h,rfl⟩
 | .fn f x y,v,h=>⟨v,[],by obtain ⟨_,_,rfl,_⟩:=h;rfl,h,rfl⟩
 | .map b,v,h=>⟨v,[],by obtain ⟨_,_,_,_,rfl⟩:=h;rfl,h,rfl⟩
 | .tup cs,v,h=>⟨v,[],by obtain ⟨_,rfl,_⟩:=h;rfl,h,rfl⟩
theorem Ki(B k n:Nat):(⟨B,k,none⟩:Addr).add n=⟨B,k+n,none⟩:=by
 unfold Addr.add
 split
 ·rename_i h;subst h;rfl
 ·rfl
section
variable {F:Funs} {e:Env} {w0 w:World} {h:AH} {P:Program}
theorem loadCells_run(H:HR F e w0 w h){b B k n o m:Nat}{cs:List AV}(hb:h.bs[b]?=some (.cells cs))(hx:e.bl[b]?=some (B,k,n))(hm:o+m≤cs.length) :
 ∃ vs:List Value,(loadCells ⟨B,k+o,none⟩ m).run P w=.ok vs.toArray w∧VRs F e ((cs.drop o).take m) vs:=by
 obtain ⟨cur,t,fz,vs,g1,g2,g3,g4,g5,g6,g7⟩:=H.at' hb hx
 have hl:((vs.drop o).take m).length=m:=by
  rw [List.length_take,List.length_drop,VRs.length _ _ g6];omega
 refine ⟨(vs.drop o).take m,?_,VRs.take _ _ _ (VRs.drop _ _ _ g6)⟩
 have:=run_loadCells_list (P:=P) w ⟨B,k+o,none⟩ ((vs.drop o).take m) ?_
 ·rw [hl] at this;exact this
 ·intro j v hj
  have hjm:j<m:=by have:=(gJ hj).1;rw [hl] at this;exact this
  rw [List.getElem?_take_of_lt hjm,List.getElem?_drop,← g7,List.getElem?_take_of_lt (by omega),List.getElem?_drop] at hj
  rw [Ki]
  simp only [World.cell?,g3]
  rw [show k+o+j=k+(o+j) by omega]
  simpa using hj
theorem storeCells_run:∀ (xs:List AV) (vs:List Value) {h:AH} {w:World} {i:Nat} {b B k n o:Nat} {cs:List AV},HR F e w0 w h→h.bs[b]?=some (.cells cs)→e.bl[b]?=some (B,k,n) →
 VRs F e xs vs→xs.all AV.one=true→o+i+xs.length≤cs.length →
 ∃ w',(storeCells ⟨B,k+o,none⟩ vs i).run P w=.ok () w'∧HR F e w0 w' { h with bs:=h.bs.set b (.cells (putAt cs (o+i) xs)) }
 | [],vs,h,w,i,b,B,k,n,o,cs,H,hb,hx,hv,_,_=>by
  rw [show vs=[] from hv]
  refine ⟨w,by simp [storeCells],?_⟩
  have:h.bs.set b (.cells cs)=h.bs:=by
   apply List.ext_getElem?
   intro j
   by_cases hj:j=b
   ·subst hj;rw [List.getElem?_set_self (gJ hb).1,hb]
   ·rw [List.getElem?_set_ne (Ne.symm hj)]
  rw [putAt,this]
  exact H
 | x::xs,vs,h,w,i,b,B,k,n,o,cs,H,hb,hx,hv,ho,hl=>by
  obtain ⟨v,l',rfl,h1,h2⟩:=hv
  simp only [List.all_cons,Bool.and_eq_true] at ho
  simp only [List.length_cons] at hl
  obtain ⟨⟨u,hu⟩,hf,H'⟩:=H.store hb hx (i:=o+i) (by omega) h1
  have hb':(h.bs.set b (.cells (cs.set (o+i) x)))[b]?=some (.cells (cs.set (o+i) x)):=List.getElem?_set_self (gJ hb).1
  obtain ⟨w',hr,H''⟩:=storeCells_run xs l' (i:=i+1) (o:=o) H' hb' hx h2 ho.2 (by simp;omega)
  refine ⟨w',?_,?_⟩
  ·have h1':=h1.one1 ho.1
   simp only [storeCells,Sem.run_bind,store,Ki]
   rw [show k+o+i=k+(o+i) by omega]
   have:((Sem.store .plain ⟨B,k+(o+i),none⟩ v (.pure ())).run P w)=.ok () (w.setCell ⟨B,k+(o+i),none⟩ v):=by
    cases v <;> first
     | (cases h1';done)
     | (simp only [Sem.run,hu,hf];rfl)
   rw [this]
   exact hr
  ·simp only [List.set_set] at H''
   rw [putAt]
   exact H''
def aggT(P:Program)(t:TypeId):Option Bool:=
 match P.underlying t with
 | some (.struct _) | some (.array _ _)=>some true
 | some _=>some false
 | none=>none
def szT(P:Program)(t:TypeId):Option Nat:=(P.info? t).map (·.size)
def zeroT(P:Program)(t:TypeId):Option AV:=((P.info? t).bind (·.zero)).map ofVal
theorem Zx{t:TypeId}{x:Bool}(h:aggT P t=some x):(isAgg t).run P w=.ok x w:=by
 unfold aggT at h
 cases hu:P.underlying t with
 | none=>rw [hu] at h;cases h
 | some d=>rw [hu] at h;cases d <;> cases h <;> simp [isAgg,run_underlying hu]
theorem Zq{t:TypeId}{n:Nat}(h:szT P t=some n):(sizeOf t).run P w=.ok n w:=by
 unfold szT at h
 cases hi:P.info? t with
 | none=>rw [hi] at h;cases h
 | some i=>rw [hi] at h;cases h;simp [sizeOf,typeInfo,hi]
theorem zeroValue_run{t:TypeId}{x:AV}(h:zeroT P t=some x):∃ z,(zeroValue t).run P w=.ok z w∧VR F e x z:=by
 unfold zeroT at h
 cases hi:P.info? t with
 | none=>rw [hi] at h;cases h
 | some i=>
  rw [hi] at h
  cases hz:i.zero with
  | none=>simp [hz] at h
  | some z=>
   simp [hz] at h
   subst h
   exact ⟨z,by simp [zeroValue,typeInfo,hi,hz],vr_ofVal F e z⟩
def aLoad(P:Program)(t:TypeId)(a:AV)(h:AH):Option AR:=
 match a with
 | .ptr b o=>match h.bs[b]?,aggT P t with
  | some (.cells cs),some true=>match szT P t with
   | some n=>if o+n≤cs.length then some (.val (.agg ((cs.drop o).take n)) h) else none
   | none=>none
  | some (.cells cs),some false=>match cs[o]? with
   | some v=>some (.val v h)
   | none=>none
  | _,_=>none
 | _=>none
theorem aLoad_run{t:TypeId}{a:AV}{av:Value}{r:AR}(H:HR F e w0 w h)(ha:VR F e a av)(hr:aLoad P t a h=some r) :
 ∃ x,r=.val x h∧∃ v,(Instr.loadAt t av).run P w=.ok v w∧VR F e x v:=by
 unfold aLoad at hr
 split at hr
 ·obtain ⟨B,k,n,hx,rfl⟩:=ha
  split at hr
  ·rename_i hb hg
   split at hr
   ·rename_i m hs
    split at hr
    ·rename_i hm
     cases hr
     obtain ⟨vs,h1,h2⟩:=loadCells_run (P:=P) H hb hx hm
     exact ⟨_,rfl,.agg vs.toArray,by simp [Instr.loadAt,Instr.sureAddr,loadVar,Zx hg,Zq hs,h1],vs,rfl,h2⟩
    ·cases hr
   ·cases hr
  ·rename_i hb hg
   split at hr
   ·rename_i v hv
    cases hr
    obtain ⟨u,hu,h2⟩:=H.load hb hx hv
    exact ⟨_,rfl,u,by simp [Instr.loadAt,Instr.sureAddr,loadVar,Zx hg,load,Sem.run,hu],h2⟩
   ·cases hr
  ·cases hr
 ·cases hr
def aStore(P:Program)(t:TypeId)(a x:AV)(h:AH):Option AR:=
 match a with
 | .ptr b o=>match h.bs[b]?,szT P t with
  | some (.cells cs),some n=>if x.cells.length=n&&x.cells.all AV.one&&decide (o+n≤cs.length) then fPutAt cs o x.cells fun cs=>h.setF b (.cells cs) fun h=>some (.skip h) else none
  | _,_=>none
 | _=>none
theorem aStore_run{t:TypeId}{a x:AV}{av xv:Value}{r:AR}(H:HR F e w0 w h)(ha:VR F e a av)(hx:VR F e x xv)(hr:aStore P t a x h=some r) :
 ∃ h',r=.skip h'∧∃ w',(Instr.storeAt t av xv).run P w=.ok () w'∧HR F e w0 w' h':=by
 unfold aStore at hr
 simp only [fPutAt_eq,AH.setF_eq] at hr
 split at hr
 ·obtain ⟨B,k,n,hb',rfl⟩:=ha
  split at hr
  ·rename_i _ _ cs m hb hs
   split at hr
   ·rename_i hc
    simp only [Bool.and_eq_true,decide_eq_true_eq] at hc
    cases hr
    obtain ⟨⟨hc1,hc2⟩,hc3⟩:=hc
    have hcs:=hx.cells
    obtain ⟨w',h1,h2⟩:=storeCells_run (P:=P) x.cells xv.cells.toList (i:=0) (o:=_) H hb hb' hcs hc2 (by rw [hc1];exact hc3)
    refine ⟨_,rfl,w',?_,h2⟩
    have hsz:xv.cells.size=x.cells.length:=by rw [← VRs.length _ _ hcs];simp
    simp [Instr.storeAt,Instr.sureAddr,storeVar,Zq hs,hsz,hc1,h1]
   ·cases hr
  ·cases hr
 ·cases hr
def aNew(x:AV)(h:AH):AR:=fAVs x.cells fun cs=>h.pushF (.cells cs) fun h'=>.val (.ptr h.bs.length 0) h'
theorem aNew_eq(x:AV)(h:AH):aNew x h=.val (.ptr h.bs.length 0) { h with bs:=h.bs++[.cells x.cells] }:=by simp only [aNew,fAVs_eq,AH.pushF_eq]
theorem aNew_run{t:TypeId}{x:AV}{xv:Value}(H:HR F e w0 w h)(hx:VR F e x xv) :
 ∃ w' e' v,((do pure (Value.pointer (some (← newVar t xv)))):Sem Value).run P w=.ok v w'∧e.le e'∧VR F e' (.ptr h.bs.length 0) v∧HR F e' w0 w' { h with bs:=h.bs++[.cells x.cells] }:=by
 have hcs:=hx.cells
 have:=H.row (cur:=xv.cells) (t:=t) (fz:=(0,0)) hcs (by rw [← VRs.length _ _ hcs,List.take_length]) (by simp)
 refine ⟨_,_,.pointer (some ⟨w.heap.size,0,none⟩),?_,⟨⟨_,rfl⟩,⟨[],by simp⟩⟩,⟨w.heap.size,0,xv.cells.size,?_,rfl⟩,this⟩
 ·simp [newVar,newRow]
 ·rw [H.len];simp
end
end
noncomputable section
mutual
def AV.toVal:AV→Option Value
 | .lit v=>some v
 | .txt t=>(tby t).map fun l=>.string (Qb (l.map Nat.toUInt8))
 | .agg cs=>(toVals cs).map fun l=>.agg l.toArray
 | .tup cs=>(toVals cs).map fun l=>.tuple l.toArray
 | _=>none
def toVals:List AV→Option (List Value)
 | []=>some []
 | a::az=>match a.toVal,toVals az with
  | some v,some l=>some (v::l)
  | _,_=>none
end
mutual
theorem toVal_eq{F:Funs}{e:Env}:∀ {a:AV} {u v:Value},a.toVal=some u→VR F e a v→v=u
 | .lit w,u,v,h,g=>by simp only [AV.toVal,Option.some.injEq] at h;rw [← h];exact g
 | .txt t,u,v,h,g=>by
  simp only [AV.toVal,Option.map_eq_some_iff] at h
  obtain ⟨l,hl,rfl⟩:=h
  rw [g.2,(Kc hl).1]
 | .agg cs,u,v,h,g=>by
  simp only [AV.toVal,Option.map_eq_some_iff] at h
  obtain ⟨l,hl,rfl⟩:=h
  obtain ⟨a,rfl,g⟩:=g
  rw [toVals_eq hl g]
 | .tup cs,u,v,h,g=>by
  simp only [AV.toVal,Option.map_eq_some_iff] at h
  obtain ⟨l,hl,rfl⟩:=h
  obtain ⟨a,rfl,g⟩:=g
  rw [toVals_eq hl g]
 | .ptr ..,u,v,h,g=>by simp [AV.toVal] at h
 | .slc ..,u,v,h,g=>by simp [AV.toVal] at h
 | .fn ..,u,v,h,g=>by simp [AV.toVal] at h
 | .map ..,u,v,h,g=>by simp [AV.toVal] at h
theorem toVals_eq{F:Funs}{e:Env}:∀ {a:List AV} {u v:List Value},toVals a=some u→VRs F e a v→v=u
 | [],u,v,h,g=>by simp only [toVals,Option.some.injEq] at h;rw [← h];exact g
 | a::az,u,v,h,g=>by
  obtain ⟨x,l',rfl,g1,g2⟩:=g
  unfold toVals at h
  split at h
  ·rename_i y l h1 h2
   cases h
   rw [toVal_eq h1 g1,toVals_eq h2 g2]
  ·cases h
end
def aSelf(P:Program)(ev:Ev)(o:Oper):Option AV:=
 if o.op.operands.all fun x=>(ev x).toVal.isSome then
  match o.op with
  | .select .. => none
  | _=>match pureRun P (execOp (fun x=>((ev x).toVal).getD undef) o) with
   | some (.value v)=>some (ofVal v)
   | _=>none
 else none
def Gives(F:Funs)(e:Env)(P:Program)(ρ:Operand→Value)(o:Oper)(x:AV):Prop:=
 ∀ w,∃ v,(execOp ρ o).run P w=.ok (.value v) w∧VR F e x v
theorem Zt{F:Funs}{e:Env}{P:Program}{ρ:Operand→Value}{o:Oper}{ev:Ev}{r:AV}(hev:EvR F e ev ρ)(hr:aSelf P ev o=some r):Gives F e P ρ o r:=by
 intro w
 unfold aSelf at hr
 split at hr
 ·rename_i hall
  split at hr
  ·cases hr
  ·rename_i hns
   split at hr
   ·rename_i v hv
    cases hr
    have:execOp ρ o=execOp (fun x=>((ev x).toVal).getD undef) o:=by
     refine execOp_congr o (fun cs b hc=>hns cs b hc) fun x hx=>?_
     have hl:=Array.all_eq_true'.1 hall x hx
     obtain ⟨u,hu⟩:=Option.isSome_iff_exists.1 hl
     rw [toVal_eq hu (hev x),hu];rfl
    exact ⟨v,by rw [this];exact pureRun_run hv,vr_ofVal F e v⟩
   ·cases hr
 ·cases hr
def aBd(d lim:Nat):Option AV→Option Nat
 | none=>some d
 | some (.lit (.int _ i))=>if 0≤i∧i≤(lim:Int) then some i.toNat else none
 | _=>none
def aEqF(P:Program)(xs ys:List AV):List Field→Option Bool
 | []=>some true
 | f::fs=>
  if f.name = "_" then none else
  match aggT P f.type,xs[f.offset]?,ys[f.offset]?,P.underlying f.type with
  | some false,some (.txt s),some (.txt t),some .string=>match teq s t with
   | some true=>aEqF P xs ys fs
   | some false=>some false
   | none=>none
  | some false,some (.lit (.int k a)),some (.lit (.int k' b)),some (.int _)=>if k=k' then (if a=b then aEqF P xs ys fs else some false) else none
  | some false,some (.lit (.bool a)),some (.lit (.bool b)),some .bool=>if a=b then aEqF P xs ys fs else some false
  | _,_,_,_=>none
def nilB:Value→Bool
 | .pointer none | .slice none _ _ | .map none | .nilFunc=>true
 | _=>false
def aEq(P:Program)(t:TypeId):AV→AV→Option Bool
 | .txt a,.txt b=>teq a b
 | .ptr _ _,.lit (.pointer none) | .lit (.pointer none),.ptr _ _=>match P.underlying t with
  | some (.pointer _)=>some false
  | _=>none
 | .slc ..,.lit (.slice none _ _) | .lit (.slice none _ _),.slc .. => match P.underlying t with
  | some (.slice _)=>some false
  | _=>none
 | .map _,.lit (.map none) | .lit (.map none),.map _=>match P.underlying t with
  | some (.map _ _)=>some false
  | _=>none
 | .fn ..,.lit .nilFunc | .lit .nilFunc,.fn .. => match P.underlying t with
  | some (.func _ _ _)=>some false
  | _=>none
 | .agg xs,.agg ys=>match P.underlying t with
  | some (.struct fs)=>if P.stoodInHeld t=false∧P.eqGuardType P.depth t=false then aEqF P xs ys fs.toList else none
  | _=>none
 | _,_=>none
def aFieldOf(P:Program)(t:TypeId)(f:Nat):Option Field:=
 match P.underlying t with
 | some (.struct fs)=>fs[f]?
 | _=>none
def aPart(P:Program)(t:TypeId)(cs:List AV)(off:Nat):Option AV:=
 match aggT P t with
 | some true=>match szT P t with
  | some n=>if off+n≤cs.length then some (.agg ((cs.drop off).take n)) else none
  | none=>none
 | some false=>cs[off]?
 | none=>none
def aFill(place:Nat→Option (Nat × Nat))(cells:List AV):List (Nat × AV)→Option (List AV)
 | []=>some cells
 | (i,v)::rest=>match place i with
   | none=>none
   | some (off,size)=>if v.cells.length=size∧off+v.cells.length≤cells.length then aFill place (putAt cells off v.cells) rest else none
def aPlaces(P:Program)(fs:List Field):Option (List (Nat × Nat)):=fs.mapM fun f=>(szT P f.type).map fun n=>(f.offset,n)
def aBuild(P:Program)(t:TypeId)(parts:List (Nat × AV)):Option AV:=
 match zeroT P t with
 | none=>none
 | some z=>match P.underlying t with
  | some (.struct fs)=>match aPlaces P fs.toList with
   | some pl=>(aFill (pl[·]?) z.cells parts).map .agg
   | none=>none
  | some (.array _ elem)=>match szT P elem with
   | some n=>(aFill (fun i=>some (i*n,n)) z.cells parts).map .agg
   | none=>none
  | _=>none
def iLt:Int→Int→Bool
 | .ofNat a,.ofNat b=>Nat.blt a b
 | a,b=>decide (a<b)
def iEq:Int→Int→Bool
 | .ofNat a,.ofNat b=>Nat.beq a b
 | a,b=>decide (a=b)
def aWrap(k:IntKind)(n:Int):Int:=
 match k,n with
 | .i64,.ofNat m=>if Nat.blt m 9223372036854775808 then .ofNat m else k.wrap n
 | _,_=>k.wrap n
def aInt(op:BinOp)(k:IntKind)(a b:Int):Option AV:=
 match op with
 | .add=>some (.lit (.int k (aWrap k (a+b))))
 | .sub=>some (.lit (.int k (aWrap k (a-b))))
 | .lss=>some (.lit (.bool (iLt a b)))
 | .leq=>some (.lit (.bool (!iLt b a)))
 | .gtr=>some (.lit (.bool (iLt b a)))
 | .geq=>some (.lit (.bool (!iLt a b)))
 | .eql=>some (.lit (.bool (iEq a b)))
 | .neq=>some (.lit (.bool (!iEq a b)))
 | _=>none
def aBin(op:BinOp)(x y:AV):Option AV:=
 match x,y with
 | .lit (.int k a),.lit (.int k' b)=>if decide (k=k') then aInt op k a b else none
 | _,_=>none
def pPick(c a b:AV):Option AV:=
 match c with
 | .lit (.bool true)=>some a
 | .lit (.bool false)=>some b
 | _=>none
def pNil(x:AV):Option AV:=
 match x with
 | .ptr b n=>some (.ptr b n)
 | .fn (.func f) a b=>some (.fn (.func f) a b)
 | _=>none
def pExtract(x:AV)(i:Nat):Option AV:=
 match x with
 | .tup vs=>vs[i]?
 | .lit (.tuple vs)=>(vs[i]?).map ofVal2
 | _=>none
def pFieldAddr(P:Program)(s:TypeId)(x:AV)(f:Nat):Option AV:=
 match x,aFieldOf P s f with
 | .ptr b n,some fd=>match szT P fd.type with
  | some (_+1)=>some (.ptr b (n+fd.offset))
  | _=>none
 | _,_=>none
def pField(P:Program)(s:TypeId)(x:AV)(f:Nat):Option AV:=
 match aFieldOf P s f with
 | some fd=>match x with
  | .agg cs=>aPart P fd.type cs fd.offset
  | _=>none
 | none=>none
def pIndexAddr(P:Program)(t:TypeId)(x i:AV):Option AV:=
 match x,i,P.underlying t with
 | .slc b n len cap es,.lit (.int _ k),some (.slice elem)=>if 0≤k∧k<(len:Int)∧szT P elem=some es then some (.ptr b (n+k.toNat*es)) else none
 | .ptr b n,.lit (.int _ k),some (.array len elem)=>match szT P elem with
  | some es=>if 0≤k∧k<(len:Int) then some (.ptr b (n+k.toNat*es)) else none
  | none=>none
 | _,_,_=>none
def pIndex(P:Program)(ev:Ev)(o:Oper)(t:TypeId)(x i:AV):Option AV:=
 match x,i,P.underlying t with
 | .agg cs,.lit (.int _ k),some (.array len elem)=>match szT P elem with
  | some es=>if 0≤k∧k<(len:Int) then aPart P elem cs (k.toNat*es) else none
  | none=>none
 | _,_,_=>aSelf P ev o
def pSlice(P:Program)(ev:Ev)(o:Oper)(t:TypeId)(x:AV)(lo hi:Option AV):Option AV:=
 match x,P.underlying t with
 | .txt s,some .string=>match aBd (tlen s) (tlen s) hi with
  | some h=>match aBd 0 h lo with
   | some l=>some (.txt (tdrop l (ttake h s)))
   | none=>none
  | none=>none
 | .slc b n len cap es,some (.slice elem)=>match aBd len cap hi with
  | some h=>match aBd 0 h lo with
   | some l=>if szT P elem=some es then some (.slc b (n+l*es) (h-l) (cap-l) es) else none
   | none=>none
  | none=>none
 | .lit (.slice none 0 0),some (.slice _)=>aSelf P ev o
 | _,_=>none
def pSlice3(P:Program)(ev:Ev)(o:Oper)(t:TypeId)(x:AV)(lo hi:Option AV)(mx:AV):Option AV:=
 match x,P.underlying t,hi with
 | .slc b n len cap es,some (.slice elem),some hi=>match aBd 0 cap (some mx) with
  | some m=>match aBd 0 m (some hi) with
   | some h=>match aBd 0 h lo with
    | some l=>if szT P elem=some es then some (.slc b (n+l*es) (h-l) (m-l) es) else none
    | none=>none
   | none=>none
  | none=>none
 | _,_,_=>aSelf P ev o
def pBin(P:Program)(ev:Ev)(o:Oper)(op:BinOp)(t:TypeId)(x y:AV):Option AV:=
 match aBin op x y with
 | some v=>some v
 | none=>match aSelf P ev o with
  | some v=>some v
  | none=>match op with
   | .eql=>(aEq P t x y).map fun b=>.lit (.bool b)
   | .neq=>(aEq P t x y).map fun b=>.lit (.bool !b)
   | .add=>match x,y with
    | .txt a,.txt b=>if tlen a+tlen b≤1000000 then some (.txt (tcat a b)) else none
    | _,_=>none
   | _=>none
def pLen(P:Program)(ts:Array TypeId)(x:AV):Option AV:=
 match ts[0]? with
 | some t=>match P.underlying t,x with
  | some .string,.txt s=>some (.lit (.int .i64 (tlen s)))
  | some (.slice _),.slc _ _ n _ _=>some (.lit (.int .i64 n))
  | some (.array n _),_=>some (.lit (.int .i64 n))
  | some (.slice _),.lit (.slice _ n _)=>some (.lit (.int .i64 n))
  | _,_=>none
 | none=>none
def pCall(P:Program)(ev:Ev)(o:Oper)(c:Call):Option AV:=
 match c.callee with
 | .builtin .len=>match c.args[0]? with
  | some x=>pLen P c.argTypes (ev x)
  | none=>none
 | _=>aSelf P ev o
def pConv(P:Program)(ev:Ev)(o:Oper)(s d:TypeId)(x:AV):Option AV:=
 match x,P.underlying s,P.underlying d with
 | .txt t,some .string,some .string=>some (.txt t)
 | _,_,_=>aSelf P ev o
def pNot(P:Program)(ev:Ev)(o:Oper)(op:UnOp)(x:AV):Option AV:=
 match op,x with
 | .not,.lit (.bool true)=>some (.lit (.bool false))
 | .not,.lit (.bool false)=>some (.lit (.bool true))
 | _,_=>aSelf P ev o
def aPure(P:Program)(ev:Ev)(o:Oper):Option AV:=
 match o.op with
 | .move x=>some (ev x)
 | .assign x=>some (ev x)
 | .pick c a b=>pPick (ev c) (ev a) (ev b)
 | .nilCheck x=>pNil (ev x)
 | .makeFunc f a b=>some (.fn f (a.toList.map ev) (b.toList.map ev))
 | .extract x i=>pExtract (ev x) i
 | .fieldAddr s x f=>pFieldAddr P s (ev x) f
 | .field s x f=>pField P s (ev x) f
 | .indexAddr t x i=>pIndexAddr P t (ev x) (ev i)
 | .index t x i=>pIndex P ev o t (ev x) (ev i)
 | .slice t x lo hi mx=>match mx with
  | none=>pSlice P ev o t (ev x) (lo.map ev) (hi.map ev)
  | some m=>pSlice3 P ev o t (ev x) (lo.map ev) (hi.map ev) (ev m)
 | .build t parts=>aBuild P t (parts.toList.map fun p=>(p.1,ev p.2))
 | .binOp op t x y _=>pBin P ev o op t (ev x) (ev y)
 | .unOp op _ x=>pNot P ev o op (ev x)
 | .call c=>pCall P ev o c
 | .convert s d x=>pConv P ev o s d (ev x)
 | _=>aSelf P ev o
end
def cutN(n:Nat):Nat:=if h:n≤2 then 1 else 2*cutN ((n+1)/2)
termination_by n
decreasing_by omega
theorem cutN_le2{n:Nat}(h:n≤2):cutN n=1:=by rw [cutN,dif_pos h]
theorem cutN_gt2{n:Nat}(h:¬ n≤2):cutN n=2*cutN ((n+1)/2):=by rw [cutN,dif_neg h]
theorem cutN_pow(n:Nat):∃ j,cutN n=2^j:=by
 induction n using Nat.strongRecOn with
 | _ n ih=>
  by_cases h:n≤2
  ·exact ⟨0,cutN_le2 h⟩
  ·obtain ⟨j,hj⟩:=ih ((n+1)/2) (by omega)
   exact ⟨j+1,by rw [cutN_gt2 h,hj,Nat.pow_succ];omega⟩
theorem Jo(n:Nat):2≤n→cutN n<n∧n≤2*cutN n∧1≤cutN n:=by
 induction n using Nat.strongRecOn with
 | _ n ih=>
  intro h2
  by_cases h:n≤2
  ·rw [cutN_le2 h];omega
  ·have:=ih ((n+1)/2) (by omega) (by omega)
   rw [cutN_gt2 h]
   omega
theorem pow_between{i j n:Nat}(h1:2^i<n)(h2:n≤2*2^i)(h3:2^j<n)(h4:n≤2*2^j):i=j:=by
 have e1:i<j+1:=by
  refine (Nat.pow_lt_pow_iff_right (a:=2) (by decide)).1 ?_
  rw [Nat.pow_succ];omega
 have e2:j<i+1:=by
  refine (Nat.pow_lt_pow_iff_right (a:=2) (by decide)).1 ?_
  rw [Nat.pow_succ];omega
 omega
theorem cutN_is{n i:Nat}(h1:2^i<n)(h2:n≤2*2^i):cutN n=2^i:=by
 obtain ⟨j,hj⟩:=cutN_pow n
 have hn:2≤n:=by have:1≤2^i:=Nat.one_le_two_pow;omega
 obtain ⟨a,b,-⟩:=Jo n hn
 rw [hj] at a b ⊢
 rw [pow_between h1 h2 a b]
theorem cutN_same{n m:Nat}(h1:cutN n<m)(h2:m≤n)(hn:2≤n):cutN m=cutN n:=by
 obtain ⟨j,hj⟩:=cutN_pow n
 obtain ⟨a,b,-⟩:=Jo n hn
 rw [hj] at h1 b ⊢
 exact cutN_is h1 (by omega)
theorem cutN_two{m:Nat}(h:2≤m):cutN (2*m)=2*cutN m:=by
 rw [cutN_gt2 (by omega),show (2*m+1)/2=m by omega]
section
variable (H:ByteArray→ByteArray) (nd:ByteArray→ByteArray→ByteArray)
def rootF(l:List ByteArray):ByteArray:=
 if _h:2≤l.length then nd (rootF (l.take (cutN l.length))) (rootF (l.drop (cutN l.length))) else l.headD (H ByteArray.empty)
termination_by l.length
decreasing_by
 all_goals
  have:=Jo l.length (by omega)
  simp only [List.length_take,List.length_drop]
  omega
variable {H nd}
theorem Vj(x:ByteArray):rootF H nd [x]=x:=by rw [rootF,dif_neg (by simp)];rfl
theorem rootF_nil:rootF H nd []=H ByteArray.empty:=by rw [rootF,dif_neg (by simp)];rfl
theorem Zs{l:List ByteArray}(h:2≤l.length):rootF H nd l=nd (rootF H nd (l.take (cutN l.length))) (rootF H nd (l.drop (cutN l.length))):=by rw [rootF,dif_pos h]
def subF(H:ByteArray→ByteArray)(nd:ByteArray→ByteArray→ByteArray)(m:Nat)(l:List ByteArray)(whole:Bool):List ByteArray:=
 if _h:m=l.length∨l.length<2 then (if whole then [] else [rootF H nd l])
 else if m≤cutN l.length then subF H nd m (l.take (cutN l.length)) whole++[rootF H nd (l.drop (cutN l.length))]
 else subF H nd (m-cutN l.length) (l.drop (cutN l.length)) false++[rootF H nd (l.take (cutN l.length))]
termination_by l.length
decreasing_by
 all_goals
  have:=Jo l.length (by omega)
  simp only [List.length_take,List.length_drop]
  omega
def longF(m n:Nat)(whole:Bool):Nat:=
 if _h:m=n∨n<2 then (if whole then 0 else 1)
 else if m≤cutN n then longF m (cutN n) whole+1 else longF (m-cutN n) (n-cutN n) false+1
termination_by n
decreasing_by
 all_goals
  have:=Jo n (by omega)
  omega
def Zl(nd:ByteArray→ByteArray→ByteArray)(m n:Nat)(known:ByteArray)(p:List ByteArray)(whole:Bool):ByteArray × ByteArray:=
 if _h:m=n∨n<2 then (if whole then (known,known) else (p.headD ByteArray.empty,p.headD ByteArray.empty))
 else if m≤cutN n then
  ((Zl nd m (cutN n) known p.dropLast whole).1,nd (Zl nd m (cutN n) known p.dropLast whole).2 (p.getLastD ByteArray.empty))
 else
  (nd (p.getLastD ByteArray.empty) (Zl nd (m-cutN n) (n-cutN n) known p.dropLast false).1,nd (p.getLastD ByteArray.empty) (Zl nd (m-cutN n) (n-cutN n) known p.dropLast false).2)
termination_by n
decreasing_by
 all_goals
  have:=Jo n (by omega)
  omega
theorem sub_long:∀ (d:Nat) (m:Nat) (l:List ByteArray) (whole:Bool),l.length≤d→(subF H nd m l whole).length=longF m l.length whole:=by
 intro d
 induction d with
 | zero=>
  intro m l whole hd
  rw [subF,longF,dif_pos (by omega),dif_pos (by omega)]
  cases whole <;> rfl
 | succ d ih=>
  intro m l whole hd
  rw [subF,longF]
  by_cases h:m=l.length∨l.length<2
  ·rw [dif_pos h,dif_pos h]
   cases whole <;> rfl
  ·rw [dif_neg h,dif_neg h]
   have hc:=Jo l.length (by omega)
   by_cases hm:m≤cutN l.length
   ·rw [if_pos hm,if_pos hm,lJ,ih _ _ _ (by rw [List.length_take];omega),List.length_take,Nat.min_eq_left (by omega)]
    rfl
   ·rw [if_neg hm,if_neg hm,lJ,ih _ _ _ (by rw [List.length_drop];omega),List.length_drop]
    rfl
theorem take_cut{l:List ByteArray}{m:Nat}(hm:m≤cutN l.length):(l.take (cutN l.length)).take m=l.take m:=by
 rw [List.take_take,Nat.min_eq_left hm]
theorem roots_sub:∀ (d:Nat) (m:Nat) (l:List ByteArray) (known:ByteArray) (whole:Bool),l.length≤d→1≤m→m≤l.length→(whole=true→known=rootF H nd (l.take m)) →
 Zl nd m l.length known (subF H nd m l whole) whole=(rootF H nd (l.take m),rootF H nd l):=by
 intro d
 induction d with
 | zero=>intro m l known whole hd h1 h2;omega
 | succ d ih=>
  intro m l known whole hd h1 h2 hk
  rw [subF,Zl]
  by_cases h:m=l.length∨l.length<2
  ·rw [dif_pos h,dif_pos h]
   have hm:m=l.length:=by omega
   rw [hm,List.take_length] at hk ⊢
   cases whole with
   | true=>rw [if_pos rfl,hk rfl]
   | false=>rfl
  ·rw [dif_neg h,dif_neg h]
   have hc:=Jo l.length (by omega)
   by_cases hm:m≤cutN l.length
   ·rw [if_pos hm,if_pos hm,List.dropLast_concat,List.getLastD_concat]
    have e:=ih m (l.take (cutN l.length)) known whole (by rw [List.length_take];omega) h1 (by rw [List.length_take];omega) (fun hw=>by rw [take_cut hm];exact hk hw)
    rw [List.length_take,Nat.min_eq_left (by omega)] at e
    rw [e,take_cut hm]
    show (_,_)=(_,_)
    rw [← Zs (H:=H) (nd:=nd) (l:=l) (by omega)]
   ·rw [if_neg hm,if_neg hm,List.dropLast_concat,List.getLastD_concat]
    have e:=ih (m-cutN l.length) (l.drop (cutN l.length)) known false (by rw [List.length_drop];omega) (by omega) (by rw [List.length_drop];omega) (fun hw=>by cases hw)
    rw [List.length_drop] at e
    rw [e]
    show (_,_)=(_,_)
    rw [← Zs (H:=H) (nd:=nd) (l:=l) (by omega)]
    have hlm:(l.take m).length=m:=by rw [List.length_take];omega
    have hcm:cutN (l.take m).length=cutN l.length:=by rw [hlm];exact cutN_same (by omega) h2 (by omega)
    rw [Zs (H:=H) (nd:=nd) (l:=l.take m) (by omega),hcm,List.take_take,Nat.min_eq_left (by omega),List.drop_take]
def Qy(nd:ByteArray→ByteArray→ByteArray):List ByteArray→List ByteArray
 | a::b::t=>nd a b::Qy nd t
 | _=>[]
theorem Qz:∀ l:List ByteArray,(Qy nd l).length=l.length/2:=by
 intro l
 induction l using Qy.induct with
 | case1 a b t ih=>rw [Qy,List.length_cons,List.length_cons,List.length_cons,ih];omega
 | case2 l h=>
  match l with
  | []=>rfl
  | [x]=>simp [Qy]
  | a::b::t=>exact absurd rfl (h a b t)
theorem pairsF_append:∀ (l m:List ByteArray),l.length%2=0→Qy nd (l++m)=Qy nd l++Qy nd m:=by
 intro l
 induction l using Qy.induct with
 | case1 a b t ih=>
  intro m h
  rw [List.cons_append,List.cons_append,Qy,Qy,List.cons_append,ih m (by simp at h;omega)]
 | case2 l h=>
  intro m hm
  match l with
  | []=>rfl
  | [x]=>simp at hm
  | a::b::t=>exact absurd rfl (h a b t)
theorem mkPairsF_take(l:List ByteArray)(k:Nat)(h:2*k≤l.length):Qy nd (l.take (2*k))=(Qy nd l).take k:=by
 have e:=pairsF_append (nd:=nd) (l.take (2*k)) (l.drop (2*k)) (by rw [List.length_take];omega)
 rw [List.take_append_drop] at e
 rw [e,List.take_left' (by rw [Qz,List.length_take];omega)]
theorem pairsF_drop(l:List ByteArray)(k:Nat)(h:2*k≤l.length):Qy nd (l.drop (2*k))=(Qy nd l).drop k:=by
 have e:=pairsF_append (nd:=nd) (l.take (2*k)) (l.drop (2*k)) (by rw [List.length_take];omega)
 rw [List.take_append_drop] at e
 rw [e,List.drop_left' (by rw [Qz,List.length_take];omega)]
theorem root_pairs:∀ (d:Nat) (l:List ByteArray),l.length≤d→2≤l.length→l.length%2=0→rootF H nd l=rootF H nd (Qy nd l):=by
 intro d
 induction d with
 | zero=>intro l h1 h2;omega
 | succ d ih=>
  intro l h1 h2 h3
  obtain ⟨m,hm⟩:∃ m,l.length=2*m:=⟨l.length/2,by omega⟩
  by_cases h:m=1
  ·subst h
   match l,hm with
   | [a,b],_=>
    rw [Zs (by simp)]
    have hc:cutN [a,b].length=1:=cutN_le2 (by simp)
    rw [hc]
    show nd (rootF H nd [a]) (rootF H nd [b])=rootF H nd [nd a b]
    rw [Vj,Vj,Vj]
  ·have hc:cutN l.length=2*cutN m:=by rw [hm,cutN_two (by omega)]
   have hb:=Jo m (by omega)
   have hpl:(Qy nd l).length=m:=by rw [Qz];omega
   rw [Zs h2,Zs (l:=Qy nd l) (by omega),hc,hpl,← mkPairsF_take l _ (by omega),← pairsF_drop l _ (by omega)]
   rw [ih (l.take _) (by rw [List.length_take];omega) (by rw [List.length_take];omega) (by rw [List.length_take];omega)]
   rw [ih (l.drop _) (by rw [List.length_drop];omega) (by rw [List.length_drop];omega) (by rw [List.length_drop];omega)]
def Jp(nd:ByteArray→ByteArray→ByteArray)(l:List ByteArray):List ByteArray:=
 if _h:l=[] then [] else Jp nd (Qy nd l)++(if l.length%2=1 then [l.getLastD ByteArray.empty] else [])
termination_by l.length
decreasing_by
 have:l.length≠0:=fun e=>_h (eJ e)
 rw [Qz]
 omega
def mkAddF(nd:ByteArray→ByteArray→ByteArray)(p:List ByteArray)(k:Nat)(x:ByteArray):List ByteArray:=
 if _h:k%2=1 then mkAddF nd p.dropLast (k/2) (nd (p.getLastD ByteArray.empty) x) else p++[x]
termination_by k
decreasing_by omega
theorem Vp:Jp nd []=[]:=by rw [Jp,dif_pos rfl]
theorem peaksF_even{l:List ByteArray}(h:l.length%2=0):Jp nd l=Jp nd (Qy nd l):=by
 by_cases he:l=[]
 ·rw [he];rfl
 ·rw [Jp,dif_neg he,if_neg (by omega),List.append_nil]
theorem peaksF_odd{l:List ByteArray}{y:ByteArray}(h:l.length%2=0):Jp nd (l++[y])=Jp nd l++[y]:=by
 rw [Jp,dif_neg (by simp),if_pos (by simp;omega),List.getLastD_concat,pairsF_append l [y] h,peaksF_even h]
 simp [Qy]
theorem peaks_add:∀ (d:Nat) (l:List ByteArray) (x:ByteArray),l.length≤d→Jp nd (l++[x])=mkAddF nd (Jp nd l) l.length x:=by
 intro d
 induction d with
 | zero=>
  intro l x h
  obtain rfl:l=[]:=eJ (by omega)
  rw [mkAddF,dif_neg (by simp),peaksF_odd (by simp)]
 | succ d ih=>
  intro l x h
  by_cases h2:l.length%2=1
  ·obtain ⟨m,y,rfl⟩:∃ m y,l=m++[y]:=by
    refine ⟨l.dropLast,l.getLast (fun e=>by rw [e] at h2;simp at h2),?_⟩
    rw [List.dropLast_concat_getLast]
   have hm:m.length%2=0:=by simp at h2;omega
   rw [mkAddF,dif_pos h2,peaksF_odd hm,List.dropLast_concat,List.getLastD_concat]
   have e1:m++[y]++[x]=m++[y,x]:=by simp
   rw [e1,peaksF_even (by simp;omega),pairsF_append m _ hm]
   have e2:Qy nd [y,x]=[nd y x]:=rfl
   rw [e2,ih (Qy nd m) (nd y x) (by rw [Qz];simp at h;omega),← peaksF_even hm,Qz]
   congr 1
   simp
   omega
  ·rw [mkAddF,dif_neg h2,peaksF_odd (by omega)]
def foldF(nd:ByteArray→ByteArray→ByteArray):List ByteArray→ByteArray
 | []=>ByteArray.empty
 | [x]=>x
 | a::t=>nd a (foldF nd t)
theorem peaks_top(H:ByteArray→ByteArray):∀ (i:Nat) (l:List ByteArray),2^i≤l.length→l.length<2^(i+1)→Jp nd l=rootF H nd (l.take (2^i))::Jp nd (l.drop (2^i)):=by
 intro i
 induction i with
 | zero=>
  intro l h1 h2
  match l with
  | []=>simp at h1
  | [y]=>
   show Jp nd ([]++[y])=rootF H nd [y]::Jp nd []
   rw [peaksF_odd (by simp),Vp,Vj];rfl
  | a::b::t=>simp at h2;omega
 | succ i ih=>
  have key:∀ l:List ByteArray,l.length%2=0→2^(i+1)≤l.length→l.length<2^(i+1+1)→Jp nd l=rootF H nd (l.take (2^(i+1)))::Jp nd (l.drop (2^(i+1))):=by
   intro l he h1 h2
   have e1:2^(i+1)=2*2^i:=by rw [Nat.pow_succ];omega
   have e2:2^(i+1+1)=2*2^(i+1):=by rw [Nat.pow_succ];omega
   have hp:1≤2^i:=Nat.one_le_two_pow
   rw [peaksF_even he,ih (Qy nd l) (by rw [Qz];omega) (by rw [Qz];omega),e1]
   rw [← mkPairsF_take l _ (by omega),← pairsF_drop l _ (by omega),← peaksF_even (l:=l.drop (2*2^i)) (by rw [List.length_drop];omega)]
   rw [← root_pairs (H:=H) _ (l.take (2*2^i)) (Nat.le_refl _) (by rw [List.length_take];omega) (by rw [List.length_take];omega)]
  intro l h1 h2
  by_cases he:l.length%2=0
  ·exact key l he h1 h2
  ·obtain ⟨m,y,rfl⟩:∃ m y,l=m++[y]:=by
    refine ⟨l.dropLast,l.getLast (fun e=>by rw [e] at he;simp at he),?_⟩
    rw [List.dropLast_concat_getLast]
   have hm:m.length%2=0:=by simp at he;omega
   have e1:2^(i+1)=2*2^i:=by rw [Nat.pow_succ];omega
   have hle:2^(i+1)≤m.length:=by simp at h1;omega
   rw [peaksF_odd hm,key m hm hle (by simp at h2;omega),List.take_append_of_le_length hle,List.drop_append_of_le_length hle,peaksF_odd (by rw [List.length_drop];omega)]
   rfl
theorem pow_below(n:Nat)(h:1≤n):∃ i,2^i≤n∧n<2^(i+1):=by
 induction n using Nat.strongRecOn with
 | _ n ih=>
  by_cases h1:n=1
  ·exact ⟨0,by omega,by omega⟩
  ·obtain ⟨i,h2,h3⟩:=ih (n/2) (by omega) (by omega)
   refine ⟨i+1,?_,?_⟩
   ·rw [Nat.pow_succ];omega
   ·rw [Nat.pow_succ];omega
theorem peaks_ne{l:List ByteArray}(h:1≤l.length):Jp nd l≠[]:=by
 obtain ⟨i,h1,h2⟩:=pow_below l.length h
 rw [peaks_top id i l h1 h2]
 simp
theorem fold_peaks(H:ByteArray→ByteArray):∀ (d:Nat) (l:List ByteArray),l.length≤d→1≤l.length→foldF nd (Jp nd l)=rootF H nd l:=by
 intro d
 induction d with
 | zero=>intro l h1 h2;omega
 | succ d ih=>
  intro l h1 h2
  obtain ⟨i,h3,h4⟩:=pow_below l.length h2
  have hp:1≤2^i:=Nat.one_le_two_pow
  rw [peaks_top H i l h3 h4]
  by_cases he:2^i=l.length
  ·rw [he,List.take_length,List.drop_length,Vp]
   rfl
  ·have hc:cutN l.length=2^i:=cutN_is (by omega) (by rw [Nat.pow_succ] at h4;omega)
   have h6:=peaks_ne (nd:=nd) (l:=l.drop (2^i)) (by rw [List.length_drop];omega)
   have h7:=ih (l.drop (2^i)) (by rw [List.length_drop];omega) (by rw [List.length_drop];omega)
   rw [Zs (H:=H) (l:=l) (by omega),hc,← h7]
   cases hq:Jp nd (l.drop (2^i)) with
   | nil=>exact absurd hq h6
   | cons a t=>rfl
def Jb(want:List Nat)(k:Nat):List Nat:=want.filter (fun i=>decide (i<k))
def highF(want:List Nat)(k:Nat):List Nat:=(want.filter (fun i=>decide (k≤i))).map (· - k)
def Kn(H:ByteArray→ByteArray)(nd:ByteArray→ByteArray→ByteArray)(want:List Nat)(l:List ByteArray):List ByteArray:=
 if want=[] then [rootF H nd l] else if _h:l.length<2 then []
 else Kn H nd (Jb want (cutN l.length)) (l.take (cutN l.length))++Kn H nd (highF want (cutN l.length)) (l.drop (cutN l.length))
termination_by l.length
decreasing_by
 all_goals
  have:=Jo l.length (by omega)
  simp only [List.length_take,List.length_drop]
  omega
def Jw(n:Nat)(want:List Nat):Nat:=
 if want=[] then 1 else if _h:n<2 then 0 else Jw (cutN n) (Jb want (cutN n))+Jw (n-cutN n) (highF want (cutN n))
termination_by n
decreasing_by
 all_goals
  have:=Jo n (by omega)
  omega
def upF(nd:ByteArray→ByteArray→ByteArray)(n:Nat)(want:List Nat)(L p:List ByteArray):ByteArray × List ByteArray × List ByteArray:=
 if want=[] then (p.headD ByteArray.empty,L,p.tail) else if _h:n<2 then (L.headD ByteArray.empty,L.tail,p)
 else
  (nd (upF nd (cutN n) (Jb want (cutN n)) L p).1 (upF nd (n-cutN n) (highF want (cutN n)) (upF nd (cutN n) (Jb want (cutN n)) L p).2.1 (upF nd (cutN n) (Jb want (cutN n)) L p).2.2).1,
    (upF nd (n-cutN n) (highF want (cutN n)) (upF nd (cutN n) (Jb want (cutN n)) L p).2.1 (upF nd (cutN n) (Jb want (cutN n)) L p).2.2).2)
termination_by n
decreasing_by
 all_goals
  have:=Jo n (by omega)
  omega
theorem prove_count:∀ (d:Nat) (want:List Nat) (l:List ByteArray),l.length≤d→(Kn H nd want l).length=Jw l.length want:=by
 intro d
 induction d with
 | zero=>
  intro want l h
  rw [Kn,Jw]
  split
  ·rfl
  ·rw [dif_pos (by omega),dif_pos (by omega)];rfl
 | succ d ih=>
  intro want l h
  rw [Kn,Jw]
  split
  ·rfl
  ·by_cases h2:l.length<2
   ·rw [dif_pos h2,dif_pos h2];rfl
   ·rw [dif_neg h2,dif_neg h2]
    have hc:=Jo l.length (by omega)
    rw [lJ,ih _ _ (by rw [List.length_take];omega),ih _ _ (by rw [List.length_drop];omega),List.length_take,List.length_drop,Nat.min_eq_left (by omega)]
theorem split_want{want:List Nat}(k:Nat)(h:want.Pairwise (· < ·)):want=Jb want k++(highF want k).map (· + k):=by
 induction want with
 | nil=>rfl
 | cons a t ih=>
  obtain ⟨h1,h2⟩:=List.pairwise_cons.1 h
  have ih:=ih h2
  unfold Jb highF at *
  by_cases ha:a<k
  ·rw [List.filter_cons_of_pos (by simpa using ha),List.filter_cons_of_neg (by simpa using ha),List.cons_append,← ih]
  ·have hn:t.filter (fun i=>decide (i<k))=[]:=by
    rw [List.filter_eq_nil_iff]
    intro b hb
    have:=h1 b hb
    simp;omega
   rw [hn,List.nil_append] at ih
   rw [List.filter_cons_of_neg (by simpa using ha),hn,List.filter_cons_of_pos (by simp;omega),List.nil_append,List.map_cons,List.map_cons,← ih,Nat.sub_add_cancel (by omega)]
theorem low_ok{want:List Nat}{k:Nat}(h:want.Pairwise (· < ·)):(Jb want k).Pairwise (· < ·)∧∀ i∈Jb want k,i<k:=
 ⟨h.filter _,fun i hi=>by simpa using (List.mem_filter.1 hi).2⟩
theorem high_ok{want:List Nat}{k n:Nat}(h:want.Pairwise (· < ·))(hb:∀ i∈want,i<n):(highF want k).Pairwise (· < ·)∧∀ i∈highF want k,i<n-k:=by
 constructor
 ·unfold highF
  rw [List.pairwise_map]
  refine (h.filter _).imp_of_mem fun {a b} ha hb hab=>?_
  have h1:k≤a:=by simpa using (List.mem_filter.1 ha).2
  omega
 ·intro i hi
  unfold highF at hi
  obtain ⟨a,ha,rfl⟩:=List.mem_map.1 hi
  have h1:k≤a:=by simpa using (List.mem_filter.1 ha).2
  have h2:=hb a (List.mem_filter.1 ha).1
  omega
theorem map_getD_take{l:List ByteArray}{k:Nat}{w:List Nat}(h:∀ i∈w,i<k):w.map (fun i=>(l.take k).getD i ByteArray.empty)=w.map (fun i=>l.getD i ByteArray.empty):=by
 refine List.map_congr_left fun i hi=>?_
 rw [List.getD_eq_getElem?_getD,List.getD_eq_getElem?_getD,List.getElem?_take_of_lt (h i hi)]
theorem map_getD_drop{l:List ByteArray}{k:Nat}{w:List Nat}:w.map (fun i=>(l.drop k).getD i ByteArray.empty)=(w.map (· + k)).map (fun i=>l.getD i ByteArray.empty):=by
 rw [List.map_map]
 refine List.map_congr_left fun i hi=>?_
 show (l.drop k).getD i _=l.getD (i+k) _
 rw [List.getD_eq_getElem?_getD,List.getD_eq_getElem?_getD,List.getElem?_drop,Nat.add_comm]
theorem up_prove:∀ (d:Nat) (want:List Nat) (l L P:List ByteArray),l.length≤d→1≤l.length→want.Pairwise (· < ·)→(∀ i∈want,i<l.length) →
 upF nd l.length want (want.map (fun i=>l.getD i ByteArray.empty)++L) (Kn H nd want l++P)=(rootF H nd l,L,P):=by
 intro d
 induction d with
 | zero=>intro want l L P h h1;omega
 | succ d ih=>
  intro want l L P h h1 hw hb
  rw [upF,Kn]
  by_cases h0:want=[]
  ·subst h0
   rw [if_pos rfl,if_pos rfl];rfl
  ·rw [if_neg h0,if_neg h0]
   by_cases h2:l.length<2
   ·rw [dif_pos h2,dif_pos h2]
    match l,h1,h2 with
    | [x],_,_=>
     obtain rfl:want=[0]:=by
      match want,h0,hw,hb with
      | [a],_,_,hb=>have:=hb a (by simp);simp at this;rw [this]
      | a::b::t,_,hw,hb=>
       have h3:=hb b (by simp)
       have h4:=(List.pairwise_cons.1 hw).1 b (by simp)
       simp at h3
       omega
     rw [Vj];rfl
    | a::b::t,_,h2=>simp at h2;omega
   ·rw [dif_neg h2,dif_neg h2]
    have hc:=Jo l.length (by omega)
    obtain ⟨k,hk⟩:∃ k,cutN l.length=k:=⟨_,rfl⟩
    rw [hk] at hc ⊢
    have e0:want.map (fun i=>l.getD i ByteArray.empty)=(Jb want k).map (fun i=>(l.take k).getD i ByteArray.empty)++(highF want k).map (fun i=>(l.drop k).getD i ByteArray.empty):=by
     rw [map_getD_take (low_ok hw).2,map_getD_drop,← List.map_append,← split_want k hw]
    have hl:=low_ok (k:=k) hw
    have hh:=high_ok (k:=k) hw hb
    have lt:(l.take k).length=k:=by rw [List.length_take];omega
    have ld:(l.drop k).length=l.length-k:=by rw [List.length_drop]
    have e1:=ih (Jb want k) (l.take k) ((highF want k).map (fun i=>(l.drop k).getD i ByteArray.empty)++L) (Kn H nd (highF want k) (l.drop k)++P) (by omega) (by omega) hl.1 (by rw [lt];exact hl.2)
    have e2:=ih (highF want k) (l.drop k) L P (by omega) (by omega) hh.1 (by rw [ld];exact hh.2)
    rw [lt] at e1
    rw [ld] at e2
    rw [e0,List.append_assoc,List.append_assoc,e1]
    show (nd _ (upF nd _ _ _ _).1,(upF nd _ _ _ _).2)=_
    simp only
    rw [e2,Zs (H:=H) (nd:=nd) (l:=l) (by omega),hk]
end
theorem Vr:(Tryz.prog.info? 3).map (fun i=>(i.zero,i.size,i.bytes))=some (some (.int .i64 0),1,8):=by kernel_rfl
theorem Vw:(Tryz.prog.info? 5).map (fun i=>(i.zero,i.size,i.bytes))=some (some (.int .u8 0),1,1):=by kernel_rfl
def sld(e:TypeId)(size:Nat)(v:Value)(n:Nat)(xs:List Value):Piece:=fun h=>
 xs.length=n*size∧((v=.slice none 0 0∧n=0∧h=[]) ∨
  ∃ g o cap cur,v=.slice (some ⟨g,o,none⟩) n cap∧h=[(g,.cells cur e (0,0))]∧n≤cap∧cap≤maxLen∧o+cap*size≤cur.size∧(cur.toList.drop o).take (n*size)=xs)
section
variable {w0 w w':World} {p q:Piece} {ps qs:List Piece} {e:TypeId} {size n:Nat} {v:Value} {xs:List Value}
theorem sld_of_slc(h:Own w0 w (slc e size v n xs::ps)):Own w0 w (sld e size v n xs::ps):=
 h.imp fun x ⟨hl,hx⟩=>⟨hl,by
  rcases hx with h | ⟨g,cap,cur,hv,hh,h1,h2,h3,h4⟩
  ·exact .inl h
  ·exact .inr ⟨g,0,cap,cur,hv,hh,h1,h2,by omega,by simpa using h4⟩⟩
theorem Own.sld_cases(h:Own w0 w (sld e size v n xs::ps)) :
 (v=.slice none 0 0∧n=0∧xs=[]∧Own w0 w ps) ∨
 ∃ g o cap cur,v=.slice (some ⟨g,o,none⟩) n cap∧xs.length=n*size∧n≤cap∧cap≤maxLen∧o+cap*size≤cur.size∧(cur.toList.drop o).take (n*size)=xs∧Own w0 w (blk g (.cells cur e)::ps):=by
 have hd:=h.drop
 obtain ⟨hb,x,⟨hl,hx⟩,r⟩:=h
 rcases hx with ⟨rfl,rfl,rfl⟩ | ⟨g,o,cap,cur,rfl,rfl,h1,h2,h3,h4⟩
 ·exact .inl ⟨rfl,rfl,eJ (by simpa using hl),hd⟩
 ·exact .inr ⟨g,o,cap,cur,rfl,hl,h1,h2,h3,h4,hb,_,rfl,r⟩
theorem Own.sld_mk{g o cap:Nat}{cur:Array Value}(h:Own w0 w (blk g (.cells cur e)::ps))(hl:xs.length=n*size)(h1:n≤cap)(h2:cap≤maxLen)(h3:o+cap*size≤cur.size)(h4:(cur.toList.drop o).take (n*size)=xs) :
 Own w0 w (sld e size (.slice (some ⟨g,o,none⟩) n cap) n xs::ps):=by
 obtain ⟨hb,x,rfl,r⟩:=h
 exact ⟨hb,_,⟨hl,.inr ⟨g,o,cap,cur,rfl,rfl,h1,h2,h3,h4⟩⟩,r⟩
theorem Own.drd(h:Own w0 w (sld e size v n xs::ps)):Rd w size v n xs:=by
 rcases h.sld_cases with ⟨rfl,rfl,rfl,_⟩ | ⟨g,o,cap,cur,rfl,hl,h1,h2,h3,h4,h5⟩
 ·exact Rd.nil w size
 ·refine ⟨hl,_,_,rfl,h1,h2,by simp,?_⟩
  intro ad had j u hu
  obtain rfl:=Option.some.inj had
  rw [Addr.add_lit,h5.cell,← Array.getElem?_toList]
  rw [← h4,List.getElem?_take] at hu
  split at hu
  ·rw [← List.getElem?_drop];exact hu
  ·cases hu
theorem Own.dtail{g o cap k:Nat}(h:Own w0 w (sld e size (.slice (some ⟨g,o,none⟩) n cap) n xs::ps))(hk:k≤n) :
 Own w0 w (sld e size (.slice (some ⟨g,o+k*size,none⟩) (n-k) (cap-k)) (n-k) (xs.drop (k*size))::ps):=by
 rcases h.sld_cases with ⟨hv,_⟩ | ⟨g',o',cap',cur,hv,hl,h1,h2,h3,h4,h5⟩
 ·cases hv
 ·cases hv
  have e1:(n-k)*size=n*size-k*size:=Nat.sub_mul ..
  have e2:(cap-k)*size=cap*size-k*size:=Nat.sub_mul ..
  have e3:=Nat.mul_le_mul_right size hk
  have e4:=Nat.mul_le_mul_right size h1
  refine h5.sld_mk (by rw [List.length_drop,hl,e1]) (by omega) (by omega) (by omega) ?_
  rw [← h4,e1,List.drop_take,List.drop_drop]
variable {P:Program} {t ty:TypeId} {i:TypeInfo} {z:Value} {bytes:Nat}
end
section
variable {w:World} {size n:Nat} {xs:List Value}
theorem Rd.tail{ad:Addr}{cap k:Nat}(h:Rd w size (.slice (some ad) n cap) n xs)(hk:k≤n):Rd w size (.slice (some (ad.add (k*size))) (n-k) (cap-k)) (n-k) (xs.drop (k*size)):=by
 obtain ⟨hl,a,c,e,h1,h2,h3,h4⟩:=h
 cases e
 have e1:(n-k)*size=n*size-k*size:=Nat.sub_mul ..
 refine ⟨by rw [List.length_drop,hl,e1],_,_,rfl,by omega,by omega,by simp,fun ad' had j u hu=>?_⟩
 cases had
 rw [List.getElem?_drop] at hu
 rw [Go.Deep.add_add]
 exact h4 _ rfl _ _ hu
theorem Rd.take{ao:Option Addr}{cap k:Nat}(h:Rd w size (.slice ao n cap) n xs)(hk:k≤n):Rd w size (.slice ao k cap) k (xs.take (k*size)):=by
 obtain ⟨hl,a,c,e,h1,h2,h3,h4⟩:=h
 cases e
 have e3:=Nat.mul_le_mul_right size hk
 refine ⟨by rw [List.length_take,hl];omega,_,_,rfl,by omega,h2,fun hn=>⟨by have:=h3 hn;omega,(h3 hn).2⟩,fun ad' had j u hu=>?_⟩
 rw [List.getElem?_take] at hu
 split at hu
 ·exact h4 _ had _ _ hu
 ·cases hu
end
section
variable {w0 w:World} {ps:List Piece} {e:TypeId} {size n:Nat} {xs:List Value}
end
section
variable {w w0 w':World} {size n:Nat} {xs:List Value} {v:Value} {ps:List Piece}
theorem Rd.cell{b o c j:Nat}{u:Value}(h:Rd w size (.slice (some ⟨b,o,none⟩) n c) n xs)(hu:xs[j]?=some u):w.cell? ⟨b,o+j,none⟩=some u:=by
 obtain ⟨_,a,c,e,_,_,_,h4⟩:=h
 cases e
 rw [← Addr.add_lit]
 exact h4 _ rfl j u hu
theorem Rd.some(h:Rd w size v n xs)(hn:0<xs.length):∃ b o c,v=.slice (some ⟨b,o,none⟩) n c∧n≤c∧c≤9223372036854775807:=by
 obtain ⟨b,o,c,e,h1,h2,_⟩:=h.at hn
 exact ⟨b,o,c,e,h1,h2⟩
end
def txs(l:List ByteArray):List Value:=l.map .string
theorem Qr(l:List ByteArray):(txs l).length=l.length:=by simp [txs]
theorem Kp{l:List ByteArray}{k:Nat}{s:ByteArray}(h:l[k]?=some s):(txs l)[k]?=some (.string s):=by simp [txs,h]
def nums(l:List Int):List Value:=l.map (.int .i64)
theorem Qg(l:List Int):(nums l).length=l.length:=by simp [nums]
theorem Jj{l:List Int}{k:Nat}{s:Int}(h:l[k]?=some s):(nums l)[k]?=some (.int .i64 s):=by simp [nums,h]
theorem Ql{α:Type _}{l:List α}{k:Nat}(h:k<l.length):∃ x,l[k]?=some x:=⟨l[k],List.getElem?_eq_getElem h⟩
theorem loopL(b:ByteArray):∀ (k i:Nat) (r:List UInt8),i+k=b.size→ByteArray.toList.loop b i r=r.reverse++b.data.toList.drop i:=by
 intro k
 induction k with
 | zero=>
  intro i r h
  rw [ByteArray.toList.loop]
  have:b.data.toList.length≤i:=by simp;exact (by show b.size≤i;omega)
  rw [if_neg (by omega),List.drop_eq_nil_of_le this,List.append_nil]
 | succ k ih=>
  intro i r h
  rw [ByteArray.toList.loop,if_pos (by omega),ih (i+1) _ (by omega)]
  have hl:i<b.data.toList.length:=by simp;exact (by show i<b.size;omega)
  rw [List.drop_eq_getElem_cons hl]
  have hg:b.get! i=b.data.toList[i]:=by
   show b.data[i]! = _
   rw [getElem!_pos b.data i (by simpa using hl)]
   simp
  simp [hg]
theorem str_data(b:ByteArray):b.toList=b.data.toList:=by
 rw [ByteArray.toList,loopL b b.size 0 [] (by omega)]
 simp
section
variable {α:Type} (f:α→List Value) {k:Nat}
def rows(l:List α):List Value:=l.flatMap f
theorem Ke(x:α)(l:List α):rows f (x::l)=f x++rows f l:=rfl
theorem Ze(a b:List α):rows f (a++b)=rows f a++rows f b:=by simp [rows]
theorem rows_one(x:α):rows f [x]=f x:=by simp [rows]
variable (hf:∀ x,(f x).length=k)
include hf
theorem Qp(l:List α):(rows f l).length=l.length*k:=by
 induction l with
 | nil=>simp [rows]
 | cons x l ih=>rw [Ke,lJ,ih,hf,List.length_cons,Nat.add_mul];omega
theorem rows_drop(l:List α)(i:Nat):(rows f l).drop (i*k)=rows f (l.drop i):=by
 induction l generalizing i with
 | nil=>simp [rows]
 | cons x l ih=>
  cases i with
  | zero=>simp
  | succ i=>
   rw [Ke,List.drop_succ_cons,← ih,Nat.add_mul,Nat.one_mul,Nat.add_comm,← List.drop_drop,List.drop_left' (hf x)]
theorem rows_take(l:List α)(i:Nat):(rows f l).take (i*k)=rows f (l.take i):=by
 induction l generalizing i with
 | nil=>simp [rows]
 | cons x l ih=>
  cases i with
  | zero=>simp [rows]
  | succ i=>
   rw [Ke,List.take_succ_cons,Ke,← ih,Nat.add_mul,Nat.one_mul,Nat.add_comm,← hf x,List.take_length_add_append]
theorem Jt{l:List α}{i:Nat}{x:α}(h:l[i]?=some x)(j:Nat)(hj:j<k):(rows f l)[i*k+j]?=(f x)[j]?:=by
 rw [← List.getElem?_drop,rows_drop f hf]
 obtain ⟨hi,rfl⟩:=gJ h
 rw [List.drop_eq_getElem_cons hi,Ke,List.getElem?_append_left (by rw [hf];exact hj)]
theorem rows_set{l:List α}{i:Nat}(hi:i<l.length)(y:α):rows f (l.set i y)=(rows f l).take (i*k)++f y++(rows f l).drop (i*k+k):=by
 rw [List.set_eq_take_append_cons_drop,if_pos hi,Ze,Ke,rows_take f hf,List.append_assoc]
 congr 2
 rw [show i*k+k=(i+1)*k by rw [Nat.add_mul,Nat.one_mul],rows_drop f hf]
end
section
variable {w0 w w':World} {ps:List Piece} {e:TypeId} {size n:Nat} {v:Value} {xs:List Value}
variable {P:Program} {ty:TypeId} {ops:Array Oper} {rest:List Oper} {o:Oper} {a:Act} {Q:Exit→Act→World→Prop}
theorem Jf(hgd:o.guard=none)(x y:Operand)(ho:o.op=.store ty x y){g i c:Nat}(hx:a.eval x=.pointer (some ⟨g,i*size,none⟩))
 (H:Own w0 w (slc e size (.slice (some ⟨g,0,none⟩) n c) n xs::ps)) (vs:List Value) (hv:(a.eval y).cells.toList=vs) (hi:(P.info? ty).map (·.size)=some vs.length) (hl:vs.length=size) (hj:i<n) (h1:∀ u∈vs,u.oneCell'=true)
 (h:∀ w',Own w0 w' (slc e size (.slice (some ⟨g,0,none⟩) n c) n (xs.take (i*size)++vs++xs.drop (i*size+size))::ps)→wpList P ops Q rest (a.put o.dst undef) w'):wpList P ops Q (o::rest) a w:=by
 rcases H.slc_cases with ⟨hn,_⟩ | ⟨g',cap,cur,he,hxl,c1,c2,c3,c4,h5⟩
 ·cases hn
 ·cases he
  have h3:=Nat.mul_le_mul_right size c1
  have h4:(i+1)*size≤n*size:=Nat.mul_le_mul_right size hj
  rw [Nat.add_mul,Nat.one_mul] at h4
  refine wpList_store_blk hgd x y ho hx h5 vs hv hi (by omega) h1 _ rfl fun w' h'=>h w' ?_
  have hcl:cur.toList.length=cur.size:=by simp
  refine h'.slc_mk (by simp only [lJ,List.length_take,List.length_drop];omega) c1 c2 ?_ ?_
  ·simp only [List.size_toArray,lJ,List.length_take,List.length_drop];omega
  ·rw [← c4,List.take_append,List.take_append,List.take_take,List.take_take,List.drop_take]
   simp only [List.length_take,lJ,Nat.min_eq_left (show i*size≤n*size by omega)]
   rw [show min (i*size) cur.toList.length=i*size by omega,List.take_of_length_le (l:=vs) (by omega),hl,show min (n*size) (i*size)=i*size by omega]
end
theorem Own.slc_take{w0 w:World}{ps:List Piece}{e:TypeId}{size n k g c:Nat}{xs:List Value}(h:Own w0 w (slc e size (.slice (some ⟨g,0,none⟩) n c) n xs::ps))(hk:k≤n) :
 Own w0 w (slc e size (.slice (some ⟨g,0,none⟩) k c) k (xs.take (k*size))::ps):=by
 rcases h.slc_cases with ⟨hv,_⟩ | ⟨g',cap,cur,hv,hl,h1,h2,h3,h4,h5⟩
 ·cases hv
 ·cases hv
  have h6:=Nat.mul_le_mul_right size hk
  refine h5.slc_mk (by rw [List.length_take,hl];omega) (by omega) h2 h3 ?_
  rw [← h4,List.take_take,Nat.min_eq_left h6]
section
variable {α:Type} (key:α→Int)
def Srt(l:List α):Prop:=l.Pairwise fun x y=>key x≤key y
def StEq(l m:List α):Prop:=∀ k:Int,l.filter (fun x=>decide (key x=k))=m.filter (fun x=>decide (key x=k))
variable {key}
theorem StEq.refl(l:List α):StEq key l l:=fun _=>rfl
theorem StEq.symm{l m:List α}(h:StEq key l m):StEq key m l:=fun k=>(h k).symm
theorem StEq.trans{l m n:List α}(h:StEq key l m)(g:StEq key m n):StEq key l n:=fun k=>(h k).trans (g k)
theorem StEq.app{a b c d:List α}(h:StEq key a b)(g:StEq key c d):StEq key (a++c) (b++d):=fun k=>by
 rw [List.filter_append,List.filter_append,h k,g k]
theorem StEq.turn{x y:List α}(h:∀ a∈x,∀ b∈y,key b<key a):StEq key (x++y) (y++x):=fun k=>by
 rw [List.filter_append,List.filter_append]
 by_cases hx:∃ a∈x,key a=k
 ·obtain ⟨a,ha,hk⟩:=hx
  have:y.filter (fun z=>decide (key z=k))=[]:=List.filter_eq_nil_iff.2 fun b hb=>by
   have:=h a ha b hb
   simp;omega
  rw [this];simp
 ·have:x.filter (fun z=>decide (key z=k))=[]:=List.filter_eq_nil_iff.2 fun b hb=>by
   simp only [decide_eq_true_eq]
   exact fun e=>hx ⟨b,hb,e⟩
  rw [this];simp
theorem StEq.mem{l m:List α}(h:StEq key l m){x:α}(hx:x∈l):x∈m:=by
 have:x∈l.filter (fun z=>decide (key z=key x)):=List.mem_filter.2 ⟨hx,by simp⟩
 rw [h] at this
 exact (List.mem_filter.1 this).1
theorem StEq.nil{l:List α}(h:StEq key [] l):l=[]:=by
 cases l with
 | nil=>rfl
 | cons a l=>have:=h.symm.mem (x:=a) (by simp);simp at this
theorem Srt.app{a b:List α}(ha:Srt key a)(hb:Srt key b)(h:∀ x∈a,∀ y∈b,key x≤key y):Srt key (a++b):=List.pairwise_append.2 ⟨ha,hb,h⟩
theorem Srt.left{a b:List α}(h:Srt key (a++b)):Srt key a:=(List.pairwise_append.1 h).1
theorem Srt.right{a b:List α}(h:Srt key (a++b)):Srt key b:=(List.pairwise_append.1 h).2.1
theorem Srt.across{a b:List α}(h:Srt key (a++b)):∀ x∈a,∀ y∈b,key x≤key y:=(List.pairwise_append.1 h).2.2
theorem StEq.unique:∀ {l m:List α},Srt key l→Srt key m→StEq key l m→l=m:=by
 intro l
 induction l with
 | nil=>intro m _ _ h;exact h.nil.symm
 | cons a l ih=>
  intro m hl hm h
  cases m with
  | nil=>have:=h.symm.nil;cases this
  | cons b m=>
   have hab:key a=key b:=by
    have h1:=h.mem (x:=a) (by simp)
    have h2:=h.symm.mem (x:=b) (by simp)
    have k1:key b≤key a:=by
     rcases List.mem_cons.1 h1 with e | h1
     ·rw [e];exact Int.le_refl _
     ·exact (List.pairwise_cons.1 hm).1 a h1
    have k2:key a≤key b:=by
     rcases List.mem_cons.1 h2 with e | h2
     ·rw [e];exact Int.le_refl _
     ·exact (List.pairwise_cons.1 hl).1 b h2
    omega
   have hk:=h (key a)
   rw [List.filter_cons_of_pos (by simp),List.filter_cons_of_pos (by simp [hab])] at hk
   injection hk with e1 e2
   subst e1
   rw [ih (List.pairwise_cons.1 hl).2 (List.pairwise_cons.1 hm).2 (fun k=>?_)]
   have hk':=h k
   by_cases he:key a=k
   ·rw [List.filter_cons_of_pos (by simp [he]),List.filter_cons_of_pos (by simp [he])] at hk'
    injection hk'
   ·rwa [List.filter_cons_of_neg (by simpa using he),List.filter_cons_of_neg (by simpa using he)] at hk'
theorem StEq.perm:∀ {l m:List α},StEq key l m→l.Perm m:=by
 intro l
 induction l with
 | nil=>intro m h;rw [h.nil]
 | cons a l ih=>
  intro m h
  have hk:=h (key a)
  rw [List.filter_cons_of_pos (by simp)] at hk
  obtain ⟨s,t,rfl,hs,_,ht⟩:=List.filter_eq_cons_iff.1 hk.symm
  refine ((ih (fun k=>?_)).cons a).trans List.perm_middle.symm
  have hk':=h k
  rw [List.filter_append] at hk' ⊢
  by_cases he:key a=k
  ·rw [List.filter_cons_of_pos (by simp [he]),List.filter_cons_of_pos (by simp [he])] at hk'
   have hs0:s.filter (fun x=>decide (key x=k))=[]:=List.filter_eq_nil_iff.2 fun x hx=>by
    have:=hs x hx
    rw [he] at this
    exact this
   rw [hs0,List.nil_append] at hk' ⊢
   injection hk'
  ·rwa [List.filter_cons_of_neg (by simpa using he),List.filter_cons_of_neg (by simpa using he)] at hk'
theorem StEq.length{l m:List α}(h:StEq key l m):l.length=m.length:=h.perm.length_eq
def insF(key:α→Int)(x:α):List α→List α
 | []=>[x]
 | y::l=>if key x<key y then x::y::l else y::insF key x l
def sortF(key:α→Int)(l:List α):List α:=l.foldl (fun r x=>insF key x r) []
theorem insF_mem{x y:α}:∀ {l:List α},y∈insF key x l→y=x∨y∈l:=by
 intro l
 induction l with
 | nil=>intro h;simp [insF] at h;exact .inl h
 | cons z l ih=>
  intro h
  unfold insF at h
  split at h
  ·simp at h;rcases h with h | h | h
   ·exact .inl h
   ·exact .inr (by simp [h])
   ·exact .inr (by simp [h])
  ·rcases List.mem_cons.1 h with h | h
   ·exact .inr (by simp [h])
   ·rcases ih h with h | h
    ·exact .inl h
    ·exact .inr (by simp [h])
theorem insF_srt{x:α}:∀ {l:List α},Srt key l→Srt key (insF key x l):=by
 intro l
 induction l with
 | nil=>intro _;exact List.pairwise_singleton ..
 | cons y l ih=>
  intro h
  have h':=List.pairwise_cons.1 h
  unfold insF
  split
  ·next hlt=>
   refine List.pairwise_cons.2 ⟨fun z hz=>?_,h⟩
   rcases List.mem_cons.1 hz with rfl | hz
   ·omega
   ·have:=h'.1 z hz;omega
  ·next hlt=>
   refine List.pairwise_cons.2 ⟨fun z hz=>?_,ih h'.2⟩
   rcases insF_mem hz with rfl | hz
   ·omega
   ·exact h'.1 z hz
theorem insF_alike{x:α}:∀ {l:List α},Srt key l→StEq key (l++[x]) (insF key x l):=by
 intro l
 induction l with
 | nil=>intro _;exact StEq.refl _
 | cons y l ih=>
  intro h
  have h':=List.pairwise_cons.1 h
  unfold insF
  split
  ·next hlt=>
   have:=StEq.turn (key:=key) (x:=y::l) (y:=[x]) (fun a ha b hb=>by
    simp at hb;subst hb
    rcases List.mem_cons.1 ha with rfl | ha
    ·exact hlt
    ·have:=h'.1 a ha;omega)
   simpa using this
  ·exact (StEq.refl [y]).app (ih h'.2)
theorem Zo(l:List α):Srt key (sortF key l)∧StEq key l (sortF key l):=by
 unfold sortF
 have key2:∀ (l r:List α),Srt key r→Srt key (l.foldl (fun r x=>insF key x r) r)∧StEq key (r++l) (l.foldl (fun r x=>insF key x r) r):=by
  intro l
  induction l with
  | nil=>intro r hr;exact ⟨hr,by rw [List.append_nil];exact StEq.refl _⟩
  | cons x l ih=>
   intro r hr
   obtain ⟨h1,h2⟩:=ih (insF key x r) (insF_srt hr)
   refine ⟨h1,StEq.trans ?_ h2⟩
   have:=(insF_alike (x:=x) hr).app (StEq.refl (key:=key) l)
   simpa using this
 exact key2 l [] List.Pairwise.nil
theorem sortF_unique{l m:List α}(h1:Srt key m)(h2:StEq key l m):m=sortF key l:=
 StEq.unique h1 (Zo l).1 (h2.symm.trans (Zo l).2)
def Blk(key:α→Int)(b:Nat)(l:List α):Prop:=∀ i j x y,i<j→i/b=j/b→l[i]?=some x→l[j]?=some y→key x≤key y
def Mrg(key:α→Int)(x y z:List α):Prop:=Srt key z∧StEq key (x++y) z
theorem Mrg.two{x1 x2 y1 y2 m1 m2:List α}(h1:Mrg key x1 y1 m1)(h2:Mrg key x2 y2 m2)(hx:Srt key (x1++x2))(hy:Srt key (y1++y2))(ha:∀ a∈x2,∀ b∈y1,key b<key a)(hb:∀ a∈x1,∀ b∈y2,key a≤key b) :
 Mrg key (x1++x2) (y1++y2) (m1++m2):=by
 constructor
 ·refine h1.1.app h2.1 fun a ha' b hb'=>?_
  have ha':=h1.2.symm.mem ha'
  have hb':=h2.2.symm.mem hb'
  rcases List.mem_append.1 ha' with ha' | ha' <;> rcases List.mem_append.1 hb' with hb' | hb'
  ·exact hx.across a ha' b hb'
  ·exact hb a ha' b hb'
  ·have:=ha b hb' a ha';omega
  ·exact hy.across a ha' b hb'
 ·refine StEq.trans ?_ (h1.2.app h2.2)
  have:=(StEq.refl (key:=key) x1).app ((StEq.turn ha).app (StEq.refl y2))
  simpa using this
theorem Mrg.left{x:List α}(h:Srt key x):Mrg key x [] x:=⟨h,by rw [List.append_nil];exact StEq.refl _⟩
theorem Mrg.right{y:List α}(h:Srt key y):Mrg key [] y y:=⟨h,StEq.refl _⟩
theorem Mrg.one_left{x:α}{y1 y2:List α}(hy:Srt key (y1++y2))(h1:∀ b∈y1,key b<key x)(h2:∀ b∈y2,key x≤key b):Mrg key [x] (y1++y2) (y1++x::y2):=by
 constructor
 ·refine hy.left.app (List.pairwise_cons.2 ⟨h2,hy.right⟩) fun a ha b hb=>?_
  rcases List.mem_cons.1 hb with rfl | hb
  ·have:=h1 a ha;omega
  ·exact hy.across a ha b hb
 ·have:=(StEq.turn (key:=key) (x:=[x]) (y:=y1) (fun a ha b hb=>by simp at ha;subst ha;exact h1 b hb)).app (StEq.refl y2)
  simpa using this
theorem Mrg.one_right{y:α}{x1 x2:List α}(hx:Srt key (x1++x2))(h1:∀ b∈x1,key b≤key y)(h2:∀ b∈x2,key y<key b):Mrg key (x1++x2) [y] (x1++y::x2):=by
 constructor
 ·refine hx.left.app (List.pairwise_cons.2 ⟨fun b hb=>by have:=h2 b hb;omega,hx.right⟩) fun a ha b hb=>?_
  rcases List.mem_cons.1 hb with rfl | hb
  ·exact h1 a ha
  ·exact hx.across a ha b hb
 ·have:=(StEq.refl (key:=key) x1).app (StEq.turn (key:=key) (x:=x2) (y:=[y]) (fun a ha b hb=>by simp at hb;subst hb;exact h2 a ha))
  simpa using this
end
def cmpI(a b:Int):Int:=if a<b then -1 else if b<a then 1 else 0
theorem cmpI_lt(a b:Int):decide (cmpI a b<0)=decide (a<b):=by
 unfold cmpI
 split
 ·simp [*]
 ·split <;> simp [*]
theorem last_split{α:Type}(l:List α)(h:0<l.length):∃ a x,l=a++[x]:=by
 refine ⟨l.dropLast,l.getLast (by intro e;subst e;simp at h),?_⟩
 exact (List.dropLast_concat_getLast _).symm
def headIs(id:Nat):Code→Bool
 | .region i _ _=>i==id
 | .seq a _=>headIs id a
 | _=>false
def fromR(id:Nat):Code→Option Code
 | .seq a b=>if headIs id a then some (.seq a b) else match fromR id a with
  | some c=>some c
  | none=>fromR id b
 | .cond _ a b=>match fromR id a with
  | some c=>some c
  | none=>fromR id b
 | .block _ c=>fromR id c
 | .loop c=>fromR id c
 | .scope c=>fromR id c
 | _=>none
end Go.Proofs.YthekdeikodppkaaGreatDoor
