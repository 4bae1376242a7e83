/-
  Texts of this claim, one behind the other: A region that draws its order, all of whose operations but the last few yield values that are known, and keep a condition S on the world ('calm'); flate; flate; lz; lz; lz; lz; Stable sorts, plainly; Slices of slices; An array of ints by value, read at an index; lz; Texts in their order, as numbers. No program in sight; Operations that ask nothing of the memory; append of a string's bytes to a slice of the call's own; bytes made a string. No program in sight; Bits; A map of the call's own whose elements are ints (0 where there is none); Calm regions over what a call owns; Operations that ask nothing of the memory; Operations that ask nothing of the memory; As XCalm.
-/
import Derived.Test.YthekdeikodppkaaGreatDoorKb1
import Derived.Orders
import Derived.Tactics
import Derived.KernelRfl
import Derived.StillTactics
import Derived.OwnWalk
import Derived.Laws.BytesArg
import Derived.Lib.Bytealg
import Derived.Laws.StructEq
import Derived.Laws.Slices
import Derived.Lib.AppendStr
import Derived.Deep.AppendSrc
import Derived.Maps.Own
import Derived.Maps.OwnOps
import Derived.Maps.Views
import Derived.Laws.Tables
import Derived.Laws.Strings
set_option linter.unusedVariables false
namespace Go.Proofs.YthekdeikodppkaaGreatDoor
open Go.RowKit
def waits(o:Oper)(k:Nat):Bool:=o.after.any fun e=>Region.binds .any e&&e.on==k
def isSelect:Op→Bool | .select _ _=>true | _=>false
def newOk(ops:Array Oper)(n:Nat)(nw:List Nat):Bool:=
 nw.all fun k=>decide (k<n)&&match ops[k]? with
  | none=>true
  | some ok=>ok.guard.isNone&&match ok.dst with
   | none=>true
   | some d=>(List.range n).all fun j=>match ops[j]? with
    | none=>true
    | some oj=>!(oj.looksAt ops).contains d
def preOk(ops:Array Oper)(n:Nat)(nw:List Nat):List Nat→List Nat→Bool
 | _,[]=>true
 | done,p::r=>decide (p<n) && !nw.contains p && !done.contains p&&(match ops[p]? with
  | none=>false
  | some o=>o.guard.isNone&&o.after.all fun e=>!Region.binds .any e||done.contains e.on)&&preOk ops n nw (p::done) r
def calmOk(ops:Array Oper)(n:Nat)(nw:List Nat:=[])(pre:List Nat:=[]):Bool:=
 decide (n≤ops.size)&&(newOk ops n nw&&preOk ops n nw [] pre) &&
 (List.range ops.size).all fun j=>match ops[j]? with
   | none=>true
   | some oj=>!isSelect oj.op&&oj.after.all (fun e=>!Region.binds .any e||decide (e.on<j)) &&
    (decide (n≤j)||(List.range n).all fun k=>match ops[k]? with
      | none=>true
      | some ok=>match ok.dst with
       | none=>true
       | some d=>if k=j then !(oj.looksAt ops).contains d else oj.dst != some d&&(!(oj.looksAt ops).contains d||(if k<j then waits oj k else waits ok j))) &&
    (decide (j≠n)||(List.range n).all fun i=>pre.contains i||(List.range (n+1)).any fun k=>decide (i<k)&&match ops[k]? with | none=>false | some ok=>waits ok i) &&
    (decide (j≤n)||waits oj (j-1))
abbrev Sig:=Nat→Option Value
def Sig.upd(σ:Sig)(i:Nat)(v:Value):Sig:=fun k=>if k=i then some v else σ k
def Sig.no:Sig:=fun _=>none
def Calm1(P:Program)(S:Sig→World→Prop)(o:Oper)(a:Act)(v:Value):Prop:=
 ∀ σ w,S σ w→∀ (K:Act→World→Prop) (Q:Exit→Act→World→Prop),(∀ w',S σ w'→K (a.put o.dst v) w')→o.wp P a w K Q
def New1(P:Program)(S:Sig→World→Prop)(i:Nat)(o:Oper)(a:Act):Prop:=
 ∀ σ w,S σ w→∀ (K:Act→World→Prop) (Q:Exit→Act→World→Prop),(∀ v w',S (σ.upd i v) w'→K (a.put o.dst v) w')→o.wp P a w K Q
def calm(P:Program)(ops:Array Oper)(S:Sig→World→Prop)(nw:List Nat)(R:Act→Prop):Nat→List Oper→Act→Prop
 | _,[],a=>R a
 | i,o::rest,a=>(i∈nw∧New1 P S i o a∧calm P ops S nw R (i+1) rest a) ∨
  (i ∉ nw∧Region.wanted o (yielded ops a.tmps)=true∧∃ v,Calm1 P S o a v∧calm P ops S nw R (i+1) rest (a.put o.dst v)) ∨
  (i ∉ nw∧Region.wanted o (yielded ops a.tmps)=false∧calm P ops S nw R (i+1) rest (a.put o.dst undef))
section
variable {P:Program} {ops:Array Oper} {S:Sig→World→Prop} {nw:List Nat} {R:Act→Prop} {a:Act} {o:Oper} {rest:List Oper} {i:Nat}
theorem calm_nil(h:R a):calm P ops S nw R i [] a:=h
theorem calm_step(v:Value)(hi:i ∉ nw)(hw:Region.wanted o (yielded ops a.tmps)=true)
 (h1:∀ σ w,S σ w→∀ (K:Act→World→Prop) (Q:Exit→Act→World→Prop),(∀ w',S σ w'→K (a.put o.dst v) w')→o.wp P a w K Q) (h:calm P ops S nw R (i+1) rest (a.put o.dst v)):calm P ops S nw R i (o::rest) a:=.inr (.inl ⟨hi,hw,v,h1,h⟩)
theorem calm_skip(hi:i ∉ nw)(hw:Region.wanted o (yielded ops a.tmps)=false)
 (h:calm P ops S nw R (i+1) rest (a.put o.dst undef)):calm P ops S nw R i (o::rest) a:=.inr (.inr ⟨hi,hw,h⟩)
theorem calm_new(hi:i∈nw)
 (h1:∀ σ w,S σ w→∀ (K:Act→World→Prop) (Q:Exit→Act→World→Prop),(∀ v w',S (σ.upd i v) w'→K (a.put o.dst v) w')→o.wp P a w K Q) (h:calm P ops S nw R (i+1) rest a):calm P ops S nw R i (o::rest) a:=.inl ⟨hi,h1,h⟩
end
def Qs:List (Option Tmp × Value)→Act→Act
 | [],a=>a
 | (d,v)::r,a=>Qs r (a.put d v)
theorem frames_snoc(l:List (Option Tmp × Value))(x:Option Tmp × Value)(a:Act):Qs (l++[x]) a=(Qs l a).put x.1 x.2:=by
 induction l generalizing a with
 | nil=>rfl
 | cons y l ih=>exact ih _
section
variable {P:Program} {ops:Array Oper} {S:Sig→World→Prop} {nw:List Nat}
def dets(nw:List Nat)(i:Nat):List Oper→List (Option Tmp)
 | []=>[]
 | o::r=>(if i∈nw then none else o.dst)::dets nw (i+1) r
theorem dets_length(nw:List Nat):∀ (l:List Oper) (i:Nat),(dets nw i l).length=l.length
 | [],_=>rfl
 | _::l,i=>by simp [dets,dets_length nw l (i+1)]
theorem dets_get(nw:List Nat):∀ (l:List Oper) (i k:Nat),(dets nw i l)[k]?=(l[k]?).map fun o=>if i+k∈nw then none else o.dst
 | [],_,_=>by simp [dets]
 | o::l,i,0=>by simp [dets]
 | o::l,i,k+1=>by
  have:=dets_get nw l (i+1) k
  simp only [dets,List.getElem?_cons_succ,this]
  rw [show i+1+k=i+(k+1) by omega]
theorem calm_frames{R:Act→Prop}:∀ (l:List Oper) (i:Nat) (a:Act),calm P ops S nw R i l a →
 ∃ vs:List Value,vs.length=l.length∧R (Qs ((dets nw i l).zip vs) a) ∧
  ∀ k o,l[k]?=some o→∃ v,vs[k]?=some v ∧
   ((i+k∈nw∧New1 P S (i+k) o (Qs (((dets nw i l).zip vs).take k) a)) ∨
    (i+k ∉ nw∧Region.wanted o (yielded ops (Qs (((dets nw i l).zip vs).take k) a).tmps)=true∧Calm1 P S o (Qs (((dets nw i l).zip vs).take k) a) v) ∨
    (i+k ∉ nw∧Region.wanted o (yielded ops (Qs (((dets nw i l).zip vs).take k) a).tmps)=false∧v=undef)):=by
 intro l
 induction l with
 | nil=>intro i a h;exact ⟨[],rfl,h,fun k o hk=>by simp at hk⟩
 | cons o l ih=>
  intro i a h
  have step:∀ (v:Value) (a':Act),a'=a.put (if i∈nw then none else o.dst) v→calm P ops S nw R (i+1) l a' →
   ((i∈nw∧New1 P S i o a)∨(i ∉ nw∧Region.wanted o (yielded ops a.tmps)=true∧Calm1 P S o a v)∨(i ∉ nw∧Region.wanted o (yielded ops a.tmps)=false∧v=undef))→∃ vs:List Value,vs.length=(o::l).length∧R (Qs ((dets nw i (o::l)).zip vs) a) ∧
   ∀ k o',(o::l)[k]?=some o'→∃ v,vs[k]?=some v ∧
    ((i+k∈nw∧New1 P S (i+k) o' (Qs (((dets nw i (o::l)).zip vs).take k) a)) ∨
     (i+k ∉ nw∧Region.wanted o' (yielded ops (Qs (((dets nw i (o::l)).zip vs).take k) a).tmps)=true∧Calm1 P S o' (Qs (((dets nw i (o::l)).zip vs).take k) a) v) ∨
     (i+k ∉ nw∧Region.wanted o' (yielded ops (Qs (((dets nw i (o::l)).zip vs).take k) a).tmps)=false∧v=undef)):=by
   intro v a' ha hc h0
   obtain ⟨vs,hl,hR,hk⟩:=ih _ _ hc
   refine ⟨v::vs,by simp [hl],by rw [ha] at hR;exact hR,fun k o' hk'=>?_⟩
   cases k with
   | zero=>simp at hk';subst hk';exact ⟨v,rfl,h0⟩
   | succ k=>
    have:=hk k o' (by simpa using hk')
    rw [ha,show i+1+k=i+(k+1) by omega] at this
    exact this
  rcases h with ⟨hi,h1,h2⟩ | ⟨hi,hw,v,h1,h2⟩ | ⟨hi,hw,h2⟩
  ·exact step undef a (by rw [if_pos hi];rfl) h2 (.inl ⟨hi,h1⟩)
  ·exact step v _ (by rw [if_neg hi]) h2 (.inr (.inl ⟨hi,hw,h1⟩))
  ·exact step undef _ (by rw [if_neg hi]) h2 (.inr (.inr ⟨hi,hw,rfl⟩))
structure Agree (D:Nat→Option (Option Tmp × Value)) (E:Nat→Prop) (a a':Act):Prop where
 defers:a'.defers=a.defers
 size:a'.tmps.size=a.tmps.size
 wrote:∀ k t v,E k→D k=some (some t,v)→t<a.tmps.size→a'.tmps[t]?=some v
 kept:∀ t,(∀ k v,E k→D k≠some (some t,v))→a'.tmps[t]?=a.tmps[t]?
theorem Agree.put{D:Nat→Option (Option Tmp × Value)}{E:Nat→Prop}{a a':Act}(h:Agree D E a a'){j:Nat}{d:Option Tmp}{v:Value}(hj:D j=some (d,v))
 (hne:∀ k t u,k≠j→D k=some (some t,u)→d≠some t):Agree D (fun k=>E k∨k=j) a (a'.put d v):=by
 cases d with
 | none=>
  refine ⟨h.defers,h.size,fun k t u hk hD ht=>?_,fun t ht=>h.kept t fun k u hk=>ht k u (.inl hk)⟩
  rcases hk with hk | rfl
  ·exact h.wrote k t u hk hD ht
  ·rw [hj] at hD;cases hD
 | some d=>
  refine ⟨h.defers,by simp [Act.put,h.size],fun k t u hk hD ht=>?_,fun t ht=>?_⟩
  ·by_cases hkj:k=j
   ·subst hkj
    rw [hj] at hD
    cases hD
    simp [Act.put,h.size,ht]
   ·have hdt:d≠t:=fun e=>hne k t u hkj hD (by rw [e])
    have:=h.wrote k t u (hk.resolve_right hkj) hD ht
    simpa [Act.put,Array.getElem?_setIfInBounds_ne hdt] using this
  ·have hdt:d≠t:=fun e=>ht j v (.inr rfl) (by rw [hj,e])
   simpa [Act.put,Array.getElem?_setIfInBounds_ne hdt] using h.kept t fun k u hk=>ht k u (.inl hk)
theorem Zd(D:List (Option Tmp × Value))(hne:∀ (j k:Nat) (t:Tmp) (u v:Value),k≠j→D[k]?=some (some t,u)→D[j]? ≠ some (some t,v))(a:Act) :
 ∀ n,n≤D.length→Agree (fun k=>D[k]?) (fun k=>k<n) a (Qs (D.take n) a):=by
 intro n
 induction n with
 | zero=>intro _;exact ⟨rfl,rfl,fun k t v hk=>by omega,fun t _=>rfl⟩
 | succ n ih=>
  intro hn
  have hlt:n<D.length:=by omega
  obtain ⟨d,v,hDn⟩:∃ d v,D[n]?=some (d,v):=⟨_,_,List.getElem?_eq_getElem hlt⟩
  have e:D.take (n+1)=D.take n++[(d,v)]:=by rw [List.take_add_one,hDn];rfl
  rw [e,frames_snoc]
  have:=(ih (by omega)).put (j:=n) hDn (fun k t u hk hDk e=>by subst e;exact hne n k t u v hk hDk hDn)
  refine ⟨this.defers,this.size,fun k t u hk=>this.wrote k t u (by omega),fun t ht=>this.kept t fun k u hk=>ht k u (by omega)⟩
def Jx(l:List Oper)(nw:List Nat)(σ:Sig)(a:Act):Act:=nw.foldl (fun a k=>a.put ((l[k]?).bind (·.dst)) ((σ k).getD undef)) a
theorem putNew_keeps(l:List Oper)(σ:Sig):∀ (nw:List Nat) (a:Act),(Jx l nw σ a).defers=a.defers∧(Jx l nw σ a).tmps.size=a.tmps.size:=by
 intro nw
 induction nw with
 | nil=>exact fun a=>⟨rfl,rfl⟩
 | cons k nw ih=>
  intro a
  have:=ih (a.put ((l[k]?).bind (·.dst)) ((σ k).getD undef))
  have h2:(a.put ((l[k]?).bind (·.dst)) ((σ k).getD undef)).defers=a.defers∧(a.put ((l[k]?).bind (·.dst)) ((σ k).getD undef)).tmps.size=a.tmps.size:=by
   cases (l[k]?).bind (·.dst) <;> simp [Act.put]
  exact ⟨this.1.trans h2.1,this.2.trans h2.2⟩
theorem putNew_old(l:List Oper)(σ:Sig)(t:Tmp):∀ (nw:List Nat) (a:Act),(∀ k∈nw,(l[k]?).bind (·.dst)≠some t)→(Jx l nw σ a).tmps[t]?=a.tmps[t]?:=by
 intro nw
 induction nw with
 | nil=>exact fun a _=>rfl
 | cons k nw ih=>
  intro a h
  have h1:=ih (a.put ((l[k]?).bind (·.dst)) ((σ k).getD undef)) fun j hj=>h j (by simp [hj])
  have h2:=h k (by simp)
  refine h1.trans ?_
  cases hd:(l[k]?).bind (·.dst) with
  | none=>simp [Act.put]
  | some d=>
   have:d≠t:=fun e=>h2 (by rw [hd,e])
   simp [Act.put,Array.getElem?_setIfInBounds_ne this]
theorem putNew_new(l:List Oper)(σ:Sig)(t:Tmp)(k:Nat):∀ (nw:List Nat) (a:Act),k∈nw→(l[k]?).bind (·.dst)=some t→(∀ j∈nw,(l[j]?).bind (·.dst)=some t→j=k)→t<a.tmps.size →
 (Jx l nw σ a).tmps[t]?=some ((σ k).getD undef):=by
 intro nw
 induction nw with
 | nil=>exact fun a h=>by simp at h
 | cons j nw ih=>
  intro a hk hd hu ht
  have hsz:(a.put ((l[j]?).bind (·.dst)) ((σ j).getD undef)).tmps.size=a.tmps.size:=by cases (l[j]?).bind (·.dst) <;> simp [Act.put]
  by_cases hkn:k∈nw
  ·exact ih (a.put ((l[j]?).bind (·.dst)) ((σ j).getD undef)) hkn hd (fun i hi=>hu i (by simp [hi])) (by rw [hsz];exact ht)
  ·have hkj:k=j:=by simpa [hkn] using hk
   subst hkj
   have h1:=putNew_old l σ t nw (a.put ((l[k]?).bind (·.dst)) ((σ k).getD undef)) fun i hi he=>hkn (hu i (by simp [hi]) he▸hi)
   refine h1.trans ?_
   rw [hd]
   simp [Act.put,ht]
theorem same_op{o:Oper}{a a':Act}(hs:∀ cs b,o.op≠.select cs b)(h:∀ t∈o.looksAt ops,a'.tmps[t]?=a.tmps[t]?) :
 execOp a'.eval o=execOp a.eval o∧Region.wanted o (yielded ops a'.tmps)=Region.wanted o (yielded ops a.tmps):=by
 refine ⟨execOp_congr o hs fun x hx=>?_,?_⟩
 ·cases x with
  | tmp t=>
   have:=h t (List.mem_append_left _ (List.mem_filterMap.2 ⟨.tmp t,by simpa using hx,rfl⟩))
   simp [Act.eval,this]
  | _=>rfl
 ·unfold Region.wanted
  cases hg:o.guard with
  | none=>rfl
  | some gw=>
   obtain ⟨g,want⟩:=gw
   have hy:yielded ops a'.tmps g=yielded ops a.tmps g:=by
    unfold yielded
    cases ht:(ops[g]?).bind (·.dst) with
    | none=>rfl
    | some t=>
     have:=h t (by simp [Oper.looksAt,hg,ht])
     simp [this]
   simp only [hy]
theorem Jc{o:Oper}{k:Nat}(h:waits o k=true):∃ e∈o.after,Region.binds .any e=true∧e.on=k:=by
 unfold waits at h
 obtain ⟨e,he,hb⟩:=Array.any_eq_true'.1 h
 simp only [Bool.and_eq_true,beq_iff_eq] at hb
 exact ⟨e,he,hb.1,hb.2⟩
theorem Jz{md:Region.Mode}{listed:Array Bool}{i:Nat}:i∈Region.ready md ops listed ↔
 i<ops.size∧listed.getD i true=false∧∃ o,ops[i]?=some o∧∀ e∈o.after,Region.binds md e=true→listed.getD e.on false=true:=by
 unfold Region.ready
 simp only [List.mem_filter,List.mem_range,Bool.and_eq_true,Bool.not_eq_true']
 constructor
 ·rintro ⟨h1,h2,h3⟩
  refine ⟨h1,h2,?_⟩
  cases ho:ops[i]? with
  | none=>simp [ho] at h3
  | some o=>
   simp only [ho,Option.map_some,Option.getD_some] at h3
   refine ⟨o,rfl,fun e he hb=>?_⟩
   have:=Array.all_eq_true'.1 h3 e he
   simpa [hb] using this
 ·rintro ⟨h1,h2,o,ho,h3⟩
  refine ⟨h1,h2,?_⟩
  simp only [ho,Option.map_some,Option.getD_some]
  refine Array.all_eq_true'.2 fun e he=>?_
  cases hb:Region.binds md e with
  | false=>simp
  | true=>simpa using h3 e he hb
def left(listed:Array Bool):Nat:=((List.range listed.size).filter fun i=>!listed.getD i true).length
theorem filter_less{p p':Nat→Bool}{j:Nat}:∀ (l:List Nat),l.Nodup→j∈l→p j=true→(∀ x,p' x=(p x&&x != j))→(l.filter p).length=(l.filter p').length+1:=by
 intro l
 induction l with
 | nil=>intro _ h;simp at h
 | cons x l ih=>
  intro hn hj hp hp'
  rw [List.nodup_cons] at hn
  by_cases hx:x=j
  ·subst hx
   have e:l.filter p=l.filter p':=List.filter_congr fun y hy=>by
    rw [hp' y]
    have:y≠x:=fun e=>hn.1 (e▸hy)
    simp [this]
   simp [hp,hp' x,e]
  ·have:=ih hn.2 (by simpa [Ne.symm hx] using hj) hp hp'
   simp only [List.filter_cons,hp' x]
   by_cases hpx:p x=true
   ·simp [hpx,hx,this]
   ·simp [hpx,this]
theorem left_set{listed:Array Bool}{j:Nat}(hj:j<listed.size)(hl:listed.getD j true=false):left listed=left (listed.setIfInBounds j true)+1:=by
 unfold left
 simp only [Array.size_setIfInBounds]
 refine filter_less (j:=j) _ List.nodup_range (by simpa using hj) (by simp [hl]) fun x=>?_
 by_cases hx:x=j
 ·subst hx;simp [hj]
 ·have:j≠x:=Ne.symm hx
  simp [Array.getElem?_setIfInBounds_ne this,hx]
theorem left_pos{listed:Array Bool}{j:Nat}(hj:j<listed.size)(hl:listed.getD j true=false):0<left listed:=by
 rw [left_set hj hl];omega
structure Good (ops:Array Oper) (n:Nat) (nw:List Nat) (pre:List Nat):Prop where
 preOrd:preOk ops n nw [] pre=true
 preAny:∀ p∈pre,p<n∧p ∉ nw∧∃ o,ops[p]?=some o∧o.guard=none∧∀ e∈o.after,Region.binds .any e=true→e.on∈pre
 newLt:∀ k∈nw,k<n
 newPlain:∀ k∈nw,∀ o,ops[k]?=some o→o.guard=none
 newApart:∀ k∈nw,∀ (ok:Oper) (d:Tmp),ops[k]?=some ok→ok.dst=some d→∀ (j:Nat) (oj:Oper),j<n→ops[j]?=some oj→d ∉ oj.looksAt ops
 le:n≤ops.size
 noSel:∀ (j:Nat) (o:Oper),ops[j]?=some o→∀ cs b,o.op≠.select cs b
 low:∀ (j:Nat) (o:Oper),ops[j]?=some o→∀ e∈o.after,Region.binds .any e=true→e.on<j
 own:∀ (k:Nat) (o:Oper) (d:Tmp),k<n→ops[k]?=some o→o.dst=some d→d ∉ o.looksAt ops
 pair:∀ (k j:Nat) (ok oj:Oper) (d:Tmp),k<n→j<n→k≠j→ops[k]?=some ok→ops[j]?=some oj→ok.dst=some d →
  oj.dst≠some d∧(d ∉ oj.looksAt ops∨(k<j∧waits oj k=true)∨(j<k∧waits ok j=true))
 sink:n<ops.size→∀ i,i<n→i ∉ pre→∃ k,i<k∧k≤n∧∃ o,ops[k]?=some o∧waits o i=true
 chain:∀ (j:Nat) (o:Oper),n<j→ops[j]?=some o→waits o (j-1)=true
theorem preOk_cons{n p:Nat}{done r:List Nat}(h:preOk ops n nw done (p::r)=true) :
 p<n∧p ∉ nw∧p ∉ done∧(∃ o,ops[p]?=some o∧o.guard=none∧∀ e∈o.after,Region.binds .any e=true→e.on∈done)∧preOk ops n nw (p::done) r=true:=by
 unfold preOk at h
 simp only [Bool.and_eq_true,decide_eq_true_eq,Bool.not_eq_true'] at h
 obtain ⟨⟨⟨⟨h1,h2⟩,h3⟩,h4⟩,h5⟩:=h
 refine ⟨h1,by simpa using h2,by simpa using h3,?_,h5⟩
 cases ho:ops[p]? with
 | none=>simp [ho] at h4
 | some o=>
  simp only [ho,Bool.and_eq_true] at h4
  refine ⟨o,rfl,by simpa using h4.1,fun e he hb=>?_⟩
  have:=Array.all_eq_true'.1 h4.2 e he
  simpa [hb] using this
theorem preOk_mem{n:Nat}:∀ (r done:List Nat),preOk ops n nw done r=true→∀ p∈r,p<n∧p ∉ nw∧∃ o,ops[p]?=some o∧o.guard=none∧∀ e∈o.after,Region.binds .any e=true→e.on∈r∨e.on∈done:=by
 intro r
 induction r with
 | nil=>intro _ _ p hp;cases hp
 | cons q r ih=>
  intro done h p hp
  obtain ⟨h1,h2,_,⟨o,ho,hg,he⟩,h5⟩:=preOk_cons h
  rcases List.mem_cons.1 hp with rfl | hp
  ·exact ⟨h1,h2,o,ho,hg,fun e hm hb=>.inr (he e hm hb)⟩
  ·obtain ⟨k1,k2,o',ho',hg',he'⟩:=ih _ h5 p hp
   refine ⟨k1,k2,o',ho',hg',fun e hm hb=>?_⟩
   rcases he' e hm hb with h | h
   ·exact .inl (List.mem_cons_of_mem _ h)
   ·rcases List.mem_cons.1 h with rfl | h
    ·exact .inl (List.mem_cons_self ..)
    ·exact .inr h
theorem good_of{n:Nat}{pre:List Nat}(h:calmOk ops n nw pre=true):Good ops n nw pre:=by
 unfold calmOk at h
 rw [Bool.and_eq_true,Bool.and_eq_true,decide_eq_true_eq,List.all_eq_true] at h
 obtain ⟨⟨hn,hnew⟩,h⟩:=h
 rw [Bool.and_eq_true] at hnew
 obtain ⟨hnew,hpre⟩:=hnew
 have hpa:∀ p∈pre,p<n∧p ∉ nw∧∃ o,ops[p]?=some o∧o.guard=none∧∀ e∈o.after,Region.binds .any e=true→e.on∈pre:=by
  intro p hp
  have:=preOk_mem pre [] hpre p hp
  simpa using this
 have hnw:∀ k∈nw,k<n∧∀ ok,ops[k]?=some ok→ok.guard=none∧∀ d,ok.dst=some d→∀ (j:Nat) (oj:Oper),j<n→ops[j]?=some oj→d ∉ oj.looksAt ops:=by
  intro k hk
  unfold newOk at hnew
  rw [List.all_eq_true] at hnew
  have hh:=hnew k hk
  rw [Bool.and_eq_true,decide_eq_true_eq] at hh
  refine ⟨hh.1,fun ok hok=>?_⟩
  have h2:=hh.2
  simp only [hok,Bool.and_eq_true] at h2
  refine ⟨by simpa using h2.1,fun d hd j oj hj hoj=>?_⟩
  have h3:=h2.2
  simp only [hd,List.all_eq_true,List.mem_range] at h3
  have h4:=h3 j hj
  simp only [hoj] at h4
  simpa using h4
 have key:∀ (j:Nat) (oj:Oper),ops[j]?=some oj→(isSelect oj.op=false∧(∀ e∈oj.after,Region.binds .any e=true→e.on<j)) ∧
  (j<n→∀ (k:Nat) (ok:Oper) (d:Tmp),k<n→ops[k]?=some ok→ok.dst=some d →
    (k=j→d ∉ oj.looksAt ops)∧(k≠j→oj.dst≠some d∧(d ∉ oj.looksAt ops∨(k<j∧waits oj k=true)∨(j<k∧waits ok j=true)))) ∧
  (j=n→∀ i,i<n→i ∉ pre→∃ k,i<k∧k≤n∧∃ o,ops[k]?=some o∧waits o i=true)∧(n<j→waits oj (j-1)=true):=by
  intro j oj hj
  have hlt:j<ops.size:=(Array.getElem?_eq_some_iff.1 hj).1
  have hh:=h j (List.mem_range.2 hlt)
  simp only [hj,Bool.and_eq_true,Bool.or_eq_true,Bool.not_eq_true',decide_eq_true_eq,List.all_eq_true,List.any_eq_true,List.mem_range] at hh
  obtain ⟨⟨⟨⟨h1,h2⟩,h3⟩,h4⟩,h5⟩:=hh
  refine ⟨⟨h1,fun e he hb=>?_⟩,fun hjn k ok d hk hok hd=>?_,fun hjn i hi hpi=>?_,fun hnj=>?_⟩
  ·have:=Array.all_eq_true'.1 h2 e he
   simpa [hb] using this
  ·have h6:=(h3.resolve_left (by omega)) k hk
   simp only [hok,hd] at h6
   refine ⟨fun hkj=>?_,fun hkj=>?_⟩
   ·rw [if_pos hkj] at h6
    simpa using h6
   ·rw [if_neg hkj] at h6
    simp only [Bool.and_eq_true,bne_iff_ne,ne_eq,Bool.or_eq_true,Bool.not_eq_true'] at h6
    refine ⟨h6.1,?_⟩
    rcases h6.2 with h7 | h7
    ·exact .inl (by simpa using h7)
    ·by_cases hlt:k<j
     ·rw [if_pos hlt] at h7;exact .inr (.inl ⟨hlt,h7⟩)
     ·rw [if_neg hlt] at h7;exact .inr (.inr ⟨by omega,h7⟩)
  ·rcases h4 with h4 | h4
   ·exact absurd hjn h4
   ·obtain ⟨k,hk,hik,hw⟩:=(h4 i hi).resolve_left (by simpa using hpi)
    refine ⟨k,hik,by omega,?_⟩
    cases hok:ops[k]? with
    | none=>simp [hok] at hw
    | some ok=>exact ⟨ok,rfl,by simpa [hok] using hw⟩
  ·rcases h5 with h5 | h5
   ·omega
   ·exact h5
 refine ⟨hpre,hpa,fun k hk=>(hnw k hk).1,fun k hk o ho=>((hnw k hk).2 o ho).1,fun k hk ok d hok hd j oj hj hoj=>((hnw k hk).2 ok hok).2 d hd j oj hj hoj,hn,fun j o ho cs b he=>?_,fun j o ho=>(key j o ho).1.2,fun k o d hk ho hd=>((key k o ho).2.1 hk k o d hk ho hd).1 rfl,
  fun k j ok oj d hk hj hkj hok hoj hd=>((key j oj hoj).2.1 hj k ok d hk hok hd).2 hkj,fun hlt i hi hpi=>?_,fun j o hj ho=>(key j o ho).2.2.2 hj⟩
 ·have:=(key j o ho).1.1
  rw [he] at this
  cases this
 ·exact (key n _ (Array.getElem?_eq_getElem hlt)).2.2.1 rfl i hi hpi
theorem Jm{listed:Array Bool}{k:Nat}(hk:k<listed.size):listed.getD k true=listed.getD k false:=by simp [hk]
theorem left_zero{listed:Array Bool}(h:∀ k,k<listed.size→listed.getD k true=true):left listed=0:=by
 unfold left
 rw [List.length_eq_zero_iff,List.filter_eq_nil_iff]
 intro k hk
 have:=h k (by simpa using hk)
 simp only [this,Bool.not_true,Bool.false_eq_true,not_false_eq_true]
theorem tail_any{l:List Oper}{n:Nat}{pre:List Nat}{Q:Exit→Act→World→Prop}(g:Good l.toArray n nw pre):∀ (fuel m:Nat) (listed:Array Bool) (a:Act) (w:World),listed.size=l.length→n≤m →
 (∀ k,k<m→k<l.length→listed.getD k true=true)→(∀ k,m≤k→k<l.length→listed.getD k true=false)→left listed=fuel →
 wpList P l.toArray Q (l.drop m) a w→wpAny P .any l.toArray Q fuel listed a w:=by
 intro fuel
 induction fuel with
 | zero=>
  intro m listed a w hs hnm h1 h2 hl hw
  have hm:l.length≤m:=by
   rcases Nat.lt_or_ge m l.length with h | h
   ·have:=left_pos (j:=m) (by omega) (h2 m (Nat.le_refl _) h);omega
   ·exact h
  rw [List.drop_eq_nil_of_le hm] at hw
  refine ⟨List.eq_nil_iff_forall_not_mem.2 fun i hi=>?_,hw⟩
  obtain ⟨hi1,hi2,_⟩:=Jz.1 hi
  have hi1:i<l.length:=by simpa using hi1
  rw [h1 i (by omega) hi1] at hi2
  cases hi2
 | succ fuel ih=>
  intro m listed a w hs hnm h1 h2 hl hw
  have hm:m<l.length:=by
   rcases Nat.lt_or_ge m l.length with h | h
   ·exact h
   ·have:=left_zero (listed:=listed) (fun k hk=>h1 k (by omega) (by omega));omega
  obtain ⟨o,ho⟩:∃ o,l[m]?=some o:=⟨_,List.getElem?_eq_getElem hm⟩
  have hoa:l.toArray[m]?=some o:=by simpa using ho
  have hready:m∈Region.ready .any l.toArray listed:=Jz.2 ⟨by simpa using hm,h2 m (Nat.le_refl _) hm,o,hoa,fun e he hb=>by
   have:=g.low m o hoa e he hb
   rw [← Jm (by omega)]
   exact h1 _ this (by omega)⟩
  refine ⟨fun h=>(by rw [h] at hready;cases hready),fun i hi=>?_⟩
  obtain ⟨hi1,hi2,oi,hoi,hi3⟩:=Jz.1 hi
  have hi1:i<l.length:=by simpa using hi1
  have him:i=m:=by
   rcases Nat.lt_trichotomy i m with h | h | h
   ·rw [h1 i h hi1] at hi2;cases hi2
   ·exact h
   ·obtain ⟨e,he,hb,heq⟩:=Jc (g.chain i oi (by omega) hoi)
    have:=hi3 e he hb
    rw [heq,← Jm (by omega),h2 (i-1) (by omega) (by omega)] at this
    cases this
  subst him
  have hd:l.drop i=o::l.drop (i+1):=by
   rw [List.drop_eq_getElem_cons hm]
   congr 1
   have:=List.getElem?_eq_getElem hm
   rw [ho] at this
   exact (Option.some.inj this).symm
  rw [hd] at hw
  have hop:wpOp P l.toArray Q i (wpList P l.toArray Q (l.drop (i+1))) a w:=by
   unfold wpOp
   simp only [hoa]
   exact hw
  refine wpOp_mono (fun a' w' h'=>ih (i+1) _ a' w' (by simpa using hs) (by omega) ?_ ?_ ?_ h') hop
  ·intro k hk hkl
   by_cases hki:k=i
   ·subst hki;simp [hs,hm]
   ·have:i≠k:=Ne.symm hki
    simpa [Array.getElem?_setIfInBounds_ne this] using h1 k (by omega) hkl
  ·intro k hk hkl
   have:i≠k:=by omega
   simpa [Array.getElem?_setIfInBounds_ne this] using h2 k (by omega) hkl
  ·have:=left_set (j:=i) (by omega) hi2
   omega
theorem act_ext{a b:Act}(h:a.tmps=b.tmps)(h2:a.defers=b.defers):a=b:=by cases a;cases b;simp_all
theorem put_eq{a b:Act}(h:a.tmps.size=b.tmps.size){d:Option Tmp}{u v:Value}(e:a.put d u=a.put d v):b.put d u=b.put d v:=by
 cases d with
 | none=>rfl
 | some d=>
  by_cases hd:d<a.tmps.size
  ·have:=congrArg (fun x=>x.tmps[d]?) e
   simp only [Act.put,Array.getElem?_setIfInBounds_self,hd,if_true,Option.some.injEq] at this
   rw [this]
  ·have hb:∀ x,b.tmps.setIfInBounds d x=b.tmps:=fun x=>Array.setIfInBounds_eq_of_size_le (Nat.le_of_not_lt (h▸hd))
   simp [Act.put,hb]
theorem Calm1.at{o:Oper}{a a':Act}{v:Value}(h:Calm1 P S o a v)(he:execOp a'.eval o=execOp a.eval o)(hs:a.tmps.size=a'.tmps.size){σ:Sig}{w:World}(hw:S σ w)
 (K:Act→World→Prop) (Q:Exit→Act→World→Prop) (hK:∀ w',S σ w'→K (a'.put o.dst v) w'):o.wp P a' w K Q:=by
 have h1:=h σ w hw (fun a1 w1=>a1=a.put o.dst v∧S σ w1) (fun _ _ _=>False) (fun w' hw'=>⟨rfl,hw'⟩)
 unfold Oper.wp at *
 rw [he]
 generalize (execOp a.eval o).run P w=r at *
 cases r with
 | ok n w'=>
  cases n <;> simp only [Oper.upon] at h1 ⊢
  case value u=>rw [put_eq hs h1.1];exact hK _ h1.2
  case skip=>rw [put_eq hs h1.1];exact hK _ h1.2
  case defer d=>
   have:=congrArg (fun x=>x.defers.length) h1.1
   cases hd:o.dst <;> simp [Act.put,hd] at this
  case enter f args=>
   refine Calls.mono h1 fun e w'' he=>?_
   cases e with
   | returned u=>
    show K (a'.put o.dst u) w''
    rw [put_eq hs he.1];exact hK _ he.2
   | panicked c=>exact he.elim
   | outgrown=>obtain ⟨_,_,hh⟩:=he;exact hh.elim
  case row row args=>exact Rows.mono h1 fun u w'' he=>by rw [put_eq hs he.1];exact hK _ he.2
 | halt x w'=>cases x <;> simp only [Oper.upon] at h1 ⊢
theorem New1.at{i:Nat}{o:Oper}{a a':Act}(h:New1 P S i o a)(he:execOp a'.eval o=execOp a.eval o)(hs:a.tmps.size=a'.tmps.size){σ:Sig}{w:World}(hw:S σ w)
 (K:Act→World→Prop) (Q:Exit→Act→World→Prop) (hK:∀ v w',S (σ.upd i v) w'→K (a'.put o.dst v) w'):o.wp P a' w K Q:=by
 have h1:=h σ w hw (fun a1 w1=>∃ v,a1=a.put o.dst v∧S (σ.upd i v) w1) (fun _ _ _=>False) (fun v w' hw'=>⟨v,rfl,hw'⟩)
 unfold Oper.wp at *
 rw [he]
 generalize (execOp a.eval o).run P w=r at *
 cases r with
 | ok n w'=>
  cases n <;> simp only [Oper.upon] at h1 ⊢
  case value u=>obtain ⟨v,e1,e2⟩:=h1;rw [put_eq hs e1];exact hK _ _ e2
  case skip=>obtain ⟨v,e1,e2⟩:=h1;rw [put_eq hs e1];exact hK _ _ e2
  case defer d=>
   obtain ⟨v,e1,e2⟩:=h1
   have:=congrArg (fun x=>x.defers.length) e1
   cases hd:o.dst <;> simp [Act.put,hd] at this
  case enter f args=>
   refine Calls.mono h1 fun e w'' he=>?_
   cases e with
   | returned u=>
    show K (a'.put o.dst u) w''
    obtain ⟨v,e1,e2⟩:=he
    rw [put_eq hs e1];exact hK _ _ e2
   | panicked c=>exact he.elim
   | outgrown=>obtain ⟨_,_,hh⟩:=he;exact hh.elim
  case row row args=>exact Rows.mono h1 fun u w'' he=>by obtain ⟨v,e1,e2⟩:=he;rw [put_eq hs e1];exact hK _ _ e2
 | halt x w'=>cases x <;> simp only [Oper.upon] at h1 ⊢
def PreRun(P:Program)(l:List Oper):List Nat→Act→Act→Prop
 | [],a,a0=>a0=a
 | p::r,a,a0=>∃ o v,l[p]?=some o∧(∀ w,(execOp a.eval o).run P w=.ok (.value v) w)∧PreRun P l r (a.put o.dst v) a0
theorem wpAny_new{Q:Exit→Act→World→Prop}{a a0:Act}{w:World}{l:List Oper}(S:Sig→World→Prop)(n:Nat)(nw:List Nat)(pre:List Nat)(hok:calmOk l.toArray n nw pre=true)(hS:S Sig.no w)
 (h:calm P l.toArray S nw (fun a'=>∀ σ w',(∀ k∈nw,(σ k).isSome=true)→S σ w'→wpList P l.toArray Q (l.drop n) (Jx l nw σ a') w') 0 (l.take n) a)
 (listed0:Array Bool) (hs0:listed0.size=l.length) (hl0:∀ k,k<l.length→listed0.getD k true=true→k∈pre) (hp0:∀ p∈pre,listed0.getD p true=true)
 (ha0:PreRun P l pre a a0) :
 wpAny P .any l.toArray Q (left listed0) listed0 a0 w:=by
 have g:=good_of hok
 have hnl:n≤l.length:=by simpa using g.le
 obtain ⟨vs,hvl,hR,hk⟩:=calm_frames _ _ _ h
 have hvn:vs.length=n:=by simp [hvl,hnl]
 obtain ⟨D,hD⟩:∃ D,(dets nw 0 (l.take n)).zip vs=D:=⟨_,rfl⟩
 rw [hD] at hR hk
 simp only [Nat.zero_add] at hk
 have hDl:D.length=n:=by rw [← hD];simp [dets_length,hvn,hnl]
 have hget:∀ k,k<n→(dets nw 0 (l.take n))[k]?=(l[k]?).map fun o=>if k∈nw then none else o.dst:=by
  intro k hk
  rw [dets_get]
  simp [hk]
 have hDk:∀ (k:Nat) (o:Oper) (v:Value),k<n→k ∉ nw→l[k]?=some o→vs[k]?=some v→D[k]?=some (o.dst,v):=by
  intro k o v hkn hnk ho hv
  rw [← hD,List.getElem?_zip_eq_some]
  refine ⟨?_,hv⟩
  rw [hget k hkn,ho]
  simp [hnk]
 have hDd:∀ (k:Nat) (t:Tmp) (v:Value),D[k]?=some (some t,v)→k<n∧k ∉ nw∧∃ o,l[k]?=some o∧o.dst=some t:=by
  intro k t v hk
  have hkn:k<n:=by rw [← hDl];exact (gJ hk).1
  rw [← hD,List.getElem?_zip_eq_some] at hk
  obtain ⟨h1,_⟩:=hk
  rw [hget k hkn,Option.map_eq_some_iff] at h1
  obtain ⟨o,ho,hd⟩:=h1
  by_cases hnk:k∈nw
  ·simp [hnk] at hd
  ·rw [if_neg hnk] at hd
   exact ⟨hkn,hnk,o,ho,hd⟩
 have huniq:∀ (j k:Nat) (t:Tmp) (u v:Value),k≠j→D[k]?=some (some t,u)→D[j]? ≠ some (some t,v):=by
  intro j k t u v hkj h1 h2
  obtain ⟨hkn,_,ok,hok',hdk⟩:=hDd k _ u h1
  obtain ⟨hjn,_,oj,hoj,hdj⟩:=hDd j _ v h2
  exact (g.pair k j ok oj t hkn hjn hkj (by simpa using hok') (by simpa using hoj) hdk).1 hdj
 obtain ⟨F,hF⟩:∃ F:Sig→Nat→Option (Option Tmp × Value),∀ σ k,F σ k=if k∈nw then (l[k]?).map fun o=>(o.dst,(σ k).getD undef) else D[k]?:=⟨_,fun _ _=>rfl⟩
 have hFd:∀ (σ:Sig) (k:Nat) (t:Tmp) (v:Value),F σ k=some (some t,v)→k<n∧∃ o,l[k]?=some o∧o.dst=some t:=by
  intro σ k t v hk
  rw [hF] at hk
  by_cases hnk:k∈nw
  ·rw [if_pos hnk,Option.map_eq_some_iff] at hk
   obtain ⟨o,ho,hd⟩:=hk
   exact ⟨g.newLt k hnk,o,ho,by simp at hd;exact hd.1⟩
  ·rw [if_neg hnk] at hk
   obtain ⟨h1,_,h3⟩:=hDd k t v hk
   exact ⟨h1,h3⟩
 have hFu:∀ (σ:Sig) (j k:Nat) (t:Tmp) (u v:Value),k≠j→F σ k=some (some t,u)→F σ j≠some (some t,v):=by
  intro σ j k t u v hkj h1 h2
  obtain ⟨hkn,ok,hok',hdk⟩:=hFd σ k _ u h1
  obtain ⟨hjn,oj,hoj,hdj⟩:=hFd σ j _ v h2
  exact (g.pair k j ok oj t hkn hjn hkj (by simpa using hok') (by simpa using hoj) hdk).1 hdj
 have hend:∀ (E:Nat→Prop) (a':Act) (σ:Sig),(∀ k,k<n→E k)→Agree (F σ) E a a'→a'=Jx l nw σ (Qs D a):=by
  intro E a' σ hall hA
  have hB:=Zd D huniq a n (by omega)
  rw [List.take_of_length_le (by omega)] at hB
  obtain ⟨k1,k2⟩:=putNew_keeps l σ nw (Qs D a)
  refine act_ext ?_ (hA.defers.trans (hB.defers.symm.trans k1.symm))
  apply Array.ext_getElem?
  intro t
  by_cases hts:t<a.tmps.size
  ·by_cases hw:∃ (k:Nat) (v:Value),F σ k=some (some t,v)
   ·obtain ⟨k,v,hkv⟩:=hw
    obtain ⟨hkn,o,ho,hd⟩:=hFd σ k _ v hkv
    rw [hA.wrote k t v (hall k hkn) hkv hts]
    have hkv':=hkv
    rw [hF] at hkv
    by_cases hnk:k∈nw
    ·rw [if_pos hnk,ho] at hkv
     simp at hkv
     rw [putNew_new l σ t k nw _ hnk (by simp [ho,hd]) (fun j hj hdj=>?_) (by rw [hB.size];exact hts),hkv.2]
     by_cases hjk:j=k
     ·exact hjk
     ·exfalso
      cases hlj:l[j]? with
      | none=>rw [hlj] at hdj;cases hdj
      | some oj=>
       rw [hlj] at hdj
       refine hFu σ j k t v ((σ j).getD undef) (Ne.symm hjk) hkv' ?_
       rw [hF,if_pos hj,hlj]
       simp at hdj
       simp [hdj]
    ·rw [if_neg hnk] at hkv
     rw [putNew_old l σ t nw _ fun j hj hdj=>?_,hB.wrote k t v hkn hkv hts]
     cases hlj:l[j]? with
     | none=>rw [hlj] at hdj;cases hdj
     | some oj=>
      rw [hlj] at hdj
      refine hFu σ j k t v ((σ j).getD undef) (fun e=>hnk (e▸hj)) hkv' ?_
      rw [hF,if_pos hj,hlj]
      simp at hdj
      simp [hdj]
   ·rw [hA.kept t fun k v _ hkv=>hw ⟨k,v,hkv⟩,putNew_old l σ t nw _ fun j hj hdj=>?_,hB.kept t fun k v _ hkv=>?_]
    ·obtain ⟨_,hnk,_⟩:=hDd k t v hkv
     exact hw ⟨k,v,by rw [hF,if_neg hnk];exact hkv⟩
    ·cases hlj:l[j]? with
     | none=>rw [hlj] at hdj;cases hdj
     | some oj=>
      rw [hlj] at hdj
      refine hw ⟨j,(σ j).getD undef,?_⟩
      rw [hF,if_pos hj,hlj]
      simp at hdj
      simp [hdj]
  ·rw [Array.getElem?_eq_none (show a'.tmps.size≤t from by rw [hA.size];exact Nat.le_of_not_lt hts),Array.getElem?_eq_none (show (Jx l nw σ (Qs D a)).tmps.size≤t from by rw [k2,hB.size];exact Nat.le_of_not_lt hts)]
 have main:∀ (fuel:Nat) (listed:Array Bool) (a':Act) (w':World) (σ:Sig),listed.size=l.length→left listed=fuel→(∀ j,n≤j→j<l.length→listed.getD j true=false) →
  (∀ k o,k<l.length→listed.getD k true=true→l[k]?=some o→∀ e∈o.after,Region.binds .any e=true→listed.getD e.on false=true) →
  (∀ k∈nw,listed.getD k true=true→(σ k).isSome=true)→(∀ p∈pre,listed.getD p true=true) →
  Agree (F σ) (fun k=>k<n∧listed.getD k true=true) a a'→S σ w'→wpAny P .any l.toArray Q fuel listed a' w':=by
  intro fuel
  induction fuel with
  | zero=>
   intro listed a' w' σ hs hl ht hc hσ hP hA hSw
   have hall:∀ k,k<l.length→listed.getD k true=true:=fun k hk=>by
    cases hkk:listed.getD k true with
    | true=>rfl
    | false=>have:=left_pos (j:=k) (by omega) hkk;omega
   have hn:n=l.length:=by
    rcases Nat.lt_or_ge n l.length with h | h
    ·have:=hall n h;rw [ht n (Nat.le_refl _) h] at this;cases this
    ·omega
   refine tail_any g 0 n listed a' w' hs (Nat.le_refl _) (fun k _ hk=>hall k hk) ht hl ?_
   rw [hend _ a' σ (fun k hk=>⟨hk,hall k (by omega)⟩) hA]
   exact hR σ w' (fun k hk=>hσ k hk (hall k (by have:=g.newLt k hk;omega))) hSw
  | succ fuel ih=>
   intro listed a' w' σ hs hl ht hc hσ hP hA hSw
   by_cases hpre:∀ k,k<n→listed.getD k true=true
   ·refine tail_any g (fuel+1) n listed a' w' hs (Nat.le_refl _) (fun k hk _=>hpre k hk) ht hl ?_
    rw [hend _ a' σ (fun k hk=>⟨hk,hpre k hk⟩) hA]
    exact hR σ w' (fun k hk=>hσ k hk (hpre k (g.newLt k hk))) hSw
   ·
    have hex:∃ k,k<n∧listed.getD k true=false:=by
     rcases Classical.em (∃ k,k<n∧listed.getD k true=false) with h | h
     ·exact h
     ·exact absurd (fun k hk=>by
       cases hkk:listed.getD k true with
       | true=>rfl
       | false=>exact absurd ⟨k,hk,hkk⟩ h) hpre
    obtain ⟨m,hm,hmin⟩:∃ m,(m<n∧listed.getD m true=false)∧∀ k,k<m→listed.getD k true=true:=by
     obtain ⟨k,hk⟩:=hex
     induction k using Nat.strongRecOn with
     | _ k ihk=>
      rcases Classical.em (∃ j,j<k∧listed.getD j true=false) with ⟨j,hj,hjl⟩ | h
      ·exact ihk j hj ⟨by omega,hjl⟩
      ·refine ⟨k,hk,fun j hj=>?_⟩
       cases hjj:listed.getD j true with
       | true=>rfl
       | false=>exact absurd ⟨j,hj,hjj⟩ h
    obtain ⟨om,hom⟩:∃ o,l[m]?=some o:=⟨_,List.getElem?_eq_getElem (by omega)⟩
    have hready:m∈Region.ready .any l.toArray listed:=Jz.2 ⟨by simp;omega,hm.2,om,by simpa using hom,fun e he hb=>by
     have:=g.low m om (by simpa using hom) e he hb
     rw [← Jm (by omega)]
     exact hmin _ this⟩
    refine ⟨fun h=>(by rw [h] at hready;cases hready),fun i hi=>?_⟩
    obtain ⟨hi1,hi2,o,ho,hi3⟩:=Jz.1 hi
    have hi1:i<l.length:=by simpa using hi1
    have hol:l[i]?=some o:=by simpa using ho
    have hin:i<n:=by
     rcases Nat.lt_trichotomy i n with h | h | h
     ·exact h
     ·
      subst h
      have hall:∀ d k,i-k=d→k<i→listed.getD k true=true:=by
       intro d
       induction d using Nat.strongRecOn with
       | _ d ihd=>
        intro k hd hk
        by_cases hpk:k∈pre
        ·exact hP k hpk
        obtain ⟨j,hkj,hji,oj,hoj,hwj⟩:=g.sink (by simpa using hi1) k hk hpk
        obtain ⟨e,he,hb,heq⟩:=Jc hwj
        rw [Jm (by omega),← heq]
        rcases Nat.lt_or_ge j i with hlt | hge
        ·have hjl:=ihd (i-j) (by omega) j rfl hlt
         exact hc j oj (by omega) hjl (by simpa using hoj) e he hb
        ·have:j=i:=by omega
         subst this
         rw [ho] at hoj
         cases hoj
         exact hi3 e he hb
      have:=hall _ m rfl hm.1
      rw [hm.2] at this
      cases this
     ·obtain ⟨e,he,hb,heq⟩:=Jc (g.chain i o h (by simpa using hol))
      have:=hi3 e he hb
      rw [heq,← Jm (by omega),ht (i-1) (by omega) (by omega)] at this
      cases this
    obtain ⟨v,hv,hcase⟩:=hk i o (by simp [hin,hol])
    have hAi:=Zd D huniq a i (by omega)
    have hsame:=same_op (ops:=l.toArray) (o:=o) (a:=Qs (D.take i) a) (a':=a') (g.noSel i o ho) (by
     intro t htl
     by_cases hw:∃ (k:Nat) (u:Value),F σ k=some (some t,u)
     ·obtain ⟨k,u,hku⟩:=hw
      obtain ⟨hkn,ok,hok',hdk⟩:=hFd σ k _ u hku
      have hnk:k ∉ nw:=fun hnk=>g.newApart k hnk ok t (by simpa using hok') hdk i o hin ho htl
      have hDu:D[k]?=some (some t,u):=by rw [hF,if_neg hnk] at hku;exact hku
      by_cases hts:t<a.tmps.size
      ·have hki:k≠i:=fun e=>by
        subst e
        rw [hol] at hok'
        cases hok'
        exact g.own k o t hkn ho hdk htl
       rcases (g.pair k i ok o t hkn hin hki (by simpa using hok') ho hdk).2 with h1 | ⟨hlt,hwt⟩ | ⟨hlt,hwt⟩
       ·exact absurd htl h1
       ·obtain ⟨e,he,hb,heq⟩:=Jc hwt
        have hkl:listed.getD k true=true:=by
         rw [Jm (by omega),← heq];exact hi3 e he hb
        rw [hA.wrote k t u ⟨hkn,hkl⟩ hku hts,hAi.wrote k t u hlt hDu hts]
       ·obtain ⟨e,he,hb,heq⟩:=Jc hwt
        have hkl:¬ listed.getD k true=true:=fun hkl=>by
         have:=hc k ok (by omega) hkl hok' e he hb
         rw [heq,← Jm (by omega),hi2] at this
         cases this
        rw [hA.kept t fun k' u' hk' hD'=>?_,hAi.kept t fun k' u' hk' hD'=>?_]
        ·by_cases hkk:k'=k
         ·subst hkk;omega
         ·exact huniq k k' t u' u hkk hD' hDu
        ·by_cases hkk:k'=k
         ·subst hkk;exact hkl hk'.2
         ·exact hFu σ k k' t u' u hkk hD' hku
      ·rw [Array.getElem?_eq_none (show a'.tmps.size≤t from by rw [hA.size];exact Nat.le_of_not_lt hts),Array.getElem?_eq_none (show (Qs (D.take i) a).tmps.size≤t from by rw [hAi.size];exact Nat.le_of_not_lt hts)]
     ·rw [hA.kept t fun k v _ hkv=>hw ⟨k,v,hkv⟩,hAi.kept t fun k v _ hkv=>?_]
      obtain ⟨_,hnk,_⟩:=hDd k t v hkv
      exact hw ⟨k,v,by rw [hF,if_neg hnk];exact hkv⟩)
    have hset:∀ k b,(listed.setIfInBounds i true).getD k b=if k=i then true else listed.getD k b:=by
     intro k b
     by_cases hki:k=i
     ·subst hki;simp [hs,hi1]
     ·have:i≠k:=Ne.symm hki
      simp [Array.getElem?_setIfInBounds_ne this,hki]
    have next:∀ (σ':Sig) (u:Value) w'',F σ' i=some (o.dst,u)→Agree (F σ') (fun k=>k<n∧listed.getD k true=true) a a'→(∀ k∈nw,(listed.setIfInBounds i true).getD k true=true→(σ' k).isSome=true)→S σ' w'' →
     wpAny P .any l.toArray Q fuel (listed.setIfInBounds i true) (a'.put o.dst u) w'':=by
     intro σ' u w'' hFi hA' hσ' hSw''
     refine ih _ _ w'' σ' (by simpa using hs) (by have:=left_set (j:=i) (by omega) hi2;omega) ?_ ?_ hσ' (fun p hp=>by rw [hset];split <;> first | rfl | exact hP p hp) ?_ hSw''
     ·intro j hj hjl
      rw [hset,if_neg (by omega)]
      exact ht j hj hjl
     ·intro k ok hkl hkt hok' e he hb
      rw [hset]
      split
      ·rfl
      ·rw [hset] at hkt
       by_cases hki:k=i
       ·subst hki
        rw [hol] at hok'
        cases hok'
        exact hi3 e he hb
       ·rw [if_neg hki] at hkt
        exact hc k ok hkl hkt hok' e he hb
     ·have:=hA'.put (j:=i) hFi (fun k t u' hki hD' e=>hFu σ' i k t u' u hki hD' (by rw [hFi,e]))
      refine ⟨this.defers,this.size,fun k t u hk=>this.wrote k t u ?_,fun t ht=>this.kept t fun k u hk=>ht k u ?_⟩
      ·obtain ⟨h1,h2⟩:=hk
       rw [hset] at h2
       by_cases hki:k=i
       ·exact .inr hki
       ·rw [if_neg hki] at h2;exact .inl ⟨h1,h2⟩
      ·rw [hset]
       rcases hk with ⟨h1,h2⟩ | rfl
       ·exact ⟨h1,by split <;> first | rfl | exact h2⟩
       ·exact ⟨hin,by simp⟩
    have hσset:i ∉ nw→∀ k∈nw,(listed.setIfInBounds i true).getD k true=true→(σ k).isSome=true:=fun hni k hk hkl=>by
     rw [hset,if_neg (fun (e:k=i)=>hni (e▸hk))] at hkl
     exact hσ k hk hkl
    unfold wpOp
    simp only [ho]
    rcases hcase with ⟨hni,hn1⟩ | ⟨hni,hw1,hc1⟩ | ⟨hni,hw1,rfl⟩
    ·have hg:=g.newPlain i hni o ho
     rw [show Region.wanted o (yielded l.toArray a'.tmps)=true by simp [Region.wanted,hg]]
     refine .inl (hn1.at hsame.1 (by rw [hAi.size,hA.size]) hSw _ _ fun u w'' hSu=>?_)
     refine next (σ.upd i u) u w'' (by rw [hF,if_pos hni,hol];simp [Sig.upd]) ?_ ?_ hSu
     ·have hne:∀ k,(k<n∧listed.getD k true=true)→F (σ.upd i u) k=F σ k:=fun k hk=>by
       have hki:k≠i:=fun e=>by subst e;rw [hi2] at hk;cases hk.2
       rw [hF,hF]
       simp [Sig.upd,hki]
      exact ⟨hA.defers,hA.size,fun k t u' hk hD'=>hA.wrote k t u' hk (by rw [← hne k hk];exact hD'),fun t ht=>hA.kept t fun k u' hk=>by rw [← hne k hk];exact ht k u' hk⟩
     ·intro k hk hkl
      by_cases hki:k=i
      ·simp [Sig.upd,hki]
      ·rw [hset,if_neg hki] at hkl
       simpa [Sig.upd,hki] using hσ k hk hkl
    ·rw [hsame.2,hw1]
     exact .inl (hc1.at hsame.1 (by rw [hAi.size,hA.size]) hSw _ _ fun w'' hSu=>next σ v w'' (by rw [hF,if_neg hni];exact hDk i o v hin hni hol hv) hA (hσset hni) hSu)
    ·rw [hsame.2,hw1]
     exact next σ undef w' (by rw [hF,if_neg hni];exact hDk i o undef hin hni hol hv) hA (hσset hni) hSw
 refine main _ listed0 a0 w Sig.no hs0 rfl (fun j hnj hj=>?_) (fun k o hk hkt ho e he hb=>?_) (fun k hk hkt=>?_) hp0 ?_ hS
 ·cases hjj:listed0.getD j true with
  | false=>rfl
  | true=>
   have:=(g.preAny j (hl0 j hj hjj)).1
   omega
 ·obtain ⟨_,_,o',ho',_,haf⟩:=g.preAny k (hl0 k hk hkt)
  obtain rfl:o'=o:=by simpa [ho] using ho'.symm
  have:=g.low k o' (by simpa using ho) e he hb
  rw [← Jm (by omega)]
  exact hp0 _ (haf e he hb)
 ·exact absurd hk (g.preAny k (hl0 k (by have:=g.newLt k hk;omega) hkt)).2.1
 ·have step:∀ (r done:List Nat) (a1:Act),preOk l.toArray n nw done r=true→PreRun P l r a1 a0→Agree (F Sig.no) (fun k=>k∈done) a a1 →
   (∀ k∈done,∀ o,l[k]?=some o→∀ e∈o.after,Region.binds .any e=true→e.on∈done)→Agree (F Sig.no) (fun k=>k∈r∨k∈done) a a0:=by
   intro r
   induction r with
   | nil=>
    intro done a1 _ hr hA _
    obtain rfl:a0=a1:=hr
    simpa using hA
   | cons p r ih=>
    intro done a1 hpo hr hA hcl
    obtain ⟨hpn,hpw,hpd,⟨o,hop,hgd,haf⟩,hpo'⟩:=preOk_cons hpo
    have hop:l[p]?=some o:=by simpa using hop
    obtain ⟨o',v,ho',hrun,hr'⟩:=hr
    obtain rfl:o'=o:=by simpa [hop] using ho'.symm
    obtain ⟨u,hu,hcase⟩:=hk p o' (by simp [hpn,hop])
    have hAi:=Zd D huniq a p (by omega)
    have hsame:=same_op (ops:=l.toArray) (o:=o') (a:=a1) (a':=Qs (D.take p) a) (g.noSel p o' (by simpa using hop)) (by
     intro t htl
     by_cases hts:t<a.tmps.size
     ·by_cases hw:∃ (k:Nat) (u:Value),F Sig.no k=some (some t,u)
      ·obtain ⟨k,x,hkx⟩:=hw
       obtain ⟨hkn,ok,hok',hdk⟩:=hFd Sig.no k _ x hkx
       have hnk:k ∉ nw:=fun hnk=>g.newApart k hnk ok t (by simpa using hok') hdk p o' hpn (by simpa using hop) htl
       have hDu:D[k]?=some (some t,x):=by rw [hF,if_neg hnk] at hkx;exact hkx
       have hkp:k≠p:=fun e=>by
        subst e
        rw [hop] at hok'
        cases hok'
        exact g.own k o' t hkn (by simpa using hop) hdk htl
       rcases (g.pair k p ok o' t hkn hpn hkp (by simpa using hok') (by simpa using hop) hdk).2 with h1 | ⟨hlt,hwt⟩ | ⟨hlt,hwt⟩
       ·exact absurd htl h1
       ·obtain ⟨e,he,hb,heq⟩:=Jc hwt
        have hkd:k∈done:=heq▸haf e he hb
        rw [hA.wrote k t x hkd hkx hts,hAi.wrote k t x hlt hDu hts]
       ·obtain ⟨e,he,hb,heq⟩:=Jc hwt
        have hkd:k ∉ done:=fun hkd=>hpd (heq▸hcl k hkd ok hok' e he hb)
        rw [hA.kept t fun k' u' hk' hD'=>?_,hAi.kept t fun k' u' hk' hD'=>?_]
        ·by_cases hkk:k'=k
         ·subst hkk;omega
         ·exact huniq k k' t u' x hkk hD' hDu
        ·by_cases hkk:k'=k
         ·subst hkk;exact hkd hk'
         ·exact hFu Sig.no k k' t u' x hkk hD' hkx
      ·rw [hA.kept t fun k v _ hkv=>hw ⟨k,v,hkv⟩,hAi.kept t fun k v _ hkv=>?_]
       obtain ⟨_,hnk,_⟩:=hDd k t v hkv
       exact hw ⟨k,v,by rw [hF,if_neg hnk];exact hkv⟩
     ·rw [Array.getElem?_eq_none (show (Qs (D.take p) a).tmps.size≤t from by rw [hAi.size];exact Nat.le_of_not_lt hts),Array.getElem?_eq_none (show a1.tmps.size≤t from by rw [hA.size];exact Nat.le_of_not_lt hts)])
    have hput:a1.put o'.dst v=a1.put o'.dst u:=by
     rcases hcase with ⟨hni,_⟩ | ⟨_,_,hc1⟩ | ⟨_,hw1,_⟩
     ·exact absurd hni hpw
     ·have h1:=hc1.at (a':=a1) hsame.1.symm (by rw [hAi.size,hA.size]) hS (fun a2 _=>a2=a1.put o'.dst u) (fun _ _ _=>False) (fun _ _=>rfl)
      unfold Oper.wp at h1
      rw [hrun w] at h1
      simpa only [Oper.upon] using h1
     ·exfalso
      simp [Region.wanted,hgd] at hw1
    rw [hput] at hr'
    have hFp:F Sig.no p=some (o'.dst,u):=by rw [hF,if_neg hpw];exact hDk p o' u hpn hpw hop hu
    have hA':=hA.put (j:=p) hFp (fun k t u' hki hD' e=>hFu Sig.no p k t u' u hki hD' (by rw [hFp,e]))
    have hA2:Agree (F Sig.no) (fun k=>k∈p::done) a (a1.put o'.dst u):=
     ⟨hA'.defers,hA'.size,fun k t x hk=>hA'.wrote k t x (by
      rcases List.mem_cons.1 hk with h | h
      ·exact .inr h
      ·exact .inl h),fun t ht=>hA'.kept t fun k x hk=>ht k x (by
      rcases hk with h | h
      ·exact List.mem_cons_of_mem _ h
      ·exact h▸List.mem_cons_self ..)⟩
    have:=ih (p::done) _ hpo' hr' hA2 (fun k hk o ho e he hb=>by
     rcases List.mem_cons.1 hk with rfl | hk
     ·rw [hop] at ho
      cases ho
      exact List.mem_cons_of_mem _ (haf e he hb)
     ·exact List.mem_cons_of_mem _ (hcl k hk o ho e he hb))
    refine ⟨this.defers,this.size,fun k t x hk=>this.wrote k t x ?_,fun t ht=>this.kept t fun k x hk=>ht k x ?_⟩
    ·rcases hk with hk | hk
     ·rcases List.mem_cons.1 hk with rfl | hk
      ·exact .inr (List.mem_cons_self ..)
      ·exact .inl hk
     ·exact .inr (List.mem_cons_of_mem _ hk)
    ·rcases hk with hk | hk
     ·exact .inl (List.mem_cons_of_mem _ hk)
     ·rcases List.mem_cons.1 hk with rfl | hk
      ·exact .inl (List.mem_cons_self ..)
      ·exact .inr hk
  have h0:Agree (F Sig.no) (fun k=>k∈([]:List Nat)) a a:=⟨rfl,rfl,fun k t v hk _ _=>(by cases hk),fun t _=>rfl⟩
  have:=step pre [] a g.preOrd ha0 h0 (fun k hk=>by cases hk)
  refine ⟨this.defers,this.size,fun k t x hk=>this.wrote k t x (.inl (hl0 k (by omega) hk.2)),fun t ht=>this.kept t fun k x hk=>ht k x ?_⟩
  rcases hk with hk | hk
  ·exact ⟨(g.preAny k hk).1,hp0 k hk⟩
  ·cases hk
theorem left_none(n:Nat):left (Array.replicate n false)=n:=by
 unfold left
 rw [List.filter_eq_self.2]
 ·simp
 ·intro k hk
  have hk:k<n:=by simpa using hk
  simp [hk]
theorem wp_region_new{id:Nat}{Q:Exit→Act→World→Prop}{a:Act}{w:World}{l:List Oper}(S:Sig→World→Prop)(n:Nat)(nw:List Nat)(hm:P.follows .mixedOrders=true)(hok:calmOk l.toArray n nw=true)(hS:S Sig.no w.drew)
 (h:calm P l.toArray S nw (fun a'=>∀ σ w',(∀ k∈nw,(σ k).isSome=true)→S σ w'→wpList P l.toArray Q (l.drop n) (Jx l nw σ a') w') 0 (l.take n) a):(Code.region id l.toArray true).wp P Q a w:=by
 refine wp_region_any hm ?_
 have hl:=left_none l.toArray.size
 have:=wpAny_new (a0:=a) S n nw [] hok hS h (Array.replicate l.toArray.size false) (by simp) (fun k hk hkt=>by simp [hk] at hkt) (fun p hp=>by cases hp) rfl
 rw [hl] at this
 exact this
def Ju(n:Nat)(ps:List Nat):Array Bool:=ps.foldl (fun l p=>l.setIfInBounds p true) (Array.replicate n false)
theorem foldl_listed(ps:List Nat):∀ (L:Array Bool) (k:Nat) (b:Bool),k<L.size→(ps.foldl (fun l p=>l.setIfInBounds p true) L).getD k b=(decide (k∈ps)||L.getD k b)∧(ps.foldl (fun l p=>l.setIfInBounds p true) L).size=L.size:=by
 induction ps with
 | nil=>intro L k b _;simp
 | cons p ps ih=>
  intro L k b hk
  obtain ⟨h1,h2⟩:=ih (L.setIfInBounds p true) k b (by simpa using hk)
  refine ⟨?_,by simpa using h2⟩
  rw [List.foldl_cons,h1]
  by_cases hkp:k=p
  ·subst hkp;simp [hk]
  ·have:p≠k:=Ne.symm hkp
   simp [Array.getElem?_setIfInBounds_ne this,hkp]
def freeOk(ops:Array Oper):List Nat→List Nat→Bool
 | _,[]=>true
 | done,p::r=>Region.free .any ops (Ju ops.size done) p&&freeOk ops (done++[p]) r
theorem wp_region_pres{id:Nat}{Q:Exit→Act→World→Prop}{a a0:Act}{w:World}{l:List Oper}(S:Sig→World→Prop)(n:Nat)(nw pre:List Nat)(hm:P.follows .mixedOrders=true)(hok:calmOk l.toArray n nw pre=true)
 (hns:Region.noSelect l.toArray=true) (hfr:freeOk l.toArray [] pre=true)
 (hQ:∀ c a d (u:Value) w,Q (.panic c) (a.put d u) w→Q (.panic c) a w) (ha0:PreRun P l pre a a0) (hS:S Sig.no w.drew)
 (h:calm P l.toArray S nw (fun a'=>∀ σ w',(∀ k∈nw,(σ k).isSome=true)→S σ w'→wpList P l.toArray Q (l.drop n) (Jx l nw σ a') w') 0 (l.take n) a):(Code.region id l.toArray true).wp P Q a w:=by
 refine wp_region_any hm ?_
 have g:=good_of hok
 have hl:=left_none l.toArray.size
 have hall:=foldl_listed pre (Array.replicate l.toArray.size false)
 have hsz:(Ju l.toArray.size pre).size=l.length:=by
  unfold Ju
  rcases Nat.eq_zero_or_pos l.length with h0 | h0
  ·have:∀ (ps:List Nat) (L:Array Bool),(ps.foldl (fun l p=>l.setIfInBounds p true) L).size=L.size:=by
    intro ps
    induction ps with
    | nil=>intro L;rfl
    | cons p ps ih=>intro L;rw [List.foldl_cons,ih];simp
   rw [this];simp
  ·rw [(hall 0 true (by simpa using h0)).2];simp
 have key:=wpAny_new (a0:=a0) S n nw pre hok hS h (Ju l.toArray.size pre) hsz
  (fun k hk hkt=>by
    unfold Ju at hkt
    rw [(hall k true (by simpa using hk)).1] at hkt
    simpa [hk] using hkt) (fun p hp=>by
    have hpn:=(g.preAny p hp).1
    have hle:=g.le
    unfold Ju
    rw [(hall p true (by simp only [Array.size_replicate];omega)).1]
    simp [hp]) ha0
 have step:∀ (r done:List Nat) (a1:Act),preOk l.toArray n nw done.reverse r=true→freeOk l.toArray done r=true→PreRun P l r a1 a0 →
  wpAny P .any l.toArray Q (left (Ju l.toArray.size (done++r))) (Ju l.toArray.size (done++r)) a0 w.drew→wpAny P .any l.toArray Q (left (Ju l.toArray.size done)) (Ju l.toArray.size done) a1 w.drew:=by
  intro r
  induction r with
  | nil=>
   intro done a1 _ _ hr hw
   obtain rfl:a0=a1:=hr
   simpa using hw
  | cons p r ih=>
   intro done a1 hpo hfo hr hw
   obtain ⟨hpn,hpw,hpd,⟨o,hop,hgd,haf⟩,hpo'⟩:=preOk_cons hpo
   obtain ⟨o',v,ho',hrun,hr'⟩:=hr
   obtain rfl:o'=o:=by simpa [ho'] using hop
   unfold freeOk at hfo
   rw [Bool.and_eq_true] at hfo
   have hplen:p<l.toArray.size:=by have:=g.le;omega
   have hd:=foldl_listed done (Array.replicate l.toArray.size false)
   have hdsz:(Ju l.toArray.size done).size=l.toArray.size:=by unfold Ju;rw [(hd p true (by simpa using hplen)).2];simp
   have hset:(Ju l.toArray.size done).setIfInBounds p true=Ju l.toArray.size (done++[p]):=by unfold Ju;rw [List.foldl_append];rfl
   have hpf:(Ju l.toArray.size done).getD p true=false:=by
    unfold Ju
    rw [(hd p true (by simpa using hplen)).1]
    have hpd':p ∉ done:=by simpa using hpd
    have hpl2:p<l.length:=by simpa using hplen
    simp [hpd',hpl2]
   have hl2:=left_set (listed:=Ju l.toArray.size done) (j:=p) (by omega) hpf
   have hnext:=ih (done++[p]) _ (by simpa using hpo') hfo.2 hr' (by simpa using hw)
   rw [hset] at hl2
   rw [← hset] at hnext
   have hready:(Region.ready .any l.toArray (Ju l.toArray.size done)).contains p=true:=by
    simp only [List.contains_iff_mem]
    refine Jz.2 ⟨by omega,hpf,o',hop,fun e he hb=>?_⟩
    have hon:=haf e he hb
    have hlow:=g.low p o' hop e he hb
    unfold Ju
    rw [(hd e.on false (by simp only [Array.size_replicate];omega)).1]
    simp only [List.mem_reverse] at hon
    simp [hon]
   have hfin:=wpAny_take (v:=v) (md:=.any) hop hns hfo.1 hready (fun c a w h=>hQ c _ _ _ w h) (.inl ⟨by simp [Region.wanted,hgd],hrun⟩) hnext
   rw [hl2,← hset]
   exact hfin
 have:=step pre [] a (by simpa using g.preOrd) hfr ha0 (by simpa using key)
 have e0:Ju l.toArray.size []=Array.replicate l.toArray.size false:=rfl
 rw [e0,hl] at this
 exact this
theorem Qa{id:Nat}{Q:Exit→Act→World→Prop}{a:Act}{w:World}{l:List Oper}(S:World→Prop)(n:Nat)(hm:P.follows .mixedOrders=true)(hok:calmOk l.toArray n []=true)(hS:S w.drew)
 (h:calm P l.toArray (fun _=>S) [] (fun a'=>∀ w',S w'→wpList P l.toArray Q (l.drop n) a' w') 0 (l.take n) a):(Code.region id l.toArray true).wp P Q a w:=by
 refine wp_region_new (fun _=>S) n [] hm hok hS ?_
 have mono:∀ (R R':Act→Prop),(∀ a,R a→R' a)→∀ (m:List Oper) (i:Nat) (a:Act),calm P l.toArray (fun _=>S) [] R i m a→calm P l.toArray (fun _=>S) [] R' i m a:=by
  intro R R' hRR m
  induction m with
  | nil=>exact fun i a h=>hRR a h
  | cons o m ih=>
   intro i a h
   rcases h with ⟨h1,h2,h3⟩ | ⟨h1,h2,v,h3,h4⟩ | ⟨h1,h2,h3⟩
   ·exact .inl ⟨h1,h2,ih _ _ h3⟩
   ·exact .inr (.inl ⟨h1,h2,v,h3,ih _ _ h4⟩)
   ·exact .inr (.inr ⟨h1,h2,ih _ _ h3⟩)
 exact mono _ _ (fun a h _ w' _ hw=>h w' hw) _ _ _ h
end
def exN(st n:Nat):Nat→Nat→Nat
 | 0,e=>e
 | f+1,e=>if 2^(st+1)≤n/2^e then exN st n f (e+1) else e
def exF(st n:Nat):Nat:=exN st n 64 0
def bandF(st n:Nat):Nat × Nat × Nat:=(exF st n*2^st+n/2^exF st n,exF st n,n%2^exF st n)
def Jy(n:Nat):Nat × Nat × Nat:=if n=258 then (285,0,0) else if n<11 then (254+n,0,0) else (257+(bandF 2 (n-3)).1,(bandF 2 (n-3)).2)
def Jk(n:Nat):Nat × Nat × Nat:=if n<5 then (n-1,0,0) else bandF 1 (n-1)
def lensT:List (Nat × Nat):=[(3,0),(4,0),(5,0),(6,0),(7,0),(8,0),(9,0),(10,0),(11,1),(13,1),(15,1),(17,1),(19,2),(23,2),(27,2),(31,2),(35,3),(43,3),(51,3),(59,3),(67,4),(83,4),(99,4),(115,4),(131,5),(163,5),(195,5),(227,5),(258,0)]
def distsT:List (Nat × Nat):=[(1,0),(2,0),(3,0),(4,0),(5,1),(7,1),(9,2),(13,2),(17,3),(25,3),(33,4),(49,4),(65,5),(97,5),(129,6),(193,6),(257,7),(385,7),(513,8),(769,8),(1025,9),(1537,9),(2049,10),(3073,10),(4097,11),(6145,11),(8193,12),(12289,12),(16385,13),(24577,13)]
def findT(n:Nat):List (Nat × Nat)→Nat→Nat × Nat × Nat→Nat × Nat × Nat
 | [],_,r=>r
 | (a,k)::t,i,r=>findT n t (i+1) (if a≤n then (i,k,n-a) else r)
def refLen(n:Nat):Nat × Nat × Nat:=findT n lensT 257 (257,0,0)
def refDist(n:Nat):Nat × Nat × Nat:=findT n distsT 0 (0,0,0)
def chk(p:Nat→Bool):Nat→Nat→Bool
 | 0,a=>p a
 | d+1,a=>chk p d a&&chk p d (a+2^d)
theorem chk_all{p:Nat→Bool}:∀ (d a:Nat),chk p d a=true→∀ x,x<2^d→p (a+x)=true:=by
 intro d
 induction d with
 | zero=>
  intro a h x hx;have:x=0:=by simpa using hx
  subst this;exact h
 | succ d ih=>
  intro a h x hx
  rw [chk,Bool.and_eq_true] at h
  rcases Nat.lt_or_ge x (2^d) with h1 | h1
  ·exact ih a h.1 x h1
  ·have:=ih (a+2^d) h.2 (x-2^d) (by rw [Nat.pow_succ] at hx;omega)
   rwa [show a+2^d+(x-2^d)=a+x by omega] at this
def distOk(x:Nat):Bool:=decide (Jk (x+1)=refDist (x+1))
theorem lenSym_bd_all:∀ x:Fin 256,257≤(Jy (x.1+3)).1∧(Jy (x.1+3)).1≤285∧(Jy (x.1+3)).2.1≤5∧(Jy (x.1+3)).2.2<2^(Jy (x.1+3)).2.1:=by decide +kernel
theorem lenSym_bd{n:Nat}(h:3≤n∧n≤258):257≤(Jy n).1∧(Jy n).1≤285∧(Jy n).2.1≤5∧(Jy n).2.2<2^(Jy n).2.1:=by
 have:=lenSym_bd_all ⟨n-3,by omega⟩
 simpa [show n-3+3=n by omega] using this
def distBd(x:Nat):Bool:=decide ((Jk (x+1)).1≤29∧(Jk (x+1)).2.1≤13∧(Jk (x+1)).2.2<2^(Jk (x+1)).2.1)
theorem distBd_chk:∀ k:Fin 16,chk distBd 11 (2048*k.1)=true:=by decide +kernel
theorem distSym_bd{n:Nat}(h:1≤n∧n≤32768):(Jk n).1≤29∧(Jk n).2.1≤13∧(Jk n).2.2<2^(Jk n).2.1:=by
 have h1:=distBd_chk ⟨(n-1)/2048,by omega⟩
 have:=chk_all 11 _ h1 ((n-1)%2048) (by omega)
 rw [show 2048*((n-1)/2048)+(n-1)%2048=n-1 by omega] at this
 unfold distBd at this
 rw [show n-1+1=n by omega] at this
 exact of_decide_eq_true this
def byt(s:ByteArray)(i:Nat):UInt8:=s.data.getD i 0
def commN(s:ByteArray):Nat→Nat→Nat→Nat
 | 0,_,_=>0
 | f+1,a,b=>if b<s.size∧byt s a=byt s b then commN s f (a+1) (b+1)+1 else 0
def comm(s:ByteArray)(a b:Nat):Nat:=commN s 258 a b
theorem commN_le(s:ByteArray):∀ f a b,commN s f a b≤f:=by
 intro f
 induction f with
 | zero=>intro a b;exact Nat.le_refl _
 | succ f ih=>
  intro a b
  unfold commN
  split
  ·have:=ih (a+1) (b+1);omega
  ·omega
theorem commN_is(s:ByteArray):∀ f a b n,n≤f→(∀ j,j<n→b+j<s.size∧byt s (a+j)=byt s (b+j))→(n=f∨¬ (b+n<s.size∧byt s (a+n)=byt s (b+n)))→commN s f a b=n:=by
 intro f
 induction f with
 | zero=>intro a b n hn _ _;unfold commN;omega
 | succ f ih=>
  intro a b n hn h1 h2
  cases n with
  | zero=>
   unfold commN
   rw [if_neg (by rcases h2 with h | h;exact absurd h (by omega);simpa using h)]
  | succ n=>
   have h0:=h1 0 (by omega)
   unfold commN
   rw [if_pos (by simpa using h0),ih (a+1) (b+1) n (by omega) (fun j hj=>?_) ?_]
   ·rcases h2 with h | h
    ·exact .inl (by omega)
    ·right
     rw [show a+1+n=a+(n+1) by omega,show b+1+n=b+(n+1) by omega]
     exact h
   ·have:=h1 (j+1) (by omega)
    rw [show a+1+j=a+(j+1) by omega,show b+1+j=b+(j+1) by omega]
    exact this
theorem comm_is{s:ByteArray}{a b n:Nat}(hn:n≤258)(h1:∀ j,j<n→b+j<s.size∧byt s (a+j)=byt s (b+j))(h2:n=258∨¬ (b+n<s.size∧byt s (a+n)=byt s (b+n))):comm s a b=n:=commN_is s 258 a b n hn h1 h2
theorem commN_get(s:ByteArray):∀ f a b j,j<commN s f a b→b+j<s.size∧byt s (a+j)=byt s (b+j):=by
 intro f
 induction f with
 | zero=>intro a b j hj;unfold commN at hj;omega
 | succ f ih=>
  intro a b j hj
  unfold commN at hj
  split at hj
  ·next h=>
   cases j with
   | zero=>simpa using h
   | succ j=>
    have:=ih (a+1) (b+1) j (by omega)
    rw [show a+1+j=a+(j+1) by omega,show b+1+j=b+(j+1) by omega] at this
    exact this
  ·omega
theorem comm_get{s:ByteArray}{a b j:Nat}(h:j<comm s a b):b+j<s.size∧byt s (a+j)=byt s (b+j):=commN_get s 258 a b j h
theorem comm_le(s:ByteArray)(a b:Nat):comm s a b≤258:=commN_le s 258 a b
def key3(s:ByteArray)(i:Nat):UInt8 × UInt8 × UInt8:=(byt s i,byt s (i+1),byt s (i+2))
theorem comm3{s:ByteArray}{a b:Nat}(h:key3 s a=key3 s b)(hb:b+3≤s.size):3≤comm s a b:=by
 simp only [key3,Prod.mk.injEq] at h
 obtain ⟨h0,h1,h2⟩:=h
 unfold comm
 rw [show (258:Nat)=255+3 by rfl]
 unfold commN
 rw [if_pos ⟨by omega,h0⟩]
 unfold commN
 rw [if_pos ⟨by omega,h1⟩]
 unfold commN
 rw [if_pos ⟨by omega,h2⟩]
 omega
theorem comm3'{s:ByteArray}{a b:Nat}(h:3≤comm s a b):key3 s a=key3 s b∧b+3≤s.size:=by
 have h0:=comm_get (j:=0) (Nat.lt_of_lt_of_le (by omega) h)
 have h1:=comm_get (j:=1) (Nat.lt_of_lt_of_le (by omega) h)
 have h2:=comm_get (j:=2) (Nat.lt_of_lt_of_le (by omega) h)
 simp only [Nat.add_zero] at h0
 exact ⟨by simp [key3,h0.2,h1.2,h2.2],by omega⟩
def prev(s:ByteArray)(k:UInt8 × UInt8 × UInt8):Nat→Nat
 | 0=>0
 | n+1=>if n+3≤s.size∧key3 s n=k then n+1 else prev s k n
theorem prev_le(s:ByteArray)(k:UInt8 × UInt8 × UInt8):∀ n,prev s k n≤n:=by
 intro n
 induction n with
 | zero=>exact Nat.le_refl _
 | succ n ih=>unfold prev;split <;> omega
theorem prev_key{s:ByteArray}{k:UInt8 × UInt8 × UInt8}:∀ n,0<prev s k n→key3 s (prev s k n-1)=k∧prev s k n-1+3≤s.size:=by
 intro n
 induction n with
 | zero=>intro h;unfold prev at h;omega
 | succ n ih=>
  intro h
  unfold prev at h ⊢
  split
  ·next h1=>exact ⟨by simpa using h1.2,by simpa using h1.1⟩
  ·next h1=>rw [if_neg h1] at h;exact ih h
theorem prev_none{s:ByteArray}{k:UInt8 × UInt8 × UInt8}:∀ n q,prev s k n≤q→q<n→¬ (q+3≤s.size∧key3 s q=k):=by
 intro n
 induction n with
 | zero=>intro q _ h;omega
 | succ n ih=>
  intro q h1 h2
  unfold prev at h1
  split at h1
  ·omega
  ·next h=>
   by_cases hq:q=n
   ·subst hq;exact h
   ·exact ih q h1 (by omega)
def best(s:ByteArray)(at_:Nat):Nat→Nat × Nat
 | 0=>(0,0)
 | d+1=>if (best s at_ d).1<comm s (at_-(d+1)) at_ then (comm s (at_-(d+1)) at_,d+1) else best s at_ d
def trim(p:Nat × Nat):Nat × Nat:=if 3≤p.1 then p else (0,0)
theorem trim_skip{s:ByteArray}{at_ d:Nat}(h:comm s (at_-(d+1)) at_<3):trim (best s at_ (d+1))=trim (best s at_ d):=by
 have e2:best s at_ (d+1)=if (best s at_ d).1<comm s (at_-(d+1)) at_ then (comm s (at_-(d+1)) at_,d+1) else best s at_ d:=by rw [best]
 rw [e2]
 split
 ·next h1=>
  unfold trim
  rw [if_neg (by simp only;omega),if_neg (by omega)]
 ·rfl
theorem trim_hit{s:ByteArray}{at_ d:Nat}(h:3≤comm s (at_-(d+1)) at_) :
 trim (best s at_ (d+1))=if (trim (best s at_ d)).1<comm s (at_-(d+1)) at_ then (comm s (at_-(d+1)) at_,d+1) else trim (best s at_ d):=by
 by_cases hl:3≤(best s at_ d).1
 ·have e:trim (best s at_ d)=best s at_ d:=by unfold trim;rw [if_pos hl]
  rw [e]
  have e2:best s at_ (d+1)=if (best s at_ d).1<comm s (at_-(d+1)) at_ then (comm s (at_-(d+1)) at_,d+1) else best s at_ d:=by rw [best]
  rw [e2]
  split
  ·unfold trim;rw [if_pos h]
  ·unfold trim;rw [if_pos hl]
 ·have e:trim (best s at_ d)=(0,0):=by unfold trim;rw [if_neg hl]
  rw [e,if_pos (by simp only;omega)]
  have e2:best s at_ (d+1)=(comm s (at_-(d+1)) at_,d+1):=by rw [best,if_pos (by omega)]
  rw [e2]
  unfold trim;rw [if_pos h]
theorem trim_skips{s:ByteArray}{at_ d:Nat}:∀ e,(∀ q,d≤q→q<e→comm s (at_-(q+1)) at_<3)→d≤e→trim (best s at_ e)=trim (best s at_ d):=by
 intro e
 induction e with
 | zero=>
  intro _ h;have:d=0:=by omega
  rw [this]
 | succ e ih=>
  intro h hle
  by_cases hd:d=e+1
  ·rw [hd]
  ·rw [trim_skip (h e (by omega) (by omega)),ih (fun q h1 h2=>h q h1 (by omega)) (by omega)]
def seen(s:ByteArray)(at_ p:Nat):Nat × Nat:=trim (best s at_ (min (at_-p) 4096))
theorem seen_skip{s:ByteArray}{at_ m:Nat}(hm:m≤at_):seen s at_ (prev s (key3 s at_) m)=seen s at_ m:=by
 unfold seen
 have hp:=prev_le s (key3 s at_) m
 refine trim_skips _ (fun q h1 h2=>?_) (by omega)
 rcases Nat.lt_or_ge (comm s (at_-(q+1)) at_) 3 with h | h
 ·exact h
 ·exfalso
  obtain ⟨hk,hsz⟩:=comm3' h
  exact prev_none m (at_-(q+1)) (by omega) (by omega) ⟨by omega,hk⟩
theorem seen_start(s:ByteArray)(at_:Nat):seen s at_ at_=(0,0):=by
 unfold seen
 rw [Nat.sub_self]
 rfl
theorem seen_hit{s:ByteArray}{at_ p:Nat}(hp:0<p)(hpa:p≤at_)(hw:at_-(p-1)≤4096)(hk:key3 s (p-1)=key3 s at_)(ha:at_+3≤s.size) :
 seen s at_ (p-1)=if (seen s at_ p).1<comm s (p-1) at_ then (comm s (p-1) at_,at_-(p-1)) else seen s at_ p:=by
 have h3:=comm3 hk ha
 unfold seen
 rw [show min (at_-(p-1)) 4096=(at_-p)+1 by omega,show min (at_-p) 4096=at_-p by omega]
 have e:at_-(at_-p+1)=p-1:=by omega
 rw [trim_hit (by rw [e];exact h3),e,show at_-p+1=at_-(p-1) by omega]
def found(s:ByteArray)(at_:Nat):Nat × Nat:=trim (best s at_ (min at_ 4096))
theorem seen_end{s:ByteArray}{at_ p:Nat}(hpa:p≤at_)(h:p=0∨4096<at_-(p-1)):seen s at_ p=found s at_:=by
 unfold seen found
 rcases h with h | h
 ·subst h;rfl
 ·rw [show min (at_-p) 4096=min at_ 4096 by omega]
theorem found_none{s:ByteArray}{at_:Nat}(h:s.size<at_+3):found s at_=(0,0):=by
 unfold found
 rw [trim_skips (d:=0) _ (fun q _ _=>?_) (by omega)]
 ·rfl
 ·rcases Nat.lt_or_ge (comm s (at_-(q+1)) at_) 3 with h1 | h1
  ·exact h1
  ·have:=(comm3' h1).2;omega
theorem best_far(s:ByteArray)(at_:Nat):∀ d,(best s at_ d).2≤d∧(0<(best s at_ d).1→1≤(best s at_ d).2∧(best s at_ d).1=comm s (at_-(best s at_ d).2) at_)∧(best s at_ d).1≤258:=by
 intro d
 induction d with
 | zero=>simp [best]
 | succ d ih=>
  rw [best]
  split
  ·exact ⟨Nat.le_refl _,fun _=>⟨by simp,rfl⟩,comm_le ..⟩
  ·exact ⟨by omega,ih.2.1,ih.2.2⟩
structure Tok where
 len:Int
 dist:Int
 lit:Int
deriving DecidableEq
def tcell(t:Tok):List Value:=[.int .i64 t.len,.int .i64 t.dist,.int .i64 t.lit]
def tval(t:Tok):Value:=.agg #[.int .i64 t.len,.int .i64 t.dist,.int .i64 t.lit]
theorem tcell_length(t:Tok):(tcell t).length=3:=rfl
theorem tcell_one(t:Tok):∀ u∈tcell t,u.oneCell'=true:=by intro u hu;simp [tcell] at hu;rcases hu with rfl | rfl | rfl <;> rfl
def tokAt(s:ByteArray)(i:Nat):Tok:=if 3≤(found s i).1 then ⟨(found s i).1,(found s i).2,0⟩ else ⟨0,0,(byt s i).toNat⟩
def stepAt(s:ByteArray)(i:Nat):Nat:=if 3≤(found s i).1 then (found s i).1 else 1
def parseN(s:ByteArray):Nat→Nat→List Tok
 | 0,_=>[]
 | f+1,i=>if i<s.size then tokAt s i::parseN s f (i+stepAt s i) else []
def parse(s:ByteArray):List Tok:=parseN s s.size 0
theorem parseN_end{s:ByteArray}{f i:Nat}(h:s.size≤i):parseN s f i=[]:=by
 cases f with
 | zero=>rfl
 | succ f=>rw [parseN,if_neg (by omega)]
theorem found_is(s:ByteArray)(i:Nat):found s i=best s i (min i 4096)∧3≤(found s i).1∨found s i=(0,0):=by
 unfold found trim
 split
 ·next h=>exact .inl ⟨rfl,h⟩
 ·exact .inr rfl
theorem found_comm{s:ByteArray}{i:Nat}(h:3≤(found s i).1):1≤(found s i).2∧(found s i).2≤i∧(found s i).2≤4096∧(found s i).1≤258∧(found s i).1=comm s (i-(found s i).2) i:=by
 rcases found_is s i with ⟨he,_⟩ | he
 ·rw [he] at h ⊢
  have hb:=best_far s i (min i 4096)
  have h2:=hb.2.1 (by omega)
  exact ⟨h2.1,by omega,by omega,hb.2.2,h2.2⟩
 ·rw [he] at h;simp at h
theorem found_le{s:ByteArray}{i:Nat}(h:3≤(found s i).1):i+(found s i).1≤s.size:=by
 have hc:=(found_comm h).2.2.2.2
 have:=comm_get (s:=s) (a:=i-(found s i).2) (b:=i) (j:=(found s i).1-1) (by omega)
 omega
theorem stepAt_pos(s:ByteArray)(i:Nat):1≤stepAt s i:=by unfold stepAt;split <;> omega
theorem stepAt_le{s:ByteArray}{i:Nat}(hi:i<s.size):i+stepAt s i≤s.size:=by
 unfold stepAt
 split
 ·next h=>exact found_le h
 ·omega
def may(t:Tok)(n:Nat):Bool:=
 if t.len=0 then decide (t.dist=0∧0≤t.lit∧t.lit<256) else decide (t.lit=0∧3≤t.len∧t.len≤258∧1≤t.dist∧t.dist≤32768∧t.dist≤n)
def copyN(d:Nat)(out:List Int):Nat→List Int
 | 0=>out
 | k+1=>copyN d out k++[(copyN d out k).getD ((copyN d out k).length-d) 0]
inductive Res where
 | err (e:Nat)
 | ok (out:List Int)
def exp(most:Int):List Tok→List Int→Res
 | [],out=>.ok out
 | t::l,out=>
  if may t out.length=false then .err 2
  else if IntKind.i64.wrap (most-out.length)<max t.len 1 then .err 12
  else if t.len=0 then exp most l (out++[t.lit])
  else exp most l (copyN t.dist.toNat out t.len.toNat)
theorem tok_cells{w:World}{b o c i n:Nat}{l:List Tok}{t:Tok}(h:Rd w 3 (.slice (some ⟨b,o,none⟩) n c) n (rows tcell l))(ht:l[i]?=some t) :
 w.cell? ⟨b,o+i*3,none⟩=some (.int .i64 t.len)∧w.cell? ⟨b,o+i*3+1,none⟩=some (.int .i64 t.dist)∧w.cell? ⟨b,o+i*3+2,none⟩=some (.int .i64 t.lit):=by
 have h0:=h.cell ((Jt tcell tcell_length ht 0 (by omega)).trans rfl)
 have h1:=h.cell ((Jt tcell tcell_length ht 1 (by omega)).trans rfl)
 have h2:=h.cell ((Jt tcell tcell_length ht 2 (by omega)).trans rfl)
 exact ⟨h0,h1,h2⟩
def bcells(l:List Int):List Value:=l.map (.int .u8)
section
variable {α:Type} {key:α→Int}
inductive FullC (key:α→Int) (b:Nat):List α→Prop
 | nil:FullC key b []
 | cons {x r:List α}:x.length=b→Srt key x→FullC key b r→FullC key b (x++r)
theorem FullC.snoc{b:Nat}{p x:List α}(h:FullC key b p)(hl:x.length=b)(hs:Srt key x):FullC key b (p++x):=by
 induction h with
 | nil=>have:=FullC.cons hl hs (FullC.nil (key:=key) (b:=b));simpa using this
 | cons h1 h2 _ ih=>rw [List.append_assoc];exact .cons h1 h2 ih
theorem FullC.len{b:Nat}{p:List α}(h:FullC key b p):∃ q,p.length=q*b:=by
 induction h with
 | nil=>exact ⟨0,by simp⟩
 | cons h1 _ _ ih=>obtain ⟨q,hq⟩:=ih;exact ⟨q+1,by rw [lJ,h1,hq,Nat.add_mul];omega⟩
theorem FullC.front{b:Nat}{p:List α}(h:FullC key b p)(hp:0<p.length):∃ x r,p=x++r∧x.length=b∧Srt key x∧FullC key b r:=by
 cases h with
 | nil=>simp at hp
 | cons h1 h2 h3=>exact ⟨_,_,rfl,h1,h2,h3⟩
theorem FullC.two{b:Nat}{p:List α}(h:FullC key b p)(hp:b<p.length):∃ x y r,p=x++y++r∧x.length=b∧y.length=b∧Srt key x∧Srt key y∧FullC key b r:=by
 obtain ⟨x,r,rfl,h1,h2,h3⟩:=h.front (by omega)
 obtain ⟨y,r2,rfl,h4,h5,h6⟩:=h3.front (by rw [lJ] at hp;omega)
 exact ⟨x,y,r2,by simp,h1,h4,h2,h5,h6⟩
theorem FullC.one{b:Nat}{p:List α}(h:FullC key b p)(hp:p.length≤b)(hb:0<b):p=[]∨p.length=b∧Srt key p:=by
 rcases Nat.eq_zero_or_pos p.length with h0 | h0
 ·exact .inl (eJ h0)
 ·obtain ⟨x,r,rfl,h1,h2,h3⟩:=h.front h0
  rw [lJ] at hp
  have:r=[]:=eJ (by omega)
  subst this
  exact .inr ⟨by simpa using h1,by simpa using h2⟩
end
section
variable {w0 w w':World} {p q:Piece} {ps qs:List Piece} {e:TypeId} {size n:Nat} {v:Value} {xs:List Value}
theorem slc_low{P:Program}{ty:TypeId}(ht:P.underlying ty=some (.slice (P.elem ty))){size:Nat}(hsz:∀ w,(sizeOf (P.elem ty)).run P w=.ok size w){ad:Option Addr}{n c k:Nat}(hk:k≤n){tv:Value}(hv:sliced ad k n c size=tv)(w:World) :
 (Instr.sliceAt ty (.slice ad n c) (some (.int .i64 (k:Int))) none none).run P w=.ok tv w:=by
 have hr:=run_slice_l (P:=P) (w:=w) ty ad n c ht .i64 (k:Int) (by omega) (by omega)
 rw [hsz,Result.andThen_ok,Int.toNat_natCast,hv] at hr
 rw [run_sliceAt_slice w ty _ _ _ _ ht,hr]
theorem slc_lh{P:Program}{ty:TypeId}(ht:P.underlying ty=some (.slice (P.elem ty))){size:Nat}(hsz:∀ w,(sizeOf (P.elem ty)).run P w=.ok size w){ad:Option Addr}{n c k m:Nat}(hk:k≤m)(hm:m≤c){tv:Value}(hv:sliced ad k m c size=tv)(w:World) :
 (Instr.sliceAt ty (.slice ad n c) (some (.int .i64 (k:Int))) (some (.int .i64 (m:Int))) none).run P w=.ok tv w:=by
 have hr:=run_slice_lh (P:=P) (w:=w) ty ad n c ht .i64 .i64 (k:Int) (m:Int) (by omega) (by omega) (by omega)
 rw [hsz,Result.andThen_ok,Int.toNat_natCast,Int.toNat_natCast,hv] at hr
 rw [run_sliceAt_slice w ty _ _ _ _ ht,hr]
theorem exec_load{P:Program}{ev:Operand→Value}{o:Oper}{ty:TypeId}{x:Operand}{p u:Value}{w:World}(ho:o.op=.load ty x)(hx:ev x=p)(h:(Instr.loadAt ty p).run P w=.ok u w):(execOp ev o).run P w=.ok (.value u) w:=by
 unfold execOp
 simp only [ho,hx,Sem.run_bind,h,Result.andThen_ok,Sem.run_pure]
theorem wpList_load_by{P:Program}{ops:Array Oper}{rest:List Oper}{o:Oper}{a:Act}{w:World}{Q:Exit→Act→World→Prop}(hgd:o.guard=none){ty:TypeId}(x:Operand)(ho:o.op=.load ty x){p u:Value}(hx:a.eval x=p)(hl:(Instr.loadAt ty p).run P w=.ok u w)
 (h:wpList P ops Q rest (a.put o.dst u) w):wpList P ops Q (o::rest) a w:=by
 refine wpList_plain hgd fun K hK=>?_
 unfold Oper.wp
 rw [exec_load ho hx hl]
 exact hK _ _ h
theorem wpList_value{P:Program}{ops:Array Oper}{rest:List Oper}{o:Oper}{a:Act}{w:World}{Q:Exit→Act→World→Prop}(hgd:o.guard=none){u:Value}(hl:(execOp a.eval o).run P w=.ok (.value u) w)
 (h:wpList P ops Q rest (a.put o.dst u) w):wpList P ops Q (o::rest) a w:=by
 refine wpList_plain hgd fun K hK=>?_
 unfold Oper.wp
 rw [hl]
 exact hK _ _ h
theorem Rd.cutOf{a:Option Addr}{n c k m:Nat}(h:Rd w size (.slice a n c) n xs)(hk:k≤m)(hm:m≤n) :
 Rd w size (sliced a k m c size) (m-k) ((xs.take (m*size)).drop (k*size)):=by
 have h1:=h.take hm
 cases a with
 | none=>
  obtain ⟨hl,a,c',e,h1,h2,h3,h4⟩:=h
  cases e
  obtain ⟨rfl,rfl⟩:=h3 rfl
  obtain rfl:m=0:=by omega
  obtain rfl:k=0:=by omega
  obtain rfl:xs=[]:=eJ (by simpa using hl)
  simpa [_root_.Go.sliced] using Rd.nil w size
 | some ad=>
  have h2:=h1.tail hk
  unfold _root_.Go.sliced
  by_cases hc:c=k
  ·obtain ⟨hl,a,c',e,h1,h2,h3,h4⟩:=h
   cases e
   obtain rfl:m=k:=by omega
   rw [if_pos hc,Nat.sub_self,List.drop_eq_nil_of_le (by rw [List.length_take];omega)]
   exact ⟨by simp,_,_,rfl,by omega,by omega,by simp,fun ad _ j u hu=>by simp at hu⟩
  ·rw [if_neg hc]
   exact h2
theorem Own.dcut{a:Option Addr}{n c k:Nat}(h:Own w0 w (sld e size (.slice a n c) n xs::ps))(hk:k≤n){tv:Value}(hv:sliced a k n c size=tv) :
 Own w0 w (sld e size tv (n-k) (xs.drop (k*size))::ps):=by
 subst hv
 rcases h.sld_cases with ⟨hv,hn,hx,h'⟩ | ⟨g,o,cap,cur,hv,hl,h1,h2,h3,h4,h5⟩
 ·cases hv
  subst hx
  obtain rfl:k=0:=by omega
  unfold _root_.Go.sliced
  simpa using h
 ·cases hv
  unfold _root_.Go.sliced
  by_cases hc:c=k
  ·obtain rfl:n=k:=by omega
   subst hc
   rw [if_pos rfl,Nat.sub_self,List.drop_eq_nil_of_le (by omega)]
   exact h5.sld_mk (by simp) (by omega) (by omega) (by omega) (by simp)
  ·rw [if_neg hc]
   have:=h.dtail hk
   rcases hz:k*size with _ | m
   ·rw [hz] at this;simpa [Addr.add,hz] using this
   ·rw [hz] at this;simpa [Addr.add,hz] using this
end
section
variable {w0 w:World} {ps:List Piece} {e:TypeId} {size n:Nat} {v:Value} {xs:List Value} {P:Program} {t:TypeId} {z:Value} {bytes:Nat}
theorem wpList_append_new{ops:Array Oper}{rest:List Oper}{o:Oper}{a:Act}{Q:Exit→Act→World→Prop}(hgd:o.guard=none)(s x:Operand)
 (ho:o.op=.call { callee:=.builtin .append,args:=#[s,x],argTypes:=#[t,t] })
 (ht:P.underlying t=some (.slice e)) (hinfo:(P.info? e).map (fun i=>(i.zero,i.size,i.bytes))=some (some z,size,bytes)) (hzs:z.cells.size=size) (hsz:0<size)
 (hs:a.eval s=v) (H:Own w0 w (slc e size v n xs::ps))
 {news:List Value} {m c:Nat} (hx:a.eval x=.slice (some ⟨w.heap.size,0,none⟩) m c) (hc:c=m) (hm:m≤1000) (hl:news.length=m*size) (h1:∀ u∈news,u.oneCell'=true)
 (h63:n+m≤9223372036854775807) (hbytes:(n+m)*bytes≤140737488355328)
 (h:∀ v' w',Own w0 w' (slc e size v' (n+m) (xs++news)::ps)→wpList P ops Q rest (a.put o.dst v') w'):wpList P ops Q (o::rest) a (w.alloc (.cells news.toArray e)):=by
 subst hc
 refine Qn hgd s x ho ht hinfo hzs hsz hs (H.alloc' _) (m:=c) (news:=news) ?_ h1 h63 hbytes h
 rw [hx]
 exact ((H.made news e size c hl (by simp [maxLen];omega)).rd)
end
theorem run_index_arr{P:Program}(t e:TypeId)(n:Nat)(cs:Array Value)(i:Nat)(v:Int)(w:World)(h:P.underlying t=some (.array n e))(hsz:∀ w,(sizeOf e).run P w=.ok 1 w)(hag:∀ w,(isAgg e).run P w=.ok false w)(hi:i<n)(hv:cs[i]?=some (.int .i64 v)) :
 (Instr.index t (.agg cs) (.int .i64 i)).run P w=.ok (.int .i64 v) w:=by
 have hn:(0:Int)≤(i:Int)∧(i:Int)<(n:Int):=by omega
 simp [Instr.index,run_underlying h,asIntOf,hn,go_sem]
 rw [if_pos hi]
 simp [hsz,hag,hv,Result.andThen]
theorem int_one(w:World):(sizeOf 3).run Tryz.prog w=.ok 1 w∧(isAgg 3).run Tryz.prog w=.ok false w:=by
 constructor <;> go_simp
def bnum(s:ByteArray)(i:Nat):List Int:=(List.range i).map fun j=>((byt s j).toNat:Int)
theorem tokAt_may{s:ByteArray}{i:Nat}:may (tokAt s i) i=true:=by
 unfold tokAt
 split
 ·next h=>
  have hc:=found_comm h
  unfold may
  rw [if_neg (by simp only;omega)]
  simp only [decide_eq_true_eq]
  refine ⟨trivial,?_⟩
  omega
 ·unfold may
  rw [if_pos rfl]
  have:=(byt s i).toNat_lt
  simp only [decide_eq_true_eq]
  refine ⟨trivial,?_⟩
  omega
def runs(r:Nat):Nat:=r/258+if 2<r%258 then 1 else r%258
def keyN:List UInt8→Nat→Nat
 | [],_=>0
 | _::_,0=>0
 | b::l,n+1=>(b.toNat+1)*257^n+keyN l n
theorem keyN_lt:∀ (l:List UInt8) (n:Nat),keyN l n<257^n
 | [],n=>by rw [keyN];exact Nat.pow_pos (by decide)
 | b::l,0=>by rw [keyN];decide
 | b::l,n+1=>by
  have h1:=keyN_lt l n
  have h2:b.toNat<256:=b.toNat_lt
  have h3:(b.toNat+1)*257^n+257^n≤257*257^n:=by
   rw [show (b.toNat+1)*257^n+257^n=(b.toNat+2)*257^n by rw [Nat.add_mul,Nat.add_mul,Nat.one_mul];omega]
   exact Nat.mul_le_mul_right _ (by omega)
  rw [keyN,Nat.pow_succ,Nat.mul_comm (257^n) 257]
  omega
theorem key_step(n:Nat){u v:Nat}(h:u<v):(u+1)*257^n+257^n≤(v+1)*257^n:=by
 rw [show (u+1)*257^n+257^n=(u+2)*257^n by rw [Nat.add_mul,Nat.add_mul,Nat.one_mul];omega]
 exact Nat.mul_le_mul_right _ (by omega)
theorem cmpI_add(A x y:Nat):cmpI ((A+x:Nat):Int) ((A+y:Nat):Int)=cmpI x y:=by
 unfold cmpI
 by_cases h1:x<y
 ·rw [if_pos (by omega),if_pos (by omega)]
 ·by_cases h2:y<x
  ·rw [if_neg (by omega),if_pos (by omega),if_neg (by omega),if_pos (by omega)]
  ·rw [if_neg (by omega),if_neg (by omega),if_neg (by omega),if_neg (by omega)]
theorem key_cmp:∀ (a b:List UInt8) (n:Nat),a.length≤n→b.length≤n→Lib.compareBytes a b=cmpI (keyN a n) (keyN b n)
 | [],[],n,_,_=>by simp [Lib.compareBytes,cmpI,keyN]
 | [],y::b,n+1,_,_=>by
  have:0<(y.toNat+1)*257^n:=Nat.mul_pos (by omega) (Nat.pow_pos (by decide))
  rw [Lib.compareBytes,keyN,keyN,cmpI,if_pos (by omega)]
 | x::a,[],n+1,_,_=>by
  have:0<(x.toNat+1)*257^n:=Nat.mul_pos (by omega) (Nat.pow_pos (by decide))
  rw [Lib.compareBytes,keyN,keyN,cmpI,if_neg (by omega),if_pos (by omega)]
 | x::a,y::b,n+1,ha,hb=>by
  have ih:=key_cmp a b n (by simpa using ha) (by simpa using hb)
  have k1:=keyN_lt a n
  have k2:=keyN_lt b n
  rw [Lib.compareBytes,keyN,keyN]
  by_cases h1:x<y
  ·have:=key_step n (UInt8.lt_iff_toNat_lt.1 h1)
   generalize (x.toNat+1)*257^n=A at *
   generalize (y.toNat+1)*257^n=B at *
   generalize 257^n=C at *
   rw [if_pos h1,cmpI,if_pos (by omega)]
  ·rw [if_neg h1]
   by_cases h2:y<x
   ·have:=key_step n (UInt8.lt_iff_toNat_lt.1 h2)
    generalize (x.toNat+1)*257^n=A at *
    generalize (y.toNat+1)*257^n=B at *
    generalize 257^n=C at *
    rw [if_pos h2,cmpI,if_neg (by omega),if_pos (by omega)]
   ·rw [if_neg h2]
    have hxy:x.toNat=y.toNat:=by
     have e1:¬ x.toNat<y.toNat:=fun h=>h1 (UInt8.lt_iff_toNat_lt.2 h)
     have e2:¬ y.toNat<x.toNat:=fun h=>h2 (UInt8.lt_iff_toNat_lt.2 h)
     omega
    rw [ih,hxy,cmpI_add]
def pkey(s:ByteArray):Int:=(keyN s.data.toList 4096:Nat)
theorem pkey_cmp{a b:ByteArray}(ha:a.size≤4096)(hb:b.size≤4096):Lib.compareBytes a.data.toList b.data.toList=cmpI (pkey a) (pkey b):=
 key_cmp _ _ _ (by rw [Array.length_toList];exact ha) (by rw [Array.length_toList];exact hb)
noncomputable section
section
variable {F:Funs} {e:Env} {P:Program} {ρ:Operand→Value} {ev:Ev}
theorem vrs_evs(hev:EvR F e ev ρ):∀ l:List Operand,VRs F e (l.map ev) (l.map ρ)
 | []=>rfl
 | x::l=>⟨ρ x,l.map ρ,rfl,hev x,vrs_evs hev l⟩
theorem aPart_run{t:TypeId}{cs:List AV}{off:Nat}{x:AV}{vs:List Value}(w:World)(hv:VRs F e cs vs)(h:aPart P t cs off=some x):∃ v,(part t vs.toArray off).run P w=.ok v w∧VR F e x v:=by
 unfold aPart at h
 split at h
 ·rename_i hg
  split at h
  ·rename_i n hs
   split at h
   ·rename_i hl
    cases h
    refine ⟨.agg ((vs.drop off).take n).toArray,?_,(vs.drop off).take n,rfl,VRs.take _ _ _ (VRs.drop _ _ _ hv)⟩
    simp [part,Zx hg,Zq hs]
   ·cases h
  ·cases h
 ·rename_i hg
  obtain ⟨v,h1,h2⟩:=VRs.get _ _ _ _ hv h
  exact ⟨v,by simp [part,Zx hg,h1],h2⟩
 ·cases h
theorem bytesOf_toList(l:List UInt8):(Qb l).toList=l:=by
 rw [ByteArray.toList_eq];simp [Qb]
theorem aEqF_run{xs ys:List AV}{vs us:List Value}(hx:VRs F e xs vs)(hy:VRs F e ys us)(d:Nat)(w:World):∀ {fs:List Field} {b:Bool},aEqF P xs ys fs=some b →
 (Op.eqFields (d+1) vs.toArray us.toArray fs).run P w=.ok b w
 | [],b,h=>by cases h;simp [Op.eqFields]
 | f::fs,b,h=>by
  unfold aEqF at h
  split at h
  ·cases h
  ·rename_i hn
   split at h
   ·rename_i s t hg h1 h2 hu
    obtain ⟨v1,g1,r1⟩:=VRs.get _ _ _ _ hx h1
    obtain ⟨v2,g2,r2⟩:=VRs.get _ _ _ _ hy h2
    have e1:=r1.2;have e2:=r2.2
    subst e1;subst e2
    have hrun:∀ k,teq s t=some k→(Op.equalIn (d+1) f.type (.string (Qb (den F e s))) (.string (Qb (den F e t)))).run P w=.ok k w:=by
     intro k hk
     have:=teq_den r1.1 r2.1 hk
     rw [run_equalIn_string w d f.type _ _ hu,bytesOf_toList,bytesOf_toList]
     congr 1
     cases k
     ·simpa using fun hh=>Bool.noConfusion (this.2 hh)
     ·simpa using this.1 rfl
    split at h
    ·rename_i hk
     have ih:=aEqF_run hx hy d w h
     simp [Op.eqFields,hn,part,Zx hg,g1,g2,hrun _ hk,ih]
    ·rename_i hk
     cases h
     simp [Op.eqFields,hn,part,Zx hg,g1,g2,hrun _ hk]
    ·cases h
   ·rename_i k a k' b' q hg h1 h2 hu
    obtain ⟨v1,g1,r1⟩:=VRs.get _ _ _ _ hx h1
    obtain ⟨v2,g2,r2⟩:=VRs.get _ _ _ _ hy h2
    have e1:v1=_:=r1
    have e2:v2=_:=r2
    subst e1;subst e2
    split at h
    ·rename_i hk
     subst hk
     split at h
     ·rename_i hab
      subst hab
      have ih:=aEqF_run hx hy d w h
      simp [Op.eqFields,hn,part,Zx hg,g1,g2,run_equalIn_int w d f.type _ _ _ _ hu,ih]
     ·rename_i hab
      cases h
      simp [Op.eqFields,hn,part,Zx hg,g1,g2,run_equalIn_int w d f.type _ _ _ _ hu,hab]
    ·cases h
   ·rename_i a b' hg h1 h2 hu
    obtain ⟨v1,g1,r1⟩:=VRs.get _ _ _ _ hx h1
    obtain ⟨v2,g2,r2⟩:=VRs.get _ _ _ _ hy h2
    have e1:v1=_:=r1
    have e2:v2=_:=r2
    subst e1;subst e2
    split at h
    ·rename_i hab
     subst hab
     have ih:=aEqF_run hx hy d w h
     simp [Op.eqFields,hn,part,Zx hg,g1,g2,run_equalIn_bool w d f.type _ _ hu,ih]
    ·rename_i hab
     cases h
     simp [Op.eqFields,hn,part,Zx hg,g1,g2,run_equalIn_bool w d f.type _ _ hu,hab]
   ·cases h
def Refy(v:Value):Prop:=(∃ a,v=.pointer a)∨(∃ a b c,v=.slice a b c)∨(∃ a,v=.map a)∨(∃ a b c,v=.func a b c)∨v=.nilFunc
theorem run_eql_refy{t:TypeId}{x y:Value}(hx:Refy x)(hy:Refy y)(w:World):(binOp .eql t x y).run P w=((Op.equalIn 10000 t x y).run P w).andThen fun b w'=>.ok (.bool b) w':=by
 rcases hx with ⟨a,rfl⟩ | ⟨a,b,c,rfl⟩ | ⟨a,rfl⟩ | ⟨a,b,c,rfl⟩ | rfl <;> rcases hy with ⟨a',rfl⟩ | ⟨a',b',c',rfl⟩ | ⟨a',rfl⟩ | ⟨a',b',c',rfl⟩ | rfl <;> (simp only [binOp];simp [Op.equal,Op.maxDepth])
theorem run_neq_refy{t:TypeId}{x y:Value}(hx:Refy x)(hy:Refy y)(w:World):(binOp .neq t x y).run P w=((Op.equalIn 10000 t x y).run P w).andThen fun b w'=>.ok (.bool (!b)) w':=by
 rcases hx with ⟨a,rfl⟩ | ⟨a,b,c,rfl⟩ | ⟨a,rfl⟩ | ⟨a,b,c,rfl⟩ | rfl <;> rcases hy with ⟨a',rfl⟩ | ⟨a',b',c',rfl⟩ | ⟨a',rfl⟩ | ⟨a',b',c',rfl⟩ | rfl <;> (simp only [binOp];simp [Op.equal,Op.maxDepth])
theorem noEq{t:TypeId}{x y:Value}{w:World}(hx:Refy x)(hy:Refy y)(h:∀ d,(Op.equalIn (d+1) t x y).run P w=.ok false w)(o1 o2:Operand) :
 (∀ op,(eqGuard op t o1 o2 x y).run P w=.ok () w)∧(binOp .eql t x y).run P w=.ok (.bool false) w∧(binOp .neq t x y).run P w=.ok (.bool !false) w:=by
 refine ⟨fun op=>?_,by rw [run_eql_refy hx hy,h 9999];rfl,by rw [run_neq_refy hx hy,h 9999];rfl⟩
 rcases hx with ⟨a,rfl⟩ | ⟨a,b,c,rfl⟩ | ⟨a,rfl⟩ | ⟨a,b,c,rfl⟩ | rfl <;> cases op <;> simp [eqGuard]
theorem aEq_run{t:TypeId}{x y:AV}{u v:Value}{b:Bool}(hx:VR F e x u)(hy:VR F e y v)(h:aEq P t x y=some b)(o1 o2:Operand)(w:World) :
 (∀ op,(eqGuard op t o1 o2 u v).run P w=.ok () w)∧(binOp .eql t u v).run P w=.ok (.bool b) w∧(binOp .neq t u v).run P w=.ok (.bool !b) w:=by
 unfold aEq at h
 split at h
 ·
  have e1:=hx.2;have e2:=hy.2
  subst e1;subst e2
  have:=teq_den hx.1 hy.1 h
  rename_i ta tb
  have hb:(den F e ta==den F e tb)=b:=by
   cases b
   ·simpa using fun hh=>Bool.noConfusion (this.2 hh)
   ·simpa using this.1 rfl
  refine ⟨fun op=>by cases op <;> simp [eqGuard],?_,?_⟩
  ·simp [binOp,Op.stringOp,bytesOf_toList,← hb]
  ·simp [binOp,Op.stringOp,bytesOf_toList,← hb]
 ·split at h
  ·cases h;rename_i hu
   obtain ⟨_,_,_,_,rfl⟩:=hx;have e2:v=_:=hy;subst e2
   exact noEq (.inl ⟨_,rfl⟩) (.inl ⟨_,rfl⟩) (fun d=>by simp [Op.equalIn,run_underlying hu]) o1 o2
  ·cases h
 ·split at h
  ·cases h;rename_i hu
   obtain ⟨_,_,_,_,rfl⟩:=hy;have e2:u=_:=hx;subst e2
   exact noEq (.inl ⟨_,rfl⟩) (.inl ⟨_,rfl⟩) (fun d=>by simp [Op.equalIn,run_underlying hu]) o1 o2
  ·cases h
 ·split at h
  ·cases h;rename_i hu
   obtain ⟨_,_,_,_,_,_,rfl,_⟩:=hx;have e2:v=_:=hy;subst e2
   exact noEq (.inr (.inl ⟨_,_,_,rfl⟩)) (.inr (.inl ⟨_,_,_,rfl⟩)) (fun d=>by simp [Op.equalIn,run_underlying hu]) o1 o2
  ·cases h
 ·split at h
  ·cases h;rename_i hu
   obtain ⟨_,_,_,_,_,_,rfl,_⟩:=hy;have e2:u=_:=hx;subst e2
   exact noEq (.inr (.inl ⟨_,_,_,rfl⟩)) (.inr (.inl ⟨_,_,_,rfl⟩)) (fun d=>by simp [Op.equalIn,run_underlying hu]) o1 o2
  ·cases h
 ·split at h
  ·cases h;rename_i hu
   obtain ⟨_,_,_,_,rfl⟩:=hx;have e2:v=_:=hy;subst e2
   exact noEq (.inr (.inr (.inl ⟨_,rfl⟩))) (.inr (.inr (.inl ⟨_,rfl⟩))) (fun d=>by simp [Op.equalIn,run_underlying hu]) o1 o2
  ·cases h
 ·split at h
  ·cases h;rename_i hu
   obtain ⟨_,_,_,_,rfl⟩:=hy;have e2:u=_:=hx;subst e2
   exact noEq (.inr (.inr (.inl ⟨_,rfl⟩))) (.inr (.inr (.inl ⟨_,rfl⟩))) (fun d=>by simp [Op.equalIn,run_underlying hu]) o1 o2
  ·cases h
 ·split at h
  ·cases h;rename_i hu
   obtain ⟨_,_,rfl,_⟩:=hx;have e2:v=_:=hy;subst e2
   exact noEq (.inr (.inr (.inr (.inl ⟨_,_,_,rfl⟩)))) (.inr (.inr (.inr (.inr rfl)))) (fun d=>by simp [Op.equalIn,run_underlying hu]) o1 o2
  ·cases h
 ·split at h
  ·cases h;rename_i hu
   obtain ⟨_,_,rfl,_⟩:=hy;have e2:u=_:=hx;subst e2
   exact noEq (.inr (.inr (.inr (.inr rfl)))) (.inr (.inr (.inr (.inl ⟨_,_,_,rfl⟩)))) (fun d=>by simp [Op.equalIn,run_underlying hu]) o1 o2
  ·cases h
 ·
  split at h
  ·rename_i fs hu
   split at h
   ·rename_i hs
    obtain ⟨a,rfl,ha⟩:=hx
    obtain ⟨b',rfl,hb⟩:=hy
    have hf:P.underlying t=some (.struct (P.fieldsOf t)):=by simp [Program.fieldsOf,hu]
    have hff:P.fieldsOf t=fs:=by simp [Program.fieldsOf,hu]
    have hr:=aEqF_run (P:=P) ha hb 9998 w h
    refine ⟨fun op=>run_eqGuard_agg w op t o1 o2 _ _ hs.2,?_,?_⟩
    ·rw [run_eql_struct,run_equalIn_struct w 9999 t _ _ hf hs.1,hff,hr];rfl
    ·rw [run_neq_struct,run_equalIn_struct w 9999 t _ _ hf hs.1,hff,hr];rfl
   ·cases h
  ·cases h
 ·cases h
end
end
end Go.Proofs.YthekdeikodppkaaGreatDoor
namespace Go.Proofs.YthekdeikodppkaaGreatDoor
open Go.RowKit Go.Lib
section
variable {w0 w w':World} {p q:Piece} {ps qs:List Piece} {e:TypeId} {n:Nat} {v:Value} {xs:List Value}
variable {P:Program} {t u ty:TypeId} {i:TypeInfo} {z:Value}
theorem strCells_eq(s:ByteArray):strCells s=byteCells s:=by
 simp [strCells,byteCells]
theorem run_append_str_sep(H:Own w0 w (slc e 1 v n xs::ps))(ht:P.underlying t=some (.slice e))(hu:P.underlying u=some .string)(hi:P.info? e=some i)(hz:i.zero=some z)(hsize:i.size=1)(hby:i.bytes=1)(hzs:z.cells.size=1)
 (s:ByteArray) (h63:n+s.size≤maxLen) (hbytes:n+s.size≤140737488355328) :
 ∃ v' w',(Builtin.append_ #[t,u] ty #[v,.string s]).run P w=.ok v' w'∧Own w0 w' (slc e 1 v' (n+s.size) (xs++byteCells s)::ps):=by
 have hsmall:n+s.size≤9223372036854775807:=by simpa [maxLen] using h63
 have hnl:=H.slc_len
 rw [Nat.mul_one] at hnl
 have hbl:=byteCells_length s
 have hlen:(xs++byteCells s).length=(n+s.size)*1:=by rw [lJ,hnl,hbl];omega
 have src:Src P i.size u (.string s) s.size (byteCells s) w:=by rw [hsize];exact Src.ofString w hu s
 have grown:∀ (qs:List Piece),Own w0 w qs→∀ (old:Nat),old<n+s.size →
  Own w0 (w.drew.alloc (.cells ((xs++byteCells s).toArray++Builtin.zeroCells z.cells (grownCap w (n+s.size) old e-(n+s.size))) e))
   (slc e 1 (.slice (some ⟨w.heap.size,0,none⟩) (n+s.size) (grownCap w (n+s.size) old e)) (n+s.size) (xs++byteCells s)::qs):=by
  intro qs hqs old ho
  have hge:=grownCap_ge w (n+s.size) old e
  have hcm:grownCap w (n+s.size) old e≤maxLen:=grownCap_le_maxLen w (n+s.size) old e h63
  refine (hqs.drew.alloc _).slc_mk hlen hge hcm ?_ ?_
  ·simp only [Array.size_append,List.size_toArray,size_zeroCells,hzs,hlen]
   omega
  ·simp only [Array.toList_append]
   rw [← hlen]
   exact List.take_left
 rcases H.slc_cases with ⟨rfl,rfl,rfl,h5⟩ | ⟨g,cap,cur,rfl,_,hc1,hc2,hc3,hc4,h5⟩
 ·by_cases h0:s.size=0
  ·have hb0:byteCells s=[]:=eJ (by omega)
   refine ⟨.slice none 0 0,w,?_,by simpa [h0,hb0] using H⟩
   simp [Builtin.append_,run_underlying ht,run_underlying hu,sizeOf,typeInfo,hi,Builtin.lenOf,h0,Builtin.firstCells]
  ·have hr:=run_append_grow_src (P:=P) w t u ty e i z ht hi hz none 0 0 [] (run_firstCells_none (P:=P) w.drew i.size 0 0 0) (.string s) s.size (byteCells s) src (by omega) (by omega) (growslice_fits (by omega) (by rw [hby];omega))
   exact ⟨_,_,hr,grown _ h5 0 (by omega)⟩
 ·by_cases hroom:n+s.size≤cap
  ·have hr:=run_append_room_string (P:=P) w t u ty e i ht hu hi hsize g n cap cur h5.block.1 s hroom (by omega)
   refine ⟨_,_,hr,?_⟩
   have hset:Own w0 (w.setRow g (cur.toList.take n++strCells s++cur.toList.drop (n+s.size)).toArray) (blk g (.cells (cur.toList.take n++strCells s++cur.toList.drop (n+s.size)).toArray e)::ps):=h5.setRow
   refine hset.slc_mk hlen hroom hc2 ?_ ?_
   ·simp only [List.size_toArray,lJ,List.length_take,List.length_drop,Array.length_toList,strCells_eq,hbl]
    omega
   ·rw [Nat.mul_one] at hc4
    rw [hc4,← hlen,strCells_eq]
    exact List.take_left
  ·have holds:∀ j u,xs[j]?=some u→w.cell? ((⟨g,0,none⟩:Addr).add j)=some u:=by
    obtain ⟨_,_,_,hv,_,_,_,hcl⟩:=H.rd
    cases hv
    exact hcl _ rfl
   have hfo:=run_firstCells_some (P:=P) w.drew i.size n ⟨g,0,none⟩ n cap xs (by rw [hsize];omega) (by simpa using holds)
   have hr:=run_append_grow_src (P:=P) w t u ty e i z ht hi hz (some ⟨g,0,none⟩) n cap xs hfo (.string s) s.size (byteCells s) src (by omega) (by omega) (growslice_fits (by omega) (by rw [hby];omega))
   exact ⟨_,_,hr,grown _ h5.drop cap (by omega)⟩
theorem wpList_append_str{ops:Array Oper}{rest:List Oper}{o:Oper}{a:Act}{Q:Exit→Act→World→Prop}(hgd:o.guard=none)(x y:Operand)
 (ho:o.op=.call { callee:=.builtin .append,args:=#[x,y],argTypes:=#[t,u] })
 (ht:P.underlying t=some (.slice e)) (hu:P.underlying u=some .string) (hinfo:(P.info? e).map (fun i=>(i.zero,i.size,i.bytes))=some (some z,1,1)) (hzs:z.cells.size=1)
 (hs:a.eval x=v) (H:Own w0 w (slc e 1 v n xs::ps)) {s:ByteArray} (hx:a.eval y=.string s)
 (h63:n+s.size≤140737488355328)
 (h:∀ v' w',Own w0 w' (slc e 1 v' (n+s.size) (xs++byteCells s)::ps)→wpList P ops Q rest (a.put o.dst v') w'):wpList P ops Q (o::rest) a w:=by
 obtain ⟨i,hi,hz,hsize,hby⟩:=info_parts hinfo
 refine wpList_plain hgd fun K hK=>?_
 obtain ⟨v',w',hr,h2⟩:=run_append_str_sep (P:=P) (ty:=o.type) H ht hu hi hz hsize hby hzs s (by simp only [maxLen];omega) h63
 unfold Oper.wp execOp
 simp only [ho,resolve,invoke,builtin,Sem.run_bind,Sem.run_pure,Result.andThen_ok,List.map_toArray,List.map_cons,List.map_nil,hs,hx,hr]
 exact hK _ _ (h v' w' h2)
theorem Js(src dst:TypeId)(hs:P.underlying src=some (.slice e))(he:P.underlying e=some (.int .u8))(hd:P.underlying dst=some .string){ns:List Int}(h:Rd w 1 v n (ns.map (.int .u8))) :
 (convert src dst v).run P w=.ok (.string (strOfNums ns)) w:=by
 have hl:ns.length=n:=by have:=h.len;simpa using this
 by_cases h0:n=0
 ·subst h0
  obtain ⟨a,c,rfl,_,_⟩:=h.shape
  obtain rfl:=eJ hl
  cases a with
  | none=>rw [run_convert_bytes_nil w src e hs he 0 c dst hd];rfl
  | some ad=>
   rw [run_convert_bytes_string w src dst e _ 0 c hs he hd,run_bytesToString w ad 0 c [] (by simp [loadCells,loadCellsFrom])]
   rfl
 ·obtain ⟨b,o,c,rfl,_,_,hc⟩:=h.at (by simp;omega)
  refine run_convert_bytes_arg w src e hs he b o n c ns hl (fun j hj=>?_) dst hd
  exact hc j _ (ints_get _ _ (by omega))
end
end Go.Proofs.YthekdeikodppkaaGreatDoor
namespace Go.Proofs.YthekdeikodppkaaGreatDoor
open Go.RowKit
def bi(b:Bool):Int:=if b then 1 else 0
theorem bi_bd(b:Bool):0≤bi b∧bi b≤1:=by cases b <;> decide
def valOf:List Bool→Int
 | []=>0
 | b::t=>bi b+2*valOf t
theorem valOf_bd:∀ l:List Bool,0≤valOf l∧valOf l<2^l.length
 | []=>by simp [valOf]
 | b::t=>by
  have h:=valOf_bd t
  have hb:=bi_bd b
  simp only [valOf,List.length_cons,Int.pow_succ]
  omega
theorem valOf_append:∀ l m:List Bool,valOf (l++m)=valOf l+2^l.length*valOf m
 | [],m=>by simp [valOf]
 | b::t,m=>by
  simp only [List.cons_append,valOf,valOf_append t m,List.length_cons,Int.pow_succ]
  rw [Int.mul_add,Int.mul_comm (2^t.length) 2,Int.mul_assoc]
  omega
theorem valOf_snoc(l:List Bool)(b:Bool):valOf (l++[b])=valOf l+2^l.length*bi b:=by
 rw [valOf_append];simp [valOf]
theorem pow2_le{a b:Nat}(h:a≤b):(2:Int)^a≤2^b:=by
 have:=Int.ofNat_le.2 (Nat.pow_le_pow_right (show 0<2 by decide) h)
 simpa [Int.natCast_pow] using this
def Zk(bs:List Bool)(k:Nat):Int:=valOf ((bs.drop (8*k)).take 8)
theorem byteAt_bd(bs:List Bool)(k:Nat):0≤Zk bs k∧Zk bs k<256:=by
 have h:=valOf_bd ((bs.drop (8*k)).take 8)
 refine ⟨h.1,Int.lt_of_lt_of_le h.2 ?_⟩
 have hl:((bs.drop (8*k)).take 8).length≤8:=by simp;omega
 exact pow2_le hl
theorem byteAt_bd'(bs:List Bool):Zk bs (bs.length/8)<2^(bs.length%8):=by
 have h:=valOf_bd ((bs.drop (8*(bs.length/8))).take 8)
 have hl:((bs.drop (8*(bs.length/8))).take 8).length=bs.length%8:=by simp;omega
 rw [hl] at h
 exact h.2
theorem byteAt_out(bs:List Bool)(k:Nat)(h:bs.length≤8*k):Zk bs k=0:=by
 unfold Zk
 rw [List.drop_eq_nil_of_le h]
 rfl
theorem byteAt_snoc(bs:List Bool)(b:Bool)(k:Nat):Zk (bs++[b]) k=if k=bs.length/8 then Zk bs k+2^(bs.length%8)*bi b else Zk bs k:=by
 unfold Zk
 split
 ·next h=>
  subst h
  have hl:(bs.drop (8*(bs.length/8))).length=bs.length%8:=by simp;omega
  rw [List.drop_append_of_le_length (by omega),List.take_of_length_le (by simp;omega),List.take_of_length_le (by omega),valOf_snoc,hl]
 ·next h=>
  by_cases hk:8*k≤bs.length
  ·rw [List.drop_append_of_le_length hk,List.take_append_of_le_length (by simp;omega)]
  ·rw [List.drop_eq_nil_of_le (by simp;omega),List.drop_eq_nil_of_le (by omega)]
def Qq(n:Nat):Nat:=(n+7)/8
def Jg(bs:List Bool):List Int:=(List.range (Qq bs.length)).map (Zk bs)
theorem bytesOf_length(bs:List Bool):(Jg bs).length=Qq bs.length:=by simp [Jg]
theorem bytesOf_get(bs:List Bool){k:Nat}(h:k<Qq bs.length):(Jg bs)[k]?=some (Zk bs k):=by simp [Jg,h]
theorem bytesOf_bd(bs:List Bool):∀ x∈Jg bs,0≤x∧x<256:=by
 intro x hx
 obtain ⟨k,_,rfl⟩:=List.mem_map.1 hx
 exact byteAt_bd bs k
theorem bytesOf_snoc(bs:List Bool)(b:Bool)(L:List Int)(hL:L=if bs.length%8=0 then Jg bs++[0] else Jg bs) :
 L.length=Qq (bs.length+1)∧L[bs.length/8]?=some (Zk bs (bs.length/8))∧Jg (bs++[b])=L.set (bs.length/8) (Zk bs (bs.length/8)+2^(bs.length%8)*bi b):=by
 have hlen:L.length=Qq (bs.length+1):=by
  rw [hL]
  split <;> simp [bytesOf_length,Qq] <;> omega
 have hget:∀ k,k<Qq (bs.length+1)→L[k]?=some (Zk bs k):=by
  intro k hk
  rw [hL]
  split
  ·next h0=>
   by_cases hk2:k<Qq bs.length
   ·rw [List.getElem?_append_left (by rw [bytesOf_length];exact hk2),bytesOf_get bs hk2]
   ·unfold Qq at hk hk2
    rw [List.getElem?_append_right (by rw [bytesOf_length];unfold Qq;omega),bytesOf_length,byteAt_out bs k (by omega)]
    have:k-Qq bs.length=0:=by unfold Qq;omega
    rw [this];rfl
  ·next h0=>exact bytesOf_get bs (by unfold Qq at *;omega)
 refine ⟨hlen,hget _ (by unfold Qq;omega),?_⟩
 apply List.ext_getElem?
 intro k
 by_cases hk:k<Qq (bs.length+1)
 ·rw [bytesOf_get _ (by simpa using hk),byteAt_snoc,List.getElem?_set]
  split
  ·next h=>rw [if_pos h.symm,if_pos (by omega),h]
  ·next h=>rw [if_neg (by omega),hget k hk]
 ·rw [List.getElem?_eq_none (by rw [bytesOf_length];simp;omega),List.getElem?_eq_none (by rw [List.length_set];omega)]
def padN(n:Nat):Nat:=(8-n%8)%8
def Jv(bs:List Bool):List Bool:=bs++List.replicate (padN bs.length) false
theorem Jh(bs:List Bool):(Jv bs).length=8*Qq bs.length:=by simp [Jv,padN,Qq];omega
theorem valOf_zeros(n:Nat):valOf (List.replicate n false)=0:=by
 induction n with
 | zero=>rfl
 | succ n ih=>simp [List.replicate_succ,valOf,bi,ih]
theorem byteAt_aligned(bs:List Bool)(k:Nat):Zk (Jv bs) k=Zk bs k:=by
 unfold Zk Jv
 by_cases hk:8*k≤bs.length
 ·rw [List.drop_append_of_le_length hk,List.take_append,valOf_append,List.take_replicate,valOf_zeros]
  simp
 ·rw [List.drop_eq_nil_of_le (show bs.length≤8*k by omega),List.drop_eq_nil_of_le (by simp [padN];omega)]
theorem bytesOf_aligned(bs:List Bool):Jg (Jv bs)=Jg bs:=by
 unfold Jg
 rw [Jh,show Qq (8*Qq bs.length)=Qq bs.length by unfold Qq;omega]
 exact List.map_congr_left fun k _=>byteAt_aligned bs k
def bitOf(v:Int)(i:Nat):Bool:=decide (v/2^i%2=1)
theorem bi_bitOf(v:Int)(i:Nat):bi (bitOf v i)=v/2^i%2:=by
 unfold bi bitOf
 simp only [decide_eq_true_eq]
 split <;> omega
def Qj(v:Int)(n:Nat):List Bool:=(List.range n).map (bitOf v)
theorem Qd(v:Int)(n:Nat):(Qj v n).length=n:=by simp [Qj]
theorem bitsOf_succ(v:Int)(n:Nat):Qj v (n+1)=Qj v n++[bitOf v n]:=by simp [Qj,List.range_succ]
theorem valOf_bitsOf(v:Int):∀ n:Nat,valOf (Qj v n)=v%2^n
 | 0=>by simp [Qj,valOf,Int.emod_one]
 | n+1=>by
  rw [bitsOf_succ,valOf_snoc,valOf_bitsOf v n,Qd,bi_bitOf,Int.pow_succ]
  have hp:(0:Int)<2^n:=Int.pow_pos (by decide)
  obtain ⟨m,hm⟩:∃ m:Int,m=2^n:=⟨_,rfl⟩
  rw [← hm] at hp ⊢
  have h1:=Int.mul_ediv_add_emod v m
  have h2:=Int.mul_ediv_add_emod (v/m) 2
  have h3:v=m*2*(v/m/2)+(v%m+m*(v/m%2)):=by
   have e:v/m=2*(v/m/2)+v/m%2:=by omega
   have e2:m*(v/m)=m*2*(v/m/2)+m*(v/m%2):=by
    have:=congrArg (m * ·) e
    simp only [Int.mul_add,← Int.mul_assoc] at this
    exact this
   omega
  have h4:=Int.emod_nonneg v (show m≠0 by omega)
  have h5:=Int.emod_lt_of_pos v hp
  have h6:0≤m*(v/m%2)∧m*(v/m%2)≤m:=by
   rcases Int.emod_two_eq (v/m) with h | h <;> rw [h] <;> omega
  have h7:(v%m+m*(v/m%2))%(m*2)=v%m+m*(v/m%2):=Int.emod_eq_of_lt (by omega) (by
   rcases Int.emod_two_eq (v/m) with h | h <;> rw [h] <;> omega)
  rw [← h7]
  conv=>rhs;rw [h3]
  rw [Int.add_comm (m*2*_),Int.add_mul_emod_self_left]
theorem bitOf_valOf:∀ (l:List Bool) (i:Nat),bitOf (valOf l) i=l.getD i false
 | [],i=>by simp [valOf,bitOf]
 | b::t,0=>by
  cases b <;> simp [valOf,bi,bitOf] <;> omega
 | b::t,i+1=>by
  have h:=bitOf_valOf t i
  have hb:=bi_bd b
  rw [List.getD_cons_succ,← h]
  have:(bi b+2*valOf t)/2^(i+1)=valOf t/2^i:=by
   rw [Int.pow_succ,Int.mul_comm (2^i) 2,← Int.ediv_ediv_of_nonneg (by decide)]
   congr 1
   omega
  simp [bitOf,valOf,this]
end Go.Proofs.YthekdeikodppkaaGreatDoor
namespace Go.Proofs.YthekdeikodppkaaGreatDoor
open Go.RowKit Go.Maps
open Go.WideElems (Fit rg)
def mdat(P:Program)(K E:TypeId)(es:Array MapEntry):DataW Unit:=.map ((es.toList.map (rg P K (plainElem (H:=Unit) P E))).foldr DataW.insert [])
def mpi(P:Program)(K E:TypeId){α:Type}(enc:α→Value)(b n:Nat)(g:α→Int):Piece:=fun h=>
 ∃ es clock,h=[(b,.map es clock)]∧Fit P K (plainElem (H:=Unit) P E) es clock∧es.size≤n∧∀ a kl,keyOf P K (enc a)=some kl→(mdat P K E es).atKey kl (.lit (.int .i64 0))=.lit (.int .i64 (g a))
section
variable {P:Program} {K E t:TypeId} {α:Type} {enc:α→Value} {b n:Nat} {g:α→Int} {w0 w:World} {ps:List Piece}
theorem Own.mpi_open(h:Own w0 w (mpi P K E enc b n g::ps)):∃ es clock,Fit P K (plainElem (H:=Unit) P E) es clock∧es.size≤n∧(∀ a kl,keyOf P K (enc a)=some kl→(mdat P K E es).atKey kl (.lit (.int .i64 0))=.lit (.int .i64 (g a)))∧Own w0 w (blk b (.map es clock)::ps):=by
 obtain ⟨hb,x,⟨es,clock,rfl,h1,h2,h3⟩,r⟩:=h
 exact ⟨es,clock,h1,h2,h3,hb,_,rfl,r⟩
theorem Own.mpi_shut{es:Array MapEntry}{clock:Nat}(h1:Fit P K (plainElem (H:=Unit) P E) es clock)(h2:es.size≤n)(h3:∀ a kl,keyOf P K (enc a)=some kl→(mdat P K E es).atKey kl (.lit (.int .i64 0))=.lit (.int .i64 (g a)))
 (h:Own w0 w (blk b (.map es clock)::ps)):Own w0 w (mpi P K E enc b n g::ps):=by
 obtain ⟨hb,x,rfl,r⟩:=h
 exact ⟨hb,_,⟨es,clock,rfl,h1,h2,h3⟩,r⟩
theorem Own.mpi_new(h:Own w0 w ps):Own w0 (w.alloc (.map #[] 0)) (mpi P K E enc w.heap.size 0 (fun _=>0)::ps):=by
 obtain ⟨es,clock,hb,F,hs,hD⟩:=World.ownsMap_made (H:=Unit) w P K (plainElem P E)
 have hb':(w.alloc (.map #[] 0)).heap[w.heap.size]?=some (.map #[] 0):=heap_alloc_new w _
 rw [hb'] at hb
 cases hb
 refine (h.alloc (.map #[] 0)).mpi_shut F (Nat.le_refl _) fun a kl _=>?_
 unfold mdat
 rw [← hD]
 rfl
theorem mpi_lookup(h:Own w0 w (mpi P K E enc b n g::ps))(hK:Keyed P K)(ht:P.underlying t=some (.map K E))(he:P.underlying E=some (.int .i64))(hz:(zeroValue E).run P w=.ok (.int .i64 0) w)
 {a:α} {kl:Lit} (hkey:keyOf P K (enc a)=some kl):(Instr.lookup t (.map (some b)) (enc a) false).run P w=.ok (.int .i64 (g a)) w:=by
 obtain ⟨es,clock,F,hs,hg,h⟩:=h.mpi_open
 have hown:w.ownsMap P K (plainElem (H:=Unit) P E) b n (mdat P K E es):=⟨es,clock,h.block.1,F,hs,rfl⟩
 obtain ⟨c,hrun,hat,_⟩:=hown.lookup_int hK ht he hz hkey
 rw [hg a kl hkey] at hat
 cases hat
 exact hrun
variable [DecidableEq α]
theorem mpi_update(h:Own w0 w (mpi P K E enc b n g::ps))(hK:Keyed P K)(ht:P.underlying t=some (.map K E))(he:P.underlying E=some (.int .i64))(hn:n<9223372036854775807)(henc:∀ x y,enc x=enc y→x=y)
 {a:α} {kl:Lit} (hkey:keyOf P K (enc a)=some kl) {c:Int} (hc:-9223372036854775808≤c∧c≤9223372036854775807) :
 ∃ w',(Instr.mapUpdate t (.map (some b)) (enc a) (.int .i64 c)).run P w=.ok () w'∧Own w0 w' (mpi P K E enc b (n+1) (fun x=>if x=a then c else g x)::ps):=by
 obtain ⟨es,clock,F,hs,hg,h⟩:=h.mpi_open
 have hown:w.ownsMap P K (plainElem (H:=Unit) P E) b n (mdat P K E es):=⟨es,clock,h.block.1,F,hs,rfl⟩
 have hwf:(Lit.int .i64 c).wf=true:=WalkArith.wf_i64 (by omega)
 obtain ⟨w',hrun,⟨es',clock',hb',F',hs',hD⟩,hgr⟩:=hown.update hK ht (by unfold maxLen;omega) hkey (plainElem_int he hwf)
 refine ⟨w',hrun,Own.mpi_shut F' hs' (fun x kx hx=>?_) (h.turn hgr.os hgr.tape hgr.output hgr.size hb' fun k hk hne=>hgr.block k hk (by simpa using hne))⟩
 show (DataW.map _).atKey kx _=_
 rw [← hD]
 by_cases hxa:x=a
 ·subst hxa
  rw [hkey] at hx
  cases hx
  rw [if_pos rfl]
  exact atKey_put_same ⟨_,rfl⟩ (hK.key hkey) _ _
 ·rw [if_neg hxa,atKey_put_other]
  ·exact hg x kx hx
  ·rintro rfl
   exact hxa (henc _ _ (hK.inj hx hkey))
end
section
variable {P:Program} {K E t:TypeId} {α:Type} {enc:α→Value} {b n:Nat} {g:α→Int} {w0 w:World} {ps:List Piece} [DecidableEq α]
variable {ops:Array Oper} {rest:List Oper} {o:Oper} {act:Act} {Q:Exit→Act→World→Prop}
theorem wpList_update_mpi(hgd:o.guard=none)(m x v:Operand)(hop:o.op=.mapUpdate t m x v)(H:Own w0 w (mpi P K E enc b n g::ps))(hK:Keyed P K)(ht:P.underlying t=some (.map K E))(he:P.underlying E=some (.int .i64))(hn:n<9223372036854775807)(henc:∀ x y,enc x=enc y→x=y)
 (hm:act.eval m=.map (some b)) {a:α} (hx:act.eval x=enc a) {kl:Lit} (hkey:keyOf P K (enc a)=some kl) {c:Int} (hv:act.eval v=.int .i64 c) (hc:-9223372036854775808≤c∧c≤9223372036854775807)
 (h:∀ w',Own w0 w' (mpi P K E enc b (n+1) (fun x=>if x=a then c else g x)::ps)→wpList P ops Q rest (act.put o.dst undef) w'):wpList P ops Q (o::rest) act w:=by
 refine wpList_plain hgd fun K' hK'=>?_
 obtain ⟨w',hrun,h2⟩:=mpi_update H hK ht he hn henc hkey hc
 unfold Oper.wp
 simp [execOp,hop,hm,hx,hv,hrun,Result.andThen]
 exact hK' _ _ (h w' h2)
end
end Go.Proofs.YthekdeikodppkaaGreatDoor
namespace Go.Proofs.YthekdeikodppkaaGreatDoor
open Go.RowKit
section
variable {P:Program} {ops:Array Oper} {S:Sig→World→Prop} {nw:List Nat} {R:Act→Prop} {a:Act} {o:Oper} {rest:List Oper} {i:Nat}
theorem calm_value{v:Value}(hi:i ∉ nw)(hw:Region.wanted o (yielded ops a.tmps)=true)(h1:∀ σ w,S σ w→(execOp a.eval o).run P w=.ok (.value v) w)(h:calm P ops S nw R (i+1) rest (a.put o.dst v)):calm P ops S nw R i (o::rest) a:=
 calm_step v hi hw (fun σ w hS K Q hK=>by unfold Oper.wp;rw [h1 σ w hS];exact hK w hS) h
theorem calm_call{v:Value}{f:FuncId}{args:Array Value}(hi:i ∉ nw)(hw:Region.wanted o (yielded ops a.tmps)=true)(hr:∀ w,(execOp a.eval o).run P w=.ok (.enter f args) w)
 (hc:∀ σ w,S σ w→Calls P f args w fun e w'=>e=.returned v∧S σ w') (h:calm P ops S nw R (i+1) rest (a.put o.dst v)):calm P ops S nw R i (o::rest) a:=
 calm_step v hi hw (fun σ w hS K Q hK=>by
  unfold Oper.wp
  rw [hr w]
  refine (hc σ w hS).mono ?_
  rintro e w' ⟨rfl,hS'⟩
  exact hK w' hS') h
end
def newP(o:Obj):Option Value→List Piece
 | none=>[]
 | some v=>[fun h=>∃ g,v=.pointer (some ⟨g,0,none⟩)∧h=[(g,o)]]
theorem Own.skip{w0 w:World}{qs ps:List Piece}(h:Own w0 w (qs++ps)):Own w0 w ps:=by
 induction qs with
 | nil=>exact h
 | cons q qs ih=>exact ih h.drop
section
variable {P:Program} {ops:Array Oper} {nw:List Nat} {R:Act→Prop} {a:Act} {o:Oper} {rest:List Oper} {i:Nat} {w0:World} {ps:List Piece}
def newR(o:Obj)(n:Nat):Option Value→List Piece
 | none=>[]
 | some v=>[fun h=>∃ g,v=.slice (some ⟨g,0,none⟩) n n∧h=[(g,o)]]
theorem Own.newr{w0 w:World}{o:Obj}{n:Nat}{v:Value}{ps:List Piece}(h:Own w0 w (newR o n (some v)++ps)):∃ g,v=.slice (some ⟨g,0,none⟩) n n∧Own w0 w (blk g o::ps):=by
 obtain ⟨hb,x,⟨g,hv,hx⟩,r⟩:=h
 exact ⟨g,hv,hb,x,hx,r⟩
theorem calm_row{obj:Obj}{n:Nat}(hi:i∈nw)(hr:∀ w,(execOp a.eval o).run P w=.ok (.value (.slice (some ⟨w.heap.size,0,none⟩) n n)) (w.alloc obj))
 (h:calm P ops (fun σ w=>Own w0 w (newR obj n (σ i)++ps)) nw R (i+1) rest a):calm P ops (fun σ w=>Own w0 w (newR obj n (σ i)++ps)) nw R i (o::rest) a:=
 calm_new hi (fun σ w hS K Q hK=>by
  unfold Oper.wp
  rw [hr w]
  refine hK _ _ ?_
  have hs:(σ.upd i (.slice (some ⟨w.heap.size,0,none⟩) n n)) i=some (.slice (some ⟨w.heap.size,0,none⟩) n n):=by simp [Sig.upd]
  show Own w0 _ (newR obj n ((σ.upd i _) i)++ps)
  rw [hs]
  exact (hS.skip.alloc obj).imp fun x hx=>⟨_,rfl,hx⟩) h
end
noncomputable section
def PartsR(F:Funs)(e:Env):List (Nat × AV)→List (Nat × Value)→Prop
 | [],l=>l=[]
 | p::ps,l=>∃ v l',l=(p.1,v)::l'∧VR F e p.2 v∧PartsR F e ps l'
section
variable {F:Funs} {e:Env} {P:Program} {ρ:Operand→Value} {ev:Ev}
theorem put_fold:∀ (xs:List AV) (vs:List Value) (k:Nat) (cs:List AV) (c:Array Value) (off:Nat),VRs F e xs vs→VRs F e cs c.toList →
 VRs F e (putAt cs (off+k) xs) ((vs.zipIdx k).foldl (fun cs (p:Value × Nat)=>cs.setIfInBounds (off+p.2) p.1) c).toList
 | [],vs,k,cs,c,off,hx,hc=>by rw [show vs=[] from hx];exact hc
 | x::xs,vs,k,cs,c,off,hx,hc=>by
  obtain ⟨v,l',rfl,h1,h2⟩:=hx
  simp only [List.zipIdx_cons,List.foldl_cons,putAt]
  have:=put_fold xs l' (k+1) (cs.set (off+k) x) (c.setIfInBounds (off+k) v) off h2 (by rw [Array.toList_setIfInBounds];exact VRs.set _ _ _ _ _ hc h1)
  rw [← Nat.add_assoc] at this
  exact this
theorem aFill_run{place:Nat→Option (Nat × Nat)}:∀ {parts:List (Nat × AV)} {ps:List (Nat × Value)} {cs r:List AV} {c:Array Value},PartsR F e parts ps→VRs F e cs c.toList→aFill place cs parts=some r →
 ∃ c',Instr.fill place c ps=some c'∧VRs F e r c'.toList
 | [],ps,cs,r,c,hp,hc,h=>by
  rw [show ps=[] from hp]
  simp only [aFill,Option.some.injEq] at h
  subst h
  exact ⟨c,rfl,hc⟩
 | (i,x)::parts,ps,cs,r,c,hp,hc,h=>by
   obtain ⟨v,l',rfl,h1,h2⟩:=hp
   unfold aFill at h
   cases hpl:place i with
   | none=>rw [hpl] at h;cases h
   | some q=>
    obtain ⟨off,size⟩:=q
    rw [hpl] at h
    dsimp only at h
    split at h
    ·rename_i hk
     have hcs:=h1.cells
     have hl:=VRs.length _ _ hcs
     have hlc:=VRs.length _ _ hc
     simp only [Array.length_toList] at hl hlc
     obtain ⟨c',g1,g2⟩:=aFill_run (c:=(v.cells.zipIdx.foldl (fun cs (c,j)=>cs.setIfInBounds (off+j) c) c)) h2 (by
      rw [← Array.foldl_toList,Array.toList_zipIdx]
      exact put_fold x.cells v.cells.toList 0 cs c off hcs hc) h
     refine ⟨c',?_,g2⟩
     unfold Instr.fill
     rw [hpl]
     dsimp only
     rw [if_neg (by simp only [Bool.or_eq_true,decide_eq_true_eq,ne_eq];omega)]
     exact g1
    ·cases h
theorem partsR(hev:EvR F e ev ρ):∀ l:List (Nat × Operand),PartsR F e (l.map fun p=>(p.1,ev p.2)) (l.map fun p=>(p.1,ρ p.2))
 | []=>rfl
 | p::l=>⟨_,_,rfl,hev p.2,partsR hev l⟩
theorem places_eq:∀ {fs:List Field} {pl:List (Nat × Nat)},aPlaces P fs=some pl→fs.mapM (fun f=>(P.info? f.type).map fun i=>(f.offset,i.size))=some pl:=by
 intro fs pl h
 unfold aPlaces at h
 rw [← h]
 congr 1
 funext f
 cases hi:P.info? f.type <;> simp [szT,hi]
theorem aBuild_run{t:TypeId}{parts:List (Nat × AV)}{ps:List (Nat × Value)}{x:AV}(hp:PartsR F e parts ps)(h:aBuild P t parts=some x):∃ c,P.built t ps=some c∧VR F e x (.agg c):=by
 unfold aBuild at h
 cases hi:P.info? t with
 | none=>simp [zeroT,hi] at h
 | some i=>
  cases hz:i.zero with
  | none=>simp [zeroT,hi,hz] at h
  | some z=>
   have hc:VRs F e (ofVal z).cells z.cells.toList:=(vr_ofVal F e z).cells
   simp only [zeroT,hi,hz,Option.bind_some,Option.map_some] at h
   split at h
   ·rename_i fs hu
    split at h
    ·rename_i pl hpl
     simp only [Option.map_eq_some_iff] at h
     obtain ⟨r,hr,rfl⟩:=h
     obtain ⟨c',g1,g2⟩:=aFill_run hp hc hr
     refine ⟨c',?_,c'.toList,by simp,g2⟩
     simp only [Program.built,hi,hu,hz,places_eq hpl]
     rw [← g1]
     congr 1
     funext j
     simp
    ·cases h
   ·rename_i n elem hu
    split at h
    ·rename_i m hm
     simp only [Option.map_eq_some_iff] at h
     obtain ⟨r,hr,rfl⟩:=h
     obtain ⟨c',g1,g2⟩:=aFill_run hp hc hr
     refine ⟨c',?_,c'.toList,by simp,g2⟩
     unfold szT at hm
     cases hie:P.info? elem with
     | none=>rw [hie] at hm;cases hm
     | some ie=>
      rw [hie] at hm;cases hm
      simp only [Program.built,hi,hu,hz,hie]
      exact g1
    ·cases h
   ·cases h
end
end
noncomputable section
section
variable {F:Funs} {e:Env} {P:Program} {ρ:Operand→Value} {ev:Ev}
theorem bound_run{lim lim' d n:Nat}{x:Option Operand}(hev:EvR F e ev ρ)(h:aBd d lim (x.map ev)=some n)(hl:lim≤lim')(code:BoundsCode)(w:World) :
 match x with
 | none=>n=d
 | some o=>(Instr.sliceBound (ρ o) lim' code).run P w=.ok n w∧n≤lim:=by
 cases x with
 | none=>simp only [Option.map_none,aBd,Option.some.injEq] at h;exact h.symm
 | some o=>
  simp only [Option.map_some] at h
  unfold aBd at h
  split at h
  ·rename_i heq;cases heq
  ·rename_i k i heq
   simp only [Option.some.injEq] at heq
   split at h
   ·rename_i hi
    cases h
    have:=hev o
    rw [heq] at this
    have hv:ρ o=.int k i:=this
    refine ⟨?_,by omega⟩
    simp only [Instr.sliceBound,asIntOf,hv,Sem.run_bind,Sem.run_pure,Result.andThen_ok]
    rw [if_pos (by omega)]
    rfl
   ·cases h
  ·cases h
theorem bounds_run{lim lim' len h l:Nat}{lo hi:Option Operand}(hev:EvR F e ev ρ)(hh:aBd len lim (hi.map ev)=some h)(hlo:aBd 0 h (lo.map ev)=some l)(hle:lim≤lim')(hlen:len≤lim)(isS:Bool)(w:World) :
 (Instr.sliceBounds isS len lim' (lo.map ρ) (hi.map ρ) none).run P w=.ok (l,h,lim') w∧h≤lim∧l≤h:=by
 have h1:=fun c=>bound_run (P:=P) (ρ:=ρ) hev hh hle c w
 have h2:=fun c=>bound_run (P:=P) (ρ:=ρ) hev hlo (Nat.le_refl _) c w
 cases hi <;> cases lo <;> simp only at h1 h2
 ·have e1:=h1 .index;have e2:=h2 .index;subst e1;subst e2
  exact ⟨by simp [Instr.sliceBounds],hlen,Nat.zero_le _⟩
 ·have e1:=h1 .index;subst e1
  exact ⟨by simp [Instr.sliceBounds,(h2 _).1],hlen,(h2 .index).2⟩
 ·have e2:=h2 .index;subst e2
  exact ⟨by simp [Instr.sliceBounds,(h1 _).1],(h1 .index).2,Nat.zero_le _⟩
 ·exact ⟨by simp [Instr.sliceBounds,(h1 _).1,(h2 _).1],(h1 .index).2,(h2 .index).2⟩
theorem cut_bytes(l:List UInt8)(a b:Nat):(Qb l).extract a b=Qb ((l.take b).drop a):=by
 apply ByteArray.ext
 simp only [Qb,ByteArray.data_extract]
 apply Array.ext'
 simp [List.drop_take]
theorem add_if(B k m l s:Nat):(if m=l then (⟨B,k,none⟩:Addr) else (⟨B,k,none⟩:Addr).add (l*s))=⟨B,if m=l then k else k+l*s,none⟩:=by
 split
 ·rfl
 ·rw [add_off]
theorem iLt_eq(a b:Int):iLt a b=decide (a<b):=by
 unfold iLt
 split
 ·rename_i x y
  by_cases h:x<y
  ·rw [show Nat.blt x y=true by simpa using h];simp;omega
  ·rw [show Nat.blt x y=false by rw [Bool.eq_false_iff];simpa using h];simp;omega
 ·rfl
theorem iEq_eq(a b:Int):iEq a b=decide (a=b):=by
 unfold iEq
 split
 ·rename_i x y
  by_cases h:x=y
  ·subst h;simp
  ·rw [show Nat.beq x y=false by rw [Bool.eq_false_iff];simpa using h];simp;omega
 ·rfl
theorem aWrap_eq(k:IntKind)(n:Int):aWrap k n=k.wrap n:=by
 unfold aWrap
 split
 ·rename_i m
  split
  ·rename_i h
   have h:m<9223372036854775808:=by simpa using h
   have e:(Int.ofNat m)%(2^IntKind.i64.bits:Int)=Int.ofNat m:=Int.emod_eq_of_lt (by simp) (by
    show _<(18446744073709551616:Int)
    simp only [Int.ofNat_eq_natCast];omega)
   unfold IntKind.wrap
   simp only [e]
   rw [if_neg]
   show ¬ ((true&&decide ((Int.ofNat m)≥(9223372036854775808:Int)))=true)
   simp
   omega
  ·rfl
 ·rfl
theorem aBin_run{op:BinOp}{x y:AV}{u v:Value}{r:AV}(hx:VR F e x u)(hy:VR F e y v)(h:aBin op x y=some r)(o1 o2:Operand)(t:TypeId)(w:World) :
 ∃ z,(eqGuard op t o1 o2 u v).run P w=.ok () w∧(binOp op t u v).run P w=.ok z w∧VR F e r z:=by
 unfold aBin at h
 split at h
 ·rename_i k a k' b
  have e1:u=.int k a:=hx
  have e2:v=.int k' b:=hy
  subst e1;subst e2
  split at h
  ·rename_i hk
   have hk:k=k':=by simpa using hk
   subst hk
   cases op <;> simp only [aInt,Option.some.injEq] at h <;> first
    | (cases h;done)
    | (subst h;exact ⟨_,by simp [eqGuard],by simp only [binOp,Op.intArith,Op.intCmp,ne_eq,not_true_eq_false,if_false,Sem.run_pure];rfl,by simp [VR,aWrap_eq,iLt_eq,iEq_eq] <;> first | rfl | (rw [← decide_not];congr 1;exact propext Int.not_lt.symm)⟩)
  ·cases h
 ·cases h
theorem aPure_gives{o:Oper}{x:AV}(hev:EvR F e ev ρ)(h:aPure P ev o=some x):Gives F e P ρ o x:=by
 obtain ⟨dst,op,type,pos,after,guard⟩:=o
 intro w
 cases op
 case move y=>simp only [aPure,Option.some.injEq] at h;subst h;exact ⟨ρ y,by simp [execOp],hev y⟩
 case assign y=>simp only [aPure,Option.some.injEq] at h;subst h;exact ⟨ρ y,by simp [execOp],hev y⟩
 case pick c a b=>
  simp only [aPure,pPick] at h
  have:=hev c
  split at h
  ·rename_i hc;cases h;rw [hc] at this;have hv:ρ c=.bool true:=this
   exact ⟨ρ a,by simp [execOp,hv,asBool],hev a⟩
  ·rename_i hc;cases h;rw [hc] at this;have hv:ρ c=.bool false:=this
   exact ⟨ρ b,by simp [execOp,hv,asBool],hev b⟩
  ·cases h
 case nilCheck y=>
  simp only [aPure,pNil] at h
  have:=hev y
  split at h
  ·rename_i hc;cases h;rw [hc] at this
   have h':=this
   obtain ⟨B,k,n,hb,hv⟩:=this
   exact ⟨ρ y,by simp [execOp,hv],h'⟩
  ·rename_i hc;cases h;rw [hc] at this
   have h':=this
   obtain ⟨a,b,hv,_,_⟩:=this
   exact ⟨ρ y,by simp [execOp,hv],h'⟩
  ·cases h
 case makeFunc f a b=>
  simp only [aPure,Option.some.injEq] at h;subst h
  exact ⟨.func f (a.map ρ) (b.map ρ),by simp [execOp,Instr.makeFunc],a.toList.map ρ,b.toList.map ρ,by simp [← Array.toList_map],vrs_evs hev _,vrs_evs hev _⟩
 case extract y i=>
  simp only [aPure,pExtract] at h
  have:=hev y
  split at h
  ·rename_i vs hc;rw [hc] at this
   obtain ⟨a,hv,hs⟩:=this
   obtain ⟨v,h1,h2⟩:=VRs.get _ _ _ _ hs h
   exact ⟨v,by simp [execOp,hv,Instr.extract,h1],h2⟩
  ·rename_i vs hc;rw [hc] at this
   have hv:ρ y=.tuple vs:=this
   simp only [Option.map_eq_some_iff] at h
   obtain ⟨v,h1,rfl⟩:=h
   exact ⟨v,by simp [execOp,hv,Instr.extract,h1],vr_ofVal2 F e v⟩
  ·cases h
 case fieldAddr s y f=>
  simp only [aPure,pFieldAddr] at h
  have:=hev y
  split at h
  ·rename_i b n fd hc hf;rw [hc] at this
   obtain ⟨B,k,m,hb,hv⟩:=this
   split at h
   ·rename_i sz hs
    cases h
    unfold aFieldOf at hf
    split at hf
    ·rename_i fs hu
     refine ⟨.pointer (some ⟨B,k+n+fd.offset,none⟩),by simp [execOp,hv,Instr.fieldAt,Instr.sureAddr,run_underlying hu,hf,fieldPlace,Zq hs,add_off],B,k,m,hb,?_⟩
     rw [Nat.add_assoc]
    ·cases hf
   ·cases h
  ·cases h
 case field s y f=>
  simp only [aPure,pField] at h
  have:=hev y
  split at h
  ·rename_i fd hf
   split at h
   ·rename_i cs hc;rw [hc] at this
    obtain ⟨a,hv,hs⟩:=this
    obtain ⟨v,h1,h2⟩:=aPart_run w hs h
    unfold aFieldOf at hf
    split at hf
    ·rename_i fs hu
     exact ⟨v,by simp [execOp,hv,Instr.field,run_underlying hu,hf,asAgg,h1],h2⟩
    ·cases hf
   ·cases h
  ·cases h
 case indexAddr t y i=>
  simp only [aPure,pIndexAddr] at h
  have h1:=hev y
  have h2:=hev i
  split at h
  ·rename_i b n len cap es q k elem hc hi hu
   rw [hc] at h1;rw [hi] at h2
   obtain ⟨B,k',m,c',o',hb,hv,ho,hlc,hcc,hn,hm⟩:=h1
   have hv2:ρ i=.int q k:=h2
   split at h
   ·rename_i hk
    cases h
    obtain ⟨hk1,hk2,hk3⟩:=hk
    refine ⟨.pointer (some ⟨B,o'+k.toNat*es,none⟩),by simp [execOp,hv,hv2,Instr.indexAt,asIntOf,run_underlying hu,hk1,hk2,Zq hk3,add_off],B,k',m,hb,?_⟩
    rcases ho with rfl | hz
    ·rw [Nat.add_assoc]
    ·omega
   ·cases h
  ·rename_i b n q k len elem hc hi hu
   rw [hc] at h1;rw [hi] at h2
   obtain ⟨B,k',m,hb,hv⟩:=h1
   have hv2:ρ i=.int q k:=h2
   split at h
   ·rename_i es hs
    split at h
    ·rename_i hk
     cases h
     exact ⟨.pointer (some ⟨B,k'+n+k.toNat*es,none⟩),by simp [execOp,hv,hv2,Instr.indexAt,Instr.sureAddr,asIntOf,run_underlying hu,hk.1,hk.2,Zq hs,add_off],B,k',m,hb,by rw [Nat.add_assoc]⟩
    ·cases h
   ·cases h
  ·cases h
 case index t y i=>
  simp only [aPure,pIndex] at h
  split at h
  ·rename_i cs q k len elem hc hi hu
   have h1:=hev y
   have h2:=hev i
   rw [hc] at h1;rw [hi] at h2
   obtain ⟨a,hv,hs⟩:=h1
   have hv2:ρ i=.int q k:=h2
   split at h
   ·rename_i es hsz
    split at h
    ·rename_i hk
     obtain ⟨v,g1,g2⟩:=aPart_run w hs h
     exact ⟨v,by simp [execOp,hv,hv2,Instr.index,asIntOf,run_underlying hu,hk.1,hk.2,Zq hsz,g1],g2⟩
    ·cases h
   ·cases h
  ·exact Zt hev h w
 case slice t y lo hi mx=>
  cases mx with
  | some mx=>
   simp only [aPure] at h
   have h1:=hev y
   unfold pSlice3 at h
   split at h
   ·rename_i b n len cap es elem hv' hc hu hhi
    rw [hc] at h1
    obtain ⟨B,k',m,c',o',hb,hv,ho,hlc,hcc,hn,hm⟩:=h1
    split at h
    ·rename_i mm hmm
     split at h
     ·rename_i hh hhh
      split at h
      ·rename_i l hl
       split at h
       ·rename_i hs
        cases h
        cases hi with
        | none=>simp at hhi
        | some hiO=>
        simp only [Option.map_some,Option.some.injEq] at hhi
        subst hhi
        obtain ⟨r1,r2⟩:=bound_run (P:=P) (ρ:=ρ) (x:=some mx) hev (by simpa using hmm) hcc .slice3Acap w
        obtain ⟨r3,r4⟩:=bound_run (P:=P) (ρ:=ρ) (x:=some hiO) hev (by simpa using hhh) (Nat.le_refl _) .slice3B w
        have r5:=bound_run (P:=P) (ρ:=ρ) (x:=lo) hev hl (Nat.le_refl _) .slice3C w
        have hlh:l≤hh∧(Instr.sliceBounds true len c' (lo.map ρ) (some (ρ hiO)) (some (ρ mx))).run P w=.ok (l,hh,mm) w:=by
         cases lo with
         | none=>
          simp only at r5
          subst r5
          exact ⟨Nat.zero_le _,by simp [Instr.sliceBounds,r1,r3]⟩
         | some loO=>
          simp only at r5
          exact ⟨r5.2,by simp [Instr.sliceBounds,r1,r3,r5.1]⟩
        obtain ⟨hlh,g1⟩:=hlh
        refine ⟨.slice (some ⟨B,if mm=l then o' else o'+l*es,none⟩) (hh-l) (mm-l),?_,B,k',m,mm-l,_,hb,rfl,?_,by omega,by omega,?_,by omega⟩
        ·simp only [execOp,Instr.sliceAt,Instr.slice,Sem.run_bind,run_underlying hu,Result.andThen_ok,hv,Zq hs,Sem.run_pure]
         simp only [Option.map_some,add_off,g1,Result.andThen_ok]
         split <;> rfl
        ·by_cases hcl:mm=l
         ·right;omega
         ·rw [if_neg hcl]
          rcases ho with rfl | hz
          ·left;omega
          ·right;omega
        ·by_cases hcl:mm=l
         ·rw [if_pos hcl,hcl,Nat.sub_self,Nat.zero_mul];omega
         ·rw [if_neg hcl]
          have e1:l*es+(mm-l)*es=mm*es:=by rw [← Nat.add_mul];congr 1;omega
          have e2:mm*es≤c'*es:=Nat.mul_le_mul_right _ (by omega)
          omega
       ·cases h
      ·cases h
     ·cases h
    ·cases h
   ·exact Zt hev h w
  | none=>
  simp only [aPure,pSlice] at h
  have h1:=hev y
  split at h
  ·rename_i s hc hu
   rw [hc] at h1
   split at h
   ·rename_i b hb
    split at h
    ·rename_i a ha
     cases h
     have hl:=Zh h1.1
     obtain ⟨g1,g2,g3⟩:=bounds_run (P:=P) hev hb ha (Nat.le_refl _) (Nat.le_refl _) false w
     have k1:=ttake_ok (n:=b) h1.1
     have k2:=tdrop_ok (n:=a) k1.1
     refine ⟨.string (Qb (den F e (tdrop a (ttake b s)))),?_,k2.1,rfl⟩
     have hsz:(Qb (den F e s)).size=tlen s:=by rw [← hl];simp [Qb,ByteArray.size]
     simp [execOp,h1.2,Instr.sliceAt,Instr.slice,run_underlying hu,hsz,g1,cut_bytes,k2.2,k1.2]
    ·cases h
   ·cases h
  ·rename_i b n len cap es elem hc hu
   rw [hc] at h1
   obtain ⟨B,k',m,c',o',hb,hv,ho,hlc,hcc,hn,hm⟩:=h1
   split at h
   ·rename_i hh hb2
    split at h
    ·rename_i l hl
     split at h
     ·rename_i hs
      cases h
      obtain ⟨g1,g2,g3⟩:=bounds_run (P:=P) hev hb2 hl hcc hlc true w
      refine ⟨.slice (some ⟨B,if c'=l then o' else o'+l*es,none⟩) (hh-l) (c'-l),?_,B,k',m,c'-l,_,hb,rfl,?_,by omega,by omega,?_,by omega⟩
      ·simp only [execOp,Instr.sliceAt,Instr.slice,Sem.run_bind,run_underlying hu,Result.andThen_ok,hv,Zq hs,Sem.run_pure]
       simp only [Option.map_some,Option.map_none,add_off,g1,Result.andThen_ok]
       split <;> rfl
      ·by_cases hcl:c'=l
       ·right;omega
       ·rw [if_neg hcl]
        rcases ho with rfl | hz
        ·left;omega
        ·right;omega
      ·by_cases hcl:c'=l
       ·rw [if_pos hcl,hcl,Nat.sub_self,Nat.zero_mul];omega
       ·rw [if_neg hcl]
        have:l*es+(c'-l)*es=c'*es:=by rw [← Nat.add_mul];congr 1;omega
        omega
     ·cases h
    ·cases h
   ·cases h
  ·exact Zt hev h w
  ·cases h
 case build t parts=>
  simp only [aPure] at h
  obtain ⟨c,h1,h2⟩:=aBuild_run (partsR hev parts.toList) h
  exact ⟨.agg c,by simp only [execOp,Sem.run_bind,Sem.run_pure];rw [run_build w t _ c (by simpa using h1)];rfl,h2⟩
 case binOp op t y z t'=>
  simp only [aPure,pBin] at h
  split at h
  ·rename_i v hv
   cases h
   obtain ⟨z',g1,g2,g3⟩:=aBin_run (P:=P) (hev y) (hev z) hv y z t w
   exact ⟨z',by simp [execOp,g1,g2],g3⟩
  split at h
  ·rename_i v hv
   cases h
   exact Zt hev hv w
  ·split at h
   ·simp only [Option.map_eq_some_iff] at h
    obtain ⟨b,hb,rfl⟩:=h
    obtain ⟨g1,g2,g3⟩:=aEq_run (P:=P) (hev y) (hev z) hb y z w
    exact ⟨.bool b,by simp [execOp,g1,g2],rfl⟩
   ·simp only [Option.map_eq_some_iff] at h
    obtain ⟨b,hb,rfl⟩:=h
    obtain ⟨g1,g2,g3⟩:=aEq_run (P:=P) (hev y) (hev z) hb y z w
    exact ⟨.bool (!b),by simp [execOp,g1,g3],rfl⟩
   ·have h1:=hev y
    have h2:=hev z
    split at h
    ·rename_i a b ha hb
     rw [ha] at h1;rw [hb] at h2
     split at h
     ·rename_i hl
      cases h
      have k:=tcat_ok h1.1 h2.1
      refine ⟨.string (Qb (den F e (tcat a b))),?_,k.1,rfl⟩
      have s1:(Qb (den F e a)).size=tlen a:=by rw [← Zh h1.1];simp [Qb,ByteArray.size]
      have s2:(Qb (den F e b)).size=tlen b:=by rw [← Zh h2.1];simp [Qb,ByteArray.size]
      have s3:Qb (den F e a)++Qb (den F e b)=Qb (den F e (tcat a b)):=by
       rw [k.2];apply ByteArray.ext;simp [Qb,ByteArray.data_append]
      have s4:¬ (((tlen a+tlen b:Nat):Int)>IntKind.i64.max):=by
       have:IntKind.i64.max=9223372036854775807:=by rfl
       rw [this];omega
      simp only [execOp,eqGuard,h1.2,h2.2,binOp,Op.stringOp,s1,s2,if_neg s4,s3]
      simp
     ·cases h
    ·cases h
   ·cases h
 case unOp op t y=>
  simp only [aPure,pNot] at h
  have h1:=hev y
  split at h
  ·rename_i hc;cases h;rw [hc] at h1;have hv:ρ y=.bool true:=h1
   exact ⟨.bool false,by simp [execOp,hv,Op.unary],rfl⟩
  ·rename_i hc;cases h;rw [hc] at h1;have hv:ρ y=.bool false:=h1
   exact ⟨.bool true,by simp [execOp,hv,Op.unary],rfl⟩
  ·exact Zt hev h w
 case call c=>
  obtain ⟨callee,args,ts⟩:=c
  simp only [aPure,pCall] at h
  split at h
  ·split at h
   ·rename_i y hy
    unfold pLen at h
    have h1:=hev y
    split at h
    ·rename_i t ht
     split at h
     ·rename_i s hu hc
      cases h
      rw [hc] at h1
      have hsz:(Qb (den F e s)).size=tlen s:=by rw [← Zh h1.1];simp [Qb,ByteArray.size]
      exact ⟨.int .i64 (tlen s),by simp [execOp,resolve,invoke,builtin,Builtin.len_,ht,hy,run_underlying hu,h1.2,goInt,hsz],rfl⟩
     ·rename_i el b o n cap es hu hc
      cases h
      rw [hc] at h1
      obtain ⟨B,k',m,c',o',hb,hv,_⟩:=h1
      exact ⟨.int .i64 n,by simp [execOp,resolve,invoke,builtin,Builtin.len_,ht,hy,run_underlying hu,hv,goInt],rfl⟩
     ·rename_i n el hu
      cases h
      exact ⟨.int .i64 n,by simp [execOp,resolve,invoke,builtin,Builtin.len_,ht,hy,run_underlying hu,goInt],rfl⟩
     ·rename_i el a n c hu hc
      cases h
      rw [hc] at h1
      have hv:ρ y=.slice a n c:=h1
      exact ⟨.int .i64 n,by simp [execOp,resolve,invoke,builtin,Builtin.len_,ht,hy,run_underlying hu,hv,goInt],rfl⟩
     ·cases h
    ·cases h
   ·cases h
  ·exact Zt hev h w
 case convert s d y=>
  simp only [aPure,pConv] at h
  split at h
  ·rename_i t hc hs hd
   cases h
   have h1:=hev y
   rw [hc] at h1
   exact ⟨.string (Qb (den F e t)),by simp [execOp,convert,run_underlying hs,run_underlying hd,h1.2],h1.1,rfl⟩
  ·exact Zt hev h w
 all_goals exact Zt hev h w
end
end
end Go.Proofs.YthekdeikodppkaaGreatDoor
namespace Go.Proofs.YthekdeikodppkaaGreatDoor.Trk
open Go.RowKit
def trk(tw:List Nat)(i:Nat)(v:Value)(σ:Sig):Sig:=if i∈tw then σ.upd i v else σ
def Calm1(P:Program)(S:Sig→World→Prop)(tw:List Nat)(i:Nat)(o:Oper)(a:Act)(v:Value):Prop:=
 ∀ σ w,S σ w→(i∈tw→σ i=none)→∀ (K:Act→World→Prop) (Q:Exit→Act→World→Prop),(∀ w',S (trk tw i v σ) w'→K (a.put o.dst v) w')→o.wp P a w K Q
def calm(P:Program)(ops:Array Oper)(S:Sig→World→Prop)(nw tw:List Nat)(R:Act→Prop):Nat→List Oper→Act→Prop
 | _,[],a=>R a
 | i,o::rest,a=>(i∈nw∧New1 P S i o a∧calm P ops S nw tw R (i+1) rest a) ∨
  (i ∉ nw∧Region.wanted o (yielded ops a.tmps)=true∧∃ v,Calm1 P S tw i o a v∧calm P ops S nw tw R (i+1) rest (a.put o.dst v)) ∨
  (i ∉ nw∧Region.wanted o (yielded ops a.tmps)=false∧calm P ops S nw tw R (i+1) rest (a.put o.dst undef))
section
variable {P:Program} {ops:Array Oper} {S:Sig→World→Prop} {nw tw:List Nat} {R:Act→Prop} {a:Act} {o:Oper} {rest:List Oper} {i:Nat}
theorem calm_nil(h:R a):calm P ops S nw tw R i [] a:=h
theorem calm_step(v:Value)(hi:i ∉ nw)(hw:Region.wanted o (yielded ops a.tmps)=true)
 (h1:∀ σ w,S σ w→(i∈tw→σ i=none)→∀ (K:Act→World→Prop) (Q:Exit→Act→World→Prop),(∀ w',S (trk tw i v σ) w'→K (a.put o.dst v) w')→o.wp P a w K Q) (h:calm P ops S nw tw R (i+1) rest (a.put o.dst v)):calm P ops S nw tw R i (o::rest) a:=.inr (.inl ⟨hi,hw,v,h1,h⟩)
theorem calm_skip(hi:i ∉ nw)(hw:Region.wanted o (yielded ops a.tmps)=false)
 (h:calm P ops S nw tw R (i+1) rest (a.put o.dst undef)):calm P ops S nw tw R i (o::rest) a:=.inr (.inr ⟨hi,hw,h⟩)
theorem calm_new(hi:i∈nw)
 (h1:∀ σ w,S σ w→∀ (K:Act→World→Prop) (Q:Exit→Act→World→Prop),(∀ v w',S (σ.upd i v) w'→K (a.put o.dst v) w')→o.wp P a w K Q) (h:calm P ops S nw tw R (i+1) rest a):calm P ops S nw tw R i (o::rest) a:=.inl ⟨hi,h1,h⟩
end
section
variable {P:Program} {ops:Array Oper} {S:Sig→World→Prop} {nw tw:List Nat}
theorem calm_frames{R:Act→Prop}:∀ (l:List Oper) (i:Nat) (a:Act),calm P ops S nw tw R i l a →
 ∃ vs:List Value,vs.length=l.length∧R (Qs ((dets nw i l).zip vs) a) ∧
  ∀ k o,l[k]?=some o→∃ v,vs[k]?=some v ∧
   ((i+k∈nw∧New1 P S (i+k) o (Qs (((dets nw i l).zip vs).take k) a)) ∨
    (i+k ∉ nw∧Region.wanted o (yielded ops (Qs (((dets nw i l).zip vs).take k) a).tmps)=true∧Calm1 P S tw (i+k) o (Qs (((dets nw i l).zip vs).take k) a) v) ∨
    (i+k ∉ nw∧Region.wanted o (yielded ops (Qs (((dets nw i l).zip vs).take k) a).tmps)=false∧v=undef)):=by
 intro l
 induction l with
 | nil=>intro i a h;exact ⟨[],rfl,h,fun k o hk=>by simp at hk⟩
 | cons o l ih=>
  intro i a h
  have step:∀ (v:Value) (a':Act),a'=a.put (if i∈nw then none else o.dst) v→calm P ops S nw tw R (i+1) l a' →
   ((i∈nw∧New1 P S i o a)∨(i ∉ nw∧Region.wanted o (yielded ops a.tmps)=true∧Calm1 P S tw i o a v)∨(i ∉ nw∧Region.wanted o (yielded ops a.tmps)=false∧v=undef))→∃ vs:List Value,vs.length=(o::l).length∧R (Qs ((dets nw i (o::l)).zip vs) a) ∧
   ∀ k o',(o::l)[k]?=some o'→∃ v,vs[k]?=some v ∧
    ((i+k∈nw∧New1 P S (i+k) o' (Qs (((dets nw i (o::l)).zip vs).take k) a)) ∨
     (i+k ∉ nw∧Region.wanted o' (yielded ops (Qs (((dets nw i (o::l)).zip vs).take k) a).tmps)=true∧Calm1 P S tw (i+k) o' (Qs (((dets nw i (o::l)).zip vs).take k) a) v) ∨
     (i+k ∉ nw∧Region.wanted o' (yielded ops (Qs (((dets nw i (o::l)).zip vs).take k) a).tmps)=false∧v=undef)):=by
   intro v a' ha hc h0
   obtain ⟨vs,hl,hR,hk⟩:=ih _ _ hc
   refine ⟨v::vs,by simp [hl],by rw [ha] at hR;exact hR,fun k o' hk'=>?_⟩
   cases k with
   | zero=>simp at hk';subst hk';exact ⟨v,rfl,h0⟩
   | succ k=>
    have:=hk k o' (by simpa using hk')
    rw [ha,show i+1+k=i+(k+1) by omega] at this
    exact this
  rcases h with ⟨hi,h1,h2⟩ | ⟨hi,hw,v,h1,h2⟩ | ⟨hi,hw,h2⟩
  ·exact step undef a (by rw [if_pos hi];rfl) h2 (.inl ⟨hi,h1⟩)
  ·exact step v _ (by rw [if_neg hi]) h2 (.inr (.inl ⟨hi,hw,h1⟩))
  ·exact step undef _ (by rw [if_neg hi]) h2 (.inr (.inr ⟨hi,hw,rfl⟩))
theorem Calm1.at{tw:List Nat}{i:Nat}{o:Oper}{a a':Act}{v:Value}(h:Calm1 P S tw i o a v)(he:execOp a'.eval o=execOp a.eval o)(hs:a.tmps.size=a'.tmps.size){σ:Sig}{w:World}(hw:S σ w)(hfr:i∈tw→σ i=none)
 (K:Act→World→Prop) (Q:Exit→Act→World→Prop) (hK:∀ w',S (trk tw i v σ) w'→K (a'.put o.dst v) w'):o.wp P a' w K Q:=by
 have h1:=h σ w hw hfr (fun a1 w1=>a1=a.put o.dst v∧S (trk tw i v σ) w1) (fun _ _ _=>False) (fun w' hw'=>⟨rfl,hw'⟩)
 unfold Oper.wp at *
 rw [he]
 generalize (execOp a.eval o).run P w=r at *
 cases r with
 | ok n w'=>
  cases n <;> simp only [Oper.upon] at h1 ⊢
  case value u=>rw [put_eq hs h1.1];exact hK _ h1.2
  case skip=>rw [put_eq hs h1.1];exact hK _ h1.2
  case defer d=>
   have:=congrArg (fun x=>x.defers.length) h1.1
   cases hd:o.dst <;> simp [Act.put,hd] at this
  case enter f args=>
   refine Calls.mono h1 fun e w'' he=>?_
   cases e with
   | returned u=>
    show K (a'.put o.dst u) w''
    rw [put_eq hs he.1];exact hK _ he.2
   | panicked c=>exact he.elim
   | outgrown=>obtain ⟨_,_,hh⟩:=he;exact hh.elim
  case row row args=>exact Rows.mono h1 fun u w'' he=>by rw [put_eq hs he.1];exact hK _ he.2
 | halt x w'=>cases x <;> simp only [Oper.upon] at h1 ⊢
theorem wpAny_new{Q:Exit→Act→World→Prop}{a a0:Act}{w:World}{l:List Oper}(S:Sig→World→Prop)(n:Nat)(nw tw:List Nat)(pre:List Nat)(htw:∀ k∈tw,k<n∧k ∉ nw∧k ∉ pre∧∀ o,l[k]?=some o→o.guard=none)(hok:calmOk l.toArray n nw pre=true)(hS:S Sig.no w)
 (h:calm P l.toArray S nw tw (fun a'=>∀ σ w',(∀ k∈nw,(σ k).isSome=true)→(∀ k∈tw,(σ k).isSome=true)→S σ w'→wpList P l.toArray Q (l.drop n) (Jx l nw σ a') w') 0 (l.take n) a)
 (listed0:Array Bool) (hs0:listed0.size=l.length) (hl0:∀ k,k<l.length→listed0.getD k true=true→k∈pre) (hp0:∀ p∈pre,listed0.getD p true=true)
 (ha0:PreRun P l pre a a0) :
 wpAny P .any l.toArray Q (left listed0) listed0 a0 w:=by
 have g:=good_of hok
 have hnl:n≤l.length:=by simpa using g.le
 obtain ⟨vs,hvl,hR,hk⟩:=calm_frames _ _ _ h
 have hvn:vs.length=n:=by simp [hvl,hnl]
 obtain ⟨D,hD⟩:∃ D,(dets nw 0 (l.take n)).zip vs=D:=⟨_,rfl⟩
 rw [hD] at hR hk
 simp only [Nat.zero_add] at hk
 have hDl:D.length=n:=by rw [← hD];simp [dets_length,hvn,hnl]
 have hget:∀ k,k<n→(dets nw 0 (l.take n))[k]?=(l[k]?).map fun o=>if k∈nw then none else o.dst:=by
  intro k hk
  rw [dets_get]
  simp [hk]
 have hDk:∀ (k:Nat) (o:Oper) (v:Value),k<n→k ∉ nw→l[k]?=some o→vs[k]?=some v→D[k]?=some (o.dst,v):=by
  intro k o v hkn hnk ho hv
  rw [← hD,List.getElem?_zip_eq_some]
  refine ⟨?_,hv⟩
  rw [hget k hkn,ho]
  simp [hnk]
 have hDd:∀ (k:Nat) (t:Tmp) (v:Value),D[k]?=some (some t,v)→k<n∧k ∉ nw∧∃ o,l[k]?=some o∧o.dst=some t:=by
  intro k t v hk
  have hkn:k<n:=by rw [← hDl];exact (gJ hk).1
  rw [← hD,List.getElem?_zip_eq_some] at hk
  obtain ⟨h1,_⟩:=hk
  rw [hget k hkn,Option.map_eq_some_iff] at h1
  obtain ⟨o,ho,hd⟩:=h1
  by_cases hnk:k∈nw
  ·simp [hnk] at hd
  ·rw [if_neg hnk] at hd
   exact ⟨hkn,hnk,o,ho,hd⟩
 have huniq:∀ (j k:Nat) (t:Tmp) (u v:Value),k≠j→D[k]?=some (some t,u)→D[j]? ≠ some (some t,v):=by
  intro j k t u v hkj h1 h2
  obtain ⟨hkn,_,ok,hok',hdk⟩:=hDd k _ u h1
  obtain ⟨hjn,_,oj,hoj,hdj⟩:=hDd j _ v h2
  exact (g.pair k j ok oj t hkn hjn hkj (by simpa using hok') (by simpa using hoj) hdk).1 hdj
 obtain ⟨F,hF⟩:∃ F:Sig→Nat→Option (Option Tmp × Value),∀ σ k,F σ k=if k∈nw then (l[k]?).map fun o=>(o.dst,(σ k).getD undef) else D[k]?:=⟨_,fun _ _=>rfl⟩
 have hFd:∀ (σ:Sig) (k:Nat) (t:Tmp) (v:Value),F σ k=some (some t,v)→k<n∧∃ o,l[k]?=some o∧o.dst=some t:=by
  intro σ k t v hk
  rw [hF] at hk
  by_cases hnk:k∈nw
  ·rw [if_pos hnk,Option.map_eq_some_iff] at hk
   obtain ⟨o,ho,hd⟩:=hk
   exact ⟨g.newLt k hnk,o,ho,by simp at hd;exact hd.1⟩
  ·rw [if_neg hnk] at hk
   obtain ⟨h1,_,h3⟩:=hDd k t v hk
   exact ⟨h1,h3⟩
 have hFu:∀ (σ:Sig) (j k:Nat) (t:Tmp) (u v:Value),k≠j→F σ k=some (some t,u)→F σ j≠some (some t,v):=by
  intro σ j k t u v hkj h1 h2
  obtain ⟨hkn,ok,hok',hdk⟩:=hFd σ k _ u h1
  obtain ⟨hjn,oj,hoj,hdj⟩:=hFd σ j _ v h2
  exact (g.pair k j ok oj t hkn hjn hkj (by simpa using hok') (by simpa using hoj) hdk).1 hdj
 have hend:∀ (E:Nat→Prop) (a':Act) (σ:Sig),(∀ k,k<n→E k)→Agree (F σ) E a a'→a'=Jx l nw σ (Qs D a):=by
  intro E a' σ hall hA
  have hB:=Zd D huniq a n (by omega)
  rw [List.take_of_length_le (by omega)] at hB
  obtain ⟨k1,k2⟩:=putNew_keeps l σ nw (Qs D a)
  refine act_ext ?_ (hA.defers.trans (hB.defers.symm.trans k1.symm))
  apply Array.ext_getElem?
  intro t
  by_cases hts:t<a.tmps.size
  ·by_cases hw:∃ (k:Nat) (v:Value),F σ k=some (some t,v)
   ·obtain ⟨k,v,hkv⟩:=hw
    obtain ⟨hkn,o,ho,hd⟩:=hFd σ k _ v hkv
    rw [hA.wrote k t v (hall k hkn) hkv hts]
    have hkv':=hkv
    rw [hF] at hkv
    by_cases hnk:k∈nw
    ·rw [if_pos hnk,ho] at hkv
     simp at hkv
     rw [putNew_new l σ t k nw _ hnk (by simp [ho,hd]) (fun j hj hdj=>?_) (by rw [hB.size];exact hts),hkv.2]
     by_cases hjk:j=k
     ·exact hjk
     ·exfalso
      cases hlj:l[j]? with
      | none=>rw [hlj] at hdj;cases hdj
      | some oj=>
       rw [hlj] at hdj
       refine hFu σ j k t v ((σ j).getD undef) (Ne.symm hjk) hkv' ?_
       rw [hF,if_pos hj,hlj]
       simp at hdj
       simp [hdj]
    ·rw [if_neg hnk] at hkv
     rw [putNew_old l σ t nw _ fun j hj hdj=>?_,hB.wrote k t v hkn hkv hts]
     cases hlj:l[j]? with
     | none=>rw [hlj] at hdj;cases hdj
     | some oj=>
      rw [hlj] at hdj
      refine hFu σ j k t v ((σ j).getD undef) (fun e=>hnk (e▸hj)) hkv' ?_
      rw [hF,if_pos hj,hlj]
      simp at hdj
      simp [hdj]
   ·rw [hA.kept t fun k v _ hkv=>hw ⟨k,v,hkv⟩,putNew_old l σ t nw _ fun j hj hdj=>?_,hB.kept t fun k v _ hkv=>?_]
    ·obtain ⟨_,hnk,_⟩:=hDd k t v hkv
     exact hw ⟨k,v,by rw [hF,if_neg hnk];exact hkv⟩
    ·cases hlj:l[j]? with
     | none=>rw [hlj] at hdj;cases hdj
     | some oj=>
      rw [hlj] at hdj
      refine hw ⟨j,(σ j).getD undef,?_⟩
      rw [hF,if_pos hj,hlj]
      simp at hdj
      simp [hdj]
  ·rw [Array.getElem?_eq_none (show a'.tmps.size≤t from by rw [hA.size];exact Nat.le_of_not_lt hts),Array.getElem?_eq_none (show (Jx l nw σ (Qs D a)).tmps.size≤t from by rw [k2,hB.size];exact Nat.le_of_not_lt hts)]
 have main:∀ (fuel:Nat) (listed:Array Bool) (a':Act) (w':World) (σ:Sig),listed.size=l.length→left listed=fuel→(∀ j,n≤j→j<l.length→listed.getD j true=false) →
  (∀ k o,k<l.length→listed.getD k true=true→l[k]?=some o→∀ e∈o.after,Region.binds .any e=true→listed.getD e.on false=true) →
  (∀ k∈nw,listed.getD k true=true→(σ k).isSome=true)→(∀ k∈tw,(listed.getD k true=true→(σ k).isSome=true)∧(listed.getD k true=false→σ k=none))→(∀ p∈pre,listed.getD p true=true) →
  Agree (F σ) (fun k=>k<n∧listed.getD k true=true) a a'→S σ w'→wpAny P .any l.toArray Q fuel listed a' w':=by
  intro fuel
  induction fuel with
  | zero=>
   intro listed a' w' σ hs hl ht hc hσ hτ hP hA hSw
   have hall:∀ k,k<l.length→listed.getD k true=true:=fun k hk=>by
    cases hkk:listed.getD k true with
    | true=>rfl
    | false=>have:=left_pos (j:=k) (by omega) hkk;omega
   have hn:n=l.length:=by
    rcases Nat.lt_or_ge n l.length with h | h
    ·have:=hall n h;rw [ht n (Nat.le_refl _) h] at this;cases this
    ·omega
   refine tail_any g 0 n listed a' w' hs (Nat.le_refl _) (fun k _ hk=>hall k hk) ht hl ?_
   rw [hend _ a' σ (fun k hk=>⟨hk,hall k (by omega)⟩) hA]
   exact hR σ w' (fun k hk=>hσ k hk (hall k (by have:=g.newLt k hk;omega))) (fun k hk=>(hτ k hk).1 (hall k (by have:=(htw k hk).1;omega))) hSw
  | succ fuel ih=>
   intro listed a' w' σ hs hl ht hc hσ hτ hP hA hSw
   by_cases hpre:∀ k,k<n→listed.getD k true=true
   ·refine tail_any g (fuel+1) n listed a' w' hs (Nat.le_refl _) (fun k hk _=>hpre k hk) ht hl ?_
    rw [hend _ a' σ (fun k hk=>⟨hk,hpre k hk⟩) hA]
    exact hR σ w' (fun k hk=>hσ k hk (hpre k (g.newLt k hk))) (fun k hk=>(hτ k hk).1 (hpre k (htw k hk).1)) hSw
   ·
    have hex:∃ k,k<n∧listed.getD k true=false:=by
     rcases Classical.em (∃ k,k<n∧listed.getD k true=false) with h | h
     ·exact h
     ·exact absurd (fun k hk=>by
       cases hkk:listed.getD k true with
       | true=>rfl
       | false=>exact absurd ⟨k,hk,hkk⟩ h) hpre
    obtain ⟨m,hm,hmin⟩:∃ m,(m<n∧listed.getD m true=false)∧∀ k,k<m→listed.getD k true=true:=by
     obtain ⟨k,hk⟩:=hex
     induction k using Nat.strongRecOn with
     | _ k ihk=>
      rcases Classical.em (∃ j,j<k∧listed.getD j true=false) with ⟨j,hj,hjl⟩ | h
      ·exact ihk j hj ⟨by omega,hjl⟩
      ·refine ⟨k,hk,fun j hj=>?_⟩
       cases hjj:listed.getD j true with
       | true=>rfl
       | false=>exact absurd ⟨j,hj,hjj⟩ h
    obtain ⟨om,hom⟩:∃ o,l[m]?=some o:=⟨_,List.getElem?_eq_getElem (by omega)⟩
    have hready:m∈Region.ready .any l.toArray listed:=Jz.2 ⟨by simp;omega,hm.2,om,by simpa using hom,fun e he hb=>by
     have:=g.low m om (by simpa using hom) e he hb
     rw [← Jm (by omega)]
     exact hmin _ this⟩
    refine ⟨fun h=>(by rw [h] at hready;cases hready),fun i hi=>?_⟩
    obtain ⟨hi1,hi2,o,ho,hi3⟩:=Jz.1 hi
    have hi1:i<l.length:=by simpa using hi1
    have hol:l[i]?=some o:=by simpa using ho
    have hin:i<n:=by
     rcases Nat.lt_trichotomy i n with h | h | h
     ·exact h
     ·
      subst h
      have hall:∀ d k,i-k=d→k<i→listed.getD k true=true:=by
       intro d
       induction d using Nat.strongRecOn with
       | _ d ihd=>
        intro k hd hk
        by_cases hpk:k∈pre
        ·exact hP k hpk
        obtain ⟨j,hkj,hji,oj,hoj,hwj⟩:=g.sink (by simpa using hi1) k hk hpk
        obtain ⟨e,he,hb,heq⟩:=Jc hwj
        rw [Jm (by omega),← heq]
        rcases Nat.lt_or_ge j i with hlt | hge
        ·have hjl:=ihd (i-j) (by omega) j rfl hlt
         exact hc j oj (by omega) hjl (by simpa using hoj) e he hb
        ·have:j=i:=by omega
         subst this
         rw [ho] at hoj
         cases hoj
         exact hi3 e he hb
      have:=hall _ m rfl hm.1
      rw [hm.2] at this
      cases this
     ·obtain ⟨e,he,hb,heq⟩:=Jc (g.chain i o h (by simpa using hol))
      have:=hi3 e he hb
      rw [heq,← Jm (by omega),ht (i-1) (by omega) (by omega)] at this
      cases this
    obtain ⟨v,hv,hcase⟩:=hk i o (by simp [hin,hol])
    have hAi:=Zd D huniq a i (by omega)
    have hsame:=same_op (ops:=l.toArray) (o:=o) (a:=Qs (D.take i) a) (a':=a') (g.noSel i o ho) (by
     intro t htl
     by_cases hw:∃ (k:Nat) (u:Value),F σ k=some (some t,u)
     ·obtain ⟨k,u,hku⟩:=hw
      obtain ⟨hkn,ok,hok',hdk⟩:=hFd σ k _ u hku
      have hnk:k ∉ nw:=fun hnk=>g.newApart k hnk ok t (by simpa using hok') hdk i o hin ho htl
      have hDu:D[k]?=some (some t,u):=by rw [hF,if_neg hnk] at hku;exact hku
      by_cases hts:t<a.tmps.size
      ·have hki:k≠i:=fun e=>by
        subst e
        rw [hol] at hok'
        cases hok'
        exact g.own k o t hkn ho hdk htl
       rcases (g.pair k i ok o t hkn hin hki (by simpa using hok') ho hdk).2 with h1 | ⟨hlt,hwt⟩ | ⟨hlt,hwt⟩
       ·exact absurd htl h1
       ·obtain ⟨e,he,hb,heq⟩:=Jc hwt
        have hkl:listed.getD k true=true:=by
         rw [Jm (by omega),← heq];exact hi3 e he hb
        rw [hA.wrote k t u ⟨hkn,hkl⟩ hku hts,hAi.wrote k t u hlt hDu hts]
       ·obtain ⟨e,he,hb,heq⟩:=Jc hwt
        have hkl:¬ listed.getD k true=true:=fun hkl=>by
         have:=hc k ok (by omega) hkl hok' e he hb
         rw [heq,← Jm (by omega),hi2] at this
         cases this
        rw [hA.kept t fun k' u' hk' hD'=>?_,hAi.kept t fun k' u' hk' hD'=>?_]
        ·by_cases hkk:k'=k
         ·subst hkk;omega
         ·exact huniq k k' t u' u hkk hD' hDu
        ·by_cases hkk:k'=k
         ·subst hkk;exact hkl hk'.2
         ·exact hFu σ k k' t u' u hkk hD' hku
      ·rw [Array.getElem?_eq_none (show a'.tmps.size≤t from by rw [hA.size];exact Nat.le_of_not_lt hts),Array.getElem?_eq_none (show (Qs (D.take i) a).tmps.size≤t from by rw [hAi.size];exact Nat.le_of_not_lt hts)]
     ·rw [hA.kept t fun k v _ hkv=>hw ⟨k,v,hkv⟩,hAi.kept t fun k v _ hkv=>?_]
      obtain ⟨_,hnk,_⟩:=hDd k t v hkv
      exact hw ⟨k,v,by rw [hF,if_neg hnk];exact hkv⟩)
    have hset:∀ k b,(listed.setIfInBounds i true).getD k b=if k=i then true else listed.getD k b:=by
     intro k b
     by_cases hki:k=i
     ·subst hki;simp [hs,hi1]
     ·have:i≠k:=Ne.symm hki
      simp [Array.getElem?_setIfInBounds_ne this,hki]
    have next:∀ (σ':Sig) (u:Value) w'',F σ' i=some (o.dst,u)→Agree (F σ') (fun k=>k<n∧listed.getD k true=true) a a'→(∀ k∈nw,(listed.setIfInBounds i true).getD k true=true→(σ' k).isSome=true)→(∀ k∈tw,((listed.setIfInBounds i true).getD k true=true→(σ' k).isSome=true)∧((listed.setIfInBounds i true).getD k true=false→σ' k=none))→S σ' w'' →
     wpAny P .any l.toArray Q fuel (listed.setIfInBounds i true) (a'.put o.dst u) w'':=by
     intro σ' u w'' hFi hA' hσ' hτ' hSw''
     refine ih _ _ w'' σ' (by simpa using hs) (by have:=left_set (j:=i) (by omega) hi2;omega) ?_ ?_ hσ' hτ' (fun p hp=>by rw [hset];split <;> first | rfl | exact hP p hp) ?_ hSw''
     ·intro j hj hjl
      rw [hset,if_neg (by omega)]
      exact ht j hj hjl
     ·intro k ok hkl hkt hok' e he hb
      rw [hset]
      split
      ·rfl
      ·rw [hset] at hkt
       by_cases hki:k=i
       ·subst hki
        rw [hol] at hok'
        cases hok'
        exact hi3 e he hb
       ·rw [if_neg hki] at hkt
        exact hc k ok hkl hkt hok' e he hb
     ·have:=hA'.put (j:=i) hFi (fun k t u' hki hD' e=>hFu σ' i k t u' u hki hD' (by rw [hFi,e]))
      refine ⟨this.defers,this.size,fun k t u hk=>this.wrote k t u ?_,fun t ht=>this.kept t fun k u hk=>ht k u ?_⟩
      ·obtain ⟨h1,h2⟩:=hk
       rw [hset] at h2
       by_cases hki:k=i
       ·exact .inr hki
       ·rw [if_neg hki] at h2;exact .inl ⟨h1,h2⟩
      ·rw [hset]
       rcases hk with ⟨h1,h2⟩ | rfl
       ·exact ⟨h1,by split <;> first | rfl | exact h2⟩
       ·exact ⟨hin,by simp⟩
    have hσset:i ∉ nw→∀ k∈nw,(listed.setIfInBounds i true).getD k true=true→(σ k).isSome=true:=fun hni k hk hkl=>by
     rw [hset,if_neg (fun (e:k=i)=>hni (e▸hk))] at hkl
     exact hσ k hk hkl
    have hτset:i ∉ tw→∀ k∈tw,((listed.setIfInBounds i true).getD k true=true→(σ k).isSome=true)∧((listed.setIfInBounds i true).getD k true=false→σ k=none):=fun hni k hk=>by
     rw [hset,if_neg (fun (e:k=i)=>hni (e▸hk))]
     exact hτ k hk
    unfold wpOp
    simp only [ho]
    rcases hcase with ⟨hni,hn1⟩ | ⟨hni,hw1,hc1⟩ | ⟨hni,hw1,rfl⟩
    ·have hg:=g.newPlain i hni o ho
     rw [show Region.wanted o (yielded l.toArray a'.tmps)=true by simp [Region.wanted,hg]]
     refine .inl (hn1.at hsame.1 (by rw [hAi.size,hA.size]) hSw _ _ fun u w'' hSu=>?_)
     refine next (σ.upd i u) u w'' (by rw [hF,if_pos hni,hol];simp [Sig.upd]) ?_ ?_ ?_ hSu
     ·have hne:∀ k,(k<n∧listed.getD k true=true)→F (σ.upd i u) k=F σ k:=fun k hk=>by
       have hki:k≠i:=fun e=>by subst e;rw [hi2] at hk;cases hk.2
       rw [hF,hF]
       simp [Sig.upd,hki]
      exact ⟨hA.defers,hA.size,fun k t u' hk hD'=>hA.wrote k t u' hk (by rw [← hne k hk];exact hD'),fun t ht=>hA.kept t fun k u' hk=>by rw [← hne k hk];exact ht k u' hk⟩
     ·intro k hk hkl
      by_cases hki:k=i
      ·simp [Sig.upd,hki]
      ·rw [hset,if_neg hki] at hkl
       simpa [Sig.upd,hki] using hσ k hk hkl
     ·intro k hk
      have hki:k≠i:=fun e=>(htw k hk).2.1 (e▸hni)
      rw [hset,if_neg hki]
      simpa [Sig.upd,hki] using hτ k hk
    ·rw [hsame.2,hw1]
     by_cases hit:i∈tw
     ·refine .inl (hc1.at hsame.1 (by rw [hAi.size,hA.size]) hSw (fun hit=>(hτ i hit).2 hi2) _ _ fun w'' hSu=>next (σ.upd i v) v w'' (by rw [hF,if_neg hni];exact hDk i o v hin hni hol hv) ?_ ?_ ?_ (by rw [trk,if_pos hit] at hSu;exact hSu))
      ·have hne:∀ k,(k<n∧listed.getD k true=true)→F (σ.upd i v) k=F σ k:=fun k hk=>by
        have hki:k≠i:=fun e=>by subst e;rw [hi2] at hk;cases hk.2
        rw [hF,hF]
        simp [Sig.upd,hki]
       exact ⟨hA.defers,hA.size,fun k t u' hk hD'=>hA.wrote k t u' hk (by rw [← hne k hk];exact hD'),fun t ht=>hA.kept t fun k u' hk=>by rw [← hne k hk];exact ht k u' hk⟩
      ·intro k hk hkl
       by_cases hki:k=i
       ·simp [Sig.upd,hki]
       ·rw [hset,if_neg hki] at hkl
        simpa [Sig.upd,hki] using hσ k hk hkl
      ·intro k hk
       rw [hset]
       by_cases hki:k=i
       ·simp [Sig.upd,hki]
       ·rw [if_neg hki]
        simpa [Sig.upd,hki] using hτ k hk
     ·exact .inl (hc1.at hsame.1 (by rw [hAi.size,hA.size]) hSw (fun hit=>(hτ i hit).2 hi2) _ _ fun w'' hSu=>next σ v w'' (by rw [hF,if_neg hni];exact hDk i o v hin hni hol hv) hA (hσset hni) (hτset hit) (by rw [trk,if_neg hit] at hSu;exact hSu))
    ·rw [hsame.2,hw1]
     have hit:i ∉ tw:=fun hit=>by
      have:=(htw i hit).2.2.2 o hol
      simp [Region.wanted,this] at hw1
     exact next σ undef w' (by rw [hF,if_neg hni];exact hDk i o undef hin hni hol hv) hA (hσset hni) (hτset hit) hSw
 refine main _ listed0 a0 w Sig.no hs0 rfl (fun j hnj hj=>?_) (fun k o hk hkt ho e he hb=>?_) (fun k hk hkt=>?_) (fun k hk=>?_) hp0 ?_ hS
 ·cases hjj:listed0.getD j true with
  | false=>rfl
  | true=>
   have:=(g.preAny j (hl0 j hj hjj)).1
   omega
 ·obtain ⟨_,_,o',ho',_,haf⟩:=g.preAny k (hl0 k hk hkt)
  obtain rfl:o'=o:=by simpa [ho] using ho'.symm
  have:=g.low k o' (by simpa using ho) e he hb
  rw [← Jm (by omega)]
  exact hp0 _ (haf e he hb)
 ·exact absurd hk (g.preAny k (hl0 k (by have:=g.newLt k hk;omega) hkt)).2.1
 ·exact ⟨fun hkt=>absurd (hl0 k (by have:=(htw k hk).1;omega) hkt) (htw k hk).2.2.1,fun _=>rfl⟩
 ·have step:∀ (r done:List Nat) (a1:Act),preOk l.toArray n nw done r=true→PreRun P l r a1 a0→Agree (F Sig.no) (fun k=>k∈done) a a1 →
   (∀ k∈done,∀ o,l[k]?=some o→∀ e∈o.after,Region.binds .any e=true→e.on∈done)→Agree (F Sig.no) (fun k=>k∈r∨k∈done) a a0:=by
   intro r
   induction r with
   | nil=>
    intro done a1 _ hr hA _
    obtain rfl:a0=a1:=hr
    simpa using hA
   | cons p r ih=>
    intro done a1 hpo hr hA hcl
    obtain ⟨hpn,hpw,hpd,⟨o,hop,hgd,haf⟩,hpo'⟩:=preOk_cons hpo
    have hop:l[p]?=some o:=by simpa using hop
    obtain ⟨o',v,ho',hrun,hr'⟩:=hr
    obtain rfl:o'=o:=by simpa [hop] using ho'.symm
    obtain ⟨u,hu,hcase⟩:=hk p o' (by simp [hpn,hop])
    have hAi:=Zd D huniq a p (by omega)
    have hsame:=same_op (ops:=l.toArray) (o:=o') (a:=a1) (a':=Qs (D.take p) a) (g.noSel p o' (by simpa using hop)) (by
     intro t htl
     by_cases hts:t<a.tmps.size
     ·by_cases hw:∃ (k:Nat) (u:Value),F Sig.no k=some (some t,u)
      ·obtain ⟨k,x,hkx⟩:=hw
       obtain ⟨hkn,ok,hok',hdk⟩:=hFd Sig.no k _ x hkx
       have hnk:k ∉ nw:=fun hnk=>g.newApart k hnk ok t (by simpa using hok') hdk p o' hpn (by simpa using hop) htl
       have hDu:D[k]?=some (some t,x):=by rw [hF,if_neg hnk] at hkx;exact hkx
       have hkp:k≠p:=fun e=>by
        subst e
        rw [hop] at hok'
        cases hok'
        exact g.own k o' t hkn (by simpa using hop) hdk htl
       rcases (g.pair k p ok o' t hkn hpn hkp (by simpa using hok') (by simpa using hop) hdk).2 with h1 | ⟨hlt,hwt⟩ | ⟨hlt,hwt⟩
       ·exact absurd htl h1
       ·obtain ⟨e,he,hb,heq⟩:=Jc hwt
        have hkd:k∈done:=heq▸haf e he hb
        rw [hA.wrote k t x hkd hkx hts,hAi.wrote k t x hlt hDu hts]
       ·obtain ⟨e,he,hb,heq⟩:=Jc hwt
        have hkd:k ∉ done:=fun hkd=>hpd (heq▸hcl k hkd ok hok' e he hb)
        rw [hA.kept t fun k' u' hk' hD'=>?_,hAi.kept t fun k' u' hk' hD'=>?_]
        ·by_cases hkk:k'=k
         ·subst hkk;omega
         ·exact huniq k k' t u' x hkk hD' hDu
        ·by_cases hkk:k'=k
         ·subst hkk;exact hkd hk'
         ·exact hFu Sig.no k k' t u' x hkk hD' hkx
      ·rw [hA.kept t fun k v _ hkv=>hw ⟨k,v,hkv⟩,hAi.kept t fun k v _ hkv=>?_]
       obtain ⟨_,hnk,_⟩:=hDd k t v hkv
       exact hw ⟨k,v,by rw [hF,if_neg hnk];exact hkv⟩
     ·rw [Array.getElem?_eq_none (show (Qs (D.take p) a).tmps.size≤t from by rw [hAi.size];exact Nat.le_of_not_lt hts),Array.getElem?_eq_none (show a1.tmps.size≤t from by rw [hA.size];exact Nat.le_of_not_lt hts)])
    have hput:a1.put o'.dst v=a1.put o'.dst u:=by
     rcases hcase with ⟨hni,_⟩ | ⟨_,_,hc1⟩ | ⟨_,hw1,_⟩
     ·exact absurd hni hpw
     ·have h1:=hc1.at (a':=a1) hsame.1.symm (by rw [hAi.size,hA.size]) hS (fun _=>rfl) (fun a2 _=>a2=a1.put o'.dst u) (fun _ _ _=>False) (fun _ _=>rfl)
      unfold Oper.wp at h1
      rw [hrun w] at h1
      simpa only [Oper.upon] using h1
     ·exfalso
      simp [Region.wanted,hgd] at hw1
    rw [hput] at hr'
    have hFp:F Sig.no p=some (o'.dst,u):=by rw [hF,if_neg hpw];exact hDk p o' u hpn hpw hop hu
    have hA':=hA.put (j:=p) hFp (fun k t u' hki hD' e=>hFu Sig.no p k t u' u hki hD' (by rw [hFp,e]))
    have hA2:Agree (F Sig.no) (fun k=>k∈p::done) a (a1.put o'.dst u):=
     ⟨hA'.defers,hA'.size,fun k t x hk=>hA'.wrote k t x (by
      rcases List.mem_cons.1 hk with h | h
      ·exact .inr h
      ·exact .inl h),fun t ht=>hA'.kept t fun k x hk=>ht k x (by
      rcases hk with h | h
      ·exact List.mem_cons_of_mem _ h
      ·exact h▸List.mem_cons_self ..)⟩
    have:=ih (p::done) _ hpo' hr' hA2 (fun k hk o ho e he hb=>by
     rcases List.mem_cons.1 hk with rfl | hk
     ·rw [hop] at ho
      cases ho
      exact List.mem_cons_of_mem _ (haf e he hb)
     ·exact List.mem_cons_of_mem _ (hcl k hk o ho e he hb))
    refine ⟨this.defers,this.size,fun k t x hk=>this.wrote k t x ?_,fun t ht=>this.kept t fun k x hk=>ht k x ?_⟩
    ·rcases hk with hk | hk
     ·rcases List.mem_cons.1 hk with rfl | hk
      ·exact .inr (List.mem_cons_self ..)
      ·exact .inl hk
     ·exact .inr (List.mem_cons_of_mem _ hk)
    ·rcases hk with hk | hk
     ·exact .inl (List.mem_cons_of_mem _ hk)
     ·rcases List.mem_cons.1 hk with rfl | hk
      ·exact .inl (List.mem_cons_self ..)
      ·exact .inr hk
  have h0:Agree (F Sig.no) (fun k=>k∈([]:List Nat)) a a:=⟨rfl,rfl,fun k t v hk _ _=>(by cases hk),fun t _=>rfl⟩
  have:=step pre [] a g.preOrd ha0 h0 (fun k hk=>by cases hk)
  refine ⟨this.defers,this.size,fun k t x hk=>this.wrote k t x (.inl (hl0 k (by omega) hk.2)),fun t ht=>this.kept t fun k x hk=>ht k x ?_⟩
  rcases hk with hk | hk
  ·exact ⟨(g.preAny k hk).1,hp0 k hk⟩
  ·cases hk
theorem wp_region_new{id:Nat}{Q:Exit→Act→World→Prop}{a:Act}{w:World}{l:List Oper}(S:Sig→World→Prop)(n:Nat)(nw tw:List Nat)(htw:∀ k∈tw,k<n∧k ∉ nw∧∀ o,l[k]?=some o→o.guard=none)(hm:P.follows .mixedOrders=true)(hok:calmOk l.toArray n nw=true)(hS:S Sig.no w.drew)
 (h:calm P l.toArray S nw tw (fun a'=>∀ σ w',(∀ k∈nw,(σ k).isSome=true)→(∀ k∈tw,(σ k).isSome=true)→S σ w'→wpList P l.toArray Q (l.drop n) (Jx l nw σ a') w') 0 (l.take n) a):(Code.region id l.toArray true).wp P Q a w:=by
 refine wp_region_any hm ?_
 have hl:=left_none l.toArray.size
 have:=wpAny_new (a0:=a) S n nw tw [] (fun k hk=>⟨(htw k hk).1,(htw k hk).2.1,by simp,(htw k hk).2.2⟩) hok hS h (Array.replicate l.toArray.size false) (by simp) (fun k hk hkt=>by simp [hk] at hkt) (fun p hp=>by cases hp) rfl
 rw [hl] at this
 exact this
theorem calm_value{R:Act→Prop}{a:Act}{o:Oper}{rest:List Oper}{i:Nat}{v:Value}(hi:i ∉ nw)(ht:i ∉ tw)(hw:Region.wanted o (yielded ops a.tmps)=true)(h1:∀ σ w,S σ w→(execOp a.eval o).run P w=.ok (.value v) w)(h:calm P ops S nw tw R (i+1) rest (a.put o.dst v)):calm P ops S nw tw R i (o::rest) a:=
 calm_step v hi hw (fun σ w hS _ K Q hK=>by unfold Oper.wp;rw [h1 σ w hS];exact hK w (by rw [trk,if_neg ht];exact hS)) h
theorem calm_track{R:Act→Prop}{a:Act}{o:Oper}{rest:List Oper}{i:Nat}{v:Value}(hi:i ∉ nw)(ht:i∈tw)(hw:Region.wanted o (yielded ops a.tmps)=true)(h1:∀ σ w,S σ w→σ i=none→∃ w',(execOp a.eval o).run P w=.ok (.value v) w'∧S (σ.upd i v) w')(h:calm P ops S nw tw R (i+1) rest (a.put o.dst v)):calm P ops S nw tw R i (o::rest) a:=
 calm_step v hi hw (fun σ w hS hf K Q hK=>by
  obtain ⟨w',hr,hs⟩:=h1 σ w hS (hf ht)
  unfold Oper.wp
  rw [hr]
  exact hK w' (by rw [trk,if_pos ht];exact hs)) h
end
end Go.Proofs.YthekdeikodppkaaGreatDoor.Trk
