/-
  Texts of this claim, one behind the other: A region that draws its order, all of whose operations but the last few yield values that are known, and keep a condition S on the world ('calm'); flate; flate; lz; lz; lz; lz; Stable sorts, plainly.
-/
import Derived.Test.YthekdeikodppkaaGreatDoorKb2
import Derived.Orders
import Derived.Tactics
import Derived.KernelRfl
import Derived.StillTactics
set_option linter.unusedVariables false
namespace Go.Proofs.YthekdeikodppkaaGreatDoor
open Go.RowKit
def waits(o:Oper)(k:Nat):Bool:=o.after.any fun e=>Region.binds .any e&&e.on==k
def isSelect:Op→Bool | .select _ _=>true | _=>false
def newOk(ops:Array Oper)(n:Nat)(nw:List Nat):Bool:=
 nw.all fun k=>decide (k<n)&&match ops[k]? with
  | none=>true
  | some ok=>ok.guard.isNone&&match ok.dst with
   | none=>true
   | some d=>(List.range n).all fun j=>match ops[j]? with
    | none=>true
    | some oj=>!(oj.looksAt ops).contains d
def preOk(ops:Array Oper)(n:Nat)(nw:List Nat):List Nat→List Nat→Bool
 | _,[]=>true
 | done,p::r=>decide (p<n) && !nw.contains p && !done.contains p&&(match ops[p]? with
  | none=>false
  | some o=>o.guard.isNone&&o.after.all fun e=>!Region.binds .any e||done.contains e.on)&&preOk ops n nw (p::done) r
def calmOk(ops:Array Oper)(n:Nat)(nw:List Nat:=[])(pre:List Nat:=[]):Bool:=
 decide (n≤ops.size)&&(newOk ops n nw&&preOk ops n nw [] pre) &&
 (List.range ops.size).all fun j=>match ops[j]? with
   | none=>true
   | some oj=>!isSelect oj.op&&oj.after.all (fun e=>!Region.binds .any e||decide (e.on<j)) &&
    (decide (n≤j)||(List.range n).all fun k=>match ops[k]? with
      | none=>true
      | some ok=>match ok.dst with
       | none=>true
       | some d=>if k=j then !(oj.looksAt ops).contains d else oj.dst != some d&&(!(oj.looksAt ops).contains d||(if k<j then waits oj k else waits ok j))) &&
    (decide (j≠n)||(List.range n).all fun i=>pre.contains i||(List.range (n+1)).any fun k=>decide (i<k)&&match ops[k]? with | none=>false | some ok=>waits ok i) &&
    (decide (j≤n)||waits oj (j-1))
abbrev Sig:=Nat→Option Value
def Sig.upd(σ:Sig)(i:Nat)(v:Value):Sig:=fun k=>if k=i then some v else σ k
def Sig.no:Sig:=fun _=>none
def Calm1(P:Program)(S:Sig→World→Prop)(o:Oper)(a:Act)(v:Value):Prop:=
 ∀ σ w,S σ w→∀ (K:Act→World→Prop) (Q:Exit→Act→World→Prop),(∀ w',S σ w'→K (a.put o.dst v) w')→o.wp P a w K Q
def New1(P:Program)(S:Sig→World→Prop)(i:Nat)(o:Oper)(a:Act):Prop:=
 ∀ σ w,S σ w→∀ (K:Act→World→Prop) (Q:Exit→Act→World→Prop),(∀ v w',S (σ.upd i v) w'→K (a.put o.dst v) w')→o.wp P a w K Q
def calm(P:Program)(ops:Array Oper)(S:Sig→World→Prop)(nw:List Nat)(R:Act→Prop):Nat→List Oper→Act→Prop
 | _,[],a=>R a
 | i,o::rest,a=>(i∈nw∧New1 P S i o a∧calm P ops S nw R (i+1) rest a) ∨
  (i ∉ nw∧Region.wanted o (yielded ops a.tmps)=true∧∃ v,Calm1 P S o a v∧calm P ops S nw R (i+1) rest (a.put o.dst v)) ∨
  (i ∉ nw∧Region.wanted o (yielded ops a.tmps)=false∧calm P ops S nw R (i+1) rest (a.put o.dst undef))
section
variable {P:Program} {ops:Array Oper} {S:Sig→World→Prop} {nw:List Nat} {R:Act→Prop} {a:Act} {o:Oper} {rest:List Oper} {i:Nat}
theorem calm_nil(h:R a):calm P ops S nw R i [] a:=h
theorem calm_step(v:Value)(hi:i ∉ nw)(hw:Region.wanted o (yielded ops a.tmps)=true)
 (h1:∀ σ w,S σ w→∀ (K:Act→World→Prop) (Q:Exit→Act→World→Prop),(∀ w',S σ w'→K (a.put o.dst v) w')→o.wp P a w K Q) (h:calm P ops S nw R (i+1) rest (a.put o.dst v)):calm P ops S nw R i (o::rest) a:=.inr (.inl ⟨hi,hw,v,h1,h⟩)
theorem calm_skip(hi:i ∉ nw)(hw:Region.wanted o (yielded ops a.tmps)=false)
 (h:calm P ops S nw R (i+1) rest (a.put o.dst undef)):calm P ops S nw R i (o::rest) a:=.inr (.inr ⟨hi,hw,h⟩)
theorem calm_new(hi:i∈nw)
 (h1:∀ σ w,S σ w→∀ (K:Act→World→Prop) (Q:Exit→Act→World→Prop),(∀ v w',S (σ.upd i v) w'→K (a.put o.dst v) w')→o.wp P a w K Q) (h:calm P ops S nw R (i+1) rest a):calm P ops S nw R i (o::rest) a:=.inl ⟨hi,h1,h⟩
end
def Qs:List (Option Tmp × Value)→Act→Act
 | [],a=>a
 | (d,v)::r,a=>Qs r (a.put d v)
theorem frames_snoc(l:List (Option Tmp × Value))(x:Option Tmp × Value)(a:Act):Qs (l++[x]) a=(Qs l a).put x.1 x.2:=by
 induction l generalizing a with
 | nil=>rfl
 | cons y l ih=>exact ih _
section
variable {P:Program} {ops:Array Oper} {S:Sig→World→Prop} {nw:List Nat}
def dets(nw:List Nat)(i:Nat):List Oper→List (Option Tmp)
 | []=>[]
 | o::r=>(if i∈nw then none else o.dst)::dets nw (i+1) r
theorem dets_length(nw:List Nat):∀ (l:List Oper) (i:Nat),(dets nw i l).length=l.length
 | [],_=>rfl
 | _::l,i=>by simp [dets,dets_length nw l (i+1)]
theorem dets_get(nw:List Nat):∀ (l:List Oper) (i k:Nat),(dets nw i l)[k]?=(l[k]?).map fun o=>if i+k∈nw then none else o.dst
 | [],_,_=>by simp [dets]
 | o::l,i,0=>by simp [dets]
 | o::l,i,k+1=>by
  have:=dets_get nw l (i+1) k
  simp only [dets,List.getElem?_cons_succ,this]
  rw [show i+1+k=i+(k+1) by omega]
theorem calm_frames{R:Act→Prop}:∀ (l:List Oper) (i:Nat) (a:Act),calm P ops S nw R i l a →
 ∃ vs:List Value,vs.length=l.length∧R (Qs ((dets nw i l).zip vs) a) ∧
  ∀ k o,l[k]?=some o→∃ v,vs[k]?=some v ∧
   ((i+k∈nw∧New1 P S (i+k) o (Qs (((dets nw i l).zip vs).take k) a)) ∨
    (i+k ∉ nw∧Region.wanted o (yielded ops (Qs (((dets nw i l).zip vs).take k) a).tmps)=true∧Calm1 P S o (Qs (((dets nw i l).zip vs).take k) a) v) ∨
    (i+k ∉ nw∧Region.wanted o (yielded ops (Qs (((dets nw i l).zip vs).take k) a).tmps)=false∧v=undef)):=by
 intro l
 induction l with
 | nil=>intro i a h;exact ⟨[],rfl,h,fun k o hk=>by simp at hk⟩
 | cons o l ih=>
  intro i a h
  have step:∀ (v:Value) (a':Act),a'=a.put (if i∈nw then none else o.dst) v→calm P ops S nw R (i+1) l a' →
   ((i∈nw∧New1 P S i o a)∨(i ∉ nw∧Region.wanted o (yielded ops a.tmps)=true∧Calm1 P S o a v)∨(i ∉ nw∧Region.wanted o (yielded ops a.tmps)=false∧v=undef))→∃ vs:List Value,vs.length=(o::l).length∧R (Qs ((dets nw i (o::l)).zip vs) a) ∧
   ∀ k o',(o::l)[k]?=some o'→∃ v,vs[k]?=some v ∧
    ((i+k∈nw∧New1 P S (i+k) o' (Qs (((dets nw i (o::l)).zip vs).take k) a)) ∨
     (i+k ∉ nw∧Region.wanted o' (yielded ops (Qs (((dets nw i (o::l)).zip vs).take k) a).tmps)=true∧Calm1 P S o' (Qs (((dets nw i (o::l)).zip vs).take k) a) v) ∨
     (i+k ∉ nw∧Region.wanted o' (yielded ops (Qs (((dets nw i (o::l)).zip vs).take k) a).tmps)=false∧v=undef)):=by
   intro v a' ha hc h0
   obtain ⟨vs,hl,hR,hk⟩:=ih _ _ hc
   refine ⟨v::vs,by simp [hl],by rw [ha] at hR;exact hR,fun k o' hk'=>?_⟩
   cases k with
   | zero=>simp at hk';subst hk';exact ⟨v,rfl,h0⟩
   | succ k=>
    have:=hk k o' (by simpa using hk')
    rw [ha,show i+1+k=i+(k+1) by omega] at this
    exact this
  rcases h with ⟨hi,h1,h2⟩ | ⟨hi,hw,v,h1,h2⟩ | ⟨hi,hw,h2⟩
  ·exact step undef a (by rw [if_pos hi];rfl) h2 (.inl ⟨hi,h1⟩)
  ·exact step v _ (by rw [if_neg hi]) h2 (.inr (.inl ⟨hi,hw,h1⟩))
  ·exact step undef _ (by rw [if_neg hi]) h2 (.inr (.inr ⟨hi,hw,rfl⟩))
structure Agree (D:Nat→Option (Option Tmp × Value)) (E:Nat→Prop) (a a':Act):Prop where
 defers:a'.defers=a.defers
 size:a'.tmps.size=a.tmps.size
 wrote:∀ k t v,E k→D k=some (some t,v)→t<a.tmps.size→a'.tmps[t]?=some v
 kept:∀ t,(∀ k v,E k→D k≠some (some t,v))→a'.tmps[t]?=a.tmps[t]?
theorem Agree.put{D:Nat→Option (Option Tmp × Value)}{E:Nat→Prop}{a a':Act}(h:Agree D E a a'){j:Nat}{d:Option Tmp}{v:Value}(hj:D j=some (d,v))
 (hne:∀ k t u,k≠j→D k=some (some t,u)→d≠some t):Agree D (fun k=>E k∨k=j) a (a'.put d v):=by
 cases d with
 | none=>
  refine ⟨h.defers,h.size,fun k t u hk hD ht=>?_,fun t ht=>h.kept t fun k u hk=>ht k u (.inl hk)⟩
  rcases hk with hk | rfl
  ·exact h.wrote k t u hk hD ht
  ·rw [hj] at hD;cases hD
 | some d=>
  refine ⟨h.defers,by simp [Act.put,h.size],fun k t u hk hD ht=>?_,fun t ht=>?_⟩
  ·by_cases hkj:k=j
   ·subst hkj
    rw [hj] at hD
    cases hD
    simp [Act.put,h.size,ht]
   ·have hdt:d≠t:=fun e=>hne k t u hkj hD (by rw [e])
    have:=h.wrote k t u (hk.resolve_right hkj) hD ht
    simpa [Act.put,Array.getElem?_setIfInBounds_ne hdt] using this
  ·have hdt:d≠t:=fun e=>ht j v (.inr rfl) (by rw [hj,e])
   simpa [Act.put,Array.getElem?_setIfInBounds_ne hdt] using h.kept t fun k u hk=>ht k u (.inl hk)
theorem Zd(D:List (Option Tmp × Value))(hne:∀ (j k:Nat) (t:Tmp) (u v:Value),k≠j→D[k]?=some (some t,u)→D[j]? ≠ some (some t,v))(a:Act) :
 ∀ n,n≤D.length→Agree (fun k=>D[k]?) (fun k=>k<n) a (Qs (D.take n) a):=by
 intro n
 induction n with
 | zero=>intro _;exact ⟨rfl,rfl,fun k t v hk=>by omega,fun t _=>rfl⟩
 | succ n ih=>
  intro hn
  have hlt:n<D.length:=by omega
  obtain ⟨d,v,hDn⟩:∃ d v,D[n]?=some (d,v):=⟨_,_,List.getElem?_eq_getElem hlt⟩
  have e:D.take (n+1)=D.take n++[(d,v)]:=by rw [List.take_add_one,hDn];rfl
  rw [e,frames_snoc]
  have:=(ih (by omega)).put (j:=n) hDn (fun k t u hk hDk e=>by subst e;exact hne n k t u v hk hDk hDn)
  refine ⟨this.defers,this.size,fun k t u hk=>this.wrote k t u (by omega),fun t ht=>this.kept t fun k u hk=>ht k u (by omega)⟩
def Jx(l:List Oper)(nw:List Nat)(σ:Sig)(a:Act):Act:=nw.foldl (fun a k=>a.put ((l[k]?).bind (·.dst)) ((σ k).getD undef)) a
theorem putNew_keeps(l:List Oper)(σ:Sig):∀ (nw:List Nat) (a:Act),(Jx l nw σ a).defers=a.defers∧(Jx l nw σ a).tmps.size=a.tmps.size:=by
 intro nw
 induction nw with
 | nil=>exact fun a=>⟨rfl,rfl⟩
 | cons k nw ih=>
  intro a
  have:=ih (a.put ((l[k]?).bind (·.dst)) ((σ k).getD undef))
  have h2:(a.put ((l[k]?).bind (·.dst)) ((σ k).getD undef)).defers=a.defers∧(a.put ((l[k]?).bind (·.dst)) ((σ k).getD undef)).tmps.size=a.tmps.size:=by
   cases (l[k]?).bind (·.dst) <;> simp [Act.put]
  exact ⟨this.1.trans h2.1,this.2.trans h2.2⟩
theorem Vo(l:List Oper)(σ:Sig)(t:Tmp):∀ (nw:List Nat) (a:Act),(∀ k∈nw,(l[k]?).bind (·.dst)≠some t)→(Jx l nw σ a).tmps[t]?=a.tmps[t]?:=by
 intro nw
 induction nw with
 | nil=>exact fun a _=>rfl
 | cons k nw ih=>
  intro a h
  have h1:=ih (a.put ((l[k]?).bind (·.dst)) ((σ k).getD undef)) fun j hj=>h j (by simp [hj])
  have h2:=h k (by simp)
  refine h1.trans ?_
  cases hd:(l[k]?).bind (·.dst) with
  | none=>simp [Act.put]
  | some d=>
   have:d≠t:=fun e=>h2 (by rw [hd,e])
   simp [Act.put,Array.getElem?_setIfInBounds_ne this]
theorem putNew_new(l:List Oper)(σ:Sig)(t:Tmp)(k:Nat):∀ (nw:List Nat) (a:Act),k∈nw→(l[k]?).bind (·.dst)=some t→(∀ j∈nw,(l[j]?).bind (·.dst)=some t→j=k)→t<a.tmps.size →
 (Jx l nw σ a).tmps[t]?=some ((σ k).getD undef):=by
 intro nw
 induction nw with
 | nil=>exact fun a h=>by simp at h
 | cons j nw ih=>
  intro a hk hd hu ht
  have hsz:(a.put ((l[j]?).bind (·.dst)) ((σ j).getD undef)).tmps.size=a.tmps.size:=by cases (l[j]?).bind (·.dst) <;> simp [Act.put]
  by_cases hkn:k∈nw
  ·exact ih (a.put ((l[j]?).bind (·.dst)) ((σ j).getD undef)) hkn hd (fun i hi=>hu i (by simp [hi])) (by rw [hsz];exact ht)
  ·have hkj:k=j:=by simpa [hkn] using hk
   subst hkj
   have h1:=Vo l σ t nw (a.put ((l[k]?).bind (·.dst)) ((σ k).getD undef)) fun i hi he=>hkn (hu i (by simp [hi]) he▸hi)
   refine h1.trans ?_
   rw [hd]
   simp [Act.put,ht]
theorem same_op{o:Oper}{a a':Act}(hs:∀ cs b,o.op≠.select cs b)(h:∀ t∈o.looksAt ops,a'.tmps[t]?=a.tmps[t]?) :
 execOp a'.eval o=execOp a.eval o∧Region.wanted o (yielded ops a'.tmps)=Region.wanted o (yielded ops a.tmps):=by
 refine ⟨execOp_congr o hs fun x hx=>?_,?_⟩
 ·cases x with
  | tmp t=>
   have:=h t (List.mem_append_left _ (List.mem_filterMap.2 ⟨.tmp t,by simpa using hx,rfl⟩))
   simp [Act.eval,this]
  | _=>rfl
 ·unfold Region.wanted
  cases hg:o.guard with
  | none=>rfl
  | some gw=>
   obtain ⟨g,want⟩:=gw
   have hy:yielded ops a'.tmps g=yielded ops a.tmps g:=by
    unfold yielded
    cases ht:(ops[g]?).bind (·.dst) with
    | none=>rfl
    | some t=>
     have:=h t (by simp [Oper.looksAt,hg,ht])
     simp [this]
   simp only [hy]
theorem Jc{o:Oper}{k:Nat}(h:waits o k=true):∃ e∈o.after,Region.binds .any e=true∧e.on=k:=by
 unfold waits at h
 obtain ⟨e,he,hb⟩:=Array.any_eq_true'.1 h
 simp only [Bool.and_eq_true,beq_iff_eq] at hb
 exact ⟨e,he,hb.1,hb.2⟩
theorem Jz{md:Region.Mode}{listed:Array Bool}{i:Nat}:i∈Region.ready md ops listed ↔
 i<ops.size∧listed.getD i true=false∧∃ o,ops[i]?=some o∧∀ e∈o.after,Region.binds md e=true→listed.getD e.on false=true:=by
 unfold Region.ready
 simp only [List.mem_filter,List.mem_range,Bool.and_eq_true,Bool.not_eq_true']
 constructor
 ·rintro ⟨h1,h2,h3⟩
  refine ⟨h1,h2,?_⟩
  cases ho:ops[i]? with
  | none=>simp [ho] at h3
  | some o=>
   simp only [ho,Option.map_some,Option.getD_some] at h3
   refine ⟨o,rfl,fun e he hb=>?_⟩
   have:=Array.all_eq_true'.1 h3 e he
   simpa [hb] using this
 ·rintro ⟨h1,h2,o,ho,h3⟩
  refine ⟨h1,h2,?_⟩
  simp only [ho,Option.map_some,Option.getD_some]
  refine Array.all_eq_true'.2 fun e he=>?_
  cases hb:Region.binds md e with
  | false=>simp
  | true=>simpa using h3 e he hb
def left(listed:Array Bool):Nat:=((List.range listed.size).filter fun i=>!listed.getD i true).length
theorem filter_less{p p':Nat→Bool}{j:Nat}:∀ (l:List Nat),l.Nodup→j∈l→p j=true→(∀ x,p' x=(p x&&x != j))→(l.filter p).length=(l.filter p').length+1:=by
 intro l
 induction l with
 | nil=>intro _ h;simp at h
 | cons x l ih=>
  intro hn hj hp hp'
  rw [List.nodup_cons] at hn
  by_cases hx:x=j
  ·subst hx
   have e:l.filter p=l.filter p':=List.filter_congr fun y hy=>by
    rw [hp' y]
    have:y≠x:=fun e=>hn.1 (e▸hy)
    simp [this]
   simp [hp,hp' x,e]
  ·have:=ih hn.2 (by simpa [Ne.symm hx] using hj) hp hp'
   simp only [List.filter_cons,hp' x]
   by_cases hpx:p x=true
   ·simp [hpx,hx,this]
   ·simp [hpx,this]
theorem Vz{listed:Array Bool}{j:Nat}(hj:j<listed.size)(hl:listed.getD j true=false):left listed=left (listed.setIfInBounds j true)+1:=by
 unfold left
 simp only [Array.size_setIfInBounds]
 refine filter_less (j:=j) _ List.nodup_range (by simpa using hj) (by simp [hl]) fun x=>?_
 by_cases hx:x=j
 ·subst hx;simp [hj]
 ·have:j≠x:=Ne.symm hx
  simp [Array.getElem?_setIfInBounds_ne this,hx]
theorem left_pos{listed:Array Bool}{j:Nat}(hj:j<listed.size)(hl:listed.getD j true=false):0<left listed:=by
 rw [Vz hj hl];omega
structure Good (ops:Array Oper) (n:Nat) (nw:List Nat) (pre:List Nat):Prop where
 preOrd:preOk ops n nw [] pre=true
 preAny:∀ p∈pre,p<n∧p ∉ nw∧∃ o,ops[p]?=some o∧o.guard=none∧∀ e∈o.after,Region.binds .any e=true→e.on∈pre
 newLt:∀ k∈nw,k<n
 newPlain:∀ k∈nw,∀ o,ops[k]?=some o→o.guard=none
 newApart:∀ k∈nw,∀ (ok:Oper) (d:Tmp),ops[k]?=some ok→ok.dst=some d→∀ (j:Nat) (oj:Oper),j<n→ops[j]?=some oj→d ∉ oj.looksAt ops
 le:n≤ops.size
 noSel:∀ (j:Nat) (o:Oper),ops[j]?=some o→∀ cs b,o.op≠.select cs b
 low:∀ (j:Nat) (o:Oper),ops[j]?=some o→∀ e∈o.after,Region.binds .any e=true→e.on<j
 own:∀ (k:Nat) (o:Oper) (d:Tmp),k<n→ops[k]?=some o→o.dst=some d→d ∉ o.looksAt ops
 pair:∀ (k j:Nat) (ok oj:Oper) (d:Tmp),k<n→j<n→k≠j→ops[k]?=some ok→ops[j]?=some oj→ok.dst=some d →
  oj.dst≠some d∧(d ∉ oj.looksAt ops∨(k<j∧waits oj k=true)∨(j<k∧waits ok j=true))
 sink:n<ops.size→∀ i,i<n→i ∉ pre→∃ k,i<k∧k≤n∧∃ o,ops[k]?=some o∧waits o i=true
 chain:∀ (j:Nat) (o:Oper),n<j→ops[j]?=some o→waits o (j-1)=true
theorem preOk_cons{n p:Nat}{done r:List Nat}(h:preOk ops n nw done (p::r)=true) :
 p<n∧p ∉ nw∧p ∉ done∧(∃ o,ops[p]?=some o∧o.guard=none∧∀ e∈o.after,Region.binds .any e=true→e.on∈done)∧preOk ops n nw (p::done) r=true:=by
 unfold preOk at h
 simp only [Bool.and_eq_true,decide_eq_true_eq,Bool.not_eq_true'] at h
 obtain ⟨⟨⟨⟨h1,h2⟩,h3⟩,h4⟩,h5⟩:=h
 refine ⟨h1,by simpa using h2,by simpa using h3,?_,h5⟩
 cases ho:ops[p]? with
 | none=>simp [ho] at h4
 | some o=>
  simp only [ho,Bool.and_eq_true] at h4
  refine ⟨o,rfl,by simpa using h4.1,fun e he hb=>?_⟩
  have:=Array.all_eq_true'.1 h4.2 e he
  simpa [hb] using this
theorem preOk_mem{n:Nat}:∀ (r done:List Nat),preOk ops n nw done r=true→∀ p∈r,p<n∧p ∉ nw∧∃ o,ops[p]?=some o∧o.guard=none∧∀ e∈o.after,Region.binds .any e=true→e.on∈r∨e.on∈done:=by
 intro r
 induction r with
 | nil=>intro _ _ p hp;cases hp
 | cons q r ih=>
  intro done h p hp
  obtain ⟨h1,h2,_,⟨o,ho,hg,he⟩,h5⟩:=preOk_cons h
  rcases List.mem_cons.1 hp with rfl | hp
  ·exact ⟨h1,h2,o,ho,hg,fun e hm hb=>.inr (he e hm hb)⟩
  ·obtain ⟨k1,k2,o',ho',hg',he'⟩:=ih _ h5 p hp
   refine ⟨k1,k2,o',ho',hg',fun e hm hb=>?_⟩
   rcases he' e hm hb with h | h
   ·exact .inl (List.mem_cons_of_mem _ h)
   ·rcases List.mem_cons.1 h with rfl | h
    ·exact .inl (List.mem_cons_self ..)
    ·exact .inr h
theorem good_of{n:Nat}{pre:List Nat}(h:calmOk ops n nw pre=true):Good ops n nw pre:=by
 unfold calmOk at h
 rw [Bool.and_eq_true,Bool.and_eq_true,decide_eq_true_eq,List.all_eq_true] at h
 obtain ⟨⟨hn,hnew⟩,h⟩:=h
 rw [Bool.and_eq_true] at hnew
 obtain ⟨hnew,hpre⟩:=hnew
 have hpa:∀ p∈pre,p<n∧p ∉ nw∧∃ o,ops[p]?=some o∧o.guard=none∧∀ e∈o.after,Region.binds .any e=true→e.on∈pre:=by
  intro p hp
  have:=preOk_mem pre [] hpre p hp
  simpa using this
 have hnw:∀ k∈nw,k<n∧∀ ok,ops[k]?=some ok→ok.guard=none∧∀ d,ok.dst=some d→∀ (j:Nat) (oj:Oper),j<n→ops[j]?=some oj→d ∉ oj.looksAt ops:=by
  intro k hk
  unfold newOk at hnew
  rw [List.all_eq_true] at hnew
  have hh:=hnew k hk
  rw [Bool.and_eq_true,decide_eq_true_eq] at hh
  refine ⟨hh.1,fun ok hok=>?_⟩
  have h2:=hh.2
  simp only [hok,Bool.and_eq_true] at h2
  refine ⟨by simpa using h2.1,fun d hd j oj hj hoj=>?_⟩
  have h3:=h2.2
  simp only [hd,List.all_eq_true,List.mem_range] at h3
  have h4:=h3 j hj
  simp only [hoj] at h4
  simpa using h4
 have key:∀ (j:Nat) (oj:Oper),ops[j]?=some oj→(isSelect oj.op=false∧(∀ e∈oj.after,Region.binds .any e=true→e.on<j)) ∧
  (j<n→∀ (k:Nat) (ok:Oper) (d:Tmp),k<n→ops[k]?=some ok→ok.dst=some d →
    (k=j→d ∉ oj.looksAt ops)∧(k≠j→oj.dst≠some d∧(d ∉ oj.looksAt ops∨(k<j∧waits oj k=true)∨(j<k∧waits ok j=true)))) ∧
  (j=n→∀ i,i<n→i ∉ pre→∃ k,i<k∧k≤n∧∃ o,ops[k]?=some o∧waits o i=true)∧(n<j→waits oj (j-1)=true):=by
  intro j oj hj
  have hlt:j<ops.size:=(Array.getElem?_eq_some_iff.1 hj).1
  have hh:=h j (List.mem_range.2 hlt)
  simp only [hj,Bool.and_eq_true,Bool.or_eq_true,Bool.not_eq_true',decide_eq_true_eq,List.all_eq_true,List.any_eq_true,List.mem_range] at hh
  obtain ⟨⟨⟨⟨h1,h2⟩,h3⟩,h4⟩,h5⟩:=hh
  refine ⟨⟨h1,fun e he hb=>?_⟩,fun hjn k ok d hk hok hd=>?_,fun hjn i hi hpi=>?_,fun hnj=>?_⟩
  ·have:=Array.all_eq_true'.1 h2 e he
   simpa [hb] using this
  ·have h6:=(h3.resolve_left (by omega)) k hk
   simp only [hok,hd] at h6
   refine ⟨fun hkj=>?_,fun hkj=>?_⟩
   ·rw [if_pos hkj] at h6
    simpa using h6
   ·rw [if_neg hkj] at h6
    simp only [Bool.and_eq_true,bne_iff_ne,ne_eq,Bool.or_eq_true,Bool.not_eq_true'] at h6
    refine ⟨h6.1,?_⟩
    rcases h6.2 with h7 | h7
    ·exact .inl (by simpa using h7)
    ·by_cases hlt:k<j
     ·rw [if_pos hlt] at h7;exact .inr (.inl ⟨hlt,h7⟩)
     ·rw [if_neg hlt] at h7;exact .inr (.inr ⟨by omega,h7⟩)
  ·rcases h4 with h4 | h4
   ·exact absurd hjn h4
   ·obtain ⟨k,hk,hik,hw⟩:=(h4 i hi).resolve_left (by simpa using hpi)
    refine ⟨k,hik,by omega,?_⟩
    cases hok:ops[k]? with
    | none=>simp [hok] at hw
    | some ok=>exact ⟨ok,rfl,by simpa [hok] using hw⟩
  ·rcases h5 with h5 | h5
   ·omega
   ·exact h5
 refine ⟨hpre,hpa,fun k hk=>(hnw k hk).1,fun k hk o ho=>((hnw k hk).2 o ho).1,fun k hk ok d hok hd j oj hj hoj=>((hnw k hk).2 ok hok).2 d hd j oj hj hoj,hn,fun j o ho cs b he=>?_,fun j o ho=>(key j o ho).1.2,fun k o d hk ho hd=>((key k o ho).2.1 hk k o d hk ho hd).1 rfl,
  fun k j ok oj d hk hj hkj hok hoj hd=>((key j oj hoj).2.1 hj k ok d hk hok hd).2 hkj,fun hlt i hi hpi=>?_,fun j o hj ho=>(key j o ho).2.2.2 hj⟩
 ·have:=(key j o ho).1.1
  rw [he] at this
  cases this
 ·exact (key n _ (Array.getElem?_eq_getElem hlt)).2.2.1 rfl i hi hpi
theorem Jm{listed:Array Bool}{k:Nat}(hk:k<listed.size):listed.getD k true=listed.getD k false:=by simp [hk]
theorem left_zero{listed:Array Bool}(h:∀ k,k<listed.size→listed.getD k true=true):left listed=0:=by
 unfold left
 rw [List.length_eq_zero_iff,List.filter_eq_nil_iff]
 intro k hk
 have:=h k (by simpa using hk)
 simp only [this,Bool.not_true,Bool.false_eq_true,not_false_eq_true]
theorem tail_any{l:List Oper}{n:Nat}{pre:List Nat}{Q:Exit→Act→World→Prop}(g:Good l.toArray n nw pre):∀ (fuel m:Nat) (listed:Array Bool) (a:Act) (w:World),listed.size=l.length→n≤m →
 (∀ k,k<m→k<l.length→listed.getD k true=true)→(∀ k,m≤k→k<l.length→listed.getD k true=false)→left listed=fuel →
 wpList P l.toArray Q (l.drop m) a w→wpAny P .any l.toArray Q fuel listed a w:=by
 intro fuel
 induction fuel with
 | zero=>
  intro m listed a w hs hnm h1 h2 hl hw
  have hm:l.length≤m:=by
   rcases Nat.lt_or_ge m l.length with h | h
   ·have:=left_pos (j:=m) (by omega) (h2 m (Nat.le_refl _) h);omega
   ·exact h
  rw [List.drop_eq_nil_of_le hm] at hw
  refine ⟨List.eq_nil_iff_forall_not_mem.2 fun i hi=>?_,hw⟩
  obtain ⟨hi1,hi2,_⟩:=Jz.1 hi
  have hi1:i<l.length:=by simpa using hi1
  rw [h1 i (by omega) hi1] at hi2
  cases hi2
 | succ fuel ih=>
  intro m listed a w hs hnm h1 h2 hl hw
  have hm:m<l.length:=by
   rcases Nat.lt_or_ge m l.length with h | h
   ·exact h
   ·have:=left_zero (listed:=listed) (fun k hk=>h1 k (by omega) (by omega));omega
  obtain ⟨o,ho⟩:∃ o,l[m]?=some o:=⟨_,List.getElem?_eq_getElem hm⟩
  have hoa:l.toArray[m]?=some o:=by simpa using ho
  have hready:m∈Region.ready .any l.toArray listed:=Jz.2 ⟨by simpa using hm,h2 m (Nat.le_refl _) hm,o,hoa,fun e he hb=>by
   have:=g.low m o hoa e he hb
   rw [← Jm (by omega)]
   exact h1 _ this (by omega)⟩
  refine ⟨fun h=>(by rw [h] at hready;cases hready),fun i hi=>?_⟩
  obtain ⟨hi1,hi2,oi,hoi,hi3⟩:=Jz.1 hi
  have hi1:i<l.length:=by simpa using hi1
  have him:i=m:=by
   rcases Nat.lt_trichotomy i m with h | h | h
   ·rw [h1 i h hi1] at hi2;cases hi2
   ·exact h
   ·obtain ⟨e,he,hb,heq⟩:=Jc (g.chain i oi (by omega) hoi)
    have:=hi3 e he hb
    rw [heq,← Jm (by omega),h2 (i-1) (by omega) (by omega)] at this
    cases this
  subst him
  have hd:l.drop i=o::l.drop (i+1):=by
   rw [List.drop_eq_getElem_cons hm]
   congr 1
   have:=List.getElem?_eq_getElem hm
   rw [ho] at this
   exact (Option.some.inj this).symm
  rw [hd] at hw
  have hop:wpOp P l.toArray Q i (wpList P l.toArray Q (l.drop (i+1))) a w:=by
   unfold wpOp
   simp only [hoa]
   exact hw
  refine wpOp_mono (fun a' w' h'=>ih (i+1) _ a' w' (by simpa using hs) (by omega) ?_ ?_ ?_ h') hop
  ·intro k hk hkl
   by_cases hki:k=i
   ·subst hki;simp [hs,hm]
   ·have:i≠k:=Ne.symm hki
    simpa [Array.getElem?_setIfInBounds_ne this] using h1 k (by omega) hkl
  ·intro k hk hkl
   have:i≠k:=by omega
   simpa [Array.getElem?_setIfInBounds_ne this] using h2 k (by omega) hkl
  ·have:=Vz (j:=i) (by omega) hi2
   omega
theorem act_ext{a b:Act}(h:a.tmps=b.tmps)(h2:a.defers=b.defers):a=b:=by cases a;cases b;simp_all
theorem Vd{a b:Act}(h:a.tmps.size=b.tmps.size){d:Option Tmp}{u v:Value}(e:a.put d u=a.put d v):b.put d u=b.put d v:=by
 cases d with
 | none=>rfl
 | some d=>
  by_cases hd:d<a.tmps.size
  ·have:=congrArg (fun x=>x.tmps[d]?) e
   simp only [Act.put,Array.getElem?_setIfInBounds_self,hd,if_true,Option.some.injEq] at this
   rw [this]
  ·have hb:∀ x,b.tmps.setIfInBounds d x=b.tmps:=fun x=>Array.setIfInBounds_eq_of_size_le (Nat.le_of_not_lt (h▸hd))
   simp [Act.put,hb]
theorem Calm1.at{o:Oper}{a a':Act}{v:Value}(h:Calm1 P S o a v)(he:execOp a'.eval o=execOp a.eval o)(hs:a.tmps.size=a'.tmps.size){σ:Sig}{w:World}(hw:S σ w)
 (K:Act→World→Prop) (Q:Exit→Act→World→Prop) (hK:∀ w',S σ w'→K (a'.put o.dst v) w'):o.wp P a' w K Q:=by
 have h1:=h σ w hw (fun a1 w1=>a1=a.put o.dst v∧S σ w1) (fun _ _ _=>False) (fun w' hw'=>⟨rfl,hw'⟩)
 unfold Oper.wp at *
 rw [he]
 generalize (execOp a.eval o).run P w=r at *
 cases r with
 | ok n w'=>
  cases n <;> simp only [Oper.upon] at h1 ⊢
  case value u=>rw [Vd hs h1.1];exact hK _ h1.2
  case skip=>rw [Vd hs h1.1];exact hK _ h1.2
  case defer d=>
   have:=congrArg (fun x=>x.defers.length) h1.1
   cases hd:o.dst <;> simp [Act.put,hd] at this
  case enter f args=>
   refine Calls.mono h1 fun e w'' he=>?_
   cases e with
   | returned u=>
    show K (a'.put o.dst u) w''
    rw [Vd hs he.1];exact hK _ he.2
   | panicked c=>exact he.elim
   | outgrown=>obtain ⟨_,_,hh⟩:=he;exact hh.elim
  case row row args=>exact Rows.mono h1 fun u w'' he=>by rw [Vd hs he.1];exact hK _ he.2
 | halt x w'=>cases x <;> simp only [Oper.upon] at h1 ⊢
theorem New1.at{i:Nat}{o:Oper}{a a':Act}(h:New1 P S i o a)(he:execOp a'.eval o=execOp a.eval o)(hs:a.tmps.size=a'.tmps.size){σ:Sig}{w:World}(hw:S σ w)
 (K:Act→World→Prop) (Q:Exit→Act→World→Prop) (hK:∀ v w',S (σ.upd i v) w'→K (a'.put o.dst v) w'):o.wp P a' w K Q:=by
 have h1:=h σ w hw (fun a1 w1=>∃ v,a1=a.put o.dst v∧S (σ.upd i v) w1) (fun _ _ _=>False) (fun v w' hw'=>⟨v,rfl,hw'⟩)
 unfold Oper.wp at *
 rw [he]
 generalize (execOp a.eval o).run P w=r at *
 cases r with
 | ok n w'=>
  cases n <;> simp only [Oper.upon] at h1 ⊢
  case value u=>obtain ⟨v,e1,e2⟩:=h1;rw [Vd hs e1];exact hK _ _ e2
  case skip=>obtain ⟨v,e1,e2⟩:=h1;rw [Vd hs e1];exact hK _ _ e2
  case defer d=>
   obtain ⟨v,e1,e2⟩:=h1
   have:=congrArg (fun x=>x.defers.length) e1
   cases hd:o.dst <;> simp [Act.put,hd] at this
  case enter f args=>
   refine Calls.mono h1 fun e w'' he=>?_
   cases e with
   | returned u=>
    show K (a'.put o.dst u) w''
    obtain ⟨v,e1,e2⟩:=he
    rw [Vd hs e1];exact hK _ _ e2
   | panicked c=>exact he.elim
   | outgrown=>obtain ⟨_,_,hh⟩:=he;exact hh.elim
  case row row args=>exact Rows.mono h1 fun u w'' he=>by obtain ⟨v,e1,e2⟩:=he;rw [Vd hs e1];exact hK _ _ e2
 | halt x w'=>cases x <;> simp only [Oper.upon] at h1 ⊢
def PreRun(P:Program)(l:List Oper):List Nat→Act→Act→Prop
 | [],a,a0=>a0=a
 | p::r,a,a0=>∃ o v,l[p]?=some o∧(∀ w,(execOp a.eval o).run P w=.ok (.value v) w)∧PreRun P l r (a.put o.dst v) a0
theorem wpAny_new{Q:Exit→Act→World→Prop}{a a0:Act}{w:World}{l:List Oper}(S:Sig→World→Prop)(n:Nat)(nw:List Nat)(pre:List Nat)(hok:calmOk l.toArray n nw pre=true)(hS:S Sig.no w)
 (h:calm P l.toArray S nw (fun a'=>∀ σ w',(∀ k∈nw,(σ k).isSome=true)→S σ w'→wpList P l.toArray Q (l.drop n) (Jx l nw σ a') w') 0 (l.take n) a)
 (listed0:Array Bool) (hs0:listed0.size=l.length) (hl0:∀ k,k<l.length→listed0.getD k true=true→k∈pre) (hp0:∀ p∈pre,listed0.getD p true=true)
 (ha0:PreRun P l pre a a0) :
 wpAny P .any l.toArray Q (left listed0) listed0 a0 w:=by
 have g:=good_of hok
 have hnl:n≤l.length:=by simpa using g.le
 obtain ⟨vs,hvl,hR,hk⟩:=calm_frames _ _ _ h
 have hvn:vs.length=n:=by simp [hvl,hnl]
 obtain ⟨D,hD⟩:∃ D,(dets nw 0 (l.take n)).zip vs=D:=⟨_,rfl⟩
 rw [hD] at hR hk
 simp only [Nat.zero_add] at hk
 have hDl:D.length=n:=by rw [← hD];simp [dets_length,hvn,hnl]
 have hget:∀ k,k<n→(dets nw 0 (l.take n))[k]?=(l[k]?).map fun o=>if k∈nw then none else o.dst:=by
  intro k hk
  rw [dets_get]
  simp [hk]
 have hDk:∀ (k:Nat) (o:Oper) (v:Value),k<n→k ∉ nw→l[k]?=some o→vs[k]?=some v→D[k]?=some (o.dst,v):=by
  intro k o v hkn hnk ho hv
  rw [← hD,List.getElem?_zip_eq_some]
  refine ⟨?_,hv⟩
  rw [hget k hkn,ho]
  simp [hnk]
 have hDd:∀ (k:Nat) (t:Tmp) (v:Value),D[k]?=some (some t,v)→k<n∧k ∉ nw∧∃ o,l[k]?=some o∧o.dst=some t:=by
  intro k t v hk
  have hkn:k<n:=by rw [← hDl];exact (gJ hk).1
  rw [← hD,List.getElem?_zip_eq_some] at hk
  obtain ⟨h1,_⟩:=hk
  rw [hget k hkn,Option.map_eq_some_iff] at h1
  obtain ⟨o,ho,hd⟩:=h1
  by_cases hnk:k∈nw
  ·simp [hnk] at hd
  ·rw [if_neg hnk] at hd
   exact ⟨hkn,hnk,o,ho,hd⟩
 have huniq:∀ (j k:Nat) (t:Tmp) (u v:Value),k≠j→D[k]?=some (some t,u)→D[j]? ≠ some (some t,v):=by
  intro j k t u v hkj h1 h2
  obtain ⟨hkn,_,ok,hok',hdk⟩:=hDd k _ u h1
  obtain ⟨hjn,_,oj,hoj,hdj⟩:=hDd j _ v h2
  exact (g.pair k j ok oj t hkn hjn hkj (by simpa using hok') (by simpa using hoj) hdk).1 hdj
 obtain ⟨F,hF⟩:∃ F:Sig→Nat→Option (Option Tmp × Value),∀ σ k,F σ k=if k∈nw then (l[k]?).map fun o=>(o.dst,(σ k).getD undef) else D[k]?:=⟨_,fun _ _=>rfl⟩
 have hFd:∀ (σ:Sig) (k:Nat) (t:Tmp) (v:Value),F σ k=some (some t,v)→k<n∧∃ o,l[k]?=some o∧o.dst=some t:=by
  intro σ k t v hk
  rw [hF] at hk
  by_cases hnk:k∈nw
  ·rw [if_pos hnk,Option.map_eq_some_iff] at hk
   obtain ⟨o,ho,hd⟩:=hk
   exact ⟨g.newLt k hnk,o,ho,by simp at hd;exact hd.1⟩
  ·rw [if_neg hnk] at hk
   obtain ⟨h1,_,h3⟩:=hDd k t v hk
   exact ⟨h1,h3⟩
 have hFu:∀ (σ:Sig) (j k:Nat) (t:Tmp) (u v:Value),k≠j→F σ k=some (some t,u)→F σ j≠some (some t,v):=by
  intro σ j k t u v hkj h1 h2
  obtain ⟨hkn,ok,hok',hdk⟩:=hFd σ k _ u h1
  obtain ⟨hjn,oj,hoj,hdj⟩:=hFd σ j _ v h2
  exact (g.pair k j ok oj t hkn hjn hkj (by simpa using hok') (by simpa using hoj) hdk).1 hdj
 have hend:∀ (E:Nat→Prop) (a':Act) (σ:Sig),(∀ k,k<n→E k)→Agree (F σ) E a a'→a'=Jx l nw σ (Qs D a):=by
  intro E a' σ hall hA
  have hB:=Zd D huniq a n (by omega)
  rw [List.take_of_length_le (by omega)] at hB
  obtain ⟨k1,k2⟩:=putNew_keeps l σ nw (Qs D a)
  refine act_ext ?_ (hA.defers.trans (hB.defers.symm.trans k1.symm))
  apply Array.ext_getElem?
  intro t
  by_cases hts:t<a.tmps.size
  ·by_cases hw:∃ (k:Nat) (v:Value),F σ k=some (some t,v)
   ·obtain ⟨k,v,hkv⟩:=hw
    obtain ⟨hkn,o,ho,hd⟩:=hFd σ k _ v hkv
    rw [hA.wrote k t v (hall k hkn) hkv hts]
    have hkv':=hkv
    rw [hF] at hkv
    by_cases hnk:k∈nw
    ·rw [if_pos hnk,ho] at hkv
     simp at hkv
     rw [putNew_new l σ t k nw _ hnk (by simp [ho,hd]) (fun j hj hdj=>?_) (by rw [hB.size];exact hts),hkv.2]
     by_cases hjk:j=k
     ·exact hjk
     ·exfalso
      cases hlj:l[j]? with
      | none=>rw [hlj] at hdj;cases hdj
      | some oj=>
       rw [hlj] at hdj
       refine hFu σ j k t v ((σ j).getD undef) (Ne.symm hjk) hkv' ?_
       rw [hF,if_pos hj,hlj]
       simp at hdj
       simp [hdj]
    ·rw [if_neg hnk] at hkv
     rw [Vo l σ t nw _ fun j hj hdj=>?_,hB.wrote k t v hkn hkv hts]
     cases hlj:l[j]? with
     | none=>rw [hlj] at hdj;cases hdj
     | some oj=>
      rw [hlj] at hdj
      refine hFu σ j k t v ((σ j).getD undef) (fun e=>hnk (e▸hj)) hkv' ?_
      rw [hF,if_pos hj,hlj]
      simp at hdj
      simp [hdj]
   ·rw [hA.kept t fun k v _ hkv=>hw ⟨k,v,hkv⟩,Vo l σ t nw _ fun j hj hdj=>?_,hB.kept t fun k v _ hkv=>?_]
    ·obtain ⟨_,hnk,_⟩:=hDd k t v hkv
     exact hw ⟨k,v,by rw [hF,if_neg hnk];exact hkv⟩
    ·cases hlj:l[j]? with
     | none=>rw [hlj] at hdj;cases hdj
     | some oj=>
      rw [hlj] at hdj
      refine hw ⟨j,(σ j).getD undef,?_⟩
      rw [hF,if_pos hj,hlj]
      simp at hdj
      simp [hdj]
  ·rw [Array.getElem?_eq_none (show a'.tmps.size≤t from by rw [hA.size];exact Nat.le_of_not_lt hts),Array.getElem?_eq_none (show (Jx l nw σ (Qs D a)).tmps.size≤t from by rw [k2,hB.size];exact Nat.le_of_not_lt hts)]
 have main:∀ (fuel:Nat) (listed:Array Bool) (a':Act) (w':World) (σ:Sig),listed.size=l.length→left listed=fuel→(∀ j,n≤j→j<l.length→listed.getD j true=false) →
  (∀ k o,k<l.length→listed.getD k true=true→l[k]?=some o→∀ e∈o.after,Region.binds .any e=true→listed.getD e.on false=true) →
  (∀ k∈nw,listed.getD k true=true→(σ k).isSome=true)→(∀ p∈pre,listed.getD p true=true) →
  Agree (F σ) (fun k=>k<n∧listed.getD k true=true) a a'→S σ w'→wpAny P .any l.toArray Q fuel listed a' w':=by
  intro fuel
  induction fuel with
  | zero=>
   intro listed a' w' σ hs hl ht hc hσ hP hA hSw
   have hall:∀ k,k<l.length→listed.getD k true=true:=fun k hk=>by
    cases hkk:listed.getD k true with
    | true=>rfl
    | false=>have:=left_pos (j:=k) (by omega) hkk;omega
   have hn:n=l.length:=by
    rcases Nat.lt_or_ge n l.length with h | h
    ·have:=hall n h;rw [ht n (Nat.le_refl _) h] at this;cases this
    ·omega
   refine tail_any g 0 n listed a' w' hs (Nat.le_refl _) (fun k _ hk=>hall k hk) ht hl ?_
   rw [hend _ a' σ (fun k hk=>⟨hk,hall k (by omega)⟩) hA]
   exact hR σ w' (fun k hk=>hσ k hk (hall k (by have:=g.newLt k hk;omega))) hSw
  | succ fuel ih=>
   intro listed a' w' σ hs hl ht hc hσ hP hA hSw
   by_cases hpre:∀ k,k<n→listed.getD k true=true
   ·refine tail_any g (fuel+1) n listed a' w' hs (Nat.le_refl _) (fun k hk _=>hpre k hk) ht hl ?_
    rw [hend _ a' σ (fun k hk=>⟨hk,hpre k hk⟩) hA]
    exact hR σ w' (fun k hk=>hσ k hk (hpre k (g.newLt k hk))) hSw
   ·
    have hex:∃ k,k<n∧listed.getD k true=false:=by
     rcases Classical.em (∃ k,k<n∧listed.getD k true=false) with h | h
     ·exact h
     ·exact absurd (fun k hk=>by
       cases hkk:listed.getD k true with
       | true=>rfl
       | false=>exact absurd ⟨k,hk,hkk⟩ h) hpre
    obtain ⟨m,hm,hmin⟩:∃ m,(m<n∧listed.getD m true=false)∧∀ k,k<m→listed.getD k true=true:=by
     obtain ⟨k,hk⟩:=hex
     induction k using Nat.strongRecOn with
     | _ k ihk=>
      rcases Classical.em (∃ j,j<k∧listed.getD j true=false) with ⟨j,hj,hjl⟩ | h
      ·exact ihk j hj ⟨by omega,hjl⟩
      ·refine ⟨k,hk,fun j hj=>?_⟩
       cases hjj:listed.getD j true with
       | true=>rfl
       | false=>exact absurd ⟨j,hj,hjj⟩ h
    obtain ⟨om,hom⟩:∃ o,l[m]?=some o:=⟨_,List.getElem?_eq_getElem (by omega)⟩
    have hready:m∈Region.ready .any l.toArray listed:=Jz.2 ⟨by simp;omega,hm.2,om,by simpa using hom,fun e he hb=>by
     have:=g.low m om (by simpa using hom) e he hb
     rw [← Jm (by omega)]
     exact hmin _ this⟩
    refine ⟨fun h=>(by rw [h] at hready;cases hready),fun i hi=>?_⟩
    obtain ⟨hi1,hi2,o,ho,hi3⟩:=Jz.1 hi
    have hi1:i<l.length:=by simpa using hi1
    have hol:l[i]?=some o:=by simpa using ho
    have hin:i<n:=by
     rcases Nat.lt_trichotomy i n with h | h | h
     ·exact h
     ·
      subst h
      have hall:∀ d k,i-k=d→k<i→listed.getD k true=true:=by
       intro d
       induction d using Nat.strongRecOn with
       | _ d ihd=>
        intro k hd hk
        by_cases hpk:k∈pre
        ·exact hP k hpk
        obtain ⟨j,hkj,hji,oj,hoj,hwj⟩:=g.sink (by simpa using hi1) k hk hpk
        obtain ⟨e,he,hb,heq⟩:=Jc hwj
        rw [Jm (by omega),← heq]
        rcases Nat.lt_or_ge j i with hlt | hge
        ·have hjl:=ihd (i-j) (by omega) j rfl hlt
         exact hc j oj (by omega) hjl (by simpa using hoj) e he hb
        ·have:j=i:=by omega
         subst this
         rw [ho] at hoj
         cases hoj
         exact hi3 e he hb
      have:=hall _ m rfl hm.1
      rw [hm.2] at this
      cases this
     ·obtain ⟨e,he,hb,heq⟩:=Jc (g.chain i o h (by simpa using hol))
      have:=hi3 e he hb
      rw [heq,← Jm (by omega),ht (i-1) (by omega) (by omega)] at this
      cases this
    obtain ⟨v,hv,hcase⟩:=hk i o (by simp [hin,hol])
    have hAi:=Zd D huniq a i (by omega)
    have hsame:=same_op (ops:=l.toArray) (o:=o) (a:=Qs (D.take i) a) (a':=a') (g.noSel i o ho) (by
     intro t htl
     by_cases hw:∃ (k:Nat) (u:Value),F σ k=some (some t,u)
     ·obtain ⟨k,u,hku⟩:=hw
      obtain ⟨hkn,ok,hok',hdk⟩:=hFd σ k _ u hku
      have hnk:k ∉ nw:=fun hnk=>g.newApart k hnk ok t (by simpa using hok') hdk i o hin ho htl
      have hDu:D[k]?=some (some t,u):=by rw [hF,if_neg hnk] at hku;exact hku
      by_cases hts:t<a.tmps.size
      ·have hki:k≠i:=fun e=>by
        subst e
        rw [hol] at hok'
        cases hok'
        exact g.own k o t hkn ho hdk htl
       rcases (g.pair k i ok o t hkn hin hki (by simpa using hok') ho hdk).2 with h1 | ⟨hlt,hwt⟩ | ⟨hlt,hwt⟩
       ·exact absurd htl h1
       ·obtain ⟨e,he,hb,heq⟩:=Jc hwt
        have hkl:listed.getD k true=true:=by
         rw [Jm (by omega),← heq];exact hi3 e he hb
        rw [hA.wrote k t u ⟨hkn,hkl⟩ hku hts,hAi.wrote k t u hlt hDu hts]
       ·obtain ⟨e,he,hb,heq⟩:=Jc hwt
        have hkl:¬ listed.getD k true=true:=fun hkl=>by
         have:=hc k ok (by omega) hkl hok' e he hb
         rw [heq,← Jm (by omega),hi2] at this
         cases this
        rw [hA.kept t fun k' u' hk' hD'=>?_,hAi.kept t fun k' u' hk' hD'=>?_]
        ·by_cases hkk:k'=k
         ·subst hkk;omega
         ·exact huniq k k' t u' u hkk hD' hDu
        ·by_cases hkk:k'=k
         ·subst hkk;exact hkl hk'.2
         ·exact hFu σ k k' t u' u hkk hD' hku
      ·rw [Array.getElem?_eq_none (show a'.tmps.size≤t from by rw [hA.size];exact Nat.le_of_not_lt hts),Array.getElem?_eq_none (show (Qs (D.take i) a).tmps.size≤t from by rw [hAi.size];exact Nat.le_of_not_lt hts)]
     ·rw [hA.kept t fun k v _ hkv=>hw ⟨k,v,hkv⟩,hAi.kept t fun k v _ hkv=>?_]
      obtain ⟨_,hnk,_⟩:=hDd k t v hkv
      exact hw ⟨k,v,by rw [hF,if_neg hnk];exact hkv⟩)
    have hset:∀ k b,(listed.setIfInBounds i true).getD k b=if k=i then true else listed.getD k b:=by
     intro k b
     by_cases hki:k=i
     ·subst hki;simp [hs,hi1]
     ·have:i≠k:=Ne.symm hki
      simp [Array.getElem?_setIfInBounds_ne this,hki]
    have next:∀ (σ':Sig) (u:Value) w'',F σ' i=some (o.dst,u)→Agree (F σ') (fun k=>k<n∧listed.getD k true=true) a a'→(∀ k∈nw,(listed.setIfInBounds i true).getD k true=true→(σ' k).isSome=true)→S σ' w'' →
     wpAny P .any l.toArray Q fuel (listed.setIfInBounds i true) (a'.put o.dst u) w'':=by
     intro σ' u w'' hFi hA' hσ' hSw''
     refine ih _ _ w'' σ' (by simpa using hs) (by have:=Vz (j:=i) (by omega) hi2;omega) ?_ ?_ hσ' (fun p hp=>by rw [hset];split <;> first | rfl | exact hP p hp) ?_ hSw''
     ·intro j hj hjl
      rw [hset,if_neg (by omega)]
      exact ht j hj hjl
     ·intro k ok hkl hkt hok' e he hb
      rw [hset]
      split
      ·rfl
      ·rw [hset] at hkt
       by_cases hki:k=i
       ·subst hki
        rw [hol] at hok'
        cases hok'
        exact hi3 e he hb
       ·rw [if_neg hki] at hkt
        exact hc k ok hkl hkt hok' e he hb
     ·have:=hA'.put (j:=i) hFi (fun k t u' hki hD' e=>hFu σ' i k t u' u hki hD' (by rw [hFi,e]))
      refine ⟨this.defers,this.size,fun k t u hk=>this.wrote k t u ?_,fun t ht=>this.kept t fun k u hk=>ht k u ?_⟩
      ·obtain ⟨h1,h2⟩:=hk
       rw [hset] at h2
       by_cases hki:k=i
       ·exact .inr hki
       ·rw [if_neg hki] at h2;exact .inl ⟨h1,h2⟩
      ·rw [hset]
       rcases hk with ⟨h1,h2⟩ | rfl
       ·exact ⟨h1,by split <;> first | rfl | exact h2⟩
       ·exact ⟨hin,by simp⟩
    have hσset:i ∉ nw→∀ k∈nw,(listed.setIfInBounds i true).getD k true=true→(σ k).isSome=true:=fun hni k hk hkl=>by
     rw [hset,if_neg (fun (e:k=i)=>hni (e▸hk))] at hkl
     exact hσ k hk hkl
    unfold wpOp
    simp only [ho]
    rcases hcase with ⟨hni,hn1⟩ | ⟨hni,hw1,hc1⟩ | ⟨hni,hw1,rfl⟩
    ·have hg:=g.newPlain i hni o ho
     rw [show Region.wanted o (yielded l.toArray a'.tmps)=true by simp [Region.wanted,hg]]
     refine .inl (hn1.at hsame.1 (by rw [hAi.size,hA.size]) hSw _ _ fun u w'' hSu=>?_)
     refine next (σ.upd i u) u w'' (by rw [hF,if_pos hni,hol];simp [Sig.upd]) ?_ ?_ hSu
     ·have hne:∀ k,(k<n∧listed.getD k true=true)→F (σ.upd i u) k=F σ k:=fun k hk=>by
       have hki:k≠i:=fun e=>by subst e;rw [hi2] at hk;cases hk.2
       rw [hF,hF]
       simp [Sig.upd,hki]
      exact ⟨hA.defers,hA.size,fun k t u' hk hD'=>hA.wrote k t u' hk (by rw [← hne k hk];exact hD'),fun t ht=>hA.kept t fun k u' hk=>by rw [← hne k hk];exact ht k u' hk⟩
     ·intro k hk hkl
      by_cases hki:k=i
      ·simp [Sig.upd,hki]
      ·rw [hset,if_neg hki] at hkl
       simpa [Sig.upd,hki] using hσ k hk hkl
    ·rw [hsame.2,hw1]
     exact .inl (hc1.at hsame.1 (by rw [hAi.size,hA.size]) hSw _ _ fun w'' hSu=>next σ v w'' (by rw [hF,if_neg hni];exact hDk i o v hin hni hol hv) hA (hσset hni) hSu)
    ·rw [hsame.2,hw1]
     exact next σ undef w' (by rw [hF,if_neg hni];exact hDk i o undef hin hni hol hv) hA (hσset hni) hSw
 refine main _ listed0 a0 w Sig.no hs0 rfl (fun j hnj hj=>?_) (fun k o hk hkt ho e he hb=>?_) (fun k hk hkt=>?_) hp0 ?_ hS
 ·cases hjj:listed0.getD j true with
  | false=>rfl
  | true=>
   have:=(g.preAny j (hl0 j hj hjj)).1
   omega
 ·obtain ⟨_,_,o',ho',_,haf⟩:=g.preAny k (hl0 k hk hkt)
  obtain rfl:o'=o:=by simpa [ho] using ho'.symm
  have:=g.low k o' (by simpa using ho) e he hb
  rw [← Jm (by omega)]
  exact hp0 _ (haf e he hb)
 ·exact absurd hk (g.preAny k (hl0 k (by have:=g.newLt k hk;omega) hkt)).2.1
 ·have step:∀ (r done:List Nat) (a1:Act),preOk l.toArray n nw done r=true→PreRun P l r a1 a0→Agree (F Sig.no) (fun k=>k∈done) a a1 →
   (∀ k∈done,∀ o,l[k]?=some o→∀ e∈o.after,Region.binds .any e=true→e.on∈done)→Agree (F Sig.no) (fun k=>k∈r∨k∈done) a a0:=by
   intro r
   induction r with
   | nil=>
    intro done a1 _ hr hA _
    obtain rfl:a0=a1:=hr
    simpa using hA
   | cons p r ih=>
    intro done a1 hpo hr hA hcl
    obtain ⟨hpn,hpw,hpd,⟨o,hop,hgd,haf⟩,hpo'⟩:=preOk_cons hpo
    have hop:l[p]?=some o:=by simpa using hop
    obtain ⟨o',v,ho',hrun,hr'⟩:=hr
    obtain rfl:o'=o:=by simpa [hop] using ho'.symm
    obtain ⟨u,hu,hcase⟩:=hk p o' (by simp [hpn,hop])
    have hAi:=Zd D huniq a p (by omega)
    have hsame:=same_op (ops:=l.toArray) (o:=o') (a:=a1) (a':=Qs (D.take p) a) (g.noSel p o' (by simpa using hop)) (by
     intro t htl
     by_cases hts:t<a.tmps.size
     ·by_cases hw:∃ (k:Nat) (u:Value),F Sig.no k=some (some t,u)
      ·obtain ⟨k,x,hkx⟩:=hw
       obtain ⟨hkn,ok,hok',hdk⟩:=hFd Sig.no k _ x hkx
       have hnk:k ∉ nw:=fun hnk=>g.newApart k hnk ok t (by simpa using hok') hdk p o' hpn (by simpa using hop) htl
       have hDu:D[k]?=some (some t,x):=by rw [hF,if_neg hnk] at hkx;exact hkx
       have hkp:k≠p:=fun e=>by
        subst e
        rw [hop] at hok'
        cases hok'
        exact g.own k o' t hkn (by simpa using hop) hdk htl
       rcases (g.pair k p ok o' t hkn hpn hkp (by simpa using hok') (by simpa using hop) hdk).2 with h1 | ⟨hlt,hwt⟩ | ⟨hlt,hwt⟩
       ·exact absurd htl h1
       ·obtain ⟨e,he,hb,heq⟩:=Jc hwt
        have hkd:k∈done:=heq▸haf e he hb
        rw [hA.wrote k t x hkd hkx hts,hAi.wrote k t x hlt hDu hts]
       ·obtain ⟨e,he,hb,heq⟩:=Jc hwt
        have hkd:k ∉ done:=fun hkd=>hpd (heq▸hcl k hkd ok hok' e he hb)
        rw [hA.kept t fun k' u' hk' hD'=>?_,hAi.kept t fun k' u' hk' hD'=>?_]
        ·by_cases hkk:k'=k
         ·subst hkk;omega
         ·exact huniq k k' t u' x hkk hD' hDu
        ·by_cases hkk:k'=k
         ·subst hkk;exact hkd hk'
         ·exact hFu Sig.no k k' t u' x hkk hD' hkx
      ·rw [hA.kept t fun k v _ hkv=>hw ⟨k,v,hkv⟩,hAi.kept t fun k v _ hkv=>?_]
       obtain ⟨_,hnk,_⟩:=hDd k t v hkv
       exact hw ⟨k,v,by rw [hF,if_neg hnk];exact hkv⟩
     ·rw [Array.getElem?_eq_none (show (Qs (D.take p) a).tmps.size≤t from by rw [hAi.size];exact Nat.le_of_not_lt hts),Array.getElem?_eq_none (show a1.tmps.size≤t from by rw [hA.size];exact Nat.le_of_not_lt hts)])
    have hput:a1.put o'.dst v=a1.put o'.dst u:=by
     rcases hcase with ⟨hni,_⟩ | ⟨_,_,hc1⟩ | ⟨_,hw1,_⟩
     ·exact absurd hni hpw
     ·have h1:=hc1.at (a':=a1) hsame.1.symm (by rw [hAi.size,hA.size]) hS (fun a2 _=>a2=a1.put o'.dst u) (fun _ _ _=>False) (fun _ _=>rfl)
      unfold Oper.wp at h1
      rw [hrun w] at h1
      simpa only [Oper.upon] using h1
     ·exfalso
      simp [Region.wanted,hgd] at hw1
    rw [hput] at hr'
    have hFp:F Sig.no p=some (o'.dst,u):=by rw [hF,if_neg hpw];exact hDk p o' u hpn hpw hop hu
    have hA':=hA.put (j:=p) hFp (fun k t u' hki hD' e=>hFu Sig.no p k t u' u hki hD' (by rw [hFp,e]))
    have hA2:Agree (F Sig.no) (fun k=>k∈p::done) a (a1.put o'.dst u):=
     ⟨hA'.defers,hA'.size,fun k t x hk=>hA'.wrote k t x (by
      rcases List.mem_cons.1 hk with h | h
      ·exact .inr h
      ·exact .inl h),fun t ht=>hA'.kept t fun k x hk=>ht k x (by
      rcases hk with h | h
      ·exact List.mem_cons_of_mem _ h
      ·exact h▸List.mem_cons_self ..)⟩
    have:=ih (p::done) _ hpo' hr' hA2 (fun k hk o ho e he hb=>by
     rcases List.mem_cons.1 hk with rfl | hk
     ·rw [hop] at ho
      cases ho
      exact List.mem_cons_of_mem _ (haf e he hb)
     ·exact List.mem_cons_of_mem _ (hcl k hk o ho e he hb))
    refine ⟨this.defers,this.size,fun k t x hk=>this.wrote k t x ?_,fun t ht=>this.kept t fun k x hk=>ht k x ?_⟩
    ·rcases hk with hk | hk
     ·rcases List.mem_cons.1 hk with rfl | hk
      ·exact .inr (List.mem_cons_self ..)
      ·exact .inl hk
     ·exact .inr (List.mem_cons_of_mem _ hk)
    ·rcases hk with hk | hk
     ·exact .inl (List.mem_cons_of_mem _ hk)
     ·rcases List.mem_cons.1 hk with rfl | hk
      ·exact .inl (List.mem_cons_self ..)
      ·exact .inr hk
  have h0:Agree (F Sig.no) (fun k=>k∈([]:List Nat)) a a:=⟨rfl,rfl,fun k t v hk _ _=>(by cases hk),fun t _=>rfl⟩
  have:=step pre [] a g.preOrd ha0 h0 (fun k hk=>by cases hk)
  refine ⟨this.defers,this.size,fun k t x hk=>this.wrote k t x (.inl (hl0 k (by omega) hk.2)),fun t ht=>this.kept t fun k x hk=>ht k x ?_⟩
  rcases hk with hk | hk
  ·exact ⟨(g.preAny k hk).1,hp0 k hk⟩
  ·cases hk
theorem left_none(n:Nat):left (Array.replicate n false)=n:=by
 unfold left
 rw [List.filter_eq_self.2]
 ·simp
 ·intro k hk
  have hk:k<n:=by simpa using hk
  simp [hk]
theorem wp_region_new{id:Nat}{Q:Exit→Act→World→Prop}{a:Act}{w:World}{l:List Oper}(S:Sig→World→Prop)(n:Nat)(nw:List Nat)(hm:P.follows .mixedOrders=true)(hok:calmOk l.toArray n nw=true)(hS:S Sig.no w.drew)
 (h:calm P l.toArray S nw (fun a'=>∀ σ w',(∀ k∈nw,(σ k).isSome=true)→S σ w'→wpList P l.toArray Q (l.drop n) (Jx l nw σ a') w') 0 (l.take n) a):(Code.region id l.toArray true).wp P Q a w:=by
 refine wp_region_any hm ?_
 have hl:=left_none l.toArray.size
 have:=wpAny_new (a0:=a) S n nw [] hok hS h (Array.replicate l.toArray.size false) (by simp) (fun k hk hkt=>by simp [hk] at hkt) (fun p hp=>by cases hp) rfl
 rw [hl] at this
 exact this
def Ju(n:Nat)(ps:List Nat):Array Bool:=ps.foldl (fun l p=>l.setIfInBounds p true) (Array.replicate n false)
theorem foldl_listed(ps:List Nat):∀ (L:Array Bool) (k:Nat) (b:Bool),k<L.size→(ps.foldl (fun l p=>l.setIfInBounds p true) L).getD k b=(decide (k∈ps)||L.getD k b)∧(ps.foldl (fun l p=>l.setIfInBounds p true) L).size=L.size:=by
 induction ps with
 | nil=>intro L k b _;simp
 | cons p ps ih=>
  intro L k b hk
  obtain ⟨h1,h2⟩:=ih (L.setIfInBounds p true) k b (by simpa using hk)
  refine ⟨?_,by simpa using h2⟩
  rw [List.foldl_cons,h1]
  by_cases hkp:k=p
  ·subst hkp;simp [hk]
  ·have:p≠k:=Ne.symm hkp
   simp [Array.getElem?_setIfInBounds_ne this,hkp]
def freeOk(ops:Array Oper):List Nat→List Nat→Bool
 | _,[]=>true
 | done,p::r=>Region.free .any ops (Ju ops.size done) p&&freeOk ops (done++[p]) r
theorem wp_region_pres{id:Nat}{Q:Exit→Act→World→Prop}{a a0:Act}{w:World}{l:List Oper}(S:Sig→World→Prop)(n:Nat)(nw pre:List Nat)(hm:P.follows .mixedOrders=true)(hok:calmOk l.toArray n nw pre=true)
 (hns:Region.noSelect l.toArray=true) (hfr:freeOk l.toArray [] pre=true)
 (hQ:∀ c a d (u:Value) w,Q (.panic c) (a.put d u) w→Q (.panic c) a w) (ha0:PreRun P l pre a a0) (hS:S Sig.no w.drew)
 (h:calm P l.toArray S nw (fun a'=>∀ σ w',(∀ k∈nw,(σ k).isSome=true)→S σ w'→wpList P l.toArray Q (l.drop n) (Jx l nw σ a') w') 0 (l.take n) a):(Code.region id l.toArray true).wp P Q a w:=by
 refine wp_region_any hm ?_
 have g:=good_of hok
 have hl:=left_none l.toArray.size
 have hall:=foldl_listed pre (Array.replicate l.toArray.size false)
 have hsz:(Ju l.toArray.size pre).size=l.length:=by
  unfold Ju
  rcases Nat.eq_zero_or_pos l.length with h0 | h0
  ·have:∀ (ps:List Nat) (L:Array Bool),(ps.foldl (fun l p=>l.setIfInBounds p true) L).size=L.size:=by
    intro ps
    induction ps with
    | nil=>intro L;rfl
    | cons p ps ih=>intro L;rw [List.foldl_cons,ih];simp
   rw [this];simp
  ·rw [(hall 0 true (by simpa using h0)).2];simp
 have key:=wpAny_new (a0:=a0) S n nw pre hok hS h (Ju l.toArray.size pre) hsz
  (fun k hk hkt=>by
    unfold Ju at hkt
    rw [(hall k true (by simpa using hk)).1] at hkt
    simpa [hk] using hkt) (fun p hp=>by
    have hpn:=(g.preAny p hp).1
    have hle:=g.le
    unfold Ju
    rw [(hall p true (by simp only [Array.size_replicate];omega)).1]
    simp [hp]) ha0
 have step:∀ (r done:List Nat) (a1:Act),preOk l.toArray n nw done.reverse r=true→freeOk l.toArray done r=true→PreRun P l r a1 a0 →
  wpAny P .any l.toArray Q (left (Ju l.toArray.size (done++r))) (Ju l.toArray.size (done++r)) a0 w.drew→wpAny P .any l.toArray Q (left (Ju l.toArray.size done)) (Ju l.toArray.size done) a1 w.drew:=by
  intro r
  induction r with
  | nil=>
   intro done a1 _ _ hr hw
   obtain rfl:a0=a1:=hr
   simpa using hw
  | cons p r ih=>
   intro done a1 hpo hfo hr hw
   obtain ⟨hpn,hpw,hpd,⟨o,hop,hgd,haf⟩,hpo'⟩:=preOk_cons hpo
   obtain ⟨o',v,ho',hrun,hr'⟩:=hr
   obtain rfl:o'=o:=by simpa [ho'] using hop
   unfold freeOk at hfo
   rw [Bool.and_eq_true] at hfo
   have hplen:p<l.toArray.size:=by have:=g.le;omega
   have hd:=foldl_listed done (Array.replicate l.toArray.size false)
   have hdsz:(Ju l.toArray.size done).size=l.toArray.size:=by unfold Ju;rw [(hd p true (by simpa using hplen)).2];simp
   have hset:(Ju l.toArray.size done).setIfInBounds p true=Ju l.toArray.size (done++[p]):=by unfold Ju;rw [List.foldl_append];rfl
   have hpf:(Ju l.toArray.size done).getD p true=false:=by
    unfold Ju
    rw [(hd p true (by simpa using hplen)).1]
    have hpd':p ∉ done:=by simpa using hpd
    have hpl2:p<l.length:=by simpa using hplen
    simp [hpd',hpl2]
   have hl2:=Vz (listed:=Ju l.toArray.size done) (j:=p) (by omega) hpf
   have hnext:=ih (done++[p]) _ (by simpa using hpo') hfo.2 hr' (by simpa using hw)
   rw [hset] at hl2
   rw [← hset] at hnext
   have hready:(Region.ready .any l.toArray (Ju l.toArray.size done)).contains p=true:=by
    simp only [List.contains_iff_mem]
    refine Jz.2 ⟨by omega,hpf,o',hop,fun e he hb=>?_⟩
    have hon:=haf e he hb
    have hlow:=g.low p o' hop e he hb
    unfold Ju
    rw [(hd e.on false (by simp only [Array.size_replicate];omega)).1]
    simp only [List.mem_reverse] at hon
    simp [hon]
   have hfin:=wpAny_take (v:=v) (md:=.any) hop hns hfo.1 hready (fun c a w h=>hQ c _ _ _ w h) (.inl ⟨by simp [Region.wanted,hgd],hrun⟩) hnext
   rw [hl2,← hset]
   exact hfin
 have:=step pre [] a (by simpa using g.preOrd) hfr ha0 (by simpa using key)
 have e0:Ju l.toArray.size []=Array.replicate l.toArray.size false:=rfl
 rw [e0,hl] at this
 exact this
theorem Qa{id:Nat}{Q:Exit→Act→World→Prop}{a:Act}{w:World}{l:List Oper}(S:World→Prop)(n:Nat)(hm:P.follows .mixedOrders=true)(hok:calmOk l.toArray n []=true)(hS:S w.drew)
 (h:calm P l.toArray (fun _=>S) [] (fun a'=>∀ w',S w'→wpList P l.toArray Q (l.drop n) a' w') 0 (l.take n) a):(Code.region id l.toArray true).wp P Q a w:=by
 refine wp_region_new (fun _=>S) n [] hm hok hS ?_
 have mono:∀ (R R':Act→Prop),(∀ a,R a→R' a)→∀ (m:List Oper) (i:Nat) (a:Act),calm P l.toArray (fun _=>S) [] R i m a→calm P l.toArray (fun _=>S) [] R' i m a:=by
  intro R R' hRR m
  induction m with
  | nil=>exact fun i a h=>hRR a h
  | cons o m ih=>
   intro i a h
   rcases h with ⟨h1,h2,h3⟩ | ⟨h1,h2,v,h3,h4⟩ | ⟨h1,h2,h3⟩
   ·exact .inl ⟨h1,h2,ih _ _ h3⟩
   ·exact .inr (.inl ⟨h1,h2,v,h3,ih _ _ h4⟩)
   ·exact .inr (.inr ⟨h1,h2,ih _ _ h3⟩)
 exact mono _ _ (fun a h _ w' _ hw=>h w' hw) _ _ _ h
end
def exN(st n:Nat):Nat→Nat→Nat
 | 0,e=>e
 | f+1,e=>if 2^(st+1)≤n/2^e then exN st n f (e+1) else e
def exF(st n:Nat):Nat:=exN st n 64 0
def bandF(st n:Nat):Nat × Nat × Nat:=(exF st n*2^st+n/2^exF st n,exF st n,n%2^exF st n)
def Jy(n:Nat):Nat × Nat × Nat:=if n=258 then (285,0,0) else if n<11 then (254+n,0,0) else (257+(bandF 2 (n-3)).1,(bandF 2 (n-3)).2)
def Jk(n:Nat):Nat × Nat × Nat:=if n<5 then (n-1,0,0) else bandF 1 (n-1)
def lensT:List (Nat × Nat):=[(3,0),(4,0),(5,0),(6,0),(7,0),(8,0),(9,0),(10,0),(11,1),(13,1),(15,1),(17,1),(19,2),(23,2),(27,2),(31,2),(35,3),(43,3),(51,3),(59,3),(67,4),(83,4),(99,4),(115,4),(131,5),(163,5),(195,5),(227,5),(258,0)]
def distsT:List (Nat × Nat):=[(1,0),(2,0),(3,0),(4,0),(5,1),(7,1),(9,2),(13,2),(17,3),(25,3),(33,4),(49,4),(65,5),(97,5),(129,6),(193,6),(257,7),(385,7),(513,8),(769,8),(1025,9),(1537,9),(2049,10),(3073,10),(4097,11),(6145,11),(8193,12),(12289,12),(16385,13),(24577,13)]
def findT(n:Nat):List (Nat × Nat)→Nat→Nat × Nat × Nat→Nat × Nat × Nat
 | [],_,r=>r
 | (a,k)::t,i,r=>findT n t (i+1) (if a≤n then (i,k,n-a) else r)
def refLen(n:Nat):Nat × Nat × Nat:=findT n lensT 257 (257,0,0)
def refDist(n:Nat):Nat × Nat × Nat:=findT n distsT 0 (0,0,0)
def chk(p:Nat→Bool):Nat→Nat→Bool
 | 0,a=>p a
 | d+1,a=>chk p d a&&chk p d (a+2^d)
theorem chk_all{p:Nat→Bool}:∀ (d a:Nat),chk p d a=true→∀ x,x<2^d→p (a+x)=true:=by
 intro d
 induction d with
 | zero=>
  intro a h x hx;have:x=0:=by simpa using hx
  subst this;exact h
 | succ d ih=>
  intro a h x hx
  rw [chk,Bool.and_eq_true] at h
  rcases Nat.lt_or_ge x (2^d) with h1 | h1
  ·exact ih a h.1 x h1
  ·have:=ih (a+2^d) h.2 (x-2^d) (by rw [Nat.pow_succ] at hx;omega)
   rwa [show a+2^d+(x-2^d)=a+x by omega] at this
def distOk(x:Nat):Bool:=decide (Jk (x+1)=refDist (x+1))
theorem lenSym_bd_all:∀ x:Fin 256,257≤(Jy (x.1+3)).1∧(Jy (x.1+3)).1≤285∧(Jy (x.1+3)).2.1≤5∧(Jy (x.1+3)).2.2<2^(Jy (x.1+3)).2.1:=by decide +kernel
theorem lenSym_bd{n:Nat}(h:3≤n∧n≤258):257≤(Jy n).1∧(Jy n).1≤285∧(Jy n).2.1≤5∧(Jy n).2.2<2^(Jy n).2.1:=by
 have:=lenSym_bd_all ⟨n-3,by omega⟩
 simpa [show n-3+3=n by omega] using this
def distBd(x:Nat):Bool:=decide ((Jk (x+1)).1≤29∧(Jk (x+1)).2.1≤13∧(Jk (x+1)).2.2<2^(Jk (x+1)).2.1)
theorem distBd_chk:∀ k:Fin 16,chk distBd 11 (2048*k.1)=true:=by decide +kernel
theorem distSym_bd{n:Nat}(h:1≤n∧n≤32768):(Jk n).1≤29∧(Jk n).2.1≤13∧(Jk n).2.2<2^(Jk n).2.1:=by
 have h1:=distBd_chk ⟨(n-1)/2048,by omega⟩
 have:=chk_all 11 _ h1 ((n-1)%2048) (by omega)
 rw [show 2048*((n-1)/2048)+(n-1)%2048=n-1 by omega] at this
 unfold distBd at this
 rw [show n-1+1=n by omega] at this
 exact of_decide_eq_true this
def byt(s:ByteArray)(i:Nat):UInt8:=s.data.getD i 0
def commN(s:ByteArray):Nat→Nat→Nat→Nat
 | 0,_,_=>0
 | f+1,a,b=>if b<s.size∧byt s a=byt s b then commN s f (a+1) (b+1)+1 else 0
def comm(s:ByteArray)(a b:Nat):Nat:=commN s 258 a b
theorem commN_le(s:ByteArray):∀ f a b,commN s f a b≤f:=by
 intro f
 induction f with
 | zero=>intro a b;exact Nat.le_refl _
 | succ f ih=>
  intro a b
  unfold commN
  split
  ·have:=ih (a+1) (b+1);omega
  ·omega
theorem commN_is(s:ByteArray):∀ f a b n,n≤f→(∀ j,j<n→b+j<s.size∧byt s (a+j)=byt s (b+j))→(n=f∨¬ (b+n<s.size∧byt s (a+n)=byt s (b+n)))→commN s f a b=n:=by
 intro f
 induction f with
 | zero=>intro a b n hn _ _;unfold commN;omega
 | succ f ih=>
  intro a b n hn h1 h2
  cases n with
  | zero=>
   unfold commN
   rw [if_neg (by rcases h2 with h | h;exact absurd h (by omega);simpa using h)]
  | succ n=>
   have h0:=h1 0 (by omega)
   unfold commN
   rw [if_pos (by simpa using h0),ih (a+1) (b+1) n (by omega) (fun j hj=>?_) ?_]
   ·rcases h2 with h | h
    ·exact .inl (by omega)
    ·right
     rw [show a+1+n=a+(n+1) by omega,show b+1+n=b+(n+1) by omega]
     exact h
   ·have:=h1 (j+1) (by omega)
    rw [show a+1+j=a+(j+1) by omega,show b+1+j=b+(j+1) by omega]
    exact this
theorem comm_is{s:ByteArray}{a b n:Nat}(hn:n≤258)(h1:∀ j,j<n→b+j<s.size∧byt s (a+j)=byt s (b+j))(h2:n=258∨¬ (b+n<s.size∧byt s (a+n)=byt s (b+n))):comm s a b=n:=commN_is s 258 a b n hn h1 h2
theorem commN_get(s:ByteArray):∀ f a b j,j<commN s f a b→b+j<s.size∧byt s (a+j)=byt s (b+j):=by
 intro f
 induction f with
 | zero=>intro a b j hj;unfold commN at hj;omega
 | succ f ih=>
  intro a b j hj
  unfold commN at hj
  split at hj
  ·next h=>
   cases j with
   | zero=>simpa using h
   | succ j=>
    have:=ih (a+1) (b+1) j (by omega)
    rw [show a+1+j=a+(j+1) by omega,show b+1+j=b+(j+1) by omega] at this
    exact this
  ·omega
theorem comm_get{s:ByteArray}{a b j:Nat}(h:j<comm s a b):b+j<s.size∧byt s (a+j)=byt s (b+j):=commN_get s 258 a b j h
theorem comm_le(s:ByteArray)(a b:Nat):comm s a b≤258:=commN_le s 258 a b
def key3(s:ByteArray)(i:Nat):UInt8 × UInt8 × UInt8:=(byt s i,byt s (i+1),byt s (i+2))
theorem comm3{s:ByteArray}{a b:Nat}(h:key3 s a=key3 s b)(hb:b+3≤s.size):3≤comm s a b:=by
 simp only [key3,Prod.mk.injEq] at h
 obtain ⟨h0,h1,h2⟩:=h
 unfold comm
 rw [show (258:Nat)=255+3 by rfl]
 unfold commN
 rw [if_pos ⟨by omega,h0⟩]
 unfold commN
 rw [if_pos ⟨by omega,h1⟩]
 unfold commN
 rw [if_pos ⟨by omega,h2⟩]
 omega
theorem comm3'{s:ByteArray}{a b:Nat}(h:3≤comm s a b):key3 s a=key3 s b∧b+3≤s.size:=by
 have h0:=comm_get (j:=0) (Nat.lt_of_lt_of_le (by omega) h)
 have h1:=comm_get (j:=1) (Nat.lt_of_lt_of_le (by omega) h)
 have h2:=comm_get (j:=2) (Nat.lt_of_lt_of_le (by omega) h)
 simp only [Nat.add_zero] at h0
 exact ⟨by simp [key3,h0.2,h1.2,h2.2],by omega⟩
def prev(s:ByteArray)(k:UInt8 × UInt8 × UInt8):Nat→Nat
 | 0=>0
 | n+1=>if n+3≤s.size∧key3 s n=k then n+1 else prev s k n
theorem prev_le(s:ByteArray)(k:UInt8 × UInt8 × UInt8):∀ n,prev s k n≤n:=by
 intro n
 induction n with
 | zero=>exact Nat.le_refl _
 | succ n ih=>unfold prev;split <;> omega
theorem prev_key{s:ByteArray}{k:UInt8 × UInt8 × UInt8}:∀ n,0<prev s k n→key3 s (prev s k n-1)=k∧prev s k n-1+3≤s.size:=by
 intro n
 induction n with
 | zero=>intro h;unfold prev at h;omega
 | succ n ih=>
  intro h
  unfold prev at h ⊢
  split
  ·next h1=>exact ⟨by simpa using h1.2,by simpa using h1.1⟩
  ·next h1=>rw [if_neg h1] at h;exact ih h
theorem prev_none{s:ByteArray}{k:UInt8 × UInt8 × UInt8}:∀ n q,prev s k n≤q→q<n→¬ (q+3≤s.size∧key3 s q=k):=by
 intro n
 induction n with
 | zero=>intro q _ h;omega
 | succ n ih=>
  intro q h1 h2
  unfold prev at h1
  split at h1
  ·omega
  ·next h=>
   by_cases hq:q=n
   ·subst hq;exact h
   ·exact ih q h1 (by omega)
def best(s:ByteArray)(at_:Nat):Nat→Nat × Nat
 | 0=>(0,0)
 | d+1=>if (best s at_ d).1<comm s (at_-(d+1)) at_ then (comm s (at_-(d+1)) at_,d+1) else best s at_ d
def trim(p:Nat × Nat):Nat × Nat:=if 3≤p.1 then p else (0,0)
theorem trim_skip{s:ByteArray}{at_ d:Nat}(h:comm s (at_-(d+1)) at_<3):trim (best s at_ (d+1))=trim (best s at_ d):=by
 have e2:best s at_ (d+1)=if (best s at_ d).1<comm s (at_-(d+1)) at_ then (comm s (at_-(d+1)) at_,d+1) else best s at_ d:=by rw [best]
 rw [e2]
 split
 ·next h1=>
  unfold trim
  rw [if_neg (by simp only;omega),if_neg (by omega)]
 ·rfl
theorem trim_hit{s:ByteArray}{at_ d:Nat}(h:3≤comm s (at_-(d+1)) at_) :
 trim (best s at_ (d+1))=if (trim (best s at_ d)).1<comm s (at_-(d+1)) at_ then (comm s (at_-(d+1)) at_,d+1) else trim (best s at_ d):=by
 by_cases hl:3≤(best s at_ d).1
 ·have e:trim (best s at_ d)=best s at_ d:=by unfold trim;rw [if_pos hl]
  rw [e]
  have e2:best s at_ (d+1)=if (best s at_ d).1<comm s (at_-(d+1)) at_ then (comm s (at_-(d+1)) at_,d+1) else best s at_ d:=by rw [best]
  rw [e2]
  split
  ·unfold trim;rw [if_pos h]
  ·unfold trim;rw [if_pos hl]
 ·have e:trim (best s at_ d)=(0,0):=by unfold trim;rw [if_neg hl]
  rw [e,if_pos (by simp only;omega)]
  have e2:best s at_ (d+1)=(comm s (at_-(d+1)) at_,d+1):=by rw [best,if_pos (by omega)]
  rw [e2]
  unfold trim;rw [if_pos h]
theorem trim_skips{s:ByteArray}{at_ d:Nat}:∀ e,(∀ q,d≤q→q<e→comm s (at_-(q+1)) at_<3)→d≤e→trim (best s at_ e)=trim (best s at_ d):=by
 intro e
 induction e with
 | zero=>
  intro _ h;have:d=0:=by omega
  rw [this]
 | succ e ih=>
  intro h hle
  by_cases hd:d=e+1
  ·rw [hd]
  ·rw [trim_skip (h e (by omega) (by omega)),ih (fun q h1 h2=>h q h1 (by omega)) (by omega)]
def seen(s:ByteArray)(at_ p:Nat):Nat × Nat:=trim (best s at_ (min (at_-p) 4096))
theorem seen_skip{s:ByteArray}{at_ m:Nat}(hm:m≤at_):seen s at_ (prev s (key3 s at_) m)=seen s at_ m:=by
 unfold seen
 have hp:=prev_le s (key3 s at_) m
 refine trim_skips _ (fun q h1 h2=>?_) (by omega)
 rcases Nat.lt_or_ge (comm s (at_-(q+1)) at_) 3 with h | h
 ·exact h
 ·exfalso
  obtain ⟨hk,hsz⟩:=comm3' h
  exact prev_none m (at_-(q+1)) (by omega) (by omega) ⟨by omega,hk⟩
theorem seen_start(s:ByteArray)(at_:Nat):seen s at_ at_=(0,0):=by
 unfold seen
 rw [Nat.sub_self]
 rfl
theorem seen_hit{s:ByteArray}{at_ p:Nat}(hp:0<p)(hpa:p≤at_)(hw:at_-(p-1)≤4096)(hk:key3 s (p-1)=key3 s at_)(ha:at_+3≤s.size) :
 seen s at_ (p-1)=if (seen s at_ p).1<comm s (p-1) at_ then (comm s (p-1) at_,at_-(p-1)) else seen s at_ p:=by
 have h3:=comm3 hk ha
 unfold seen
 rw [show min (at_-(p-1)) 4096=(at_-p)+1 by omega,show min (at_-p) 4096=at_-p by omega]
 have e:at_-(at_-p+1)=p-1:=by omega
 rw [trim_hit (by rw [e];exact h3),e,show at_-p+1=at_-(p-1) by omega]
def found(s:ByteArray)(at_:Nat):Nat × Nat:=trim (best s at_ (min at_ 4096))
theorem seen_end{s:ByteArray}{at_ p:Nat}(hpa:p≤at_)(h:p=0∨4096<at_-(p-1)):seen s at_ p=found s at_:=by
 unfold seen found
 rcases h with h | h
 ·subst h;rfl
 ·rw [show min (at_-p) 4096=min at_ 4096 by omega]
theorem found_none{s:ByteArray}{at_:Nat}(h:s.size<at_+3):found s at_=(0,0):=by
 unfold found
 rw [trim_skips (d:=0) _ (fun q _ _=>?_) (by omega)]
 ·rfl
 ·rcases Nat.lt_or_ge (comm s (at_-(q+1)) at_) 3 with h1 | h1
  ·exact h1
  ·have:=(comm3' h1).2;omega
theorem best_far(s:ByteArray)(at_:Nat):∀ d,(best s at_ d).2≤d∧(0<(best s at_ d).1→1≤(best s at_ d).2∧(best s at_ d).1=comm s (at_-(best s at_ d).2) at_)∧(best s at_ d).1≤258:=by
 intro d
 induction d with
 | zero=>simp [best]
 | succ d ih=>
  rw [best]
  split
  ·exact ⟨Nat.le_refl _,fun _=>⟨by simp,rfl⟩,comm_le ..⟩
  ·exact ⟨by omega,ih.2.1,ih.2.2⟩
structure Tok where
 len:Int
 dist:Int
 lit:Int
deriving DecidableEq
def tcell(t:Tok):List Value:=[.int .i64 t.len,.int .i64 t.dist,.int .i64 t.lit]
def tval(t:Tok):Value:=.agg #[.int .i64 t.len,.int .i64 t.dist,.int .i64 t.lit]
theorem tcell_length(t:Tok):(tcell t).length=3:=rfl
theorem tcell_one(t:Tok):∀ u∈tcell t,u.oneCell'=true:=by intro u hu;simp [tcell] at hu;rcases hu with rfl | rfl | rfl <;> rfl
def tokAt(s:ByteArray)(i:Nat):Tok:=if 3≤(found s i).1 then ⟨(found s i).1,(found s i).2,0⟩ else ⟨0,0,(byt s i).toNat⟩
def stepAt(s:ByteArray)(i:Nat):Nat:=if 3≤(found s i).1 then (found s i).1 else 1
def Vx(s:ByteArray):Nat→Nat→List Tok
 | 0,_=>[]
 | f+1,i=>if i<s.size then tokAt s i::Vx s f (i+stepAt s i) else []
def parse(s:ByteArray):List Tok:=Vx s s.size 0
theorem parseN_end{s:ByteArray}{f i:Nat}(h:s.size≤i):Vx s f i=[]:=by
 cases f with
 | zero=>rfl
 | succ f=>rw [Vx,if_neg (by omega)]
theorem found_is(s:ByteArray)(i:Nat):found s i=best s i (min i 4096)∧3≤(found s i).1∨found s i=(0,0):=by
 unfold found trim
 split
 ·next h=>exact .inl ⟨rfl,h⟩
 ·exact .inr rfl
theorem found_comm{s:ByteArray}{i:Nat}(h:3≤(found s i).1):1≤(found s i).2∧(found s i).2≤i∧(found s i).2≤4096∧(found s i).1≤258∧(found s i).1=comm s (i-(found s i).2) i:=by
 rcases found_is s i with ⟨he,_⟩ | he
 ·rw [he] at h ⊢
  have hb:=best_far s i (min i 4096)
  have h2:=hb.2.1 (by omega)
  exact ⟨h2.1,by omega,by omega,hb.2.2,h2.2⟩
 ·rw [he] at h;simp at h
theorem found_le{s:ByteArray}{i:Nat}(h:3≤(found s i).1):i+(found s i).1≤s.size:=by
 have hc:=(found_comm h).2.2.2.2
 have:=comm_get (s:=s) (a:=i-(found s i).2) (b:=i) (j:=(found s i).1-1) (by omega)
 omega
theorem stepAt_pos(s:ByteArray)(i:Nat):1≤stepAt s i:=by unfold stepAt;split <;> omega
theorem stepAt_le{s:ByteArray}{i:Nat}(hi:i<s.size):i+stepAt s i≤s.size:=by
 unfold stepAt
 split
 ·next h=>exact found_le h
 ·omega
def may(t:Tok)(n:Nat):Bool:=
 if t.len=0 then decide (t.dist=0∧0≤t.lit∧t.lit<256) else decide (t.lit=0∧3≤t.len∧t.len≤258∧1≤t.dist∧t.dist≤32768∧t.dist≤n)
def copyN(d:Nat)(out:List Int):Nat→List Int
 | 0=>out
 | k+1=>copyN d out k++[(copyN d out k).getD ((copyN d out k).length-d) 0]
inductive Res where
 | err (e:Nat)
 | ok (out:List Int)
def exp(most:Int):List Tok→List Int→Res
 | [],out=>.ok out
 | t::l,out=>
  if may t out.length=false then .err 2
  else if IntKind.i64.wrap (most-out.length)<max t.len 1 then .err 12
  else if t.len=0 then exp most l (out++[t.lit])
  else exp most l (copyN t.dist.toNat out t.len.toNat)
theorem tok_cells{w:World}{b o c i n:Nat}{l:List Tok}{t:Tok}(h:Rd w 3 (.slice (some ⟨b,o,none⟩) n c) n (rows tcell l))(ht:l[i]?=some t) :
 w.cell? ⟨b,o+i*3,none⟩=some (.int .i64 t.len)∧w.cell? ⟨b,o+i*3+1,none⟩=some (.int .i64 t.dist)∧w.cell? ⟨b,o+i*3+2,none⟩=some (.int .i64 t.lit):=by
 have h0:=h.cell ((Jt tcell tcell_length ht 0 (by omega)).trans rfl)
 have h1:=h.cell ((Jt tcell tcell_length ht 1 (by omega)).trans rfl)
 have h2:=h.cell ((Jt tcell tcell_length ht 2 (by omega)).trans rfl)
 exact ⟨h0,h1,h2⟩
def bcells(l:List Int):List Value:=l.map (.int .u8)
section
variable {α:Type} {key:α→Int}
inductive FullC (key:α→Int) (b:Nat):List α→Prop
 | nil:FullC key b []
 | cons {x r:List α}:x.length=b→Srt key x→FullC key b r→FullC key b (x++r)
theorem FullC.snoc{b:Nat}{p x:List α}(h:FullC key b p)(hl:x.length=b)(hs:Srt key x):FullC key b (p++x):=by
 induction h with
 | nil=>have:=FullC.cons hl hs (FullC.nil (key:=key) (b:=b));simpa using this
 | cons h1 h2 _ ih=>rw [List.append_assoc];exact .cons h1 h2 ih
theorem FullC.len{b:Nat}{p:List α}(h:FullC key b p):∃ q,p.length=q*b:=by
 induction h with
 | nil=>exact ⟨0,by simp⟩
 | cons h1 _ _ ih=>obtain ⟨q,hq⟩:=ih;exact ⟨q+1,by rw [lJ,h1,hq,Nat.add_mul];omega⟩
theorem FullC.front{b:Nat}{p:List α}(h:FullC key b p)(hp:0<p.length):∃ x r,p=x++r∧x.length=b∧Srt key x∧FullC key b r:=by
 cases h with
 | nil=>simp at hp
 | cons h1 h2 h3=>exact ⟨_,_,rfl,h1,h2,h3⟩
theorem FullC.two{b:Nat}{p:List α}(h:FullC key b p)(hp:b<p.length):∃ x y r,p=x++y++r∧x.length=b∧y.length=b∧Srt key x∧Srt key y∧FullC key b r:=by
 obtain ⟨x,r,rfl,h1,h2,h3⟩:=h.front (by omega)
 obtain ⟨y,r2,rfl,h4,h5,h6⟩:=h3.front (by rw [lJ] at hp;omega)
 exact ⟨x,y,r2,by simp,h1,h4,h2,h5,h6⟩
theorem FullC.one{b:Nat}{p:List α}(h:FullC key b p)(hp:p.length≤b)(hb:0<b):p=[]∨p.length=b∧Srt key p:=by
 rcases Nat.eq_zero_or_pos p.length with h0 | h0
 ·exact .inl (eJ h0)
 ·obtain ⟨x,r,rfl,h1,h2,h3⟩:=h.front h0
  rw [lJ] at hp
  have:r=[]:=eJ (by omega)
  subst this
  exact .inr ⟨by simpa using h1,by simpa using h2⟩
end
end Go.Proofs.YthekdeikodppkaaGreatDoor
