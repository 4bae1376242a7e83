/-
  Texts of this claim, one behind the other: As XTrk; Regions with late stores; A call that changes what there is, in a region that draws its order; What comes in, read; A range over a function whose iterator keeps state of its own in cells; append, slice literals, parts of arrays, maps; lz; A look-up in a map of ints, in a region that draws its order; Slice literals, parts of arrays, bytes and texts, maps; Maps by ints; all operations that ask the memory. No program in sight; Every operation; One step of a statement, statements in the text's own order, code, calls; Statements that draw their order; Blocks one further, a block put in; what looks the same is the same. No program in sight; Statements that draw their order.
-/
import Derived.Test.YthekdeikodppkaaGreatDoorKb2
import Derived.ProofKit
import Derived.Deep.Slices
import Derived.SizedLaws
import Derived.Lib.SmallJoins
import Derived.RangeFuncNested
import Derived.RangeFuncBound
import Derived.RangeFuncCalls
import Derived.RangeFuncLeaves
import Derived.OwnWalkIn
import Derived.Deep.AppendSrc
import Derived.Great.BuildSlice
import Derived.DeepKeys4
import Derived.Test.YthekdeikodppkaaGreatDoorRows
import Derived.Lib.ConvBytes
import Derived.Laws.BytesString
import Derived.Orders
set_option linter.unusedVariables false
namespace Go.Proofs.YthekdeikodppkaaGreatDoor.Trd
open Go.RowKit
def trk(tw:List Nat)(i:Nat)(v:Value)(σ:Sig):Sig:=if i∈tw then σ.upd i v else σ
def Deps(o:Oper)(k:Nat):Prop:=∃ e∈o.after,Region.binds .any e=true∧e.on=k
def Calm1(P:Program)(S:Sig→World→Prop)(tw:List Nat)(i:Nat)(o:Oper)(a:Act)(v:Value):Prop:=
 ∀ σ w,S σ w→(i∈tw→σ i=none)→(∀ k∈tw,Deps o k→(σ k).isSome=true)→∀ (K:Act→World→Prop) (Q:Exit→Act→World→Prop),(∀ w',S (trk tw i v σ) w'→K (a.put o.dst v) w')→o.wp P a w K Q
def New1(P:Program)(S:Sig→World→Prop)(tw:List Nat)(i:Nat)(o:Oper)(a:Act):Prop:=
 ∀ σ w,S σ w→(∀ k∈tw,Deps o k→(σ k).isSome=true)→∀ (K:Act→World→Prop) (Q:Exit→Act→World→Prop),(∀ v w',S (σ.upd i v) w'→K (a.put o.dst v) w')→o.wp P a w K Q
def calm(P:Program)(ops:Array Oper)(S:Sig→World→Prop)(nw tw:List Nat)(R:Act→Prop):Nat→List Oper→Act→Prop
 | _,[],a=>R a
 | i,o::rest,a=>(i∈nw∧New1 P S tw i o a∧calm P ops S nw tw R (i+1) rest a) ∨
  (i ∉ nw∧Region.wanted o (yielded ops a.tmps)=true∧∃ v,Calm1 P S tw i o a v∧calm P ops S nw tw R (i+1) rest (a.put o.dst v)) ∨
  (i ∉ nw∧Region.wanted o (yielded ops a.tmps)=false∧calm P ops S nw tw R (i+1) rest (a.put o.dst undef))
section
variable {P:Program} {ops:Array Oper} {S:Sig→World→Prop} {nw tw:List Nat} {R:Act→Prop} {a:Act} {o:Oper} {rest:List Oper} {i:Nat}
theorem calm_nil(h:R a):calm P ops S nw tw R i [] a:=h
theorem calm_step(v:Value)(hi:i ∉ nw)(hw:Region.wanted o (yielded ops a.tmps)=true)
 (h1:∀ σ w,S σ w→(i∈tw→σ i=none)→(∀ k∈tw,Deps o k→(σ k).isSome=true)→∀ (K:Act→World→Prop) (Q:Exit→Act→World→Prop),(∀ w',S (trk tw i v σ) w'→K (a.put o.dst v) w')→o.wp P a w K Q) (h:calm P ops S nw tw R (i+1) rest (a.put o.dst v)):calm P ops S nw tw R i (o::rest) a:=.inr (.inl ⟨hi,hw,v,h1,h⟩)
theorem calm_skip(hi:i ∉ nw)(hw:Region.wanted o (yielded ops a.tmps)=false)
 (h:calm P ops S nw tw R (i+1) rest (a.put o.dst undef)):calm P ops S nw tw R i (o::rest) a:=.inr (.inr ⟨hi,hw,h⟩)
theorem calm_new(hi:i∈nw)
 (h1:∀ σ w,S σ w→(∀ k∈tw,Deps o k→(σ k).isSome=true)→∀ (K:Act→World→Prop) (Q:Exit→Act→World→Prop),(∀ v w',S (σ.upd i v) w'→K (a.put o.dst v) w')→o.wp P a w K Q) (h:calm P ops S nw tw R (i+1) rest a):calm P ops S nw tw R i (o::rest) a:=.inl ⟨hi,h1,h⟩
end
section
variable {P:Program} {ops:Array Oper} {S:Sig→World→Prop} {nw tw:List Nat}
theorem calm_frames{R:Act→Prop}:∀ (l:List Oper) (i:Nat) (a:Act),calm P ops S nw tw R i l a →
 ∃ vs:List Value,vs.length=l.length∧R (Qs ((dets nw i l).zip vs) a) ∧
  ∀ k o,l[k]?=some o→∃ v,vs[k]?=some v ∧
   ((i+k∈nw∧New1 P S tw (i+k) o (Qs (((dets nw i l).zip vs).take k) a)) ∨
    (i+k ∉ nw∧Region.wanted o (yielded ops (Qs (((dets nw i l).zip vs).take k) a).tmps)=true∧Calm1 P S tw (i+k) o (Qs (((dets nw i l).zip vs).take k) a) v) ∨
    (i+k ∉ nw∧Region.wanted o (yielded ops (Qs (((dets nw i l).zip vs).take k) a).tmps)=false∧v=undef)):=by
 intro l
 induction l with
 | nil=>intro i a h;exact ⟨[],rfl,h,fun k o hk=>by simp at hk⟩
 | cons o l ih=>
  intro i a h
  have step:∀ (v:Value) (a':Act),a'=a.put (if i∈nw then none else o.dst) v→calm P ops S nw tw R (i+1) l a' →
   ((i∈nw∧New1 P S tw i o a)∨(i ∉ nw∧Region.wanted o (yielded ops a.tmps)=true∧Calm1 P S tw i o a v)∨(i ∉ nw∧Region.wanted o (yielded ops a.tmps)=false∧v=undef))→∃ vs:List Value,vs.length=(o::l).length∧R (Qs ((dets nw i (o::l)).zip vs) a) ∧
   ∀ k o',(o::l)[k]?=some o'→∃ v,vs[k]?=some v ∧
    ((i+k∈nw∧New1 P S tw (i+k) o' (Qs (((dets nw i (o::l)).zip vs).take k) a)) ∨
     (i+k ∉ nw∧Region.wanted o' (yielded ops (Qs (((dets nw i (o::l)).zip vs).take k) a).tmps)=true∧Calm1 P S tw (i+k) o' (Qs (((dets nw i (o::l)).zip vs).take k) a) v) ∨
     (i+k ∉ nw∧Region.wanted o' (yielded ops (Qs (((dets nw i (o::l)).zip vs).take k) a).tmps)=false∧v=undef)):=by
   intro v a' ha hc h0
   obtain ⟨vs,hl,hR,hk⟩:=ih _ _ hc
   refine ⟨v::vs,by simp [hl],by rw [ha] at hR;exact hR,fun k o' hk'=>?_⟩
   cases k with
   | zero=>simp at hk';subst hk';exact ⟨v,rfl,h0⟩
   | succ k=>
    have:=hk k o' (by simpa using hk')
    rw [ha,show i+1+k=i+(k+1) by omega] at this
    exact this
  rcases h with ⟨hi,h1,h2⟩ | ⟨hi,hw,v,h1,h2⟩ | ⟨hi,hw,h2⟩
  ·exact step undef a (by rw [if_pos hi];rfl) h2 (.inl ⟨hi,h1⟩)
  ·exact step v _ (by rw [if_neg hi]) h2 (.inr (.inl ⟨hi,hw,h1⟩))
  ·exact step undef _ (by rw [if_neg hi]) h2 (.inr (.inr ⟨hi,hw,rfl⟩))
theorem Calm1.at{tw:List Nat}{i:Nat}{o:Oper}{a a':Act}{v:Value}(h:Calm1 P S tw i o a v)(he:execOp a'.eval o=execOp a.eval o)(hs:a.tmps.size=a'.tmps.size){σ:Sig}{w:World}(hw:S σ w)(hfr:i∈tw→σ i=none)(hdp:∀ k∈tw,Deps o k→(σ k).isSome=true)
 (K:Act→World→Prop) (Q:Exit→Act→World→Prop) (hK:∀ w',S (trk tw i v σ) w'→K (a'.put o.dst v) w'):o.wp P a' w K Q:=by
 have h1:=h σ w hw hfr hdp (fun a1 w1=>a1=a.put o.dst v∧S (trk tw i v σ) w1) (fun _ _ _=>False) (fun w' hw'=>⟨rfl,hw'⟩)
 unfold Oper.wp at *
 rw [he]
 generalize (execOp a.eval o).run P w=r at *
 cases r with
 | ok n w'=>
  cases n <;> simp only [Oper.upon] at h1 ⊢
  case value u=>rw [put_eq hs h1.1];exact hK _ h1.2
  case skip=>rw [put_eq hs h1.1];exact hK _ h1.2
  case defer d=>
   have:=congrArg (fun x=>x.defers.length) h1.1
   cases hd:o.dst <;> simp [Act.put,hd] at this
  case enter f args=>
   refine Calls.mono h1 fun e w'' he=>?_
   cases e with
   | returned u=>
    show K (a'.put o.dst u) w''
    rw [put_eq hs he.1];exact hK _ he.2
   | panicked c=>exact he.elim
   | outgrown=>obtain ⟨_,_,hh⟩:=he;exact hh.elim
  case row row args=>exact Rows.mono h1 fun u w'' he=>by rw [put_eq hs he.1];exact hK _ he.2
 | halt x w'=>cases x <;> simp only [Oper.upon] at h1 ⊢
theorem New1.at{tw:List Nat}{i:Nat}{o:Oper}{a a':Act}(h:New1 P S tw i o a)(he:execOp a'.eval o=execOp a.eval o)(hs:a.tmps.size=a'.tmps.size){σ:Sig}{w:World}(hw:S σ w)(hdp:∀ k∈tw,Deps o k→(σ k).isSome=true)
 (K:Act→World→Prop) (Q:Exit→Act→World→Prop) (hK:∀ v w',S (σ.upd i v) w'→K (a'.put o.dst v) w'):o.wp P a' w K Q:=by
 have h1:=h σ w hw hdp (fun a1 w1=>∃ v,a1=a.put o.dst v∧S (σ.upd i v) w1) (fun _ _ _=>False) (fun v w' hw'=>⟨v,rfl,hw'⟩)
 unfold Oper.wp at *
 rw [he]
 generalize (execOp a.eval o).run P w=r at *
 cases r with
 | ok n w'=>
  cases n <;> simp only [Oper.upon] at h1 ⊢
  case value u=>obtain ⟨v,e1,e2⟩:=h1;rw [put_eq hs e1];exact hK _ _ e2
  case skip=>obtain ⟨v,e1,e2⟩:=h1;rw [put_eq hs e1];exact hK _ _ e2
  case defer d=>
   obtain ⟨v,e1,e2⟩:=h1
   have:=congrArg (fun x=>x.defers.length) e1
   cases hd:o.dst <;> simp [Act.put,hd] at this
  case enter f args=>
   refine Calls.mono h1 fun e w'' he=>?_
   cases e with
   | returned u=>
    show K (a'.put o.dst u) w''
    obtain ⟨v,e1,e2⟩:=he
    rw [put_eq hs e1];exact hK _ _ e2
   | panicked c=>exact he.elim
   | outgrown=>obtain ⟨_,_,hh⟩:=he;exact hh.elim
  case row row args=>exact Rows.mono h1 fun u w'' he=>by obtain ⟨v,e1,e2⟩:=he;rw [put_eq hs e1];exact hK _ _ e2
 | halt x w'=>cases x <;> simp only [Oper.upon] at h1 ⊢
theorem wpAny_new{Q:Exit→Act→World→Prop}{a a0:Act}{w:World}{l:List Oper}(S:Sig→World→Prop)(n:Nat)(nw tw:List Nat)(pre:List Nat)(htw:∀ k∈tw,k<n∧k ∉ nw∧k ∉ pre∧∀ o,l[k]?=some o→o.guard=none)(hpd0:∀ p∈pre,∀ o,l[p]?=some o→∀ k∈tw,¬ Deps o k)(hok:calmOk l.toArray n nw pre=true)(hS:S Sig.no w)
 (h:calm P l.toArray S nw tw (fun a'=>∀ σ w',(∀ k∈nw,(σ k).isSome=true)→(∀ k∈tw,(σ k).isSome=true)→S σ w'→wpList P l.toArray Q (l.drop n) (Jx l nw σ a') w') 0 (l.take n) a)
 (listed0:Array Bool) (hs0:listed0.size=l.length) (hl0:∀ k,k<l.length→listed0.getD k true=true→k∈pre) (hp0:∀ p∈pre,listed0.getD p true=true)
 (ha0:PreRun P l pre a a0) :
 wpAny P .any l.toArray Q (left listed0) listed0 a0 w:=by
 have g:=good_of hok
 have hnl:n≤l.length:=by simpa using g.le
 obtain ⟨vs,hvl,hR,hk⟩:=calm_frames _ _ _ h
 have hvn:vs.length=n:=by simp [hvl,hnl]
 obtain ⟨D,hD⟩:∃ D,(dets nw 0 (l.take n)).zip vs=D:=⟨_,rfl⟩
 rw [hD] at hR hk
 simp only [Nat.zero_add] at hk
 have hDl:D.length=n:=by rw [← hD];simp [dets_length,hvn,hnl]
 have hget:∀ k,k<n→(dets nw 0 (l.take n))[k]?=(l[k]?).map fun o=>if k∈nw then none else o.dst:=by
  intro k hk
  rw [dets_get]
  simp [hk]
 have hDk:∀ (k:Nat) (o:Oper) (v:Value),k<n→k ∉ nw→l[k]?=some o→vs[k]?=some v→D[k]?=some (o.dst,v):=by
  intro k o v hkn hnk ho hv
  rw [← hD,List.getElem?_zip_eq_some]
  refine ⟨?_,hv⟩
  rw [hget k hkn,ho]
  simp [hnk]
 have hDd:∀ (k:Nat) (t:Tmp) (v:Value),D[k]?=some (some t,v)→k<n∧k ∉ nw∧∃ o,l[k]?=some o∧o.dst=some t:=by
  intro k t v hk
  have hkn:k<n:=by rw [← hDl];exact (gJ hk).1
  rw [← hD,List.getElem?_zip_eq_some] at hk
  obtain ⟨h1,_⟩:=hk
  rw [hget k hkn,Option.map_eq_some_iff] at h1
  obtain ⟨o,ho,hd⟩:=h1
  by_cases hnk:k∈nw
  ·simp [hnk] at hd
  ·rw [if_neg hnk] at hd
   exact ⟨hkn,hnk,o,ho,hd⟩
 have huniq:∀ (j k:Nat) (t:Tmp) (u v:Value),k≠j→D[k]?=some (some t,u)→D[j]? ≠ some (some t,v):=by
  intro j k t u v hkj h1 h2
  obtain ⟨hkn,_,ok,hok',hdk⟩:=hDd k _ u h1
  obtain ⟨hjn,_,oj,hoj,hdj⟩:=hDd j _ v h2
  exact (g.pair k j ok oj t hkn hjn hkj (by simpa using hok') (by simpa using hoj) hdk).1 hdj
 obtain ⟨F,hF⟩:∃ F:Sig→Nat→Option (Option Tmp × Value),∀ σ k,F σ k=if k∈nw then (l[k]?).map fun o=>(o.dst,(σ k).getD undef) else D[k]?:=⟨_,fun _ _=>rfl⟩
 have hFd:∀ (σ:Sig) (k:Nat) (t:Tmp) (v:Value),F σ k=some (some t,v)→k<n∧∃ o,l[k]?=some o∧o.dst=some t:=by
  intro σ k t v hk
  rw [hF] at hk
  by_cases hnk:k∈nw
  ·rw [if_pos hnk,Option.map_eq_some_iff] at hk
   obtain ⟨o,ho,hd⟩:=hk
   exact ⟨g.newLt k hnk,o,ho,by simp at hd;exact hd.1⟩
  ·rw [if_neg hnk] at hk
   obtain ⟨h1,_,h3⟩:=hDd k t v hk
   exact ⟨h1,h3⟩
 have hFu:∀ (σ:Sig) (j k:Nat) (t:Tmp) (u v:Value),k≠j→F σ k=some (some t,u)→F σ j≠some (some t,v):=by
  intro σ j k t u v hkj h1 h2
  obtain ⟨hkn,ok,hok',hdk⟩:=hFd σ k _ u h1
  obtain ⟨hjn,oj,hoj,hdj⟩:=hFd σ j _ v h2
  exact (g.pair k j ok oj t hkn hjn hkj (by simpa using hok') (by simpa using hoj) hdk).1 hdj
 have hend:∀ (E:Nat→Prop) (a':Act) (σ:Sig),(∀ k,k<n→E k)→Agree (F σ) E a a'→a'=Jx l nw σ (Qs D a):=by
  intro E a' σ hall hA
  have hB:=Zd D huniq a n (by omega)
  rw [List.take_of_length_le (by omega)] at hB
  obtain ⟨k1,k2⟩:=putNew_keeps l σ nw (Qs D a)
  refine act_ext ?_ (hA.defers.trans (hB.defers.symm.trans k1.symm))
  apply Array.ext_getElem?
  intro t
  by_cases hts:t<a.tmps.size
  ·by_cases hw:∃ (k:Nat) (v:Value),F σ k=some (some t,v)
   ·obtain ⟨k,v,hkv⟩:=hw
    obtain ⟨hkn,o,ho,hd⟩:=hFd σ k _ v hkv
    rw [hA.wrote k t v (hall k hkn) hkv hts]
    have hkv':=hkv
    rw [hF] at hkv
    by_cases hnk:k∈nw
    ·rw [if_pos hnk,ho] at hkv
     simp at hkv
     rw [putNew_new l σ t k nw _ hnk (by simp [ho,hd]) (fun j hj hdj=>?_) (by rw [hB.size];exact hts),hkv.2]
     by_cases hjk:j=k
     ·exact hjk
     ·exfalso
      cases hlj:l[j]? with
      | none=>rw [hlj] at hdj;cases hdj
      | some oj=>
       rw [hlj] at hdj
       refine hFu σ j k t v ((σ j).getD undef) (Ne.symm hjk) hkv' ?_
       rw [hF,if_pos hj,hlj]
       simp at hdj
       simp [hdj]
    ·rw [if_neg hnk] at hkv
     rw [putNew_old l σ t nw _ fun j hj hdj=>?_,hB.wrote k t v hkn hkv hts]
     cases hlj:l[j]? with
     | none=>rw [hlj] at hdj;cases hdj
     | some oj=>
      rw [hlj] at hdj
      refine hFu σ j k t v ((σ j).getD undef) (fun e=>hnk (e▸hj)) hkv' ?_
      rw [hF,if_pos hj,hlj]
      simp at hdj
      simp [hdj]
   ·rw [hA.kept t fun k v _ hkv=>hw ⟨k,v,hkv⟩,putNew_old l σ t nw _ fun j hj hdj=>?_,hB.kept t fun k v _ hkv=>?_]
    ·obtain ⟨_,hnk,_⟩:=hDd k t v hkv
     exact hw ⟨k,v,by rw [hF,if_neg hnk];exact hkv⟩
    ·cases hlj:l[j]? with
     | none=>rw [hlj] at hdj;cases hdj
     | some oj=>
      rw [hlj] at hdj
      refine hw ⟨j,(σ j).getD undef,?_⟩
      rw [hF,if_pos hj,hlj]
      simp at hdj
      simp [hdj]
  ·rw [Array.getElem?_eq_none (show a'.tmps.size≤t from by rw [hA.size];exact Nat.le_of_not_lt hts),Array.getElem?_eq_none (show (Jx l nw σ (Qs D a)).tmps.size≤t from by rw [k2,hB.size];exact Nat.le_of_not_lt hts)]
 have main:∀ (fuel:Nat) (listed:Array Bool) (a':Act) (w':World) (σ:Sig),listed.size=l.length→left listed=fuel→(∀ j,n≤j→j<l.length→listed.getD j true=false) →
  (∀ k o,k<l.length→listed.getD k true=true→l[k]?=some o→∀ e∈o.after,Region.binds .any e=true→listed.getD e.on false=true) →
  (∀ k∈nw,listed.getD k true=true→(σ k).isSome=true)→(∀ k∈tw,(listed.getD k true=true→(σ k).isSome=true)∧(listed.getD k true=false→σ k=none))→(∀ p∈pre,listed.getD p true=true) →
  Agree (F σ) (fun k=>k<n∧listed.getD k true=true) a a'→S σ w'→wpAny P .any l.toArray Q fuel listed a' w':=by
  intro fuel
  induction fuel with
  | zero=>
   intro listed a' w' σ hs hl ht hc hσ hτ hP hA hSw
   have hall:∀ k,k<l.length→listed.getD k true=true:=fun k hk=>by
    cases hkk:listed.getD k true with
    | true=>rfl
    | false=>have:=left_pos (j:=k) (by omega) hkk;omega
   have hn:n=l.length:=by
    rcases Nat.lt_or_ge n l.length with h | h
    ·have:=hall n h;rw [ht n (Nat.le_refl _) h] at this;cases this
    ·omega
   refine tail_any g 0 n listed a' w' hs (Nat.le_refl _) (fun k _ hk=>hall k hk) ht hl ?_
   rw [hend _ a' σ (fun k hk=>⟨hk,hall k (by omega)⟩) hA]
   exact hR σ w' (fun k hk=>hσ k hk (hall k (by have:=g.newLt k hk;omega))) (fun k hk=>(hτ k hk).1 (hall k (by have:=(htw k hk).1;omega))) hSw
  | succ fuel ih=>
   intro listed a' w' σ hs hl ht hc hσ hτ hP hA hSw
   by_cases hpre:∀ k,k<n→listed.getD k true=true
   ·refine tail_any g (fuel+1) n listed a' w' hs (Nat.le_refl _) (fun k hk _=>hpre k hk) ht hl ?_
    rw [hend _ a' σ (fun k hk=>⟨hk,hpre k hk⟩) hA]
    exact hR σ w' (fun k hk=>hσ k hk (hpre k (g.newLt k hk))) (fun k hk=>(hτ k hk).1 (hpre k (htw k hk).1)) hSw
   ·
    have hex:∃ k,k<n∧listed.getD k true=false:=by
     rcases Classical.em (∃ k,k<n∧listed.getD k true=false) with h | h
     ·exact h
     ·exact absurd (fun k hk=>by
       cases hkk:listed.getD k true with
       | true=>rfl
       | false=>exact absurd ⟨k,hk,hkk⟩ h) hpre
    obtain ⟨m,hm,hmin⟩:∃ m,(m<n∧listed.getD m true=false)∧∀ k,k<m→listed.getD k true=true:=by
     obtain ⟨k,hk⟩:=hex
     induction k using Nat.strongRecOn with
     | _ k ihk=>
      rcases Classical.em (∃ j,j<k∧listed.getD j true=false) with ⟨j,hj,hjl⟩ | h
      ·exact ihk j hj ⟨by omega,hjl⟩
      ·refine ⟨k,hk,fun j hj=>?_⟩
       cases hjj:listed.getD j true with
       | true=>rfl
       | false=>exact absurd ⟨j,hj,hjj⟩ h
    obtain ⟨om,hom⟩:∃ o,l[m]?=some o:=⟨_,List.getElem?_eq_getElem (by omega)⟩
    have hready:m∈Region.ready .any l.toArray listed:=Jz.2 ⟨by simp;omega,hm.2,om,by simpa using hom,fun e he hb=>by
     have:=g.low m om (by simpa using hom) e he hb
     rw [← Jm (by omega)]
     exact hmin _ this⟩
    refine ⟨fun h=>(by rw [h] at hready;cases hready),fun i hi=>?_⟩
    obtain ⟨hi1,hi2,o,ho,hi3⟩:=Jz.1 hi
    have hi1:i<l.length:=by simpa using hi1
    have hol:l[i]?=some o:=by simpa using ho
    have hin:i<n:=by
     rcases Nat.lt_trichotomy i n with h | h | h
     ·exact h
     ·
      subst h
      have hall:∀ d k,i-k=d→k<i→listed.getD k true=true:=by
       intro d
       induction d using Nat.strongRecOn with
       | _ d ihd=>
        intro k hd hk
        by_cases hpk:k∈pre
        ·exact hP k hpk
        obtain ⟨j,hkj,hji,oj,hoj,hwj⟩:=g.sink (by simpa using hi1) k hk hpk
        obtain ⟨e,he,hb,heq⟩:=Jc hwj
        rw [Jm (by omega),← heq]
        rcases Nat.lt_or_ge j i with hlt | hge
        ·have hjl:=ihd (i-j) (by omega) j rfl hlt
         exact hc j oj (by omega) hjl (by simpa using hoj) e he hb
        ·have:j=i:=by omega
         subst this
         rw [ho] at hoj
         cases hoj
         exact hi3 e he hb
      have:=hall _ m rfl hm.1
      rw [hm.2] at this
      cases this
     ·obtain ⟨e,he,hb,heq⟩:=Jc (g.chain i o h (by simpa using hol))
      have:=hi3 e he hb
      rw [heq,← Jm (by omega),ht (i-1) (by omega) (by omega)] at this
      cases this
    obtain ⟨v,hv,hcase⟩:=hk i o (by simp [hin,hol])
    have hAi:=Zd D huniq a i (by omega)
    have hsame:=same_op (ops:=l.toArray) (o:=o) (a:=Qs (D.take i) a) (a':=a') (g.noSel i o ho) (by
     intro t htl
     by_cases hw:∃ (k:Nat) (u:Value),F σ k=some (some t,u)
     ·obtain ⟨k,u,hku⟩:=hw
      obtain ⟨hkn,ok,hok',hdk⟩:=hFd σ k _ u hku
      have hnk:k ∉ nw:=fun hnk=>g.newApart k hnk ok t (by simpa using hok') hdk i o hin ho htl
      have hDu:D[k]?=some (some t,u):=by rw [hF,if_neg hnk] at hku;exact hku
      by_cases hts:t<a.tmps.size
      ·have hki:k≠i:=fun e=>by
        subst e
        rw [hol] at hok'
        cases hok'
        exact g.own k o t hkn ho hdk htl
       rcases (g.pair k i ok o t hkn hin hki (by simpa using hok') ho hdk).2 with h1 | ⟨hlt,hwt⟩ | ⟨hlt,hwt⟩
       ·exact absurd htl h1
       ·obtain ⟨e,he,hb,heq⟩:=Jc hwt
        have hkl:listed.getD k true=true:=by
         rw [Jm (by omega),← heq];exact hi3 e he hb
        rw [hA.wrote k t u ⟨hkn,hkl⟩ hku hts,hAi.wrote k t u hlt hDu hts]
       ·obtain ⟨e,he,hb,heq⟩:=Jc hwt
        have hkl:¬ listed.getD k true=true:=fun hkl=>by
         have:=hc k ok (by omega) hkl hok' e he hb
         rw [heq,← Jm (by omega),hi2] at this
         cases this
        rw [hA.kept t fun k' u' hk' hD'=>?_,hAi.kept t fun k' u' hk' hD'=>?_]
        ·by_cases hkk:k'=k
         ·subst hkk;omega
         ·exact huniq k k' t u' u hkk hD' hDu
        ·by_cases hkk:k'=k
         ·subst hkk;exact hkl hk'.2
         ·exact hFu σ k k' t u' u hkk hD' hku
      ·rw [Array.getElem?_eq_none (show a'.tmps.size≤t from by rw [hA.size];exact Nat.le_of_not_lt hts),Array.getElem?_eq_none (show (Qs (D.take i) a).tmps.size≤t from by rw [hAi.size];exact Nat.le_of_not_lt hts)]
     ·rw [hA.kept t fun k v _ hkv=>hw ⟨k,v,hkv⟩,hAi.kept t fun k v _ hkv=>?_]
      obtain ⟨_,hnk,_⟩:=hDd k t v hkv
      exact hw ⟨k,v,by rw [hF,if_neg hnk];exact hkv⟩)
    have hset:∀ k b,(listed.setIfInBounds i true).getD k b=if k=i then true else listed.getD k b:=by
     intro k b
     by_cases hki:k=i
     ·subst hki;simp [hs,hi1]
     ·have:i≠k:=Ne.symm hki
      simp [Array.getElem?_setIfInBounds_ne this,hki]
    have next:∀ (σ':Sig) (u:Value) w'',F σ' i=some (o.dst,u)→Agree (F σ') (fun k=>k<n∧listed.getD k true=true) a a'→(∀ k∈nw,(listed.setIfInBounds i true).getD k true=true→(σ' k).isSome=true)→(∀ k∈tw,((listed.setIfInBounds i true).getD k true=true→(σ' k).isSome=true)∧((listed.setIfInBounds i true).getD k true=false→σ' k=none))→S σ' w'' →
     wpAny P .any l.toArray Q fuel (listed.setIfInBounds i true) (a'.put o.dst u) w'':=by
     intro σ' u w'' hFi hA' hσ' hτ' hSw''
     refine ih _ _ w'' σ' (by simpa using hs) (by have:=left_set (j:=i) (by omega) hi2;omega) ?_ ?_ hσ' hτ' (fun p hp=>by rw [hset];split <;> first | rfl | exact hP p hp) ?_ hSw''
     ·intro j hj hjl
      rw [hset,if_neg (by omega)]
      exact ht j hj hjl
     ·intro k ok hkl hkt hok' e he hb
      rw [hset]
      split
      ·rfl
      ·rw [hset] at hkt
       by_cases hki:k=i
       ·subst hki
        rw [hol] at hok'
        cases hok'
        exact hi3 e he hb
       ·rw [if_neg hki] at hkt
        exact hc k ok hkl hkt hok' e he hb
     ·have:=hA'.put (j:=i) hFi (fun k t u' hki hD' e=>hFu σ' i k t u' u hki hD' (by rw [hFi,e]))
      refine ⟨this.defers,this.size,fun k t u hk=>this.wrote k t u ?_,fun t ht=>this.kept t fun k u hk=>ht k u ?_⟩
      ·obtain ⟨h1,h2⟩:=hk
       rw [hset] at h2
       by_cases hki:k=i
       ·exact .inr hki
       ·rw [if_neg hki] at h2;exact .inl ⟨h1,h2⟩
      ·rw [hset]
       rcases hk with ⟨h1,h2⟩ | rfl
       ·exact ⟨h1,by split <;> first | rfl | exact h2⟩
       ·exact ⟨hin,by simp⟩
    have hσset:i ∉ nw→∀ k∈nw,(listed.setIfInBounds i true).getD k true=true→(σ k).isSome=true:=fun hni k hk hkl=>by
     rw [hset,if_neg (fun (e:k=i)=>hni (e▸hk))] at hkl
     exact hσ k hk hkl
    have hτset:i ∉ tw→∀ k∈tw,((listed.setIfInBounds i true).getD k true=true→(σ k).isSome=true)∧((listed.setIfInBounds i true).getD k true=false→σ k=none):=fun hni k hk=>by
     rw [hset,if_neg (fun (e:k=i)=>hni (e▸hk))]
     exact hτ k hk
    unfold wpOp
    simp only [ho]
    rcases hcase with ⟨hni,hn1⟩ | ⟨hni,hw1,hc1⟩ | ⟨hni,hw1,rfl⟩
    ·have hg:=g.newPlain i hni o ho
     rw [show Region.wanted o (yielded l.toArray a'.tmps)=true by simp [Region.wanted,hg]]
     refine .inl (hn1.at hsame.1 (by rw [hAi.size,hA.size]) hSw (fun k hk ⟨e,he,hb,hek⟩=>(hτ k hk).1 (by rw [← hek];have:=hi3 e he hb;rw [Jm (by have:=(htw k hk).1;omega)];exact this)) _ _ fun u w'' hSu=>?_)
     refine next (σ.upd i u) u w'' (by rw [hF,if_pos hni,hol];simp [Sig.upd]) ?_ ?_ ?_ hSu
     ·have hne:∀ k,(k<n∧listed.getD k true=true)→F (σ.upd i u) k=F σ k:=fun k hk=>by
       have hki:k≠i:=fun e=>by subst e;rw [hi2] at hk;cases hk.2
       rw [hF,hF]
       simp [Sig.upd,hki]
      exact ⟨hA.defers,hA.size,fun k t u' hk hD'=>hA.wrote k t u' hk (by rw [← hne k hk];exact hD'),fun t ht=>hA.kept t fun k u' hk=>by rw [← hne k hk];exact ht k u' hk⟩
     ·intro k hk hkl
      by_cases hki:k=i
      ·simp [Sig.upd,hki]
      ·rw [hset,if_neg hki] at hkl
       simpa [Sig.upd,hki] using hσ k hk hkl
     ·intro k hk
      have hki:k≠i:=fun e=>(htw k hk).2.1 (e▸hni)
      rw [hset,if_neg hki]
      simpa [Sig.upd,hki] using hτ k hk
    ·rw [hsame.2,hw1]
     by_cases hit:i∈tw
     ·refine .inl (hc1.at hsame.1 (by rw [hAi.size,hA.size]) hSw (fun hit=>(hτ i hit).2 hi2) (fun k hk ⟨e,he,hb,hek⟩=>(hτ k hk).1 (by rw [← hek];have:=hi3 e he hb;rw [Jm (by have:=(htw k hk).1;omega)];exact this)) _ _ fun w'' hSu=>next (σ.upd i v) v w'' (by rw [hF,if_neg hni];exact hDk i o v hin hni hol hv) ?_ ?_ ?_ (by rw [trk,if_pos hit] at hSu;exact hSu))
      ·have hne:∀ k,(k<n∧listed.getD k true=true)→F (σ.upd i v) k=F σ k:=fun k hk=>by
        have hki:k≠i:=fun e=>by subst e;rw [hi2] at hk;cases hk.2
        rw [hF,hF]
        simp [Sig.upd,hki]
       exact ⟨hA.defers,hA.size,fun k t u' hk hD'=>hA.wrote k t u' hk (by rw [← hne k hk];exact hD'),fun t ht=>hA.kept t fun k u' hk=>by rw [← hne k hk];exact ht k u' hk⟩
      ·intro k hk hkl
       by_cases hki:k=i
       ·simp [Sig.upd,hki]
       ·rw [hset,if_neg hki] at hkl
        simpa [Sig.upd,hki] using hσ k hk hkl
      ·intro k hk
       rw [hset]
       by_cases hki:k=i
       ·simp [Sig.upd,hki]
       ·rw [if_neg hki]
        simpa [Sig.upd,hki] using hτ k hk
     ·exact .inl (hc1.at hsame.1 (by rw [hAi.size,hA.size]) hSw (fun hit=>(hτ i hit).2 hi2) (fun k hk ⟨e,he,hb,hek⟩=>(hτ k hk).1 (by rw [← hek];have:=hi3 e he hb;rw [Jm (by have:=(htw k hk).1;omega)];exact this)) _ _ fun w'' hSu=>next σ v w'' (by rw [hF,if_neg hni];exact hDk i o v hin hni hol hv) hA (hσset hni) (hτset hit) (by rw [trk,if_neg hit] at hSu;exact hSu))
    ·rw [hsame.2,hw1]
     have hit:i ∉ tw:=fun hit=>by
      have:=(htw i hit).2.2.2 o hol
      simp [Region.wanted,this] at hw1
     exact next σ undef w' (by rw [hF,if_neg hni];exact hDk i o undef hin hni hol hv) hA (hσset hni) (hτset hit) hSw
 refine main _ listed0 a0 w Sig.no hs0 rfl (fun j hnj hj=>?_) (fun k o hk hkt ho e he hb=>?_) (fun k hk hkt=>?_) (fun k hk=>?_) hp0 ?_ hS
 ·cases hjj:listed0.getD j true with
  | false=>rfl
  | true=>
   have:=(g.preAny j (hl0 j hj hjj)).1
   omega
 ·obtain ⟨_,_,o',ho',_,haf⟩:=g.preAny k (hl0 k hk hkt)
  obtain rfl:o'=o:=by simpa [ho] using ho'.symm
  have:=g.low k o' (by simpa using ho) e he hb
  rw [← Jm (by omega)]
  exact hp0 _ (haf e he hb)
 ·exact absurd hk (g.preAny k (hl0 k (by have:=g.newLt k hk;omega) hkt)).2.1
 ·exact ⟨fun hkt=>absurd (hl0 k (by have:=(htw k hk).1;omega) hkt) (htw k hk).2.2.1,fun _=>rfl⟩
 ·have step:∀ (r done:List Nat) (a1:Act),(∀ x∈r,x∈pre)→preOk l.toArray n nw done r=true→PreRun P l r a1 a0→Agree (F Sig.no) (fun k=>k∈done) a a1 →
   (∀ k∈done,∀ o,l[k]?=some o→∀ e∈o.after,Region.binds .any e=true→e.on∈done)→Agree (F Sig.no) (fun k=>k∈r∨k∈done) a a0:=by
   intro r
   induction r with
   | nil=>
    intro done a1 _ _ hr hA _
    obtain rfl:a0=a1:=hr
    simpa using hA
   | cons p r ih=>
    intro done a1 hrp hpo hr hA hcl
    obtain ⟨hpn,hpw,hpd,⟨o,hop,hgd,haf⟩,hpo'⟩:=preOk_cons hpo
    have hop:l[p]?=some o:=by simpa using hop
    obtain ⟨o',v,ho',hrun,hr'⟩:=hr
    obtain rfl:o'=o:=by simpa [hop] using ho'.symm
    obtain ⟨u,hu,hcase⟩:=hk p o' (by simp [hpn,hop])
    have hAi:=Zd D huniq a p (by omega)
    have hsame:=same_op (ops:=l.toArray) (o:=o') (a:=a1) (a':=Qs (D.take p) a) (g.noSel p o' (by simpa using hop)) (by
     intro t htl
     by_cases hts:t<a.tmps.size
     ·by_cases hw:∃ (k:Nat) (u:Value),F Sig.no k=some (some t,u)
      ·obtain ⟨k,x,hkx⟩:=hw
       obtain ⟨hkn,ok,hok',hdk⟩:=hFd Sig.no k _ x hkx
       have hnk:k ∉ nw:=fun hnk=>g.newApart k hnk ok t (by simpa using hok') hdk p o' hpn (by simpa using hop) htl
       have hDu:D[k]?=some (some t,x):=by rw [hF,if_neg hnk] at hkx;exact hkx
       have hkp:k≠p:=fun e=>by
        subst e
        rw [hop] at hok'
        cases hok'
        exact g.own k o' t hkn (by simpa using hop) hdk htl
       rcases (g.pair k p ok o' t hkn hpn hkp (by simpa using hok') (by simpa using hop) hdk).2 with h1 | ⟨hlt,hwt⟩ | ⟨hlt,hwt⟩
       ·exact absurd htl h1
       ·obtain ⟨e,he,hb,heq⟩:=Jc hwt
        have hkd:k∈done:=heq▸haf e he hb
        rw [hA.wrote k t x hkd hkx hts,hAi.wrote k t x hlt hDu hts]
       ·obtain ⟨e,he,hb,heq⟩:=Jc hwt
        have hkd:k ∉ done:=fun hkd=>hpd (heq▸hcl k hkd ok hok' e he hb)
        rw [hA.kept t fun k' u' hk' hD'=>?_,hAi.kept t fun k' u' hk' hD'=>?_]
        ·by_cases hkk:k'=k
         ·subst hkk;omega
         ·exact huniq k k' t u' x hkk hD' hDu
        ·by_cases hkk:k'=k
         ·subst hkk;exact hkd hk'
         ·exact hFu Sig.no k k' t u' x hkk hD' hkx
      ·rw [hA.kept t fun k v _ hkv=>hw ⟨k,v,hkv⟩,hAi.kept t fun k v _ hkv=>?_]
       obtain ⟨_,hnk,_⟩:=hDd k t v hkv
       exact hw ⟨k,v,by rw [hF,if_neg hnk];exact hkv⟩
     ·rw [Array.getElem?_eq_none (show (Qs (D.take p) a).tmps.size≤t from by rw [hAi.size];exact Nat.le_of_not_lt hts),Array.getElem?_eq_none (show a1.tmps.size≤t from by rw [hA.size];exact Nat.le_of_not_lt hts)])
    have hput:a1.put o'.dst v=a1.put o'.dst u:=by
     rcases hcase with ⟨hni,_⟩ | ⟨_,_,hc1⟩ | ⟨_,hw1,_⟩
     ·exact absurd hni hpw
     ·have h1:=hc1.at (a':=a1) hsame.1.symm (by rw [hAi.size,hA.size]) hS (fun _=>rfl) (fun k hk hd=>absurd hd (hpd0 p (hrp p (by simp)) o' (by simpa using hop) k hk)) (fun a2 _=>a2=a1.put o'.dst u) (fun _ _ _=>False) (fun _ _=>rfl)
      unfold Oper.wp at h1
      rw [hrun w] at h1
      simpa only [Oper.upon] using h1
     ·exfalso
      simp [Region.wanted,hgd] at hw1
    rw [hput] at hr'
    have hFp:F Sig.no p=some (o'.dst,u):=by rw [hF,if_neg hpw];exact hDk p o' u hpn hpw hop hu
    have hA':=hA.put (j:=p) hFp (fun k t u' hki hD' e=>hFu Sig.no p k t u' u hki hD' (by rw [hFp,e]))
    have hA2:Agree (F Sig.no) (fun k=>k∈p::done) a (a1.put o'.dst u):=
     ⟨hA'.defers,hA'.size,fun k t x hk=>hA'.wrote k t x (by
      rcases List.mem_cons.1 hk with h | h
      ·exact .inr h
      ·exact .inl h),fun t ht=>hA'.kept t fun k x hk=>ht k x (by
      rcases hk with h | h
      ·exact List.mem_cons_of_mem _ h
      ·exact h▸List.mem_cons_self ..)⟩
    have:=ih (p::done) _ (fun x hx=>hrp x (by simp [hx])) hpo' hr' hA2 (fun k hk o ho e he hb=>by
     rcases List.mem_cons.1 hk with rfl | hk
     ·rw [hop] at ho
      cases ho
      exact List.mem_cons_of_mem _ (haf e he hb)
     ·exact List.mem_cons_of_mem _ (hcl k hk o ho e he hb))
    refine ⟨this.defers,this.size,fun k t x hk=>this.wrote k t x ?_,fun t ht=>this.kept t fun k x hk=>ht k x ?_⟩
    ·rcases hk with hk | hk
     ·rcases List.mem_cons.1 hk with rfl | hk
      ·exact .inr (List.mem_cons_self ..)
      ·exact .inl hk
     ·exact .inr (List.mem_cons_of_mem _ hk)
    ·rcases hk with hk | hk
     ·exact .inl (List.mem_cons_of_mem _ hk)
     ·rcases List.mem_cons.1 hk with rfl | hk
      ·exact .inl (List.mem_cons_self ..)
      ·exact .inr hk
  have h0:Agree (F Sig.no) (fun k=>k∈([]:List Nat)) a a:=⟨rfl,rfl,fun k t v hk _ _=>(by cases hk),fun t _=>rfl⟩
  have:=step pre [] a (fun x hx=>hx) g.preOrd ha0 h0 (fun k hk=>by cases hk)
  refine ⟨this.defers,this.size,fun k t x hk=>this.wrote k t x (.inl (hl0 k (by omega) hk.2)),fun t ht=>this.kept t fun k x hk=>ht k x ?_⟩
  rcases hk with hk | hk
  ·exact ⟨(g.preAny k hk).1,hp0 k hk⟩
  ·cases hk
theorem wp_region_new{id:Nat}{Q:Exit→Act→World→Prop}{a:Act}{w:World}{l:List Oper}(S:Sig→World→Prop)(n:Nat)(nw tw:List Nat)(htw:∀ k∈tw,k<n∧k ∉ nw∧∀ o,l[k]?=some o→o.guard=none)(hm:P.follows .mixedOrders=true)(hok:calmOk l.toArray n nw=true)(hS:S Sig.no w.drew)
 (h:calm P l.toArray S nw tw (fun a'=>∀ σ w',(∀ k∈nw,(σ k).isSome=true)→(∀ k∈tw,(σ k).isSome=true)→S σ w'→wpList P l.toArray Q (l.drop n) (Jx l nw σ a') w') 0 (l.take n) a):(Code.region id l.toArray true).wp P Q a w:=by
 refine wp_region_any hm ?_
 have hl:=left_none l.toArray.size
 have:=wpAny_new (a0:=a) S n nw tw [] (fun k hk=>⟨(htw k hk).1,(htw k hk).2.1,by simp,(htw k hk).2.2⟩) (fun p hp=>by cases hp) hok hS h (Array.replicate l.toArray.size false) (by simp) (fun k hk hkt=>by simp [hk] at hkt) (fun p hp=>by cases hp) rfl
 rw [hl] at this
 exact this
theorem calm_value{R:Act→Prop}{a:Act}{o:Oper}{rest:List Oper}{i:Nat}{v:Value}(hi:i ∉ nw)(ht:i ∉ tw)(hw:Region.wanted o (yielded ops a.tmps)=true)(h1:∀ σ w,S σ w→(execOp a.eval o).run P w=.ok (.value v) w)(h:calm P ops S nw tw R (i+1) rest (a.put o.dst v)):calm P ops S nw tw R i (o::rest) a:=
 calm_step v hi hw (fun σ w hS _ _ K Q hK=>by unfold Oper.wp;rw [h1 σ w hS];exact hK w (by rw [trk,if_neg ht];exact hS)) h
theorem calm_track{R:Act→Prop}{a:Act}{o:Oper}{rest:List Oper}{i:Nat}{v:Value}(hi:i ∉ nw)(ht:i∈tw)(hw:Region.wanted o (yielded ops a.tmps)=true)(h1:∀ σ w,S σ w→σ i=none→(∀ k∈tw,Deps o k→(σ k).isSome=true)→∃ w',(execOp a.eval o).run P w=.ok (.value v) w'∧S (σ.upd i v) w')(h:calm P ops S nw tw R (i+1) rest (a.put o.dst v)):calm P ops S nw tw R i (o::rest) a:=
 calm_step v hi hw (fun σ w hS hf hd K Q hK=>by
  obtain ⟨w',hr,hs⟩:=h1 σ w hS (hf ht) hd
  unfold Oper.wp
  rw [hr]
  exact hK w' (by rw [trk,if_pos ht];exact hs)) h
theorem calm_call{R:Act→Prop}{a:Act}{o:Oper}{rest:List Oper}{i:Nat}{v:Value}{f:FuncId}{args:Array Value}(hi:i ∉ nw)(hit:i∈tw)(hw:Region.wanted o (yielded ops a.tmps)=true)(hr:∀ w,(execOp a.eval o).run P w=.ok (.enter f args) w)
 (hc:∀ σ w,S σ w→σ i=none→(∀ k∈tw,Deps o k→(σ k).isSome=true)→Calls P f args w fun e w'=>e=.returned v∧S (σ.upd i v) w') (h:calm P ops S nw tw R (i+1) rest (a.put o.dst v)):calm P ops S nw tw R i (o::rest) a:=
 calm_step v hi hw (fun σ w hS hf hd K Q hK=>by
  unfold Oper.wp
  rw [hr w]
  refine (hc σ w hS (hf hit) hd).mono ?_
  rintro e w' ⟨rfl,hS'⟩
  exact hK w' (by rw [trk,if_pos hit];exact hS')) h
end
end Go.Proofs.YthekdeikodppkaaGreatDoor.Trd
namespace Go.Proofs.YthekdeikodppkaaGreatDoor
open Go.RowKit
section
variable {P:Program} {ops:Array Oper} {S:Sig→World→Prop} {nw tw:List Nat} {R:Act→Prop} {a:Act} {o:Oper} {rest:List Oper} {i:Nat}
theorem scalm_store{ty:TypeId}(x y:Operand)(hi:i ∉ nw)(hit:i∈tw)(hw:Region.wanted o (yielded ops a.tmps)=true)(ho:o.op=.store ty x y){g off:Nat}(hx:a.eval x=.pointer (some ⟨g,off,none⟩)){u:Value}(hv:a.eval y=u)(hu:u.cells=#[u])
 (hinfo:(P.info? ty).map (·.size)=some 1) (h1:u.oneCell'=true)
 (hS:∀ σ w,S σ w→σ i=none→(∀ k∈tw,Trd.Deps o k→(σ k).isSome=true)→∃ w0 cur e ps,Own w0 w (blk g (.cells cur e)::ps)∧off<cur.size∧∀ w',Own w0 w' (blk g (.cells (cur.setIfInBounds off u) e)::ps)→S (σ.upd i undef) w')
 (h:Trd.calm P ops S nw tw R (i+1) rest (a.put o.dst undef)):Trd.calm P ops S nw tw R i (o::rest) a:=
 Trd.calm_step undef hi hw (fun σ w hs hf hd K Q hK=>by
  obtain ⟨w0,cur,e,ps,H,hfit,hfin⟩:=hS σ w hs (hf hit) hd
  have hr:=run_storeAt_row (P:=P) (ty:=ty) (off:=off) (a.eval y) H.block.1 (by rw [hv,hu];simpa using hinfo) (by rw [hv,hu];simp;omega) (by rw [hv,hu];simpa using h1)
  rw [hv,hu] at hr
  have h3:=H.setRow (cur':=cur.setIfInBounds off u)
  have e3:(cur.toList.take off++#[u].toList++cur.toList.drop (off+#[u].size)).toArray=cur.setIfInBounds off u:=by
   rw [show cur.setIfInBounds off u=(cur.toList.set off u).toArray by apply Array.toList_inj.1;simp,List.set_eq_take_append_cons_drop,if_pos (by simpa using hfit)]
   simp
  rw [e3] at hr
  unfold Oper.wp execOp
  simp only [ho,hx,hv,Sem.run_bind,Sem.run_pure,Result.andThen_ok,hr]
  exact hK _ (by rw [Trd.trk,if_pos hit];exact hfin _ h3)) h
theorem scalm_call{v:Value}{f:FuncId}{args:Array Value}(hi:i ∉ nw)(hit:i ∉ tw)(hw:Region.wanted o (yielded ops a.tmps)=true)(hr:∀ w,(execOp a.eval o).run P w=.ok (.enter f args) w)
 (hc:∀ σ w,S σ w→Calls P f args w fun e w'=>e=.returned v∧S σ w') (h:Trd.calm P ops S nw tw R (i+1) rest (a.put o.dst v)):Trd.calm P ops S nw tw R i (o::rest) a:=
 Trd.calm_step v hi hw (fun σ w hS hf hd K Q hK=>by
  unfold Oper.wp
  rw [hr w]
  refine (hc σ w hS).mono ?_
  rintro e w' ⟨rfl,hS'⟩
  exact hK w' (by rw [Trd.trk,if_neg hit];exact hS')) h
end
section
variable {P:Program} {ops:Array Oper} {S:Sig→World→Prop} {nw tw:List Nat} {R:Act→Prop} {a:Act} {o:Oper} {rest:List Oper} {i:Nat}
theorem kcalm_call{v:Value}{f:FuncId}{args:Array Value}(hi:i ∉ nw)(hit:i∈tw)(hw:Region.wanted o (yielded ops a.tmps)=true)(hr:∀ w,(execOp a.eval o).run P w=.ok (.enter f args) w)
 (hc:∀ σ w,S σ w→σ i=none→Calls P f args w fun e w'=>e=.returned v∧S (σ.upd i v) w') (h:Trk.calm P ops S nw tw R (i+1) rest (a.put o.dst v)):Trk.calm P ops S nw tw R i (o::rest) a:=
 Trk.calm_step v hi hw (fun σ w hS hf K Q hK=>by
  unfold Oper.wp
  rw [hr w]
  refine (hc σ w hS (hf hit)).mono ?_
  rintro e w' ⟨rfl,hS'⟩
  exact hK w' (by rw [Trk.trk,if_pos hit];exact hS')) h
end
section
variable {P:Program} {ops:Array Oper} {S:Sig→World→Prop} {nw:List Nat} {R:Act→Prop} {a:Act} {o:Oper} {rest:List Oper} {i:Nat}
theorem ncalm_call{f:FuncId}{args:Array Value}(hi:i∈nw)(hr:∀ w,(execOp a.eval o).run P w=.ok (.enter f args) w)
 (hc:∀ σ w,S σ w→Calls P f args w fun e w'=>∃ v,e=.returned v∧S (σ.upd i v) w') (h:calm P ops S nw R (i+1) rest a):calm P ops S nw R i (o::rest) a:=
 calm_new hi (fun σ w hS K Q hK=>by
  unfold Oper.wp
  rw [hr w]
  refine (hc σ w hS).mono ?_
  rintro e w' ⟨v,rfl,hS'⟩
  exact hK v w' hS') h
end
end Go.Proofs.YthekdeikodppkaaGreatDoor
namespace Go.Proofs.YthekdeikodppkaaGreatDoor
open Go.RowKit Go.ChangeShapes Go.WideShapes Go.Deep
section
variable {H:Type} {enc:TypeId × Value→H} {P:Program} {w:World}
theorem rd_open{t e:TypeId}{v:Value}{d:DataW H}{p:List MemPlace}(size:Nat)(ht:P.underlying t=some (.slice e))(hc:P.cellsOf e=size){a:Option Addr}{len cap:Nat}(hv:v=.slice a len cap)
 (h:DataW.Trod enc P w 0 (fun _=>true) true t v d p) :
 ∃ (E:Nat→List Value),Rd w size v len ((List.range len).flatMap E)∧(∀ i,i<len→(E i).length=size∧∃ m x,DataW.trod enc P w 0 (fun _=>true) true m e (E i)=some x) ∧
  (d=.nil∧len=0∨∃ elems spare,d=.slice elems spare∧elems.length=len∧spare.length=cap-len):=by
 obtain ⟨fuel,hf⟩:=h
 subst hv
 rcases open_slice ht hf with ⟨hcs,hx⟩ | ⟨ad,len',cap',m,n,D,Pl,hcs,_,hl,hm,hmm,hx,hel⟩
 ·simp [Value.cells] at hcs
  obtain ⟨rfl,rfl,rfl⟩:=hcs
  simp only [Prod.mk.injEq] at hx
  exact ⟨fun _=>[],by simpa using Rd.nil w size,fun i hi=>by omega,.inl ⟨hx.1,rfl⟩⟩
 ·simp [Value.cells] at hcs
  obtain ⟨rfl,rfl,rfl⟩:=hcs
  simp only [if_true] at hmm
  subst hmm
  obtain ⟨E,hE⟩:=choose_lt (α:=List Value) (p:=fun i cs'=>w.cells? 0 (ad.add (i*P.cellsOf e)) (P.cellsOf e)=some cs'∧DataW.trod enc P w 0 (fun _=>true) true n e cs'=some (D i,Pl i)) hel
  have hlen:∀ i,i<m→(E i).length=size:=fun i hi=>by
   obtain ⟨_,h2,_⟩:=World.cells?_some (hE i hi).1
   rw [← hc];exact h2
  have hfl:∀ k,k≤m→((List.range k).flatMap E).length=k*size:=by
   intro k
   induction k with
   | zero=>intro _;simp
   | succ k ih=>
    intro hk
    rw [List.range_succ,List.flatMap_append,lJ,ih (by omega)]
    simp [hlen k (by omega),Nat.add_mul]
  have hget:∀ k,k≤m→∀ j u,((List.range k).flatMap E)[j]?=some u→w.cell? (ad.add j)=some u:=by
   intro k
   induction k with
   | zero=>intro _ j u hu;simp at hu
   | succ k ih=>
    intro hk j u hu
    rw [List.range_succ,List.flatMap_append] at hu
    by_cases hj:j<((List.range k).flatMap E).length
    ·rw [List.getElem?_append_left hj] at hu
     exact ih (by omega) j u hu
    ·rw [List.getElem?_append_right (by omega)] at hu
     rw [hfl k (by omega)] at hu hj
     obtain ⟨_,_,h3⟩:=World.cells?_some (hE k (by omega)).1
     have hu':(E k)[j-k*size]?=some u:=by simpa using hu
     have hlt:j-k*size<P.cellsOf e:=by
      have:=(gJ hu').1
      rw [hlen k (by omega)] at this
      rw [hc];exact this
     have:=h3 _ hlt
     rw [hu',hc,add_add] at this
     rw [show k*size+(j-k*size)=j by omega] at this
     exact this
  refine ⟨E,⟨hfl len hl,_,_,rfl,hl,hm,by simp,fun ad' had=>?_⟩,fun i hi=>⟨hlen i (by omega),n,_,(hE i (by omega)).2⟩,.inr ?_⟩
  ·cases had
   exact hget len hl
  ·simp only [Prod.mk.injEq] at hx
   exact ⟨_,_,hx.1,by simp,by simp⟩
end
end Go.Proofs.YthekdeikodppkaaGreatDoor
namespace Go.Proofs.YthekdeikodppkaaGreatDoor
open Go.RowKit
abbrev dfr:Obj:=.deferred (some [])
theorem wpIn_range_pieces{F:Fence}{n:Nat}{P:Program}{α ι:Type}{g:Operand}{ps:Array Tmp}{assign body:Code}{Q:Exit→Act→World→Prop}{a:Act}{w0 w:World}
 (hro:F.round=none) (h1:1≤n) {gf:Nat} {lb:Array Value} (hg:a.eval g=.func (.func gf) #[] lb) (hFg:F.fn gf) (eg:∀ args w,(callFunc gf args).run P w=.ok (.enter gf args) w)
 (enc:α→Value) (hps:ps.size=1) (ok:α→Bool) (good:Bool) (I Ix:ι→List Piece) (i0:ι) (H:Own w0 w (I i0)) (a₁:α→Act)
 (hassign:∀ (l:Nat) (x:α) (W:World) (K:Act→World→Prop),K (a₁ x) W →
   assign.wpIn (F.inRound l) (n-1-1) P (Exit.then K (fun _ _ _=>False)) { tmps:=(ps.zip #[enc x]).foldl (fun t (p,v)=>t.setIfInBounds p v) a.tmps,defers:=[] } W)
 (hbody:∀ (l D:Nat) (rc:Obj) (i:ι) (x:α) (W:World),Own w0 W (blk l rc::blk D dfr::I i)→body.wpIn (F.inRound l) (n-1-1) P (fun e _ W'=>
   (e=.normal∧ok x=true∧Own w0 W' (blk l rc::blk D dfr::I i))∨(e=.ret∧ok x=false∧Own w0 W' (blk l rc::blk D dfr::Ix i))) (a₁ x) W)
 (hiter:∀ (l D:Nat) (rA rZ:Obj) (W:World),(∀ (i:ι) (x:α) (W:World),Own w0 W (blk l rA::blk D dfr::I i)→YieldAt F (n-1-1) P l #[enc x] W fun e W'=>
   (ok x=true∧e=.returned (.bool true)∧Own w0 W' (blk l rA::blk D dfr::I i))∨(ok x=false∧e=.returned (.bool false)∧Own w0 W' (blk l rZ::blk D dfr::Ix i))) →
   Own w0 W (blk l rA::blk D dfr::I i0) →
   CallsIn F (n-1) P gf (#[.func (.yield l) #[] #[]]++lb) W fun e W'=>(∃ v,e=.returned v) ∧
    ((good=true∧∃ i,Own w0 W' (blk l rA::blk D dfr::I i))∨(good=false∧∃ i,Own w0 W' (blk l rZ::blk D dfr::Ix i))))
 (hdone:good=true→∀ (D:Nat) (i:ι) (W:World),Own w0 W (blk D dfr::I i)→Q .normal { a with defers:={ target:=.collected D,args:=#[] }::a.defers } W)
 (hstop:good=false→∀ (D:Nat) (i:ι) (W:World),Own w0 W (blk D dfr::Ix i)→Code.ret.wpIn F n P Q { a with defers:={ target:=.collected D,args:=#[] }::a.defers } W) :
 (Code.rangeFunc g ps assign body).wpIn F n P Q a w:=by
 refine wpIn_rangeFunc ?_
 intro fn hfn
 rw [hro]
 obtain ⟨rec,hrec⟩:∃ rec:LoopState→Option Code→Loop,rec=fun st pe=>{ state:=st,pending:=pe,fn,tmps:=a.tmps,params:=ps,assign,body,defers:=w.heap.size }:=⟨_,rfl⟩
 have H1:=((H.alloc dfr).alloc (.loop (rec .ready none)))
 rw [World.size_alloc] at H1
 obtain ⟨W1,hW1⟩:∃ W1,(w.alloc dfr).alloc (.loop (rec .ready none))=W1:=⟨_,rfl⟩
 rw [hW1] at H1
 have put:∀ {W:World} {l:Nat} {o:Obj} (o':Obj) {qs:List Piece},Own w0 W (blk l o::qs)→Own w0 (W.putObj l o') (blk l o'::qs):=fun {W l o} o' {qs} h=>
  h.turn rfl rfl rfl (by simp) (World.putObj_heap_same (Array.getElem?_eq_some_iff.1 h.block.1).1) (fun k _ hk=>World.putObj_heap_other hk)
 refine ⟨w.heap.size+1,[{ target:=.collected w.heap.size,args:=#[] }],W1,{ target:=.fn (.func gf) lb,args:=#[.func (.yield (w.heap.size+1)) #[] #[]] },W1,gf,
  #[.func (.yield (w.heap.size+1)) #[] #[]]++lb,W1,?_,?_,?_,?_,fun _=>h1,?_⟩
 ·rw [← hW1,hrec];exact run_enterLoop_outer _ _ _ _ _
 ·simp only [resolve,hg]
  simp [go_sem]
 ·intro f' hf';simp [Target.leads] at hf';subst hf';exact hFg
 ·simp [invoke,go_sem,eg]
 ·refine (hiter (w.heap.size+1) w.heap.size (.loop (rec .ready none)) (.loop (rec .done (some .ret))) W1 ?_ H1).mono ?_
  ·intro i x W HW
   have hl:=HW.block.1
   have hy:=run_yield (P:=P) (args:=#[enc x]) hl (by rw [hrec];simp [hps])
   rw [hrec] at hy
   refine ⟨fn,_,assign,body,hy,roundIn_of_wpIn hfn (hassign _ x W _ ⟨_,run_beginRound hl (by rw [hrec]),?_⟩)⟩
   refine wpIn_mono (hbody _ _ _ i x _ (put (.loop { rec .ready none with state:=.busy }) HW)) ?_
   rintro e a3 W3 (⟨rfl,hok,H3⟩ | ⟨rfl,hok,H3⟩)
   ·have hr:=run_endRound (P:=P) none H3.block.1
    refine ⟨_,_,hr,.inl ⟨hok,rfl,?_⟩⟩
    have:=put (.loop (rec .ready none)) H3
    rw [hrec] at this ⊢
    exact this
   ·have hr:=run_endRound (P:=P) (some .ret) H3.block.1
    refine ⟨_,_,hr,.inr ⟨hok,rfl,?_⟩⟩
    have:=put (.loop (rec .done (some .ret))) H3
    rw [hrec] at this ⊢
    exact this
  ·rintro e W2 ⟨⟨v,rfl⟩,(⟨hg1,i,H2⟩ | ⟨hg1,i,H2⟩)⟩
   ·refine ⟨none,_,by have:=run_endLoop (P:=P) H2.block.1 (by rw [hrec];simp);rw [hrec] at this;exact this,?_⟩
    exact hdone hg1 _ i _ (put _ H2).drop
   ·refine ⟨some .ret,_,by have:=run_endLoop (P:=P) H2.block.1 (by rw [hrec];simp);rw [hrec] at this;exact this,?_⟩
    exact hstop hg1 _ i _ (put _ H2).drop
noncomputable section
theorem putAt_eq:∀ (xs L:List AV) (o:Nat),o+xs.length≤L.length→putAt L o xs=L.take o++xs++L.drop (o+xs.length)
 | [],L,o,_=>by simp [putAt]
 | x::xs,L,o,h=>by
  simp only [List.length_cons] at h
  rw [putAt,putAt_eq xs (L.set o x) (o+1) (by simp;omega)]
  have h1:(L.set o x).take (o+1)=L.take o++[x]:=by
   rw [List.take_add_one,List.take_set_of_le (Nat.le_refl _)]
   rw [List.getElem?_set_self (by omega)];rfl
  have h2:(L.set o x).drop (o+1+xs.length)=L.drop (o+(xs.length+1)):=by
   rw [List.drop_set_of_lt (by omega)];congr 1;omega
  rw [h1,h2]
  simp
theorem vrs_lits(F:Funs)(e:Env):∀ l:List Value,VRs F e (l.map .lit) l
 | []=>rfl
 | v::l=>⟨v,l,rfl,rfl,vrs_lits F e l⟩
section
variable {F:Funs} {e:Env} {w0 w:World} {h:AH} {P:Program}
theorem HR.move(H:HR F e w0 w h){b B k n k':Nat}{cs cs':List AV}{cur:Array Value}{t:TypeId}{fz:Nat × Nat}{vs':List Value}(hb:h.bs[b]?=some (.cells cs))(hx:e.bl[b]?=some (B,k,n))
 (hh:w.heap[B]?=some (.cells cur t fz)) (hv:VRs F e cs' vs') (ht:(cur.toList.drop k').take cs'.length=vs') :
 HR F ⟨e.bl++[(B,k',n)],e.tx⟩ w0 w { h with bs:=h.bs.set b .dead++[.cells cs'] }:=by
 obtain ⟨cur',t',fz',vs,g1,g2,g3,g4,g5,g6,g7⟩:=H.at' hb hx
 rw [hh] at g3
 cases g3
 have hle:e.le ⟨e.bl++[(B,k',n)],e.tx⟩:=⟨⟨_,rfl⟩,⟨[],by simp⟩⟩
 have hl:=H.len
 have key:∀ (i:Nat) (o:AO) (x:Nat × Nat × Nat),(h.bs.set b .dead++[AO.cells cs'])[i]?=some o→(e.bl++[(B,k',n)])[i]?=some x→o.live=true →
  (i<h.bs.length∧i≠b∧h.bs[i]?=some o∧e.bl[i]?=some x)∨(i=h.bs.length∧x=(B,k',n)∧o=.cells cs'):=by
  intro i o x h1 h2 h3
  rcases Nat.lt_or_ge i h.bs.length with hi | hi
  ·rw [List.getElem?_append_left (by simpa using hi)] at h1
   rw [List.getElem?_append_left (by omega)] at h2
   by_cases hib:i=b
   ·subst hib
    rw [List.getElem?_set_self hi] at h1
    cases h1;cases h3
   ·rw [List.getElem?_set_ne (Ne.symm hib)] at h1
    exact .inl ⟨hi,hib,h1,h2⟩
  ·rw [List.getElem?_append_right (by simpa using hi)] at h1
   rw [List.getElem?_append_right (by omega)] at h2
   simp only [List.length_set,hl] at h1
   cases hi':i-e.bl.length with
   | zero=>rw [hi'] at h1 h2;simp at h1 h2;exact .inr ⟨by omega,h2.symm,h1.symm⟩
   | succ m=>rw [hi'] at h1;simp at h1
 refine ⟨H.below,by simp [hl],H.nv,?_,?_⟩
 ·intro i o x h1 h2 h3
  rcases key i o x h1 h2 h3 with ⟨_,_,a3,a4⟩ | ⟨_,rfl,rfl⟩
  ·obtain ⟨q1,q2,q3⟩:=H.objs i o x a3 a4 h3
   exact ⟨q1,q2,q3.le hle⟩
  ·exact ⟨g1,g2,cur,t,fz,hh,g4,g5,vs',VRs.le hle _ _ hv,ht⟩
 ·intro i j o1 o2 x y hij h1 h2 l1 l2 b1 b2
  rcases key i o1 x h1 b1 l1 with ⟨a1,a2,a3,a4⟩ | ⟨a1,rfl,_⟩ <;> rcases key j o2 y h2 b2 l2 with ⟨c1,c2,c3,c4⟩ | ⟨c1,rfl,_⟩
  ·exact H.inj i j o1 o2 x y hij a3 c3 l1 l2 a4 c4
  ·exact H.inj i b o1 (.cells cs) x (B,k,n) a2 a3 hb l1 rfl a4 hx
  ·exact H.inj b j (.cells cs) o2 (B,k,n) y (Ne.symm c2) hb c3 rfl l2 hx c4
  ·omega
theorem HR.recell(H:HR F e w0 w h){b B k n:Nat}{cs cs':List AV}{cur:Array Value}{t:TypeId}{fz:Nat × Nat}{vs':List Value}(hb:h.bs[b]?=some (.cells cs))(hx:e.bl[b]?=some (B,k,n))
 (hh:w.heap[B]?=some (.cells cur t fz)) (hv:VRs F e cs' vs') (ht:(cur.toList.drop k).take cs'.length=vs') :
 HR F e w0 w { h with bs:=h.bs.set b (.cells cs') }:=by
 obtain ⟨cur',t',fz',vs,g1,g2,g3,g4,g5,g6,g7⟩:=H.at' hb hx
 rw [hh] at g3
 cases g3
 have key:∀ (i:Nat) (o:AO),(h.bs.set b (.cells cs'))[i]?=some o→o.live=true→∃ o',h.bs[i]?=some o'∧o'.live=true∧(i≠b→o'=o):=by
  intro i o h1 h3
  by_cases hib:i=b
  ·subst hib;exact ⟨_,hb,rfl,fun h=>absurd rfl h⟩
  ·rw [List.getElem?_set_ne (Ne.symm hib)] at h1
   exact ⟨o,h1,h3,fun _=>rfl⟩
 refine ⟨H.below,by simpa using H.len,H.nv,?_,?_⟩
 ·intro i o x h1 h2 h3
  by_cases hib:i=b
  ·subst hib
   rw [hx] at h2;cases h2
   rw [List.getElem?_set_self (gJ hb).1] at h1
   cases h1
   exact ⟨g1,g2,cur,t,fz,hh,g4,g5,vs',hv,ht⟩
  ·rw [List.getElem?_set_ne (Ne.symm hib)] at h1
   exact H.objs i o x h1 h2 h3
 ·intro i j o1 o2 x y hij h1 h2 l1 l2 b1 b2
  obtain ⟨o1',p1,p2,_⟩:=key i o1 h1 l1
  obtain ⟨o2',p3,p4,_⟩:=key j o2 h2 l2
  exact H.inj i j o1' o2' x y hij p1 p3 p2 p4 b1 b2
def aSrc(P:Program)(tx:TypeId)(es:Nat)(x:AV)(h:AH):Option (Nat × List AV):=
 match x,P.underlying tx with
 | .slc b o n _ es',some (.slice _)=>match h.bs[b]? with
  | some (.cells cs)=>if es'=es∧o+n*es≤cs.length∧0<n∧((cs.drop o).take (n*es)).all AV.one=true then some (n,(cs.drop o).take (n*es)) else none
  | _=>none
 | .txt t,some .string=>match tby t with
  | some l=>if es=1 then some (l.length,l.map fun (x:Nat)=>AV.lit (.int .u8 (x:Int))) else none
  | none=>none
 | .lit (.slice none 0 c),some (.slice _)=>some (0,[])
 | _,_=>none
theorem vrs_one:∀ {xs:List AV} {vs:List Value},VRs F e xs vs→xs.all AV.one=true→∀ u∈vs,u.oneCell'=true
 | [],vs,h,_,u,hu=>by rw [show vs=[] from h] at hu;cases hu
 | x::xs,vs,h,ho,u,hu=>by
  obtain ⟨v,l',rfl,h1,h2⟩:=h
  simp only [List.all_cons,Bool.and_eq_true] at ho
  rcases List.mem_cons.1 hu with rfl | hm
  ·have:=h1.one1 ho.1
   cases u <;> first | rfl | cases this
  ·exact vrs_one h2 ho.2 u hm
theorem aSrc_run{tx:TypeId}{es:Nat}{x:AV}{v:Value}{m:Nat}{news:List AV}(H:HR F e w0 w h)(hx:VR F e x v)(hr:aSrc P tx es x h=some (m,news)) :
 ∃ vs,VRs F e news vs∧Src P es tx v m vs w∧news.all AV.one=true:=by
 unfold aSrc at hr
 split at hr
 ·rename_i b o n cap es' el hu
  split at hr
  ·rename_i cs hb
   split at hr
   ·rename_i hc
    obtain ⟨rfl,hc1,hc2,hc3⟩:=hc
    cases hr
    obtain ⟨B,k,sz,c',o',hbl,rfl,ho,hlc,hcc,hn,hmm⟩:=hx
    have ho':o'=k+o:=by rcases ho with h | h <;> omega
    subst ho'
    obtain ⟨cur,t,fz,vs,g1,g2,g3,g4,g5,g6,g7⟩:=H.at' hb hbl
    have hv:=VRs.take _ _ (m*es') (VRs.drop _ _ o g6)
    refine ⟨_,hv,?_,hc3⟩
    refine Src.ofSlice w hu _ m c' _ (by rw [VRs.length _ _ hv,List.length_take,List.length_drop];omega) ?_ (vrs_one hv hc3)
    intro j u hj
    have hjm:j<m*es':=by
     have:=(gJ hj).1
     rw [List.length_take] at this;omega
    rw [List.getElem?_take_of_lt hjm,List.getElem?_drop,← g7,List.getElem?_take_of_lt (by omega),List.getElem?_drop] at hj
    rw [add_off]
    simp only [World.cell?,g3]
    rw [show k+o+j=k+(o+j) by omega]
    simpa using hj
   ·cases hr
  ·cases hr
 ·rename_i t hu
  split at hr
  ·rename_i l hl
   split at hr
   ·rename_i hes
    subst hes
    cases hr
    have hd:=hx.2
    rw [(tby_den hl).1] at hd
    subst hd
    have hsz:(Qb (l.map Nat.toUInt8)).size=l.length:=by simp [Qb,ByteArray.size]
    have:=Src.ofString (P:=P) w hu (Qb (l.map Nat.toUInt8))
    rw [hsz] at this
    have hby:byteCells (Qb (l.map Nat.toUInt8))=l.map fun (x:Nat)=>Value.int .u8 (x:Int):=by
     simp only [byteCells,Qb,List.map_map]
     refine List.map_congr_left fun x hxm=>?_
     have hlt:=(tby_den hl).2 hx.1 x hxm
     simp only [Function.comp,Nat.toUInt8_eq,UInt8.toNat_ofNat']
     congr 1
     omega
    rw [hby] at this
    refine ⟨_,?_,this,by simp [AV.one]⟩
    have:=vrs_lits F e (l.map fun (x:Nat)=>Value.int .u8 (x:Int))
    simpa [List.map_map,Function.comp_def] using this
   ·cases hr
  ·cases hr
 ·rename_i c el hu
  cases hr
  have hv:v=.slice none 0 c:=hx
  subst hv
  exact ⟨[],rfl,Src.ofNil w hu c,rfl⟩
 ·cases hr
def aBase(s:AV)(es:Nat)(h:AH):Option (Option Nat × Nat × List AV):=
 match s with
 | .lit (.slice none 0 0)=>some (none,0,[])
 | .slc b o n _ es'=>match h.bs[b]? with
  | some (.cells cs)=>if es'=es∧o+n*es≤cs.length then some (some b,n,(cs.drop o).take (n*es)) else none
  | _=>none
 | _=>none
def killB:Option Nat→List AO→List AO
 | some b,l=>l.set b .dead
 | none,l=>l
def aAppend(P:Program)(ts:Array TypeId)(s x:AV)(h:AH):Option AR:=
 match ts[0]?,ts[1]? with
 | some t,some tx=>match P.underlying t with
  | some (.slice el)=>match P.info? el with
   | some i=>match i.zero with
    | some z=>match aSrc P tx i.size x h,aBase s i.size h with
     | some (m,news),some (b,n,olds)=>
      if m=0 then some (.val s h) else
      if z.cells.size=i.size∧0<i.size∧n+m≤1000000∧i.bytes≤1000000 then
       fAVs (olds++news) fun cs=>match b with
        | some b=>h.setF b .dead fun h1=>h1.pushF (.cells cs) fun h2=>some (.val (.slc h.bs.length 0 (n+m) (n+m) i.size) h2)
        | none=>h.pushF (.cells cs) fun h2=>some (.val (.slc h.bs.length 0 (n+m) (n+m) i.size) h2)
      else none
     | _,_=>none
    | none=>none
   | none=>none
  | _=>none
 | _,_=>none
theorem vrs_split:∀ {xs ys:List AV} {vs:List Value},VRs F e (xs++ys) vs→∃ us ws,vs=us++ws∧VRs F e xs us∧VRs F e ys ws
 | [],ys,vs,h=>⟨[],vs,rfl,rfl,h⟩
 | x::xs,ys,vs,h=>by
  obtain ⟨v,l',rfl,h1,h2⟩:=h
  obtain ⟨us,ws,rfl,h3,h4⟩:=vrs_split (xs:=xs) h2
  exact ⟨v::us,ws,rfl,⟨v,us,rfl,h1,h3⟩,h4⟩
theorem vrs_lits_eq:∀ {l vs:List Value},VRs F e (l.map .lit) vs→vs=l
 | [],vs,h=>h
 | v::l,vs,h=>by
  obtain ⟨u,l',rfl,h1,h2⟩:=h
  rw [show u=v from h1,vrs_lits_eq h2]
theorem aAppend_run{ts:Array TypeId}{s x:AV}{sv xv:Value}{ty:TypeId}{r:AR}(hts:ts.size=2)(H:HR F e w0 w h)(hs:VR F e s sv)(hx:VR F e x xv)(hr:aAppend P ts s x h=some r) :
 ∃ a h',r=.val a h'∧∃ v w' e',(Builtin.append_ ts ty #[sv,xv]).run P w=.ok v w'∧e.le e'∧VR F e' a v∧HR F e' w0 w' h':=by
 unfold aAppend at hr
 simp only [fAVs_eq,AH.setF_eq,AH.pushF_eq] at hr
 split at hr
 rotate_left
 ·cases hr
 rename_i t tx ht0 ht1
 have hte:ts=#[t,tx]:=by
  apply Array.ext'
  match ts,hts with
  | ⟨[a,b]⟩,_=>simp at ht0 ht1;rw [ht0,ht1]
 subst hte
 split at hr
 rotate_left
 ·cases hr
 rename_i el hu
 split at hr
 rotate_left
 ·cases hr
 rename_i i hi
 split at hr
 rotate_left
 ·cases hr
 rename_i z hz
 split at hr
 rotate_left
 ·cases hr
 rename_i m news b n olds hsrc hbase
 obtain ⟨nv,hnv,hS,hone⟩:=aSrc_run H hx hsrc
 have hb:∃ (base:Option Addr) (c:Nat) (ov:List Value),sv=.slice base n c∧VRs F e olds ov∧(∀ w',w'.heap=w.heap→(Builtin.firstCells i.size n (.slice base n c)).run P w'=.ok ov.toArray w')∧n≤c∧c≤maxLen ∧
  ((b=none∧base=none∧c=0)∨∃ bb B k sz o' cs,b=some bb∧base=some ⟨B,o',none⟩∧h.bs[bb]?=some (.cells cs)∧e.bl[bb]?=some (B,k,sz)∧o'+c*i.size≤sz∧(∀ cur t fz,w.heap[B]?=some (.cells cur t fz)→(cur.toList.drop o').take (n*i.size)=ov)):=by
  unfold aBase at hbase
  split at hbase
  ·cases hbase
   have hv:sv=.slice none 0 0:=hs
   subst hv
   exact ⟨none,0,[],rfl,rfl,fun w' _=>run_firstCells_none w' i.size 0 0 0,Nat.le_refl _,by simp [maxLen],.inl ⟨rfl,rfl,rfl⟩⟩
  ·rename_i bb o n' cap es'
   split at hbase
   ·rename_i cs hbb
    split at hbase
    ·rename_i hc
     obtain ⟨rfl,hc⟩:=hc
     cases hbase
     obtain ⟨B,k,sz,c',o',hbl,rfl,ho,hlc,hcc,hn,hm⟩:=hs
     obtain ⟨cur,t',fz,vs,g1,g2,g3,g4,g5,g6,g7⟩:=H.at' hbb hbl
     have hv:=VRs.take _ _ (n*i.size) (VRs.drop _ _ o g6)
     have hcur:(cur.toList.drop o').take (n*i.size)=(vs.drop o).take (n*i.size):=by
      rcases ho with rfl | h0
      ·rw [← g7,List.drop_take,List.take_take,List.drop_drop,Nat.min_eq_left (by omega)]
      ·have:n=0:=by omega
       subst this;simp
     refine ⟨some ⟨B,o',none⟩,c',_,rfl,hv,?_,by omega,hm,.inr ⟨bb,B,k,sz,o',cs,rfl,rfl,hbb,hbl,hn,fun cur' t2 fz2 hh=>?_⟩⟩
     ·intro w' hw'
      refine run_firstCells_some w' i.size n ⟨B,o',none⟩ n c' _ (by rw [VRs.length _ _ hv,List.length_take,List.length_drop];omega) ?_
      intro j u hj
      rw [← hcur] at hj
      have hjm:j<n*i.size:=by
       have:=(gJ hj).1
       rw [List.length_take] at this;omega
      rw [List.getElem?_take_of_lt hjm,List.getElem?_drop] at hj
      rw [add_off]
      simp only [World.cell?,hw',g3]
      simpa using hj
     ·rw [g3] at hh;cases hh;exact hcur
    ·cases hbase
   ·cases hbase
  ·cases hbase
 obtain ⟨base,c,ov,rfl,hov,hfirst,hnc,hcm,hcase⟩:=hb
 split at hr
 ·
  rename_i hm
  subst hm
  cases hr
  refine ⟨s,h,rfl,.slice base n c,w,e,?_,Env.le_refl _,hs,H⟩
  have hnl:nv=[]:=eJ (by rw [hS.newsLen];simp)
  subst hnl
  rcases hS.kind with ⟨e',hk⟩ | hk <;> cases base <;>
   simp [Builtin.append_,run_underlying hu,run_underlying hk,sizeOf,typeInfo,hi,hS.len,hnc,hS.cells,storeCells]
 rename_i hm
 split at hr
 rotate_left
 ·cases hr
 rename_i hc
 obtain ⟨hzs,hsz,hnm,hby⟩:=hc
 have hr':some (AR.val (.slc h.bs.length 0 (n+m) (n+m) i.size) { h with bs:=killB b h.bs++[.cells (olds++news)] })=some r:=by
  cases b <;> exact hr
 clear hr
 cases hr'
 refine ⟨_,_,rfl,?_⟩
 have hovl:ov.length=n*i.size:=by
  have h1:=hfirst w rfl
  rcases hcase with ⟨_,rfl,rfl⟩ | ⟨bb,B,k,sz,o',cs,_,rfl,hbb,hbl,hn,hcur⟩
  ·have hn0:n=0:=by omega
   subst hn0
   rw [run_firstCells_none] at h1
   have:ov.toArray=#[]:=by injection h1 with h1 _;exact h1.symm
   have:ov=[]:=by simpa using this
   rw [this];simp
  ·obtain ⟨cur,t',fz,vs,g1,g2,g3,g4,g5,g6,g7⟩:=H.at' hbb hbl
   rw [← hcur _ _ _ g3,List.length_take,List.length_drop,Array.length_toList,g4]
   have:n*i.size≤c*i.size:=Nat.mul_le_mul_right _ hnc
   omega
 have hnvl:=hS.newsLen
 have hole:=VRs.length _ _ hov
 have hnle:=VRs.length _ _ hnv
 by_cases hroom:n+m≤c
 ·
  rcases hcase with ⟨_,_,rfl⟩ | ⟨bb,B,k,sz,o',cs,rfl,rfl,hbb,hbl,hn,hcur⟩
  ·omega
  obtain ⟨cur,t',fz,vs,g1,g2,g3,g4,g5,g6,g7⟩:=H.at' hbb hbl
  have hmul:(n+m)*i.size≤c*i.size:=Nat.mul_le_mul_right _ hroom
  rw [Nat.add_mul] at hmul
  have hL:(cur.toList.drop o').length=sz-o':=by rw [List.length_drop,Array.length_toList,g4]
  have H1:=H.move (k':=o') (cs':=(cur.toList.drop o').map .lit) hbb hbl g3 (vrs_lits F e _) (by rw [List.length_map,List.take_length])
  have hle:e.le ⟨e.bl++[(B,o',sz)],e.tx⟩:=⟨⟨_,rfl⟩,⟨[],by simp⟩⟩
  have hbl1:(e.bl++[(B,o',sz)])[h.bs.length]?=some (B,o',sz):=by rw [H.len];simp
  have hbb1:(h.bs.set bb .dead++[AO.cells ((cur.toList.drop o').map .lit)])[h.bs.length]?=some (.cells ((cur.toList.drop o').map .lit)):=by
   rw [List.getElem?_append_right (by simp)];simp
  have hnv1:=VRs.le hle _ _ hnv
  obtain ⟨w',hst,H2⟩:=storeCells_run (P:=P) news nv (i:=0) (o:=n*i.size) H1 hbb1 hbl1 hnv1 hone (by rw [List.length_map,hL];omega)
  have hbb2:((h.bs.set bb .dead++[AO.cells ((cur.toList.drop o').map .lit)]).set h.bs.length (.cells (putAt ((cur.toList.drop o').map .lit) (n*i.size+0) news)))[h.bs.length]?=some (.cells (putAt ((cur.toList.drop o').map .lit) (n*i.size+0) news)):=by
   rw [List.getElem?_set_self (by simp)]
  obtain ⟨cur2,t2,fz2,vs2,q1,q2,q3,q4,q5,q6,q7⟩:=H2.at' hbb2 hbl1
  rw [putAt_eq _ _ _ (by rw [List.length_map,hL];omega),Nat.add_zero] at q6
  obtain ⟨us,ws,rfl,p1,p2⟩:=vrs_split q6
  obtain ⟨us1,us2,rfl,p3,p4⟩:=vrs_split p1
  have hus1:us1=ov:=by
   rw [← List.map_take] at p3
   rw [vrs_lits_eq p3]
   exact hcur _ _ _ g3
  subst hus1
  have hvn:=VRs.append _ _ _ _ (VRs.le hle _ _ hov) p4
  have hlen2:=VRs.length _ _ hvn
  have H3:=H2.recell (cs':=olds++news) hbb2 hbl1 q3 hvn (by
   have h1:((cur2.toList.drop o').take ((us1++us2)++ws).length)=(us1++us2)++ws:=by
    rw [VRs.length _ _ q6]
    have:((cur.toList.drop o').map AV.lit).take (n*i.size)++news++((cur.toList.drop o').map AV.lit).drop (n*i.size+news.length)=putAt ((cur.toList.drop o').map .lit) (n*i.size+0) news:=by
     rw [putAt_eq _ _ _ (by rw [List.length_map,hL];omega),Nat.add_zero]
    rw [this];exact q7
   have h2:(olds++news).length=(us1++us2).length:=hlen2.symm
   rw [h2]
   have h3:=congrArg (List.take (us1++us2).length) h1
   rw [List.take_take,Nat.min_eq_left (by simp),List.take_left] at h3
   exact h3)
  refine ⟨.slice (some ⟨B,o',none⟩) (n+m) c,w',_,?_,hle,⟨B,o',sz,c,o',hbl1,rfl,.inl rfl,Nat.le_refl _,hroom,by omega,hcm⟩,?_⟩
  ·rcases hS.kind with ⟨e',hk⟩ | hk <;>
    simp [Builtin.append_,run_underlying hu,run_underlying hk,sizeOf,typeInfo,hi,hS.len,hroom,hS.cells,add_off,hst]
  ·have:((h.bs.set bb .dead++[AO.cells ((cur.toList.drop o').map .lit)]).set h.bs.length (.cells (putAt ((cur.toList.drop o').map .lit) (n*i.size+0) news))).set h.bs.length (.cells (olds++news))=h.bs.set bb .dead++[.cells (olds++news)]:=by
    rw [List.set_set,List.set_append_right _ _ (by simp)]
    simp
   rw [this] at H3
   exact H3
 ·
  have hge:=grownCap_ge w (n+m) c el
  have hle':=grownCap_le_maxLen w (n+m) c el (by simp [maxLen];omega)
  have hrun:=run_append_grow_src (P:=P) w t tx ty el i z hu hi hz base n c ov (hfirst w.drew rfl) xv m nv hS (by omega) (by omega) (growslice_fits (by omega) (by
   have:(n+m)*i.bytes≤1000000*1000000:=Nat.mul_le_mul hnm hby
   omega))
  have Hd:HR F e w0 w.drew (match b with | some b=>{ h with bs:=h.bs.set b .dead } | none=>h):=by
   cases b with
   | none=>exact H.same rfl rfl rfl rfl
   | some b=>exact (H.kill b).same rfl rfl rfl rfl
  have hvn:=VRs.append _ _ _ _ hov hnv
  have hlen2:=VRs.length _ _ hvn
  have H3:=Hd.row (cur:=(ov++nv).toArray++Builtin.zeroCells z.cells (grownCap w (n+m) c el-(n+m))) (t:=el) (fz:=(0,0)) hvn (by
   simp only [Array.toList_append]
   rw [← hlen2]
   exact List.take_left) (by simp)
  have hcsz:((ov++nv).toArray++Builtin.zeroCells z.cells (grownCap w (n+m) c el-(n+m))).size=grownCap w (n+m) c el*i.size:=by
   simp only [Array.size_append,List.size_toArray,lJ,size_zeroCells,hzs,hovl,hnvl,← Nat.add_mul]
   congr 1;omega
  refine ⟨_,_,⟨e.bl++[(w.heap.size,0,((ov++nv).toArray++Builtin.zeroCells z.cells (grownCap w (n+m) c el-(n+m))).size)],e.tx⟩,hrun,⟨⟨_,rfl⟩,⟨[],by simp⟩⟩,⟨w.heap.size,0,grownCap w (n+m) c el*i.size,grownCap w (n+m) c el,0,?_,rfl,.inl rfl,Nat.le_refl _,hge,?_,hle'⟩,?_⟩
  ·rw [H.len,hcsz];simp
  ·rw [Nat.zero_add];exact Nat.le_refl _
  ·cases b with
   | none=>exact H3
   | some b=>exact H3
end
end
end Go.Proofs.YthekdeikodppkaaGreatDoor
namespace Go.Proofs.YthekdeikodppkaaGreatDoor
open Go.RowKit Go.Maps Go.ChangeShapes Go.WideShapes
def k3(k:UInt8 × UInt8 × UInt8):Value:=.agg #[.int .u8 k.1.toNat,.int .u8 k.2.1.toNat,.int .u8 k.2.2.toNat]
set_option maxRecDepth 100000 in
theorem k3_inj(a b:UInt8 × UInt8 × UInt8)(h:k3 a=k3 b):a=b:=by
 obtain ⟨a0,a1,a2⟩:=a
 obtain ⟨b0,b1,b2⟩:=b
 simp only [k3,Value.agg.injEq,Array.mk.injEq,List.cons.injEq,Value.int.injEq,true_and,and_true] at h
 obtain ⟨h0,h1,h2⟩:=h
 have e0:a0=b0:=UInt8.toNat_inj.1 (by omega)
 have e1:a1=b1:=UInt8.toNat_inj.1 (by omega)
 have e2:a2=b2:=UInt8.toNat_inj.1 (by omega)
 rw [e0,e1,e2]
set_option maxRecDepth 100000 in
theorem k3_laidOut:laidOutB Tryz.prog=true:=by kernel_rfl
set_option maxRecDepth 100000 in
theorem k3_row:(393:TypeId)<Tryz.prog.types.size:=of_decide_eq_true (by kernel_rfl)
set_option maxRecDepth 100000 in
theorem k3_deep:Tryz.prog.keyTypeAt (Tryz.prog.types.size+1) 393=true:=by kernel_rfl
set_option maxRecDepth 100000 in
theorem k3_wide:(match Tryz.prog.underlying 393 with | some (.array _ _) | some (.struct _)=>true | _=>false)=true:=by rw [Tryz.underlying393]
set_option maxRecDepth 100000 in
theorem k3_law:Keyed Tryz.prog 393:=Keyed.of_law (deep_law_laid k3_laidOut (m:=2) (by omega) k3_row (by kernel_rfl) k3_wide)
set_option maxRecDepth 100000 in
theorem k3_key(w:World)(k:UInt8 × UInt8 × UInt8):∃ kl,keyOf Tryz.prog 393 (k3 k)=some kl:=by
 have hc:Tryz.prog.cellsOf 393=3:=by kernel_rfl
 have hc1:Tryz.prog.cellsOf 5=1:=by kernel_rfl
 have hf:(k3 k).formed Tryz.prog 393=true:=by simp [k3,Value.formed,Tryz.underlying393,hc]
 have h0:=k.1.toNat_lt
 have h1:=k.2.1.toNat_lt
 have h2:=k.2.2.toNat_lt
 have w0:(Lit.int .u8 (k.1.toNat:Int)).wf=true:=by simp [Lit.wf,IntKind.min,IntKind.max,IntKind.bits,IntKind.signed];omega
 have w1:(Lit.int .u8 (k.2.1.toNat:Int)).wf=true:=by simp [Lit.wf,IntKind.min,IntKind.max,IntKind.bits,IntKind.signed];omega
 have w2:(Lit.int .u8 (k.2.2.toNat:Int)).wf=true:=by simp [Lit.wf,IntKind.min,IntKind.max,IntKind.bits,IntKind.signed];omega
 have ht:DataW.Trod (H:=Unit) (fun _=>()) Tryz.prog w 0 (fun _=>true) true 393 (k3 k) (.agg [.lit (.int .u8 k.1.toNat),.lit (.int .u8 k.2.1.toNat),.lit (.int .u8 k.2.2.toNat)]) []:=by
  refine ⟨2,?_⟩
  simp [DataW.trod,k3,Value.cells,Tryz.underlying393,Tryz.underlying5,hc,hc1,w0,w1,w2,List.range,List.range.loop]
 exact ⟨_,(keyOf_asKey k3_deep k3_wide hf ht).1⟩
end Go.Proofs.YthekdeikodppkaaGreatDoor
namespace Go.Proofs.YthekdeikodppkaaGreatDoor
open Go.RowKit Go.Maps
section
variable {P:Program} {ops:Array Oper} {S:Sig→World→Prop} {nw:List Nat} {R:Act→Prop} {a:Act} {o:Oper} {rest:List Oper} {i:Nat}
variable {K E t:TypeId} {α:Type} {enc:α→Value} {b n:Nat} {g:α→Int} {w0:World}
theorem calm_lookup(m x:Operand)(hi:i ∉ nw)(hw:Region.wanted o (yielded ops a.tmps)=true)(ho:o.op=.lookup t m x false)(hm:a.eval m=.map (some b)){k:α}(hx:a.eval x=enc k)
 (hS:∀ σ w,S σ w→∃ ps,Own w0 w (mpi P K E enc b n g::ps)) (hK:Keyed P K) (ht:P.underlying t=some (.map K E)) (he:P.underlying E=some (.int .i64)) (hz:∀ w,(zeroValue E).run P w=.ok (.int .i64 0) w)
 {kl:Lit} (hkey:keyOf P K (enc k)=some kl)
 (h:calm P ops S nw R (i+1) rest (a.put o.dst (.int .i64 (g k)))):calm P ops S nw R i (o::rest) a:=
 calm_value hi hw (fun σ w hs=>by
  obtain ⟨ps,H⟩:=hS σ w hs
  have hr:=mpi_lookup H hK ht he (hz w) hkey
  simp [execOp,ho,hm,hx,hr]) h
theorem Own.mpi_mono{w:World}{ps:List Piece}{m:Nat}(h:Own w0 w (mpi P K E enc b n g::ps))(hm:n≤m):Own w0 w (mpi P K E enc b m g::ps):=
 h.imp fun _ ⟨es,clock,h1,h2,h3,h4⟩=>⟨es,clock,h1,h2,by omega,h4⟩
end
end Go.Proofs.YthekdeikodppkaaGreatDoor
namespace Go.Proofs.YthekdeikodppkaaGreatDoor
open Go.RowKit
noncomputable section
section
variable {F:Funs} {e:Env} {w0 w:World} {h:AH} {P:Program}
def aReps(z:List AV)(m:Nat):List AV:=(List.range m).map fun i=>z.getD (i%z.length) (.lit undef)
theorem aReps_vr{z:List AV}{zs:Array Value}(hz:VRs F e z zs.toList)(hp:0<z.length)(m:Nat):VRs F e (aReps z m) ((Array.range m).map (zs[· % zs.size]!)).toList:=by
 have hl:=VRs.length _ _ hz
 simp only [Array.length_toList] at hl
 have:∀ l:List Nat,VRs F e (l.map fun i=>z.getD (i%z.length) (.lit undef)) (l.map fun i=>zs[i%zs.size]!):=by
  intro l
  induction l with
  | nil=>rfl
  | cons i l ih=>
   refine ⟨_,_,rfl,?_,ih⟩
   have hlt:i%z.length<z.length:=Nat.mod_lt _ hp
   obtain ⟨v,h1,h2⟩:=VRs.get _ _ (i%z.length) _ hz (List.getElem?_eq_getElem hlt)
   simp only [List.getD_eq_getElem?_getD,List.getElem?_eq_getElem hlt,Option.getD_some]
   rw [hl]
   rw [Array.getElem?_toList] at h1
   rw [show zs[i%z.length]! = v by rw [getElem!_def,h1]]
   exact h2
 have:=this (List.range m)
 simpa [aReps] using this
def aBuildSlice(P:Program)(t:TypeId)(len:Nat)(parts:List (Nat × AV))(h:AH):Option AR:=
 match P.underlying t with
 | some (.slice el)=>match P.info? el with
  | some i=>match i.zero with
   | some z=>
    if len=0 then match parts with
     | []=>h.pushF (.cells []) fun h'=>some (.val (.slc h.bs.length 0 0 0 i.size) h')
     | _=>none
    else if 0<len*i.size∧len*i.size≤100000∧(ofVal z).cells.length=i.size then
     match aFill (fun j=>some (j*i.size,i.size)) (aReps (ofVal z).cells (len*i.size)) parts with
     | some cs=>if cs.length=len*i.size then fAVs cs fun cs=>h.pushF (.cells cs) fun h'=>some (.val (.slc h.bs.length 0 len len i.size) h') else none
     | none=>none
    else none
   | none=>none
  | none=>none
 | _=>none
theorem aBuildSlice_run{t:TypeId}{len:Nat}{parts:List (Nat × AV)}{ps:Array (Nat × Value)}{r:AR}(H:HR F e w0 w h)(hp:PartsR F e parts ps.toList)(hr:aBuildSlice P t len parts h=some r) :
 ∃ a h',r=.val a h'∧∃ v w' e',(Instr.buildSlice t len ps).run P w=.ok v w'∧e.le e'∧VR F e' a v∧HR F e' w0 w' h':=by
 unfold aBuildSlice at hr
 simp only [fAVs_eq,AH.pushF_eq] at hr
 split at hr
 rotate_left
 ·cases hr
 rename_i el hu
 split at hr
 rotate_left
 ·cases hr
 rename_i i hi
 split at hr
 rotate_left
 ·cases hr
 rename_i z hz
 split at hr
 ·rename_i hl0
  subst hl0
  split at hr
  ·cases hr
   have hps:ps=#[]:=by
    have:ps.toList=[]:=hp
    apply Array.ext';simpa using this
   subst hps
   have H':=H.row (cur:=#[]) (t:=el) (fz:=(0,0)) (cs:=[]) (vs:=[]) rfl rfl (by simp)
   refine ⟨_,_,rfl,.slice (some ⟨w.heap.size,0,none⟩) 0 0,_,⟨e.bl++[(w.heap.size,0,0)],e.tx⟩,?_,⟨⟨_,rfl⟩,⟨[],by simp⟩⟩,⟨w.heap.size,0,0,0,0,by rw [H.len];simp,rfl,.inl rfl,Nat.le_refl _,Nat.le_refl _,by simp,by simp⟩,H'⟩
   simp [Instr.buildSlice,run_underlying hu,sizeOf,typeInfo,hi,Instr.fill,newRow]
   congr 2
   apply Array.ext'
   simp [Array.toList_range]
  ·cases hr
 split at hr
 rotate_left
 ·cases hr
 rename_i hc
 obtain ⟨hc1,hc2,hc3⟩:=hc
 split at hr
 rotate_left
 ·cases hr
 rename_i cs hf
 split at hr
 rotate_left
 ·cases hr
 rename_i hl
 cases hr
 have hzc:VRs F e (ofVal z).cells z.cells.toList:=(vr_ofVal F e z).cells
 have hpos:0<(ofVal z).cells.length:=by
  rw [hc3]
  rcases Nat.eq_zero_or_pos i.size with h0 | h0
  ·rw [h0,Nat.mul_zero] at hc1;omega
  ·exact h0
 obtain ⟨c',g1,g2⟩:=aFill_run hp (aReps_vr hzc hpos (len*i.size)) hf
 have hrun:=run_buildSlice (P:=P) w t el len ps c' i z hu hi hz (by omega) (by omega) g1
 have hcl:=VRs.length _ _ g2
 simp only [Array.length_toList] at hcl
 have H':=H.row (cur:=c') (t:=el) (fz:=(0,0)) g2 (by rw [← hcl,← Array.length_toList,List.take_length]) (by simp)
 refine ⟨_,_,rfl,_,_,⟨e.bl++[(w.heap.size,0,c'.size)],e.tx⟩,hrun,⟨⟨_,rfl⟩,⟨[],by simp⟩⟩,⟨w.heap.size,0,c'.size,len,0,by rw [H.len];simp,rfl,.inl rfl,Nat.le_refl _,Nat.le_refl _,by rw [hcl,hl];omega,?_⟩,H'⟩
 have:len≤len*i.size:=Nat.le_mul_of_pos_right _ (by rw [← hc3];exact hpos)
 simp [maxLen];omega
def aSliceArr(P:Program)(t:TypeId)(x:AV)(lo hi:Option AV)(h:AH):Option AR:=
 match x,P.underlying t with
 | .ptr b o,some (.array n el)=>match h.bs[b]?,szT P el with
  | some (.cells cs),some es=>match aBd n n hi with
   | some hh=>match aBd 0 hh lo with
    | some l=>if o+n*es≤cs.length∧n≤1000000∧0<n*es then some (.val (.slc b (o+l*es) (hh-l) (n-l) es) h) else none
    | none=>none
   | none=>none
  | _,_=>none
 | _,_=>none
theorem aSliceArr_run{t:TypeId}{x:Operand}{lo hi:Option Operand}{ρ:Operand→Value}{ev:Ev}{r:AR}(H:HR F e w0 w h)(hev:EvR F e ev ρ)(hr:aSliceArr P t (ev x) (lo.map ev) (hi.map ev) h=some r) :
 ∃ a,r=.val a h∧∃ v,(Instr.sliceAt t (ρ x) (lo.map ρ) (hi.map ρ) none).run P w=.ok v w∧VR F e a v:=by
 unfold aSliceArr at hr
 have hx:=hev x
 split at hr
 rotate_left
 ·cases hr
 rename_i b o n el hc hu
 rw [hc] at hx
 obtain ⟨B,k,sz,hbl,hv⟩:=hx
 split at hr
 rotate_left
 ·cases hr
 rename_i cs es hb hs
 split at hr
 rotate_left
 ·cases hr
 rename_i hh h1
 split at hr
 rotate_left
 ·cases hr
 rename_i l h2
 split at hr
 rotate_left
 ·cases hr
 rename_i hc
 cases hr
 obtain ⟨g1,g2,g3⟩:=bounds_run (P:=P) hev h1 h2 (Nat.le_refl _) (Nat.le_refl _) false w
 obtain ⟨cur,t',fz,vs,q1,q2,q3,q4,q5,q6,q7⟩:=H.at' hb hbl
 have hvl:=VRs.length _ _ q6
 have hcl:k+cs.length≤sz:=by
  have:=congrArg List.length q7
  have hcz:cur.toList.length=sz:=by rw [Array.length_toList,q4]
  rw [List.length_take,List.length_drop,hcz,hvl] at this
  omega
 refine ⟨_,rfl,.slice (some (if n=l then (⟨B,k+o,none⟩:Addr) else (⟨B,k+o,none⟩:Addr).add (l*es))) (hh-l) (n-l),?_,B,k,sz,n-l,if n=l then k+o else k+o+l*es,hbl,by rw [add_if],?_,by omega,Nat.le_refl _,?_,by simp [maxLen];omega⟩
 ·simp [Instr.sliceAt,run_underlying hu,hv,Instr.sureAddr,g1,Zq hs]
 ·by_cases hnl:n=l
  ·right;omega
  ·rw [if_neg hnl];left;omega
 ·by_cases hnl:n=l
  ·rw [if_pos hnl,hnl,Nat.sub_self,Nat.zero_mul]
   have:l*es=n*es:=by rw [hnl]
   omega
  ·rw [if_neg hnl]
   have:l*es+(n-l)*es=n*es:=by rw [← Nat.add_mul];congr 1;omega
   omega
def aBytes:List AV→Option (List Nat)
 | []=>some []
 | .lit (.int .u8 (.ofNat n))::r=>if n<256 then (aBytes r).map (n :: ·) else none
 | _=>none
theorem aBytes_vr:∀ {l:List AV} {vs:List Value} {ns:List Nat},aBytes l=some ns→VRs F e l vs→vs=ns.map (fun (n:Nat)=>Value.int .u8 (n:Int))∧∀ n∈ns,n<256
 | [],vs,ns,h,g=>by cases h;exact ⟨g,by simp⟩
 | a::r,vs,ns,h,g=>by
  unfold aBytes at h
  split at h
  ·rename_i heq;cases heq
  ·rename_i n r' heq
   cases heq
   split at h
   ·rename_i hn
    simp only [Option.map_eq_some_iff] at h
    obtain ⟨m,hm,rfl⟩:=h
    obtain ⟨v,l',rfl,g1,g2⟩:=g
    obtain ⟨k1,k2⟩:=aBytes_vr hm g2
    refine ⟨?_,fun x hx=>?_⟩
    ·rw [show v=.int .u8 (.ofNat n) from g1,k1];rfl
    ·rcases List.mem_cons.1 hx with rfl | hx
     ·exact hn
     ·exact k2 x hx
   ·cases h
  ·cases h
def isU8(P:Program)(t:TypeId):Bool:=
 match P.underlying t with
 | some (.int .u8)=>true
 | _=>false
theorem isU8_eq{t:TypeId}(h:isU8 P t=true):P.underlying t=some (.int .u8):=by
 unfold isU8 at h
 split at h
 ·rename_i hu;exact hu
 ·cases h
def aConv(P:Program)(s d:TypeId)(x:AV)(h:AH):Option AR:=
 match x,P.underlying s,P.underlying d with
 | .txt t,some .string,some (.slice el)=>match tby t with
  | some l=>if isU8 P el=true∧szT P el=some 1∧l.length≤1000000 then fAVs (l.map fun (n:Nat)=>.lit (.int .u8 (n:Int))) fun cs=>h.pushF (.cells cs) fun h'=>some (.val (.slc h.bs.length 0 l.length l.length 1) h') else none
  | none=>none
 | .slc b o n _ es,some (.slice el),some .string=>match h.bs[b]? with
  | some (.cells cs)=>if isU8 P el=true∧es=1∧o+n≤cs.length∧0<n then match aBytes ((cs.drop o).take n) with
   | some l=>some (.val (.txt [.by l]) h)
   | none=>none
   else none
  | _=>none
 | .lit (.slice none 0 0),some (.slice el),some .string=>if isU8 P el=true then some (.val (.txt [.by []]) h) else none
 | _,_,_=>none
theorem bytes_fold:∀ (l:List Nat) (b:ByteArray),(l.map (fun (n:Nat)=>(n:Int))).foldl (fun r (n:Int)=>r.push (UInt8.ofNat n.toNat)) b=⟨b.data++(l.map Nat.toUInt8).toArray⟩
 | [],b=>by simp
 | n::l,b=>by
  simp only [List.map_cons,List.foldl_cons]
  rw [bytes_fold l]
  apply ByteArray.ext
  simp only [ByteArray.data_push,Int.toNat_natCast]
  apply Array.ext'
  simp
theorem aConv_run{s d:TypeId}{x:AV}{xv:Value}{r:AR}(H:HR F e w0 w h)(hx:VR F e x xv)(hr:aConv P s d x h=some r) :
 ∃ a h',r=.val a h'∧∃ v w' e',(convert s d xv).run P w=.ok v w'∧e.le e'∧VR F e' a v∧HR F e' w0 w' h':=by
 unfold aConv at hr
 simp only [fAVs_eq,AH.pushF_eq] at hr
 split at hr
 ·rename_i t el hs hd
  split at hr
  rotate_left
  ·cases hr
  rename_i l hl
  split at hr
  rotate_left
  ·cases hr
  rename_i hc
  obtain ⟨hc1,hc2,hc3⟩:=hc
  cases hr
  have hd':=hx.2
  rw [(tby_den hl).1] at hd'
  subst hd'
  have hsz:(Qb (l.map Nat.toUInt8)).size=l.length:=by simp [Qb,ByteArray.size]
  have hrun:=Lib.run_convert_string_bytes (P:=P) w s d el (Qb (l.map Nat.toUInt8)) hs hd (isU8_eq hc1)
  have hge:=grownCap_ge w l.length 0 el
  have hcm:=grownCap_le_maxLen w l.length 0 el (by simp [maxLen];omega)
  have hcells:(Lib.bytesCells w el (Qb (l.map Nat.toUInt8))).toList.take l.length=l.map (fun (n:Nat)=>Value.int .u8 (n:Int)):=by
   unfold Lib.bytesCells
   rw [Array.toList_append]
   have:((Qb (l.map Nat.toUInt8)).data.map fun b=>Value.int .u8 b.toNat).toList=l.map (fun (n:Nat)=>Value.int .u8 (n:Int)):=by
    simp only [Qb,Array.toList_map,List.map_map]
    refine List.map_congr_left fun x hxm=>?_
    have hlt:=(tby_den hl).2 hx.1 x hxm
    simp only [Function.comp,Nat.toUInt8_eq,UInt8.toNat_ofNat']
    congr 1
    omega
   rw [this,List.take_append_of_le_length (by simp),List.take_of_length_le (by simp)]
  have hcs:(Lib.bytesCells w el (Qb (l.map Nat.toUInt8))).size=grownCap w l.length 0 el:=by
   unfold Lib.bytesCells
   simp only [hsz,Array.size_append,Array.size_map,Array.size_replicate]
   have:(Qb (l.map Nat.toUInt8)).data.size=l.length:=by simp [Qb]
   omega
  have hv:=vrs_lits F e (l.map fun (n:Nat)=>Value.int .u8 (n:Int))
  rw [List.map_map] at hv
  have H':=H.pushG (ao:=.cells (l.map fun (n:Nat)=>.lit (.int .u8 (n:Int)))) (k:=0) (n:=grownCap w l.length 0 el) (w':=Lib.bytesWorld w el (Qb (l.map Nat.toUInt8))) rfl
   (fun j hj=>Lib.bytesWorld_at_old w el _ j hj) (Lib.bytesWorld_size w el _)
   (H.below.trans ⟨by simp [Lib.bytesWorld,World.freeze,World.alloc,World.drew,-World.alloc_eq,-World.drew_eq],by simp [Lib.bytesWorld,World.freeze,World.alloc,World.drew,-World.alloc_eq,-World.drew_eq],by simp [Lib.bytesWorld,World.freeze,World.alloc,World.drew,-World.alloc_eq,-World.drew_eq],by rw [Lib.bytesWorld_size];omega,fun j hj=>Lib.bytesWorld_at_old w el _ j (by have:=H.below.size;omega)⟩)
   ⟨_,_,_,Lib.bytesWorld_at_new w el _,hcs,fun _=>by rw [hcs];exact Nat.le_refl _,_,VRs.le ⟨⟨_,rfl⟩,⟨[],by simp⟩⟩ _ _ hv,by simpa using hcells⟩
  rw [hsz] at hrun
  exact ⟨_,_,rfl,_,_,_,hrun,⟨⟨_,rfl⟩,⟨[],by simp⟩⟩,⟨w.heap.size,0,grownCap w l.length 0 el,grownCap w l.length 0 el,0,by rw [H.len];simp,rfl,.inl rfl,Nat.le_refl _,hge,by omega,hcm⟩,H'⟩
 ·rename_i b o n cap es el hs hd
  split at hr
  rotate_left
  ·cases hr
  rename_i cs hb
  split at hr
  rotate_left
  ·cases hr
  rename_i hc
  obtain ⟨hc1,rfl,hc2,hc3⟩:=hc
  split at hr
  rotate_left
  ·cases hr
  rename_i l hl
  cases hr
  obtain ⟨B,k,sz,c',o',hbl,rfl,ho,hlc,hcc,hn,hm⟩:=hx
  have ho':o'=k+o:=by rcases ho with h | h <;> omega
  subst ho'
  obtain ⟨vs,h1,h2⟩:=loadCells_run (P:=P) H hb hbl hc2
  obtain ⟨k1,k2⟩:=aBytes_vr hl h2
  subst k1
  refine ⟨_,_,rfl,.string (Qb (l.map Nat.toUInt8)),w,e,?_,Env.le_refl _,⟨⟨k2,trivial⟩,by simp [den,Ck.den]⟩,H⟩
  rw [run_convert_bytes_string w s d el _ _ _ hs (isU8_eq hc1) hd]
  rw [run_bytesToString w _ n c' (l.map fun (n:Nat)=>(n:Int)) (by rw [h1,List.map_map];rfl),bytes_fold]
  congr 2
  simp [Qb]
 ·rename_i el hs hd
  split at hr
  rotate_left
  ·cases hr
  rename_i hc
  cases hr
  have hv:xv=.slice none 0 0:=hx
  subst hv
  refine ⟨_,_,rfl,.string (Qb []),w,e,?_,Env.le_refl _,⟨⟨fun x hx=>(by cases hx),trivial⟩,rfl⟩,H⟩
  rw [run_convert_bytes_string w s d el _ _ _ hs (isU8_eq hc) hd]
  rfl
 ·cases hr
end
end
noncomputable section
section
variable {F:Funs} {e:Env} {w0 w:World} {h:AH} {P:Program}
def aFind(k:IntKind)(n:Int):List (AV × AV)→Nat→Option (Option (Nat × AV))
 | [],_=>some none
 | (.lit (.int k' m),v)::es,i=>if k=k' then (if n=m then some (some (i,v)) else aFind k n es (i+1)) else none
 | _,_=>none
theorem aFind_run{kt:TypeId}{q:IntKind}(hu:P.underlying kt=some (.int q)){k:IntKind}{n:Int}:∀ {es:List (AV × AV)} {ms:List MapEntry} {i:Nat} {r:Option (Nat × AV)},VRs F e (es.map (·.1)) (ms.map (·.key))→VRs F e (es.map (·.2)) (ms.map (·.val)) →
 aFind k n es i=some r→match r with
  | none=>Instr.findNow (.int q) (.int k n) ms i=some none
  | some (j,x)=>i≤j∧∃ v,Instr.findNow (.int q) (.int k n) ms i=some (some (j,v))∧VR F e x v∧(∃ m,ms[j-i]?=some m∧m.key=.int k n)∧j-i<es.length
 | [],ms,i,r,h1,h2,h=>by
  cases h
  have:ms=[]:=by
   have:=VRs.length _ _ h1
   simpa using this
  subst this;rfl
 | (a,v)::es,ms,i,r,h1,h2,h=>by
   obtain ⟨u,l',hm,g1,g2⟩:=h1
   obtain ⟨u2,l2',hm2,g3,g4⟩:=h2
   cases ms with
   | nil=>simp at hm
   | cons m ms=>
   simp only [List.map_cons,List.cons.injEq] at hm hm2
   obtain ⟨rfl,rfl⟩:=hm
   obtain ⟨rfl,rfl⟩:=hm2
   cases a
   case lit u=>
    cases u
    case int k' m'=>
     simp only [aFind] at h
     have hk:m.key=.int k' m':=g1
     split at h
     ·rename_i hkk
      subst hkk
      split at h
      ·rename_i hnm
       subst hnm
       cases h
       refine ⟨Nat.le_refl _,m.val,?_,g3,⟨m,by simp,hk⟩,by simp⟩
       simp [Instr.findNow,hk,Instr.sameNow]
      ·rename_i hnm
       have hnb:(n==m')=false:=by simpa using hnm
       have ih:=aFind_run hu (i:=i+1) g2 g4 h
       cases r with
       | none=>simp only at ih ⊢;simp [Instr.findNow,hk,Instr.sameNow,hnb,ih]
       | some jx=>
        obtain ⟨j,x⟩:=jx
        simp only at ih ⊢
        obtain ⟨p1,v2,p2,p3,⟨m2,p4,p5⟩,p6⟩:=ih
        refine ⟨by omega,v2,by simp [Instr.findNow,hk,Instr.sameNow,hnb,p2],p3,⟨m2,?_,p5⟩,by simp;omega⟩
        rw [show j-i=(j-(i+1))+1 by omega]
        simpa using p4
     ·cases h
    all_goals (simp [aFind] at h)
   all_goals (simp [aFind] at h)
def mapT(P:Program)(t:TypeId):Option (TypeId × TypeId):=
 match P.underlying t with
 | some (.map k v)=>match P.underlying k with
  | some (.int _)=>some (k,v)
  | _=>none
 | _=>none
theorem mapT_eq{t k v:TypeId}(h:mapT P t=some (k,v)):P.underlying t=some (.map k v)∧∃ q,P.underlying k=some (.int q):=by
 unfold mapT at h
 split at h
 ·rename_i hu
  split at h
  ·rename_i q hq
   cases h
   exact ⟨hu,q,hq⟩
  ·cases h
 ·cases h
theorem checkKey_int{k:TypeId}{q:IntKind}(hu:P.underlying k=some (.int q))(b:Bool)(d:Nat)(v:Value):(Instr.checkKey b (d+1) k v).run P w=.ok () w:=by
 simp [Instr.checkKey,run_underlying hu]
def aLookup(P:Program)(t:TypeId)(m k:AV)(ok:Bool)(h:AH):Option AR:=
 match mapT P t,k with
 | some (_,el),.lit (.int q n)=>
  match m with
  | .lit (.map none)=>(zeroT P el).map fun z=>.val (if ok then .tup [z,.lit (.bool false)] else z) h
  | .map b=>match h.bs[b]? with
   | some (.map es _)=>match aFind q n es 0 with
    | some (some (_,v))=>some (.val (if ok then .tup [v,.lit (.bool true)] else v) h)
    | some none=>(zeroT P el).map fun z=>.val (if ok then .tup [z,.lit (.bool false)] else z) h
    | none=>none
   | _=>none
  | _=>none
 | _,_=>none
theorem ok_vr{ok:Bool}{x:AV}{v:Value}(b:Bool)(hx:VR F e x v):VR F e (if ok then .tup [x,.lit (.bool b)] else x) (if ok then .tuple #[v,.bool b] else v):=by
 cases ok
 ·exact hx
 ·exact ⟨[v,.bool b],rfl,v,[.bool b],rfl,hx,_,[],rfl,rfl,rfl⟩
theorem aLookup_run{t:TypeId}{m k:AV}{mv kv:Value}{ok:Bool}{r:AR}(H:HR F e w0 w h)(hm:VR F e m mv)(hk:VR F e k kv)(hr:aLookup P t m k ok h=some r) :
 ∃ a,r=.val a h∧∃ v,(Instr.lookup t mv kv ok).run P w=.ok v w∧VR F e a v:=by
 unfold aLookup at hr
 split at hr
 rotate_left
 ·cases hr
 rename_i kt el q n hT
 obtain ⟨hu,qq,hq⟩:=mapT_eq hT
 have hkv:kv=.int q n:=hk
 subst hkv
 split at hr
 ·have hmv:mv=.map none:=hm
  subst hmv
  simp only [Option.map_eq_some_iff] at hr
  obtain ⟨z,hz,rfl⟩:=hr
  obtain ⟨zv,g1,g2⟩:=zeroValue_run (F:=F) (e:=e) (w:=w) hz
  exact ⟨_,rfl,_,by simp [Instr.lookup,run_underlying hu,checkKey_int hq,Instr.findKey,run_underlying hq,Instr.findNow,g1],ok_vr false g2⟩
 ·obtain ⟨B,kk,sz,hbl,hmv⟩:=hm
  subst hmv
  split at hr
  rotate_left
  ·cases hr
  rename_i es clock hb
  obtain ⟨p1,p2,ms,p3,p4,p5,p6⟩:=H.objs _ _ _ hb hbl rfl
  split at hr
  ·rename_i j v hf
   cases hr
   obtain ⟨_,u,g1,g2,_⟩:=aFind_run (P:=P) hq p4 p5 hf
   refine ⟨_,rfl,_,?_,ok_vr true g2⟩
   simp [Instr.lookup,run_underlying hu,getObj,Sem.run,p3,checkKey_int hq,Instr.findKey,run_underlying hq,g1]
  ·rename_i hf
   have g1:=aFind_run (P:=P) hq p4 p5 hf
   simp only [Option.map_eq_some_iff] at hr
   obtain ⟨z,hz,rfl⟩:=hr
   obtain ⟨zv,g2,g3⟩:=zeroValue_run (F:=F) (e:=e) (w:=w) hz
   refine ⟨_,rfl,_,?_,ok_vr false g3⟩
   simp [Instr.lookup,run_underlying hu,getObj,Sem.run,p3,checkKey_int hq,Instr.findKey,run_underlying hq,g1,g2]
  ·cases hr
 ·cases hr
theorem HR.setMap(H:HR F e w0 w h){b B k n clock clock':Nat}{es es':List (AV × AV)}{ms':List MapEntry}(hb:h.bs[b]?=some (.map es clock))(hx:e.bl[b]?=some (B,k,n))
 (h1:VRs F e (es'.map (·.1)) (ms'.map (·.key))) (h2:VRs F e (es'.map (·.2)) (ms'.map (·.val))) (h3:BornOk ms' clock') :
 HR F e w0 { w with heap:=w.heap.setIfInBounds B (.map ms'.toArray clock') } { h with bs:=h.bs.set b (.map es' clock') }:=by
 obtain ⟨p1,p2,_⟩:=H.objs _ _ _ hb hx rfl
 simp only at p1 p2
 have key:∀ (i:Nat) (o:AO),(h.bs.set b (.map es' clock'))[i]?=some o→o.live=true→∃ o',h.bs[i]?=some o'∧o'.live=true∧(i≠b→o'=o):=by
  intro i o h1 h3
  by_cases hib:i=b
  ·subst hib;exact ⟨_,hb,rfl,fun h=>absurd rfl h⟩
  ·rw [List.getElem?_set_ne (Ne.symm hib)] at h1
   exact ⟨o,h1,h3,fun _=>rfl⟩
 have hne:∀ j,j≠B→(w.heap.setIfInBounds B (.map ms'.toArray clock'))[j]?=w.heap[j]?:=fun j hj=>by
  rw [Array.getElem?_setIfInBounds_ne (Ne.symm hj)]
 refine ⟨H.below.trans ⟨rfl,rfl,rfl,by simp,fun j hj=>hne j (by omega)⟩,by simpa using H.len,H.nv,?_,?_⟩
 ·intro i o x q1 q2 q3
  by_cases hib:i=b
  ·subst hib
   rw [hx] at q2;cases q2
   rw [List.getElem?_set_self (gJ hb).1] at q1
   cases q1
   exact ⟨p1,by simpa using p2,ms',by simp [p2],h1,h2,h3⟩
  ·rw [List.getElem?_set_ne (Ne.symm hib)] at q1
   obtain ⟨r1,r2,r3⟩:=H.objs i o x q1 q2 q3
   have:x.1≠B:=H.inj i b o _ x (B,k,n) hib q1 hb q3 rfl q2 hx
   exact ⟨r1,by simpa using r2,r3.of_heap (hne _ this)⟩
 ·intro i j o1 o2 x y hij q1 q2 l1 l2 b1 b2
  obtain ⟨o1',r1,r2,_⟩:=key i o1 q1 l1
  obtain ⟨o2',r3,r4,_⟩:=key j o2 q2 l2
  exact H.inj i j o1' o2' x y hij r1 r3 r2 r4 b1 b2
def aMapUpdate(P:Program)(t:TypeId)(m k v:AV)(h:AH):Option AR:=
 match mapT P t,k,m with
 | some _,.lit (.int q n),.map b=>match h.bs[b]? with
  | some (.map es clock)=>match aFind q n es 0 with
   | some (some (i,_))=>fSet es i (.lit (.int q n),v) fun es=>h.setF b (.map es clock) fun h=>some (.skip h)
   | some none=>fPush es (.lit (.int q n),v) fun es=>fNat (clock+1) fun c=>h.setF b (.map es c) fun h=>some (.skip h)
   | none=>none
  | _=>none
 | _,_,_=>none
theorem aMapUpdate_run{t:TypeId}{m k x:AV}{mv kv xv:Value}{r:AR}(H:HR F e w0 w h)(hm:VR F e m mv)(hk:VR F e k kv)(hx:VR F e x xv)(hr:aMapUpdate P t m k x h=some r) :
 ∃ h',r=.skip h'∧∃ w',(Instr.mapUpdate t mv kv xv).run P w=.ok () w'∧HR F e w0 w' h':=by
 unfold aMapUpdate at hr
 simp only [fSet_eq,fPush_eq,fNat_eq,AH.setF_eq] at hr
 split at hr
 rotate_left
 ·cases hr
 rename_i kt q n b hT
 obtain ⟨kt,el⟩:=kt
 obtain ⟨hu,qq,hq⟩:=mapT_eq hT
 have hkv:kv=.int q n:=hk
 subst hkv
 obtain ⟨B,kk,sz,hbl,hmv⟩:=hm
 subst hmv
 split at hr
 rotate_left
 ·cases hr
 rename_i es clock hb
 obtain ⟨p1,p2,ms,p3,p4,p5,p6⟩:=H.objs _ _ _ hb hbl rfl
 simp only at p3
 split at hr
 ·rename_i i v hf
  cases hr
  obtain ⟨_,u,g1,g2,⟨mm,g3,g4⟩,g5⟩:=aFind_run (P:=P) hq p4 p5 hf
  simp only [Nat.sub_zero] at g3 g5
  have hl:ms.length=es.length:=by
   have:=VRs.length _ _ p4
   simpa using this
  have H':=H.setMap (clock':=clock) (es':=es.set i (.lit (.int q n),x)) (ms':=ms.set i { mm with key:=.int q n,val:=xv }) hb hbl ?_ ?_ ?_
  ·refine ⟨_,rfl,_,?_,H'⟩
   obtain ⟨hlt,hge⟩:=gJ g3
   have hmod:ms.modify i (fun e=>{ e with key:=.int q n,val:=xv })=ms.set i { mm with key:=.int q n,val:=xv }:=by
    apply List.ext_getElem?
    intro j
    simp only [List.getElem?_modify,List.getElem?_set]
    by_cases hj:i=j
    ·subst hj
     simp [hge,hl,g5]
    ·simp [hj]
   have hkey:((ms.toArray[i]?).map (·.key)).getD (.int q n)=.int q n:=by simp [g3,g4]
   simp [Instr.mapUpdate,run_underlying hu,getObj,setObj,Sem.run,p3,checkKey_int hq,Instr.findKey,run_underlying hq,g1,Instr.keyThatStays,g3,g4,Instr.sameBits,hmod]
  ·rw [List.map_set,List.map_set]
   exact VRs.set _ _ _ _ _ p4 rfl
  ·rw [List.map_set,List.map_set]
   exact VRs.set _ _ _ _ _ p5 hx
  ·refine ⟨?_,?_⟩
   ·intro m hm
    rcases List.mem_or_eq_of_mem_set hm with h | rfl
    ·exact p6.1 m h
    ·exact p6.1 mm (List.mem_of_getElem? g3)
   ·rw [List.map_set]
    have:(ms.map (·.born)).set i mm.born=ms.map (·.born):=by
     apply List.ext_getElem?
     intro j
     rw [List.getElem?_set]
     split
     ·rename_i hij
      subst hij
      split
      ·rw [List.getElem?_map,g3];rfl
      ·rename_i hlt
       rw [List.getElem?_eq_none (by omega)]
     ·rfl
    rw [this];exact p6.2
 ·rename_i hf
  cases hr
  have g1:=aFind_run (P:=P) hq p4 p5 hf
  have H':=H.setMap (clock':=clock+1) (es':=es++[(.lit (.int q n),x)]) (ms':=ms++[{ key:=.int q n,val:=xv,born:=clock }]) hb hbl ?_ ?_ ?_
  ·refine ⟨_,rfl,_,?_,H'⟩
   simp [Instr.mapUpdate,run_underlying hu,getObj,setObj,Sem.run,p3,checkKey_int hq,Instr.findKey,run_underlying hq,g1]
  ·rw [List.map_append,List.map_append]
   exact VRs.append _ _ _ _ p4 ⟨_,[],rfl,rfl,rfl⟩
  ·rw [List.map_append,List.map_append]
   exact VRs.append _ _ _ _ p5 ⟨_,[],rfl,hx,rfl⟩
  ·refine ⟨?_,?_⟩
   ·intro m hm
    rcases List.mem_append.1 hm with h | h
    ·have:=p6.1 m h;omega
    ·simp at h;subst h;simp
   ·rw [List.map_append,List.nodup_append]
    refine ⟨p6.2,by simp,?_⟩
    intro a ha b hb hab
    obtain ⟨m,hm,rfl⟩:=List.mem_map.1 ha
    have h1:=p6.1 m hm
    have h2:b=clock:=by simpa using hb
    omega
 ·cases hr
theorem HR.newMap(H:HR F e w0 w h):HR F ⟨e.bl++[(w.heap.size,0,0)],e.tx⟩ w0 (w.alloc (.map #[] 0)) { h with bs:=h.bs++[.map [] 0] }:=
 H.push rfl rfl ⟨[],heap_alloc_new w _,rfl,rfl,by simp,by simp⟩
end
end
noncomputable section
def enters(P:Program)(g:FuncId):Bool:=
 match P.funcs[g]? with
 | some fn=>!(fn.name == "runtime.NumGoroutine")&&fn.body.isSome
 | none=>false
def aVal(P:Program)(ev:Ev)(o:Oper)(h:AH):Option AR:=(aPure P ev o).map fun v=>.val v h
def oSlice(P:Program)(ev:Ev)(o:Oper)(h:AH)(t:TypeId)(x:Operand)(lo hi:Option Operand):Option AR:=
 match ev x with
 | .ptr _ _=>aSliceArr P t (ev x) (lo.map ev) (hi.map ev) h
 | _=>aVal P ev o h
def oConv(P:Program)(ev:Ev)(o:Oper)(h:AH)(s d:TypeId)(x:Operand):Option AR:=
 match aConv P s d (ev x) h with
 | some r=>some r
 | none=>aVal P ev o h
def oFn(P:Program)(ev:Ev)(args:Array Operand)(f:AV):Option AR:=
 match f with
 | .fn (.func g) x y=>if enters P g then some (.enter g (x++args.toList.map ev++y)) else none
 | _=>none
def oApp(P:Program)(ev:Ev)(h:AH)(ts:Array TypeId)(args:List Operand):Option AR:=
 match args with
 | [a,b]=>if ts.size=2 then aAppend P ts (ev a) (ev b) h else none
 | _=>none
def oCall(P:Program)(ev:Ev)(o:Oper)(h:AH)(c:Call):Option AR:=
 match c.callee with
 | .value f=>oFn P ev c.args (ev f)
 | .builtin .append=>oApp P ev h c.argTypes c.args.toList
 | _=>aVal P ev o h
def aOp(P:Program)(ev:Ev)(o:Oper)(h:AH):Option AR:=
 match o.op with
 | .load t a=>aLoad P t (ev a) h
 | .store t a x=>aStore P t (ev a) (ev x) h
 | .alloc t=>(zeroT P t).map fun z=>aNew z h
 | .box _ x=>some (aNew (ev x) h)
 | .buildSlice t len parts=>aBuildSlice P t len (parts.toList.map fun p=>(p.1,ev p.2)) h
 | .makeMap _ r=>match r with
  | none=>h.pushF (.map [] 0) fun h'=>some (.val (.map h.bs.length) h')
  | some _=>aVal P ev o h
 | .slice t x lo hi mx=>match mx with
  | none=>oSlice P ev o h t x lo hi
  | some _=>aVal P ev o h
 | .convert s d x=>oConv P ev o h s d x
 | .lookup t m k ok=>aLookup P t (ev m) (ev k) ok h
 | .mapUpdate t m k x=>aMapUpdate P t (ev m) (ev k) (ev x) h
 | .call c=>oCall P ev o h c
 | _=>aVal P ev o h
section
variable {F:Funs} {e:Env} {w0 w:World} {h:AH} {P:Program} {ρ:Operand→Value} {ev:Ev}
theorem aVal_holds{o:Oper}{r:AR}(hev:EvR F e ev ρ)(H:HR F e w0 w h)(hr:aVal P ev o h=some r):r.holds F e w0 w P ρ o h:=by
 simp only [aVal,Option.map_eq_some_iff] at hr
 obtain ⟨v,hv,rfl⟩:=hr
 obtain ⟨u,h1,h2⟩:=aPure_gives hev hv w
 exact ⟨u,w,e,h1,Env.le_refl _,h2,H⟩
theorem aOp_holds{o:Oper}{r:AR}(hev:EvR F e ev ρ)(H:HR F e w0 w h)(hr:aOp P ev o h=some r):r.holds F e w0 w P ρ o h:=by
 have hval:=aVal_holds (P:=P) (o:=o) (r:=r) hev H
 obtain ⟨dst,op,type,pos,after,guard⟩:=o
 cases op
 case load t a=>
  obtain ⟨x,rfl,v,h1,h2⟩:=aLoad_run (P:=P) H (hev a) hr
  exact ⟨v,w,e,by simp [execOp,h1],Env.le_refl _,h2,H⟩
 case store t a x=>
  obtain ⟨h',rfl,w',h1,h2⟩:=aStore_run (P:=P) H (hev a) (hev x) hr
  exact ⟨w',e,by simp [execOp,h1],Env.le_refl _,h2⟩
 case alloc t=>
  simp only [aOp,aNew_eq,Option.map_eq_some_iff] at hr
  obtain ⟨z,hz,rfl⟩:=hr
  obtain ⟨zv,g1,g2⟩:=zeroValue_run (F:=F) (e:=e) (w:=w) hz
  obtain ⟨w',e',v,h1,h2,h3,h4⟩:=aNew_run (P:=P) (t:=t) H g2
  refine ⟨v,w',e',?_,h2,h3,h4⟩
  simp only [execOp,Instr.alloc,Sem.run_bind,g1,Result.andThen_ok] at h1 ⊢
  rw [h1];rfl
 case box t x=>
  simp only [aOp,aNew_eq,Option.some.injEq] at hr
  subst hr
  obtain ⟨w',e',v,h1,h2,h3,h4⟩:=aNew_run (P:=P) (t:=t) H (hev x)
  refine ⟨v,w',e',?_,h2,h3,h4⟩
  simp only [execOp,Instr.box,Sem.run_bind] at h1 ⊢
  rw [h1];rfl
 case buildSlice t len parts=>
  obtain ⟨a,h',rfl,v,w',e',h1,h2,h3,h4⟩:=aBuildSlice_run (P:=P) (ps:=parts.map fun (p:Nat × Operand)=>(p.1,ρ p.2)) H (by simpa using partsR hev parts.toList) hr
  refine ⟨v,w',e',?_,h2,h3,h4⟩
  simp only [execOp,Sem.run_bind]
  rw [h1];rfl
 case makeMap t n=>
  cases n with
  | some n=>exact hval hr
  | none=>
   simp only [aOp,AH.pushF_eq,Option.some.injEq] at hr
   subst hr
   refine ⟨.map (some w.heap.size),w.alloc (.map #[] 0),⟨e.bl++[(w.heap.size,0,0)],e.tx⟩,?_,⟨⟨_,rfl⟩,⟨[],by simp⟩⟩,⟨w.heap.size,0,0,by rw [H.len];simp,rfl⟩,H.newMap⟩
   simp [execOp,Instr.makeMap]
 case slice t x lo hi mx=>
  cases mx with
  | some m=>exact hval hr
  | none=>
   simp only [aOp,oSlice] at hr
   split at hr
   ·obtain ⟨a,rfl,v,h1,h2⟩:=aSliceArr_run (P:=P) H hev hr
    exact ⟨v,w,e,by simp [execOp,h1],Env.le_refl _,h2,H⟩
   ·exact hval hr
 case convert s d x=>
  simp only [aOp,oConv] at hr
  split at hr
  ·rename_i r' hc
   cases hr
   obtain ⟨a,h',rfl,v,w',e',h1,h2,h3,h4⟩:=aConv_run (P:=P) H (hev x) hc
   exact ⟨v,w',e',by simp [execOp,h1],h2,h3,h4⟩
  ·exact hval hr
 case lookup t m k ok=>
  obtain ⟨a,rfl,v,h1,h2⟩:=aLookup_run (P:=P) H (hev m) (hev k) hr
  exact ⟨v,w,e,by simp [execOp,h1],Env.le_refl _,h2,H⟩
 case mapUpdate t m k x=>
  obtain ⟨h',rfl,w',h1,h2⟩:=aMapUpdate_run (P:=P) H (hev m) (hev k) (hev x) hr
  exact ⟨w',e,by simp [execOp,h1],Env.le_refl _,h2⟩
 case call c=>
  obtain ⟨callee,args,ts⟩:=c
  cases callee with
  | invoke x m=>exact hval hr
  | builtin b=>
   cases b
   case append=>
    simp only [aOp,oCall,oApp] at hr
    split at hr
    ·rename_i x y hxy
     have hargs:args=#[x,y]:=by apply Array.ext';exact hxy
     subst hargs
     split at hr
     ·rename_i hts
      obtain ⟨a,h',rfl,v,w',e',h1,h2,h3,h4⟩:=aAppend_run (P:=P) (ty:=type) hts H (hev x) (hev y) hr
      exact ⟨v,w',e',by simp [execOp,resolve,invoke,builtin,h1],h2,h3,h4⟩
     ·cases hr
    ·cases hr
   all_goals exact hval hr
  | value f=>
   simp only [aOp,oCall,oFn] at hr
   have hf:=hev f
   split at hr
   ·rename_i g x y hg
    rw [hg] at hf
    obtain ⟨a,b,hfv,p1,p2⟩:=hf
    split at hr
    ·rename_i hen
     cases hr
     unfold enters at hen
     split at hen
     ·rename_i fn hfn
      simp only [Bool.and_eq_true,Bool.not_eq_true'] at hen
      refine ⟨a.toArray++args.map ρ++b.toArray,?_,?_⟩
      ·have hb:¬ fn.body=none:=by
        intro hbb
        rw [hbb] at hen;simp at hen
       have hnm:¬ fn.name = "runtime.NumGoroutine":=by simpa using hen.1
       simp [execOp,resolve,hfv,Deferred.ofValue,invoke,callFunc,hfn,hnm,hb]
      ·simp only [Array.toList_append]
       rw [show (args.map ρ).toList=args.toList.map ρ by simp]
       exact VRs.append _ _ _ _ (VRs.append _ _ _ _ p1 (vrs_evs hev _)) p2
     ·cases hen
    ·cases hr
   ·cases hr
 all_goals exact hval hr
end
end
noncomputable section
inductive Rs (α:Type) where
 | ok (a:α)
 | no (l:List Nat)
inductive Tr where
 | lf
 | nd (v:AV) (l r:Tr)
def Tr.get(_:Nat)(t:Tr):Nat→AV:=
 Tr.rec (motive:=fun _=>Nat→AV) (fun _=>.tup []) (fun v _ _ il ir i=>Nat.casesOn (motive:=fun _=>AV) i v fun j=>Nat.casesOn (motive:=fun _=>AV) (j%2) (il (j/2)) fun _=>ir (j/2)) t
def Tr.set:Nat→Tr→Nat→AV→Tr
 | 0,t,_,_=>t
 | f+1,.lf,i,x=>match i with
  | 0=>.nd x .lf .lf
  | j+1=>match j%2 with
   | 0=>.nd (.tup []) (Tr.set f .lf (j/2) x) .lf
   | _=>.nd (.tup []) .lf (Tr.set f .lf (j/2) x)
 | f+1,.nd v l r,i,x=>match i with
  | 0=>.nd x l r
  | j+1=>match j%2 with
   | 0=>.nd v (Tr.set f l (j/2) x) r
   | _=>.nd v l (Tr.set f r (j/2) x)
def Tr.fset{β:Type}(f:Nat):Tr→Nat→AV→(Tr→β)→β:=
 Nat.rec (motive:=fun _=>Tr→Nat→AV→(Tr→β)→β) (fun t _ _ k=>k t) (fun _ ih t i x k=>
  Tr.casesOn (motive:=fun _=>β) t
   (Nat.casesOn (motive:=fun _=>β) i (k (.nd x .lf .lf)) fun j=>Nat.casesOn (motive:=fun _=>β) (j%2) (ih .lf (j/2) x fun l=>k (.nd (.tup []) l .lf)) fun _=>ih .lf (j/2) x fun r=>k (.nd (.tup []) .lf r))
   fun v l r=>Nat.casesOn (motive:=fun _=>β) i (k (.nd x l r)) fun j=>Nat.casesOn (motive:=fun _=>β) (j%2) (ih l (j/2) x fun l=>k (.nd v l r)) fun _=>ih r (j/2) x fun r=>k (.nd v l r)) f
theorem Tr.fset_eq{β:Type}:∀ (f:Nat) (t:Tr) (i:Nat) (x:AV) (k:Tr→β),Tr.fset f t i x k=k (t.set f i x)
 | 0,_,_,_,_=>rfl
 | f+1,.lf,0,_,_=>rfl
 | f+1,.nd v l r,0,_,_=>rfl
 | f+1,.lf,j+1,x,k=>by
  unfold Tr.set
  show Nat.casesOn (motive:=fun _=>β) (j%2) (Tr.fset f .lf (j/2) x fun l=>k (.nd (.tup []) l .lf)) (fun _=>Tr.fset f .lf (j/2) x fun r=>k (.nd (.tup []) .lf r))=_
  dsimp only
  generalize j%2=m
  cases m
  ·exact Tr.fset_eq f _ _ _ _
  ·exact Tr.fset_eq f _ _ _ _
 | f+1,.nd v l r,j+1,x,k=>by
  unfold Tr.set
  show Nat.casesOn (motive:=fun _=>β) (j%2) (Tr.fset f l (j/2) x fun l=>k (.nd v l r)) (fun _=>Tr.fset f r (j/2) x fun r=>k (.nd v l r))=_
  dsimp only
  generalize j%2=m
  cases m
  ·exact Tr.fset_eq f _ _ _ _
  ·exact Tr.fset_eq f _ _ _ _
theorem Tr.get_lf(f i:Nat):Tr.get f .lf i=.tup []:=rfl
theorem Tr.get_nd0(f:Nat)(v:AV)(l r:Tr):Tr.get f (.nd v l r) 0=v:=rfl
theorem Tr.get_nd(f g:Nat)(v:AV)(l r:Tr)(j:Nat):Tr.get f (.nd v l r) (j+1)=match j%2 with | 0=>Tr.get g l (j/2) | _=>Tr.get g r (j/2):=by
 show Nat.casesOn (motive:=fun _=>AV) (j%2) (Tr.get g l (j/2)) (fun _=>Tr.get g r (j/2))=_
 generalize j%2=m
 cases m <;> rfl
theorem Tr.get_set:∀ (f:Nat) (t:Tr) (i j:Nat) (x:AV),i+1<2^f→j+1<2^f→Tr.get f (t.set f i x) j=if i=j then x else Tr.get f t j
 | 0,t,i,j,x,hi,_=>by simp at hi
 | f+1,.lf,0,0,x,_,_=>rfl
 | f+1,.lf,0,j+1,x,_,_=>by
  simp only [Tr.set]
  rw [Tr.get_nd _ f]
  split <;> simp [Tr.get_lf]
 | f+1,.lf,i+1,0,x,_,_=>by
  simp only [Tr.set]
  split <;> simp [Tr.get_nd0,Tr.get_lf]
 | f+1,.lf,i+1,j+1,x,hi,hj=>by
  have h1:i/2+1<2^f:=by rw [Nat.pow_succ] at hi;omega
  have h2:j/2+1<2^f:=by rw [Nat.pow_succ] at hj;omega
  have ih:=Tr.get_set f .lf (i/2) (j/2) x h1 h2
  rw [Tr.get_lf] at ih
  have key:∀ a b:Nat,i%2=a→j%2=b→(i+1=j+1↔a=b∧i/2=j/2):=by intro a b;omega
  unfold Tr.set
  dsimp only
  split
  ·rename_i hp
   rw [Tr.get_nd _ f]
   split
   ·rename_i hq
    rw [ih]
    by_cases h:i/2=j/2
    ·rw [if_pos h,if_pos (by omega)]
    ·rw [if_neg h,if_neg (by omega)];rfl
   ·rename_i hq
    rw [if_neg (by intro h;exact hq (by omega))];rfl
  ·rename_i hp
   rw [Tr.get_nd _ f]
   split
   ·rename_i hq
    rw [if_neg (by intro h;exact hp (by omega))];rfl
   ·rename_i hq
    have hp':i%2≠0:=fun h=>hp h
    have hq':j%2≠0:=fun h=>hq h
    rw [ih]
    by_cases h:i/2=j/2
    ·rw [if_pos h,if_pos (by omega)]
    ·rw [if_neg h,if_neg (by omega)];rfl
 | f+1,.nd v l r,0,0,x,_,_=>rfl
 | f+1,.nd v l r,0,j+1,x,_,_=>by simp only [Tr.set];rw [Tr.get_nd _ f,Tr.get_nd _ f];simp
 | f+1,.nd v l r,i+1,0,x,_,_=>by
  simp only [Tr.set]
  split <;> simp [Tr.get_nd0,Tr.get_lf]
 | f+1,.nd v l r,i+1,j+1,x,hi,hj=>by
  have h1:i/2+1<2^f:=by rw [Nat.pow_succ] at hi;omega
  have h2:j/2+1<2^f:=by rw [Nat.pow_succ] at hj;omega
  have ih:=fun t=>Tr.get_set f t (i/2) (j/2) x h1 h2
  unfold Tr.set
  dsimp only
  split
  ·rename_i hp
   rw [Tr.get_nd _ f]
   split
   ·rename_i hq
    rw [ih]
    by_cases h:i/2=j/2
    ·rw [if_pos h,if_pos (by omega)]
    ·rw [if_neg h,if_neg (by omega),Tr.get_nd _ f];simp [*]
   ·rename_i hq
    rw [if_neg (by intro h;exact hq (by omega)),Tr.get_nd _ f];simp [*]
  ·rename_i hp
   rw [Tr.get_nd _ f]
   split
   ·rename_i hq
    rw [if_neg (by intro h;exact hp (by omega)),Tr.get_nd _ f];simp [*]
   ·rename_i hq
    have hp':i%2≠0:=fun h=>hp h
    have hq':j%2≠0:=fun h=>hq h
    rw [ih]
    by_cases h:i/2=j/2
    ·rw [if_pos h,if_pos (by omega)]
    ·rw [if_neg h,if_neg (by omega),Tr.get_nd _ f];simp [*]
structure Fr where
 n:Nat
 t:Tr
def Fr.get(f:Fr)(i:Nat):AV:=if Nat.blt i f.n then f.t.get 12 i else .tup []
def Fr.set(f:Fr)(i:Nat)(x:AV):Fr:=if Nat.blt i f.n then ⟨f.n,f.t.set 12 i x⟩ else f
def Fr.ok(f:Fr):Prop:=f.n≤4000
theorem Fr.get_out{f:Fr}{i:Nat}(h:f.n≤i):f.get i=.tup []:=by
 unfold Fr.get
 rw [if_neg (by simp only [Nat.blt_eq];omega)]
theorem Fr.get_set{f:Fr}(hf:f.ok)(i j:Nat)(x:AV):(f.set i x).get j=if i=j∧i<f.n then x else f.get j:=by
 unfold Fr.ok at hf
 unfold Fr.set
 by_cases hi:i<f.n
 ·have hb:Nat.blt i f.n=true:=by simpa using hi
  simp only [hb,if_true,Fr.get,hi,and_true]
  by_cases hj:j<f.n
  ·have hb2:Nat.blt j f.n=true:=by simpa using hj
   simp only [hb2,if_true]
   rw [Tr.get_set 12 f.t i j x (by omega) (by omega)]
  ·have hb2:¬ Nat.blt j f.n=true:=by simpa using hj
   rw [if_neg hb2,if_neg hb2,if_neg (by omega)]
 ·have hb:¬ Nat.blt i f.n=true:=by simpa using hi
  rw [if_neg hb,if_neg (by omega)]
theorem Fr.set_n(f:Fr)(i:Nat)(x:AV):(f.set i x).n=f.n:=by
 unfold Fr.set;split <;> rfl
theorem Fr.set_ok{f:Fr}(hf:f.ok)(i:Nat)(x:AV):(f.set i x).ok:=by unfold Fr.ok;rw [Fr.set_n];exact hf
def evOf(tm:Fr):Ev
 | .tmp t=>tm.get t
 | .const v=>ofVal v
 | .global g=>.lit (.pointer (some ⟨g,0,none⟩))
 | .func f=>.fn (.func f) [] []
def aput(tm:Fr)(d:Option Tmp)(v:AV):Fr:=
 match d with
 | some t=>tm.set t v
 | none=>tm
def fput{β:Type}(tm:Fr)(d:Option Tmp)(v:AV)(k:Fr→β):β:=
 match d with
 | some t=>if Nat.blt t tm.n then fAV v fun v=>Tr.fset 12 tm.t t v fun tr=>fNat tm.n fun n=>k ⟨n,tr⟩ else k tm
 | none=>k tm
theorem fput_eq{β:Type}(tm:Fr)(d:Option Tmp)(v:AV)(k:Fr→β):fput tm d v k=k (aput tm d v):=by
 cases d with
 | none=>rfl
 | some t=>
  simp only [fput,aput,fAV_eq,Tr.fset_eq,fNat_eq,Fr.set]
  split <;> rfl
def aYield(ops:Array Oper)(tm:Fr)(j:Nat):Option Bool:=
 match ops[j]? with
 | some o=>match o.dst with
  | some t=>match tm.get t with
   | .lit (.bool b)=>some b
   | _=>none
  | none=>none
 | none=>none
section
variable {F:Funs} {e e':Env} {w0 w w':World} {h h':AH} {P:Program}
def FR(F:Funs)(e:Env)(tm:Fr)(tmps:Array Value):Prop:=tm.ok∧tm.n=tmps.size∧∀ i,VR F e (tm.get i) (tmps.getD i undef)
theorem FR.le{tm:Fr}{tmps:Array Value}(hle:e.le e')(ht:FR F e tm tmps):FR F e' tm tmps:=⟨ht.1,ht.2.1,fun i=>VR.le hle _ _ (ht.2.2 i)⟩
theorem evR_of{tm:Fr}{a:Act}(ht:FR F e tm a.tmps):EvR F e (evOf tm) a.eval:=by
 intro x
 cases x with
 | tmp t=>exact ht.2.2 t
 | const v=>exact vr_ofVal F e v
 | global g=>rfl
 | func f=>exact ⟨[],[],rfl,rfl,rfl⟩
theorem aput_vr{tm:Fr}{a:Act}{d:Option Tmp}{x:AV}{v:Value}(ht:FR F e tm a.tmps)(hv:VR F e x v):FR F e (aput tm d x) (a.put d v).tmps:=by
 cases d with
 | none=>exact ht
 | some t=>
  obtain ⟨h1,h2,h3⟩:=ht
  refine ⟨Fr.set_ok h1 _ _,by rw [aput,Fr.set_n];simpa [Act.put] using h2,fun i=>?_⟩
  simp only [aput,Act.put,Fr.get_set h1]
  by_cases hi:t=i∧t<tm.n
  ·obtain ⟨rfl,hi⟩:=hi
   rw [if_pos ⟨rfl,hi⟩]
   have:(a.tmps.setIfInBounds t v).getD t undef=v:=by
    rw [Array.getD_eq_getD_getElem?,Array.getElem?_setIfInBounds_self_of_lt (h2▸hi)];rfl
   rw [this];exact hv
  ·rw [if_neg hi]
   have:(a.tmps.setIfInBounds t v).getD i undef=a.tmps.getD i undef:=by
    by_cases hti:t=i
    ·subst hti
     have hlt:¬ t<a.tmps.size:=fun h=>hi ⟨rfl,h2.symm▸h⟩
     rw [Array.getD_eq_getD_getElem?,Array.getD_eq_getD_getElem?,Array.getElem?_eq_none (by simpa using hlt),Array.getElem?_eq_none (Nat.le_of_not_lt hlt)]
    ·rw [Array.getD_eq_getD_getElem?,Array.getD_eq_getD_getElem?,Array.getElem?_setIfInBounds_ne hti]
   rw [this];exact h3 i
theorem aYield_eq{ops:Array Oper}{tm:Fr}{a:Act}(ht:FR F e tm a.tmps)(j:Nat):yielded ops a.tmps j=aYield ops tm j:=by
 unfold yielded aYield
 cases hj:ops[j]? with
 | none=>rfl
 | some o=>
  simp only [Option.bind_some]
  cases hd:o.dst with
  | none=>rfl
  | some t=>
   simp only [Option.bind_some]
   have h2:=ht.2.2 t
   rcases Nat.lt_or_ge t a.tmps.size with hl | hl
   ·obtain ⟨v,h1⟩:∃ v,a.tmps[t]?=some v:=⟨_,Array.getElem?_eq_getElem hl⟩
    rw [Array.getD_eq_getD_getElem?,h1] at h2
    simp only [Option.getD_some] at h2
    rw [h1]
    generalize tm.get t=x at h2
    cases x
    case lit u=>rw [show v=u from h2];cases u <;> rfl
    case txt t=>rw [h2.2]
    case ptr b o=>obtain ⟨_,_,_,_,rfl⟩:=h2;rfl
    case slc b o n c es=>obtain ⟨_,_,_,_,_,_,rfl,_⟩:=h2;rfl
    case agg cs=>obtain ⟨_,rfl,_⟩:=h2;rfl
    case tup cs=>obtain ⟨_,rfl,_⟩:=h2;rfl
    case fn f x y=>obtain ⟨_,_,rfl,_⟩:=h2;rfl
    case map b=>obtain ⟨_,_,_,_,rfl⟩:=h2;rfl
   ·rw [Array.getElem?_eq_none hl,Fr.get_out (by rw [ht.2.1];exact hl)]
abbrev Jq:=FuncId→List AV→AH→Rs (AV × AH)
def CallOk(F:Funs)(P:Program)(call:Jq):Prop:=∀ f args h v h',call f args h=.ok (v,h')→∀ (e:Env) (w0 w:World) (vs:Array Value),HR F e w0 w h→VRs F e args vs.toList →
 Calls P f vs w fun en w'=>∃ u,en=.returned u∧∃ e',e.le e'∧VR F e' v u∧HR F e' w0 w' h'
def awanted(ops:Array Oper)(tm:Fr)(o:Oper):Bool:=
 match o.guard with
 | none=>true
 | some (j,want)=>aYield ops tm j==some want
theorem awanted_eq{ops:Array Oper}{tm:Fr}{a:Act}(ht:FR F e tm a.tmps)(o:Oper):Region.wanted o (yielded ops a.tmps)=awanted ops tm o:=by
 unfold Region.wanted awanted
 split
 ·rename_i hg;rw [hg]
 ·rename_i j want hg;rw [hg];simp only;rw [aYield_eq ht]
def aDo(P:Program)(call:Jq)(ev:Ev)(o:Oper)(h:AH):Rs (AV × AH):=
 match aOp P ev o h with
 | some (.val v h')=>.ok (v,h')
 | some (.skip h')=>.ok (.tup [],h')
 | some (.enter f args)=>match call f args h with
  | .ok x=>.ok x
  | .no l=>.no (f::l)
 | none=>.no []
theorem aDo_wp{call:Jq}(hc:CallOk F P call){o:Oper}{a:Act}{ev:Ev}{v:AV}{K:Act→World→Prop}{Q:Exit→Act→World→Prop}{ρ:Operand→Value}(he:execOp a.eval o=execOp ρ o)(hev:EvR F e ev ρ)(H:HR F e w0 w h)(hr:aDo P call ev o h=.ok (v,h'))
 (hk:∀ u w' e',e.le e'→VR F e' v u→HR F e' w0 w' h'→K (a.put o.dst u) w'):o.wp P a w K Q:=by
 unfold aDo at hr
 unfold Oper.wp
 rw [he]
 split at hr
 ·rename_i v' h'' ho
  cases hr
  obtain ⟨u,w',e',h1,h2,h3,h4⟩:=aOp_holds (P:=P) hev H ho
  rw [h1]
  exact hk u w' e' h2 h3 h4
 ·rename_i h'' ho
  cases hr
  obtain ⟨w',e',h1,h2,h3⟩:=aOp_holds (P:=P) hev H ho
  rw [h1]
  exact hk undef w' e' h2 ⟨[],rfl,rfl⟩ h3
 ·rename_i f args ho
  obtain ⟨us,h1,h2⟩:=aOp_holds (P:=P) hev H ho
  rw [h1]
  split at hr
  ·rename_i x hcall
   cases hr
   refine (hc f args h v h' hcall e w0 w us H h2).mono ?_
   rintro en w' ⟨u,rfl,e',g1,g2,g3⟩
   exact hk u w' e' g1 g2 g3
  ·cases hr
 ·cases hr
def aStep(P:Program)(call:Jq)(ops:Array Oper)(o:Oper)(tm:Fr)(h:AH):Rs (Fr × AH):=
 if awanted ops tm o then match aDo P call (evOf tm) o h with
  | .ok (v,h')=>fput tm o.dst v fun tm=>.ok (tm,h')
  | .no l=>.no l
 else fput tm o.dst (.tup []) fun tm=>.ok (tm,h)
theorem aStep_wp{call:Jq}(hc:CallOk F P call){ops:Array Oper}{i:Nat}{o:Oper}(ho:ops[i]?=some o){a:Act}{tm tm':Fr}{K:Act→World→Prop}{Q:Exit→Act→World→Prop}(ht:FR F e tm a.tmps)(H:HR F e w0 w h)
 (hr:aStep P call ops o tm h=.ok (tm',h')) (hk:∀ a' w' e',e.le e'→FR F e' tm' a'.tmps→a'.defers=a.defers→HR F e' w0 w' h'→K a' w'):wpOp P ops Q i K a w:=by
 unfold aStep at hr
 simp only [fput_eq] at hr
 unfold wpOp
 simp only [ho]
 rw [awanted_eq ht]
 have hd:∀ u,(a.put o.dst u).defers=a.defers:=fun u=>by cases o.dst <;> rfl
 split at hr
 ·rename_i hw
  rw [if_pos hw]
  split at hr
  ·rename_i v h'' hdo
   cases hr
   refine .inl (aDo_wp hc rfl (evR_of ht) H hdo fun u w' e' g1 g2 g3=>hk _ w' e' g1 (aput_vr (ht.le g1) g2) (hd u) g3)
  ·cases hr
 ·rename_i hw
  cases hr
  rw [if_neg hw]
  exact hk _ w e (Env.le_refl _) (aput_vr ht ⟨[],rfl,rfl⟩) (hd _) H
def aSeq(P:Program)(call:Jq)(ops:Array Oper)(i:Nat)(l:List Oper)(tm:Fr)(h:AH):Rs (Fr × AH):=
 List.rec (motive:=fun _=>Nat→Fr→AH→Rs (Fr × AH)) (fun _ tm h=>.ok (tm,h)) (fun o _ ih i tm h=>match aStep P call ops o tm h with
  | .ok x=>ih (i+1) x.1 x.2
  | .no l=>.no (i::l)) l i tm h
theorem aSeq_wp{call:Jq}(hc:CallOk F P call){ops:Array Oper}{Q:Exit→Act→World→Prop}:∀ (r:List Oper) (i:Nat) {tm tm':Fr} {h h':AH} {a:Act} {w:World} {e:Env},(∀ k o,r[k]?=some o→ops[i+k]?=some o)→FR F e tm a.tmps→HR F e w0 w h →
 aSeq P call ops i r tm h=.ok (tm',h')→(∀ a' w' e',e.le e'→FR F e' tm' a'.tmps→a'.defers=a.defers→HR F e' w0 w' h'→Q .normal a' w')→wpOps P ops Q ((List.range r.length).map (i + ·)) a w
 | [],i,tm,tm',h,h',a,w,e,hops,ht,H,hr,hk=>by
  cases hr
  exact hk a w e (Env.le_refl _) ht rfl H
 | o::r,i,tm,tm',h,h',a,w,e,hops,ht,H,hr,hk=>by
  replace hr:(match aStep P call ops o tm h with | .ok x=>aSeq P call ops (i+1) r x.1 x.2 | .no l=>.no (i::l))=.ok (tm',h'):=hr
  split at hr
  ·rename_i x hs
   obtain ⟨tm1,h1⟩:=x
   have hl:(List.range (o::r).length).map (i + ·)=i::(List.range r.length).map (i+1 + ·):=by
    rw [List.length_cons,List.range_succ_eq_map,List.map_cons,List.map_map]
    congr 1
    exact List.map_congr_left fun x _=>by simp only [Function.comp];omega
   rw [hl,wpOps_cons]
   refine aStep_wp hc (hops 0 o rfl) ht H hs fun a' w' e' g1 g2 g3 g4=>?_
   refine aSeq_wp hc r (i+1) (fun k o' hk'=>by rw [show i+1+k=i+(k+1) by omega];exact hops (k+1) o' hk') g2 g4 hr fun a'' w'' e'' k1 k2 k3 k4=>?_
   exact hk a'' w'' e'' (Env.le_trans g1 k1) k2 (k3.trans g3) k4
  ·cases hr
abbrev Drawer:=Array Oper→Fr→AH→Rs (Fr × AH)
def DrawOk(F:Funs)(P:Program)(draw:Drawer):Prop:=∀ ops tm h tm' h',draw ops tm h=.ok (tm',h')→∀ (e:Env) (w0 w:World) (a:Act) (Q:Exit→Act→World→Prop) (id:Nat),FR F e tm a.tmps→HR F e w0 w h →
 (∀ a' w' e',e.le e'→FR F e' tm' a'.tmps→a'.defers=a.defers→HR F e' w0 w' h'→Q .normal a' w')→(Code.region id ops true).wp P Q a w
inductive AX where
 | normal
 | exit (id:Nat)
 | ret
def AX.to:AX→Exit
 | .normal=>.normal
 | .exit id=>.exit id
 | .ret=>.ret
abbrev Coder:=Code→Fr→AH→Rs (AX × Fr × AH)
def cSeq(ih:Coder)(y:Code)(r:Rs (AX × Fr × AH)):Rs (AX × Fr × AH):=
 match r with
 | .ok (.normal,tm',h')=>ih y tm' h'
 | r=>r
def cBlock(id:Nat)(r:Rs (AX × Fr × AH)):Rs (AX × Fr × AH):=
 match r with
 | .ok (.exit id',tm',h')=>if id'=id then .ok (.normal,tm',h') else .ok (.exit id',tm',h')
 | r=>r
def cRegion(k:List Nat)(r:Rs (Fr × AH)):Rs (AX × Fr × AH):=
 match r with
 | .ok (tm',h')=>.ok (.normal,tm',h')
 | .no l=>.no (k++l)
def cCond(ih:Coder)(c:AV)(x y:Code)(tm:Fr)(h:AH):Rs (AX × Fr × AH):=
 match c with
 | .lit (.bool true)=>ih x tm h
 | .lit (.bool false)=>ih y tm h
 | _=>.no [8888]
def codeStep(P:Program)(call:Jq)(draw:Drawer)(ih:Coder)(c:Code)(tm:Fr)(h:AH):Rs (AX × Fr × AH):=
 match c with
 | .skip=>.ok (.normal,tm,h)
 | .label _=>.ok (.normal,tm,h)
 | .ret=>.ok (.ret,tm,h)
 | .exit id=>.ok (.exit id,tm,h)
 | .region id ops d=>match d with
  | false=>cRegion [id] (aSeq P call ops 0 ops.toList tm h)
  | true=>cRegion [id,7777] (draw ops tm h)
 | .seq x y=>cSeq ih y (ih x tm h)
 | .cond c x y=>cCond ih (evOf tm c) x y tm h
 | .block id x=>cBlock id (ih x tm h)
 | .loop x=>cSeq ih (.loop x) (ih x tm h)
 | _=>.no [6666]
def aCode(P:Program)(call:Jq)(draw:Drawer)(n:Nat):Coder:=
 Nat.rec (motive:=fun _=>Coder) (fun _ _ _=>.no [9999]) (fun _ ih=>codeStep P call draw ih) n
def LoopWp(P:Program)(c:Code)(Q:Exit→Act→World→Prop)(a:Act)(w:World):Prop:=
 ∀ (b:Frame) (k:List Item) (cs:List Frame),∃ x a' w',Q x a' w'∧Arrives P (lone (b.at a (.code c::.inLoop c::k)) cs w) b k cs x a' w'
theorem LoopWp.loop{c:Code}{Q:Exit→Act→World→Prop}{a:Act}{w:World}(h:LoopWp P c Q a w):(Code.loop c).wp P Q a w:=by
 intro b k cs
 obtain ⟨x,a',w',hq,harr⟩:=h b k cs
 exact ⟨x,a',w',hq,.of_steps (.one step_loop) harr⟩
theorem LoopWp.one{c:Code}{Q:Exit→Act→World→Prop}{a:Act}{w:World}(h:c.wp P (Exit.then (LoopWp P c Q) Q) a w):LoopWp P c Q a w:=by
 intro b k cs
 obtain ⟨x,a₁,w₁,hq,harr⟩:=h b (.inLoop c::k) cs
 cases x with
 | normal=>
  obtain ⟨e₂,a₂,w₂,hq₂,harr₂⟩:=hq b k cs
  exact ⟨e₂,a₂,w₂,hq₂,.of_steps (Steps.trans harr (.one step_inLoop)) harr₂⟩
 | exit id=>exact ⟨_,a₁,w₁,hq,.pass (x:=.inLoop c) rfl (fun _ _=>.inl (by simp)) harr⟩
 | goto l=>exact ⟨_,a₁,w₁,hq,.pass (x:=.inLoop c) rfl (fun _ _=>.inl (by simp)) harr⟩
 | ret=>exact ⟨_,a₁,w₁,hq,.pass (x:=.inLoop c) rfl (fun _ _=>.inl (by simp)) harr⟩
 | panic ch=>exact ⟨_,a₁,w₁,hq,.pass (x:=.inLoop c) rfl (fun _ _=>.inl (by simp)) harr⟩
 | outgrown=>exact ⟨_,a₁,w₁,hq,.pass (x:=.inLoop c) rfl (fun _ _=>.inl (by simp)) harr⟩
theorem Zn{call:Jq}{draw:Drawer}(hc:CallOk F P call)(hd:DrawOk F P draw):∀ (n:Nat) (c:Code) {tm tm':Fr} {h h':AH} {x:AX} {a:Act} {w:World} {e:Env} {Q:Exit→Act→World→Prop},
 FR F e tm a.tmps→HR F e w0 w h→aCode P call draw n c tm h=.ok (x,tm',h')→(∀ a' w' e',e.le e'→FR F e' tm' a'.tmps→a'.defers=a.defers→HR F e' w0 w' h'→Q x.to a' w') →
 c.wp P Q a w∧∀ y,c=.loop y→LoopWp P y Q a w
 | 0,c,tm,tm',h,h',x,a,w,e,Q,ht,H,hr,hk=>by cases hr
 | n+1,c,tm,tm',h,h',x,a,w,e,Q,ht,H,hr,hk=>by
  replace hr:codeStep P call draw (aCode P call draw n) c tm h=.ok (x,tm',h'):=hr
  unfold codeStep at hr
  have ne:∀ {c:Code},(∀ y,c≠.loop y)→c.wp P Q a w→c.wp P Q a w∧∀ y,c=.loop y→LoopWp P y Q a w:=fun h1 h2=>⟨h2,fun y hy=>absurd hy (h1 y)⟩
  split at hr
  ·cases hr
   exact ne (by simp) (wp_skip (hk a w e (Env.le_refl _) ht rfl H))
  ·cases hr
   exact ne (by simp) (wp_label (hk a w e (Env.le_refl _) ht rfl H))
  ·cases hr
   exact ne (by simp) (wp_ret (hk a w e (Env.le_refl _) ht rfl H))
  ·cases hr
   exact ne (by simp) (wp_exit (hk a w e (Env.le_refl _) ht rfl H))
  ·rename_i id ops d
   split at hr
   ·unfold cRegion at hr
    split at hr
    ·rename_i tm1 h1 hs
     cases hr
     refine ne (by simp) (wp_region ?_)
     have:=aSeq_wp hc ops.toList 0 (fun k o hk'=>by rw [Nat.zero_add,← Array.getElem?_toList];exact hk') ht H hs hk
     simpa using this
    ·cases hr
   ·unfold cRegion at hr
    split at hr
    ·rename_i tm1 h1 hs
     cases hr
     exact ne (by simp) (hd _ _ _ _ _ hs e w0 w a Q id ht H hk)
    ·cases hr
  ·rename_i y z
   unfold cSeq at hr
   split at hr
   ·rename_i tm1 h1 hs
    refine ne (by simp) (wp_seq ((Zn hc hd n y ht H hs fun a1 w1 e1 g1 g2 g3 g4=>?_).1))
    exact (Zn hc hd n z g2 g4 hr fun a2 w2 e2 k1 k2 k3 k4=>hk a2 w2 e2 (Env.le_trans g1 k1) k2 (k3.trans g3) k4).1
   ·rename_i hne
    refine ne (by simp) (wp_seq ((Zn hc hd n y ht H hr fun a1 w1 e1 g1 g2 g3 g4=>?_).1))
    cases x with
    | normal=>exact absurd hr (hne _ _)
    | exit id=>exact hk a1 w1 e1 g1 g2 g3 g4
    | ret=>exact hk a1 w1 e1 g1 g2 g3 g4
  ·rename_i c y z
   have hv:=evR_of ht c
   unfold cCond at hr
   split at hr
   ·rename_i hb
    rw [hb] at hv
    exact ne (by simp) (wp_cond_true hv ((Zn hc hd n y ht H hr hk).1))
   ·rename_i hb
    rw [hb] at hv
    exact ne (by simp) (wp_cond_false hv ((Zn hc hd n z ht H hr hk).1))
   ·cases hr
  ·rename_i id y
   unfold cBlock at hr
   split at hr
   ·rename_i id' tm1 h1 hs
    split at hr
    ·rename_i hid
     cases hr
     refine ne (by simp) (wp_block ((Zn hc hd n y ht H hs fun a1 w1 e1 g1 g2 g3 g4=>?_).1))
     show Exit.inBlock id Q (.exit id') a1 w1
     simp only [Exit.inBlock,hid,if_true]
     exact hk a1 w1 e1 g1 g2 g3 g4
    ·rename_i hid
     cases hr
     refine ne (by simp) (wp_block ((Zn hc hd n y ht H hs fun a1 w1 e1 g1 g2 g3 g4=>?_).1))
     show Exit.inBlock id Q (.exit id') a1 w1
     simp only [Exit.inBlock,hid,if_false]
     exact hk a1 w1 e1 g1 g2 g3 g4
   ·rename_i hne
    refine ne (by simp) (wp_block ((Zn hc hd n y ht H hr fun a1 w1 e1 g1 g2 g3 g4=>?_).1))
    cases x with
    | normal=>exact hk a1 w1 e1 g1 g2 g3 g4
    | exit id'=>exact absurd hr (hne _ _ _)
    | ret=>exact hk a1 w1 e1 g1 g2 g3 g4
  ·rename_i y
   have key:LoopWp P y Q a w:=by
    unfold cSeq at hr
    split at hr
    ·rename_i tm1 h1 hs
     refine LoopWp.one ((Zn hc hd n y ht H hs fun a1 w1 e1 g1 g2 g3 g4=>?_).1)
     exact (Zn hc hd n (.loop y) g2 g4 hr fun a2 w2 e2 k1 k2 k3 k4=>hk a2 w2 e2 (Env.le_trans g1 k1) k2 (k3.trans g3) k4).2 y rfl
    ·rename_i hne
     refine LoopWp.one ((Zn hc hd n y ht H hr fun a1 w1 e1 g1 g2 g3 g4=>?_).1)
     cases x with
     | normal=>exact absurd hr (hne _ _)
     | exit id=>exact hk a1 w1 e1 g1 g2 g3 g4
     | ret=>exact hk a1 w1 e1 g1 g2 g3 g4
   exact ⟨key.loop,fun z hz=>by cases hz;exact key⟩
  ·cases hr
def aResults(P:Program)(tm:Fr)(h:AH):List ResultVar→Option (List AV)
 | []=>some []
 | .tmp t::r=>(aResults P tm h r).map (tm.get t :: ·)
 | .cell a t::r=>match aLoad P t (tm.get a) h,aResults P tm h r with
  | some (.val v _),some l=>some (v::l)
  | _,_=>none
def aRet:List AV→AV
 | [v]=>v
 | l=>.tup l
def resV(tmps:Array Value):ResultVar→Sem Value
 | .tmp t=>pure (tmps.getD t undef)
 | .cell a t=>do loadVar t (← asAddr (tmps.getD a undef))
theorem results_eq(fn:Func)(tmps:Array Value):results fn tmps=(do
 let vs ← fn.results.mapM (resV tmps)
 pure (if h:vs.size=1 then vs[0] else .tuple vs)):=by
 unfold results
 congr 1
theorem aResults_run{tm:Fr}{a:Act}(ht:FR F e tm a.tmps)(H:HR F e w0 w h):∀ {rs:List ResultVar} {l:List AV},aResults P tm h rs=some l →
 ∃ vs,(rs.mapM (resV a.tmps)).run P w=.ok vs w∧VRs F e l vs
 | [],l,hr=>by cases hr;exact ⟨[],rfl,rfl⟩
 | .tmp t::rs,l,hr=>by
  simp only [aResults,Option.map_eq_some_iff] at hr
  obtain ⟨l',hl,rfl⟩:=hr
  obtain ⟨vs,h1,h2⟩:=aResults_run ht H hl
  have hv:=evR_of ht (.tmp t)
  refine ⟨a.tmps.getD t undef::vs,?_,_,_,rfl,hv,h2⟩
  rw [List.mapM_cons]
  simp only [resV,Sem.run_bind,Sem.run_pure,Result.andThen_ok,h1]
 | .cell x t::rs,l,hr=>by
  unfold aResults at hr
  split at hr
  ·rename_i v h' l' hld hl
   cases hr
   obtain ⟨vs,h1,h2⟩:=aResults_run ht H hl
   have hv:=evR_of ht (.tmp x)
   obtain ⟨v',hvv,u,g1,g2⟩:=aLoad_run (P:=P) H hv hld
   cases hvv
   refine ⟨u::vs,?_,_,_,rfl,g2,h2⟩
   rw [List.mapM_cons]
   have hp:∃ b o,tm.get x=.ptr b o:=by
    unfold aLoad at hld
    split at hld
    ·rename_i b o heq;exact ⟨b,o,heq⟩
    ·cases hld
   obtain ⟨b,o,hp⟩:=hp
   have hv2:VR F e (.ptr b o) (a.tmps.getD x undef):=by rw [← hp];exact hv
   obtain ⟨B,k,n,hb,hpv⟩:=hv2
   have g1':(Instr.loadAt t (a.tmps.getD x undef)).run P w=.ok u w:=g1
   rw [hpv] at g1'
   simp only [Instr.loadAt,Instr.sureAddr,Sem.run_bind,Sem.run_pure,Result.andThen_ok] at g1'
   simp only [resV,hpv,asAddr,Sem.run_bind,Sem.run_pure,Result.andThen_ok,g1',h1]
  ·cases hr
theorem aRet_run{fn:Func}{tm:Fr}{a:Act}{l:List AV}(ht:FR F e tm a.tmps)(H:HR F e w0 w h)(hr:aResults P tm h fn.results.toList=some l) :
 ∃ v,(results fn a.tmps).run P w=.ok v w∧VR F e (aRet l) v:=by
 obtain ⟨vs,h1,h2⟩:=aResults_run (P:=P) ht H hr
 have hl:=VRs.length _ _ h2
 rw [results_eq,Array.mapM_eq_mapM_toList]
 simp only [Sem.run_bind,Sem.run_map,h1,Result.andThen_ok,Sem.run_pure,List.size_toArray]
 refine ⟨_,rfl,?_⟩
 unfold aRet
 split
 ·rename_i v
  obtain ⟨u,l',rfl,g1,g2⟩:=h2
  rw [show l'=[] from g2]
  simpa using g1
 ·rename_i hne
  have:¬ vs.length=1:=by
   intro hv
   rw [hl] at hv
   match l,hv with
   | [x],_=>exact hne x rfl
  rw [dif_neg this]
  exact ⟨vs,rfl,h2⟩
abbrev Prims:=FuncId→List AV→AH→Option (Rs (AV × AH))
def Qc(F:Funs)(P:Program)(pr:Prims):Prop:=∀ f args h v h',pr f args h=some (.ok (v,h'))→∀ (e:Env) (w0 w:World) (vs:Array Value),HR F e w0 w h→VRs F e args vs.toList →
 Calls P f vs w fun en w'=>∃ u,en=.returned u∧∃ e',e.le e'∧VR F e' v u∧HR F e' w0 w' h'
def trArgs:List AV→Nat→Tr→Tr
 | [],_,t=>t
 | a::l,i,t=>Tr.fset 12 t i a fun t=>trArgs l (i+1) t
def callRes(P:Program)(fn:Func)(r:Rs (AX × Fr × AH)):Rs (AV × AH):=
 match r with
 | .ok (.exit _,_,_)=>.no [4444]
 | .ok (_,tm,h')=>match aResults P tm h' fn.results.toList with
  | some l=>.ok (aRet l,h')
  | none=>.no [3333]
 | .no l=>.no l
def callBody(P:Program)(draw:Jq→Drawer)(fuel:Nat)(ih:Jq)(fn:Func)(c:Code)(args:List AV)(h:AH):Rs (AV × AH):=
 if Nat.ble (args.length+(fn.ntmps-args.length)) 4000 then fNat (args.length+(fn.ntmps-args.length)) fun m=>callRes P fn (aCode P ih (draw ih) fuel c ⟨m,trArgs args 0 .lf⟩ h)
 else .no [2223]
def callStep(P:Program)(pr:Prims)(draw:Jq→Drawer)(fuel:Nat)(ih:Jq)(f:FuncId)(args:List AV)(h:AH):Rs (AV × AH):=
 match pr f args h with
 | some r=>r
 | none=>match P.funcs[f]? with
  | some fn=>match fn.body with
   | some c=>callBody P draw fuel ih fn c args h
   | none=>.no [2222]
  | none=>.no [1111]
def aCall(P:Program)(pr:Prims)(draw:Jq→Drawer)(fuel:Nat)(n:Nat):Jq:=
 Nat.rec (motive:=fun _=>Jq) (fun _ _ _=>.no [5555]) (fun _ ih=>callStep P pr draw fuel ih) n
theorem trArgs_get:∀ (l:List AV) (i:Nat) (t:Tr) (j:Nat),i+l.length≤4000→j<4000→(trArgs l i t).get 12 j=if i≤j∧j<i+l.length then l.getD (j-i) (.tup []) else t.get 12 j
 | [],i,t,j,_,_=>by rw [if_neg (by simp only [List.length_nil];omega)];rfl
 | a::l,i,t,j,hi,hj=>by
  simp only [List.length_cons] at hi
  simp only [trArgs,Tr.fset_eq]
  rw [trArgs_get l (i+1) _ j (by omega) hj,Tr.get_set 12 t i j a (by omega) (by omega)]
  simp only [List.length_cons]
  by_cases h1:i+1≤j∧j<i+1+l.length
  ·rw [if_pos h1,if_pos (by omega)]
   rw [show j-i=(j-(i+1))+1 by omega];rfl
  ·rw [if_neg h1]
   by_cases h2:i=j
   ·subst h2;rw [if_pos rfl,if_pos (by omega),Nat.sub_self];rfl
   ·rw [if_neg h2,if_neg (by omega)]
theorem frOf{args:List AV}{vs:Array Value}{n m:Nat}(hm:m=args.length+(n-args.length))(h4:m≤4000)(hv:VRs F e args vs.toList):FR F e ⟨m,trArgs args 0 .lf⟩ (vs++Array.replicate (n-vs.size) undef):=by
 have hal:=VRs.length _ _ hv
 simp only [Array.length_toList] at hal
 refine ⟨h4,by simp only [Array.size_append,Array.size_replicate];omega,fun i=>?_⟩
 unfold Fr.get
 by_cases hi:i<m
 ·rw [if_pos (by simpa using hi)]
  simp only
  rw [trArgs_get args 0 .lf i (by omega) (by omega),Tr.get_lf]
  by_cases h1:i<args.length
  ·rw [if_pos (by omega),Nat.sub_zero]
   obtain ⟨v,g1,g2⟩:=VRs.get _ _ i _ hv (List.getElem?_eq_getElem h1)
   rw [List.getD_eq_getElem?_getD,List.getElem?_eq_getElem h1]
   rw [Array.getElem?_toList] at g1
   rw [Array.getD_eq_getD_getElem?,Array.getElem?_append_left (by omega),g1]
   exact g2
  ·rw [if_neg (by omega),Array.getD_eq_getD_getElem?,Array.getElem?_append_right (by omega)]
   have:(Array.replicate (n-vs.size) undef)[i-vs.size]?=some undef:=by
    rw [Array.getElem?_replicate,if_pos (by omega)]
   rw [this]
   exact ⟨[],rfl,rfl⟩
 ·rw [if_neg (by simpa using hi),Array.getD_eq_getD_getElem?,Array.getElem?_eq_none (by simp only [Array.size_append,Array.size_replicate];omega)]
  exact ⟨[],rfl,rfl⟩
theorem aCall_ok{pr:Prims}{draw:Jq→Drawer}{fuel:Nat}(hp:Qc F P pr)(hd:∀ call,CallOk F P call→DrawOk F P (draw call)):∀ n,CallOk F P (aCall P pr draw fuel n)
 | 0=>fun f args h v h' hr=>by cases hr
 | n+1=>by
  intro f args h v h' hr e w0 w vs H hv
  replace hr:callStep P pr draw fuel (aCall P pr draw fuel n) f args h=.ok (v,h'):=hr
  unfold callStep at hr
  split at hr
  ·rename_i r hpr
   subst hr
   exact hp f args h v h' hpr e w0 w vs H hv
  ·split at hr
   ·rename_i fn hfn
    split at hr
    ·rename_i c hb
     have hcall:=aCall_ok (fuel:=fuel) hp hd n
     unfold callBody at hr
     split at hr
     rotate_left
     ·cases hr
     rename_i h4
     rw [fNat_eq] at hr
     unfold callRes at hr
     have ht:=frOf (n:=fn.ntmps) rfl (by simpa using h4) hv
     split at hr
     ·cases hr
     ·rename_i x tm h1 hne hcode
      split at hr
      ·rename_i l hl
       cases hr
       refine calls_of_wp hfn hb ((Zn hcall (hd _ hcall) fuel c ht H hcode fun a' w' e' g1 g2 g3 g4=>?_).1)
       obtain ⟨u,k1,k2⟩:=aRet_run g2 g4 hl
       cases x with
       | normal=>exact ⟨g3,u,k1,u,rfl,e',g1,k2,g4⟩
       | ret=>exact ⟨g3,u,k1,u,rfl,e',g1,k2,g4⟩
       | exit id=>exact absurd rfl (hne id)
      ·cases hr
     ·cases hr
    ·cases hr
   ·cases hr
end
end
noncomputable section
def Qv:List (List Nat)→List Oper→List (List Nat)
 | acc,[]=>acc
 | acc,o::r=>Qv (acc++[o.after.toList.foldl (fun s e=>if Region.binds .any e then (e.on::acc.getD e.on []).foldl (fun s x=>if s.contains x then s else x::s) s else s) []]) r
def cls(P:Program):Op→Nat
 | .load .. | .lookup .. => 1
 | .slice _ _ _ _ none=>1
 | .convert _ d _=>match P.underlying d with
  | some (.slice _)=>2
  | _=>1
 | .store .. | .alloc _ | .box .. | .buildSlice .. | .makeMap .. | .mapUpdate .. | .insert .. | .mapEntry .. | .entryStore .. => 2
 | .call { callee:=.builtin .len,.. } | .call { callee:=.builtin .min,.. } | .call { callee:=.builtin .max,.. }=>0
 | .call _=>2
 | _=>0
def textOk(ancs:List (List Nat))(ops:Array Oper):Bool:=
 let l:=ops.toList
 (List.range l.length).all fun j=>match l[j]? with
   | none=>true
   | some oj=>
    !(match oj.op with | .select .. => true | _=>false)&&oj.after.toList.all (fun e=>!Region.binds .any e||decide (e.on<j)) &&
    (List.range l.length).all fun k=>match l[k]? with
      | none=>true
      | some ok=>match ok.dst with
       | none=>true
       | some d=>let lk:=(oj.looksAt ops).contains d
        if k=j then !lk else (match oj.dst with | some d'=>d' != d | none=>true)&&(!lk||(if k<j then (ancs.getD j []).contains k else (ancs.getD k []).contains j))
def chainOk(ancs:List (List Nat)):List Nat→Bool
 | a::b::r=>(ancs.getD b []).contains a&&chainOk ancs (b::r)
 | _=>true
def isAlloc(o:Oper):Bool:=
 match o.op with
 | .alloc _=>o.guard.isNone
 | _=>false
def floatOf(ancs:List (List Nat))(ops:List Oper)(es:List Nat):Option (Option Nat):=
 if chainOk ancs es then some none
 else match es.find? (fun a=>(match ops[a]? with | some o=>isAlloc o | none=>false)&&(ancs.getD a []).isEmpty&&chainOk ancs (es.filter (· != a))) with
  | some a=>some (some a)
  | none=>none
def veq:Value→Value→Bool
 | .bool a,.bool b=>a==b
 | .int k a,.int j b=>decide (k=j)&&decide (a=b)
 | .pointer none,.pointer none=>true
 | .pointer (some ⟨a,b,none⟩),.pointer (some ⟨c,d,none⟩)=>a==c&&b==d
 | .slice none a b,.slice none c d=>a==c&&b==d
 | .map none,.map none=>true
 | .nilFunc,.nilFunc=>true
 | .nilIface,.nilIface=>true
 | _,_=>false
mutual
def AV.beq:AV→AV→Bool
 | .lit v,.lit u=>veq v u
 | .txt s,.txt t=>tbeq s t
 | .ptr a b,.ptr c d=>a==c&&b==d
 | .slc a b c d i,.slc a' b' c' d' i'=>a==a'&&b==b'&&c==c'&&d==d'&&i==i'
 | .agg l,.agg m=>avsBeq l m
 | .tup l,.tup m=>avsBeq l m
 | .fn f x y,.fn g z u=>decide (f=g)&&avsBeq x z&&avsBeq y u
 | .map a,.map b=>a==b
 | _,_=>false
def avsBeq:List AV→List AV→Bool
 | [],[]=>true
 | a::l,b::m=>a.beq b&&avsBeq l m
 | _,_=>false
end
def AO.beq:AO→AO→Bool
 | .dead,.dead=>true
 | .cells a,.cells b=>avsBeq a b
 | .map es c,.map fs d=>avsBeq (es.map (·.1)) (fs.map (·.1))&&avsBeq (es.map (·.2)) (fs.map (·.2))&&c==d
 | _,_=>false
def aosBeq:List AO→List AO→Bool
 | [],[]=>true
 | a::l,b::m=>a.beq b&&aosBeq l m
 | _,_=>false
mutual
def AV.up(n:Nat):AV→AV
 | .ptr b o=>.ptr (if b<n then b else b+1) o
 | .slc b o l c s=>.slc (if b<n then b else b+1) o l c s
 | .agg l=>.agg (avsUp n l)
 | .tup l=>.tup (avsUp n l)
 | .fn f x y=>.fn f (avsUp n x) (avsUp n y)
 | .map b=>.map (if b<n then b else b+1)
 | .lit v=>.lit v
 | .txt t=>.txt t
def avsUp(n:Nat):List AV→List AV
 | []=>[]
 | a::l=>a.up n::avsUp n l
end
def AO.up(n:Nat):AO→AO
 | .dead=>.dead
 | .cells l=>.cells (avsUp n l)
 | .map es c=>.map (es.map fun p=>(p.1.up n,p.2.up n)) c
def AH.ins(n:Nat)(o:AO)(h:AH):AH:={ h with bs:=(h.bs.map (AO.up n)).take n++o::(h.bs.map (AO.up n)).drop n }
def AH.same(h g:AH):Bool:=aosBeq h.bs g.bs&&h.nv==g.nv
def aMay(ancs:List (List Nat))(cs:List Nat)(i m:Nat):Bool:=
 (List.range cs.length).all fun k=>(!(ancs.getD i []).contains (cs.getD k 0)||decide (k<m))&&(decide (m≤k) || !(ancs.getD (cs.getD k 0) []).contains i)
def firstMay(ancs:List (List Nat))(cs:List Nat)(i:Nat):List AH→Nat→Option AH
 | [],_=>none
 | g::gs,m=>if aMay ancs cs i m then some g else firstMay ancs cs i gs (m+1)
def mk(lk:List Tmp)(tm:Fr):Fr:=⟨tm.n,lk.foldl (fun s i=>if Nat.blt i tm.n then s.set 12 i (tm.get i) else s) .lf⟩
def lefts(ancs:List (List Nat))(flt:Option Nat)(on:Option AV)(i:Nat):Bool:=
 on.isNone&&match flt with
  | some a=>(ancs.getD i []).contains a
  | none=>false
def aWay(P:Program)(call:Jq)(ops:Array Oper)(ancs:List (List Nat))(cs:List Nat)(flt:Option Nat)(on:Option AV):Nat→List Oper→Fr→List AV→List AH→Rs (List AV × List AH)
 | _,[],_,vals,gs=>.ok (vals,gs)
 | i,o::r,tm,vals,gs=>
  if flt=some i then fput tm o.dst (on.getD (.tup [])) fun tm=>aWay P call ops ancs cs flt on (i+1) r tm (vals++[on.getD (.tup [])]) gs
  else if lefts ancs flt on i then fput tm o.dst (.tup []) fun tm=>aWay P call ops ancs cs flt on (i+1) r tm (vals++[.tup []]) gs
  else if awanted ops (mk (o.looksAt ops) tm) o then
   if cls P o.op=2 then
    if cs[gs.length-1]?=some i then
     match gs.getLast? with
     | some g=>match aDo P call (evOf (mk (o.looksAt ops) tm)) o g with
      | .ok (v,g')=>fput tm o.dst v fun tm=>aWay P call ops ancs cs flt on (i+1) r tm (vals++[v]) (gs++[g'])
      | .no l=>.no (i::l)
     | none=>.no [i,10]
    else .no [i,11]
   else if cls P o.op=1 then match firstMay ancs cs i gs 0 with
    | some g=>match aOp P (evOf (mk (o.looksAt ops) tm)) o g with
     | some (.val v _)=>fput tm o.dst v fun tm=>aWay P call ops ancs cs flt on (i+1) r tm (vals++[v]) gs
     | _=>.no [i,12]
    | none=>.no [i,13]
   else match aPure P (evOf (mk (o.looksAt ops) tm)) o with
    | some v=>fput tm o.dst v fun tm=>aWay P call ops ancs cs flt on (i+1) r tm (vals++[v]) gs
    | none=>.no [i,14]
  else if cs.contains i then
   if cs[gs.length-1]?=some i then
    match gs.getLast? with
    | some g=>fput tm o.dst (.tup []) fun tm=>aWay P call ops ancs cs flt on (i+1) r tm (vals++[.tup []]) (gs++[g])
    | none=>.no [i,16]
   else .no [i,15]
  else fput tm o.dst (.tup []) fun tm=>aWay P call ops ancs cs flt on (i+1) r tm (vals++[.tup []]) gs
def aSure(P:Program)(ops:Array Oper)(ancs:List (List Nat))(cs:List Nat)(flt:Option Nat)(on:Option AV)(gs:List AH):Nat→List Oper→Fr→List AV→Bool
 | _,[],_,_=>true
 | _,_::_,_,[]=>false
 | i,o::r,tm,v::vals=>
  (flt==some i||lefts ancs flt on i || !(awanted ops (mk (o.looksAt ops) tm) o&&cls P o.op==1)||(List.range gs.length).all fun m=>!aMay ancs cs i m||match gs[m]? with
    | some g=>match aOp P (evOf (mk (o.looksAt ops) tm)) o g with
     | some (.val u _)=>u.beq v
     | _=>false
    | none=>false)&&fput tm o.dst v fun tm=>aSure P ops ancs cs flt on gs (i+1) r tm vals
def putAll:List Oper→List AV→Fr→Fr
 | o::r,v::vs,tm=>fput tm o.dst v fun tm=>putAll r vs tm
 | _,_,tm=>tm
def aBoth(ancs:List (List Nat))(flt n:Nat)(z:AO)(l:List Oper)(tm:Fr)(vf vt:List AV)(gf gt:List AH):Bool:=
 (List.range tm.n).all (fun i=>((tm.get i).up n).beq (tm.get i))&&decide (gf.length≤gt.length) &&
 (List.range gf.length).all (fun m=>match gf[m]?,gt[m]? with | some a,some b=>(a.ins n z).same b | _,_=>false) &&
 (List.range l.length).all fun i=>i==flt||(ancs.getD i []).contains flt||(match vf[i]?,vt[i]? with | some a,some b=>(a.up n).beq b | _,_=>false)
def aDraw(P:Program)(call:Jq)(ops:Array Oper)(tm:Fr)(h:AH):Rs (Fr × AH):=
 let l:=ops.toList
 let ancs:=Qv [] l
 if textOk ancs ops then
  let es:=(List.range l.length).filter fun i=>match l[i]? with | some o=>cls P o.op==2 | none=>false
  match floatOf ancs l es with
  | none=>.no [2]
  | some none=>match aWay P call ops ancs es none none 0 l tm [] [h] with
   | .ok (vals,gs)=>if aSure P ops ancs es none none gs 0 l tm vals&&decide (gs.length=es.length+1) then match gs.getLast? with
    | some g=>.ok (putAll l vals tm,g)
    | none=>.no [3]
    else .no [4]
   | .no l=>.no (5::l)
  | some (some a)=>
   let cs:=es.filter (· != a)
   match l[a]? with
   | some oa=>match oa.op with
    | .alloc t=>match zeroT P t with
     | some z=>
      let n:=h.bs.length
      match aWay P call ops ancs cs (some a) (some (.ptr n 0)) 0 l tm [] [{ h with bs:=h.bs++[.cells z.cells] }],aWay P call ops ancs cs (some a) none 0 l tm [] [h] with
      | .ok (vt,gt),.ok (vf,gf)=>
       if aSure P ops ancs cs (some a) (some (.ptr n 0)) gt 0 l tm vt&&aSure P ops ancs cs (some a) none gf 0 l tm vf&&decide (gt.length=cs.length+1)&&aBoth ancs a n (.cells z.cells) l tm vf vt gf gt then match gt.getLast? with
        | some g=>.ok (putAll l vt tm,g)
        | none=>.no [6]
       else .no [7]
      | .no l,_=>.no (8::l)
      | _,.no l=>.no (9::l)
     | none=>.no [10]
    | _=>.no [11]
   | none=>.no [12]
 else .no [1]
def aRun(P:Program)(pr:Prims)(fuel depth:Nat):Jq:=aCall P pr (fun call=>aDraw P call) fuel depth
end
noncomputable section
theorem veq_eq:∀ {a b:Value},veq a b=true→a=b:=by
 intro a b h
 unfold veq at h
 split at h
 all_goals first
  | rfl
  | (simp only [Bool.and_eq_true,beq_iff_eq,decide_eq_true_eq] at h;first | (rw [h];done) | (obtain ⟨h1,h2⟩:=h;subst h1;subst h2;rfl))
  | cases h
mutual
theorem AV.eq_of_beq:∀ {a b:AV},a.beq b=true→a=b
 | .lit v,b,h=>by
  cases b <;> simp only [AV.beq] at h <;> first | (rw [veq_eq h];done) | cases h
 | .txt t,b,h=>by
  cases b <;> simp only [AV.beq] at h <;> first | (rw [eq_of_tbeq h];done) | cases h
 | .ptr x y,b,h=>by
  cases b <;> simp only [AV.beq,Bool.and_eq_true,beq_iff_eq] at h <;> first | (rw [h.1,h.2];done) | cases h
 | .slc x y z u s,b,h=>by
  cases b <;> simp only [AV.beq,Bool.and_eq_true,beq_iff_eq] at h <;> first | (rw [h.1.1.1.1,h.1.1.1.2,h.1.1.2,h.1.2,h.2];done) | cases h
 | .agg l,b,h=>by
  cases b <;> simp only [AV.beq] at h <;> first | (rw [Zb h];done) | cases h
 | .tup l,b,h=>by
  cases b <;> simp only [AV.beq] at h <;> first | (rw [Zb h];done) | cases h
 | .fn f x y,b,h=>by
  cases b <;> simp only [AV.beq,Bool.and_eq_true,decide_eq_true_eq] at h <;> first | (rw [h.1.1,Zb h.1.2,Zb h.2];done) | cases h
 | .map x,b,h=>by
  cases b <;> simp only [AV.beq,beq_iff_eq] at h <;> first | (rw [h];done) | cases h
theorem Zb:∀ {a b:List AV},avsBeq a b=true→a=b
 | [],[],_=>rfl
 | a::l,b::m,h=>by
  simp only [avsBeq,Bool.and_eq_true] at h
  rw [AV.eq_of_beq h.1,Zb h.2]
 | [],_::_,h=>by simp [avsBeq] at h
 | _::_,[],h=>by simp [avsBeq] at h
end
theorem pairs_eq{α β:Type _}:∀ {l m:List (α × β)},l.map (·.1)=m.map (·.1)→l.map (·.2)=m.map (·.2)→l=m
 | [],[],_,_=>rfl
 | [],_::_,h,_=>by simp at h
 | _::_,[],h,_=>by simp at h
 | (a,b)::l,(c,d)::m,h,g=>by
   simp only [List.map_cons,List.cons.injEq] at h g
   rw [h.1,g.1,pairs_eq h.2 g.2]
theorem AO.eq_of_beq:∀ {a b:AO},a.beq b=true→a=b:=by
 intro a b h
 unfold AO.beq at h
 split at h
 ·rfl
 ·rw [Zb h]
 ·simp only [Bool.and_eq_true,beq_iff_eq] at h
  rw [h.2,pairs_eq (Zb h.1.1) (Zb h.1.2)]
 ·cases h
theorem eq_of_aosBeq:∀ {a b:List AO},aosBeq a b=true→a=b
 | [],[],_=>rfl
 | a::l,b::m,h=>by
  simp only [aosBeq,Bool.and_eq_true] at h
  rw [AO.eq_of_beq h.1,eq_of_aosBeq h.2]
 | [],_::_,h=>by simp [aosBeq] at h
 | _::_,[],h=>by simp [aosBeq] at h
theorem AH.eq_of_same{h g:AH}(hs:h.same g=true):h=g:=by
 obtain ⟨a,b⟩:=h
 obtain ⟨c,d⟩:=g
 simp only [AH.same,Bool.and_eq_true,beq_iff_eq] at hs
 rw [eq_of_aosBeq hs.1,hs.2]
section
variable {F:Funs} {e e':Env} {w0 w w':World} {h:AH}
mutual
theorem Ck.den_tx(ht:e'.tx=e.tx):∀ c:Ck,c.den F e'=c.den F e
 | .by l=>rfl
 | .zr n=>rfl
 | .vr k lo hi=>by simp only [Ck.den,ht]
 | .op f args lo hi=>by simp only [Ck.den,dens_tx ht args]
theorem den_tx(ht:e'.tx=e.tx):∀ c:List Ck,den F e' c=den F e c
 | []=>rfl
 | c::cs=>by simp only [den,Ck.den_tx ht c,den_tx ht cs]
theorem dens_tx(ht:e'.tx=e.tx):∀ c:List (List Ck),dens F e' c=dens F e c
 | []=>rfl
 | c::cs=>by simp only [dens,den_tx ht c,dens_tx ht cs]
end
mutual
theorem Ck.ok_tx(ht:e'.tx=e.tx):∀ c:Ck,c.ok F e→c.ok F e'
 | .by l,h=>h
 | .zr n,h=>h
 | .vr k lo hi,h=>by
  obtain ⟨x,hx,h1,h2⟩:=h
  exact ⟨x,by rw [ht];exact hx,h1,h2⟩
 | .op f args lo hi,h=>by
  refine ⟨h.1,?_,oks_tx ht args h.2.2⟩
  rw [dens_tx ht];exact h.2.1
theorem ok_tx(ht:e'.tx=e.tx):∀ c:List Ck,ok F e c→ok F e' c
 | [],_=>trivial
 | c::cs,h=>⟨Ck.ok_tx ht c h.1,ok_tx ht cs h.2⟩
theorem oks_tx(ht:e'.tx=e.tx):∀ c:List (List Ck),oks F e c→oks F e' c
 | [],_=>trivial
 | c::cs,h=>⟨ok_tx ht c h.1,oks_tx ht cs h.2⟩
end
theorem ins_get{α:Type _}(l:List α)(n:Nat)(x:α)(hn:n≤l.length)(i:Nat) :
 (l.take n++x::l.drop n)[i]?=if i<n then l[i]? else if i=n then some x else l[i-1]?:=by
 split
 ·rename_i hi
  rw [List.getElem?_append_left (by rw [List.length_take];omega),List.getElem?_take_of_lt hi]
 ·rename_i hi
  rw [List.getElem?_append_right (by rw [List.length_take];omega),List.length_take,Nat.min_eq_left hn]
  split
  ·rename_i h;subst h;simp
  ·rename_i h
   rw [show i-n=(i-n-1)+1 by omega,List.getElem?_cons_succ,List.getElem?_drop]
   congr 1;omega
def Env.ins(n:Nat)(x:Nat × Nat × Nat)(e:Env):Env:=⟨e.bl.take n++x::e.bl.drop n,e.tx⟩
theorem Env.ins_get{n:Nat}{x:Nat × Nat × Nat}(hn:n≤e.bl.length){b:Nat}{y:Nat × Nat × Nat}(hb:e.bl[b]?=some y):(e.ins n x).bl[if b<n then b else b+1]?=some y:=by
 simp only [Env.ins]
 rw [Go.Proofs.YthekdeikodppkaaGreatDoor.ins_get _ _ _ hn]
 by_cases h:b<n
 ·rw [if_pos h,if_pos h];exact hb
 ·rw [if_neg h,if_neg (by omega),if_neg (by omega)]
  simpa using hb
mutual
theorem VR.up{n:Nat}{x:Nat × Nat × Nat}(hn:n≤e.bl.length):∀ (a:AV) (v:Value),VR F e a v→VR F (e.ins n x) (a.up n) v
 | .lit u,v,hv=>hv
 | .txt t,v,hv=>⟨ok_tx (e:=e) (e':=e.ins n x) rfl t hv.1,by rw [den_tx (e:=e) (e':=e.ins n x) rfl t];exact hv.2⟩
 | .ptr b o,v,hv=>by
  obtain ⟨B,k,m,hb,hv⟩:=hv
  exact ⟨B,k,m,Env.ins_get hn hb,hv⟩
 | .slc b o len cap es,v,hv=>by
  obtain ⟨B,k,m,c',o',hb,hv⟩:=hv
  exact ⟨B,k,m,c',o',Env.ins_get hn hb,hv⟩
 | .agg cs,v,hv=>by
  obtain ⟨a,hv,hs⟩:=hv
  exact ⟨a,hv,VRs.up hn cs a hs⟩
 | .tup cs,v,hv=>by
  obtain ⟨a,hv,hs⟩:=hv
  exact ⟨a,hv,VRs.up hn cs a hs⟩
 | .fn f y z,v,hv=>by
  obtain ⟨a,b,hv,hs,hs2⟩:=hv
  exact ⟨a,b,hv,VRs.up hn y a hs,VRs.up hn z b hs2⟩
 | .map b,v,hv=>by
  obtain ⟨B,k,m,hb,hv⟩:=hv
  exact ⟨B,k,m,Env.ins_get hn hb,hv⟩
theorem VRs.up{n:Nat}{x:Nat × Nat × Nat}(hn:n≤e.bl.length):∀ (a:List AV) (v:List Value),VRs F e a v→VRs F (e.ins n x) (avsUp n a) v
 | [],l,hl=>hl
 | a::az,l,hl=>by
  obtain ⟨v,l',hl,h1,h2⟩:=hl
  exact ⟨v,l',hl,VR.up hn a v h1,VRs.up hn az l' h2⟩
end
theorem avsUp_length(n:Nat):∀ l:List AV,(avsUp n l).length=l.length
 | []=>rfl
 | a::l=>by simp [avsUp,avsUp_length n l]
theorem avsUp_map(n:Nat):∀ l:List AV,avsUp n l=l.map (AV.up n)
 | []=>rfl
 | a::l=>by simp [avsUp,avsUp_map n l]
theorem OR.up{n:Nat}{y x:Nat × Nat × Nat}(hn:n≤e.bl.length):∀ {o:AO},OR F e w x o→OR F (e.ins n y) w x (o.up n)
 | .dead,_=>trivial
 | .cells cs,⟨cur,t,fz,h1,h2,h3,vs,h4,h5⟩=>⟨cur,t,fz,h1,h2,h3,vs,VRs.up hn _ _ h4,by rw [avsUp_length];exact h5⟩
 | .map es clock,⟨ms,h1,h2,h3,h4⟩=>by
  refine ⟨ms,h1,?_,?_,h4⟩
  ·have:=VRs.up (x:=y) hn _ _ h2
   rw [avsUp_map] at this
   simpa [List.map_map,Function.comp_def] using this
  ·have:=VRs.up (x:=y) hn _ _ h3
   rw [avsUp_map] at this
   simpa [List.map_map,Function.comp_def] using this
theorem AO.up_live(n:Nat)(o:AO):(o.up n).live=o.live:=by cases o <;> rfl
theorem HR.ins(H:HR F e w0 w h){o:Obj}{ao:AO}{n k m:Nat}(hn:n≤h.bs.length)(ho:OR F (e.ins n (w.heap.size,k,m)) (w.alloc o) (w.heap.size,k,m) ao) :
 HR F (e.ins n (w.heap.size,k,m)) w0 (w.alloc o) (h.ins n ao):=by
 have hl:=H.len
 have hne:n≤e.bl.length:=by omega
 have hold:∀ j,j<w.heap.size→(w.alloc o).heap[j]?=w.heap[j]?:=fun j hj=>Below.heap_alloc _ _ _ hj
 have hsz:(w.alloc o).heap.size=w.heap.size+1:=by simp
 have key:∀ (i:Nat) (p:AO) (x:Nat × Nat × Nat),(h.ins n ao).bs[i]?=some p→(e.ins n (w.heap.size,k,m)).bl[i]?=some x→p.live=true →
  (i=n∧p=ao∧x=(w.heap.size,k,m))∨(i≠n∧∃ q,p=q.up n∧h.bs[if i<n then i else i-1]?=some q∧e.bl[if i<n then i else i-1]?=some x∧q.live=true):=by
  intro i p x h1 h2 h3
  simp only [AH.ins] at h1
  rw [Go.Proofs.YthekdeikodppkaaGreatDoor.ins_get _ _ _ (by simpa using hn)] at h1
  simp only [Env.ins] at h2
  rw [Go.Proofs.YthekdeikodppkaaGreatDoor.ins_get _ _ _ hne] at h2
  by_cases hi:i<n
  ·rw [if_pos hi] at h1 h2 ⊢
   simp only [List.getElem?_map,Option.map_eq_some_iff] at h1
   obtain ⟨q,hq,rfl⟩:=h1
   exact .inr ⟨by omega,q,rfl,hq,h2,by rw [AO.up_live] at h3;exact h3⟩
  ·rw [if_neg hi] at h1 h2 ⊢
   by_cases hin:i=n
   ·rw [if_pos hin] at h1 h2
    cases h1;cases h2
    exact .inl ⟨hin,rfl,rfl⟩
   ·rw [if_neg hin] at h1 h2
    simp only [List.getElem?_map,Option.map_eq_some_iff] at h1
    obtain ⟨q,hq,rfl⟩:=h1
    exact .inr ⟨hin,q,rfl,hq,h2,by rw [AO.up_live] at h3;exact h3⟩
 refine ⟨H.below.alloc H.below' o,?_,H.nv,?_,?_⟩
 ·simp only [AH.ins,Env.ins,lJ,List.length_take,List.length_cons,List.length_drop,List.length_map]
  omega
 ·intro i p x h1 h2 h3
  rcases key i p x h1 h2 h3 with ⟨_,rfl,rfl⟩ | ⟨_,q,rfl,g1,g2,g3⟩
  ·exact ⟨H.below',by simp,ho⟩
  ·obtain ⟨q1,q2,q3⟩:=H.objs _ q x g1 g2 g3
   exact ⟨q1,by omega,(q3.up hne).of_heap (hold _ q2)⟩
 ·intro i j o1 o2 x y hij h1 h2 l1 l2 b1 b2
  rcases key i o1 x h1 b1 l1 with ⟨a1,rfl,rfl⟩ | ⟨a1,q,rfl,a2,a3,a4⟩ <;> rcases key j o2 y h2 b2 l2 with ⟨c1,rfl,rfl⟩ | ⟨c1,q',rfl,c2,c3,c4⟩
  ·omega
  ·have:=(H.objs _ q' y c2 c3 c4).2.1;simp only;omega
  ·have:=(H.objs _ q x a2 a3 a4).2.1;simp only;omega
  ·refine H.inj _ _ q q' x y ?_ a2 c2 a4 c4 a3 c3
   by_cases hi:i<n <;> by_cases hj:j<n <;> simp only [hi,hj,if_true,if_false] <;> omega
end
end
noncomputable section
def ancF(acc:List (List Nat))(o:Oper):List Nat:=
 o.after.toList.foldl (fun s e=>if Region.binds .any e then (e.on::acc.getD e.on []).foldl (fun s x=>if s.contains x then s else x::s) s else s) []
theorem ancsOf_cons(acc:List (List Nat))(o:Oper)(r:List Oper):Qv acc (o::r)=Qv (acc++[ancF acc o]) r:=rfl
theorem ancsOf_prefix:∀ (r:List Oper) (acc:List (List Nat)),∃ t,Qv acc r=acc++t∧t.length=r.length
 | [],acc=>⟨[],by simp [Qv]⟩
 | o::r,acc=>by
  obtain ⟨t,ht,hl⟩:=ancsOf_prefix r (acc++[ancF acc o])
  exact ⟨ancF acc o::t,by rw [ancsOf_cons,ht];simp,by simp [hl]⟩
theorem ancsOf_get:∀ (r:List Oper) (acc:List (List Nat)) (k:Nat) (o:Oper),r[k]?=some o→(Qv acc r)[acc.length+k]?=some (ancF ((Qv acc r).take (acc.length+k)) o)
 | [],_,_,_,h=>by simp at h
 | o::r,acc,0,o',h=>by
  simp at h;subst h
  obtain ⟨t,ht,hl⟩:=ancsOf_prefix r (acc++[ancF acc o])
  rw [ancsOf_cons,ht]
  simp
 | o::r,acc,k+1,o',h=>by
  have:=ancsOf_get r (acc++[ancF acc o]) k o' (by simpa using h)
  rw [ancsOf_cons]
  simp only [lJ,List.length_cons,List.length_nil,Nat.zero_add] at this
  rw [show acc.length+(k+1)=acc.length+1+k by omega]
  exact this
theorem mem_foldl_ins(l:List Nat):∀ (s:List Nat) (x:Nat),x∈l.foldl (fun s x=>if s.contains x then s else x::s) s→x∈s∨x∈l:=by
 induction l with
 | nil=>intro s x h;exact .inl h
 | cons a l ih=>
  intro s x h
  rcases ih _ _ h with h | h
  ·dsimp only at h
   split at h
   ·exact .inl h
   ·rcases List.mem_cons.1 h with rfl | h
    ·exact .inr (by simp)
    ·exact .inl h
  ·exact .inr (by simp [h])
theorem mem_ancF(acc:List (List Nat)):∀ (es:List Edge) (s:List Nat) (x:Nat),x∈es.foldl (fun s e=>if Region.binds .any e then (e.on::acc.getD e.on []).foldl (fun s x=>if s.contains x then s else x::s) s else s) s →
 x∈s∨∃ e∈es,Region.binds .any e=true∧(x=e.on∨x∈acc.getD e.on []):=by
 intro es
 induction es with
 | nil=>intro s x h;exact .inl h
 | cons e es ih=>
  intro s x h
  rw [List.foldl_cons] at h
  rcases ih _ _ h with h | ⟨e',h1,h2,h3⟩
  ·split at h
   ·rename_i hb
    rcases mem_foldl_ins _ _ _ h with h | h
    ·exact .inl h
    ·rcases List.mem_cons.1 h with h | h
     ·exact .inr ⟨e,by simp,hb,.inl h⟩
     ·exact .inr ⟨e,by simp,hb,.inr h⟩
   ·exact .inl h
  ·exact .inr ⟨e',by simp [h1],h2,h3⟩
section
variable {ops:Array Oper}
theorem ancs_spec{i:Nat}{o:Oper}(ho:ops.toList[i]?=some o)(hlt:∀ e∈o.after.toList,Region.binds .any e=true→e.on<i){x:Nat}(hx:x∈(Qv [] ops.toList).getD i []) :
 ∃ e∈o.after.toList,Region.binds .any e=true∧(x=e.on∨x∈(Qv [] ops.toList).getD e.on []):=by
 have:=ancsOf_get ops.toList [] i o ho
 simp only [List.length_nil,Nat.zero_add] at this
 rw [List.getD_eq_getElem?_getD,this] at hx
 simp only [Option.getD_some] at hx
 rcases mem_ancF _ _ _ _ hx with h | ⟨e,h1,h2,h3⟩
 ·cases h
 ·refine ⟨e,h1,h2,h3.imp id fun h=>?_⟩
  rw [List.getD_eq_getElem?_getD,List.getElem?_take_of_lt (hlt e h1 h2)] at h
  rw [List.getD_eq_getElem?_getD]
  exact h
structure TextOk (ops:Array Oper) (ancs:List (List Nat)):Prop where
 noSel:∀ (j:Nat) (o:Oper),ops.toList[j]?=some o→∀ cs b,o.op≠.select cs b
 back:∀ (j:Nat) (o:Oper),ops.toList[j]?=some o→∀ e∈o.after.toList,Region.binds .any e=true→e.on<j
 self:∀ (j:Nat) (o:Oper) (d:Tmp),ops.toList[j]?=some o→o.dst=some d→d ∉ o.looksAt ops
 uniq:∀ (j k:Nat) (o o':Oper) (d:Tmp),ops.toList[j]?=some o→ops.toList[k]?=some o'→o'.dst=some d→k≠j→o.dst≠some d
 reads:∀ (j k:Nat) (o o':Oper) (d:Tmp),ops.toList[j]?=some o→ops.toList[k]?=some o'→o'.dst=some d→k≠j→d∈o.looksAt ops→(k<j→k∈ancs.getD j [])∧(j<k→j∈ancs.getD k [])
theorem textOk_spec{ancs:List (List Nat)}(h:textOk ancs ops=true):TextOk ops ancs:=by
 have key:∀ (j:Nat) (o:Oper),ops.toList[j]?=some o→(∀ cs b,o.op≠.select cs b)∧(∀ e∈o.after.toList,Region.binds .any e=true→e.on<j) ∧
  ∀ (k:Nat) (o':Oper) (d:Tmp),ops.toList[k]?=some o'→o'.dst=some d→(k=j→d ∉ o.looksAt ops)∧(k≠j→o.dst≠some d∧(d∈o.looksAt ops→(k<j→k∈ancs.getD j [])∧(j<k→j∈ancs.getD k []))):=by
  intro j o ho
  have hj:j<ops.toList.length:=(gJ ho).1
  unfold textOk at h
  have h1:=List.all_eq_true.1 h j (List.mem_range.2 hj)
  rw [ho] at h1
  simp only [Bool.and_eq_true] at h1
  obtain ⟨⟨ha,hb⟩,hc⟩:=h1
  refine ⟨fun cs b e=>?_,fun e he hbd=>?_,fun k o' d ho' hd=>?_⟩
  ·rw [e] at ha;cases ha
  ·have:=List.all_eq_true.1 hb e he
   rw [hbd] at this
   simpa using this
  ·have hk:k<ops.toList.length:=(gJ ho').1
   have h2:=List.all_eq_true.1 hc k (List.mem_range.2 hk)
   rw [ho'] at h2
   simp only [hd] at h2
   refine ⟨fun e=>?_,fun e=>?_⟩
   ·rw [if_pos e] at h2
    simpa using h2
   ·rw [if_neg e] at h2
    simp only [Bool.and_eq_true,Bool.or_eq_true,Bool.not_eq_true'] at h2
    refine ⟨fun e2=>?_,fun hl=>⟨fun hkj=>?_,fun hjk=>?_⟩⟩
    ·rw [e2] at h2
     simp at h2
    ·rcases h2.2 with h3 | h3
     ·rw [List.contains_iff_mem.2 hl] at h3;cases h3
     ·rw [if_pos hkj] at h3;exact List.contains_iff_mem.1 h3
    ·rcases h2.2 with h3 | h3
     ·rw [List.contains_iff_mem.2 hl] at h3;cases h3
     ·rw [if_neg (by omega)] at h3;exact List.contains_iff_mem.1 h3
 exact ⟨fun j o ho=>(key j o ho).1,fun j o ho=>(key j o ho).2.1,fun j o d ho hd=>((key j o ho).2.2 j o d ho hd).1 rfl,
  fun j k o o' d ho ho' hd hne=>(((key j o ho).2.2 k o' d ho' hd).2 hne).1,fun j k o o' d ho ho' hd hne hl=>(((key j o ho).2.2 k o' d ho' hd).2 hne).2 hl⟩
end
def frm:List Oper→List AV→Fr→Nat→Fr
 | _,_,tm,0=>tm
 | o::r,v::vs,tm,k+1=>frm r vs (aput tm o.dst v) k
 | _,_,tm,_=>tm
section
variable {P:Program} {call:Jq} {ops:Array Oper} {ancs:List (List Nat)} {cs:List Nat} {flt:Option Nat} {on:Option AV}
def WayFact(P:Program)(call:Jq)(ops:Array Oper)(cs:List Nat)(G:List AH)(i:Nat)(o:Oper)(f:Fr)(v:AV):Prop:=
 (awanted ops f o=true∧cls P o.op=2∧∃ q g g',cs[q]?=some i∧G[q]?=some g∧G[q+1]?=some g'∧aDo P call (evOf f) o g=.ok (v,g')) ∨
 (awanted ops f o=true∧cls P o.op=1) ∨
 (awanted ops f o=true∧cls P o.op≠1∧cls P o.op≠2∧aPure P (evOf f) o=some v) ∨
 (awanted ops f o=false∧v=.tup []∧(i∈cs→∃ q g,cs[q]?=some i∧G[q]?=some g∧G[q+1]?=some g))
theorem WayFact.grow{G G':List AH}{i:Nat}{o:Oper}{f:Fr}{v:AV}(h:WayFact P call ops cs G i o f v)(hG:∃ t,G'=G++t):WayFact P call ops cs G' i o f v:=by
 obtain ⟨t,rfl⟩:=hG
 have gr:∀ {q:Nat} {g:AH},G[q]?=some g→(G++t)[q]?=some g:=fun hg=>by
  rw [List.getElem?_append_left (gJ hg).1];exact hg
 rcases h with ⟨h1,h2,q,g,g',h3,h4,h5,h6⟩ | h | h | ⟨h1,h2,h3⟩
 ·exact .inl ⟨h1,h2,q,g,g',h3,gr h4,gr h5,h6⟩
 ·exact .inr (.inl h)
 ·exact .inr (.inr (.inl h))
 ·refine .inr (.inr (.inr ⟨h1,h2,fun hi=>?_⟩))
  obtain ⟨q,g,g1,g2,g3⟩:=h3 hi
  exact ⟨q,g,g1,gr g2,gr g3⟩
theorem last_get{gs:List AH}{g:AH}(h:gs.getLast? = some g):0<gs.length∧gs[gs.length-1]?=some g:=by
 rw [List.getLast?_eq_getElem?] at h
 exact ⟨by have:=(gJ h).1;omega,h⟩
theorem aWay_spec:∀ (r:List Oper) (i:Nat) (tm:Fr) (vals:List AV) (gs:List AH) (V:List AV) (G:List AH),aWay P call ops ancs cs flt on i r tm vals gs=.ok (V,G) →
 ∃ vs,V=vals++vs∧vs.length=r.length∧(∃ t,G=gs++t) ∧
  ∀ k o v,r[k]?=some o→vs[k]?=some v→(flt=some (i+k)→v=on.getD (.tup []))∧((flt=some (i+k)∧v=on.getD (.tup []))∨lefts ancs flt on (i+k)=true∨WayFact P call ops cs G (i+k) o (mk (o.looksAt ops) (frm r vs tm k)) v)
 | [],i,tm,vals,gs,V,G,h=>by
  cases h
  exact ⟨[],by simp,rfl,⟨[],by simp⟩,fun k o v hk=>by simp at hk⟩
 | o::r,i,tm,vals,gs,V,G,h=>by
  have step:∀ (v:AV) (gs':List AH),(∃ t,gs'=gs++t)→aWay P call ops ancs cs flt on (i+1) r (aput tm o.dst v) (vals++[v]) gs'=.ok (V,G) →
   ((flt=some i→v=on.getD (.tup []))∧((flt=some i∧v=on.getD (.tup []))∨lefts ancs flt on i=true∨WayFact P call ops cs gs' i o (mk (o.looksAt ops) tm) v)) →
   ∃ vs,V=vals++vs∧vs.length=(o::r).length∧(∃ t,G=gs++t) ∧
   ∀ k o' v,(o::r)[k]?=some o'→vs[k]?=some v→(flt=some (i+k)→v=on.getD (.tup []))∧((flt=some (i+k)∧v=on.getD (.tup []))∨lefts ancs flt on (i+k)=true∨WayFact P call ops cs G (i+k) o' (mk (o'.looksAt ops) (frm (o::r) vs tm k)) v):=by
   rintro v gs' ⟨t,rfl⟩ hr h0
   obtain ⟨vs,hV,hl,⟨t',hG⟩,hk⟩:=aWay_spec r (i+1) _ _ _ _ _ hr
   refine ⟨v::vs,by rw [hV];simp,by simp [hl],⟨t++t',by rw [hG];simp⟩,fun k o' v' ho' hv'=>?_⟩
   cases k with
   | zero=>
    simp at ho' hv'
    subst ho';subst hv'
    exact ⟨h0.1,h0.2.imp id fun h=>h.imp id fun h=>h.grow ⟨t',hG⟩⟩
   | succ k=>
    have:=hk k o' v' (by simpa using ho') (by simpa using hv')
    rw [show i+1+k=i+(k+1) by omega] at this
    exact this
  unfold aWay at h
  simp only [fput_eq] at h
  split at h
  ·rename_i hf
   exact step _ gs ⟨[],by simp⟩ h ⟨fun _=>rfl,.inl ⟨hf,rfl⟩⟩
  ·rename_i hnf
   split at h
   ·rename_i hlf
    exact step _ gs ⟨[],by simp⟩ h ⟨fun h=>absurd h hnf,.inr (.inl hlf)⟩
   ·split at h
    ·rename_i hw
     split at h
     ·rename_i hc
      split at h
      ·rename_i hq
       split at h
       ·rename_i g hg
        split at h
        ·rename_i v g' hdo
         obtain ⟨hp,hg⟩:=last_get hg
         refine step v (gs++[g']) ⟨[g'],rfl⟩ h ⟨fun h=>absurd h hnf,.inr (.inr (.inl ⟨hw,hc,gs.length-1,g,g',hq,?_,?_,hdo⟩))⟩
         ·rw [List.getElem?_append_left (by omega)];exact hg
         ·rw [show gs.length-1+1=gs.length by omega];simp
        ·cases h
       ·cases h
      ·cases h
     ·rename_i hc2
      split at h
      ·rename_i hc
       split at h
       ·split at h
        ·rename_i v _ hop
         exact step v gs ⟨[],by simp⟩ h ⟨fun h=>absurd h hnf,.inr (.inr (.inr (.inl ⟨hw,hc⟩)))⟩
        ·cases h
       ·cases h
      ·rename_i hc1
       split at h
       ·rename_i v hp
        exact step v gs ⟨[],by simp⟩ h ⟨fun h=>absurd h hnf,.inr (.inr (.inr (.inr (.inl ⟨hw,hc1,hc2,hp⟩))))⟩
       ·cases h
    ·rename_i hw
     have hw:awanted ops (mk (o.looksAt ops) tm) o=false:=by simpa using hw
     split at h
     ·rename_i hi
      split at h
      ·rename_i hq
       split at h
       ·rename_i g hg
        obtain ⟨hp,hg⟩:=last_get hg
        refine step _ (gs++[g]) ⟨[g],rfl⟩ h ⟨fun h=>absurd h hnf,.inr (.inr (.inr (.inr (.inr ⟨hw,rfl,fun _=>⟨gs.length-1,g,hq,?_,?_⟩⟩))))⟩
        ·rw [List.getElem?_append_left (by omega)];exact hg
        ·rw [show gs.length-1+1=gs.length by omega];simp
       ·cases h
      ·cases h
     ·rename_i hi
      exact step _ gs ⟨[],by simp⟩ h ⟨fun h=>absurd h hnf,.inr (.inr (.inr (.inr (.inr ⟨hw,rfl,fun hm=>absurd (List.contains_iff_mem.2 hm) hi⟩))))⟩
theorem aSure_spec{G:List AH}:∀ (r:List Oper) (i:Nat) (tm:Fr) (vs:List AV),aSure P ops ancs cs flt on G i r tm vs=true→∀ k o v,r[k]?=some o→vs[k]?=some v→flt≠some (i+k)→lefts ancs flt on (i+k)=false →
 awanted ops (mk (o.looksAt ops) (frm r vs tm k)) o=true→cls P o.op=1→∀ m g,G[m]?=some g→aMay ancs cs (i+k) m=true→∃ h',aOp P (evOf (mk (o.looksAt ops) (frm r vs tm k))) o g=some (.val v h')
 | [],_,_,_,_,k,o,v,hk,_,_,_,_,_,_,_,_,_=>by simp at hk
 | _::_,_,_,[],_,k,o,v,_,hv,_,_,_,_,_,_,_,_=>by simp at hv
 | o::r,i,tm,v::vs,h,k,o',v',hk,hv,hf,hl,hw,hc,m,g,hg,hm=>by
  unfold aSure at h
  simp only [fput_eq,Bool.and_eq_true] at h
  cases k with
  | zero=>
   simp at hk hv
   subst hk;subst hv
   simp only [Nat.add_zero] at hf hl hm
   simp only [frm] at hw ⊢
   have h1:=h.1
   simp only [hw,hc,hl,Bool.or_eq_true,Bool.not_eq_true',Bool.and_eq_false_iff] at h1
   rcases h1 with ((h1 | h1) | h1) | h1
   ·exact absurd (by simpa using h1) hf
   ·cases h1
   ·simp at h1
   ·have:=List.all_eq_true.1 h1 m (List.mem_range.2 (gJ hg).1)
    simp only [hm,Bool.not_true,Bool.false_or,hg] at this
    split at this
    ·rename_i u h' hop
     rw [AV.eq_of_beq this] at hop
     exact ⟨h',hop⟩
    ·cases this
  | succ k=>
   have:=aSure_spec r (i+1) _ vs h.2 k o' v' (by simpa using hk) (by simpa using hv) (by rw [show i+1+k=i+(k+1) by omega];exact hf) (by rw [show i+1+k=i+(k+1) by omega];exact hl) hw hc m g hg (by rw [show i+1+k=i+(k+1) by omega];exact hm)
   exact this
end
end
end Go.Proofs.YthekdeikodppkaaGreatDoor
