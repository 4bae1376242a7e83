/-
  Texts of this claim, one behind the other: As XCalm; As XTrk; Regions with late stores; A call that changes what there is, in a region that draws its order; What comes in, read.
-/
import Derived.Test.YthekdeikodppkaaGreatDoorKb4
import Derived.ProofKit
import Derived.Deep.Slices
import Derived.SizedLaws
import Derived.Lib.SmallJoins
set_option linter.unusedVariables false
namespace Go.Proofs.YthekdeikodppkaaGreatDoor.Trk
open Go.RowKit
def trk(tw:List Nat)(i:Nat)(v:Value)(σ:Sig):Sig:=if i∈tw then σ.upd i v else σ
def Calm1(P:Program)(S:Sig→World→Prop)(tw:List Nat)(i:Nat)(o:Oper)(a:Act)(v:Value):Prop:=
 ∀ σ w,S σ w→(i∈tw→σ i=none)→∀ (K:Act→World→Prop) (Q:Exit→Act→World→Prop),(∀ w',S (trk tw i v σ) w'→K (a.put o.dst v) w')→o.wp P a w K Q
def calm(P:Program)(ops:Array Oper)(S:Sig→World→Prop)(nw tw:List Nat)(R:Act→Prop):Nat→List Oper→Act→Prop
 | _,[],a=>R a
 | i,o::rest,a=>(i∈nw∧New1 P S i o a∧calm P ops S nw tw R (i+1) rest a) ∨
  (i ∉ nw∧Region.wanted o (yielded ops a.tmps)=true∧∃ v,Calm1 P S tw i o a v∧calm P ops S nw tw R (i+1) rest (a.put o.dst v)) ∨
  (i ∉ nw∧Region.wanted o (yielded ops a.tmps)=false∧calm P ops S nw tw R (i+1) rest (a.put o.dst undef))
section
variable {P:Program} {ops:Array Oper} {S:Sig→World→Prop} {nw tw:List Nat} {R:Act→Prop} {a:Act} {o:Oper} {rest:List Oper} {i:Nat}
theorem calm_nil(h:R a):calm P ops S nw tw R i [] a:=h
theorem calm_step(v:Value)(hi:i ∉ nw)(hw:Region.wanted o (yielded ops a.tmps)=true)
 (h1:∀ σ w,S σ w→(i∈tw→σ i=none)→∀ (K:Act→World→Prop) (Q:Exit→Act→World→Prop),(∀ w',S (trk tw i v σ) w'→K (a.put o.dst v) w')→o.wp P a w K Q) (h:calm P ops S nw tw R (i+1) rest (a.put o.dst v)):calm P ops S nw tw R i (o::rest) a:=.inr (.inl ⟨hi,hw,v,h1,h⟩)
theorem calm_skip(hi:i ∉ nw)(hw:Region.wanted o (yielded ops a.tmps)=false)
 (h:calm P ops S nw tw R (i+1) rest (a.put o.dst undef)):calm P ops S nw tw R i (o::rest) a:=.inr (.inr ⟨hi,hw,h⟩)
theorem calm_new(hi:i∈nw)
 (h1:∀ σ w,S σ w→∀ (K:Act→World→Prop) (Q:Exit→Act→World→Prop),(∀ v w',S (σ.upd i v) w'→K (a.put o.dst v) w')→o.wp P a w K Q) (h:calm P ops S nw tw R (i+1) rest a):calm P ops S nw tw R i (o::rest) a:=.inl ⟨hi,h1,h⟩
end
section
variable {P:Program} {ops:Array Oper} {S:Sig→World→Prop} {nw tw:List Nat}
theorem calm_frames{R:Act→Prop}:∀ (l:List Oper) (i:Nat) (a:Act),calm P ops S nw tw R i l a →
 ∃ vs:List Value,vs.length=l.length∧R (Qs ((dets nw i l).zip vs) a) ∧
  ∀ k o,l[k]?=some o→∃ v,vs[k]?=some v ∧
   ((i+k∈nw∧New1 P S (i+k) o (Qs (((dets nw i l).zip vs).take k) a)) ∨
    (i+k ∉ nw∧Region.wanted o (yielded ops (Qs (((dets nw i l).zip vs).take k) a).tmps)=true∧Calm1 P S tw (i+k) o (Qs (((dets nw i l).zip vs).take k) a) v) ∨
    (i+k ∉ nw∧Region.wanted o (yielded ops (Qs (((dets nw i l).zip vs).take k) a).tmps)=false∧v=undef)):=by
 intro l
 induction l with
 | nil=>intro i a h;exact ⟨[],rfl,h,fun k o hk=>by simp at hk⟩
 | cons o l ih=>
  intro i a h
  have step:∀ (v:Value) (a':Act),a'=a.put (if i∈nw then none else o.dst) v→calm P ops S nw tw R (i+1) l a' →
   ((i∈nw∧New1 P S i o a)∨(i ∉ nw∧Region.wanted o (yielded ops a.tmps)=true∧Calm1 P S tw i o a v)∨(i ∉ nw∧Region.wanted o (yielded ops a.tmps)=false∧v=undef))→∃ vs:List Value,vs.length=(o::l).length∧R (Qs ((dets nw i (o::l)).zip vs) a) ∧
   ∀ k o',(o::l)[k]?=some o'→∃ v,vs[k]?=some v ∧
    ((i+k∈nw∧New1 P S (i+k) o' (Qs (((dets nw i (o::l)).zip vs).take k) a)) ∨
     (i+k ∉ nw∧Region.wanted o' (yielded ops (Qs (((dets nw i (o::l)).zip vs).take k) a).tmps)=true∧Calm1 P S tw (i+k) o' (Qs (((dets nw i (o::l)).zip vs).take k) a) v) ∨
     (i+k ∉ nw∧Region.wanted o' (yielded ops (Qs (((dets nw i (o::l)).zip vs).take k) a).tmps)=false∧v=undef)):=by
   intro v a' ha hc h0
   obtain ⟨vs,hl,hR,hk⟩:=ih _ _ hc
   refine ⟨v::vs,by simp [hl],by rw [ha] at hR;exact hR,fun k o' hk'=>?_⟩
   cases k with
   | zero=>simp at hk';subst hk';exact ⟨v,rfl,h0⟩
   | succ k=>
    have:=hk k o' (by simpa using hk')
    rw [ha,show i+1+k=i+(k+1) by omega] at this
    exact this
  rcases h with ⟨hi,h1,h2⟩ | ⟨hi,hw,v,h1,h2⟩ | ⟨hi,hw,h2⟩
  ·exact step undef a (by rw [if_pos hi];rfl) h2 (.inl ⟨hi,h1⟩)
  ·exact step v _ (by rw [if_neg hi]) h2 (.inr (.inl ⟨hi,hw,h1⟩))
  ·exact step undef _ (by rw [if_neg hi]) h2 (.inr (.inr ⟨hi,hw,rfl⟩))
theorem Calm1.at{tw:List Nat}{i:Nat}{o:Oper}{a a':Act}{v:Value}(h:Calm1 P S tw i o a v)(he:execOp a'.eval o=execOp a.eval o)(hs:a.tmps.size=a'.tmps.size){σ:Sig}{w:World}(hw:S σ w)(hfr:i∈tw→σ i=none)
 (K:Act→World→Prop) (Q:Exit→Act→World→Prop) (hK:∀ w',S (trk tw i v σ) w'→K (a'.put o.dst v) w'):o.wp P a' w K Q:=by
 have h1:=h σ w hw hfr (fun a1 w1=>a1=a.put o.dst v∧S (trk tw i v σ) w1) (fun _ _ _=>False) (fun w' hw'=>⟨rfl,hw'⟩)
 unfold Oper.wp at *
 rw [he]
 generalize (execOp a.eval o).run P w=r at *
 cases r with
 | ok n w'=>
  cases n <;> simp only [Oper.upon] at h1 ⊢
  case value u=>rw [Vd hs h1.1];exact hK _ h1.2
  case skip=>rw [Vd hs h1.1];exact hK _ h1.2
  case defer d=>
   have:=congrArg (fun x=>x.defers.length) h1.1
   cases hd:o.dst <;> simp [Act.put,hd] at this
  case enter f args=>
   refine Calls.mono h1 fun e w'' he=>?_
   cases e with
   | returned u=>
    show K (a'.put o.dst u) w''
    rw [Vd hs he.1];exact hK _ he.2
   | panicked c=>exact he.elim
   | outgrown=>obtain ⟨_,_,hh⟩:=he;exact hh.elim
  case row row args=>exact Rows.mono h1 fun u w'' he=>by rw [Vd hs he.1];exact hK _ he.2
 | halt x w'=>cases x <;> simp only [Oper.upon] at h1 ⊢
theorem wpAny_new{Q:Exit→Act→World→Prop}{a a0:Act}{w:World}{l:List Oper}(S:Sig→World→Prop)(n:Nat)(nw tw:List Nat)(pre:List Nat)(htw:∀ k∈tw,k<n∧k ∉ nw∧k ∉ pre∧∀ o,l[k]?=some o→o.guard=none)(hok:calmOk l.toArray n nw pre=true)(hS:S Sig.no w)
 (h:calm P l.toArray S nw tw (fun a'=>∀ σ w',(∀ k∈nw,(σ k).isSome=true)→(∀ k∈tw,(σ k).isSome=true)→S σ w'→wpList P l.toArray Q (l.drop n) (Jx l nw σ a') w') 0 (l.take n) a)
 (listed0:Array Bool) (hs0:listed0.size=l.length) (hl0:∀ k,k<l.length→listed0.getD k true=true→k∈pre) (hp0:∀ p∈pre,listed0.getD p true=true)
 (ha0:PreRun P l pre a a0) :
 wpAny P .any l.toArray Q (left listed0) listed0 a0 w:=by
 have g:=good_of hok
 have hnl:n≤l.length:=by simpa using g.le
 obtain ⟨vs,hvl,hR,hk⟩:=calm_frames _ _ _ h
 have hvn:vs.length=n:=by simp [hvl,hnl]
 obtain ⟨D,hD⟩:∃ D,(dets nw 0 (l.take n)).zip vs=D:=⟨_,rfl⟩
 rw [hD] at hR hk
 simp only [Nat.zero_add] at hk
 have hDl:D.length=n:=by rw [← hD];simp [dets_length,hvn,hnl]
 have hget:∀ k,k<n→(dets nw 0 (l.take n))[k]?=(l[k]?).map fun o=>if k∈nw then none else o.dst:=by
  intro k hk
  rw [dets_get]
  simp [hk]
 have hDk:∀ (k:Nat) (o:Oper) (v:Value),k<n→k ∉ nw→l[k]?=some o→vs[k]?=some v→D[k]?=some (o.dst,v):=by
  intro k o v hkn hnk ho hv
  rw [← hD,List.getElem?_zip_eq_some]
  refine ⟨?_,hv⟩
  rw [hget k hkn,ho]
  simp [hnk]
 have hDd:∀ (k:Nat) (t:Tmp) (v:Value),D[k]?=some (some t,v)→k<n∧k ∉ nw∧∃ o,l[k]?=some o∧o.dst=some t:=by
  intro k t v hk
  have hkn:k<n:=by rw [← hDl];exact (gJ hk).1
  rw [← hD,List.getElem?_zip_eq_some] at hk
  obtain ⟨h1,_⟩:=hk
  rw [hget k hkn,Option.map_eq_some_iff] at h1
  obtain ⟨o,ho,hd⟩:=h1
  by_cases hnk:k∈nw
  ·simp [hnk] at hd
  ·rw [if_neg hnk] at hd
   exact ⟨hkn,hnk,o,ho,hd⟩
 have huniq:∀ (j k:Nat) (t:Tmp) (u v:Value),k≠j→D[k]?=some (some t,u)→D[j]? ≠ some (some t,v):=by
  intro j k t u v hkj h1 h2
  obtain ⟨hkn,_,ok,hok',hdk⟩:=hDd k _ u h1
  obtain ⟨hjn,_,oj,hoj,hdj⟩:=hDd j _ v h2
  exact (g.pair k j ok oj t hkn hjn hkj (by simpa using hok') (by simpa using hoj) hdk).1 hdj
 obtain ⟨F,hF⟩:∃ F:Sig→Nat→Option (Option Tmp × Value),∀ σ k,F σ k=if k∈nw then (l[k]?).map fun o=>(o.dst,(σ k).getD undef) else D[k]?:=⟨_,fun _ _=>rfl⟩
 have hFd:∀ (σ:Sig) (k:Nat) (t:Tmp) (v:Value),F σ k=some (some t,v)→k<n∧∃ o,l[k]?=some o∧o.dst=some t:=by
  intro σ k t v hk
  rw [hF] at hk
  by_cases hnk:k∈nw
  ·rw [if_pos hnk,Option.map_eq_some_iff] at hk
   obtain ⟨o,ho,hd⟩:=hk
   exact ⟨g.newLt k hnk,o,ho,by simp at hd;exact hd.1⟩
  ·rw [if_neg hnk] at hk
   obtain ⟨h1,_,h3⟩:=hDd k t v hk
   exact ⟨h1,h3⟩
 have hFu:∀ (σ:Sig) (j k:Nat) (t:Tmp) (u v:Value),k≠j→F σ k=some (some t,u)→F σ j≠some (some t,v):=by
  intro σ j k t u v hkj h1 h2
  obtain ⟨hkn,ok,hok',hdk⟩:=hFd σ k _ u h1
  obtain ⟨hjn,oj,hoj,hdj⟩:=hFd σ j _ v h2
  exact (g.pair k j ok oj t hkn hjn hkj (by simpa using hok') (by simpa using hoj) hdk).1 hdj
 have hend:∀ (E:Nat→Prop) (a':Act) (σ:Sig),(∀ k,k<n→E k)→Agree (F σ) E a a'→a'=Jx l nw σ (Qs D a):=by
  intro E a' σ hall hA
  have hB:=Zd D huniq a n (by omega)
  rw [List.take_of_length_le (by omega)] at hB
  obtain ⟨k1,k2⟩:=putNew_keeps l σ nw (Qs D a)
  refine act_ext ?_ (hA.defers.trans (hB.defers.symm.trans k1.symm))
  apply Array.ext_getElem?
  intro t
  by_cases hts:t<a.tmps.size
  ·by_cases hw:∃ (k:Nat) (v:Value),F σ k=some (some t,v)
   ·obtain ⟨k,v,hkv⟩:=hw
    obtain ⟨hkn,o,ho,hd⟩:=hFd σ k _ v hkv
    rw [hA.wrote k t v (hall k hkn) hkv hts]
    have hkv':=hkv
    rw [hF] at hkv
    by_cases hnk:k∈nw
    ·rw [if_pos hnk,ho] at hkv
     simp at hkv
     rw [putNew_new l σ t k nw _ hnk (by simp [ho,hd]) (fun j hj hdj=>?_) (by rw [hB.size];exact hts),hkv.2]
     by_cases hjk:j=k
     ·exact hjk
     ·exfalso
      cases hlj:l[j]? with
      | none=>rw [hlj] at hdj;cases hdj
      | some oj=>
       rw [hlj] at hdj
       refine hFu σ j k t v ((σ j).getD undef) (Ne.symm hjk) hkv' ?_
       rw [hF,if_pos hj,hlj]
       simp at hdj
       simp [hdj]
    ·rw [if_neg hnk] at hkv
     rw [Vo l σ t nw _ fun j hj hdj=>?_,hB.wrote k t v hkn hkv hts]
     cases hlj:l[j]? with
     | none=>rw [hlj] at hdj;cases hdj
     | some oj=>
      rw [hlj] at hdj
      refine hFu σ j k t v ((σ j).getD undef) (fun e=>hnk (e▸hj)) hkv' ?_
      rw [hF,if_pos hj,hlj]
      simp at hdj
      simp [hdj]
   ·rw [hA.kept t fun k v _ hkv=>hw ⟨k,v,hkv⟩,Vo l σ t nw _ fun j hj hdj=>?_,hB.kept t fun k v _ hkv=>?_]
    ·obtain ⟨_,hnk,_⟩:=hDd k t v hkv
     exact hw ⟨k,v,by rw [hF,if_neg hnk];exact hkv⟩
    ·cases hlj:l[j]? with
     | none=>rw [hlj] at hdj;cases hdj
     | some oj=>
      rw [hlj] at hdj
      refine hw ⟨j,(σ j).getD undef,?_⟩
      rw [hF,if_pos hj,hlj]
      simp at hdj
      simp [hdj]
  ·rw [Array.getElem?_eq_none (show a'.tmps.size≤t from by rw [hA.size];exact Nat.le_of_not_lt hts),Array.getElem?_eq_none (show (Jx l nw σ (Qs D a)).tmps.size≤t from by rw [k2,hB.size];exact Nat.le_of_not_lt hts)]
 have main:∀ (fuel:Nat) (listed:Array Bool) (a':Act) (w':World) (σ:Sig),listed.size=l.length→left listed=fuel→(∀ j,n≤j→j<l.length→listed.getD j true=false) →
  (∀ k o,k<l.length→listed.getD k true=true→l[k]?=some o→∀ e∈o.after,Region.binds .any e=true→listed.getD e.on false=true) →
  (∀ k∈nw,listed.getD k true=true→(σ k).isSome=true)→(∀ k∈tw,(listed.getD k true=true→(σ k).isSome=true)∧(listed.getD k true=false→σ k=none))→(∀ p∈pre,listed.getD p true=true) →
  Agree (F σ) (fun k=>k<n∧listed.getD k true=true) a a'→S σ w'→wpAny P .any l.toArray Q fuel listed a' w':=by
  intro fuel
  induction fuel with
  | zero=>
   intro listed a' w' σ hs hl ht hc hσ hτ hP hA hSw
   have hall:∀ k,k<l.length→listed.getD k true=true:=fun k hk=>by
    cases hkk:listed.getD k true with
    | true=>rfl
    | false=>have:=left_pos (j:=k) (by omega) hkk;omega
   have hn:n=l.length:=by
    rcases Nat.lt_or_ge n l.length with h | h
    ·have:=hall n h;rw [ht n (Nat.le_refl _) h] at this;cases this
    ·omega
   refine tail_any g 0 n listed a' w' hs (Nat.le_refl _) (fun k _ hk=>hall k hk) ht hl ?_
   rw [hend _ a' σ (fun k hk=>⟨hk,hall k (by omega)⟩) hA]
   exact hR σ w' (fun k hk=>hσ k hk (hall k (by have:=g.newLt k hk;omega))) (fun k hk=>(hτ k hk).1 (hall k (by have:=(htw k hk).1;omega))) hSw
  | succ fuel ih=>
   intro listed a' w' σ hs hl ht hc hσ hτ hP hA hSw
   by_cases hpre:∀ k,k<n→listed.getD k true=true
   ·refine tail_any g (fuel+1) n listed a' w' hs (Nat.le_refl _) (fun k hk _=>hpre k hk) ht hl ?_
    rw [hend _ a' σ (fun k hk=>⟨hk,hpre k hk⟩) hA]
    exact hR σ w' (fun k hk=>hσ k hk (hpre k (g.newLt k hk))) (fun k hk=>(hτ k hk).1 (hpre k (htw k hk).1)) hSw
   ·
    have hex:∃ k,k<n∧listed.getD k true=false:=by
     rcases Classical.em (∃ k,k<n∧listed.getD k true=false) with h | h
     ·exact h
     ·exact absurd (fun k hk=>by
       cases hkk:listed.getD k true with
       | true=>rfl
       | false=>exact absurd ⟨k,hk,hkk⟩ h) hpre
    obtain ⟨m,hm,hmin⟩:∃ m,(m<n∧listed.getD m true=false)∧∀ k,k<m→listed.getD k true=true:=by
     obtain ⟨k,hk⟩:=hex
     induction k using Nat.strongRecOn with
     | _ k ihk=>
      rcases Classical.em (∃ j,j<k∧listed.getD j true=false) with ⟨j,hj,hjl⟩ | h
      ·exact ihk j hj ⟨by omega,hjl⟩
      ·refine ⟨k,hk,fun j hj=>?_⟩
       cases hjj:listed.getD j true with
       | true=>rfl
       | false=>exact absurd ⟨j,hj,hjj⟩ h
    obtain ⟨om,hom⟩:∃ o,l[m]?=some o:=⟨_,List.getElem?_eq_getElem (by omega)⟩
    have hready:m∈Region.ready .any l.toArray listed:=Jz.2 ⟨by simp;omega,hm.2,om,by simpa using hom,fun e he hb=>by
     have:=g.low m om (by simpa using hom) e he hb
     rw [← Jm (by omega)]
     exact hmin _ this⟩
    refine ⟨fun h=>(by rw [h] at hready;cases hready),fun i hi=>?_⟩
    obtain ⟨hi1,hi2,o,ho,hi3⟩:=Jz.1 hi
    have hi1:i<l.length:=by simpa using hi1
    have hol:l[i]?=some o:=by simpa using ho
    have hin:i<n:=by
     rcases Nat.lt_trichotomy i n with h | h | h
     ·exact h
     ·
      subst h
      have hall:∀ d k,i-k=d→k<i→listed.getD k true=true:=by
       intro d
       induction d using Nat.strongRecOn with
       | _ d ihd=>
        intro k hd hk
        by_cases hpk:k∈pre
        ·exact hP k hpk
        obtain ⟨j,hkj,hji,oj,hoj,hwj⟩:=g.sink (by simpa using hi1) k hk hpk
        obtain ⟨e,he,hb,heq⟩:=Jc hwj
        rw [Jm (by omega),← heq]
        rcases Nat.lt_or_ge j i with hlt | hge
        ·have hjl:=ihd (i-j) (by omega) j rfl hlt
         exact hc j oj (by omega) hjl (by simpa using hoj) e he hb
        ·have:j=i:=by omega
         subst this
         rw [ho] at hoj
         cases hoj
         exact hi3 e he hb
      have:=hall _ m rfl hm.1
      rw [hm.2] at this
      cases this
     ·obtain ⟨e,he,hb,heq⟩:=Jc (g.chain i o h (by simpa using hol))
      have:=hi3 e he hb
      rw [heq,← Jm (by omega),ht (i-1) (by omega) (by omega)] at this
      cases this
    obtain ⟨v,hv,hcase⟩:=hk i o (by simp [hin,hol])
    have hAi:=Zd D huniq a i (by omega)
    have hsame:=same_op (ops:=l.toArray) (o:=o) (a:=Qs (D.take i) a) (a':=a') (g.noSel i o ho) (by
     intro t htl
     by_cases hw:∃ (k:Nat) (u:Value),F σ k=some (some t,u)
     ·obtain ⟨k,u,hku⟩:=hw
      obtain ⟨hkn,ok,hok',hdk⟩:=hFd σ k _ u hku
      have hnk:k ∉ nw:=fun hnk=>g.newApart k hnk ok t (by simpa using hok') hdk i o hin ho htl
      have hDu:D[k]?=some (some t,u):=by rw [hF,if_neg hnk] at hku;exact hku
      by_cases hts:t<a.tmps.size
      ·have hki:k≠i:=fun e=>by
        subst e
        rw [hol] at hok'
        cases hok'
        exact g.own k o t hkn ho hdk htl
       rcases (g.pair k i ok o t hkn hin hki (by simpa using hok') ho hdk).2 with h1 | ⟨hlt,hwt⟩ | ⟨hlt,hwt⟩
       ·exact absurd htl h1
       ·obtain ⟨e,he,hb,heq⟩:=Jc hwt
        have hkl:listed.getD k true=true:=by
         rw [Jm (by omega),← heq];exact hi3 e he hb
        rw [hA.wrote k t u ⟨hkn,hkl⟩ hku hts,hAi.wrote k t u hlt hDu hts]
       ·obtain ⟨e,he,hb,heq⟩:=Jc hwt
        have hkl:¬ listed.getD k true=true:=fun hkl=>by
         have:=hc k ok (by omega) hkl hok' e he hb
         rw [heq,← Jm (by omega),hi2] at this
         cases this
        rw [hA.kept t fun k' u' hk' hD'=>?_,hAi.kept t fun k' u' hk' hD'=>?_]
        ·by_cases hkk:k'=k
         ·subst hkk;omega
         ·exact huniq k k' t u' u hkk hD' hDu
        ·by_cases hkk:k'=k
         ·subst hkk;exact hkl hk'.2
         ·exact hFu σ k k' t u' u hkk hD' hku
      ·rw [Array.getElem?_eq_none (show a'.tmps.size≤t from by rw [hA.size];exact Nat.le_of_not_lt hts),Array.getElem?_eq_none (show (Qs (D.take i) a).tmps.size≤t from by rw [hAi.size];exact Nat.le_of_not_lt hts)]
     ·rw [hA.kept t fun k v _ hkv=>hw ⟨k,v,hkv⟩,hAi.kept t fun k v _ hkv=>?_]
      obtain ⟨_,hnk,_⟩:=hDd k t v hkv
      exact hw ⟨k,v,by rw [hF,if_neg hnk];exact hkv⟩)
    have hset:∀ k b,(listed.setIfInBounds i true).getD k b=if k=i then true else listed.getD k b:=by
     intro k b
     by_cases hki:k=i
     ·subst hki;simp [hs,hi1]
     ·have:i≠k:=Ne.symm hki
      simp [Array.getElem?_setIfInBounds_ne this,hki]
    have next:∀ (σ':Sig) (u:Value) w'',F σ' i=some (o.dst,u)→Agree (F σ') (fun k=>k<n∧listed.getD k true=true) a a'→(∀ k∈nw,(listed.setIfInBounds i true).getD k true=true→(σ' k).isSome=true)→(∀ k∈tw,((listed.setIfInBounds i true).getD k true=true→(σ' k).isSome=true)∧((listed.setIfInBounds i true).getD k true=false→σ' k=none))→S σ' w'' →
     wpAny P .any l.toArray Q fuel (listed.setIfInBounds i true) (a'.put o.dst u) w'':=by
     intro σ' u w'' hFi hA' hσ' hτ' hSw''
     refine ih _ _ w'' σ' (by simpa using hs) (by have:=Vz (j:=i) (by omega) hi2;omega) ?_ ?_ hσ' hτ' (fun p hp=>by rw [hset];split <;> first | rfl | exact hP p hp) ?_ hSw''
     ·intro j hj hjl
      rw [hset,if_neg (by omega)]
      exact ht j hj hjl
     ·intro k ok hkl hkt hok' e he hb
      rw [hset]
      split
      ·rfl
      ·rw [hset] at hkt
       by_cases hki:k=i
       ·subst hki
        rw [hol] at hok'
        cases hok'
        exact hi3 e he hb
       ·rw [if_neg hki] at hkt
        exact hc k ok hkl hkt hok' e he hb
     ·have:=hA'.put (j:=i) hFi (fun k t u' hki hD' e=>hFu σ' i k t u' u hki hD' (by rw [hFi,e]))
      refine ⟨this.defers,this.size,fun k t u hk=>this.wrote k t u ?_,fun t ht=>this.kept t fun k u hk=>ht k u ?_⟩
      ·obtain ⟨h1,h2⟩:=hk
       rw [hset] at h2
       by_cases hki:k=i
       ·exact .inr hki
       ·rw [if_neg hki] at h2;exact .inl ⟨h1,h2⟩
      ·rw [hset]
       rcases hk with ⟨h1,h2⟩ | rfl
       ·exact ⟨h1,by split <;> first | rfl | exact h2⟩
       ·exact ⟨hin,by simp⟩
    have hσset:i ∉ nw→∀ k∈nw,(listed.setIfInBounds i true).getD k true=true→(σ k).isSome=true:=fun hni k hk hkl=>by
     rw [hset,if_neg (fun (e:k=i)=>hni (e▸hk))] at hkl
     exact hσ k hk hkl
    have hτset:i ∉ tw→∀ k∈tw,((listed.setIfInBounds i true).getD k true=true→(σ k).isSome=true)∧((listed.setIfInBounds i true).getD k true=false→σ k=none):=fun hni k hk=>by
     rw [hset,if_neg (fun (e:k=i)=>hni (e▸hk))]
     exact hτ k hk
    unfold wpOp
    simp only [ho]
    rcases hcase with ⟨hni,hn1⟩ | ⟨hni,hw1,hc1⟩ | ⟨hni,hw1,rfl⟩
    ·have hg:=g.newPlain i hni o ho
     rw [show Region.wanted o (yielded l.toArray a'.tmps)=true by simp [Region.wanted,hg]]
     refine .inl (hn1.at hsame.1 (by rw [hAi.size,hA.size]) hSw _ _ fun u w'' hSu=>?_)
     refine next (σ.upd i u) u w'' (by rw [hF,if_pos hni,hol];simp [Sig.upd]) ?_ ?_ ?_ hSu
     ·have hne:∀ k,(k<n∧listed.getD k true=true)→F (σ.upd i u) k=F σ k:=fun k hk=>by
       have hki:k≠i:=fun e=>by subst e;rw [hi2] at hk;cases hk.2
       rw [hF,hF]
       simp [Sig.upd,hki]
      exact ⟨hA.defers,hA.size,fun k t u' hk hD'=>hA.wrote k t u' hk (by rw [← hne k hk];exact hD'),fun t ht=>hA.kept t fun k u' hk=>by rw [← hne k hk];exact ht k u' hk⟩
     ·intro k hk hkl
      by_cases hki:k=i
      ·simp [Sig.upd,hki]
      ·rw [hset,if_neg hki] at hkl
       simpa [Sig.upd,hki] using hσ k hk hkl
     ·intro k hk
      have hki:k≠i:=fun e=>(htw k hk).2.1 (e▸hni)
      rw [hset,if_neg hki]
      simpa [Sig.upd,hki] using hτ k hk
    ·rw [hsame.2,hw1]
     by_cases hit:i∈tw
     ·refine .inl (hc1.at hsame.1 (by rw [hAi.size,hA.size]) hSw (fun hit=>(hτ i hit).2 hi2) _ _ fun w'' hSu=>next (σ.upd i v) v w'' (by rw [hF,if_neg hni];exact hDk i o v hin hni hol hv) ?_ ?_ ?_ (by rw [trk,if_pos hit] at hSu;exact hSu))
      ·have hne:∀ k,(k<n∧listed.getD k true=true)→F (σ.upd i v) k=F σ k:=fun k hk=>by
        have hki:k≠i:=fun e=>by subst e;rw [hi2] at hk;cases hk.2
        rw [hF,hF]
        simp [Sig.upd,hki]
       exact ⟨hA.defers,hA.size,fun k t u' hk hD'=>hA.wrote k t u' hk (by rw [← hne k hk];exact hD'),fun t ht=>hA.kept t fun k u' hk=>by rw [← hne k hk];exact ht k u' hk⟩
      ·intro k hk hkl
       by_cases hki:k=i
       ·simp [Sig.upd,hki]
       ·rw [hset,if_neg hki] at hkl
        simpa [Sig.upd,hki] using hσ k hk hkl
      ·intro k hk
       rw [hset]
       by_cases hki:k=i
       ·simp [Sig.upd,hki]
       ·rw [if_neg hki]
        simpa [Sig.upd,hki] using hτ k hk
     ·exact .inl (hc1.at hsame.1 (by rw [hAi.size,hA.size]) hSw (fun hit=>(hτ i hit).2 hi2) _ _ fun w'' hSu=>next σ v w'' (by rw [hF,if_neg hni];exact hDk i o v hin hni hol hv) hA (hσset hni) (hτset hit) (by rw [trk,if_neg hit] at hSu;exact hSu))
    ·rw [hsame.2,hw1]
     have hit:i ∉ tw:=fun hit=>by
      have:=(htw i hit).2.2.2 o hol
      simp [Region.wanted,this] at hw1
     exact next σ undef w' (by rw [hF,if_neg hni];exact hDk i o undef hin hni hol hv) hA (hσset hni) (hτset hit) hSw
 refine main _ listed0 a0 w Sig.no hs0 rfl (fun j hnj hj=>?_) (fun k o hk hkt ho e he hb=>?_) (fun k hk hkt=>?_) (fun k hk=>?_) hp0 ?_ hS
 ·cases hjj:listed0.getD j true with
  | false=>rfl
  | true=>
   have:=(g.preAny j (hl0 j hj hjj)).1
   omega
 ·obtain ⟨_,_,o',ho',_,haf⟩:=g.preAny k (hl0 k hk hkt)
  obtain rfl:o'=o:=by simpa [ho] using ho'.symm
  have:=g.low k o' (by simpa using ho) e he hb
  rw [← Jm (by omega)]
  exact hp0 _ (haf e he hb)
 ·exact absurd hk (g.preAny k (hl0 k (by have:=g.newLt k hk;omega) hkt)).2.1
 ·exact ⟨fun hkt=>absurd (hl0 k (by have:=(htw k hk).1;omega) hkt) (htw k hk).2.2.1,fun _=>rfl⟩
 ·have step:∀ (r done:List Nat) (a1:Act),preOk l.toArray n nw done r=true→PreRun P l r a1 a0→Agree (F Sig.no) (fun k=>k∈done) a a1 →
   (∀ k∈done,∀ o,l[k]?=some o→∀ e∈o.after,Region.binds .any e=true→e.on∈done)→Agree (F Sig.no) (fun k=>k∈r∨k∈done) a a0:=by
   intro r
   induction r with
   | nil=>
    intro done a1 _ hr hA _
    obtain rfl:a0=a1:=hr
    simpa using hA
   | cons p r ih=>
    intro done a1 hpo hr hA hcl
    obtain ⟨hpn,hpw,hpd,⟨o,hop,hgd,haf⟩,hpo'⟩:=preOk_cons hpo
    have hop:l[p]?=some o:=by simpa using hop
    obtain ⟨o',v,ho',hrun,hr'⟩:=hr
    obtain rfl:o'=o:=by simpa [hop] using ho'.symm
    obtain ⟨u,hu,hcase⟩:=hk p o' (by simp [hpn,hop])
    have hAi:=Zd D huniq a p (by omega)
    have hsame:=same_op (ops:=l.toArray) (o:=o') (a:=a1) (a':=Qs (D.take p) a) (g.noSel p o' (by simpa using hop)) (by
     intro t htl
     by_cases hts:t<a.tmps.size
     ·by_cases hw:∃ (k:Nat) (u:Value),F Sig.no k=some (some t,u)
      ·obtain ⟨k,x,hkx⟩:=hw
       obtain ⟨hkn,ok,hok',hdk⟩:=hFd Sig.no k _ x hkx
       have hnk:k ∉ nw:=fun hnk=>g.newApart k hnk ok t (by simpa using hok') hdk p o' hpn (by simpa using hop) htl
       have hDu:D[k]?=some (some t,x):=by rw [hF,if_neg hnk] at hkx;exact hkx
       have hkp:k≠p:=fun e=>by
        subst e
        rw [hop] at hok'
        cases hok'
        exact g.own k o' t hkn (by simpa using hop) hdk htl
       rcases (g.pair k p ok o' t hkn hpn hkp (by simpa using hok') (by simpa using hop) hdk).2 with h1 | ⟨hlt,hwt⟩ | ⟨hlt,hwt⟩
       ·exact absurd htl h1
       ·obtain ⟨e,he,hb,heq⟩:=Jc hwt
        have hkd:k∈done:=heq▸haf e he hb
        rw [hA.wrote k t x hkd hkx hts,hAi.wrote k t x hlt hDu hts]
       ·obtain ⟨e,he,hb,heq⟩:=Jc hwt
        have hkd:k ∉ done:=fun hkd=>hpd (heq▸hcl k hkd ok hok' e he hb)
        rw [hA.kept t fun k' u' hk' hD'=>?_,hAi.kept t fun k' u' hk' hD'=>?_]
        ·by_cases hkk:k'=k
         ·subst hkk;omega
         ·exact huniq k k' t u' x hkk hD' hDu
        ·by_cases hkk:k'=k
         ·subst hkk;exact hkd hk'
         ·exact hFu Sig.no k k' t u' x hkk hD' hkx
      ·rw [hA.kept t fun k v _ hkv=>hw ⟨k,v,hkv⟩,hAi.kept t fun k v _ hkv=>?_]
       obtain ⟨_,hnk,_⟩:=hDd k t v hkv
       exact hw ⟨k,v,by rw [hF,if_neg hnk];exact hkv⟩
     ·rw [Array.getElem?_eq_none (show (Qs (D.take p) a).tmps.size≤t from by rw [hAi.size];exact Nat.le_of_not_lt hts),Array.getElem?_eq_none (show a1.tmps.size≤t from by rw [hA.size];exact Nat.le_of_not_lt hts)])
    have hput:a1.put o'.dst v=a1.put o'.dst u:=by
     rcases hcase with ⟨hni,_⟩ | ⟨_,_,hc1⟩ | ⟨_,hw1,_⟩
     ·exact absurd hni hpw
     ·have h1:=hc1.at (a':=a1) hsame.1.symm (by rw [hAi.size,hA.size]) hS (fun _=>rfl) (fun a2 _=>a2=a1.put o'.dst u) (fun _ _ _=>False) (fun _ _=>rfl)
      unfold Oper.wp at h1
      rw [hrun w] at h1
      simpa only [Oper.upon] using h1
     ·exfalso
      simp [Region.wanted,hgd] at hw1
    rw [hput] at hr'
    have hFp:F Sig.no p=some (o'.dst,u):=by rw [hF,if_neg hpw];exact hDk p o' u hpn hpw hop hu
    have hA':=hA.put (j:=p) hFp (fun k t u' hki hD' e=>hFu Sig.no p k t u' u hki hD' (by rw [hFp,e]))
    have hA2:Agree (F Sig.no) (fun k=>k∈p::done) a (a1.put o'.dst u):=
     ⟨hA'.defers,hA'.size,fun k t x hk=>hA'.wrote k t x (by
      rcases List.mem_cons.1 hk with h | h
      ·exact .inr h
      ·exact .inl h),fun t ht=>hA'.kept t fun k x hk=>ht k x (by
      rcases hk with h | h
      ·exact List.mem_cons_of_mem _ h
      ·exact h▸List.mem_cons_self ..)⟩
    have:=ih (p::done) _ hpo' hr' hA2 (fun k hk o ho e he hb=>by
     rcases List.mem_cons.1 hk with rfl | hk
     ·rw [hop] at ho
      cases ho
      exact List.mem_cons_of_mem _ (haf e he hb)
     ·exact List.mem_cons_of_mem _ (hcl k hk o ho e he hb))
    refine ⟨this.defers,this.size,fun k t x hk=>this.wrote k t x ?_,fun t ht=>this.kept t fun k x hk=>ht k x ?_⟩
    ·rcases hk with hk | hk
     ·rcases List.mem_cons.1 hk with rfl | hk
      ·exact .inr (List.mem_cons_self ..)
      ·exact .inl hk
     ·exact .inr (List.mem_cons_of_mem _ hk)
    ·rcases hk with hk | hk
     ·exact .inl (List.mem_cons_of_mem _ hk)
     ·rcases List.mem_cons.1 hk with rfl | hk
      ·exact .inl (List.mem_cons_self ..)
      ·exact .inr hk
  have h0:Agree (F Sig.no) (fun k=>k∈([]:List Nat)) a a:=⟨rfl,rfl,fun k t v hk _ _=>(by cases hk),fun t _=>rfl⟩
  have:=step pre [] a g.preOrd ha0 h0 (fun k hk=>by cases hk)
  refine ⟨this.defers,this.size,fun k t x hk=>this.wrote k t x (.inl (hl0 k (by omega) hk.2)),fun t ht=>this.kept t fun k x hk=>ht k x ?_⟩
  rcases hk with hk | hk
  ·exact ⟨(g.preAny k hk).1,hp0 k hk⟩
  ·cases hk
theorem wp_region_new{id:Nat}{Q:Exit→Act→World→Prop}{a:Act}{w:World}{l:List Oper}(S:Sig→World→Prop)(n:Nat)(nw tw:List Nat)(htw:∀ k∈tw,k<n∧k ∉ nw∧∀ o,l[k]?=some o→o.guard=none)(hm:P.follows .mixedOrders=true)(hok:calmOk l.toArray n nw=true)(hS:S Sig.no w.drew)
 (h:calm P l.toArray S nw tw (fun a'=>∀ σ w',(∀ k∈nw,(σ k).isSome=true)→(∀ k∈tw,(σ k).isSome=true)→S σ w'→wpList P l.toArray Q (l.drop n) (Jx l nw σ a') w') 0 (l.take n) a):(Code.region id l.toArray true).wp P Q a w:=by
 refine wp_region_any hm ?_
 have hl:=left_none l.toArray.size
 have:=wpAny_new (a0:=a) S n nw tw [] (fun k hk=>⟨(htw k hk).1,(htw k hk).2.1,by simp,(htw k hk).2.2⟩) hok hS h (Array.replicate l.toArray.size false) (by simp) (fun k hk hkt=>by simp [hk] at hkt) (fun p hp=>by cases hp) rfl
 rw [hl] at this
 exact this
theorem calm_value{R:Act→Prop}{a:Act}{o:Oper}{rest:List Oper}{i:Nat}{v:Value}(hi:i ∉ nw)(ht:i ∉ tw)(hw:Region.wanted o (yielded ops a.tmps)=true)(h1:∀ σ w,S σ w→(execOp a.eval o).run P w=.ok (.value v) w)(h:calm P ops S nw tw R (i+1) rest (a.put o.dst v)):calm P ops S nw tw R i (o::rest) a:=
 calm_step v hi hw (fun σ w hS _ K Q hK=>by unfold Oper.wp;rw [h1 σ w hS];exact hK w (by rw [trk,if_neg ht];exact hS)) h
theorem calm_track{R:Act→Prop}{a:Act}{o:Oper}{rest:List Oper}{i:Nat}{v:Value}(hi:i ∉ nw)(ht:i∈tw)(hw:Region.wanted o (yielded ops a.tmps)=true)(h1:∀ σ w,S σ w→σ i=none→∃ w',(execOp a.eval o).run P w=.ok (.value v) w'∧S (σ.upd i v) w')(h:calm P ops S nw tw R (i+1) rest (a.put o.dst v)):calm P ops S nw tw R i (o::rest) a:=
 calm_step v hi hw (fun σ w hS hf K Q hK=>by
  obtain ⟨w',hr,hs⟩:=h1 σ w hS (hf ht)
  unfold Oper.wp
  rw [hr]
  exact hK w' (by rw [trk,if_pos ht];exact hs)) h
end
end Go.Proofs.YthekdeikodppkaaGreatDoor.Trk
namespace Go.Proofs.YthekdeikodppkaaGreatDoor.Trd
open Go.RowKit
def trk(tw:List Nat)(i:Nat)(v:Value)(σ:Sig):Sig:=if i∈tw then σ.upd i v else σ
def Deps(o:Oper)(k:Nat):Prop:=∃ e∈o.after,Region.binds .any e=true∧e.on=k
def Calm1(P:Program)(S:Sig→World→Prop)(tw:List Nat)(i:Nat)(o:Oper)(a:Act)(v:Value):Prop:=
 ∀ σ w,S σ w→(i∈tw→σ i=none)→(∀ k∈tw,Deps o k→(σ k).isSome=true)→∀ (K:Act→World→Prop) (Q:Exit→Act→World→Prop),(∀ w',S (trk tw i v σ) w'→K (a.put o.dst v) w')→o.wp P a w K Q
def New1(P:Program)(S:Sig→World→Prop)(tw:List Nat)(i:Nat)(o:Oper)(a:Act):Prop:=
 ∀ σ w,S σ w→(∀ k∈tw,Deps o k→(σ k).isSome=true)→∀ (K:Act→World→Prop) (Q:Exit→Act→World→Prop),(∀ v w',S (σ.upd i v) w'→K (a.put o.dst v) w')→o.wp P a w K Q
def calm(P:Program)(ops:Array Oper)(S:Sig→World→Prop)(nw tw:List Nat)(R:Act→Prop):Nat→List Oper→Act→Prop
 | _,[],a=>R a
 | i,o::rest,a=>(i∈nw∧New1 P S tw i o a∧calm P ops S nw tw R (i+1) rest a) ∨
  (i ∉ nw∧Region.wanted o (yielded ops a.tmps)=true∧∃ v,Calm1 P S tw i o a v∧calm P ops S nw tw R (i+1) rest (a.put o.dst v)) ∨
  (i ∉ nw∧Region.wanted o (yielded ops a.tmps)=false∧calm P ops S nw tw R (i+1) rest (a.put o.dst undef))
section
variable {P:Program} {ops:Array Oper} {S:Sig→World→Prop} {nw tw:List Nat} {R:Act→Prop} {a:Act} {o:Oper} {rest:List Oper} {i:Nat}
theorem calm_nil(h:R a):calm P ops S nw tw R i [] a:=h
theorem calm_step(v:Value)(hi:i ∉ nw)(hw:Region.wanted o (yielded ops a.tmps)=true)
 (h1:∀ σ w,S σ w→(i∈tw→σ i=none)→(∀ k∈tw,Deps o k→(σ k).isSome=true)→∀ (K:Act→World→Prop) (Q:Exit→Act→World→Prop),(∀ w',S (trk tw i v σ) w'→K (a.put o.dst v) w')→o.wp P a w K Q) (h:calm P ops S nw tw R (i+1) rest (a.put o.dst v)):calm P ops S nw tw R i (o::rest) a:=.inr (.inl ⟨hi,hw,v,h1,h⟩)
theorem calm_skip(hi:i ∉ nw)(hw:Region.wanted o (yielded ops a.tmps)=false)
 (h:calm P ops S nw tw R (i+1) rest (a.put o.dst undef)):calm P ops S nw tw R i (o::rest) a:=.inr (.inr ⟨hi,hw,h⟩)
theorem calm_new(hi:i∈nw)
 (h1:∀ σ w,S σ w→(∀ k∈tw,Deps o k→(σ k).isSome=true)→∀ (K:Act→World→Prop) (Q:Exit→Act→World→Prop),(∀ v w',S (σ.upd i v) w'→K (a.put o.dst v) w')→o.wp P a w K Q) (h:calm P ops S nw tw R (i+1) rest a):calm P ops S nw tw R i (o::rest) a:=.inl ⟨hi,h1,h⟩
end
section
variable {P:Program} {ops:Array Oper} {S:Sig→World→Prop} {nw tw:List Nat}
theorem calm_frames{R:Act→Prop}:∀ (l:List Oper) (i:Nat) (a:Act),calm P ops S nw tw R i l a →
 ∃ vs:List Value,vs.length=l.length∧R (Qs ((dets nw i l).zip vs) a) ∧
  ∀ k o,l[k]?=some o→∃ v,vs[k]?=some v ∧
   ((i+k∈nw∧New1 P S tw (i+k) o (Qs (((dets nw i l).zip vs).take k) a)) ∨
    (i+k ∉ nw∧Region.wanted o (yielded ops (Qs (((dets nw i l).zip vs).take k) a).tmps)=true∧Calm1 P S tw (i+k) o (Qs (((dets nw i l).zip vs).take k) a) v) ∨
    (i+k ∉ nw∧Region.wanted o (yielded ops (Qs (((dets nw i l).zip vs).take k) a).tmps)=false∧v=undef)):=by
 intro l
 induction l with
 | nil=>intro i a h;exact ⟨[],rfl,h,fun k o hk=>by simp at hk⟩
 | cons o l ih=>
  intro i a h
  have step:∀ (v:Value) (a':Act),a'=a.put (if i∈nw then none else o.dst) v→calm P ops S nw tw R (i+1) l a' →
   ((i∈nw∧New1 P S tw i o a)∨(i ∉ nw∧Region.wanted o (yielded ops a.tmps)=true∧Calm1 P S tw i o a v)∨(i ∉ nw∧Region.wanted o (yielded ops a.tmps)=false∧v=undef))→∃ vs:List Value,vs.length=(o::l).length∧R (Qs ((dets nw i (o::l)).zip vs) a) ∧
   ∀ k o',(o::l)[k]?=some o'→∃ v,vs[k]?=some v ∧
    ((i+k∈nw∧New1 P S tw (i+k) o' (Qs (((dets nw i (o::l)).zip vs).take k) a)) ∨
     (i+k ∉ nw∧Region.wanted o' (yielded ops (Qs (((dets nw i (o::l)).zip vs).take k) a).tmps)=true∧Calm1 P S tw (i+k) o' (Qs (((dets nw i (o::l)).zip vs).take k) a) v) ∨
     (i+k ∉ nw∧Region.wanted o' (yielded ops (Qs (((dets nw i (o::l)).zip vs).take k) a).tmps)=false∧v=undef)):=by
   intro v a' ha hc h0
   obtain ⟨vs,hl,hR,hk⟩:=ih _ _ hc
   refine ⟨v::vs,by simp [hl],by rw [ha] at hR;exact hR,fun k o' hk'=>?_⟩
   cases k with
   | zero=>simp at hk';subst hk';exact ⟨v,rfl,h0⟩
   | succ k=>
    have:=hk k o' (by simpa using hk')
    rw [ha,show i+1+k=i+(k+1) by omega] at this
    exact this
  rcases h with ⟨hi,h1,h2⟩ | ⟨hi,hw,v,h1,h2⟩ | ⟨hi,hw,h2⟩
  ·exact step undef a (by rw [if_pos hi];rfl) h2 (.inl ⟨hi,h1⟩)
  ·exact step v _ (by rw [if_neg hi]) h2 (.inr (.inl ⟨hi,hw,h1⟩))
  ·exact step undef _ (by rw [if_neg hi]) h2 (.inr (.inr ⟨hi,hw,rfl⟩))
theorem Calm1.at{tw:List Nat}{i:Nat}{o:Oper}{a a':Act}{v:Value}(h:Calm1 P S tw i o a v)(he:execOp a'.eval o=execOp a.eval o)(hs:a.tmps.size=a'.tmps.size){σ:Sig}{w:World}(hw:S σ w)(hfr:i∈tw→σ i=none)(hdp:∀ k∈tw,Deps o k→(σ k).isSome=true)
 (K:Act→World→Prop) (Q:Exit→Act→World→Prop) (hK:∀ w',S (trk tw i v σ) w'→K (a'.put o.dst v) w'):o.wp P a' w K Q:=by
 have h1:=h σ w hw hfr hdp (fun a1 w1=>a1=a.put o.dst v∧S (trk tw i v σ) w1) (fun _ _ _=>False) (fun w' hw'=>⟨rfl,hw'⟩)
 unfold Oper.wp at *
 rw [he]
 generalize (execOp a.eval o).run P w=r at *
 cases r with
 | ok n w'=>
  cases n <;> simp only [Oper.upon] at h1 ⊢
  case value u=>rw [Vd hs h1.1];exact hK _ h1.2
  case skip=>rw [Vd hs h1.1];exact hK _ h1.2
  case defer d=>
   have:=congrArg (fun x=>x.defers.length) h1.1
   cases hd:o.dst <;> simp [Act.put,hd] at this
  case enter f args=>
   refine Calls.mono h1 fun e w'' he=>?_
   cases e with
   | returned u=>
    show K (a'.put o.dst u) w''
    rw [Vd hs he.1];exact hK _ he.2
   | panicked c=>exact he.elim
   | outgrown=>obtain ⟨_,_,hh⟩:=he;exact hh.elim
  case row row args=>exact Rows.mono h1 fun u w'' he=>by rw [Vd hs he.1];exact hK _ he.2
 | halt x w'=>cases x <;> simp only [Oper.upon] at h1 ⊢
theorem New1.at{tw:List Nat}{i:Nat}{o:Oper}{a a':Act}(h:New1 P S tw i o a)(he:execOp a'.eval o=execOp a.eval o)(hs:a.tmps.size=a'.tmps.size){σ:Sig}{w:World}(hw:S σ w)(hdp:∀ k∈tw,Deps o k→(σ k).isSome=true)
 (K:Act→World→Prop) (Q:Exit→Act→World→Prop) (hK:∀ v w',S (σ.upd i v) w'→K (a'.put o.dst v) w'):o.wp P a' w K Q:=by
 have h1:=h σ w hw hdp (fun a1 w1=>∃ v,a1=a.put o.dst v∧S (σ.upd i v) w1) (fun _ _ _=>False) (fun v w' hw'=>⟨v,rfl,hw'⟩)
 unfold Oper.wp at *
 rw [he]
 generalize (execOp a.eval o).run P w=r at *
 cases r with
 | ok n w'=>
  cases n <;> simp only [Oper.upon] at h1 ⊢
  case value u=>obtain ⟨v,e1,e2⟩:=h1;rw [Vd hs e1];exact hK _ _ e2
  case skip=>obtain ⟨v,e1,e2⟩:=h1;rw [Vd hs e1];exact hK _ _ e2
  case defer d=>
   obtain ⟨v,e1,e2⟩:=h1
   have:=congrArg (fun x=>x.defers.length) e1
   cases hd:o.dst <;> simp [Act.put,hd] at this
  case enter f args=>
   refine Calls.mono h1 fun e w'' he=>?_
   cases e with
   | returned u=>
    show K (a'.put o.dst u) w''
    obtain ⟨v,e1,e2⟩:=he
    rw [Vd hs e1];exact hK _ _ e2
   | panicked c=>exact he.elim
   | outgrown=>obtain ⟨_,_,hh⟩:=he;exact hh.elim
  case row row args=>exact Rows.mono h1 fun u w'' he=>by obtain ⟨v,e1,e2⟩:=he;rw [Vd hs e1];exact hK _ _ e2
 | halt x w'=>cases x <;> simp only [Oper.upon] at h1 ⊢
theorem wpAny_new{Q:Exit→Act→World→Prop}{a a0:Act}{w:World}{l:List Oper}(S:Sig→World→Prop)(n:Nat)(nw tw:List Nat)(pre:List Nat)(htw:∀ k∈tw,k<n∧k ∉ nw∧k ∉ pre∧∀ o,l[k]?=some o→o.guard=none)(hpd0:∀ p∈pre,∀ o,l[p]?=some o→∀ k∈tw,¬ Deps o k)(hok:calmOk l.toArray n nw pre=true)(hS:S Sig.no w)
 (h:calm P l.toArray S nw tw (fun a'=>∀ σ w',(∀ k∈nw,(σ k).isSome=true)→(∀ k∈tw,(σ k).isSome=true)→S σ w'→wpList P l.toArray Q (l.drop n) (Jx l nw σ a') w') 0 (l.take n) a)
 (listed0:Array Bool) (hs0:listed0.size=l.length) (hl0:∀ k,k<l.length→listed0.getD k true=true→k∈pre) (hp0:∀ p∈pre,listed0.getD p true=true)
 (ha0:PreRun P l pre a a0) :
 wpAny P .any l.toArray Q (left listed0) listed0 a0 w:=by
 have g:=good_of hok
 have hnl:n≤l.length:=by simpa using g.le
 obtain ⟨vs,hvl,hR,hk⟩:=calm_frames _ _ _ h
 have hvn:vs.length=n:=by simp [hvl,hnl]
 obtain ⟨D,hD⟩:∃ D,(dets nw 0 (l.take n)).zip vs=D:=⟨_,rfl⟩
 rw [hD] at hR hk
 simp only [Nat.zero_add] at hk
 have hDl:D.length=n:=by rw [← hD];simp [dets_length,hvn,hnl]
 have hget:∀ k,k<n→(dets nw 0 (l.take n))[k]?=(l[k]?).map fun o=>if k∈nw then none else o.dst:=by
  intro k hk
  rw [dets_get]
  simp [hk]
 have hDk:∀ (k:Nat) (o:Oper) (v:Value),k<n→k ∉ nw→l[k]?=some o→vs[k]?=some v→D[k]?=some (o.dst,v):=by
  intro k o v hkn hnk ho hv
  rw [← hD,List.getElem?_zip_eq_some]
  refine ⟨?_,hv⟩
  rw [hget k hkn,ho]
  simp [hnk]
 have hDd:∀ (k:Nat) (t:Tmp) (v:Value),D[k]?=some (some t,v)→k<n∧k ∉ nw∧∃ o,l[k]?=some o∧o.dst=some t:=by
  intro k t v hk
  have hkn:k<n:=by rw [← hDl];exact (gJ hk).1
  rw [← hD,List.getElem?_zip_eq_some] at hk
  obtain ⟨h1,_⟩:=hk
  rw [hget k hkn,Option.map_eq_some_iff] at h1
  obtain ⟨o,ho,hd⟩:=h1
  by_cases hnk:k∈nw
  ·simp [hnk] at hd
  ·rw [if_neg hnk] at hd
   exact ⟨hkn,hnk,o,ho,hd⟩
 have huniq:∀ (j k:Nat) (t:Tmp) (u v:Value),k≠j→D[k]?=some (some t,u)→D[j]? ≠ some (some t,v):=by
  intro j k t u v hkj h1 h2
  obtain ⟨hkn,_,ok,hok',hdk⟩:=hDd k _ u h1
  obtain ⟨hjn,_,oj,hoj,hdj⟩:=hDd j _ v h2
  exact (g.pair k j ok oj t hkn hjn hkj (by simpa using hok') (by simpa using hoj) hdk).1 hdj
 obtain ⟨F,hF⟩:∃ F:Sig→Nat→Option (Option Tmp × Value),∀ σ k,F σ k=if k∈nw then (l[k]?).map fun o=>(o.dst,(σ k).getD undef) else D[k]?:=⟨_,fun _ _=>rfl⟩
 have hFd:∀ (σ:Sig) (k:Nat) (t:Tmp) (v:Value),F σ k=some (some t,v)→k<n∧∃ o,l[k]?=some o∧o.dst=some t:=by
  intro σ k t v hk
  rw [hF] at hk
  by_cases hnk:k∈nw
  ·rw [if_pos hnk,Option.map_eq_some_iff] at hk
   obtain ⟨o,ho,hd⟩:=hk
   exact ⟨g.newLt k hnk,o,ho,by simp at hd;exact hd.1⟩
  ·rw [if_neg hnk] at hk
   obtain ⟨h1,_,h3⟩:=hDd k t v hk
   exact ⟨h1,h3⟩
 have hFu:∀ (σ:Sig) (j k:Nat) (t:Tmp) (u v:Value),k≠j→F σ k=some (some t,u)→F σ j≠some (some t,v):=by
  intro σ j k t u v hkj h1 h2
  obtain ⟨hkn,ok,hok',hdk⟩:=hFd σ k _ u h1
  obtain ⟨hjn,oj,hoj,hdj⟩:=hFd σ j _ v h2
  exact (g.pair k j ok oj t hkn hjn hkj (by simpa using hok') (by simpa using hoj) hdk).1 hdj
 have hend:∀ (E:Nat→Prop) (a':Act) (σ:Sig),(∀ k,k<n→E k)→Agree (F σ) E a a'→a'=Jx l nw σ (Qs D a):=by
  intro E a' σ hall hA
  have hB:=Zd D huniq a n (by omega)
  rw [List.take_of_length_le (by omega)] at hB
  obtain ⟨k1,k2⟩:=putNew_keeps l σ nw (Qs D a)
  refine act_ext ?_ (hA.defers.trans (hB.defers.symm.trans k1.symm))
  apply Array.ext_getElem?
  intro t
  by_cases hts:t<a.tmps.size
  ·by_cases hw:∃ (k:Nat) (v:Value),F σ k=some (some t,v)
   ·obtain ⟨k,v,hkv⟩:=hw
    obtain ⟨hkn,o,ho,hd⟩:=hFd σ k _ v hkv
    rw [hA.wrote k t v (hall k hkn) hkv hts]
    have hkv':=hkv
    rw [hF] at hkv
    by_cases hnk:k∈nw
    ·rw [if_pos hnk,ho] at hkv
     simp at hkv
     rw [putNew_new l σ t k nw _ hnk (by simp [ho,hd]) (fun j hj hdj=>?_) (by rw [hB.size];exact hts),hkv.2]
     by_cases hjk:j=k
     ·exact hjk
     ·exfalso
      cases hlj:l[j]? with
      | none=>rw [hlj] at hdj;cases hdj
      | some oj=>
       rw [hlj] at hdj
       refine hFu σ j k t v ((σ j).getD undef) (Ne.symm hjk) hkv' ?_
       rw [hF,if_pos hj,hlj]
       simp at hdj
       simp [hdj]
    ·rw [if_neg hnk] at hkv
     rw [Vo l σ t nw _ fun j hj hdj=>?_,hB.wrote k t v hkn hkv hts]
     cases hlj:l[j]? with
     | none=>rw [hlj] at hdj;cases hdj
     | some oj=>
      rw [hlj] at hdj
      refine hFu σ j k t v ((σ j).getD undef) (fun e=>hnk (e▸hj)) hkv' ?_
      rw [hF,if_pos hj,hlj]
      simp at hdj
      simp [hdj]
   ·rw [hA.kept t fun k v _ hkv=>hw ⟨k,v,hkv⟩,Vo l σ t nw _ fun j hj hdj=>?_,hB.kept t fun k v _ hkv=>?_]
    ·obtain ⟨_,hnk,_⟩:=hDd k t v hkv
     exact hw ⟨k,v,by rw [hF,if_neg hnk];exact hkv⟩
    ·cases hlj:l[j]? with
     | none=>rw [hlj] at hdj;cases hdj
     | some oj=>
      rw [hlj] at hdj
      refine hw ⟨j,(σ j).getD undef,?_⟩
      rw [hF,if_pos hj,hlj]
      simp at hdj
      simp [hdj]
  ·rw [Array.getElem?_eq_none (show a'.tmps.size≤t from by rw [hA.size];exact Nat.le_of_not_lt hts),Array.getElem?_eq_none (show (Jx l nw σ (Qs D a)).tmps.size≤t from by rw [k2,hB.size];exact Nat.le_of_not_lt hts)]
 have main:∀ (fuel:Nat) (listed:Array Bool) (a':Act) (w':World) (σ:Sig),listed.size=l.length→left listed=fuel→(∀ j,n≤j→j<l.length→listed.getD j true=false) →
  (∀ k o,k<l.length→listed.getD k true=true→l[k]?=some o→∀ e∈o.after,Region.binds .any e=true→listed.getD e.on false=true) →
  (∀ k∈nw,listed.getD k true=true→(σ k).isSome=true)→(∀ k∈tw,(listed.getD k true=true→(σ k).isSome=true)∧(listed.getD k true=false→σ k=none))→(∀ p∈pre,listed.getD p true=true) →
  Agree (F σ) (fun k=>k<n∧listed.getD k true=true) a a'→S σ w'→wpAny P .any l.toArray Q fuel listed a' w':=by
  intro fuel
  induction fuel with
  | zero=>
   intro listed a' w' σ hs hl ht hc hσ hτ hP hA hSw
   have hall:∀ k,k<l.length→listed.getD k true=true:=fun k hk=>by
    cases hkk:listed.getD k true with
    | true=>rfl
    | false=>have:=left_pos (j:=k) (by omega) hkk;omega
   have hn:n=l.length:=by
    rcases Nat.lt_or_ge n l.length with h | h
    ·have:=hall n h;rw [ht n (Nat.le_refl _) h] at this;cases this
    ·omega
   refine tail_any g 0 n listed a' w' hs (Nat.le_refl _) (fun k _ hk=>hall k hk) ht hl ?_
   rw [hend _ a' σ (fun k hk=>⟨hk,hall k (by omega)⟩) hA]
   exact hR σ w' (fun k hk=>hσ k hk (hall k (by have:=g.newLt k hk;omega))) (fun k hk=>(hτ k hk).1 (hall k (by have:=(htw k hk).1;omega))) hSw
  | succ fuel ih=>
   intro listed a' w' σ hs hl ht hc hσ hτ hP hA hSw
   by_cases hpre:∀ k,k<n→listed.getD k true=true
   ·refine tail_any g (fuel+1) n listed a' w' hs (Nat.le_refl _) (fun k hk _=>hpre k hk) ht hl ?_
    rw [hend _ a' σ (fun k hk=>⟨hk,hpre k hk⟩) hA]
    exact hR σ w' (fun k hk=>hσ k hk (hpre k (g.newLt k hk))) (fun k hk=>(hτ k hk).1 (hpre k (htw k hk).1)) hSw
   ·
    have hex:∃ k,k<n∧listed.getD k true=false:=by
     rcases Classical.em (∃ k,k<n∧listed.getD k true=false) with h | h
     ·exact h
     ·exact absurd (fun k hk=>by
       cases hkk:listed.getD k true with
       | true=>rfl
       | false=>exact absurd ⟨k,hk,hkk⟩ h) hpre
    obtain ⟨m,hm,hmin⟩:∃ m,(m<n∧listed.getD m true=false)∧∀ k,k<m→listed.getD k true=true:=by
     obtain ⟨k,hk⟩:=hex
     induction k using Nat.strongRecOn with
     | _ k ihk=>
      rcases Classical.em (∃ j,j<k∧listed.getD j true=false) with ⟨j,hj,hjl⟩ | h
      ·exact ihk j hj ⟨by omega,hjl⟩
      ·refine ⟨k,hk,fun j hj=>?_⟩
       cases hjj:listed.getD j true with
       | true=>rfl
       | false=>exact absurd ⟨j,hj,hjj⟩ h
    obtain ⟨om,hom⟩:∃ o,l[m]?=some o:=⟨_,List.getElem?_eq_getElem (by omega)⟩
    have hready:m∈Region.ready .any l.toArray listed:=Jz.2 ⟨by simp;omega,hm.2,om,by simpa using hom,fun e he hb=>by
     have:=g.low m om (by simpa using hom) e he hb
     rw [← Jm (by omega)]
     exact hmin _ this⟩
    refine ⟨fun h=>(by rw [h] at hready;cases hready),fun i hi=>?_⟩
    obtain ⟨hi1,hi2,o,ho,hi3⟩:=Jz.1 hi
    have hi1:i<l.length:=by simpa using hi1
    have hol:l[i]?=some o:=by simpa using ho
    have hin:i<n:=by
     rcases Nat.lt_trichotomy i n with h | h | h
     ·exact h
     ·
      subst h
      have hall:∀ d k,i-k=d→k<i→listed.getD k true=true:=by
       intro d
       induction d using Nat.strongRecOn with
       | _ d ihd=>
        intro k hd hk
        by_cases hpk:k∈pre
        ·exact hP k hpk
        obtain ⟨j,hkj,hji,oj,hoj,hwj⟩:=g.sink (by simpa using hi1) k hk hpk
        obtain ⟨e,he,hb,heq⟩:=Jc hwj
        rw [Jm (by omega),← heq]
        rcases Nat.lt_or_ge j i with hlt | hge
        ·have hjl:=ihd (i-j) (by omega) j rfl hlt
         exact hc j oj (by omega) hjl (by simpa using hoj) e he hb
        ·have:j=i:=by omega
         subst this
         rw [ho] at hoj
         cases hoj
         exact hi3 e he hb
      have:=hall _ m rfl hm.1
      rw [hm.2] at this
      cases this
     ·obtain ⟨e,he,hb,heq⟩:=Jc (g.chain i o h (by simpa using hol))
      have:=hi3 e he hb
      rw [heq,← Jm (by omega),ht (i-1) (by omega) (by omega)] at this
      cases this
    obtain ⟨v,hv,hcase⟩:=hk i o (by simp [hin,hol])
    have hAi:=Zd D huniq a i (by omega)
    have hsame:=same_op (ops:=l.toArray) (o:=o) (a:=Qs (D.take i) a) (a':=a') (g.noSel i o ho) (by
     intro t htl
     by_cases hw:∃ (k:Nat) (u:Value),F σ k=some (some t,u)
     ·obtain ⟨k,u,hku⟩:=hw
      obtain ⟨hkn,ok,hok',hdk⟩:=hFd σ k _ u hku
      have hnk:k ∉ nw:=fun hnk=>g.newApart k hnk ok t (by simpa using hok') hdk i o hin ho htl
      have hDu:D[k]?=some (some t,u):=by rw [hF,if_neg hnk] at hku;exact hku
      by_cases hts:t<a.tmps.size
      ·have hki:k≠i:=fun e=>by
        subst e
        rw [hol] at hok'
        cases hok'
        exact g.own k o t hkn ho hdk htl
       rcases (g.pair k i ok o t hkn hin hki (by simpa using hok') ho hdk).2 with h1 | ⟨hlt,hwt⟩ | ⟨hlt,hwt⟩
       ·exact absurd htl h1
       ·obtain ⟨e,he,hb,heq⟩:=Jc hwt
        have hkl:listed.getD k true=true:=by
         rw [Jm (by omega),← heq];exact hi3 e he hb
        rw [hA.wrote k t u ⟨hkn,hkl⟩ hku hts,hAi.wrote k t u hlt hDu hts]
       ·obtain ⟨e,he,hb,heq⟩:=Jc hwt
        have hkl:¬ listed.getD k true=true:=fun hkl=>by
         have:=hc k ok (by omega) hkl hok' e he hb
         rw [heq,← Jm (by omega),hi2] at this
         cases this
        rw [hA.kept t fun k' u' hk' hD'=>?_,hAi.kept t fun k' u' hk' hD'=>?_]
        ·by_cases hkk:k'=k
         ·subst hkk;omega
         ·exact huniq k k' t u' u hkk hD' hDu
        ·by_cases hkk:k'=k
         ·subst hkk;exact hkl hk'.2
         ·exact hFu σ k k' t u' u hkk hD' hku
      ·rw [Array.getElem?_eq_none (show a'.tmps.size≤t from by rw [hA.size];exact Nat.le_of_not_lt hts),Array.getElem?_eq_none (show (Qs (D.take i) a).tmps.size≤t from by rw [hAi.size];exact Nat.le_of_not_lt hts)]
     ·rw [hA.kept t fun k v _ hkv=>hw ⟨k,v,hkv⟩,hAi.kept t fun k v _ hkv=>?_]
      obtain ⟨_,hnk,_⟩:=hDd k t v hkv
      exact hw ⟨k,v,by rw [hF,if_neg hnk];exact hkv⟩)
    have hset:∀ k b,(listed.setIfInBounds i true).getD k b=if k=i then true else listed.getD k b:=by
     intro k b
     by_cases hki:k=i
     ·subst hki;simp [hs,hi1]
     ·have:i≠k:=Ne.symm hki
      simp [Array.getElem?_setIfInBounds_ne this,hki]
    have next:∀ (σ':Sig) (u:Value) w'',F σ' i=some (o.dst,u)→Agree (F σ') (fun k=>k<n∧listed.getD k true=true) a a'→(∀ k∈nw,(listed.setIfInBounds i true).getD k true=true→(σ' k).isSome=true)→(∀ k∈tw,((listed.setIfInBounds i true).getD k true=true→(σ' k).isSome=true)∧((listed.setIfInBounds i true).getD k true=false→σ' k=none))→S σ' w'' →
     wpAny P .any l.toArray Q fuel (listed.setIfInBounds i true) (a'.put o.dst u) w'':=by
     intro σ' u w'' hFi hA' hσ' hτ' hSw''
     refine ih _ _ w'' σ' (by simpa using hs) (by have:=Vz (j:=i) (by omega) hi2;omega) ?_ ?_ hσ' hτ' (fun p hp=>by rw [hset];split <;> first | rfl | exact hP p hp) ?_ hSw''
     ·intro j hj hjl
      rw [hset,if_neg (by omega)]
      exact ht j hj hjl
     ·intro k ok hkl hkt hok' e he hb
      rw [hset]
      split
      ·rfl
      ·rw [hset] at hkt
       by_cases hki:k=i
       ·subst hki
        rw [hol] at hok'
        cases hok'
        exact hi3 e he hb
       ·rw [if_neg hki] at hkt
        exact hc k ok hkl hkt hok' e he hb
     ·have:=hA'.put (j:=i) hFi (fun k t u' hki hD' e=>hFu σ' i k t u' u hki hD' (by rw [hFi,e]))
      refine ⟨this.defers,this.size,fun k t u hk=>this.wrote k t u ?_,fun t ht=>this.kept t fun k u hk=>ht k u ?_⟩
      ·obtain ⟨h1,h2⟩:=hk
       rw [hset] at h2
       by_cases hki:k=i
       ·exact .inr hki
       ·rw [if_neg hki] at h2;exact .inl ⟨h1,h2⟩
      ·rw [hset]
       rcases hk with ⟨h1,h2⟩ | rfl
       ·exact ⟨h1,by split <;> first | rfl | exact h2⟩
       ·exact ⟨hin,by simp⟩
    have hσset:i ∉ nw→∀ k∈nw,(listed.setIfInBounds i true).getD k true=true→(σ k).isSome=true:=fun hni k hk hkl=>by
     rw [hset,if_neg (fun (e:k=i)=>hni (e▸hk))] at hkl
     exact hσ k hk hkl
    have hτset:i ∉ tw→∀ k∈tw,((listed.setIfInBounds i true).getD k true=true→(σ k).isSome=true)∧((listed.setIfInBounds i true).getD k true=false→σ k=none):=fun hni k hk=>by
     rw [hset,if_neg (fun (e:k=i)=>hni (e▸hk))]
     exact hτ k hk
    unfold wpOp
    simp only [ho]
    rcases hcase with ⟨hni,hn1⟩ | ⟨hni,hw1,hc1⟩ | ⟨hni,hw1,rfl⟩
    ·have hg:=g.newPlain i hni o ho
     rw [show Region.wanted o (yielded l.toArray a'.tmps)=true by simp [Region.wanted,hg]]
     refine .inl (hn1.at hsame.1 (by rw [hAi.size,hA.size]) hSw (fun k hk ⟨e,he,hb,hek⟩=>(hτ k hk).1 (by rw [← hek];have:=hi3 e he hb;rw [Jm (by have:=(htw k hk).1;omega)];exact this)) _ _ fun u w'' hSu=>?_)
     refine next (σ.upd i u) u w'' (by rw [hF,if_pos hni,hol];simp [Sig.upd]) ?_ ?_ ?_ hSu
     ·have hne:∀ k,(k<n∧listed.getD k true=true)→F (σ.upd i u) k=F σ k:=fun k hk=>by
       have hki:k≠i:=fun e=>by subst e;rw [hi2] at hk;cases hk.2
       rw [hF,hF]
       simp [Sig.upd,hki]
      exact ⟨hA.defers,hA.size,fun k t u' hk hD'=>hA.wrote k t u' hk (by rw [← hne k hk];exact hD'),fun t ht=>hA.kept t fun k u' hk=>by rw [← hne k hk];exact ht k u' hk⟩
     ·intro k hk hkl
      by_cases hki:k=i
      ·simp [Sig.upd,hki]
      ·rw [hset,if_neg hki] at hkl
       simpa [Sig.upd,hki] using hσ k hk hkl
     ·intro k hk
      have hki:k≠i:=fun e=>(htw k hk).2.1 (e▸hni)
      rw [hset,if_neg hki]
      simpa [Sig.upd,hki] using hτ k hk
    ·rw [hsame.2,hw1]
     by_cases hit:i∈tw
     ·refine .inl (hc1.at hsame.1 (by rw [hAi.size,hA.size]) hSw (fun hit=>(hτ i hit).2 hi2) (fun k hk ⟨e,he,hb,hek⟩=>(hτ k hk).1 (by rw [← hek];have:=hi3 e he hb;rw [Jm (by have:=(htw k hk).1;omega)];exact this)) _ _ fun w'' hSu=>next (σ.upd i v) v w'' (by rw [hF,if_neg hni];exact hDk i o v hin hni hol hv) ?_ ?_ ?_ (by rw [trk,if_pos hit] at hSu;exact hSu))
      ·have hne:∀ k,(k<n∧listed.getD k true=true)→F (σ.upd i v) k=F σ k:=fun k hk=>by
        have hki:k≠i:=fun e=>by subst e;rw [hi2] at hk;cases hk.2
        rw [hF,hF]
        simp [Sig.upd,hki]
       exact ⟨hA.defers,hA.size,fun k t u' hk hD'=>hA.wrote k t u' hk (by rw [← hne k hk];exact hD'),fun t ht=>hA.kept t fun k u' hk=>by rw [← hne k hk];exact ht k u' hk⟩
      ·intro k hk hkl
       by_cases hki:k=i
       ·simp [Sig.upd,hki]
       ·rw [hset,if_neg hki] at hkl
        simpa [Sig.upd,hki] using hσ k hk hkl
      ·intro k hk
       rw [hset]
       by_cases hki:k=i
       ·simp [Sig.upd,hki]
       ·rw [if_neg hki]
        simpa [Sig.upd,hki] using hτ k hk
     ·exact .inl (hc1.at hsame.1 (by rw [hAi.size,hA.size]) hSw (fun hit=>(hτ i hit).2 hi2) (fun k hk ⟨e,he,hb,hek⟩=>(hτ k hk).1 (by rw [← hek];have:=hi3 e he hb;rw [Jm (by have:=(htw k hk).1;omega)];exact this)) _ _ fun w'' hSu=>next σ v w'' (by rw [hF,if_neg hni];exact hDk i o v hin hni hol hv) hA (hσset hni) (hτset hit) (by rw [trk,if_neg hit] at hSu;exact hSu))
    ·rw [hsame.2,hw1]
     have hit:i ∉ tw:=fun hit=>by
      have:=(htw i hit).2.2.2 o hol
      simp [Region.wanted,this] at hw1
     exact next σ undef w' (by rw [hF,if_neg hni];exact hDk i o undef hin hni hol hv) hA (hσset hni) (hτset hit) hSw
 refine main _ listed0 a0 w Sig.no hs0 rfl (fun j hnj hj=>?_) (fun k o hk hkt ho e he hb=>?_) (fun k hk hkt=>?_) (fun k hk=>?_) hp0 ?_ hS
 ·cases hjj:listed0.getD j true with
  | false=>rfl
  | true=>
   have:=(g.preAny j (hl0 j hj hjj)).1
   omega
 ·obtain ⟨_,_,o',ho',_,haf⟩:=g.preAny k (hl0 k hk hkt)
  obtain rfl:o'=o:=by simpa [ho] using ho'.symm
  have:=g.low k o' (by simpa using ho) e he hb
  rw [← Jm (by omega)]
  exact hp0 _ (haf e he hb)
 ·exact absurd hk (g.preAny k (hl0 k (by have:=g.newLt k hk;omega) hkt)).2.1
 ·exact ⟨fun hkt=>absurd (hl0 k (by have:=(htw k hk).1;omega) hkt) (htw k hk).2.2.1,fun _=>rfl⟩
 ·have step:∀ (r done:List Nat) (a1:Act),(∀ x∈r,x∈pre)→preOk l.toArray n nw done r=true→PreRun P l r a1 a0→Agree (F Sig.no) (fun k=>k∈done) a a1 →
   (∀ k∈done,∀ o,l[k]?=some o→∀ e∈o.after,Region.binds .any e=true→e.on∈done)→Agree (F Sig.no) (fun k=>k∈r∨k∈done) a a0:=by
   intro r
   induction r with
   | nil=>
    intro done a1 _ _ hr hA _
    obtain rfl:a0=a1:=hr
    simpa using hA
   | cons p r ih=>
    intro done a1 hrp hpo hr hA hcl
    obtain ⟨hpn,hpw,hpd,⟨o,hop,hgd,haf⟩,hpo'⟩:=preOk_cons hpo
    have hop:l[p]?=some o:=by simpa using hop
    obtain ⟨o',v,ho',hrun,hr'⟩:=hr
    obtain rfl:o'=o:=by simpa [hop] using ho'.symm
    obtain ⟨u,hu,hcase⟩:=hk p o' (by simp [hpn,hop])
    have hAi:=Zd D huniq a p (by omega)
    have hsame:=same_op (ops:=l.toArray) (o:=o') (a:=a1) (a':=Qs (D.take p) a) (g.noSel p o' (by simpa using hop)) (by
     intro t htl
     by_cases hts:t<a.tmps.size
     ·by_cases hw:∃ (k:Nat) (u:Value),F Sig.no k=some (some t,u)
      ·obtain ⟨k,x,hkx⟩:=hw
       obtain ⟨hkn,ok,hok',hdk⟩:=hFd Sig.no k _ x hkx
       have hnk:k ∉ nw:=fun hnk=>g.newApart k hnk ok t (by simpa using hok') hdk p o' hpn (by simpa using hop) htl
       have hDu:D[k]?=some (some t,x):=by rw [hF,if_neg hnk] at hkx;exact hkx
       have hkp:k≠p:=fun e=>by
        subst e
        rw [hop] at hok'
        cases hok'
        exact g.own k o' t hkn (by simpa using hop) hdk htl
       rcases (g.pair k p ok o' t hkn hpn hkp (by simpa using hok') (by simpa using hop) hdk).2 with h1 | ⟨hlt,hwt⟩ | ⟨hlt,hwt⟩
       ·exact absurd htl h1
       ·obtain ⟨e,he,hb,heq⟩:=Jc hwt
        have hkd:k∈done:=heq▸haf e he hb
        rw [hA.wrote k t x hkd hkx hts,hAi.wrote k t x hlt hDu hts]
       ·obtain ⟨e,he,hb,heq⟩:=Jc hwt
        have hkd:k ∉ done:=fun hkd=>hpd (heq▸hcl k hkd ok hok' e he hb)
        rw [hA.kept t fun k' u' hk' hD'=>?_,hAi.kept t fun k' u' hk' hD'=>?_]
        ·by_cases hkk:k'=k
         ·subst hkk;omega
         ·exact huniq k k' t u' x hkk hD' hDu
        ·by_cases hkk:k'=k
         ·subst hkk;exact hkd hk'
         ·exact hFu Sig.no k k' t u' x hkk hD' hkx
      ·rw [hA.kept t fun k v _ hkv=>hw ⟨k,v,hkv⟩,hAi.kept t fun k v _ hkv=>?_]
       obtain ⟨_,hnk,_⟩:=hDd k t v hkv
       exact hw ⟨k,v,by rw [hF,if_neg hnk];exact hkv⟩
     ·rw [Array.getElem?_eq_none (show (Qs (D.take p) a).tmps.size≤t from by rw [hAi.size];exact Nat.le_of_not_lt hts),Array.getElem?_eq_none (show a1.tmps.size≤t from by rw [hA.size];exact Nat.le_of_not_lt hts)])
    have hput:a1.put o'.dst v=a1.put o'.dst u:=by
     rcases hcase with ⟨hni,_⟩ | ⟨_,_,hc1⟩ | ⟨_,hw1,_⟩
     ·exact absurd hni hpw
     ·have h1:=hc1.at (a':=a1) hsame.1.symm (by rw [hAi.size,hA.size]) hS (fun _=>rfl) (fun k hk hd=>absurd hd (hpd0 p (hrp p (by simp)) o' (by simpa using hop) k hk)) (fun a2 _=>a2=a1.put o'.dst u) (fun _ _ _=>False) (fun _ _=>rfl)
      unfold Oper.wp at h1
      rw [hrun w] at h1
      simpa only [Oper.upon] using h1
     ·exfalso
      simp [Region.wanted,hgd] at hw1
    rw [hput] at hr'
    have hFp:F Sig.no p=some (o'.dst,u):=by rw [hF,if_neg hpw];exact hDk p o' u hpn hpw hop hu
    have hA':=hA.put (j:=p) hFp (fun k t u' hki hD' e=>hFu Sig.no p k t u' u hki hD' (by rw [hFp,e]))
    have hA2:Agree (F Sig.no) (fun k=>k∈p::done) a (a1.put o'.dst u):=
     ⟨hA'.defers,hA'.size,fun k t x hk=>hA'.wrote k t x (by
      rcases List.mem_cons.1 hk with h | h
      ·exact .inr h
      ·exact .inl h),fun t ht=>hA'.kept t fun k x hk=>ht k x (by
      rcases hk with h | h
      ·exact List.mem_cons_of_mem _ h
      ·exact h▸List.mem_cons_self ..)⟩
    have:=ih (p::done) _ (fun x hx=>hrp x (by simp [hx])) hpo' hr' hA2 (fun k hk o ho e he hb=>by
     rcases List.mem_cons.1 hk with rfl | hk
     ·rw [hop] at ho
      cases ho
      exact List.mem_cons_of_mem _ (haf e he hb)
     ·exact List.mem_cons_of_mem _ (hcl k hk o ho e he hb))
    refine ⟨this.defers,this.size,fun k t x hk=>this.wrote k t x ?_,fun t ht=>this.kept t fun k x hk=>ht k x ?_⟩
    ·rcases hk with hk | hk
     ·rcases List.mem_cons.1 hk with rfl | hk
      ·exact .inr (List.mem_cons_self ..)
      ·exact .inl hk
     ·exact .inr (List.mem_cons_of_mem _ hk)
    ·rcases hk with hk | hk
     ·exact .inl (List.mem_cons_of_mem _ hk)
     ·rcases List.mem_cons.1 hk with rfl | hk
      ·exact .inl (List.mem_cons_self ..)
      ·exact .inr hk
  have h0:Agree (F Sig.no) (fun k=>k∈([]:List Nat)) a a:=⟨rfl,rfl,fun k t v hk _ _=>(by cases hk),fun t _=>rfl⟩
  have:=step pre [] a (fun x hx=>hx) g.preOrd ha0 h0 (fun k hk=>by cases hk)
  refine ⟨this.defers,this.size,fun k t x hk=>this.wrote k t x (.inl (hl0 k (by omega) hk.2)),fun t ht=>this.kept t fun k x hk=>ht k x ?_⟩
  rcases hk with hk | hk
  ·exact ⟨(g.preAny k hk).1,hp0 k hk⟩
  ·cases hk
theorem wp_region_new{id:Nat}{Q:Exit→Act→World→Prop}{a:Act}{w:World}{l:List Oper}(S:Sig→World→Prop)(n:Nat)(nw tw:List Nat)(htw:∀ k∈tw,k<n∧k ∉ nw∧∀ o,l[k]?=some o→o.guard=none)(hm:P.follows .mixedOrders=true)(hok:calmOk l.toArray n nw=true)(hS:S Sig.no w.drew)
 (h:calm P l.toArray S nw tw (fun a'=>∀ σ w',(∀ k∈nw,(σ k).isSome=true)→(∀ k∈tw,(σ k).isSome=true)→S σ w'→wpList P l.toArray Q (l.drop n) (Jx l nw σ a') w') 0 (l.take n) a):(Code.region id l.toArray true).wp P Q a w:=by
 refine wp_region_any hm ?_
 have hl:=left_none l.toArray.size
 have:=wpAny_new (a0:=a) S n nw tw [] (fun k hk=>⟨(htw k hk).1,(htw k hk).2.1,by simp,(htw k hk).2.2⟩) (fun p hp=>by cases hp) hok hS h (Array.replicate l.toArray.size false) (by simp) (fun k hk hkt=>by simp [hk] at hkt) (fun p hp=>by cases hp) rfl
 rw [hl] at this
 exact this
theorem calm_value{R:Act→Prop}{a:Act}{o:Oper}{rest:List Oper}{i:Nat}{v:Value}(hi:i ∉ nw)(ht:i ∉ tw)(hw:Region.wanted o (yielded ops a.tmps)=true)(h1:∀ σ w,S σ w→(execOp a.eval o).run P w=.ok (.value v) w)(h:calm P ops S nw tw R (i+1) rest (a.put o.dst v)):calm P ops S nw tw R i (o::rest) a:=
 calm_step v hi hw (fun σ w hS _ _ K Q hK=>by unfold Oper.wp;rw [h1 σ w hS];exact hK w (by rw [trk,if_neg ht];exact hS)) h
theorem calm_track{R:Act→Prop}{a:Act}{o:Oper}{rest:List Oper}{i:Nat}{v:Value}(hi:i ∉ nw)(ht:i∈tw)(hw:Region.wanted o (yielded ops a.tmps)=true)(h1:∀ σ w,S σ w→σ i=none→(∀ k∈tw,Deps o k→(σ k).isSome=true)→∃ w',(execOp a.eval o).run P w=.ok (.value v) w'∧S (σ.upd i v) w')(h:calm P ops S nw tw R (i+1) rest (a.put o.dst v)):calm P ops S nw tw R i (o::rest) a:=
 calm_step v hi hw (fun σ w hS hf hd K Q hK=>by
  obtain ⟨w',hr,hs⟩:=h1 σ w hS (hf ht) hd
  unfold Oper.wp
  rw [hr]
  exact hK w' (by rw [trk,if_pos ht];exact hs)) h
theorem calm_call{R:Act→Prop}{a:Act}{o:Oper}{rest:List Oper}{i:Nat}{v:Value}{f:FuncId}{args:Array Value}(hi:i ∉ nw)(hit:i∈tw)(hw:Region.wanted o (yielded ops a.tmps)=true)(hr:∀ w,(execOp a.eval o).run P w=.ok (.enter f args) w)
 (hc:∀ σ w,S σ w→σ i=none→(∀ k∈tw,Deps o k→(σ k).isSome=true)→Calls P f args w fun e w'=>e=.returned v∧S (σ.upd i v) w') (h:calm P ops S nw tw R (i+1) rest (a.put o.dst v)):calm P ops S nw tw R i (o::rest) a:=
 calm_step v hi hw (fun σ w hS hf hd K Q hK=>by
  unfold Oper.wp
  rw [hr w]
  refine (hc σ w hS (hf hit) hd).mono ?_
  rintro e w' ⟨rfl,hS'⟩
  exact hK w' (by rw [trk,if_pos hit];exact hS')) h
end
end Go.Proofs.YthekdeikodppkaaGreatDoor.Trd
namespace Go.Proofs.YthekdeikodppkaaGreatDoor
open Go.RowKit
section
variable {P:Program} {ops:Array Oper} {S:Sig→World→Prop} {nw tw:List Nat} {R:Act→Prop} {a:Act} {o:Oper} {rest:List Oper} {i:Nat}
theorem scalm_store{ty:TypeId}(x y:Operand)(hi:i ∉ nw)(hit:i∈tw)(hw:Region.wanted o (yielded ops a.tmps)=true)(ho:o.op=.store ty x y){g off:Nat}(hx:a.eval x=.pointer (some ⟨g,off,none⟩)){u:Value}(hv:a.eval y=u)(hu:u.cells=#[u])
 (hinfo:(P.info? ty).map (·.size)=some 1) (h1:u.oneCell'=true)
 (hS:∀ σ w,S σ w→σ i=none→(∀ k∈tw,Trd.Deps o k→(σ k).isSome=true)→∃ w0 cur e ps,Own w0 w (blk g (.cells cur e)::ps)∧off<cur.size∧∀ w',Own w0 w' (blk g (.cells (cur.setIfInBounds off u) e)::ps)→S (σ.upd i undef) w')
 (h:Trd.calm P ops S nw tw R (i+1) rest (a.put o.dst undef)):Trd.calm P ops S nw tw R i (o::rest) a:=
 Trd.calm_step undef hi hw (fun σ w hs hf hd K Q hK=>by
  obtain ⟨w0,cur,e,ps,H,hfit,hfin⟩:=hS σ w hs (hf hit) hd
  have hr:=run_storeAt_row (P:=P) (ty:=ty) (off:=off) (a.eval y) H.block.1 (by rw [hv,hu];simpa using hinfo) (by rw [hv,hu];simp;omega) (by rw [hv,hu];simpa using h1)
  rw [hv,hu] at hr
  have h3:=H.setRow (cur':=cur.setIfInBounds off u)
  have e3:(cur.toList.take off++#[u].toList++cur.toList.drop (off+#[u].size)).toArray=cur.setIfInBounds off u:=by
   rw [show cur.setIfInBounds off u=(cur.toList.set off u).toArray by apply Array.toList_inj.1;simp,List.set_eq_take_append_cons_drop,if_pos (by simpa using hfit)]
   simp
  rw [e3] at hr
  unfold Oper.wp execOp
  simp only [ho,hx,hv,Sem.run_bind,Sem.run_pure,Result.andThen_ok,hr]
  exact hK _ (by rw [Trd.trk,if_pos hit];exact hfin _ h3)) h
theorem scalm_call{v:Value}{f:FuncId}{args:Array Value}(hi:i ∉ nw)(hit:i ∉ tw)(hw:Region.wanted o (yielded ops a.tmps)=true)(hr:∀ w,(execOp a.eval o).run P w=.ok (.enter f args) w)
 (hc:∀ σ w,S σ w→Calls P f args w fun e w'=>e=.returned v∧S σ w') (h:Trd.calm P ops S nw tw R (i+1) rest (a.put o.dst v)):Trd.calm P ops S nw tw R i (o::rest) a:=
 Trd.calm_step v hi hw (fun σ w hS hf hd K Q hK=>by
  unfold Oper.wp
  rw [hr w]
  refine (hc σ w hS).mono ?_
  rintro e w' ⟨rfl,hS'⟩
  exact hK w' (by rw [Trd.trk,if_neg hit];exact hS')) h
end
section
variable {P:Program} {ops:Array Oper} {S:Sig→World→Prop} {nw tw:List Nat} {R:Act→Prop} {a:Act} {o:Oper} {rest:List Oper} {i:Nat}
theorem kcalm_call{v:Value}{f:FuncId}{args:Array Value}(hi:i ∉ nw)(hit:i∈tw)(hw:Region.wanted o (yielded ops a.tmps)=true)(hr:∀ w,(execOp a.eval o).run P w=.ok (.enter f args) w)
 (hc:∀ σ w,S σ w→σ i=none→Calls P f args w fun e w'=>e=.returned v∧S (σ.upd i v) w') (h:Trk.calm P ops S nw tw R (i+1) rest (a.put o.dst v)):Trk.calm P ops S nw tw R i (o::rest) a:=
 Trk.calm_step v hi hw (fun σ w hS hf K Q hK=>by
  unfold Oper.wp
  rw [hr w]
  refine (hc σ w hS (hf hit)).mono ?_
  rintro e w' ⟨rfl,hS'⟩
  exact hK w' (by rw [Trk.trk,if_pos hit];exact hS')) h
end
section
variable {P:Program} {ops:Array Oper} {S:Sig→World→Prop} {nw:List Nat} {R:Act→Prop} {a:Act} {o:Oper} {rest:List Oper} {i:Nat}
theorem ncalm_call{f:FuncId}{args:Array Value}(hi:i∈nw)(hr:∀ w,(execOp a.eval o).run P w=.ok (.enter f args) w)
 (hc:∀ σ w,S σ w→Calls P f args w fun e w'=>∃ v,e=.returned v∧S (σ.upd i v) w') (h:calm P ops S nw R (i+1) rest a):calm P ops S nw R i (o::rest) a:=
 calm_new hi (fun σ w hS K Q hK=>by
  unfold Oper.wp
  rw [hr w]
  refine (hc σ w hS).mono ?_
  rintro e w' ⟨v,rfl,hS'⟩
  exact hK v w' hS') h
end
end Go.Proofs.YthekdeikodppkaaGreatDoor
namespace Go.Proofs.YthekdeikodppkaaGreatDoor
open Go.RowKit Go.ChangeShapes Go.WideShapes Go.Deep
section
variable {H:Type} {enc:TypeId × Value→H} {P:Program} {w:World}
theorem rd_open{t e:TypeId}{v:Value}{d:DataW H}{p:List MemPlace}(size:Nat)(ht:P.underlying t=some (.slice e))(hc:P.cellsOf e=size){a:Option Addr}{len cap:Nat}(hv:v=.slice a len cap)
 (h:DataW.Trod enc P w 0 (fun _=>true) true t v d p) :
 ∃ (E:Nat→List Value),Rd w size v len ((List.range len).flatMap E)∧(∀ i,i<len→(E i).length=size∧∃ m x,DataW.trod enc P w 0 (fun _=>true) true m e (E i)=some x) ∧
  (d=.nil∧len=0∨∃ elems spare,d=.slice elems spare∧elems.length=len∧spare.length=cap-len):=by
 obtain ⟨fuel,hf⟩:=h
 subst hv
 rcases open_slice ht hf with ⟨hcs,hx⟩ | ⟨ad,len',cap',m,n,D,Pl,hcs,_,hl,hm,hmm,hx,hel⟩
 ·simp [Value.cells] at hcs
  obtain ⟨rfl,rfl,rfl⟩:=hcs
  simp only [Prod.mk.injEq] at hx
  exact ⟨fun _=>[],by simpa using Rd.nil w size,fun i hi=>by omega,.inl ⟨hx.1,rfl⟩⟩
 ·simp [Value.cells] at hcs
  obtain ⟨rfl,rfl,rfl⟩:=hcs
  simp only [if_true] at hmm
  subst hmm
  obtain ⟨E,hE⟩:=choose_lt (α:=List Value) (p:=fun i cs'=>w.cells? 0 (ad.add (i*P.cellsOf e)) (P.cellsOf e)=some cs'∧DataW.trod enc P w 0 (fun _=>true) true n e cs'=some (D i,Pl i)) hel
  have hlen:∀ i,i<m→(E i).length=size:=fun i hi=>by
   obtain ⟨_,h2,_⟩:=World.cells?_some (hE i hi).1
   rw [← hc];exact h2
  have hfl:∀ k,k≤m→((List.range k).flatMap E).length=k*size:=by
   intro k
   induction k with
   | zero=>intro _;simp
   | succ k ih=>
    intro hk
    rw [List.range_succ,List.flatMap_append,lJ,ih (by omega)]
    simp [hlen k (by omega),Nat.add_mul]
  have hget:∀ k,k≤m→∀ j u,((List.range k).flatMap E)[j]?=some u→w.cell? (ad.add j)=some u:=by
   intro k
   induction k with
   | zero=>intro _ j u hu;simp at hu
   | succ k ih=>
    intro hk j u hu
    rw [List.range_succ,List.flatMap_append] at hu
    by_cases hj:j<((List.range k).flatMap E).length
    ·rw [List.getElem?_append_left hj] at hu
     exact ih (by omega) j u hu
    ·rw [List.getElem?_append_right (by omega)] at hu
     rw [hfl k (by omega)] at hu hj
     obtain ⟨_,_,h3⟩:=World.cells?_some (hE k (by omega)).1
     have hu':(E k)[j-k*size]?=some u:=by simpa using hu
     have hlt:j-k*size<P.cellsOf e:=by
      have:=(gJ hu').1
      rw [hlen k (by omega)] at this
      rw [hc];exact this
     have:=h3 _ hlt
     rw [hu',hc,add_add] at this
     rw [show k*size+(j-k*size)=j by omega] at this
     exact this
  refine ⟨E,⟨hfl len hl,_,_,rfl,hl,hm,by simp,fun ad' had=>?_⟩,fun i hi=>⟨hlen i (by omega),n,_,(hE i (by omega)).2⟩,.inr ?_⟩
  ·cases had
   exact hget len hl
  ·simp only [Prod.mk.injEq] at hx
   exact ⟨_,_,hx.1,by simp,by simp⟩
end
end Go.Proofs.YthekdeikodppkaaGreatDoor
