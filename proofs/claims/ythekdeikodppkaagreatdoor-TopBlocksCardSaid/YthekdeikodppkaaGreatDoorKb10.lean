/-
  Texts of this claim, one behind the other: The stable sort, whatever the elements; The stable sort of slices of ints; The stable sort, whatever the elements; The stable sort of slices of ints; The stable sort, whatever the elements; The stable sort of slices of ints; The stable sort, whatever the elements; The stable sort of slices of ints.
-/
import Derived.Test.YthekdeikodppkaaGreatDoorKb9
set_option linter.unusedVariables false
namespace Go.Proofs.YthekdeikodppkaaGreatDoor
open Go.RowKit
set_option maxRecDepth 1000000
def T_symL_any(A:Type)(eC:A→List Value)(EL:TypeId)(SZ:Nat)(F_symMergeCmpFunc:FuncId)(cf:Nat→Value)(Cmps:World→List Piece→Nat→(A→Prop)→(A→Int)→Prop):Prop:=∀ ⦃w0:World⦄ ⦃w:World⦄ ⦃ps:List Piece⦄ ⦃ok:A→Prop⦄ ⦃key:A→Int⦄ ⦃B:Nat⦄ ⦃g c N:Nat⦄ ⦃p y q:List A⦄ ⦃u:A⦄ ⦃a m b:Nat⦄ (hcmp:Cmps w0 ps B ok key) (hoku:ok u) (hoky:∀ v∈y,ok v) (hy:Srt key y) (ha:a=p.length) (hm:m=a+1) (hb:b=m+y.length) (hN:N=(p++[u]++y++q).length) (hNb:N≤1000000) (H:Own w0 w (slc EL SZ (.slice (some ⟨g,0,none⟩) N c) N (rows eC (p++[u]++y++q))::ps)),Calls Tryz.prog F_symMergeCmpFunc #[.slice (some ⟨g,0,none⟩) N c,.int .i64 a,.int .i64 m,.int .i64 b,cf B] w (Ret fun _ w'=>∃ z,Mrg key [u] y z∧Own w0 w' (slc EL SZ (.slice (some ⟨g,0,none⟩) N c) N (rows eC (p++z++q))::ps))
theorem mk_symL_any(A:Type)(eC:A→List Value)(EL:TypeId)(SZ:Nat)(F_symMergeCmpFunc:FuncId)(cf:Nat→Value)(Cmps:World→List Piece→Nat→(A→Prop)→(A→Int)→Prop)(h:T_symL_any A eC EL SZ F_symMergeCmpFunc cf Cmps:=by
 unfold T_symL_any
 intro w0 w ps ok key B g c N p y q u a m b hcmp hoku hoky hy ha hm hb hN hNb H
 have hbN:b≤N:=by rw [hN];simp only [lJ,List.length_singleton];omega
 have hNc:N≤c:=by obtain ⟨_,_,e,h1,_⟩:=H.rd.shape;cases e;exact h1
 have hc2:c≤9223372036854775807:=by obtain ⟨_,_,e,_,h1⟩:=H.rd.shape;cases e;exact h1
 have hgu:(p++[u]++y++q)[a]?=some u:=by
  have:p++[u]++y++q=p++u::(y++q):=by simp
  rw [this];exact get_mid _ _ _ ha
 have hgy:∀ t v,y[t]?=some v→(p++[u]++y++q)[m+t]?=some v:=by
  intro t v hv
  have:p++[u]++y++q=(p++[u])++(y++q):=by simp
  rw [this,List.getElem?_append_right (by simp only [lJ,List.length_singleton];omega),List.getElem?_append_left (by have:=(gJ hv).1;simp only [lJ,List.length_singleton];omega)]
  simp only [lJ,List.length_singleton]
  rw [show m+t-(p.length+1)=t by omega]
  exact hv
 have HGU:=jd hgu
 have HGY:=jd hgy
 have HP:=jd ha
 have HB:=jd hb
 have HN:=jd hN
 have HC:=jd hcmp
 have HOK:=jd hoky
 have HS:=jd hy
 obtain ⟨L,hL⟩:∃ L,Hid (p++[u]++y++q=L):=⟨_,jd rfl⟩
 rw [hL.out] at H HGU HGY
 have hmb:m≤b:=by omega
 have hma:((m:Int)-(a:Int))=1:=by omega
 have ham:a<m:=by omega
 have haN:(a:Int)<(N:Int):=by omega
 have HM:=jd hm
 clear ha hb hN hcmp hoky hy hgu hgy hm
 go_enter fusymMergeCmpFunc,ntsymMergeCmpFunc
 go_wp2_with fail
 go_loopw [10,11] (fun s10 s11 wx=>∃ (i j:Nat),s10=.int .i64 i∧s11=.int .i64 j∧m≤i∧i≤j∧j≤b∧Hid (∀ (t:Nat) (v:A),m+t<i→y[t]?=some v→key v<key u)∧Hid (∀ (t:Nat) (v:A),j≤m+t→y[t]?=some v→key u≤key v)∧Own w0 wx ((sL g N c L)::ps)) (fun s10 s11 _=>(intOf s11).toNat-(intOf s10).toNat)
 case atStart=>exact ⟨m,b,rfl,rfl,by omega,by omega,by omega,jd (fun t v h=>by omega),jd (fun t v h hv=>by have:=(gJ hv).1;have:=HB.out;omega),H⟩
 case round=>
  clear H
  obtain ⟨i,j,rfl,rfl,hmi,hij,hjb,hlo,hhi,H⟩:=hrel
  by_cases hlt:i<j
  ·obtain ⟨h,hh⟩:∃ h,Hid ((i+j)/2=h):=⟨_,rfl⟩
   have hih:i≤h:=by rw [← hh.out];omega
   have hhj:h<j:=by rw [← hh.out];omega
   have hsI:(((i:Int)+(j:Int))/2)=(h:Int):=by have:=hh.out;omega
   have hsU:IntKind.u64.wrap ((i:Int)+(j:Int))=(i:Int)+(j:Int):=by simp [IntKind.wrap,IntKind.bits,IntKind.signed];omega
   obtain ⟨t,ht⟩:∃ t,h=m+t:=⟨h-m,by omega⟩
   obtain ⟨v,hv⟩:=Ql (l:=y) (k:=t) (by have:=HB.out;omega)
   have hg:=HGY.out t v hv
   rw [← ht] at hg
   have HG:=jd hg
   have hokv:ok v:=HOK.out v (List.mem_of_getElem? hv)
   have hcall:=fun (wz:World) (h:Own w0 wz ((sL g N c L)::ps))=>HC.out wz _ h v u hokv hoku
   have hcl:=cmpI_lt (key v) (key u)
   obtain ⟨cv,hcv⟩:∃ cv,Hid (cmpI (key v) (key u)=cv):=⟨_,rfl⟩
   simp only [hcv.out] at hcall hcl
   have HCALL:=jd hcall
   have hhN:(h:Int)<(N:Int):=by omega
   have hlo2:key v<key u→Hid (∀ (t':Nat) (v':A),m+t'<h+1→y[t']?=some v'→key v'<key u):=fun hk=>jd fun t' v' ht' hv'=>by
    by_cases e:t'=t
    ·subst e;rw [hv] at hv';cases hv';exact hk
    ·have h1:=List.pairwise_iff_getElem.1 HS.out t' t (gJ hv').1 (gJ hv).1 (by omega)
     rw [(gJ hv').2,(gJ hv).2] at h1
     omega
   have hhi2:¬ key v<key u→Hid (∀ (t':Nat) (v':A),h≤m+t'→y[t']?=some v'→key u≤key v'):=fun hk=>jd fun t' v' ht' hv'=>by
    by_cases e:t'=t
    ·subst e;rw [hv] at hv';cases hv';omega
    ·have h1:=List.pairwise_iff_getElem.1 HS.out t t' (gJ hv).1 (gJ hv').1 (by omega)
     rw [(gJ hv').2,(gJ hv).2] at h1
     omega
   have HLO2:=jd hlo2
   have HHI2:=jd hhi2
   clear hlo2 hhi2 hg hv ht hcall
   go_upto_region 5 with (fail)
   refine Qa (fun w1=>Own w0 w1 ((sL g N c L)::ps)) 10 (by kernel_rfl) (by kernel_rfl) H.drew ?_
   simp only [List.take_succ_cons,List.take_zero,List.drop_succ_cons,List.drop_zero]
   repeat
    first
    | (refine calm_value (v:=?_) (by decide) rfl (fun σ w1 hS=>?_) ?_
       rotate_left
       ·obtain ⟨c1,c1'⟩:=el hS.rd HG.out;obtain ⟨c2,c2'⟩:=el hS.rd HGU.out
        first | (go_simp;rfl) | rfl
       simp only [Act.put,putC])
    | (refine calm_skip (by decide) rfl ?_
       simp only [Act.put,putC])
   refine calm_call (v:=.int .i64 cv) (by decide) rfl (fun w1=>(by go_simp;first | exact ⟨rfl,rfl⟩ | rfl)) (fun σ w1 hS=>?_) ?_
   ·refine (HCALL.out w1 hS).mono ?_
    rintro e w2 ⟨_,rfl,rfl,h2⟩
    exact ⟨rfl,hS.join h2⟩
   simp only [Act.put,putC]
   refine calm_nil ?_
   intro wd HD
   clear H
   by_cases hk:key v<key u
   ·have hk2:decide (cv<0)=true:=by rw [hcl];simp [hk]
    have hn:=HLO2.out hk
    clear hk hcl HHI2
    go_wp2
    go_roundw
    case rel=>exact ⟨h+1,j,by go_num,rfl,by omega,by omega,by omega,hn,hhi,HD⟩
    case measure=>simp [intOf];omega
   ·have hk2:decide (cv<0)=false:=by rw [hcl];simp [hk]
    have hn:=HHI2.out hk
    clear hk hcl HLO2
    go_wp2
    go_roundw
    case rel=>exact ⟨i,h,rfl,by go_num,by omega,by omega,by omega,hlo,hn,HD⟩
    case measure=>simp [intOf];omega
  ·have hij2:i=j:=by omega
   subst hij2
   obtain ⟨y1,y2,hys,hy1⟩:=split_at y (i-m) (by have:=HB.out;omega)
   have hlt1:∀ v∈y1,key v<key u:=fun v hv=>by
    obtain ⟨t,ht,rfl⟩:=List.getElem_of_mem hv
    refine hlo.out t _ (by omega) ?_
    rw [hys,List.getElem?_append_left ht,List.getElem?_eq_getElem ht]
   have hge2:∀ v∈y2,key u≤key v:=fun v hv=>by
    obtain ⟨t,ht,rfl⟩:=List.getElem_of_mem hv
    refine hhi.out (y1.length+t) _ (by omega) ?_
    rw [hys,List.getElem?_append_right (by omega),Nat.add_sub_cancel_left,List.getElem?_eq_getElem ht]
   have hmrg:Mrg key [u] y (y1++u::y2):=by
    have:=Mrg.one_left (key:=key) (x:=u) (y1:=y1) (y2:=y2) (by rw [← hys];exact HS.out) hlt1 hge2
    rwa [← hys] at this
   have HMRG:=jd hmrg
   have HY1:=jd hy1
   have hLe:Hid (L=p++u::(y1++y2++q)):=jd (by rw [← hL.out,hys];simp)
   have hiw:IntKind.i64.wrap ((i:Int)-1)=(i:Int)-1:=IntWalk.i64_in _ ⟨by omega,by omega⟩
   have hHL:Hid (L.length=N):=jd (by rw [← hL.out,← HN.out])
   clear hlo hhi hys hlt1 hge2 hmrg hy1 hlt
   rw [hLe.out] at H
   go_wp2_with fail
   go_loopw [13] (fun s13 wx=>∃ (k:Nat) (Y1 Y2:List A),s13=.int .i64 k∧a≤k∧k+1≤i∧Hid (y1=Y1++Y2)∧Hid (a+Y1.length=k)∧Own w0 wx ((sL g N c (p++Y1++u::(Y2++(y2++q))))::ps)) (fun s13 _=>i-(intOf s13).toNat)
   case atStart=>exact ⟨a,[],y1,rfl,by omega,by omega,jd rfl,jd rfl,by simpa using H⟩
   case round=>
    clear H
    obtain ⟨k,Y1,Y2,rfl,hk1,hk2,hy1,hYl,H⟩:=hrel
    by_cases hki:k+1<i
    ·obtain ⟨v,Y3,hY2⟩:∃ v Y3,Y2=v::Y3:=by
      cases Y2 with
      | nil=>exfalso;have h1:=HY1.out;have h2:=hYl.out;rw [hy1.out] at h1;simp at h1;have:=HM.out;omega
      | cons v Y3=>exact ⟨v,Y3,rfl⟩
     subst hY2
     have el1:p++Y1++u::(v::Y3++(y2++q))=(p++Y1)++u::([]++v::(Y3++(y2++q))):=by simp
     rw [el1] at H
     have hkl:k=(p++Y1).length:=by rw [lJ,← HP.out];exact hYl.out.symm
     have hLn:((p++Y1)++u::([]++v::(Y3++(y2++q)))).length=N:=by
      rw [← hHL.out,hLe.out,hy1.out]
      simp only [lJ,List.length_cons,List.length_nil]
      omega
     have hg1:((p++Y1)++u::([]++v::(Y3++(y2++q))))[k]?=some u:=get_mid _ _ _ hkl
     have hg2:((p++Y1)++u::([]++v::(Y3++(y2++q))))[k+1]?=some v:=by
      have:(p++Y1)++u::([]++v::(Y3++(y2++q)))=((p++Y1)++[u])++v::(Y3++(y2++q)):=by simp
      rw [this]
      exact get_mid _ _ _ (by rw [lJ,List.length_singleton,← hkl])
     have hsw:=set_swap (p++Y1) [] (Y3++(y2++q)) u v (i:=k) (j:=k+1) hkl (by simp only [List.length_nil];omega)
     obtain ⟨M,hM⟩:∃ M,Hid ((p++Y1)++u::([]++v::(Y3++(y2++q)))=M):=⟨_,jd rfl⟩
     rw [hM.out] at H hg1 hg2 hsw hLn
     have HG1:=jd hg1
     have HG2:=jd hg2
     have e1:=set_rows (l:=M) (i:=k) (by rw [hLn];omega) v
     have e2:=(set_rows (l:=M.set k v) (i:=(k+1)) (by rw [List.length_set,hLn];omega) u).trans (show rows eC ((M.set k v).set (k+1) u)=rows eC (p++(Y1++[v])++u::(Y3++(y2++q))) from by rw [hsw];simp)
     have E1:=jd e1
     have E2:=jd e2
     have hkiI:(k:Int)<(i:Int)-1:=by omega
     have hkN:(k:Int)<(N:Int):=by omega
     have hkN1:(k:Int)+1<(N:Int):=by omega
     have hkT:((k:Int)+1).toNat=k+1:=by omega
     have hkw:IntKind.i64.wrap ((k:Int)+1)=(k:Int)+1:=IntWalk.i64_in _ ⟨by omega,by omega⟩
     have hY':Hid (y1=(Y1++[v])++Y3):=jd (by rw [hy1.out];simp)
     have hYl':Hid (a+(Y1++[v]).length=k+1):=jd (by rw [lJ,List.length_singleton];have:=hYl.out;omega)
     clear hg1 hg2 hsw hLn e1 e2 el1 hkl hM
     go_upto_region 11 with (fail)
     refine wp_region_pres (fun _ w1=>Own w0 w1 ((sL g N c M)::ps)) 14 [] [2,3,4] (by kernel_rfl) (by kernel_rfl) (by kernel_rfl) (by kernel_rfl) (fun _ _ d _ _ h=>by cases d <;> exact h) ⟨_,_,rfl,fun w=>(by first | rfl | (go_simp;rfl)),_,_,rfl,fun w=>(by first | rfl | (go_simp;rfl)),_,_,rfl,fun w=>(by first | rfl | (go_simp;rfl)),rfl⟩ H.drew ?_
     simp only [List.take_succ_cons,List.take_zero,List.drop_succ_cons,List.drop_zero]
     repeat
      first
      | (refine calm_value (v:=?_) (by decide) rfl (fun σ w1 hS=>?_) ?_
         rotate_left
         ·obtain ⟨c1,c1'⟩:=el hS.rd HG1.out;obtain ⟨c2,c2'⟩:=el hS.rd HG2.out
          first | (go_simp;rfl) | rfl
         simp only [Act.put,putC])
      | (refine calm_skip (by decide) rfl ?_
         simp only [Act.put,putC])
     refine calm_nil ?_
     intro σ2 wd2 _ H2
     simp only [Jx,List.foldl_nil]
     clear H
     go_wp2_with (first
      | (refine Jf rfl _ _ rfl (i:=k) (by first | rfl | (rw [Nat.mul_one];rfl)) H2 (eC v) rfl (by kernel_rfl) rfl (by omega) (e_one v) ?_;clear H2;intro w5 H;rw [E1.out] at H)
      | (refine Jf rfl _ _ rfl (i:=k+1) (by first | rfl | (rw [Nat.mul_one];rfl)) H (eC u) rfl (by kernel_rfl) rfl (by omega) (e_one u) ?_;clear H;intro w6 H;rw [E2.out] at H))
     go_roundw
     case rel=>exact ⟨k+1,Y1++[v],Y3,by go_num,by omega,by omega,hY',hYl',H⟩
     case measure=>simp [intOf];omega
    ·have hY20:Y2=[]:=by
      have h1:=HY1.out;have h2:=hYl.out
      rw [hy1.out,lJ] at h1
      have:=HM.out
      exact eJ (by omega)
     have hnk:¬ ((k:Int)<(i:Int)-1):=by omega
     have e1:Hid (y1=Y1):=jd (by rw [hy1.out,hY20,List.append_nil])
     have el2:p++Y1++u::(Y2++(y2++q))=p++(y1++u::y2)++q:=by rw [hY20,e1.out];simp
     rw [el2] at H
     clear el2 hY20 hki
     go_wp2
     go_end0
     exact ⟨_,rfl,_,HMRG.out,by simpa using H⟩):T_symL_any A eC EL SZ F_symMergeCmpFunc cf Cmps:=h
end Go.Proofs.YthekdeikodppkaaGreatDoor
namespace Go.Proofs.YthekdeikodppkaaGreatDoor
open Go.RowKit
namespace SI
open Go.Proofs.Tryz renaming func379 → fusymMergeCmpFunc, ntmps379 → ntsymMergeCmpFunc
open Go.Proofs.YthekdeikodppkaaGreatDoor.SI renaming ie → eC
section
variable {w0 w:World} {ps:List Piece} {ok:Int→Prop} {key:Int→Int} {B:Nat}
set_option maxRecDepth 100000 in
set_option maxHeartbeats 6400000 in
theorem symL_any:T_symL_any Int ie 3 1 379 cf Cmps:=mk_symL_any _ _ _ _ _ _ _
end
end SI
end Go.Proofs.YthekdeikodppkaaGreatDoor
namespace Go.Proofs.YthekdeikodppkaaGreatDoor
open Go.RowKit
set_option maxRecDepth 1000000
def T_symR_any(A:Type)(eC:A→List Value)(EL:TypeId)(SZ:Nat)(F_symMergeCmpFunc:FuncId)(cf:Nat→Value)(Cmps:World→List Piece→Nat→(A→Prop)→(A→Int)→Prop):Prop:=∀ ⦃w0:World⦄ ⦃w:World⦄ ⦃ps:List Piece⦄ ⦃ok:A→Prop⦄ ⦃key:A→Int⦄ ⦃B:Nat⦄ ⦃g c N:Nat⦄ ⦃p x q:List A⦄ ⦃u:A⦄ ⦃a m b:Nat⦄ (hcmp:Cmps w0 ps B ok key) (hoku:ok u) (hokx:∀ v∈x,ok v) (hx:Srt key x) (hx2:2≤x.length) (ha:a=p.length) (hm:m=a+x.length) (hb:b=m+1) (hN:N=(p++x++[u]++q).length) (hNb:N≤1000000) (H:Own w0 w (slc EL SZ (.slice (some ⟨g,0,none⟩) N c) N (rows eC (p++x++[u]++q))::ps)),Calls Tryz.prog F_symMergeCmpFunc #[.slice (some ⟨g,0,none⟩) N c,.int .i64 a,.int .i64 m,.int .i64 b,cf B] w (Ret fun _ w'=>∃ z,Mrg key x [u] z∧Own w0 w' (slc EL SZ (.slice (some ⟨g,0,none⟩) N c) N (rows eC (p++z++q))::ps))
theorem mk_symR_any(A:Type)(eC:A→List Value)(EL:TypeId)(SZ:Nat)(F_symMergeCmpFunc:FuncId)(cf:Nat→Value)(Cmps:World→List Piece→Nat→(A→Prop)→(A→Int)→Prop)(h:T_symR_any A eC EL SZ F_symMergeCmpFunc cf Cmps:=by
 unfold T_symR_any
 intro w0 w ps ok key B g c N p x q u a m b hcmp hoku hokx hx hx2 ha hm hb hN hNb H
 have hbN:b≤N:=by rw [hN];simp only [lJ,List.length_singleton];omega
 have hNc:N≤c:=by obtain ⟨_,_,e,h1,_⟩:=H.rd.shape;cases e;exact h1
 have hc2:c≤9223372036854775807:=by obtain ⟨_,_,e,_,h1⟩:=H.rd.shape;cases e;exact h1
 have hgu:(p++x++[u]++q)[m]?=some u:=by
  have:p++x++[u]++q=(p++x)++u::q:=by simp
  rw [this];exact get_mid _ _ _ (by rw [lJ];omega)
 have hgx:∀ (t:Nat) v,x[t]?=some v→(p++x++[u]++q)[a+t]?=some v:=by
  intro t v hv
  have:p++x++[u]++q=p++(x++(u::q)):=by simp
  rw [this,List.getElem?_append_right (by omega),List.getElem?_append_left (by have:=(gJ hv).1;omega)]
  rw [show a+t-p.length=t by omega]
  exact hv
 have HGU:=jd hgu
 have HGX:=jd hgx
 have HP:=jd ha
 have HM:=jd hm
 have HN:=jd hN
 have HC:=jd hcmp
 have HOK:=jd hokx
 have HS:=jd hx
 obtain ⟨L,hL⟩:∃ L,Hid (p++x++[u]++q=L):=⟨_,jd rfl⟩
 rw [hL.out] at H HGU HGX
 have hmN:m<N:=by omega
 have ham:a+2≤m:=by omega
 have hma:(((m:Int)-(a:Int))==1)=false:=by simp;omega
 have hbm:((b:Int)-(m:Int))=1:=by omega
 have hbm2:m≤b:=by omega
 clear ha hb hN hcmp hokx hx hgu hgx hm hx2
 go_enter fusymMergeCmpFunc,ntsymMergeCmpFunc
 go_wp2_with fail
 go_loopw [14,15] (fun s10 s11 wx=>∃ (i j:Nat),s10=.int .i64 i∧s11=.int .i64 j∧a≤i∧i≤j∧j≤m∧Hid (∀ (t:Nat) (v:A),a+t<i→x[t]?=some v→key v≤key u)∧Hid (∀ (t:Nat) (v:A),j≤a+t→x[t]?=some v→key u<key v)∧Own w0 wx ((sL g N c L)::ps)) (fun s10 s11 _=>(intOf s11).toNat-(intOf s10).toNat)
 case atStart=>exact ⟨a,m,rfl,rfl,by omega,by omega,by omega,jd (fun t v h=>by omega),jd (fun t v h hv=>by have:=(gJ hv).1;have:=HM.out;omega),H⟩
 case round=>
  clear H
  obtain ⟨i,j,rfl,rfl,hmi,hij,hjb,hlo,hhi,H⟩:=hrel
  by_cases hlt:i<j
  ·obtain ⟨h,hh⟩:∃ h,Hid ((i+j)/2=h):=⟨_,rfl⟩
   have hih:i≤h:=by rw [← hh.out];omega
   have hhj:h<j:=by rw [← hh.out];omega
   have hsI:(((i:Int)+(j:Int))/2)=(h:Int):=by have:=hh.out;omega
   have hsU:IntKind.u64.wrap ((i:Int)+(j:Int))=(i:Int)+(j:Int):=by simp [IntKind.wrap,IntKind.bits,IntKind.signed];omega
   obtain ⟨t,ht⟩:∃ t,h=a+t:=⟨h-a,by omega⟩
   obtain ⟨v,hv⟩:=Ql (l:=x) (k:=t) (by have:=HM.out;omega)
   have hg:=HGX.out t v hv
   rw [← ht] at hg
   have HG:=jd hg
   have hokv:ok v:=HOK.out v (List.mem_of_getElem? hv)
   have hcall:=fun (wz:World) (h:Own w0 wz ((sL g N c L)::ps))=>HC.out wz _ h u v hoku hokv
   have hcl:=cmpI_lt (key u) (key v)
   obtain ⟨cv,hcv⟩:∃ cv,Hid (cmpI (key u) (key v)=cv):=⟨_,rfl⟩
   simp only [hcv.out] at hcall hcl
   have HCALL:=jd hcall
   have hhN:(h:Int)<(N:Int):=by omega
   have hlo2:¬ key u<key v→Hid (∀ (t':Nat) (v':A),a+t'<h+1→x[t']?=some v'→key v'≤key u):=fun hk=>jd fun t' v' ht' hv'=>by
    by_cases e:t'=t
    ·subst e;rw [hv] at hv';cases hv';omega
    ·have h1:=List.pairwise_iff_getElem.1 HS.out t' t (gJ hv').1 (gJ hv).1 (by omega)
     rw [(gJ hv').2,(gJ hv).2] at h1
     omega
   have hhi2:key u<key v→Hid (∀ (t':Nat) (v':A),h≤a+t'→x[t']?=some v'→key u<key v'):=fun hk=>jd fun t' v' ht' hv'=>by
    by_cases e:t'=t
    ·subst e;rw [hv] at hv';cases hv';exact hk
    ·have h1:=List.pairwise_iff_getElem.1 HS.out t t' (gJ hv).1 (gJ hv').1 (by omega)
     rw [(gJ hv').2,(gJ hv).2] at h1
     omega
   have HLO2:=jd hlo2
   have HHI2:=jd hhi2
   clear hlo2 hhi2 hg hv ht hcall
   go_upto_region 17 with (fail)
   refine Qa (fun w1=>Own w0 w1 ((sL g N c L)::ps)) 10 (by kernel_rfl) (by kernel_rfl) H.drew ?_
   simp only [List.take_succ_cons,List.take_zero,List.drop_succ_cons,List.drop_zero]
   have hmNI:(m:Int)<(N:Int):=by omega
   repeat
    first
    | (refine calm_value (v:=?_) (by decide) rfl (fun σ w1 hS=>?_) ?_
       rotate_left
       ·obtain ⟨c1,c1'⟩:=el hS.rd HG.out;obtain ⟨c2,c2'⟩:=el hS.rd HGU.out
        first | (go_simp;rfl) | rfl
       simp only [Act.put,putC])
    | (refine calm_skip (by decide) rfl ?_
       simp only [Act.put,putC])
   refine calm_call (v:=.int .i64 cv) (by decide) rfl (fun w1=>(by go_simp;first | exact ⟨rfl,rfl⟩ | rfl)) (fun σ w1 hS=>?_) ?_
   ·refine (HCALL.out w1 hS).mono ?_
    rintro e w2 ⟨_,rfl,rfl,h2⟩
    exact ⟨rfl,hS.join h2⟩
   simp only [Act.put,putC]
   refine calm_nil ?_
   intro wd HD
   clear H
   by_cases hk:key u<key v
   ·have hk2:decide (cv<0)=true:=by rw [hcl];simp [hk]
    have hn:=HHI2.out hk
    clear hk hcl HLO2
    go_wp2
    go_roundw
    case rel=>exact ⟨i,h,rfl,by go_num,by omega,by omega,by omega,hlo,hn,HD⟩
    case measure=>simp [intOf];omega
   ·have hk2:decide (cv<0)=false:=by rw [hcl];simp [hk]
    have hn:=HLO2.out hk
    clear hk hcl HHI2
    go_wp2
    go_roundw
    case rel=>exact ⟨h+1,j,by go_num,rfl,by omega,by omega,by omega,hn,hhi,HD⟩
    case measure=>simp [intOf];omega
  ·have hij2:i=j:=by omega
   subst hij2
   obtain ⟨x1,x2,hxs,hx1⟩:=split_at x (i-a) (by have:=HM.out;omega)
   have hle1:∀ v∈x1,key v≤key u:=fun v hv=>by
    obtain ⟨t,ht,rfl⟩:=List.getElem_of_mem hv
    refine hlo.out t _ (by omega) ?_
    rw [hxs,List.getElem?_append_left ht,List.getElem?_eq_getElem ht]
   have hgt2:∀ v∈x2,key u<key v:=fun v hv=>by
    obtain ⟨t,ht,rfl⟩:=List.getElem_of_mem hv
    refine hhi.out (x1.length+t) _ (by omega) ?_
    rw [hxs,List.getElem?_append_right (by omega),Nat.add_sub_cancel_left,List.getElem?_eq_getElem ht]
   have hmrg:Mrg key x [u] (x1++u::x2):=by
    have:=Mrg.one_right (key:=key) (y:=u) (x1:=x1) (x2:=x2) (by rw [← hxs];exact HS.out) hle1 hgt2
    rwa [← hxs] at this
   have HMRG:=jd hmrg
   have HX1:=jd hx1
   have hx12:Hid (i+x2.length=m):=jd (by have h1:=HM.out;rw [hxs,lJ] at h1;omega)
   have hLe:Hid (L=p++x1++x2++u::q):=jd (by rw [← hL.out,hxs];simp)
   have hHL:Hid (L.length=N):=jd (by rw [← hL.out,← HN.out])
   clear hlo hhi hxs hle1 hgt2 hmrg hx1 hlt
   rw [hLe.out] at H
   go_wp2_with fail
   go_loopw [17] (fun s13 wx=>∃ (k:Nat) (X1 X2:List A),s13=.int .i64 k∧i≤k∧k≤m∧Hid (x2=X1++X2)∧Hid (i+X1.length=k)∧Own w0 wx ((sL g N c (p++x1++X1++u::(X2++q)))::ps)) (fun s13 _=>(intOf s13).toNat)
   case atStart=>exact ⟨m,x2,[],rfl,by omega,by omega,jd (by simp),hx12,by simpa using H⟩
   case round=>
    clear H
    obtain ⟨k,X1,X2,rfl,hk1,hk2,hx2,hXl,H⟩:=hrel
    by_cases hki:i<k
    ·obtain ⟨X3,v,hX1⟩:=last_split X1 (by have:=hXl.out;omega)
     subst hX1
     have el1:p++x1++(X3++[v])++u::(X2++q)=(p++x1++X3)++v::([]++u::(X2++q)):=by simp
     rw [el1] at H
     obtain ⟨k',rfl⟩:∃ k',k=k'+1:=⟨k-1,by omega⟩
     have hkl:k'=(p++x1++X3).length:=by
      have h1:=hXl.out;have h2:=HP.out;have h3:=HX1.out
      rw [lJ,List.length_singleton] at h1
      simp only [lJ]
      omega
     have hLn:((p++x1++X3)++v::([]++u::(X2++q))).length=N:=by
      rw [← hHL.out,hLe.out,hx2.out]
      simp only [lJ,List.length_cons,List.length_nil]
      omega
     have hg1:((p++x1++X3)++v::([]++u::(X2++q)))[k']?=some v:=get_mid _ _ _ hkl
     have hg2:((p++x1++X3)++v::([]++u::(X2++q)))[k'+1]?=some u:=by
      have:(p++x1++X3)++v::([]++u::(X2++q))=((p++x1++X3)++[v])++u::(X2++q):=by simp
      rw [this]
      exact get_mid _ _ _ (by rw [lJ (bs:=[v]),List.length_singleton,← hkl])
     have hsw:=set_swap (p++x1++X3) [] (X2++q) v u (i:=k') (j:=k'+1) hkl (by simp only [List.length_nil];omega)
     obtain ⟨M,hM⟩:∃ M,Hid ((p++x1++X3)++v::([]++u::(X2++q))=M):=⟨_,jd rfl⟩
     rw [hM.out] at H hg1 hg2 hsw hLn
     have HG1:=jd hg1
     have HG2:=jd hg2
     have e1:=set_rows (l:=M) (i:=(k'+1)) (by rw [hLn];omega) v
     have e2:=(set_rows (l:=M.set (k'+1) v) (i:=k') (by rw [List.length_set,hLn];omega) u).trans (show rows eC ((M.set (k'+1) v).set k' u)=rows eC (p++x1++X3++u::((v::X2)++q)) from by rw [List.set_comm _ _ (by omega),hsw];simp)
     have E1:=jd e1
     have E2:=jd e2
     have hik:i≤k':=by omega
     have hikI:(i:Int)<(k':Int)+1:=by omega
     have hkN:(k':Int)<(N:Int):=by omega
     have hkN1:(k':Int)+1<(N:Int):=by omega
     have hkT:((k':Int)+1).toNat=k'+1:=by omega
     have hkw:IntKind.i64.wrap (k':Int)=(k':Int):=IntWalk.i64_in _ ⟨by omega,by omega⟩
     have hX':Hid (x2=X3++(v::X2)):=jd (by rw [hx2.out];simp)
     have hXl':Hid (i+X3.length=k'):=jd (by have:=hXl.out;rw [lJ,List.length_singleton] at this;omega)
     clear hg1 hg2 hsw hLn e1 e2 el1 hkl hM hki
     go_upto_region 23 with (fail)
     refine wp_region_pres (fun _ w1=>Own w0 w1 ((sL g N c M)::ps)) 14 [] [2,3,4] (by kernel_rfl) (by kernel_rfl) (by kernel_rfl) (by kernel_rfl) (fun _ _ d _ _ h=>by cases d <;> exact h) ⟨_,_,rfl,fun w=>(by first | rfl | (go_simp;rfl)),_,_,rfl,fun w=>(by first | rfl | (go_simp;rfl)),_,_,rfl,fun w=>(by first | rfl | (go_simp;rfl)),rfl⟩ H.drew ?_
     simp only [List.take_succ_cons,List.take_zero,List.drop_succ_cons,List.drop_zero]
     repeat
      first
      | (refine calm_value (v:=?_) (by decide) rfl (fun σ w1 hS=>?_) ?_
         rotate_left
         ·obtain ⟨c1,c1'⟩:=el hS.rd HG1.out;obtain ⟨c2,c2'⟩:=el hS.rd HG2.out
          first | (go_simp;rfl) | rfl
         simp only [Act.put,putC])
      | (refine calm_skip (by decide) rfl ?_
         simp only [Act.put,putC])
     refine calm_nil ?_
     intro σ2 wd2 _ H2
     simp only [Jx,List.foldl_nil]
     clear H
     go_wp2_with (first
      | (refine Jf rfl _ _ rfl (i:=k'+1) (by first | rfl | (rw [Nat.mul_one];rfl)) H2 (eC v) rfl (by kernel_rfl) rfl (by omega) (e_one v) ?_;clear H2;intro w5 H;rw [E1.out] at H)
      | (refine Jf rfl _ _ rfl (i:=k') (by first | rfl | (rw [Nat.mul_one];rfl)) H (eC u) rfl (by kernel_rfl) rfl (by omega) (e_one u) ?_;clear H;intro w6 H;rw [E2.out] at H))
     go_roundw
     case rel=>exact ⟨k',X3,v::X2,by go_num,by omega,by omega,hX',hXl',H⟩
     case measure=>simp [intOf]
    ·have hik2:k=i:=by omega
     subst hik2
     have hX10:X1=[]:=by have:=hXl.out;exact eJ (by omega)
     have e1:Hid (x2=X2):=jd (by rw [hx2.out,hX10,List.nil_append])
     have el2:p++x1++X1++u::(X2++q)=p++(x1++u::x2)++q:=by rw [hX10,e1.out];simp
     rw [el2] at H
     clear el2 hX10 hki
     go_wp2
     go_end0
     exact ⟨_,rfl,_,HMRG.out,by simpa using H⟩):T_symR_any A eC EL SZ F_symMergeCmpFunc cf Cmps:=h
end Go.Proofs.YthekdeikodppkaaGreatDoor
namespace Go.Proofs.YthekdeikodppkaaGreatDoor
open Go.RowKit
namespace SI
open Go.Proofs.Tryz renaming func379 → fusymMergeCmpFunc, ntmps379 → ntsymMergeCmpFunc
open Go.Proofs.YthekdeikodppkaaGreatDoor.SI renaming ie → eC
section
variable {w0 w:World} {ps:List Piece} {ok:Int→Prop} {key:Int→Int} {B:Nat}
set_option maxRecDepth 100000 in
set_option maxHeartbeats 6400000 in
theorem symR_any:T_symR_any Int ie 3 1 379 cf Cmps:=mk_symR_any _ _ _ _ _ _ _
end
end SI
end Go.Proofs.YthekdeikodppkaaGreatDoor
namespace Go.Proofs.YthekdeikodppkaaGreatDoor
open Go.RowKit
set_option maxRecDepth 1000000
def T_tail3(A:Type)(eC:A→List Value)(EL:TypeId)(SZ:Nat)(G_symMergeCmpFunc:Func)(cf:Nat→Value)(SymAt:World→List Piece→(A→Prop)→(A→Int)→Nat→Nat→Nat→Nat→Nat→Prop)(symTail:Nat→Code):Prop:=∀ ⦃w0:World⦄ ⦃ps:List Piece⦄ ⦃ok:A→Prop⦄ ⦃key:A→Int⦄ ⦃B:Nat⦄ ⦃g c N f:Nat⦄ ⦃p q x y X1 X2 Y1 Y2:List A⦄ ⦃a m b s en mid:Nat⦄ ⦃M1:List A⦄ (wr:World) (hNb:N≤1000000) (IH:Hid (SymAt w0 ps ok key B g c N f)) (HFINAL:Hid (∀ z1 z2,Mrg key X1 Y1 z1→Mrg key X2 Y2 z2→Mrg key x y (z1++z2))) (HOX1:Hid (∀ v∈X1,ok v)) (HOX2:Hid (∀ v∈X2,ok v)) (HOY1:Hid (∀ v∈Y1,ok v)) (HOY2:Hid (∀ v∈Y2,ok v)) (HSX1:Hid (Srt key X1)) (HSX2:Hid (Srt key X2)) (HSY1:Hid (Srt key Y1)) (HSY2:Hid (Srt key Y2)) (HNL:Hid (N=(p++X1++X2++Y1++Y2++q).length)) (HMID2:Hid (mid+mid≤a+b∧a+b≤mid+mid+1)) (ham:a+2≤m) (hmb:m+2≤b) (hbN:b≤N) (hlens:Hid (a=p.length∧s=a+X1.length∧m=s+X2.length∧en=m+Y1.length∧b=en+Y2.length∧mid=s+Y1.length∧en=mid+X2.length∧X1.length+X2.length+(Y1.length+Y2.length)≤f+1∧0<X1.length+X2.length∧0<Y1.length+Y2.length)) (hensN1:en≤N) (hensN2:s≤N) (hmN1:mid≤N) (hM1:Hid (Mrg key X1 Y1 M1)) (z5 z6 z7 z8 z9 z10 z11 z12 z13 z14 z15 z16 z17 z19 z21 z22 z23 z25 z26 z27 z28 z29 z30 z31 z32 z33 z34 z35 z36 z37 z38 z39 z40 z41 z42 z43 z44 z45 z46 z47 z48 z49 z50 z51 z52 z53 z54 z55 z56 z57 z58 z59 z60 z61 z62 z63 z64 z65 z66 z67 z68 z69 z70 z71 z72 z73 z74 z75 z76 z77 z78 z79 z80 z81 z82 z83 z84 z85 z86 z87 z88 z89 z90 z91 z92 z93 z94 z95 z96 z97 z98 z99 z100 z101 z102 z103 z104 z105 z106 z107 z108 z109 z110 z111 z112 z113 z114 z115 z116 z117 z118 z119 z120 z121 z122 z123 z124 z125 z126 z127 z128 z129 z130 z131 z132 z133 z134 z135 z136 z137 z138 z139 z140 z141 z142 z143 z144 z145 z146 z147 z148 z149 z150 z151 z152 z153 z154 z155 z156 z157 z158 z159 z160 z161 z162 z163 z164 z165 z166 z167 z168 z169 z170 z171 z172 z173 z174 z175 z176 z177 z178 z179 z180 z181 z182 z183 z184 z185 z186 z187 z188 z189 z190 z191 z192 z193 z194 z195 z196 z197 z198 z199 z200 z201 z202 z203 z204 z205 z206 z207 z208 z209 z210 z211 z212 z213 z214 z215 z216 z217 z218 z219:Value) (H:Own w0 wr (slc EL SZ (.slice (some ⟨g,0,none⟩) N c) N (rows eC (p++M1++X2++Y2++q))::ps)),Code.wp Tryz.prog (symTail 43) (bodyPost Tryz.prog G_symMergeCmpFunc (Ret fun _ w'=>∃ z,Mrg key x y z∧Own w0 w' (slc EL SZ (.slice (some ⟨g,0,none⟩) N c) N (rows eC (p++z++q))::ps))) ⟨#[.slice (some ⟨g,0,none⟩) N c,.int .i64 a,.int .i64 m,.int .i64 b,cf B,z5,z6,z7,z8,z9,z10,z11,z12,z13,z14,z15,z16,z17,.int .i64 mid,z19,.int .i64 s,z21,z22,z23,.int .i64 en,z25,z26,z27,z28,z29,z30,z31,z32,z33,z34,z35,z36,z37,z38,z39,z40,z41,z42,z43,z44,z45,z46,z47,z48,z49,z50,z51,z52,z53,z54,z55,z56,z57,z58,z59,z60,z61,z62,z63,z64,z65,z66,z67,z68,z69,z70,z71,z72,z73,z74,z75,z76,z77,z78,z79,z80,z81,z82,z83,z84,z85,z86,z87,z88,z89,z90,z91,z92,z93,z94,z95,z96,z97,z98,z99,z100,z101,z102,z103,z104,z105,z106,z107,z108,z109,z110,z111,z112,z113,z114,z115,z116,z117,z118,z119,z120,z121,z122,z123,z124,z125,z126,z127,z128,z129,z130,z131,z132,z133,z134,z135,z136,z137,z138,z139,z140,z141,z142,z143,z144,z145,z146,z147,z148,z149,z150,z151,z152,z153,z154,z155,z156,z157,z158,z159,z160,z161,z162,z163,z164,z165,z166,z167,z168,z169,z170,z171,z172,z173,z174,z175,z176,z177,z178,z179,z180,z181,z182,z183,z184,z185,z186,z187,z188,z189,z190,z191,z192,z193,z194,z195,z196,z197,z198,z199,z200,z201,z202,z203,z204,z205,z206,z207,z208,z209,z210,z211,z212,z213,z214,z215,z216,z217,z218,z219],[]⟩ wr
theorem mk_tail3(A:Type)(eC:A→List Value)(EL:TypeId)(SZ:Nat)(G_symMergeCmpFunc:Func)(cf:Nat→Value)(SymAt:World→List Piece→(A→Prop)→(A→Int)→Nat→Nat→Nat→Nat→Nat→Prop)(symTail:Nat→Code)(h:T_tail3 A eC EL SZ G_symMergeCmpFunc cf SymAt symTail:=by
 unfold T_tail3
 intro w0 ps ok key B g c N f p q x y X1 X2 Y1 Y2 a m b s en mid M1 wr hNb IH HFINAL HOX1 HOX2 HOY1 HOY2 HSX1 HSX2 HSY1 HSY2 HNL HMID2 ham hmb hbN hlens hensN1 hensN2 hmN1 hM1 z5 z6 z7 z8 z9 z10 z11 z12 z13 z14 z15 z16 z17 z19 z21 z22 z23 z25 z26 z27 z28 z29 z30 z31 z32 z33 z34 z35 z36 z37 z38 z39 z40 z41 z42 z43 z44 z45 z46 z47 z48 z49 z50 z51 z52 z53 z54 z55 z56 z57 z58 z59 z60 z61 z62 z63 z64 z65 z66 z67 z68 z69 z70 z71 z72 z73 z74 z75 z76 z77 z78 z79 z80 z81 z82 z83 z84 z85 z86 z87 z88 z89 z90 z91 z92 z93 z94 z95 z96 z97 z98 z99 z100 z101 z102 z103 z104 z105 z106 z107 z108 z109 z110 z111 z112 z113 z114 z115 z116 z117 z118 z119 z120 z121 z122 z123 z124 z125 z126 z127 z128 z129 z130 z131 z132 z133 z134 z135 z136 z137 z138 z139 z140 z141 z142 z143 z144 z145 z146 z147 z148 z149 z150 z151 z152 z153 z154 z155 z156 z157 z158 z159 z160 z161 z162 z163 z164 z165 z166 z167 z168 z169 z170 z171 z172 z173 z174 z175 z176 z177 z178 z179 z180 z181 z182 z183 z184 z185 z186 z187 z188 z189 z190 z191 z192 z193 z194 z195 z196 z197 z198 z199 z200 z201 z202 z203 z204 z205 z206 z207 z208 z209 z210 z211 z212 z213 z214 z215 z216 z217 z218 z219 H
 conv=>arg 2;whnf
 dsimp only
 have hM1l:Hid (M1.length=X1.length+Y1.length):=jd (by rw [← hM1.out.2.length,lJ])
 have hNL3:Hid (N=(p++M1++X2++Y2++q).length):=jd (by rw [HNL.out];have:=hM1l.out;simp only [lJ];omega)
 obtain ⟨t3,ht3⟩:∃ t,Hid ((decide (mid<en)&&decide (en<b))=t):=⟨_,jd rfl⟩
 go_upto_region 43 with (fail)
 go_cut [213] (fun s1 wx=>s1=.bool t3∧Own w0 wx ((sL g N c (p++M1++X2++Y2++q))::ps))
 case first=>
  by_cases h1:mid<en
  ·by_cases h2:en<b
   ·have e:Hid (t3=true):=jd (by rw [← ht3.out];simp [h1,h2])
    go_wp2
    go_meet
    exact ⟨by rw [e.out],H⟩
   ·have e:Hid (t3=false):=jd (by rw [← ht3.out];simp [h2])
    go_wp2
    go_meet
    exact ⟨by rw [e.out],H⟩
  ·have e:Hid (t3=false):=jd (by rw [← ht3.out];simp [h1])
   go_wp2
   go_meet
   exact ⟨by rw [e.out],H⟩
 case rest=>
 clear H
 obtain ⟨rfl,H⟩:=hcut
 obtain ⟨l1,l2,l3,l4,l5,l6,l7,l8,l9,l10⟩:=hlens.out
 have hM1l':=hM1l.out
 have hm2:=HMID2.out
 cases t3 with
 | true=>
  have h:=ht3.out
  simp only [Bool.and_eq_true,decide_eq_true_eq] at h
  have e1:p++M1++X2++Y2++q=(p++M1)++X2++Y2++q:=by simp
  have hr:=IH.out wc (p++M1) X2 Y2 q mid en b (by omega) HOX2.out HOY2.out HSX2.out HSY2.out (by rw [lJ];omega) l7 l5 (by omega) (by omega) (by rw [← e1];exact hNL3.out) (by rw [← e1];exact H)
  have HR:=jd hr
  clear hr l1 l2 l3 l4 l5 l6 l7 l8 l9 l10 h e1 hM1l' hm2
  go_wp2_with fail
  refine HR.out.mono ?_
  rintro e w3 ⟨_,rfl,z,hz,H3⟩
  clear HR H
  go_wp2
  go_end0
  exact ⟨_,rfl,M1++z,HFINAL.out _ _ hM1.out hz,by simpa using H3⟩
 | false=>
  have h:=ht3.out
  simp only [Bool.and_eq_false_iff,decide_eq_false_iff_not] at h
  have e1:Hid (Mrg key X2 Y2 (X2++Y2)):=jd (by
   rcases h with h | h
   ·have:X2=[]:=eJ (by omega)
    rw [this];exact Mrg.right HSY2.out
   ·have:Y2=[]:=eJ (by omega)
    rw [this,List.append_nil];exact Mrg.left HSX2.out)
  clear l1 l2 l3 l4 l5 l6 l7 l8 l9 l10 h hM1l' hm2
  go_wp2
  go_end0
  exact ⟨_,rfl,M1++(X2++Y2),HFINAL.out _ _ hM1.out e1.out,by simpa using H⟩):T_tail3 A eC EL SZ G_symMergeCmpFunc cf SymAt symTail:=h
def T_tail2(A:Type)(eC:A→List Value)(EL:TypeId)(SZ:Nat)(G_symMergeCmpFunc:Func)(cf:Nat→Value)(SymAt:World→List Piece→(A→Prop)→(A→Int)→Nat→Nat→Nat→Nat→Nat→Prop)(symTail:Nat→Code):Prop:=∀ ⦃w0:World⦄ ⦃ps:List Piece⦄ ⦃ok:A→Prop⦄ ⦃key:A→Int⦄ ⦃B:Nat⦄ ⦃g c N f:Nat⦄ ⦃p q x y X1 X2 Y1 Y2:List A⦄ ⦃a m b s en mid:Nat⦄ (wr:World) (hNb:N≤1000000) (IH:Hid (SymAt w0 ps ok key B g c N f)) (HFINAL:Hid (∀ z1 z2,Mrg key X1 Y1 z1→Mrg key X2 Y2 z2→Mrg key x y (z1++z2))) (HOX1:Hid (∀ v∈X1,ok v)) (HOX2:Hid (∀ v∈X2,ok v)) (HOY1:Hid (∀ v∈Y1,ok v)) (HOY2:Hid (∀ v∈Y2,ok v)) (HSX1:Hid (Srt key X1)) (HSX2:Hid (Srt key X2)) (HSY1:Hid (Srt key Y1)) (HSY2:Hid (Srt key Y2)) (HNL:Hid (N=(p++X1++X2++Y1++Y2++q).length)) (HMID2:Hid (mid+mid≤a+b∧a+b≤mid+mid+1)) (ham:a+2≤m) (hmb:m+2≤b) (hbN:b≤N) (hlens:Hid (a=p.length∧s=a+X1.length∧m=s+X2.length∧en=m+Y1.length∧b=en+Y2.length∧mid=s+Y1.length∧en=mid+X2.length∧X1.length+X2.length+(Y1.length+Y2.length)≤f+1∧0<X1.length+X2.length∧0<Y1.length+Y2.length)) (hensN1:en≤N) (hensN2:s≤N) (hmN1:mid≤N) (z5 z6 z7 z8 z9 z10 z11 z12 z13 z14 z15 z16 z17 z19 z21 z22 z23 z25 z26 z27 z28 z29 z30 z31 z32 z33 z34 z35 z36 z37 z38 z39 z40 z41 z42 z43 z44 z45 z46 z47 z48 z49 z50 z51 z52 z53 z54 z55 z56 z57 z58 z59 z60 z61 z62 z63 z64 z65 z66 z67 z68 z69 z70 z71 z72 z73 z74 z75 z76 z77 z78 z79 z80 z81 z82 z83 z84 z85 z86 z87 z88 z89 z90 z91 z92 z93 z94 z95 z96 z97 z98 z99 z100 z101 z102 z103 z104 z105 z106 z107 z108 z109 z110 z111 z112 z113 z114 z115 z116 z117 z118 z119 z120 z121 z122 z123 z124 z125 z126 z127 z128 z129 z130 z131 z132 z133 z134 z135 z136 z137 z138 z139 z140 z141 z142 z143 z144 z145 z146 z147 z148 z149 z150 z151 z152 z153 z154 z155 z156 z157 z158 z159 z160 z161 z162 z163 z164 z165 z166 z167 z168 z169 z170 z171 z172 z173 z174 z175 z176 z177 z178 z179 z180 z181 z182 z183 z184 z185 z186 z187 z188 z189 z190 z191 z192 z193 z194 z195 z196 z197 z198 z199 z200 z201 z202 z203 z204 z205 z206 z207 z208 z209 z210 z211 z212 z213 z214 z215 z216 z217 z218 z219:Value) (H:Own w0 wr (slc EL SZ (.slice (some ⟨g,0,none⟩) N c) N (rows eC (p++X1++Y1++X2++Y2++q))::ps)),Code.wp Tryz.prog (symTail 41) (bodyPost Tryz.prog G_symMergeCmpFunc (Ret fun _ w'=>∃ z,Mrg key x y z∧Own w0 w' (slc EL SZ (.slice (some ⟨g,0,none⟩) N c) N (rows eC (p++z++q))::ps))) ⟨#[.slice (some ⟨g,0,none⟩) N c,.int .i64 a,.int .i64 m,.int .i64 b,cf B,z5,z6,z7,z8,z9,z10,z11,z12,z13,z14,z15,z16,z17,.int .i64 mid,z19,.int .i64 s,z21,z22,z23,.int .i64 en,z25,z26,z27,z28,z29,z30,z31,z32,z33,z34,z35,z36,z37,z38,z39,z40,z41,z42,z43,z44,z45,z46,z47,z48,z49,z50,z51,z52,z53,z54,z55,z56,z57,z58,z59,z60,z61,z62,z63,z64,z65,z66,z67,z68,z69,z70,z71,z72,z73,z74,z75,z76,z77,z78,z79,z80,z81,z82,z83,z84,z85,z86,z87,z88,z89,z90,z91,z92,z93,z94,z95,z96,z97,z98,z99,z100,z101,z102,z103,z104,z105,z106,z107,z108,z109,z110,z111,z112,z113,z114,z115,z116,z117,z118,z119,z120,z121,z122,z123,z124,z125,z126,z127,z128,z129,z130,z131,z132,z133,z134,z135,z136,z137,z138,z139,z140,z141,z142,z143,z144,z145,z146,z147,z148,z149,z150,z151,z152,z153,z154,z155,z156,z157,z158,z159,z160,z161,z162,z163,z164,z165,z166,z167,z168,z169,z170,z171,z172,z173,z174,z175,z176,z177,z178,z179,z180,z181,z182,z183,z184,z185,z186,z187,z188,z189,z190,z191,z192,z193,z194,z195,z196,z197,z198,z199,z200,z201,z202,z203,z204,z205,z206,z207,z208,z209,z210,z211,z212,z213,z214,z215,z216,z217,z218,z219],[]⟩ wr
theorem mk_tail2(A:Type)(eC:A→List Value)(EL:TypeId)(SZ:Nat)(G_symMergeCmpFunc:Func)(cf:Nat→Value)(SymAt:World→List Piece→(A→Prop)→(A→Int)→Nat→Nat→Nat→Nat→Nat→Prop)(symTail:Nat→Code)(h:T_tail2 A eC EL SZ G_symMergeCmpFunc cf SymAt symTail:=by
 unfold T_tail2
 intro w0 ps ok key B g c N f p q x y X1 X2 Y1 Y2 a m b s en mid wr hNb IH HFINAL HOX1 HOX2 HOY1 HOY2 HSX1 HSX2 HSY1 HSY2 HNL HMID2 ham hmb hbN hlens hensN1 hensN2 hmN1 z5 z6 z7 z8 z9 z10 z11 z12 z13 z14 z15 z16 z17 z19 z21 z22 z23 z25 z26 z27 z28 z29 z30 z31 z32 z33 z34 z35 z36 z37 z38 z39 z40 z41 z42 z43 z44 z45 z46 z47 z48 z49 z50 z51 z52 z53 z54 z55 z56 z57 z58 z59 z60 z61 z62 z63 z64 z65 z66 z67 z68 z69 z70 z71 z72 z73 z74 z75 z76 z77 z78 z79 z80 z81 z82 z83 z84 z85 z86 z87 z88 z89 z90 z91 z92 z93 z94 z95 z96 z97 z98 z99 z100 z101 z102 z103 z104 z105 z106 z107 z108 z109 z110 z111 z112 z113 z114 z115 z116 z117 z118 z119 z120 z121 z122 z123 z124 z125 z126 z127 z128 z129 z130 z131 z132 z133 z134 z135 z136 z137 z138 z139 z140 z141 z142 z143 z144 z145 z146 z147 z148 z149 z150 z151 z152 z153 z154 z155 z156 z157 z158 z159 z160 z161 z162 z163 z164 z165 z166 z167 z168 z169 z170 z171 z172 z173 z174 z175 z176 z177 z178 z179 z180 z181 z182 z183 z184 z185 z186 z187 z188 z189 z190 z191 z192 z193 z194 z195 z196 z197 z198 z199 z200 z201 z202 z203 z204 z205 z206 z207 z208 z209 z210 z211 z212 z213 z214 z215 z216 z217 z218 z219 H
 conv=>arg 2;whnf
 dsimp only
 have hNL2:Hid (N=(p++X1++Y1++X2++Y2++q).length):=jd (by rw [HNL.out];simp only [lJ];omega)
 obtain ⟨t2,ht2⟩:∃ t,Hid ((decide (a<s)&&decide (s<mid))=t):=⟨_,jd rfl⟩
 go_upto_region 41 with (fail)
 go_cut [199] (fun s1 wx=>s1=.bool t2∧Own w0 wx ((sL g N c (p++X1++Y1++X2++Y2++q))::ps))
 case first=>
  by_cases h1:a<s
  ·by_cases h2:s<mid
   ·have e:Hid (t2=true):=jd (by rw [← ht2.out];simp [h1,h2])
    go_wp2
    go_meet
    exact ⟨by rw [e.out],H⟩
   ·have e:Hid (t2=false):=jd (by rw [← ht2.out];simp [h2])
    go_wp2
    go_meet
    exact ⟨by rw [e.out],H⟩
  ·have e:Hid (t2=false):=jd (by rw [← ht2.out];simp [h1])
   go_wp2
   go_meet
   exact ⟨by rw [e.out],H⟩
 case rest=>
 clear H
 obtain ⟨rfl,H⟩:=hcut
 go_upto_if 199 with (fail)
 go_cut [] (fun wx=>∃ M1,Hid (Mrg key X1 Y1 M1)∧Own w0 wx ((sL g N c (p++M1++X2++Y2++q))::ps))
 case first=>
  obtain ⟨l1,l2,l3,l4,l5,l6,l7,l8,l9,l10⟩:=hlens.out
  have hm2:=HMID2.out
  cases t2 with
  | true=>
   have h:=ht2.out
   simp only [Bool.and_eq_true,decide_eq_true_eq] at h
   have e1:p++X1++Y1++X2++Y2++q=p++X1++Y1++(X2++Y2++q):=by simp
   have hr:=IH.out wc p X1 Y1 (X2++Y2++q) a s mid (by omega) HOX1.out HOY1.out HSX1.out HSY1.out l1 l2 l6 (by omega) (by omega) (by rw [← e1];exact hNL2.out) (by rw [← e1];exact H)
   have HR:=jd hr
   clear hr l1 l2 l3 l4 l5 l6 l7 l8 l9 l10 h e1 hm2
   go_wp2_with fail
   refine HR.out.mono ?_
   rintro e w3 ⟨_,rfl,z,hz,H3⟩
   clear HR H
   go_wp2
   go_meet
   exact ⟨z,jd hz,by simpa using H3⟩
  | false=>
   have h:=ht2.out
   simp only [Bool.and_eq_false_iff,decide_eq_false_iff_not] at h
   have e1:Hid (Mrg key X1 Y1 (X1++Y1)):=jd (by
    rcases h with h | h
    ·have:X1=[]:=eJ (by omega)
     rw [this];exact Mrg.right HSY1.out
    ·have:Y1=[]:=eJ (by omega)
     rw [this,List.append_nil];exact Mrg.left HSX1.out)
   clear l1 l2 l3 l4 l5 l6 l7 l8 l9 l10 h hm2
   go_wp2
   go_meet
   exact ⟨X1++Y1,e1,by simpa using H⟩
 case rest=>
 clear H
 obtain ⟨M1,hM1,H⟩:=hcut
 apply_assumption
 exact tail3 (p:=p) (q:=q) (x:=x) (y:=y) (X1:=X1) (X2:=X2) (Y1:=Y1) (Y2:=Y2) (a:=a) (m:=m) (b:=b) (s:=s) (en:=en) (mid:=mid) (M1:=M1) wc hNb IH HFINAL HOX1 HOX2 HOY1 HOY2 HSX1 HSX2 HSY1 HSY2 HNL HMID2 ham hmb hbN hlens hensN1 hensN2 hmN1 hM1 _ _ _ _ _ _ _ _ _ _ _ _ _ _ _ _ _ _ _ _ _ _ _ _ _ _ _ _ _ _ _ _ _ _ _ _ _ _ _ _ _ _ _ _ _ _ _ _ _ _ _ _ _ _ _ _ _ _ _ _ _ _ _ _ _ _ _ _ _ _ _ _ _ _ _ _ _ _ _ _ _ _ _ _ _ _ _ _ _ _ _ _ _ _ _ _ _ _ _ _ _ _ _ _ _ _ _ _ _ _ _ _ _ _ _ _ _ _ _ _ _ _ _ _ _ _ _ _ _ _ _ _ _ _ _ _ _ _ _ _ _ _ _ _ _ _ _ _ _ _ _ _ _ _ _ _ _ _ _ _ _ _ _ _ _ _ _ _ _ _ _ _ _ _ _ _ _ _ _ _ _ _ _ _ _ _ _ _ _ _ _ _ _ _ _ _ _ _ _ _ _ _ _ _ _ _ _ _ _ _ _ _ H):T_tail2 A eC EL SZ G_symMergeCmpFunc cf SymAt symTail:=h
def T_tail_any(A:Type)(eC:A→List Value)(EL:TypeId)(SZ:Nat)(G_symMergeCmpFunc:Func)(cf:Nat→Value)(SymAt:World→List Piece→(A→Prop)→(A→Int)→Nat→Nat→Nat→Nat→Nat→Prop)(symTail:Nat→Code):Prop:=∀ ⦃w0:World⦄ ⦃ps:List Piece⦄ ⦃ok:A→Prop⦄ ⦃key:A→Int⦄ ⦃B:Nat⦄ ⦃g c N f:Nat⦄ ⦃p q x y X1 X2 Y1 Y2:List A⦄ ⦃a m b s en mid:Nat⦄ ⦃n:Nat⦄ (wr:World) (hNb:N≤1000000) (IH:Hid (SymAt w0 ps ok key B g c N f)) (HFINAL:Hid (∀ z1 z2,Mrg key X1 Y1 z1→Mrg key X2 Y2 z2→Mrg key x y (z1++z2))) (HOX1:Hid (∀ v∈X1,ok v)) (HOX2:Hid (∀ v∈X2,ok v)) (HOY1:Hid (∀ v∈Y1,ok v)) (HOY2:Hid (∀ v∈Y2,ok v)) (HSX1:Hid (Srt key X1)) (HSX2:Hid (Srt key X2)) (HSY1:Hid (Srt key Y1)) (HSY2:Hid (Srt key Y2)) (HNL:Hid (N=(p++X1++X2++Y1++Y2++q).length)) (HMID2:Hid (mid+mid≤a+b∧a+b≤mid+mid+1)) (ham:a+2≤m) (hmb:m+2≤b) (hbN:b≤N) (hlens:Hid (a=p.length∧s=a+X1.length∧m=s+X2.length∧en=m+Y1.length∧b=en+Y2.length∧mid=s+Y1.length∧en=mid+X2.length∧X1.length+X2.length+(Y1.length+Y2.length)≤f+1∧0<X1.length+X2.length∧0<Y1.length+Y2.length)) (hensN1:en≤N) (hensN2:s≤N) (hmN1:mid≤N) (henI:((n:Int)-(s:Int))=(en:Int)) (hsn:s≤n) (hmN2:n≤2*N) (z5 z6 z7 z8 z9 z10 z11 z12 z13 z14 z15 z16 z17 z21 z22 z23 z24 z25 z26 z27 z28 z29 z30 z31 z32 z33 z34 z35 z36 z37 z38 z39 z40 z41 z42 z43 z44 z45 z46 z47 z48 z49 z50 z51 z52 z53 z54 z55 z56 z57 z58 z59 z60 z61 z62 z63 z64 z65 z66 z67 z68 z69 z70 z71 z72 z73 z74 z75 z76 z77 z78 z79 z80 z81 z82 z83 z84 z85 z86 z87 z88 z89 z90 z91 z92 z93 z94 z95 z96 z97 z98 z99 z100 z101 z102 z103 z104 z105 z106 z107 z108 z109 z110 z111 z112 z113 z114 z115 z116 z117 z118 z119 z120 z121 z122 z123 z124 z125 z126 z127 z128 z129 z130 z131 z132 z133 z134 z135 z136 z137 z138 z139 z140 z141 z142 z143 z144 z145 z146 z147 z148 z149 z150 z151 z152 z153 z154 z155 z156 z157 z158 z159 z160 z161 z162 z163 z164 z165 z166 z167 z168 z169 z170 z171 z172 z173 z174 z175 z176 z177 z178 z179 z180 z181 z182 z183 z184 z185 z186 z187 z188 z189 z190 z191 z192 z193 z194 z195 z196 z197 z198 z199 z200 z201 z202 z203 z204 z205 z206 z207 z208 z209 z210 z211 z212 z213 z214 z215 z216 z217 z218 z219:Value) (H:Own w0 wr (slc EL SZ (.slice (some ⟨g,0,none⟩) N c) N (rows eC (p++X1++X2++Y1++Y2++q))::ps)),Code.wp Tryz.prog (symTail 38) (bodyPost Tryz.prog G_symMergeCmpFunc (Ret fun _ w'=>∃ z,Mrg key x y z∧Own w0 w' (slc EL SZ (.slice (some ⟨g,0,none⟩) N c) N (rows eC (p++z++q))::ps))) ⟨#[.slice (some ⟨g,0,none⟩) N c,.int .i64 a,.int .i64 m,.int .i64 b,cf B,z5,z6,z7,z8,z9,z10,z11,z12,z13,z14,z15,z16,z17,.int .i64 mid,.int .i64 n,.int .i64 s,z21,z22,z23,z24,z25,z26,z27,z28,z29,z30,z31,z32,z33,z34,z35,z36,z37,z38,z39,z40,z41,z42,z43,z44,z45,z46,z47,z48,z49,z50,z51,z52,z53,z54,z55,z56,z57,z58,z59,z60,z61,z62,z63,z64,z65,z66,z67,z68,z69,z70,z71,z72,z73,z74,z75,z76,z77,z78,z79,z80,z81,z82,z83,z84,z85,z86,z87,z88,z89,z90,z91,z92,z93,z94,z95,z96,z97,z98,z99,z100,z101,z102,z103,z104,z105,z106,z107,z108,z109,z110,z111,z112,z113,z114,z115,z116,z117,z118,z119,z120,z121,z122,z123,z124,z125,z126,z127,z128,z129,z130,z131,z132,z133,z134,z135,z136,z137,z138,z139,z140,z141,z142,z143,z144,z145,z146,z147,z148,z149,z150,z151,z152,z153,z154,z155,z156,z157,z158,z159,z160,z161,z162,z163,z164,z165,z166,z167,z168,z169,z170,z171,z172,z173,z174,z175,z176,z177,z178,z179,z180,z181,z182,z183,z184,z185,z186,z187,z188,z189,z190,z191,z192,z193,z194,z195,z196,z197,z198,z199,z200,z201,z202,z203,z204,z205,z206,z207,z208,z209,z210,z211,z212,z213,z214,z215,z216,z217,z218,z219],[]⟩ wr
theorem mk_tail_any(A:Type)(eC:A→List Value)(EL:TypeId)(SZ:Nat)(G_symMergeCmpFunc:Func)(cf:Nat→Value)(SymAt:World→List Piece→(A→Prop)→(A→Int)→Nat→Nat→Nat→Nat→Nat→Prop)(symTail:Nat→Code)(h:T_tail_any A eC EL SZ G_symMergeCmpFunc cf SymAt symTail:=by
 unfold T_tail_any
 intro w0 ps ok key B g c N f p q x y X1 X2 Y1 Y2 a m b s en mid n wr hNb IH HFINAL HOX1 HOX2 HOY1 HOY2 HSX1 HSX2 HSY1 HSY2 HNL HMID2 ham hmb hbN hlens hensN1 hensN2 hmN1 henI hsn hmN2 z5 z6 z7 z8 z9 z10 z11 z12 z13 z14 z15 z16 z17 z21 z22 z23 z24 z25 z26 z27 z28 z29 z30 z31 z32 z33 z34 z35 z36 z37 z38 z39 z40 z41 z42 z43 z44 z45 z46 z47 z48 z49 z50 z51 z52 z53 z54 z55 z56 z57 z58 z59 z60 z61 z62 z63 z64 z65 z66 z67 z68 z69 z70 z71 z72 z73 z74 z75 z76 z77 z78 z79 z80 z81 z82 z83 z84 z85 z86 z87 z88 z89 z90 z91 z92 z93 z94 z95 z96 z97 z98 z99 z100 z101 z102 z103 z104 z105 z106 z107 z108 z109 z110 z111 z112 z113 z114 z115 z116 z117 z118 z119 z120 z121 z122 z123 z124 z125 z126 z127 z128 z129 z130 z131 z132 z133 z134 z135 z136 z137 z138 z139 z140 z141 z142 z143 z144 z145 z146 z147 z148 z149 z150 z151 z152 z153 z154 z155 z156 z157 z158 z159 z160 z161 z162 z163 z164 z165 z166 z167 z168 z169 z170 z171 z172 z173 z174 z175 z176 z177 z178 z179 z180 z181 z182 z183 z184 z185 z186 z187 z188 z189 z190 z191 z192 z193 z194 z195 z196 z197 z198 z199 z200 z201 z202 z203 z204 z205 z206 z207 z208 z209 z210 z211 z212 z213 z214 z215 z216 z217 z218 z219 H
 conv=>arg 2;whnf
 dsimp only
 obtain ⟨t1,ht1⟩:∃ t,Hid ((decide (s<m)&&decide (m<en))=t):=⟨_,jd rfl⟩
 go_upto_region 39 with (fail)
 go_cut [185] (fun s1 wx=>s1=.bool t1∧Own w0 wx ((sL g N c (p++X1++X2++Y1++Y2++q))::ps))
 case first=>
  by_cases h1:s<m
  ·by_cases h2:m<en
   ·have e:Hid (t1=true):=jd (by rw [← ht1.out];simp [h1,h2])
    go_wp2
    go_meet
    exact ⟨by rw [e.out],H⟩
   ·have e:Hid (t1=false):=jd (by rw [← ht1.out];simp [h2])
    go_wp2
    go_meet
    exact ⟨by rw [e.out],H⟩
  ·have e:Hid (t1=false):=jd (by rw [← ht1.out];simp [h1])
   go_wp2
   go_meet
   exact ⟨by rw [e.out],H⟩
 case rest=>
 clear H
 obtain ⟨rfl,H⟩:=hcut
 go_upto_if 185 with (fail)
 go_cut [] (fun wx=>Own w0 wx ((sL g N c (p++X1++Y1++X2++Y2++q))::ps))
 case first=>
  obtain ⟨l1,l2,l3,l4,l5,l6,l7,l8,l9,l10⟩:=hlens.out
  cases t1 with
  | true=>
   have h:=ht1.out
   simp only [Bool.and_eq_true,decide_eq_true_eq] at h
   have e1:p++X1++X2++Y1++Y2++q=(p++X1)++X2++Y1++(Y2++q):=by simp
   have hr:=rotate_any (w0:=w0) (w:=wc) (ps:=ps) (g:=g) (c:=c) (N:=N) (p:=p++X1) (x:=X2) (y:=Y1) (q:=Y2++q) (a:=s) (m:=m) (b:=en) (cf B) (by rw [lJ];omega) l3 l4 (by omega) (by omega) (by rw [← e1];exact HNL.out) hNb (by rw [← e1];exact H)
   have HR:=jd hr
   clear hr l1 l2 l3 l4 l5 l6 l7 l8 l9 l10 h e1
   go_wp2_with fail
   refine HR.out.mono ?_
   rintro e w3 ⟨_,rfl,H3⟩
   clear HR H
   go_wp2
   go_meet
   simpa using H3
  | false=>
   have h:=ht1.out
   simp only [Bool.and_eq_false_iff,decide_eq_false_iff_not] at h
   have e1:p++X1++X2++Y1++Y2++q=p++X1++Y1++X2++Y2++q:=by
    rcases h with h | h
    ·have:X2=[]:=eJ (by omega)
     rw [this];simp
    ·have:Y1=[]:=eJ (by omega)
     rw [this];simp
   rw [e1] at H
   clear l1 l2 l3 l4 l5 l6 l7 l8 l9 l10 h e1
   go_wp2
   go_meet
   exact H
 case rest=>
 clear H
 have H:=hcut
 clear hcut
 apply_assumption
 exact tail2 (p:=p) (q:=q) (x:=x) (y:=y) (X1:=X1) (X2:=X2) (Y1:=Y1) (Y2:=Y2) (a:=a) (m:=m) (b:=b) (s:=s) (en:=en) (mid:=mid) wc hNb IH HFINAL HOX1 HOX2 HOY1 HOY2 HSX1 HSX2 HSY1 HSY2 HNL HMID2 ham hmb hbN hlens hensN1 hensN2 hmN1 _ _ _ _ _ _ _ _ _ _ _ _ _ _ _ _ _ _ _ _ _ _ _ _ _ _ _ _ _ _ _ _ _ _ _ _ _ _ _ _ _ _ _ _ _ _ _ _ _ _ _ _ _ _ _ _ _ _ _ _ _ _ _ _ _ _ _ _ _ _ _ _ _ _ _ _ _ _ _ _ _ _ _ _ _ _ _ _ _ _ _ _ _ _ _ _ _ _ _ _ _ _ _ _ _ _ _ _ _ _ _ _ _ _ _ _ _ _ _ _ _ _ _ _ _ _ _ _ _ _ _ _ _ _ _ _ _ _ _ _ _ _ _ _ _ _ _ _ _ _ _ _ _ _ _ _ _ _ _ _ _ _ _ _ _ _ _ _ _ _ _ _ _ _ _ _ _ _ _ _ _ _ _ _ _ _ _ _ _ _ _ _ _ _ _ _ _ _ _ _ _ _ _ _ _ _ _ _ _ _ _ _ H):T_tail_any A eC EL SZ G_symMergeCmpFunc cf SymAt symTail:=h
end Go.Proofs.YthekdeikodppkaaGreatDoor
namespace Go.Proofs.YthekdeikodppkaaGreatDoor
open Go.RowKit
namespace SI
noncomputable def symTail(r:Nat):Code:=((Tryz.f379.body.bind (fromR r)).getD .skip)
def SymAt(w0:World)(ps:List Piece)(ok:Int→Prop)(key:Int→Int)(B g c N f:Nat):Prop:=
 ∀ (w:World) (p x y q:List Int) (a m b:Nat),x.length+y.length≤f→(∀ v∈x,ok v)→(∀ v∈y,ok v)→Srt key x→Srt key y→a=p.length→m=a+x.length→b=m+y.length→0<x.length→0<y.length→N=(p++x++y++q).length →
  Own w0 w (slc 3 1 (.slice (some ⟨g,0,none⟩) N c) N (rows ie (p++x++y++q))::ps) →
  Calls Tryz.prog 379 #[.slice (some ⟨g,0,none⟩) N c,.int .i64 a,.int .i64 m,.int .i64 b,cf B] w (Ret fun _ w'=>∃ z,Mrg key x y z∧Own w0 w' (slc 3 1 (.slice (some ⟨g,0,none⟩) N c) N (rows ie (p++z++q))::ps))
open Go.Proofs.YthekdeikodppkaaGreatDoor.SI renaming ie → eC
section
variable {w0:World} {ps:List Piece} {ok:Int→Prop} {key:Int→Int} {B:Nat}
set_option maxRecDepth 1000000 in
set_option maxHeartbeats 12800000 in
theorem tail3:T_tail3 Int ie 3 1 Tryz.f379 cf SymAt symTail:=mk_tail3 _ _ _ _ _ _ _ _
set_option maxRecDepth 1000000 in
set_option maxHeartbeats 12800000 in
theorem tail2:T_tail2 Int ie 3 1 Tryz.f379 cf SymAt symTail:=mk_tail2 _ _ _ _ _ _ _ _
set_option maxRecDepth 1000000 in
set_option maxHeartbeats 12800000 in
theorem tail_any:T_tail_any Int ie 3 1 Tryz.f379 cf SymAt symTail:=mk_tail_any _ _ _ _ _ _ _ _
end
end SI
end Go.Proofs.YthekdeikodppkaaGreatDoor
namespace Go.Proofs.YthekdeikodppkaaGreatDoor
open Go.RowKit
set_option maxRecDepth 1000000
def T_sym_any(A:Type)(eC:A→List Value)(EL:TypeId)(SZ:Nat)(Cmps:World→List Piece→Nat→(A→Prop)→(A→Int)→Prop)(SymAt:World→List Piece→(A→Prop)→(A→Int)→Nat→Nat→Nat→Nat→Nat→Prop):Prop:=∀ ⦃w0:World⦄ ⦃ps:List Piece⦄ ⦃ok:A→Prop⦄ ⦃key:A→Int⦄ ⦃B:Nat⦄ ⦃g c N:Nat⦄ (hcmp:Cmps w0 ps B ok key) (hNb:N≤1000000),∀ (f:Nat),SymAt w0 ps ok key B g c N f
theorem mk_sym_any(A:Type)(eC:A→List Value)(EL:TypeId)(SZ:Nat)(Cmps:World→List Piece→Nat→(A→Prop)→(A→Int)→Prop)(SymAt:World→List Piece→(A→Prop)→(A→Int)→Nat→Nat→Nat→Nat→Nat→Prop)(h:T_sym_any A eC EL SZ Cmps SymAt:=by
 unfold T_sym_any
 intro w0 ps ok key B g c N hcmp hNb
 intro f
 induction f with
 | zero=>intro w p x y q a m b hf _ _ _ _ _ _ _ h1 _ _ _;omega
 | succ f ih=>
 intro w p x y q a m b hf hokx hoky hsx hsy ha hm hb hx0 hy0 hN H
 by_cases hx1:x.length=1
 ·obtain ⟨u,rfl⟩:=List.length_eq_one_iff.1 hx1
  exact symL_any hcmp (hokx u (by simp)) hoky hsy ha (by simpa using hm) hb hN hNb H
 by_cases hy1:y.length=1
 ·obtain ⟨u,rfl⟩:=List.length_eq_one_iff.1 hy1
  exact symR_any hcmp (hoky u (by simp)) hokx hsx (by omega) ha hm (by simpa using hb) hN hNb H
 have hbN:b≤N:=by rw [hN];simp only [lJ];omega
 have hNc:N≤c:=by obtain ⟨_,_,e,h1,_⟩:=H.rd.shape;cases e;exact h1
 have hc2:c≤9223372036854775807:=by obtain ⟨_,_,e,_,h1⟩:=H.rd.shape;cases e;exact h1
 have hgx:∀ (t:Nat) v,x[t]?=some v→(p++x++y++q)[a+t]?=some v:=by
  intro t v hv
  have:p++x++y++q=p++(x++(y++q)):=by simp
  rw [this,List.getElem?_append_right (by omega),List.getElem?_append_left (by have:=(gJ hv).1;omega)]
  rw [show a+t-p.length=t by omega]
  exact hv
 have hgy:∀ (t:Nat) v,y[t]?=some v→(p++x++y++q)[m+t]?=some v:=by
  intro t v hv
  have:p++x++y++q=(p++x)++(y++q):=by simp
  rw [this,List.getElem?_append_right (by rw [lJ];omega),List.getElem?_append_left (by have:=(gJ hv).1;rw [lJ];omega)]
  rw [show m+t-(p++x).length=t by rw [lJ];omega]
  exact hv
 have HGX:=jd hgx
 have HGY:=jd hgy
 have HP:=jd ha
 have HM:=jd hm
 have HB:=jd hb
 have HN:=jd hN
 have HC:=jd hcmp
 have HOX:=jd hokx
 have HOY:=jd hoky
 have HSX:=jd hsx
 have HSY:=jd hsy
 have HF:=jd hf
 have IH:Hid (SymAt w0 ps ok key B g c N f):=jd ih
 obtain ⟨L,hL⟩:∃ L,Hid (p++x++y++q=L):=⟨_,jd rfl⟩
 rw [hL.out] at H HGX HGY
 have ham:a+2≤m:=by omega
 have hmb:m+2≤b:=by omega
 have hma:(((m:Int)-(a:Int))==1)=false:=by simp;omega
 have hbm:(((b:Int)-(m:Int))==1)=false:=by simp;omega
 obtain ⟨mid,hmid⟩:∃ h,Hid ((a+b)/2=h):=⟨_,rfl⟩
 have hsI:(((a:Int)+(b:Int))/2)=(mid:Int):=by have:=hmid.out;omega
 have hsU:IntKind.u64.wrap ((a:Int)+(b:Int))=(a:Int)+(b:Int):=by simp [IntKind.wrap,IntKind.bits,IntKind.signed];omega
 obtain ⟨n,hn⟩:∃ n,Hid (mid+m=n):=⟨_,rfl⟩
 have hnI:((mid:Int)+(m:Int))=(n:Int):=by have:=hn.out;omega
 have hmid2:mid+mid≤a+b∧a+b≤mid+mid+1:=by rw [← hmid.out];omega
 have hmN:mid≤N∧n≤2*N:=by have:=hn.out;omega
 obtain ⟨hmN1,hmN2⟩:=hmN
 have hn1:1≤n:=by have:=hn.out;omega
 have HMID2:=jd hmid2
 clear hmid2 ih hf hokx hoky hsx hsy ha hm hb hx0 hy0 hN hgx hgy hcmp hx1 hy1
 go_enter fusymMergeCmpFunc,ntsymMergeCmpFunc
 go_upto_if 140 with (fail)
 go_cut [20,21] (fun s20 s21 wx=>wx=w∧∃ lo hi:Nat,s20=.int .i64 lo∧s21=.int .i64 hi∧Hid (a≤lo∧lo≤hi∧hi≤m∧(lo=a∨n=lo+b)∧(hi=m∨hi+m=n)∧(n≤lo+b∧m+hi≤n)∧∀ c,lo≤c→c<hi→m+c+1≤n∧n≤b+c))
 case first=>
  have hm2:=HMID2.out
  have hn2:=hn.out
  by_cases hmm:mid<m
  ·have hmmI:(mid:Int)<(m:Int):=by omega
   obtain ⟨lo,hlo⟩:∃ lo,n=lo+b:=⟨n-b,by omega⟩
   have hloI:((n:Int)-(b:Int))=(lo:Int):=by omega
   have hfacts:a≤lo∧lo≤mid∧mid≤m∧(lo=a∨n=lo+b)∧(mid=m∨mid+m=n)∧(n≤lo+b∧m+mid≤n)∧∀ c,lo≤c→c<mid→m+c+1≤n∧n≤b+c:=⟨by omega,by omega,by omega,.inr hlo,.inr hn2,⟨by omega,by omega⟩,fun c h1 h2=>⟨by omega,by omega⟩⟩
   have HFA:=jd hfacts
   clear hfacts hlo hn2 hm2
   go_wp2_with fail
   go_meet
   exact ⟨rfl,lo,mid,by go_num,rfl,HFA⟩
  ·have hmmI:¬ ((mid:Int)<(m:Int)):=by omega
   have hfacts:a≤a∧a≤m∧m≤m∧(a=a∨n=a+b)∧(m=m∨m+m=n)∧(n≤a+b∧m+m≤n)∧∀ c,a≤c→c<m→m+c+1≤n∧n≤b+c:=⟨by omega,by omega,by omega,.inl rfl,.inl rfl,⟨by omega,by omega⟩,fun c h1 h2=>⟨by omega,by omega⟩⟩
   clear hfacts hn2 hm2
   go_wp2_with fail
   go_meet
   refine ⟨rfl,a,m,rfl,rfl,jd ?_⟩
   have hm2:=HMID2.out
   have hn2:=hn.out
   exact ⟨by omega,by omega,by omega,.inl rfl,.inl rfl,⟨by omega,by omega⟩,fun c h1 h2=>⟨by omega,by omega⟩⟩
 case rest=>
  obtain ⟨rfl,lo,hi,rfl,rfl,HFA⟩:=hcut
  obtain ⟨pp,hpp⟩:∃ pp,n=pp+1:=⟨n-1,by omega⟩
  have hppI:((n:Int)-1)=(pp:Int):=by omega
  have HPP:=jd hpp
  have hppN:pp≤2*N:=by omega
  clear hpp
  go_upto_block 8 with (fail)
  go_cut [20] (fun s20 wx=>∃ s:Nat,s20=.int .i64 s∧lo≤s∧s≤hi∧Hid (s=lo∨∃ u v,x[s-1-a]?=some u∧y[n-s-m]?=some v∧key u≤key v)∧Hid (s=hi∨∃ u v,x[s-a]?=some u∧y[n-1-s-m]?=some v∧key v<key u)∧Own w0 wx ((sL g N c L)::ps))
  case first=>
   go_wp2_with fail
   go_loopw [20,21] (fun s20 s21 wx=>∃ (s r:Nat),s20=.int .i64 s∧s21=.int .i64 r∧lo≤s∧s≤r∧r≤hi∧Hid (s=lo∨∃ u v,x[s-1-a]?=some u∧y[n-s-m]?=some v∧key u≤key v)∧Hid (r=hi∨∃ u v,x[r-a]?=some u∧y[n-1-r-m]?=some v∧key v<key u)∧Own w0 wx ((sL g N c L)::ps)) (fun s20 s21 _=>(intOf s21).toNat-(intOf s20).toNat)
   case atStart=>exact ⟨lo,hi,rfl,by go_num,Nat.le_refl _,HFA.out.2.1,Nat.le_refl _,jd (.inl rfl),jd (.inl rfl),H⟩
   case round=>
    clear H hppI
    obtain ⟨s,r,rfl,rfl,hls,hsr,hrh,hlo,hhi,H⟩:=hrel
    by_cases hlt:s<r
    ·obtain ⟨h,hh⟩:∃ h,Hid ((s+r)/2=h):=⟨_,rfl⟩
     have hsh:s≤h:=by rw [← hh.out];omega
     have hhr:h<r:=by rw [← hh.out];omega
     have hsI2:(((s:Int)+(r:Int))/2)=(h:Int):=by have:=hh.out;omega
     have hrm:r≤N:=by have:=HFA.out.2.2.1;omega
     have hsU2:IntKind.u64.wrap ((s:Int)+(r:Int))=(s:Int)+(r:Int):=by simp [IntKind.wrap,IntKind.bits,IntKind.signed];omega
     obtain ⟨hf1,hf2⟩:=HFA.out.2.2.2.2.2.2 h (by omega) (by omega)
     obtain ⟨t,ht⟩:∃ t,h=a+t:=⟨h-a,by have:=HFA.out.1;omega⟩
     obtain ⟨u,hu⟩:=Ql (l:=x) (k:=t) (by have:=HM.out;have:=HFA.out.2.2.1;omega)
     obtain ⟨pc,hpc⟩:∃ pc,n=pc+1+h:=⟨n-1-h,by omega⟩
     obtain ⟨t2,ht2⟩:∃ t2,pc=m+t2:=⟨pc-m,by omega⟩
     obtain ⟨v,hv⟩:=Ql (l:=y) (k:=t2) (by have:=HB.out;omega)
     have hg1:=HGX.out t u hu
     have hg2:=HGY.out t2 v hv
     rw [← ht] at hg1
     rw [← ht2] at hg2
     have HG1:=jd hg1
     have HG2:=jd hg2
     have hoku:ok u:=HOX.out u (List.mem_of_getElem? hu)
     have hokv:ok v:=HOY.out v (List.mem_of_getElem? hv)
     have hpcI:((pp:Int)-(h:Int))=(pc:Int):=by have:=HPP.out;omega
     have hpcN:(pc:Int)<(N:Int):=by omega
     have hhN:(h:Int)<(N:Int):=by omega
     have hcall:=fun (wz:World) (h:Own w0 wz ((sL g N c L)::ps))=>HC.out wz _ h v u hokv hoku
     have hcl:=cmpI_lt (key v) (key u)
     obtain ⟨cv,hcv⟩:∃ cv,Hid (cmpI (key v) (key u)=cv):=⟨_,rfl⟩
     simp only [hcv.out] at hcall hcl
     have HCALL:=jd hcall
     have hlo2:¬ key v<key u→Hid (h+1=lo∨∃ u v,x[h+1-1-a]?=some u∧y[n-(h+1)-m]?=some v∧key u≤key v):=fun hk=>jd (.inr ⟨u,v,by rw [show h+1-1-a=t by omega];exact hu,by rw [show n-(h+1)-m=t2 by omega];exact hv,by omega⟩)
     have hhi2:key v<key u→Hid (h=hi∨∃ u v,x[h-a]?=some u∧y[n-1-h-m]?=some v∧key v<key u):=fun hk=>jd (.inr ⟨u,v,by rw [show h-a=t by omega];exact hu,by rw [show n-1-h-m=t2 by omega];exact hv,hk⟩)
     have HLO2:=jd hlo2
     have HHI2:=jd hhi2
     clear hlo2 hhi2 hg1 hg2 hu hv ht ht2 hcall hf1 hf2 hpc
     go_upto_region 35 with (fail)
     refine Qa (fun w1=>Own w0 w1 ((sL g N c L)::ps)) 12 (by kernel_rfl) (by kernel_rfl) H.drew ?_
     simp only [List.take_succ_cons,List.take_zero,List.drop_succ_cons,List.drop_zero]
     have hpw:IntKind.i64.wrap (pc:Int)=(pc:Int):=IntWalk.i64_in _ ⟨by omega,by omega⟩
     repeat
      first
      | (refine calm_value (v:=?_) (by decide) rfl (fun σ w1 hS=>?_) ?_
         rotate_left
         ·obtain ⟨c1,c1'⟩:=el hS.rd HG1.out;obtain ⟨c2,c2'⟩:=el hS.rd HG2.out
          first | (go_simp;rfl) | rfl
         simp only [Act.put,putC])
      | (refine calm_skip (by decide) rfl ?_
         simp only [Act.put,putC])
     refine calm_call (v:=.int .i64 cv) (by decide) rfl (fun w1=>(by go_simp;first | exact ⟨rfl,rfl⟩ | rfl)) (fun σ w1 hS=>?_) ?_
     ·refine (HCALL.out w1 hS).mono ?_
      rintro e w2 ⟨_,rfl,rfl,h2⟩
      exact ⟨rfl,hS.join h2⟩
     simp only [Act.put,putC]
     refine calm_nil ?_
     intro wd HD
     clear H
     by_cases hk:key v<key u
     ·have hk2:decide (cv<0)=true:=by rw [hcl];simp [hk]
      have hn':=HHI2.out hk
      clear hk hcl HLO2
      go_wp2
      go_roundw
      case rel=>exact ⟨s,h,rfl,by go_num,by omega,by omega,by omega,hlo,hn',HD⟩
      case measure=>simp [intOf];omega
     ·have hk2:decide (cv<0)=false:=by rw [hcl];simp [hk]
      have hn':=HLO2.out hk
      clear hk hcl HHI2
      go_wp2
      go_roundw
      case rel=>exact ⟨h+1,r,by go_num,rfl,by omega,by omega,by omega,hn',hhi,HD⟩
      case measure=>simp [intOf];omega
    ·have hsr2:s=r:=by omega
     subst hsr2
     clear hlt
     go_wp2
     go_meet
     exact ⟨s,rfl,hls,hrh,hlo,hhi,H⟩
  case rest=>
   clear H hppI
   obtain ⟨s,rfl,hls,hrh,hlo,hhi,H⟩:=hcut
   obtain ⟨q1,q2,q3,q4,q5,q7,q6⟩:=HFA.out
   have hm2:=HMID2.out
   have hn2:=hn.out
   have hMl:=HM.out
   have hBl:=HB.out
   obtain ⟨en,hen⟩:∃ en,n=en+s:=⟨n-s,by omega⟩
   have henb:en≤b:=by omega
   have hmen:m≤en:=by omega
   obtain ⟨X1,X2,hxs,hX1⟩:=split_at x (s-a) (by omega)
   obtain ⟨Y1,Y2,hys,hY1⟩:=split_at y (en-m) (by omega)
   have hX2l:s+X2.length=m:=by rw [hxs,lJ] at hMl;omega
   have hY2l:en+Y2.length=b:=by rw [hys,lJ] at hBl;omega
   have hA:∀ d∈X2,∀ e∈Y1,key e<key d:=by
    intro d hd e he
    rcases hhi.out with h | ⟨u,v,hu,hv,huv⟩
    ·rcases q5 with h2 | h2
     ·have:X2=[]:=eJ (by omega)
      rw [this] at hd;simp at hd
     ·have:Y1=[]:=eJ (by omega)
      rw [this] at he;simp at he
    ·obtain ⟨i',hi',rfl⟩:=List.getElem_of_mem hd
     obtain ⟨j',hj',rfl⟩:=List.getElem_of_mem he
     have h1:x[X1.length+i']?=some X2[i']:=by rw [hxs,List.getElem?_append_right (by omega),Nat.add_sub_cancel_left,List.getElem?_eq_getElem hi']
     have h2:y[j']?=some Y1[j']:=by rw [hys,List.getElem?_append_left hj',List.getElem?_eq_getElem hj']
     have h3:=srt_le HSX.out hu h1 (by omega)
     have h4:=srt_le HSY.out h2 hv (by omega)
     omega
   have hB':∀ d∈X1,∀ e∈Y2,key d≤key e:=by
    intro d hd e he
    rcases hlo.out with h | ⟨u,v,hu,hv,huv⟩
    ·rcases q4 with h2 | h2
     ·have:X1=[]:=eJ (by omega)
      rw [this] at hd;simp at hd
     ·have:Y2=[]:=eJ (by omega)
      rw [this] at he;simp at he
    ·obtain ⟨i',hi',rfl⟩:=List.getElem_of_mem hd
     obtain ⟨j',hj',rfl⟩:=List.getElem_of_mem he
     have h1:x[i']?=some X1[i']:=by rw [hxs,List.getElem?_append_left hi',List.getElem?_eq_getElem hi']
     have h2:y[Y1.length+j']?=some Y2[j']:=by rw [hys,List.getElem?_append_right (by omega),Nat.add_sub_cancel_left,List.getElem?_eq_getElem hj']
     have h3:=srt_le HSX.out h1 hu (by omega)
     have h4:=srt_le HSY.out hv h2 (by omega)
     omega
   have hfinal:∀ z1 z2,Mrg key X1 Y1 z1→Mrg key X2 Y2 z2→Mrg key x y (z1++z2):=fun z1 z2 h1 h2=>by
    rw [hxs,hys]
    exact Mrg.two h1 h2 (by rw [← hxs];exact HSX.out) (by rw [← hys];exact HSY.out) hA hB'
   have HFINAL:=jd hfinal
   have HOX1:Hid (∀ v∈X1,ok v):=jd fun v hv=>HOX.out v (by rw [hxs];simp [hv])
   have HOX2:Hid (∀ v∈X2,ok v):=jd fun v hv=>HOX.out v (by rw [hxs];simp [hv])
   have HOY1:Hid (∀ v∈Y1,ok v):=jd fun v hv=>HOY.out v (by rw [hys];simp [hv])
   have HOY2:Hid (∀ v∈Y2,ok v):=jd fun v hv=>HOY.out v (by rw [hys];simp [hv])
   have HSX1:Hid (Srt key X1):=jd (by have:=HSX.out;rw [hxs] at this;exact this.left)
   have HSX2:Hid (Srt key X2):=jd (by have:=HSX.out;rw [hxs] at this;exact this.right)
   have HSY1:Hid (Srt key Y1):=jd (by have:=HSY.out;rw [hys] at this;exact this.left)
   have HSY2:Hid (Srt key Y2):=jd (by have:=HSY.out;rw [hys] at this;exact this.right)
   have HL2:Hid (L=p++X1++X2++Y1++Y2++q):=jd (by rw [← hL.out,hxs,hys];simp)
   have HNL:Hid (N=(p++X1++X2++Y1++Y2++q).length):=jd (by rw [← HL2.out,← hL.out];exact HN.out)
   have hlens:Hid (a=p.length∧s=a+X1.length∧m=s+X2.length∧en=m+Y1.length∧b=en+Y2.length∧mid=s+Y1.length∧en=mid+X2.length∧X1.length+X2.length+(Y1.length+Y2.length)≤f+1∧0<X1.length+X2.length∧0<Y1.length+Y2.length):=jd (by
    have h1:=HP.out
    have h2:=HF.out
    rw [hxs,hys,lJ,lJ] at h2
    rw [hxs,lJ] at hMl
    rw [hys,lJ] at hBl
    refine ⟨h1,by omega,by omega,by omega,by omega,by omega,by omega,by omega,by omega,by omega⟩)
   have henI:((n:Int)-(s:Int))=(en:Int):=by omega
   have hensN:en≤N∧s≤N:=⟨by omega,by omega⟩
   obtain ⟨hensN1,hensN2⟩:=hensN
   have hsn:s≤n:=by omega
   rw [HL2.out] at H
   clear q1 q2 q3 q4 q5 q6 q7 hm2 hn2 hMl hBl hen henb hmen hxs hys hX1 hY1 hX2l hY2l hA hB' hfinal hlo hhi hL hsI hnI
   apply_assumption
   exact tail_any (p:=p) (q:=q) (x:=x) (y:=y) (X1:=X1) (X2:=X2) (Y1:=Y1) (Y2:=Y2) (a:=a) (m:=m) (b:=b) (s:=s) (en:=en) (mid:=mid) (n:=n) wc hNb IH HFINAL HOX1 HOX2 HOY1 HOY2 HSX1 HSX2 HSY1 HSY2 HNL HMID2 ham hmb hbN hlens hensN1 hensN2 hmN1 henI hsn hmN2 _ _ _ _ _ _ _ _ _ _ _ _ _ _ _ _ _ _ _ _ _ _ _ _ _ _ _ _ _ _ _ _ _ _ _ _ _ _ _ _ _ _ _ _ _ _ _ _ _ _ _ _ _ _ _ _ _ _ _ _ _ _ _ _ _ _ _ _ _ _ _ _ _ _ _ _ _ _ _ _ _ _ _ _ _ _ _ _ _ _ _ _ _ _ _ _ _ _ _ _ _ _ _ _ _ _ _ _ _ _ _ _ _ _ _ _ _ _ _ _ _ _ _ _ _ _ _ _ _ _ _ _ _ _ _ _ _ _ _ _ _ _ _ _ _ _ _ _ _ _ _ _ _ _ _ _ _ _ _ _ _ _ _ _ _ _ _ _ _ _ _ _ _ _ _ _ _ _ _ _ _ _ _ _ _ _ _ _ _ _ _ _ _ _ _ _ _ _ _ _ _ _ _ _ _ _ _ _ _ _ _ _ H):T_sym_any A eC EL SZ Cmps SymAt:=h
end Go.Proofs.YthekdeikodppkaaGreatDoor
namespace Go.Proofs.YthekdeikodppkaaGreatDoor
open Go.RowKit
namespace SI
theorem srt_le{α:Type}{key:α→Int}{l:List α}(h:Srt key l){i j:Nat}{u v:α}(hu:l[i]?=some u)(hv:l[j]?=some v)(hij:i≤j):key u≤key v:=by
 obtain ⟨h1,rfl⟩:=gJ hu
 obtain ⟨h2,rfl⟩:=gJ hv
 rcases Nat.lt_or_eq_of_le hij with h3 | h3
 ·exact List.pairwise_iff_getElem.1 h i j h1 h2 h3
 ·subst h3;exact Int.le_refl _
open Go.Proofs.Tryz renaming func379 → fusymMergeCmpFunc, ntmps379 → ntsymMergeCmpFunc
open Go.Proofs.YthekdeikodppkaaGreatDoor.SI renaming ie → eC
section
variable {w0:World} {ps:List Piece} {ok:Int→Prop} {key:Int→Int} {B:Nat}
set_option maxRecDepth 100000 in
set_option maxHeartbeats 12800000 in
theorem sym_any:T_sym_any Int ie 3 1 Cmps SymAt:=mk_sym_any _ _ _ _ _ _
end
end SI
end Go.Proofs.YthekdeikodppkaaGreatDoor
