/-
  Texts of this claim, one behind the other: archive.Pack of the one file 'a' that holds 'x', known of its own accord; TopBlocks; All the functions that are known of their own accord, together.
-/
import Derived.Test.YthekdeikodppkaaGreatDoorKb22
set_option linter.unusedVariables false
namespace Go.Proofs.YthekdeikodppkaaGreatDoor
open Go.RowKit
def fileAX:FileP:=⟨⟨#[97]⟩,⟨#[120]⟩⟩
theorem ax_good:fgood fileAX:=⟨by kernel_rfl,by decide⟩
set_option maxRecDepth 100000 in
theorem ax_raw:(putF [fileAX]).size=5:=by kernel_rfl
set_option maxRecDepth 100000 in
theorem ax_size:(packF (putF [fileAX])).size=7:=by kernel_rfl
theorem fix1:fixF 1 4=⟨#[0,0,0,1]⟩:=by kernel_rfl
theorem fix2:fixF 1 2=⟨#[0,1]⟩:=by kernel_rfl
theorem fix3:fixF 7 4=⟨#[0,0,0,7]⟩:=by kernel_rfl
theorem fix4:fixF 5 4=⟨#[0,0,0,5]⟩:=by kernel_rfl
noncomputable section
def axFlds(salt root:Txt):Txt:=tcat [.by [83,76,71,49,0,0,0,1]] (tcat salt (tcat [.by [0,1,0,0,0,7,0,0,0,5]] root))
theorem axFlds_ok{F:Funs}{e:Env}{salt root:Txt}(hs:ok F e salt)(hr:ok F e root):ok F e (axFlds salt root)∧Qb (den F e (axFlds salt root))=fldF 1 (Qb (den F e salt)) 1 7 5 (Qb (den F e root)):=by
 have h1:=tcat_ok (F:=F) (e:=e) (s:=[.by [0,1,0,0,0,7,0,0,0,5]]) (t:=root) ⟨by intro x hx;revert x;decide,trivial⟩ hr
 have h2:=tcat_ok (F:=F) (e:=e) hs h1.1
 have h3:=tcat_ok (F:=F) (e:=e) (s:=[.by [83,76,71,49,0,0,0,1]]) ⟨by intro x hx;revert x;decide,trivial⟩ h2.1
 refine ⟨h3.1,?_⟩
 rw [axFlds,h3.2,h2.2,h1.2]
 unfold fldF
 rw [fix1,fix2,fix3,fix4]
 apply ByteArray.ext
 apply Array.ext'
 simp [Qb,den,Ck.den]
def axPr:Prims:=onPr 5 fun args h=>match args with
 | [.txt sec,.txt salt,.lit (.int .i64 (.ofNat 1)),.slc b 0 1 c 2]=>match h.bs[b]? with
  | some (.cells (.txt [.by [97]]::.txt [.by [120]]::rest))=>
   if Nat.beq (tlen salt) 16&&Nat.ble (tlen sec) 1000 then
    fNat h.nv fun k=>fPush h.bs (.cells [.txt [.vr k 0 224]]) fun bs=>fNat (k+1) fun k2=>
     fAV (.agg [.lit (.int .i64 (.ofNat 1)),.txt salt,.lit (.int .i64 (.ofNat 1)),.lit (.int .i64 (.ofNat 7)),.lit (.int .i64 (.ofNat 5)),.txt [.op 5 [nz [.vr k 0 224]] 0 32],
      .txt [.op 4 [nz [.op 3 [nz sec] 0 32],nz (axFlds salt [.op 5 [nz [.vr k 0 224]] 0 32])] 0 32],.slc h.bs.length 0 1 1 1]) fun a=>some (.ok (.tup [a,.lit (.int .i64 (.ofNat 0))],⟨bs,k2⟩))
   else none
  | _=>none
 | _=>none
theorem axPr_ok:Qc FF Tryz.prog axPr:=by
 refine Qc.on fun args h v h' hr e w0 w vs H hv=>?_
 split at hr
 rotate_left
 ·cases hr
 rename_i sec salt b c
 split at hr
 rotate_left
 ·cases hr
 rename_i rest hb
 split at hr
 rotate_left
 ·cases hr
 rename_i hn
 simp only [Vv,fPush_eq,fAV_eq] at hr
 cases hr
 simp only [Bool.and_eq_true,Nat.ble_eq,Nat.beq_eq] at hn
 obtain ⟨hsl,hsec⟩:=hn
 obtain ⟨v1,l1,hl1,g1,v2,l2,hl2,g2,v3,l3,hl3,g3,v4,l4,hl4,g4,g5⟩:=hv
 obtain rfl:l4=[]:=g5
 subst hl4;subst hl3;subst hl2
 obtain rfl:vs=#[v1,v2,v3,v4]:=by apply Array.ext';exact hl1
 obtain ⟨g1a,rfl⟩:=g1
 obtain ⟨g2a,rfl⟩:=g2
 obtain rfl:v3=.int .i64 1:=g3
 have hlen1:=Zh g1a
 have hlen2:=Zh g2a
 obtain ⟨B,k,m,c',o',hx,rfl,ho,q1,q2,q3,q4⟩:=g4
 obtain rfl:o'=k+0:=by rcases ho with ho | ho <;> omega
 obtain ⟨u0,cu0,r0⟩:=H.load hb hx (i:=0) rfl
 obtain ⟨u1,cu1,r1⟩:=H.load hb hx (i:=1) rfl
 have e0:u0=.string ⟨#[97]⟩:=by rw [r0.2];rfl
 have e1:u1=.string ⟨#[120]⟩:=by rw [r1.2];rfl
 subst e0;subst e1
 have hrd:Rd w 2 (.slice (some ⟨B,o',none⟩) 1 c') 1 (rows fe [fileAX]):=by
  refine ⟨rfl,_,_,rfl,by omega,q4,by simp,?_⟩
  intro ad had j u hu
  obtain rfl:=Option.some.inj had
  rw [Addr.add_lit]
  match j,hu with
  | 0,hu=>cases hu;exact cu0
  | 1,hu=>cases hu;exact cu1
  | j+2,hu=>simp [rows,fe] at hu
 have hP:=pack_arc (Qb (den FF e sec)) (Qb (den FF e salt)) 1 (by rw [Zg];omega) (by rw [Zg];omega) ⟨by decide,by decide⟩ hrd (by decide) (by intro x hx;rw [show x=fileAX by simpa using hx];exact ⟨by decide,by decide⟩) (by decide)
 refine hP.mono ?_
 rintro en w' ⟨u,rfl,hpk⟩
 rcases hpk with ⟨_,-,-,hbad,-⟩ | ⟨bl,by0,rw0,tg,sv,rfl,hpk,-,ho⟩
 ·have:=hbad (by intro x hx;rw [show x=fileAX by simpa using hx];exact ax_good) (by decide)
  rw [ax_size] at this
  omega
 ·obtain ⟨p1,p2,p3,p4⟩:=hpk
  rw [ax_size] at p2
  rw [ax_raw] at p3
  subst p2;subst p3
  have hL1:bl.length=1:=by
   obtain ⟨-,s2,s3⟩:=splF_sizes _ (packF (putF [fileAX])) (Nat.le_refl _)
   have:=s3 (pack_pos _)
   rw [p1,seals_length]
   rw [ax_size] at s2
   omega
  have hB224:∀ x∈bl,x.size=224:=by rw [p1];exact seals_sizes (splF_sizes _ _ (Nat.le_refl _)).1
  obtain ⟨blk0,rfl⟩:∃ x,bl=[x]:=List.length_eq_one_iff.1 hL1
  have hs224:blk0.data.toList.length=224:=by rw [Array.length_toList];exact hB224 blk0 (by simp)
  have H1:=H.text blk0.data.toList
  have hle1:e.le ⟨e.bl,e.tx++[blk0.data.toList]⟩:=⟨⟨[],by simp⟩,⟨_,rfl⟩⟩
  have hvr:VR FF ⟨e.bl,e.tx++[blk0.data.toList]⟩ (.txt [.vr h.nv 0 224]) (.string blk0):=by
   have hget:(e.tx++[blk0.data.toList])[h.nv]?=some blk0.data.toList:=by rw [H.nv,List.getElem?_append_right (Nat.le_refl _)];simp
   refine ⟨⟨⟨blk0.data.toList,hget,by omega,by omega⟩,trivial⟩,?_⟩
   simp only [den,Ck.den,cutL,List.append_nil,List.drop_zero,List.getD_eq_getElem?_getD,hget,Option.getD_some]
   rw [List.take_of_length_le (by omega),aBytes_back]
  obtain ⟨e',hle2,hsv,H2⟩:=H1.made (cs:=[.txt [.vr h.nv 0 224]]) ho (by simp) ⟨_,[],rfl,hvr,rfl⟩
  have hle:=Env.le_trans hle1 hle2
  have hroot:VR FF e' (.txt [.op 5 [nz [.vr h.nv 0 224]] 0 32]) (.string (leafF blk0)):=by
   have:=VR.le hle2 _ _ hvr
   exact op1_vr this.1 (by
    have h2:=this.2
    rw [Value.string.injEq] at h2
    show (leafF (Qb (den FF e' [.vr h.nv 0 224]))).data.toList=_
    rw [← h2]) (leaf_size _)
  have hsec2:=VR.le hle _ _ (show VR FF e (.txt sec) _ from ⟨g1a,rfl⟩)
  have hsalt2:=VR.le hle _ _ (show VR FF e (.txt salt) _ from ⟨g2a,rfl⟩)
  have hm1:mroot ([blk0].map leafF)=leafF blk0:=by rw [mroot,List.map_cons,List.map_nil,Vj]
  rw [hm1] at p4
  have hkh:VR FF e' (.txt [.op 3 [nz sec] 0 32]) (.string (keyHead (Qb (den FF e sec)))):=op1_vr hsec2.1 (by rw [den_le hle sec g1a];rfl) (keyHead_size _)
  obtain ⟨f1,f2⟩:=axFlds_ok hsalt2.1 hroot.1
  have hroot2:Qb (den FF e' [.op 5 [nz [.vr h.nv 0 224]] 0 32])=leafF blk0:=(Value.string.inj hroot.2).symm
  have hkh2:Qb (den FF e' [.op 3 [nz sec] 0 32])=keyHead (Qb (den FF e sec)):=(Value.string.inj hkh.2).symm
  rw [hroot2,den_le hle salt g2a] at f2
  have htag:VR FF e' (.txt [.op 4 [nz [.op 3 [nz sec] 0 32],nz (axFlds salt [.op 5 [nz [.vr h.nv 0 224]] 0 32])] 0 32]) (.string tg):=by
   refine op2_vr hkh.1 f1 ?_ (by rw [p4];exact Vy _ _)
   show (tagF (Qb (den FF e' [.op 3 [nz sec] 0 32])) (bn (Qb (den FF e' (axFlds salt [.op 5 [nz [.vr h.nv 0 224]] 0 32]))))).data.toList=_
   rw [hkh2,f2,p4]
   rfl
  refine ⟨_,rfl,e',hle,⟨_,rfl,_,_,rfl,⟨_,rfl,?_⟩,_,_,rfl,rfl,rfl⟩,?_⟩
  ·rw [hm1]
   exact ⟨_,_,rfl,rfl,_,_,rfl,hsalt2,_,_,rfl,rfl,_,_,rfl,rfl,_,_,rfl,rfl,_,_,rfl,hroot,_,_,rfl,htag,_,_,rfl,hsv,rfl⟩
  ·exact H2
end
def wantF(p:Nat→Bool)(i:Nat):List Nat:=(List.range i).filter p
theorem want_succ(p:Nat→Bool)(i:Nat):wantF p (i+1)=wantF p i++(if p i then [i] else []):=by
 simp only [wantF,List.range_succ,List.filter_append]
 cases h:p i <;> simp [h]
theorem want_lt{p:Nat→Bool}{i x:Nat}(h:x∈wantF p i):x<i:=by
 simp [wantF] at h
 exact h.1
theorem want_pair(p:Nat→Bool)(i:Nat):(wantF p i).Pairwise (· < ·):=by
 unfold wantF
 exact List.Pairwise.filter _ List.pairwise_lt_range
theorem mem_sum{x:FileP}:∀ {l:List FileP},x∈l→x.path.size+x.data.size≤Ve l
 | [],h=>by simp at h
 | y::l,h=>by
  rw [show Ve (y::l)=(y.path.size+y.data.size)+Ve l from rfl]
  rcases List.mem_cons.1 h with rfl | h
  ·omega
  ·have:=mem_sum h;omega
theorem packed_facts{secret salt:ByteArray}{id:Int}{l:List FileP}{bl:List ByteArray}{bytes raw:Nat}{tag:ByteArray}(h:Packed secret salt id l bl bytes raw tag)(h49:bytes≤49152):1≤bl.length∧bl.length≤256∧∀ b∈bl,b.size=224:=by
 obtain ⟨h1,h2,-,-⟩:=h
 obtain ⟨g1,g2,g3⟩:=splF_sizes _ (packF (putF l)) (Nat.le_refl _)
 have:=g3 (pack_pos _)
 rw [h1,seals_length]
 refine ⟨this,by omega,seals_sizes g1⟩
set_option maxRecDepth 100000 in
set_option maxHeartbeats 12800000 in
theorem topblocks_any(hAw:∀ w,Calls Tryz.prog 7 #[] w (fun e w'=>e=.returned (.bool true)∧Own w w' []))
 {w:World} {a:Option Addr} {n c:Nat} {l:List FileP} (secret salt:ByteArray) (bts0 m0:Int) (h1:secret.size≤140737488351232) (h2:salt.size≤140737488351232) (hm0:-9223372036854775808≤m0∧m0≤9223372036854775807)
 (hb0:-9223372036854775808≤bts0∧bts0≤9223372036854775807)
 (hr:Rd w 2 (.slice a n c) n (rows fe l)) (hs:∀ x∈l,x.path.size≤9223372036854775807∧x.data.size≤9223372036854775807) :
 Calls Tryz.prog 3 #[.string secret,.string salt,.slice a n c,.int .i64 bts0,.int .i64 m0] w (fun e w'=>e=.returned (.bool true)∧Own w w' []):=by
 have HF:=jd (files_any hr hs)
 replace hAw:=jd hAw
 obtain ⟨Z,hZ⟩:∃ Z,secret.size=Z:=⟨_,rfl⟩
 rw [hZ] at h1
 have hln:l.length=n:=by have:=hr.len;rw [Qp fe (k:=2) SF.e_length] at this;omega
 go_enter Tryz.func3,Tryz.ntmps3
 go_wp2_with fail
 refine HF.out.mono ?_
 rintro e w1 ⟨_,rfl,k,hkn,hk70,rfl,H,hsum⟩
 clear HF
 go_upto_if 29 with (fail)
 go_cut [0] (fun v0 wx=>∃ sc:ByteArray,v0=.string sc∧sc.size≤100∧Own w wx [])
 case first=>
  by_cases h100:100<Z
  ·have hI:(100:Int)<(Z:Int):=by omega
   go_wp2
   go_meet
   exact ⟨_,rfl,by rw [ByteArray.size_extract];omega,H⟩
  ·have hI:¬ (100:Int)<(Z:Int):=by omega
   go_wp2
   go_meet
   exact ⟨_,rfl,by omega,H⟩
 case rest=>
  obtain ⟨sc,rfl,hsc,H2⟩:=hcut
  clear H
  have hr2:Rd w 2 (.slice a k c) k (rows fe (l.take k)):=by
   have:=hr.take hkn
   rwa [rows_take fe SF.e_length] at this
  obtain ⟨l2,hl2⟩:∃ l2,l.take k=l2:=⟨_,rfl⟩
  rw [hl2] at hr2 hsum
  have hl2s:∀ x∈l2,x.path.size≤1000000∧x.data.size≤1000000000:=fun x hx=>by have:=mem_sum hx;omega
  have HP:=jd fun w' (h:Own w w' []) st hst=>pack_arc (n:=k) (l:=l2) sc st 1 (by omega) hst ⟨by omega,by omega⟩ (hr2.old h) (by omega) hl2s hsum
  have HS:=jd fun w=>salt_any salt h2 w
  clear hr hs hr2 hl2 hl2s hsum
  go_wp2_with fail
  refine (HS.out wc).mono ?_
  rintro e w2 ⟨_,rfl,st,rfl,hst,H3⟩
  replace H3:=(H2.join H3).bare
  have HP2:=jd (HP.out w2 H3 st hst)
  clear HP HS H2
  go_wp2_with fail
  refine HP2.out.mono ?_
  rintro e w3 ⟨_,rfl,hp⟩
  clear HP2
  rcases hp with ⟨e,rfl,he,-,H4⟩ | ⟨bl,by0,rw0,tg,v,rfl,hpk,hb49,H4⟩
  ·replace H4:=H3.join H4
   have heI:(e==0)=false:=by simp [he]
   have heJ:(e != 0)=true:=by simp [he]
   go_wp2_with (refine Qe rfl _ _ rfl rfl (H4.alloc _) (vs:=[.int .i64 0,.string ⟨#[]⟩,.int .i64 0,.int .i64 0,.int .i64 0,.string ⟨#[]⟩,.string ⟨#[]⟩,.slice none 0 0]) rfl (by kernel_rfl) (by simp) (by simp [Value.oneCell']) rfl ?_;clear H4;intro w5 H4)
   refine (hAw.out _).mono ?_
   rintro e w6 ⟨rfl,H6⟩
   go_wp2
   go_ret
   exact ⟨rfl,(H4.join H6).bare⟩
  ·obtain ⟨hN1,hN256,hbs⟩:=packed_facts hpk hb49
   replace H4:=H3.join H4
   rw [List.append_nil] at H4
   obtain ⟨N,hN⟩:∃ N,bl.length=N:=⟨_,rfl⟩
   obtain ⟨S,hS⟩:∃ S,Hid (bl.map leafF=S):=⟨_,rfl⟩
   have hSl:S.length=N:=by rw [← hS.out,List.length_map,hN]
   have hS32:Hid (∀ s∈S,s.size=32):=jd fun s hs=>by
    rw [← hS.out] at hs
    obtain ⟨x,-,rfl⟩:=List.mem_map.1 hs
    exact leaf_size x
   have hSk:Hid (∀ (k:Nat) x,bl[k]?=some x→S[k]?=some (leafF x)):=jd fun k x h=>by rw [← hS.out,List.getElem?_map,h];rfl
   obtain ⟨R,hR⟩:∃ R,Hid (mroot S=R):=⟨_,rfl⟩
   rw [hN] at H4
   rw [hS.out,hR.out,hN]
   rw [hN] at hN1 hN256
   obtain ⟨ba,bc,rfl,hbc1,hbc2⟩:=H4.rd.shape
   clear hpk hb49 H3 hS
   unfold arcC
   have hN0:((N:Int)==0)=false:=by simp;omega
   replace hbs:=jd hbs
   go_upto_region 10 with (refine Qe rfl _ _ rfl rfl (H4.alloc _) (vs:=[.int .i64 1,.string st,.int .i64 N,.int .i64 by0,.int .i64 rw0,.string R,.string tg,.slice ba N bc]) rfl (by kernel_rfl) (by simp) (by simp [Value.oneCell']) rfl ?_;clear H4;intro w5 H4;have c0:=H4.cells)
   generalize w3.heap.size=ga at *
   have c5:w5.cell? ⟨ga,5,none⟩=some (.string R):=by rw [c0];rfl
   replace c0:w5.cell? ⟨ga,7,none⟩=some (.slice (ba) N bc):=by rw [c0];rfl
   replace H4:Own w w5 (blk ga (.cells #[.int .i64 1,.string st,.int .i64 N,.int .i64 by0,.int .i64 rw0,.string R,.string tg,.slice ba N bc] 28)::slc 9 1 (.slice ba N bc) N (txs bl)::[]):=H4
   go_wp2_with fail
   refine (grnew_any w5).mono ?_
   rintro e w6 ⟨_,rfl,gt,rfl,H6⟩
   replace H6:=H4.join H6
   clear H4 c0 c5
   obtain ⟨m,hm⟩:∃ m:Nat,Hid (((m:Nat):Int)=1+((m0.tmod N+N).tmod N)):=⟨_,jd (Int.toNat_of_nonneg (by have:=Int.tmod_nonneg (a:=m0.tmod N+N) (N:Int) (by have:=Int.lt_tmod_of_pos m0 (b:=(N:Int)) (by omega);omega);omega))⟩
   have hm1:1≤m:=by
    have:=hm.out
    have:=Int.tmod_nonneg (a:=m0.tmod N+N) (N:Int) (by have:=Int.lt_tmod_of_pos m0 (b:=(N:Int)) (by omega);omega)
    omega
   have hmN:m≤N:=by
    have:=hm.out
    have:=Int.tmod_lt_of_pos (m0.tmod N+N) (b:=(N:Int)) (by omega)
    omega
   have hlt:=Int.lt_tmod_of_pos m0 (b:=(N:Int)) (by omega)
   have hlt2:=Int.tmod_lt_of_pos m0 (b:=(N:Int)) (by omega)
   have hw1:wrap64 (m0.tmod N+N)=m0.tmod N+N:=by unfold wrap64;omega
   have hw2:Hid (wrap64 (1+(wrap64 (m0.tmod N+N)).tmod N)=(m:Int)):=jd (by
    rw [hw1,← hm.out]
    have:=hm.out
    unfold wrap64;omega)
   clear hlt hlt2 hw1
   go_upto_region 15 with (fail)
   rw [hw2.out]
   clear hw2 hm
   go_upto_block 0 with (fail)
   obtain ⟨pd,hpd⟩:∃ pd:Nat→Bool,Hid (pd=fun i=>bits BinOp.and IntKind.i64 (bts0/2^(i%62)) 1==1):=⟨_,jd rfl⟩
   go_wp2_with fail
   go_loopw [14,15,16,18,19,20] (fun v14 v15 v16 v18 v19 _ wx=>∃ (i:Nat) (fr:ByteArray),v19=.int .i64 i∧i≤N∧v18=.string fr∧Hid (m≤i→fr=mroot (S.take m))∧Own w wx (Grw gt (S.take i)::slc 9 1 v14 i (txs (S.take i))::slc 3 1 v16 (wantF pd i).length (nts (wantF pd i))::slc 9 1 v15 (wantF pd i).length (txs ((wantF pd i).map fun i=>S.getD i ByteArray.empty))::blk ga (.cells #[.int .i64 1,.string st,.int .i64 N,.int .i64 by0,.int .i64 rw0,.string R,.string tg,.slice ba N bc] 28)::slc 9 1 (.slice ba N bc) N (txs bl)::[])) (fun _ _ _ _ v19 _ _=>N-(intOf v19).toNat)
   case atStart=>
    refine ⟨0,⟨#[]⟩,rfl,by omega,rfl,jd (fun h=>by omega),?_⟩
    have h7:=((H6.nil 9 1).nil 3 1).nil 9 1
    exact ((((h7.front 1 rfl).front 2 rfl).front 3 rfl))
   case round=>
    clear H6
    obtain ⟨i,fr,rfl,hi,rfl,hfr,H⟩:=hrel
    obtain ⟨W,hW⟩:∃ W,Hid (wantF pd i=W):=⟨_,rfl⟩
    rw [hW.out] at H
    obtain ⟨wl,hwl⟩:∃ wl,W.length=wl:=⟨_,rfl⟩
    have hwl9:wl≤i:=by
     rw [← hwl,← hW.out]
     exact Nat.le_trans (List.length_filter_le _ _) (by rw [List.length_range];exact Nat.le_refl _)
    rw [hwl] at H
    by_cases hiN:i<N
    ·have hI2:(i:Int)<(N:Int):=by omega
     have hi0:(0:Int)≤(i:Int):=by omega
     obtain ⟨x,hx⟩:∃ x,bl[i]?=some x:=Ql (by omega)
     have hxs:=hbs.out x (List.mem_of_getElem? hx)
     have hSx:=hSk.out i x hx
     have hrd:=(H.front 5 rfl).rd
     obtain ⟨b,o,c',e,-⟩:=Rd.some hrd (by rw [Qr];omega)
     cases e
     have h0:wr.cell? ⟨b,o+i,none⟩=some (.string x):=Rd.cell hrd (j:=i) (u:=.string x) (by rw [Kp hx])
     have c0:wr.cell? ⟨ga,7,none⟩=some (.slice (some ⟨b,o,none⟩) N bc):=by rw [(H.front 4 rfl).cells];rfl
     have HL:=jd (mkleaf_any x (by omega) wr)
     obtain ⟨y,hy⟩:∃ y,Hid (leafF x=y):=⟨_,rfl⟩
     rw [hy.out] at HL hSx
     have hy32:y.size=32:=by rw [← hy.out];exact leaf_size x
     have hst:Hid (S.take (i+1)=S.take i++[y]):=jd (by rw [List.take_add_one,hSx];rfl)
     have hgy:Hid (S.getD i ByteArray.empty=y):=jd (by rw [List.getD_eq_getElem?_getD,hSx];rfl)
     clear hrd hx hy hSx
     obtain ⟨a14,c14,rfl,g1,g2⟩:=(H.front 1 rfl).rd.shape
     obtain ⟨a16,c16,rfl,g3,g4⟩:=(H.front 2 rfl).rd.shape
     obtain ⟨a15,c15,rfl,g5,g6⟩:=(H.front 3 rfl).rd.shape
     go_wp2_with fail
     refine HL.out.mono ?_
     rintro e w7 ⟨rfl,H7⟩
     replace H7:=H.join H7
     rw [List.nil_append] at H7
     clear H HL h0 c0
     have H8:=((H7.front 1 rfl))
     clear H7
     go_wp2_with (at_builtin;refine Qf (news:=[.string y]) rfl _ _ rfl Tryz.underlying26 Kd rfl (by decide) rfl H8 rfl rfl rfl (by simp [Value.oneCell']) (by omega) (by omega) ?_;clear H8;intro v' w' H8)
     obtain ⟨a14',c14',rfl,g1',g2'⟩:=H8.rd.shape
     rw [show txs (S.take i)++[.string y]=txs (S.take (i+1)) by rw [hst.out,Zi];rfl] at H8
     have hGA:=jd (gradd_any (l:=S.take i) y hy32 (fun s hs=>hS32.out s (List.mem_of_mem_take hs)) (by rw [List.length_take];omega) H8.swap)
     rw [← hst.out] at hGA
     clear H8
     go_wp2_with fail
     refine hGA.out.mono ?_
     rintro e w9 ⟨_,rfl,rfl,H9⟩
     clear hGA
     have hW2:=jd (want_succ pd i)
     rw [hW.out] at hW2
     go_upto_if 81 with (fail)
     go_cut [15,16] (fun v15 v16 wx=>Own w wx (Grw gt (S.take (i+1))::slc 9 1 (.slice a14' (i+1) c14') (i+1) (txs (S.take (i+1)))::slc 3 1 v16 (wantF pd (i+1)).length (nts (wantF pd (i+1)))::slc 9 1 v15 (wantF pd (i+1)).length (txs ((wantF pd (i+1)).map fun i=>S.getD i ByteArray.empty))::blk ga (.cells #[.int .i64 1,.string st,.int .i64 N,.int .i64 by0,.int .i64 rw0,.string R,.string tg,.slice (some ⟨b,o,none⟩) N bc] 28)::slc 9 1 (.slice (some ⟨b,o,none⟩) N bc) N (txs bl)::[]))
     case first=>
      cases hpi:pd i
      ·have hbit:(bits BinOp.and IntKind.i64 (bts0/2^(i%62)) 1==1)=false:=by rw [hpd.out] at hpi;exact hpi
       rw [hpi] at hW2
       simp only [Bool.false_eq_true,if_false,List.append_nil] at hW2
       go_wp2_with fail
       go_meet
       rw [hW2.out,hwl]
       exact H9
      ·have hbit:(bits BinOp.and IntKind.i64 (bts0/2^(i%62)) 1==1)=true:=by rw [hpd.out] at hpi;exact hpi
       rw [hpi] at hW2
       simp only [if_true] at hW2
       have H10:=((H9.front 2 rfl))
       clear H9
       go_wp2_with (first
        | (at_builtin;refine Qf (news:=[.int .i64 i]) rfl _ _ rfl Tryz.underlying34 Vr rfl (by decide) rfl H10 rfl rfl rfl (by simp [Value.oneCell']) (by omega) (by omega) ?_;clear H10;intro v16' w10 H10;obtain ⟨a16',c16',rfl,g3',g4'⟩:=H10.rd.shape;have H11:=((H10.front 3 rfl));clear H10)
        | (at_builtin;refine Qf (news:=[.string y]) rfl _ _ rfl Tryz.underlying26 Kd rfl (by decide) rfl H11 rfl rfl rfl (by simp [Value.oneCell']) (by omega) (by omega) ?_;clear H11;intro v15' w11 H11;obtain ⟨a15',c15',rfl,g5',g6'⟩:=H11.rd.shape))
       go_meet
       have H12:=((((H11.front 1 rfl).front 3 rfl).front 3 rfl))
       rw [hW2.out,lJ,hwl,List.map_append,Zi]
       simp only [List.map_cons,List.map_nil,hgy.out]
       rw [show nts (W++[i])=nts W++[.int .i64 i] by simp [nts]]
       exact H12
     case rest=>
      clear H9 hW2
      have hiw:IntKind.i64.wrap ((i:Int)+1)=((i+1:Nat):Int):=by rw [IntWalk.i64_in _ ⟨by omega,by omega⟩];omega
      obtain ⟨q,hq⟩:∃ q,i+1=q:=⟨_,rfl⟩
      rw [hq] at hcut hiw ⊢
      have hqN:q≤N:=by omega
      have hqi:i<q∧N-q<N-i:=by omega
      replace hq:=jd hq
      have hSq:(S.take q).length=q:=by rw [List.length_take];omega
      by_cases hmi:m=q
      ·subst hmi
       have hmiI:((m:Int)==(m:Int))=true:=by simp
       have hR2:=jd (grroot_any (l:=S.take m) (fun s hs=>hS32.out s (List.mem_of_mem_take hs)) (by omega) (by omega) hcut)
       go_wp2_with fail
       refine hR2.out.mono ?_
       rintro e w12 ⟨rfl,H12⟩
       replace H12:=hcut.join H12
       rw [List.nil_append] at H12
       clear hR2 hcut
       go_wp2_with fail
       go_roundw
       case rel=>exact ⟨m,_,by go_num,by omega,rfl,jd (fun _=>rfl),H12⟩
       case measure=>simp [intOf];omega
      ·have hmiI:((q:Int)==(m:Int))=false:=by simp;omega
       go_wp2_with fail
       go_roundw
       case rel=>exact ⟨q,fr,by go_num,by omega,rfl,jd (fun h=>hfr.out (by have:=hq.out;omega)),hcut⟩
       case measure=>simp [intOf];omega
    ·obtain rfl:i=N:=by omega
     have hI2:¬ (i:Int)<(i:Int):=by omega
     obtain rfl:=hfr.out hmN
     rw [List.take_of_length_le (by omega)] at H
     have hWp:Hid (W.Pairwise (· < ·)):=jd (by rw [← hW.out];exact want_pair _ _)
     have hWb:Hid (∀ x∈W,x<i):=jd (by rw [← hW.out];exact fun x hx=>want_lt hx)
     obtain ⟨a14,c14,rfl,g1,g2⟩:=(H.front 1 rfl).rd.shape
     obtain ⟨a16,c16,rfl,g3,g4⟩:=(H.front 2 rfl).rd.shape
     obtain ⟨a15,c15,rfl,g5,g6⟩:=(H.front 3 rfl).rd.shape
     obtain ⟨ps,hps⟩:∃ ps:List Piece,ps=(Grw gt S::slc 9 1 (.slice a14 i c14) i (txs S)::slc 3 1 (.slice a16 wl c16) wl (nts W)::slc 9 1 (.slice a15 wl c15) wl (txs (W.map fun i=>S.getD i ByteArray.empty))::blk ga (.cells #[.int .i64 1,.string st,.int .i64 i,.int .i64 by0,.int .i64 rw0,.string R,.string tg,.slice ba i bc] 28)::slc 9 1 (.slice ba i bc) i (txs bl)::[]):=⟨_,rfl⟩
     have H2:Own w wr ps:=by rw [hps];exact H
     have k2:Hid (∀ w1,Own w w1 ps→Calls Tryz.prog 11 #[.pointer (some ⟨gt,0,none⟩)] w1 (fun e w2=>e=.returned (.string R)∧Own w w2 ps)):=jd fun w1 h=>by
      rw [hps] at h
      have:=grroot_any (l:=S) hS32.out (by omega) (by omega) h
      rw [hR.out] at this
      rw [hps]
      exact this.mono fun e w2 g=>⟨g.1,h.join g.2⟩
     have cS:Hid (∀ w1,Own w w1 ps→w1.cell? ⟨ga,5,none⟩=some (.string R)):=jd fun w1 h=>by
      rw [hps] at h
      rw [(h.front 4 rfl).cells];rfl
     go_upto_region 27 with (fail)
     refine Qa (fun w1=>Own w w1 ps) 5 (by kernel_rfl) (by kernel_rfl) H2.drew ?_
     simp only [List.take_succ_cons,List.take_zero,List.drop_succ_cons,List.drop_zero]
     repeat
      first
      | (refine calm_value (v:=?_) (by decide) rfl (fun σ w1 hS=>?_) ?_
         rotate_left
         ·have c5:=cS.out _ hS
          first | (go_simp;rfl) | rfl
         simp only [Act.put,putC])
      | (refine calm_skip (by decide) rfl ?_
         simp only [Act.put,putC])
     refine calm_call (v:=.string R) (by decide) rfl (fun w1=>(by go_simp)) (fun σ w1 hS=>k2.out w1 hS) ?_
     simp only [Act.put,putC]
     repeat
      first
      | (refine calm_value (v:=?_) (by decide) rfl (fun σ w1 hS=>?_) ?_
         rotate_left
         ·have c5:=cS.out _ hS
          first | (go_simp;rfl) | rfl
         simp only [Act.put,putC])
      | (refine calm_skip (by decide) rfl ?_
         simp only [Act.put,putC])
     refine calm_nil ?_
     intro wd HD
     clear H2 k2 H
     have c5:=cS.out _ HD
     rw [hps] at HD
     have hCP:=jd (csprove_any (m:=m) (l:=S) (by omega) hm1 hmN (HD.front 1 rfl).rd (fun s hs=>by have:=hS32.out s hs;omega))
     go_wp2_with fail
     refine hCP.out.mono ?_
     rintro e w12 ⟨_,rfl,u,rfl,H12⟩
     have hCC:=jd (cscheck_any (m:=m) (l:=S) (by omega) hm1 hmN hSl hS32.out H12.rd)
     replace H12:=HD.join H12
     clear HD hCP c5
     obtain ⟨ua,uc,e,hu1,hu2⟩:=H12.rd.shape
     obtain rfl:=e
     obtain ⟨ml,hml⟩:∃ x,Hid ((msub m S true).length=x):=⟨_,rfl⟩
     obtain ⟨MS,hMS⟩:∃ x,Hid (txs (msub m S true)=x):=⟨_,rfl⟩
     rw [hml.out,hMS.out] at H12
     rw [hml.out,hR.out] at hCC
     have c5:w12.cell? ⟨ga,5,none⟩=some (.string R):=by rw [(H12.front 5 rfl).cells];rfl
     rw [hml.out]
     go_wp2_with fail
     refine hCC.out.mono ?_
     rintro e w13 ⟨rfl,H13⟩
     replace H13:=H12.join H13
     rw [List.nil_append] at H13
     clear H12 hCC c5 cS hps
     by_cases hw0:wl=0
     ·have hw0I:((wl:Int)==0)=true:=by simp [hw0]
      go_wp2_with fail
      refine (hAw.out _).mono ?_
      rintro e w14 ⟨rfl,H14⟩
      go_wp2
      go_ret
      exact ⟨rfl,(H13.join H14).bare⟩
     ·have hw0I:((wl:Int)==0)=false:=by simp [hw0]
      have hMP:=jd (muProve_any (n:=i) (m:=wl) (l:=S) (want:=W) (by omega) (by omega) (by omega) (H13.front 2 rfl).rd (H13.front 3 rfl).rd (fun s hs=>by have:=hS32.out s hs;omega) hWp.out hWb.out (by omega))
      go_wp2_with fail
      refine hMP.out.mono ?_
      rintro e w14 ⟨_,rfl,q,rfl,H14⟩
      have hrq:=H14.rd
      replace H14:=H13.join H14
      clear H13 hMP
      have hMC:=jd (mucheck_any (l:=S) (want:=W) (n:=i) (by omega) (by omega) hSl (by intro h;rw [h] at hwl;exact hw0 hwl.symm) hWp.out hWb.out hS32.out (by rw [hwl];exact (H14.front 4 rfl).rd) (by rw [hwl];exact (H14.front 5 rfl).rd) hrq)
      obtain ⟨qa,qc,e,hq1,hq2⟩:=hrq.shape
      obtain rfl:=e
      obtain ⟨pl,hpl⟩:∃ x,Hid ((Zr W S).length=x):=⟨_,rfl⟩
      rw [hpl.out,hR.out] at hMC
      have c5:w14.cell? ⟨ga,5,none⟩=some (.string R):=by rw [(H14.front 6 rfl).cells];rfl
      rw [hpl.out]
      clear hrq
      go_wp2_with fail
      refine hMC.out.mono ?_
      rintro e w15 ⟨rfl,H15⟩
      replace H15:=H14.join H15
      clear H14 hMC c5
      go_wp2_with fail
      refine (hAw.out _).mono ?_
      rintro e w16 ⟨rfl,H16⟩
      go_wp2
      go_ret
      exact ⟨rfl,(H15.join H16).bare⟩
noncomputable section
def pr0:Prims:=orPr prRepeat (orPr prTrim (orPr prLeaf (orPr prKeys (orPr prSum (orPr prTag (orPr prEqual (orPr prRep axPr)))))))
theorem pr0_ok:Qc FF Tryz.prog pr0:=prRepeat_ok.or (prTrim_ok.or (prLeaf_ok.or (prKeys_ok.or (prSum_ok.or (prTag_ok.or (prEqual_ok.or (prRep_ok.or axPr_ok)))))))
theorem Qk:Tryz.prog.follows .mixedOrders=true:=by kernel_rfl
def pr1:Prims:=orPr (syPr (aRun Tryz.prog pr0 200 20)) pr0
theorem pr1_ok:Qc FF Tryz.prog pr1:=(syPr_ok (Qt Qk pr0_ok 200 20)).or pr0_ok
def pr2:Prims:=orPr (dPr Tryz.prog 146 (aRun Tryz.prog pr1 200 20) (fun ops tm h=>aDraw Tryz.prog (aRun Tryz.prog pr1 200 20) ops tm h) 200) pr1
theorem Jn:Qc FF Tryz.prog pr2:=(Qc.defer (Qt Qk pr1_ok 200 20) (aDraw_ok Qk (Qt Qk pr1_ok 200 20)) _ _).or pr1_ok
end
end Go.Proofs.YthekdeikodppkaaGreatDoor
