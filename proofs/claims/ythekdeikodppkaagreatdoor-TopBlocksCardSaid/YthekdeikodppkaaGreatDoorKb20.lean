/-
  Texts of this claim, one behind the other: flate; flate; disk.Sync, known of its own accord; slices.Repeat of a text, known of its own accord; strings.Trim of zeros, known of its own accord (by the shelf's contract, laid at this program).
-/
import Derived.Test.YthekdeikodppkaaGreatDoorKb19
import Derived.Maps.RangeWalk
import Derived.Maps.RangeRun
import Derived.Shelf.Strings.Trim
import Derived.Ground.NamesProg
import Derived.Test.YthekdeikodppkaaGreatDoorRows
import Derived.KernelRfl
set_option linter.unusedVariables false
namespace Go.Proofs.YthekdeikodppkaaGreatDoor
open Go.RowKit
set_option maxRecDepth 100000 in
set_option maxHeartbeats 25600000 in
theorem rich_any{w0 w:World}{ps:List Piece}{g:Nat}{bs:List Bool}{tv:Value}{l:List Tok}(last:Bool)(ht:Reads w0 ps 3 tv l.length (rows tcell l))(hs:∀ t∈l,TokOk t)(hln:l.length≤1000000)(H:Own w0 w (Wtr g bs::ps))(hl:bs.length+48*l.length≤35184372000000) :
 Calls Tryz.prog 192 #[.pointer (some ⟨g,0,none⟩),tv,.bool last] w (Ret fun _ w'=>Own w0 w' (Wtr g (bs++Kl l 2 last)::ps)):=by
 obtain ⟨ta,tc,rfl,ht1,ht2⟩:=(ht w H.drop).shape
 obtain ⟨L,hL⟩:∃ L,Hid (richL l=L):=⟨_,jd rfl⟩
 obtain ⟨D,hD⟩:∃ D,Hid (richD l=D):=⟨_,jd rfl⟩
 obtain ⟨RS,hRS⟩:∃ RS,Hid (richR l=RS):=⟨_,jd rfl⟩
 obtain ⟨RL,hRL⟩:∃ RL,Hid (runL RS=RL):=⟨_,jd rfl⟩
 obtain ⟨SO,hSO⟩:∃ SO,Hid (sortedF RL=SO):=⟨_,jd rfl⟩
 have mL:=richL_made hs hln
 have mD:=richD_made hs hln
 have okR:=richR_ok hs hln
 have lenR:=richR_len hs hln
 have oks:∀ t∈l,SymOk (richL l) (richD l) t:=fun t h=>rich_sym hs hln h
 have oL:=lit_ok hs hln
 have oD:=dist_ok hs hln
 have hB:Hid (bs++Kl l 2 last=bs++headB last 2++(sizesB L.length D.length SO.length++(lensB SO++(runsB RL RS++bodyB L D l)))):=jd (by
  unfold Kl richB
  rw [if_neg (by omega),hRS.out,hRL.out,hSO.out,hL.out,hD.out,List.append_assoc])
 rw [hB.out]
 rw [hRS.out] at okR lenR
 have mR:=runL_made okR (by omega)
 have m7:=sorted_7 okR (by omega)
 have mS:=sorted_len RL
 have oR:=run_ok okR (by omega)
 rw [hL.out] at mL oks
 rw [hD.out] at mD oks
 rw [hRL.out] at mR m7
 rw [hSO.out] at m7 mS
 obtain ⟨N,hN⟩:∃ N,Hid (l.length=N):=⟨_,jd rfl⟩
 have HS:=jd hs
 have HT:=jd ht
 have ML:=jd mL
 have MD:=jd mD
 have MR:=jd mR
 have M7:=jd m7
 have OKR:=jd okR
 have OKS:=jd oks
 have OL:=jd oL
 have OD:=jd oD
 have OR:=jd oR
 obtain ⟨hS1,hS2⟩:=mS
 have k0:=fun w1 h=>counted2_any (ht w1 h) hs hln
 rw [hN.out] at HT ht1 hl hln k0 ⊢
 have K0:=jd k0
 clear hs ht mL mD okR oks oL oD mR m7 oR k0
 go_enter Tryz.func192,Tryz.ntmps192
 go_wp2_with fail
 refine (K0.out _ H.drop).mono ?_
 rintro e w1 ⟨_,rfl,v1,u1,rfl,J⟩
 replace H:=H.join J
 clear J
 obtain ⟨a1,c1,rfl,-⟩:=H.rd.shape
 obtain ⟨a2,c2,rfl,-⟩:=(H.front 1 rfl).rd.shape
 have kl:=lengths_any (L:=15) H.rd (by omega)
 have hel:errF (litFq l) 15=0:=errF_ok (by omega) (by rw [Vl];omega) OL.out.freq (by rw [Vl];decide)
 have hed:errF (Vf l) 15=0:=errF_ok (by omega) (by rw [Zu];omega) OD.out.freq (by rw [Zu];decide)
 rw [hel] at kl
 have KL:=jd kl
 clear kl hel
 go_wp2_with fail
 refine KL.out.mono ?_
 rintro e w2 ⟨_,rfl,v3,rfl,J⟩
 replace H:=H.join J
 clear J KL
 have kd:=lengths_any (L:=15) (H.front 2 rfl).rd (by omega)
 rw [hed] at kd
 have KD:=jd kd
 clear kd hed
 rw [OL.out.len,Vl] at H
 obtain ⟨g3,c3,rfl,-⟩:=H.at (by rw [Qg,OL.out.len,Vl];omega)
 go_wp2_with fail
 refine KD.out.mono ?_
 rintro e w3 ⟨_,rfl,v4,rfl,J⟩
 replace H:=H.join J
 clear J KD
 rw [OD.out.len,Zu] at H
 obtain ⟨g4,c4,rfl,-⟩:=H.at (by rw [Qg,OD.out.len,Zu];omega)
 have H:Own w0 w3 (slc 3 1 (.slice (some ⟨g3,0,none⟩) 286 c3) 286 (nums (resF (litFq l) 15))::slc 3 1 (.slice (some ⟨g4,0,none⟩) 30 c4) 30 (nums (resF (Vf l) 15))::Wtr g bs::ps):=((((H.front 1 rfl).front 3 rfl).front 3 rfl).drop.drop)
 have kt:=fun w1 (h:Own w0 w1 (slc 3 1 (.slice (some ⟨g3,0,none⟩) 286 c3) 286 (nums (resF (litFq l) 15))::slc 3 1 (.slice (some ⟨g4,0,none⟩) 30 c4) 30 (nums (resF (Vf l) 15))::Wtr g bs::ps))=>trim_own 257 h (by rw [OL.out.len,Vl]) (by omega) (by omega)
 have kt2:=fun w1 (qs:List Piece) (h:Own w0 w1 (slc 3 1 (.slice (some ⟨g4,0,none⟩) 30 c4) 30 (nums (resF (Vf l) 15))::qs))=>trim_own 1 h (by rw [OD.out.len,Zu]) (by omega) (by omega)
 rw [show trimF (resF (litFq l) 15) 257=L from hL.out] at kt
 have hD2:trimF (resF (Vf l) 15) 1=D:=hD.out
 simp only [hD2] at kt2
 have KT:=jd kt
 have KT2:=jd kt2
 clear kt kt2 hD2
 go_wp2_with fail
 refine (KT.out _ H).mono ?_
 rintro e w4 ⟨_,rfl,rfl,H4⟩
 clear H
 go_wp2_with fail
 refine (KT2.out _ _ H4.swap).mono ?_
 rintro e w5 ⟨_,rfl,rfl,H⟩
 clear H4 KT KT2
 obtain ⟨nL,hnL⟩:∃ n,Hid (L.length=n):=⟨_,jd rfl⟩
 obtain ⟨nD,hnD⟩:∃ n,Hid (D.length=n):=⟨_,jd rfl⟩
 have hnL1:=ML.out.lo
 have hnL2:=ML.out.hi
 have hnD1:=MD.out.lo
 have hnD2:=MD.out.hi
 rw [hnL.out] at H hnL1 hnL2 ⊢
 rw [hnD.out] at H hnD1 hnD2 ⊢
 go_wp2_with fail
 have H5:=H.alloc (.cells #[.slice (some ⟨g3,0,none⟩) nL c3,.slice (some ⟨g4,0,none⟩) nD c4] 34)
 have hrow:Rd (w5.alloc (.cells #[.slice (some ⟨g3,0,none⟩) nL c3,.slice (some ⟨g4,0,none⟩) nD c4] 34)) 1 (.slice (some ⟨w5.heap.size,0,none⟩) 2 2) 2 [.slice (some ⟨g3,0,none⟩) nL c3,.slice (some ⟨g4,0,none⟩) nD c4]:=by
  refine ⟨rfl,_,_,rfl,Nat.le_refl _,by decide,by simp,fun ad had j u hu=>?_⟩
  obtain rfl:=Option.some.inj had
  rw [Addr.add_lit,Nat.zero_add,H5.cell]
  simpa using hu
 have hcc:=concat_any [L,D] [.slice (some ⟨g3,0,none⟩) nL c3,.slice (some ⟨g4,0,none⟩) nD c4] hrow rfl rfl (by omega) (fun k u X hu hX=>by
  match k with
  | 0=>cases hu;cases hX;rw [hnL.out];exact (H5.front 2 rfl).rd
  | 1=>cases hu;cases hX;rw [hnD.out];exact (H5.front 1 rfl).rd
  | k+2=>cases hu) (by simp [hnL.out,hnD.out];omega)
 have hfl:[L,D].flatten=L++D:=by simp
 have hfll:(L++D).length=nL+nD:=by rw [lJ,hnL.out,hnD.out]
 rw [hfl,hfll] at hcc
 have HCC:=jd hcc
 have H6:Own w0 (w5.alloc (.cells #[.slice (some ⟨g3,0,none⟩) nL c3,.slice (some ⟨g4,0,none⟩) nD c4] 34)) (slc 3 1 (.slice (some ⟨g3,0,none⟩) nL c3) nL (nums L)::slc 3 1 (.slice (some ⟨g4,0,none⟩) nD c4) nD (nums D)::Wtr g bs::ps):=(H5.drop).swap
 clear hcc hrow H5 H hfl hfll
 generalize w5.alloc _=w6 at *
 generalize w5.heap.size=gr at *
 refine HCC.out.mono ?_
 rintro e w7 ⟨v7,rfl,J⟩
 have H:=H6.join J
 clear J HCC H6
 have hrn:=runs_any H.rd (by omega)
 rw [show runsF (L++D)=RS by rw [← hRS.out,← hL.out,← hD.out];rfl] at hrn
 have HRN:=jd hrn
 clear hrn
 obtain ⟨a7,c7,rfl,-⟩:=H.rd.shape
 obtain ⟨nR,hnR⟩:∃ n,Hid (RS.length=n):=⟨_,jd rfl⟩
 rw [hnR.out] at HRN lenR
 go_wp2_with fail
 refine HRN.out.mono ?_
 rintro e w8 ⟨v8,rfl,J⟩
 have H8:=H.join J
 clear J HRN H
 obtain ⟨a8,c8,rfl,-⟩:=H8.rd.shape
 have H:Own w0 w8 (slc 390 3 (.slice a8 nR c8) nR (rows rcell RS)::slc 3 1 (.slice (some ⟨g3,0,none⟩) nL c3) nL (nums L)::slc 3 1 (.slice (some ⟨g4,0,none⟩) nD c4) nD (nums D)::Wtr g bs::ps):=((H8.front 1 rfl).drop)
 clear H8
 have hmk:∀ w:World,(Instr.makeSlice 34 (.int .i64 19) (.int .i64 19)).run Tryz.prog w=.ok (.slice (some ⟨w.heap.size,0,none⟩) 19 19) (w.alloc (.cells (madeCells #[.int .i64 0] 19) 3)):=run_make_row' _ _ _ 8 Tryz.underlying34 Vr rfl .i64 .i64 19 (by omega) (by omega)
 go_upto_region 6 with (fail)
 have h9:=(H.alloc (.cells (madeCells #[.int .i64 0] 19) 3)).slc_mk (xs:=nums (runFq (RS.take 0))) (n:=19) (size:=1) (by rw [Qg,Vi]) (Nat.le_refl _) (by simp [maxLen]) (by simp [size_madeCells]) (by rw [toList_madeCells_one];rfl)
 clear H hmk
 generalize w8.alloc _=w9 at *
 generalize w8.heap.size=gf at *
 have H:=h9
 clear h9
 go_wp2_with fail
 go_loopw [53] (fun s53 wx=>∃ k:Nat,s53=.int .i64 k∧k≤nR∧Own w0 wx (slc 3 1 (.slice (some ⟨gf,0,none⟩) 19 19) 19 (nums (runFq (RS.take k)))::slc 390 3 (.slice a8 nR c8) nR (rows rcell RS)::slc 3 1 (.slice (some ⟨g3,0,none⟩) nL c3) nL (nums L)::slc 3 1 (.slice (some ⟨g4,0,none⟩) nD c4) nD (nums D)::Wtr g bs::ps)) (fun s53 _=>nR-(intOf s53).toNat)
 case atStart=>exact ⟨0,by go_num,by omega,H⟩
 case round=>
  clear H
  obtain ⟨k,rfl,hk,H⟩:=hrel
  by_cases hlt:k<nR
  ·have hI:(k:Int)<(nR:Int):=by omega
   obtain ⟨t,htk⟩:=Ql (l:=RS) (k:=k) (by rw [hnR.out];exact hlt)
   have hok:=OKR.out t (List.mem_of_getElem? htk)
   have hls:=made_freq RS k t htk
   obtain ⟨b,o,_,he2,-⟩:=(H.front 1 rfl).rd.some (by rw [Qp rcell rcell_length,hnR.out];omega)
   cases he2
   obtain ⟨c0,cc1,cc2⟩:=run_cells (H.front 1 rfl).rd htk
   have hkl:Hid (∀ j,0≤(runFq (RS.take k)).getD j 0∧(runFq (RS.take k)).getD j 0≤100000):=jd (fun j=>by
    rw [runFq_get (fun r h=>OKR.out r (List.mem_of_mem_take h))]
    have:=List.countP_le_length (p:=fun x:Int=>decide (x=(j:Int))) (l:=(RS.take k).map Run.sym)
    rw [List.length_map,List.length_take] at this
    omega)
   have hfl:=Vi (RS.take k)
   obtain ⟨hsy,-,-⟩:=hok
   obtain ⟨x,y,z⟩:=t
   simp only at c0 cc1 cc2 hsy hls
   obtain ⟨s,rfl⟩:∃ s:Nat,x=s:=⟨x.toNat,by omega⟩
   have hst:=nums_bump (runFq (RS.take k)) s
   rw [← hls] at hst
   have cf:=H.getc (Jj (Za (F:=runFq (RS.take k)) (i:=s) (by omega)))
   have hb:=hkl.out s
   obtain ⟨v,hv⟩:∃ v,(runFq (RS.take k)).getD s 0=v:=⟨_,rfl⟩
   rw [hv] at hb cf hst
   have hw:IntKind.i64.wrap (v+1)=v+1:=IntWalk.i64_in _ ⟨by omega,by omega⟩
   have hsI:(s:Int)<19:=by omega
   have HST:=jd hst
   have hs19:s<19:=by omega
   have CF:=jd (show (nums (runFq (RS.take k)))[s]?=some (.int .i64 v) by rw [← hv];exact Jj (Za (by omega)))
   clear htk hls hkl hfl hv hst cf
   go_upto_region 9 with (refine Qe (vs:=[.int .i64 s,.int .i64 y,.int .i64 z]) rfl _ _ rfl rfl (H.alloc _) rfl (by kernel_rfl) (by simp) (by simp;exact ⟨rfl,rfl,rfl⟩) rfl ?_;clear c0 cc1 cc2;intro w10 H10)
   clear H
   generalize wr.heap.size=tb at *
   have c0:=H10.cells
   have cf:=(H10.front 1 rfl).getc CF.out
   go_wp2_with (refine Ja rfl _ _ rfl rfl (H10.front 1 rfl) (.int .i64 (v+1)) rfl (by kernel_rfl) hs19 rfl ?_;clear H10 c0 cf;intro w11 H;rw [HST.out] at H)
   go_roundw
   case rel=>exact ⟨k+1,by go_num,by omega,H.swap.drop⟩
   case measure=>simp [intOf];omega
  ·obtain rfl:k=nR:=by omega
   have hI:¬ (k:Int)<(k:Int):=by omega
   have htk:RS.take k=RS:=List.take_of_length_le (by rw [hnR.out];exact Nat.le_refl _)
   rw [htk] at H
   have kl:=lengths_any (L:=7) H.rd (by omega)
   have hel:errF (runFq RS) 7=0:=errF_ok (by omega) (by rw [Vi];omega) OR.out.freq (by rw [Vi];decide)
   have hrl:resF (runFq RS) 7=RL:=hRL.out
   have hrll:RL.length=19:=by have:=MR.out.lo;have:=MR.out.hi;omega
   rw [hel,hrl,hrll] at kl
   have KL:=jd kl
   have HRLL:=jd hrll
   clear kl hel hrl htk hrll
   go_wp2_with fail
   refine KL.out.mono ?_
   rintro e w12 ⟨_,rfl,v5,rfl,J⟩
   replace H:=H.join J
   clear J KL
   obtain ⟨g5,c5,rfl,-⟩:=H.at (by rw [Qg,HRLL.out];omega)
   have H:Own w0 w12 (slc 3 1 (.slice (some ⟨g5,0,none⟩) 19 c5) 19 (nums RL)::slc 390 3 (.slice a8 k c8) k (rows rcell RS)::slc 3 1 (.slice (some ⟨g3,0,none⟩) nL c3) nL (nums L)::slc 3 1 (.slice (some ⟨g4,0,none⟩) nD c4) nD (nums D)::Wtr g bs::ps):=((H.front 1 rfl).drop)
   go_wp2_with fail
   refine (order_any _).mono ?_
   rintro e w13 ⟨_,rfl,rfl,J⟩
   have H:Own w0 w13 (slc 3 1 (.slice (some ⟨g5,0,none⟩) 19 c5) 19 (nums RL)::slc 390 3 (.slice a8 k c8) k (rows rcell RS)::slc 3 1 (.slice (some ⟨g3,0,none⟩) nL c3) nL (nums L)::slc 3 1 (.slice (some ⟨g4,0,none⟩) nD c4) nD (nums D)::Wtr g bs::ps):=H.join J
   clear J
   have hord:Hid (∀ j,j<19→(nums (ordF.map Int.ofNat)).toArray[j]?=some (.int .i64 ((ordF.getD j 0:Nat):Int))∧ordF.getD j 0<19):=jd (fun j hj=>by
    have:=(show ∀ j:Fin 19,ordF.getD j.1 0<19∧(ordF.map Int.ofNat)[j.1]?=some ((ordF.getD j.1 0:Nat):Int) by decide) ⟨j,hj⟩
    refine ⟨?_,this.1⟩
    rw [List.getElem?_toArray]
    exact Jj this.2)
   have hordl:Hid ((nums (ordF.map Int.ofNat)).toArray.size=19):=jd rfl
   generalize (nums (ordF.map Int.ofNat)).toArray=OA at *
   replace H:=H.nil 3 1
   go_wp2_with fail
   obtain ⟨MO,hMO0⟩:∃ MO,Hid ((ordF.map fun s=>RL.getD s 0)=MO):=⟨_,jd rfl⟩
   have hMO:Hid (MO.length=19):=jd (by rw [← hMO0.out,List.length_map];rfl)
   have hMg:Hid (∀ j,j<19→MO.getD j 0=RL.getD (ordF.getD j 0) 0):=jd (fun j hj=>by
    rw [← hMO0.out,List.getD_eq_getElem?_getD,List.getElem?_map,List.getD_eq_getElem?_getD (l:=ordF)]
    rw [List.getElem?_eq_getElem (show j<ordF.length from hj)]
    rfl)
   have hSO2:Hid (trimF MO 4=SO):=jd (by rw [← hMO0.out];exact hSO.out)
   go_loopw [18,71] (fun s18 s71 wx=>∃ i:Nat,s71=.int .i64 i∧i≤19∧Own w0 wx (slc 3 1 s18 i (nums (MO.take i))::slc 3 1 (.slice (some ⟨g5,0,none⟩) 19 c5) 19 (nums RL)::slc 390 3 (.slice a8 k c8) k (rows rcell RS)::slc 3 1 (.slice (some ⟨g3,0,none⟩) nL c3) nL (nums L)::slc 3 1 (.slice (some ⟨g4,0,none⟩) nD c4) nD (nums D)::Wtr g bs::ps)) (fun _ s71 _=>19-(intOf s71).toNat)
   case atStart=>exact ⟨0,by go_num,by omega,H⟩
   case round=>
    clear H
    obtain ⟨i,rfl,hi,H⟩:=hrel
    obtain ⟨a9,c9,rfl,-⟩:=H.rd.shape
    by_cases hi19:i<19
    ·have hiI:(i:Int)<19:=by omega
     obtain ⟨ho1,ho2⟩:=hord.out i hi19
     have hmg:=hMg.out i hi19
     have hsn:Hid (nums (MO.take i)++[.int .i64 (MO.getD i 0)]=nums (MO.take (i+1))):=jd (by
      rw [List.take_add_one,Za (by rw [hMO.out];exact hi19)];simp [nums])
     have cr:=(H.front 1 rfl).getc (Jj (Za (F:=RL) (i:=ordF.getD i 0) (by rw [HRLL.out];exact ho2)))
     rw [← hmg] at cr
     have hix:∀ w,(Instr.index 391 (.agg OA) (.int .i64 i)).run Tryz.prog w=.ok (.int .i64 ((ordF.getD i 0:Nat):Int)) w:=fun w=>run_index_arr _ _ 19 OA i _ w Tryz.underlying391 (fun w=>(int_one w).1) (fun w=>(int_one w).2) hi19 ho1
     have ho2I:((ordF.getD i 0:Nat):Int)<19:=by omega
     obtain ⟨oj,hoj⟩:∃ oj,ordF.getD i 0=oj:=⟨_,rfl⟩
     obtain ⟨mv,hmv⟩:∃ mv,MO.getD i 0=mv:=⟨_,rfl⟩
     rw [hoj] at ho1 ho2 ho2I cr hix
     rw [hmv] at hsn cr
     clear hoj hmv
     clear hmg
     go_wp2_with (at_builtin;refine Qf rfl _ _ rfl Tryz.underlying34 Vr rfl (by decide) rfl H (news:=[.int .i64 mv]) rfl rfl rfl (by simp [Value.oneCell']) (by omega) (by omega) ?_;clear H cr;intro v' w' H;rw [hsn.out] at H;obtain ⟨a10,c10,rfl,-⟩:=H.rd.shape)
     go_roundw
     case rel=>exact ⟨i+1,by go_num,by omega,H⟩
     case measure=>simp [intOf];omega
    ·obtain rfl:i=19:=by omega
     have hiI:¬ (((19:Nat):Int)<19):=by omega
     rw [List.take_of_length_le (by rw [hMO.out];exact Nat.le_refl _)] at H
     obtain ⟨g6,c6,he6,-⟩:=H.at (by rw [Qg,hMO.out];omega)
     cases he6
     have kt:=fun w1 (h:Own w0 w1 (slc 3 1 (.slice (some ⟨g6,0,none⟩) 19 c9) 19 (nums MO)::slc 3 1 (.slice (some ⟨g5,0,none⟩) 19 c5) 19 (nums RL)::slc 390 3 (.slice a8 k c8) k (rows rcell RS)::slc 3 1 (.slice (some ⟨g3,0,none⟩) nL c3) nL (nums L)::slc 3 1 (.slice (some ⟨g4,0,none⟩) nD c4) nD (nums D)::Wtr g bs::ps))=>trim_own 4 h hMO.out (by omega) (by omega)
     rw [hSO2.out] at kt
     have KT:=jd kt
     clear kt
     go_wp2_with fail
     refine (KT.out _ H).mono ?_
     rintro e w14 ⟨_,rfl,rfl,H14⟩
     clear H KT
     obtain ⟨nS,hnS⟩:∃ n,Hid (SO.length=n):=⟨_,jd rfl⟩
     rw [hnS.out] at H14 hS1 hS2 ⊢
     have H:Own w0 w14 (Wtr g bs::slc 3 1 (.slice (some ⟨g6,0,none⟩) nS c9) nS (nums SO)::slc 3 1 (.slice (some ⟨g5,0,none⟩) 19 c5) 19 (nums RL)::slc 390 3 (.slice a8 k c8) k (rows rcell RS)::slc 3 1 (.slice (some ⟨g3,0,none⟩) nL c3) nL (nums L)::slc 3 1 (.slice (some ⟨g4,0,none⟩) nD c4) nD (nums D)::ps):=H14.front 5 rfl
     clear H14
     go_wp2_with fail
     have k1:=fun w1 h=>head_any (w:=w1) (w0:=w0) (ps:=slc 3 1 (.slice (some ⟨g6,0,none⟩) nS c9) nS (nums SO)::slc 3 1 (.slice (some ⟨g5,0,none⟩) 19 c5) 19 (nums RL)::slc 390 3 (.slice a8 k c8) k (rows rcell RS)::slc 3 1 (.slice (some ⟨g3,0,none⟩) nL c3) nL (nums L)::slc 3 1 (.slice (some ⟨g4,0,none⟩) nD c4) nD (nums D)::ps) (g:=g) (bs:=bs) last 2 (by omega) h (by omega)
     obtain ⟨W1,hW1⟩:∃ W,Hid (bs++headB last 2=W):=⟨_,jd rfl⟩
     have hW1l:W1.length=bs.length+3:=by rw [← hW1.out,lJ];simp [headB,Qd]
     rw [hW1.out] at k1
     have e1:(nL:Int)-256-1=(nL:Int)-257:=by omega
     have k2:=fun w1 h=>Vn (w:=w1) (w0:=w0) (ps:=slc 3 1 (.slice (some ⟨g6,0,none⟩) nS c9) nS (nums SO)::slc 3 1 (.slice (some ⟨g5,0,none⟩) 19 c5) 19 (nums RL)::slc 390 3 (.slice a8 k c8) k (rows rcell RS)::slc 3 1 (.slice (some ⟨g3,0,none⟩) nL c3) nL (nums L)::slc 3 1 (.slice (some ⟨g4,0,none⟩) nD c4) nD (nums D)::ps) (g:=g) (bs:=W1) ((nL:Int)-256-1) 5 (by omega) (by omega) h (by omega)
     have k3:=fun w1 h=>Vn (w:=w1) (w0:=w0) (ps:=slc 3 1 (.slice (some ⟨g6,0,none⟩) nS c9) nS (nums SO)::slc 3 1 (.slice (some ⟨g5,0,none⟩) 19 c5) 19 (nums RL)::slc 390 3 (.slice a8 k c8) k (rows rcell RS)::slc 3 1 (.slice (some ⟨g3,0,none⟩) nL c3) nL (nums L)::slc 3 1 (.slice (some ⟨g4,0,none⟩) nD c4) nD (nums D)::ps) (g:=g) (bs:=W1++Qj ((nL:Int)-257) 5) ((nD:Int)-1) 5 (by omega) (by omega) h (by rw [lJ,Qd];omega)
     have k4:=fun w1 h=>Vn (w:=w1) (w0:=w0) (ps:=slc 3 1 (.slice (some ⟨g6,0,none⟩) nS c9) nS (nums SO)::slc 3 1 (.slice (some ⟨g5,0,none⟩) 19 c5) 19 (nums RL)::slc 390 3 (.slice a8 k c8) k (rows rcell RS)::slc 3 1 (.slice (some ⟨g3,0,none⟩) nL c3) nL (nums L)::slc 3 1 (.slice (some ⟨g4,0,none⟩) nD c4) nD (nums D)::ps) (g:=g) (bs:=W1++Qj ((nL:Int)-257) 5++Qj ((nD:Int)-1) 5) ((nS:Int)-4) 4 (by omega) (by omega) h (by rw [lJ,lJ,Qd,Qd];omega)
     rw [show cut 5=5 from rfl,e1] at k2
     rw [show cut 5=5 from rfl] at k3
     rw [show cut 4=4 from rfl] at k4
     obtain ⟨W2,hW2⟩:∃ W,Hid (W1++Qj ((nL:Int)-257) 5++Qj ((nD:Int)-1) 5++Qj ((nS:Int)-4) 4=W):=⟨_,jd rfl⟩
     have hW2l:W2.length=bs.length+17:=by rw [← hW2.out];simp only [lJ,Qd];omega
     have hW2b:Hid (W1++sizesB nL nD nS=W2):=jd (by rw [← hW2.out];unfold sizesB;simp only [List.append_assoc])
     rw [hW2.out] at k4
     have hw1:IntKind.i64.wrap ((nL:Int)-256)=(nL:Int)-256:=IntWalk.i64_in _ ⟨by omega,by omega⟩
     have hw2:IntKind.i64.wrap ((nL:Int)-256-1)=(nL:Int)-257:=by rw [e1];exact IntWalk.i64_in _ ⟨by omega,by omega⟩
     have hw3:IntKind.i64.wrap ((nD:Int)-1)=(nD:Int)-1:=IntWalk.i64_in _ ⟨by omega,by omega⟩
     have hw4:IntKind.i64.wrap ((nS:Int)-4)=(nS:Int)-4:=IntWalk.i64_in _ ⟨by omega,by omega⟩
     have K1:=jd k1
     have K2:=jd k2
     have K3:=jd k3
     have K4:=jd k4
     clear k1 k2 k3 k4 e1
     refine (K1.out _ H).mono ?_
     rintro e w15 ⟨_,rfl,H15⟩
     clear H
     go_wp2_with fail
     refine (K2.out _ H15).mono ?_
     rintro e w16 ⟨_,rfl,H⟩
     clear H15
     go_wp2_with fail
     refine (K3.out _ H).mono ?_
     rintro e w17 ⟨_,rfl,H17⟩
     clear H
     go_wp2_with fail
     refine (K4.out _ H17).mono ?_
     rintro e w18 ⟨_,rfl,H⟩
     clear H17 K1 K2 K3 K4 hw1 hw2 hw3 hw4
     go_wp2_with fail
     go_loopw [105] (fun s105 wx=>∃ j:Nat,s105=.int .i64 j∧j≤nS∧Own w0 wx (Wtr g (W2++lensB (SO.take j))::slc 3 1 (.slice (some ⟨g6,0,none⟩) nS c9) nS (nums SO)::slc 3 1 (.slice (some ⟨g5,0,none⟩) 19 c5) 19 (nums RL)::slc 390 3 (.slice a8 k c8) k (rows rcell RS)::slc 3 1 (.slice (some ⟨g3,0,none⟩) nL c3) nL (nums L)::slc 3 1 (.slice (some ⟨g4,0,none⟩) nD c4) nD (nums D)::ps)) (fun s105 _=>nS-(intOf s105).toNat)
     case atStart=>exact ⟨0,by go_num,by omega,by simpa [lensB] using H⟩
     case round=>
      clear H
      obtain ⟨j,rfl,hj,H⟩:=hrel
      have hll:(lensB (SO.take j)).length≤3*19:=by
       have h1:=flat_le (f:=fun n=>Qj n 3) (b:=3) (SO.take j) (fun x _=>by rw [Qd];exact Nat.le_refl _)
       rw [List.length_take] at h1
       unfold lensB
       omega
      by_cases hjl:j<nS
      ·have hjI:(j:Int)<(nS:Int):=by omega
       have hjS:j<SO.length:=by rw [hnS.out];exact hjl
       have cs:=(H.front 1 rfl).getc (Jj (Za hjS))
       have hx7:=M7.out _ (mem_getD2 hjS)
       have hsn:Hid (W2++lensB (SO.take (j+1))=W2++lensB (SO.take j)++Qj (SO.getD j 0) 3):=jd (by rw [lensB_succ hjS,List.append_assoc])
       obtain ⟨xv,hxv⟩:∃ xv,SO.getD j 0=xv:=⟨_,rfl⟩
       rw [hxv] at cs hx7 hsn
       have k1:=fun w1 h=>Vn (w:=w1) (w0:=w0) (ps:=slc 3 1 (.slice (some ⟨g6,0,none⟩) nS c9) nS (nums SO)::slc 3 1 (.slice (some ⟨g5,0,none⟩) 19 c5) 19 (nums RL)::slc 390 3 (.slice a8 k c8) k (rows rcell RS)::slc 3 1 (.slice (some ⟨g3,0,none⟩) nL c3) nL (nums L)::slc 3 1 (.slice (some ⟨g4,0,none⟩) nD c4) nD (nums D)::ps) (g:=g) (bs:=W2++lensB (SO.take j)) xv 3 (by omega) (by omega) h (by rw [lJ];omega)
       rw [show cut 3=3 from rfl,← hsn.out] at k1
       have K1:=jd k1
       clear k1 hxv hll
       go_wp2_with fail
       refine (K1.out _ H).mono ?_
       rintro e w19 ⟨_,rfl,H19⟩
       clear H cs
       go_wp2_with fail
       go_roundw
       case rel=>exact ⟨j+1,by go_num,by omega,H19⟩
       case measure=>simp [intOf];omega
      ·obtain rfl:j=nS:=by omega
       have hjI:¬ (j:Int)<(j:Int):=by omega
       rw [List.take_of_length_le (by rw [hnS.out];exact Nat.le_refl _)] at H hll
       obtain ⟨W3,hW3⟩:∃ W,Hid (W2++lensB SO=W):=⟨_,jd rfl⟩
       have hW3l:W3.length≤bs.length+74:=by rw [← hW3.out,lJ];omega
       rw [hW3.out] at H
       have km:=fun w1 h=>made_any (w:=w1) (v:=.slice (some ⟨g5,0,none⟩) 19 c5) (n:=19) (L:=RL) h (by omega) MR.out.cerr
       rw [HRLL.out] at km
       have KM:=jd km
       clear km hll
       go_wp2_with fail
       refine (KM.out _ (H.front 2 rfl).rd).mono ?_
       rintro e w20 ⟨_,rfl,u11,rfl,J⟩
       replace H:=H.join J
       clear J KM
       obtain ⟨a11,c11,rfl,-⟩:=H.rd.shape
       go_upto_region 29 with (refine Qe (vs:=[.slice (some ⟨g5,0,none⟩) 19 c5,.slice a11 19 c11]) rfl _ _ rfl rfl (H.alloc _) rfl (by kernel_rfl) (by simp) (by simp;exact ⟨rfl,rfl⟩) rfl ?_;intro w21 H21)
       clear H
       generalize w20.heap.size=gc at *
       have H:Own w0 w21 (Wtr g W3::blk gc (.cells #[.slice (some ⟨g5,0,none⟩) 19 c5,.slice a11 19 c11] 298)::slc 3 1 (.slice a11 19 c11) 19 (nums (Zc RL))::slc 3 1 (.slice (some ⟨g6,0,none⟩) j c9) j (nums SO)::slc 3 1 (.slice (some ⟨g5,0,none⟩) 19 c5) 19 (nums RL)::slc 390 3 (.slice a8 k c8) k (rows rcell RS)::slc 3 1 (.slice (some ⟨g3,0,none⟩) nL c3) nL (nums L)::slc 3 1 (.slice (some ⟨g4,0,none⟩) nD c4) nD (nums D)::ps):=H21.front 2 rfl
       clear H21
       have hco:CodOk w0 (blk gc (.cells #[.slice (some ⟨g5,0,none⟩) 19 c5,.slice a11 19 c11] 298)::slc 3 1 (.slice a11 19 c11) 19 (nums (Zc RL))::slc 3 1 (.slice (some ⟨g6,0,none⟩) j c9) j (nums SO)::slc 3 1 (.slice (some ⟨g5,0,none⟩) 19 c5) 19 (nums RL)::slc 390 3 (.slice a8 k c8) k (rows rcell RS)::slc 3 1 (.slice (some ⟨g3,0,none⟩) nL c3) nL (nums L)::slc 3 1 (.slice (some ⟨g4,0,none⟩) nD c4) nD (nums D)::ps) (.slice (some ⟨g5,0,none⟩) 19 c5) (.slice a11 19 c11) RL:=⟨fun w' h=>by rw [HRLL.out];exact (h.front 3 rfl).rd,fun w' h=>by rw [HRLL.out];exact (h.front 1 rfl).rd,MR.out.all,MR.out.wt,by rw [HRLL.out];omega⟩
       have HCO:=jd hco
       have hbdR:∀ m,(runsB RL (RS.take m)).length≤22*632:=fun m=>by
        have h1:=flat_le (f:=runB RL) (b:=22) (RS.take m) (fun r hr=>by
         have h2:=cbits_le MR.out.all r.sym.toNat
         have h3:=(OKR.out r (List.mem_of_mem_take hr)).n
         unfold runB
         rw [lJ,Qd]
         omega)
        rw [List.length_take] at h1
        unfold runsB
        have:=hnR.out
        omega
       have HBR:=jd hbdR
       clear hco hbdR
       go_wp2_with fail
       go_loopw [117] (fun s117 wx=>∃ m:Nat,s117=.int .i64 m∧m≤k∧Own w0 wx (Wtr g (W3++runsB RL (RS.take m))::blk gc (.cells #[.slice (some ⟨g5,0,none⟩) 19 c5,.slice a11 19 c11] 298)::slc 3 1 (.slice a11 19 c11) 19 (nums (Zc RL))::slc 3 1 (.slice (some ⟨g6,0,none⟩) j c9) j (nums SO)::slc 3 1 (.slice (some ⟨g5,0,none⟩) 19 c5) 19 (nums RL)::slc 390 3 (.slice a8 k c8) k (rows rcell RS)::slc 3 1 (.slice (some ⟨g3,0,none⟩) nL c3) nL (nums L)::slc 3 1 (.slice (some ⟨g4,0,none⟩) nD c4) nD (nums D)::ps)) (fun s117 _=>k-(intOf s117).toNat)
       case atStart=>exact ⟨0,by go_num,by omega,by simpa [runsB] using H⟩
       case round=>
        clear H
        obtain ⟨m,rfl,hm,H⟩:=hrel
        have hbl:=HBR.out m
        by_cases hmk:m<k
        ·have hmI:(m:Int)<(k:Int):=by omega
         obtain ⟨t,htk⟩:=Ql (l:=RS) (k:=m) (by rw [hnR.out];exact hmk)
         have hok:=OKR.out t (List.mem_of_getElem? htk)
         have hps:=runL_pos OKR.out (by rw [hnR.out];omega) (List.mem_of_getElem? htk)
         rw [hRL.out] at hps
         obtain ⟨b,o,_,he2,-⟩:=(H.front 5 rfl).rd.some (by rw [Qp rcell rcell_length,hnR.out];omega)
         cases he2
         obtain ⟨c0,cc1,cc2⟩:=run_cells (H.front 5 rfl).rd htk
         have hsn:=runB_succ (ls:=RL) htk
         unfold runB at hsn
         obtain ⟨hsy,hrn1,hrv⟩:=hok
         obtain ⟨x,y,z⟩:=t
         simp only at c0 cc1 cc2 hsy hrn1 hrv hps hsn
         obtain ⟨x,rfl⟩:∃ s:Nat,x=s:=⟨x.toNat,by omega⟩
         obtain ⟨y,rfl⟩:∃ s:Nat,y=s:=⟨y.toNat,by omega⟩
         simp only [Int.toNat_natCast] at hps hsn hrv
         have hxl:=pos_lt hps
         have hz128:z<128:=by
          have:(2:Int)^y≤2^7:=pow2_le (by omega)
          omega
         have hsn2:Hid (W3++runsB RL (RS.take (m+1))=W3++runsB RL (RS.take m)++cbits RL x++Qj z y):=jd (by rw [hsn];simp only [List.append_assoc])
         obtain ⟨WB,hWB⟩:∃ W,Hid (W3++runsB RL (RS.take m)=W):=⟨_,jd rfl⟩
         have hWBl:WB.length≤bs.length+14000:=by rw [← hWB.out,lJ];omega
         rw [hWB.out] at H hsn2
         have hcx:=cbits_le MR.out.all x
         have k1:=fun (tb:Nat) w1 h=>cput_any (w:=w1) (HCO.out.mono (qs:=blk tb (.cells #[.int .i64 (x:Int),.int .i64 (y:Int),.int .i64 z] 390)::blk gc (.cells #[.slice (some ⟨g5,0,none⟩) 19 c5,.slice a11 19 c11] 298)::slc 3 1 (.slice a11 19 c11) 19 (nums (Zc RL))::slc 3 1 (.slice (some ⟨g6,0,none⟩) j c9) j (nums SO)::slc 3 1 (.slice (some ⟨g5,0,none⟩) 19 c5) 19 (nums RL)::slc 390 3 (.slice (some ⟨b,o,none⟩) k c8) k (rows rcell RS)::slc 3 1 (.slice (some ⟨g3,0,none⟩) nL c3) nL (nums L)::slc 3 1 (.slice (some ⟨g4,0,none⟩) nD c4) nD (nums D)::ps) fun w' h=>h.drop) hxl h (bs:=WB) (g:=g) (by omega)
         have k2:=fun (tb:Nat) w1 h=>Vn (w:=w1) (w0:=w0) (ps:=blk tb (.cells #[.int .i64 (x:Int),.int .i64 (y:Int),.int .i64 z] 390)::blk gc (.cells #[.slice (some ⟨g5,0,none⟩) 19 c5,.slice a11 19 c11] 298)::slc 3 1 (.slice a11 19 c11) 19 (nums (Zc RL))::slc 3 1 (.slice (some ⟨g6,0,none⟩) j c9) j (nums SO)::slc 3 1 (.slice (some ⟨g5,0,none⟩) 19 c5) 19 (nums RL)::slc 390 3 (.slice (some ⟨b,o,none⟩) k c8) k (rows rcell RS)::slc 3 1 (.slice (some ⟨g3,0,none⟩) nL c3) nL (nums L)::slc 3 1 (.slice (some ⟨g4,0,none⟩) nD c4) nD (nums D)::ps) (g:=g) (bs:=WB++cbits RL x) z (y:Int) (by omega) (by omega) h (by rw [lJ];omega)
         rw [cut_eq (by omega) (by omega),Int.toNat_natCast,← hsn2.out] at k2
         have K1:=jd k1
         have K2:=jd k2
         clear k1 k2 hsn hrv hps hbl htk hcx hxl
         go_upto_region 32 with (refine Qe (vs:=[.int .i64 x,.int .i64 y,.int .i64 z]) rfl _ _ rfl rfl (H.alloc _) rfl (by kernel_rfl) (by simp) (by simp;exact ⟨rfl,rfl,rfl⟩) rfl ?_;clear c0 cc1 cc2;intro w22 H22)
         clear H
         generalize wr.heap.size=tb at *
         have H:Own w0 w22 (Wtr g WB::blk tb (.cells #[.int .i64 (x:Int),.int .i64 (y:Int),.int .i64 z] 390)::blk gc (.cells #[.slice (some ⟨g5,0,none⟩) 19 c5,.slice a11 19 c11] 298)::slc 3 1 (.slice a11 19 c11) 19 (nums (Zc RL))::slc 3 1 (.slice (some ⟨g6,0,none⟩) j c9) j (nums SO)::slc 3 1 (.slice (some ⟨g5,0,none⟩) 19 c5) 19 (nums RL)::slc 390 3 (.slice (some ⟨b,o,none⟩) k c8) k (rows rcell RS)::slc 3 1 (.slice (some ⟨g3,0,none⟩) nL c3) nL (nums L)::slc 3 1 (.slice (some ⟨g4,0,none⟩) nD c4) nD (nums D)::ps):=H22.swap
         clear H22
         have c0:=(H.front 1 rfl).cells
         have cg:=(H.front 2 rfl).cells
         go_wp2_with fail
         refine (K1.out _ _ H).mono ?_
         rintro e w23 ⟨_,rfl,H23⟩
         clear H c0 cg
         have c0:=(H23.front 1 rfl).cells
         go_wp2_with fail
         refine (K2.out _ _ H23).mono ?_
         rintro e w24 ⟨_,rfl,H24⟩
         clear H23 c0
         have H:=(H24.front 1 rfl).drop
         clear H24
         go_wp2_with fail
         go_roundw
         case rel=>exact ⟨m+1,by go_num,by omega,H⟩
         case measure=>simp [intOf];omega
        ·obtain rfl:m=k:=by omega
         have hmI:¬ (m:Int)<(m:Int):=by omega
         rw [List.take_of_length_le (by rw [hnR.out];exact Nat.le_refl _)] at H hbl
         obtain ⟨W4,hW4⟩:∃ W,Hid (W3++runsB RL RS=W):=⟨_,jd rfl⟩
         have hW4l:W4.length≤bs.length+14000:=by rw [← hW4.out,lJ];omega
         rw [hW4.out] at H
         have kL:=fun w1 h=>made_any (w:=w1) (v:=.slice (some ⟨g3,0,none⟩) nL c3) (n:=nL) (L:=L) h (by omega) ML.out.cerr
         have kD:=fun w1 h=>made_any (w:=w1) (v:=.slice (some ⟨g4,0,none⟩) nD c4) (n:=nD) (L:=D) h (by omega) MD.out.cerr
         rw [hnL.out] at kL
         rw [hnD.out] at kD
         have KL:=jd kL
         have KD:=jd kD
         clear kL kD hbl
         go_wp2_with fail
         refine (KL.out _ (H.front 6 rfl).rd).mono ?_
         rintro e w25 ⟨_,rfl,u12,rfl,J⟩
         replace H:=H.join J
         clear J KL
         obtain ⟨a12,c12,rfl,-⟩:=H.rd.shape
         go_wp2_with fail
         refine (KD.out _ (H.front 8 rfl).rd).mono ?_
         rintro e w26 ⟨_,rfl,u13,rfl,J⟩
         replace H:=H.join J
         clear J KD
         obtain ⟨a13,c13,rfl,-⟩:=H.rd.shape
         have H:Own w0 w26 (Wtr g W4::slc 3 1 (.slice a13 nD c13) nD (nums (Zc D))::slc 3 1 (.slice a12 nL c12) nL (nums (Zc L))::slc 3 1 (.slice (some ⟨g3,0,none⟩) nL c3) nL (nums L)::slc 3 1 (.slice (some ⟨g4,0,none⟩) nD c4) nD (nums D)::ps):=(((((((H.front 2 rfl).front 7 rfl).front 7 rfl).front 7 rfl).front 7 rfl).front 7 rfl).drop.drop.drop.drop.drop)
         have cokL:CodOk w0 (slc 3 1 (.slice a13 nD c13) nD (nums (Zc D))::slc 3 1 (.slice a12 nL c12) nL (nums (Zc L))::slc 3 1 (.slice (some ⟨g3,0,none⟩) nL c3) nL (nums L)::slc 3 1 (.slice (some ⟨g4,0,none⟩) nD c4) nD (nums D)::ps) (.slice (some ⟨g3,0,none⟩) nL c3) (.slice a12 nL c12) L:=⟨fun w' h=>by rw [hnL.out];exact (h.front 2 rfl).rd,fun w' h=>by rw [hnL.out];exact (h.front 1 rfl).rd,ML.out.all,ML.out.wt,by rw [hnL.out];omega⟩
         have cokD:CodOk w0 (slc 3 1 (.slice a13 nD c13) nD (nums (Zc D))::slc 3 1 (.slice a12 nL c12) nL (nums (Zc L))::slc 3 1 (.slice (some ⟨g3,0,none⟩) nL c3) nL (nums L)::slc 3 1 (.slice (some ⟨g4,0,none⟩) nD c4) nD (nums D)::ps) (.slice (some ⟨g4,0,none⟩) nD c4) (.slice a13 nD c13) D:=⟨fun w' h=>by rw [hnD.out];exact (h.front 3 rfl).rd,fun w' h=>by rw [hnD.out];exact h.rd,MD.out.all,MD.out.wt,by rw [hnD.out];omega⟩
         have kb:=body_any cokL cokD (l:=l) (tv:=.slice ta N tc) (by rw [hN.out];exact HT.out.mono fun w' h=>h.drop.drop.drop.drop) OKS.out (by rw [hnL.out];omega) H (by rw [hN.out];omega)
         have KB:=jd kb
         have hfin:Hid (bs++headB last 2++(sizesB L.length D.length SO.length++(lensB SO++(runsB RL RS++bodyB L D l)))=W4++bodyB L D l):=jd (by
          rw [hnL.out,hnD.out,hnS.out,← hW4.out,← hW3.out,← hW2b.out,← hW1.out]
          simp only [List.append_assoc])
         clear kb cokL cokD
         go_wp2_with fail
         refine KB.out.mono ?_
         rintro e w27 ⟨_,rfl,H27⟩
         go_wp2_with fail
         go_end0
         rw [hfin.out]
         exact ⟨_,rfl,(((((H27.front 4 rfl).front 4 rfl).front 4 rfl).front 4 rfl).drop.drop.drop.drop)⟩
theorem blockB_ne{l:List Tok}{kind:Int}{last:Bool}(h:kind≠1):Kl l kind last=Kl l 2 last:=by
 unfold Kl
 rw [if_neg h,if_neg (by omega)]
theorem block_any{w0 w:World}{ps:List Piece}{g:Nat}{bs:List Bool}{tv:Value}{l:List Tok}(kind:Int)(last:Bool)(ht:Reads w0 ps 3 tv l.length (rows tcell l))(hs:∀ t∈l,TokOk t)(hln:l.length≤1000000)(H:Own w0 w (Wtr g bs::ps))(hl:bs.length+48*l.length≤35184372000000) :
 Calls Tryz.prog 130 #[.pointer (some ⟨g,0,none⟩),tv,.int .i64 kind,.bool last] w (Ret fun _ w'=>Own w0 w' (Wtr g (bs++Kl l kind last)::ps)):=by
 by_cases hk:kind=1
 ·subst hk
  exact block1_any last ht hs H (by omega)
 ·have hkb:(kind==1)=false:=by simpa using hk
  rw [blockB_ne hk]
  obtain ⟨ta,tc,rfl,ht1,ht2⟩:=(ht w H.drop).shape
  have k1:=rich_any (g:=g) (bs:=bs) last ht hs hln H hl
  have K1:=jd k1
  clear k1 ht hs hk
  generalize l.length=N at *
  go_enter Tryz.func130,Tryz.ntmps130
  go_wp2_with fail
  refine K1.out.mono ?_
  rintro e w1 ⟨_,rfl,H2⟩
  go_wp2_with fail
  go_end0
  exact ⟨_,rfl,H2⟩
def richF(s:ByteArray):ByteArray:=textOf (Kl (parse s) 2 true)
set_option maxRecDepth 100000 in
theorem richT_any{w:World}(s:ByteArray)(hs:s.size≤1000000) :
 Calls Tryz.prog 79 #[.string s] w (Ret fun r w'=>r=.string (richF s)∧Own w w' []):=by
 have H:=(Own.start w).newWtr
 obtain ⟨T,hT⟩:∃ T,Hid (parse s=T):=⟨_,rfl⟩
 have hok:=parse_ok s
 have hlen:=parse_len s
 unfold richF
 rw [hT.out] at hok hlen ⊢
 have HOK:=jd hok
 clear hok
 go_enter Tryz.func79,Tryz.ntmps79
 go_wp2_with fail
 generalize w.alloc _=w1 at *
 generalize w.heap.size=g at *
 refine (lzparse_any H hs).mono ?_
 rintro e w2 ⟨v,rfl,H2⟩
 rw [hT.out] at H2
 clear H
 obtain ⟨a,c,rfl,-⟩:=H2.rd.shape
 have hb:=block_any (l:=T) 2 true (fun w' h=>h.rd) HOK.out (by omega) H2.swap (by simp;omega)
 rw [List.nil_append] at hb
 have HB:=jd hb
 clear hb
 obtain ⟨N,hN⟩:∃ N,Hid (T.length=N):=⟨_,rfl⟩
 rw [hN.out] at HB ⊢
 go_wp2_with fail
 refine HB.out.mono ?_
 rintro e w3 ⟨_,rfl,H3⟩
 clear H2
 go_wp2_with fail
 refine (bytes_any H3).mono ?_
 rintro e w4 ⟨rfl,rfl⟩
 go_wp2_with fail
 go_ret
 exact ⟨_,rfl,rfl,H3.bare⟩
def Va(a b:ByteArray):ByteArray:=if b.size<a.size then b else a
def packF(s:ByteArray):ByteArray:=Va (Va (textOf (storeF s)) (simpleF s)) (richF s)
set_option maxRecDepth 100000 in
set_option maxHeartbeats 1600000 in
theorem pack_any{w:World}(s:ByteArray)(hs:s.size≤1000000) :
 Calls Tryz.prog 40 #[.string s] w (Ret fun r w'=>r=.string (packF s)∧Own w w' []):=by
 have H:=Own.start w
 obtain ⟨A,hA⟩:∃ A,Hid (textOf (storeF s)=A):=⟨_,jd rfl⟩
 obtain ⟨B,hB⟩:∃ B,Hid (simpleF s=B):=⟨_,jd rfl⟩
 obtain ⟨C,hC⟩:∃ C,Hid (richF s=C):=⟨_,jd rfl⟩
 obtain ⟨R,hR⟩:∃ R,Hid (Va (Va A B) C=R):=⟨_,jd rfl⟩
 have hP:packF s=R:=by unfold packF;rw [hA.out,hB.out,hC.out,hR.out]
 rw [hP]
 have k1:=fun w=>store_any (w:=w) s hs
 have k2:=fun w=>simple_any (w:=w) s hs
 have k3:=fun w=>richT_any (w:=w) s hs
 rw [hA.out] at k1
 rw [hB.out] at k2
 rw [hC.out] at k3
 have K1:=jd k1
 have K2:=jd k2
 have K3:=jd k3
 clear k1 k2 k3 hP hA hB hC
 go_enter Tryz.func40,Tryz.ntmps40
 go_wp2_with fail
 refine (K1.out _).mono ?_
 rintro e w1 ⟨_,rfl,rfl,J⟩
 replace H:=H.join J
 clear J
 go_wp2_with fail
 refine (K2.out _).mono ?_
 rintro e w2 ⟨_,rfl,rfl,J⟩
 replace H:=H.join J
 clear J
 go_wp2_with fail
 refine (K3.out _).mono ?_
 rintro e w3 ⟨_,rfl,rfl,J⟩
 replace H:=H.join J
 clear J K1 K2 K3
 go_upto_region 3 with (fail)
 have h9:=H.alloc (.cells #[.string B,.string C] 9)
 have H:Own w (w3.alloc (.cells #[.string B,.string C] 9)) (blk w3.heap.size (.cells #[.string B,.string C] 9)::[]):=h9
 clear h9
 generalize w3.alloc _=w4 at *
 generalize w3.heap.size=g at *
 go_loopw [3,14] (fun s3 s14 wx=>∃ (k:Nat) (X:ByteArray),s14=.int .i64 k∧s3=.string X∧(k=0∧Hid (X=A)∨k=1∧Hid (X=Va A B)∨k=2∧Hid (X=R))∧Own w wx (blk g (.cells #[.string B,.string C] 9)::[])) (fun _ s14 _=>2-(intOf s14).toNat)
 case atStart=>exact ⟨0,A,by go_num,rfl,.inl ⟨rfl,jd rfl⟩,H⟩
 case round=>
  clear H
  obtain ⟨k,X,rfl,rfl,hc,H⟩:=hrel
  rcases hc with ⟨rfl,hX⟩ | ⟨rfl,hX⟩ | ⟨rfl,hX⟩
  ·have c0:=H.cells
   have hs1:Hid (Va X B=Va A B):=jd (by rw [hX.out])
   by_cases hlt:B.size<X.size
   ·have hI:(B.size:Int)<(X.size:Int):=by omega
    have hn:Hid (B=Va A B):=jd (by rw [← hs1.out];unfold Va;rw [if_pos hlt])
    go_wp2_with fail
    go_roundw
    case rel=>exact ⟨1,B,by go_num,rfl,.inr (.inl ⟨rfl,hn⟩),H⟩
    case measure=>simp [intOf]
   ·have hI:¬ (B.size:Int)<(X.size:Int):=by omega
    have hn:Hid (X=Va A B):=jd (by rw [← hs1.out];unfold Va;rw [if_neg hlt])
    go_wp2_with fail
    go_roundw
    case rel=>exact ⟨1,X,by go_num,rfl,.inr (.inl ⟨rfl,hn⟩),H⟩
    case measure=>simp [intOf]
  ·have c0:=H.cells
   have hs1:Hid (Va X C=R):=jd (by rw [hX.out,hR.out])
   by_cases hlt:C.size<X.size
   ·have hI:(C.size:Int)<(X.size:Int):=by omega
    have hn:Hid (C=R):=jd (by rw [← hs1.out];unfold Va;rw [if_pos hlt])
    go_wp2_with fail
    go_roundw
    case rel=>exact ⟨2,C,by go_num,rfl,.inr (.inr ⟨rfl,hn⟩),H⟩
    case measure=>simp [intOf]
   ·have hI:¬ (C.size:Int)<(X.size:Int):=by omega
    have hn:Hid (X=R):=jd (by rw [← hs1.out];unfold Va;rw [if_neg hlt])
    go_wp2_with fail
    go_roundw
    case rel=>exact ⟨2,X,by go_num,rfl,.inr (.inr ⟨rfl,hn⟩),H⟩
    case measure=>simp [intOf]
  ·rw [hX.out] at *
   clear hX
   go_wp2_with fail
   go_ret
   exact ⟨_,rfl,rfl,H.bare⟩
end Go.Proofs.YthekdeikodppkaaGreatDoor
namespace Go.Proofs.YthekdeikodppkaaGreatDoor
open Go.RowKit
open Go.ChangeMaps (setBlock)
noncomputable section
def entsA:List (AV × AV)→Option (List (Nat × Txt))
 | []=>some []
 | (.lit (.int .i64 (.ofNat i)),.txt t)::r=>(entsA r).map ((i,t) :: ·)
 | _::_=>none
def entP(p:Nat × Txt):AV × AV:=(.lit (.int .i64 (.ofNat p.1)),.txt p.2)
theorem entsA_eq:∀ {es:List (AV × AV)} {l:List (Nat × Txt)},entsA es=some l→es=l.map entP
 | [],l,h=>by cases h;rfl
 | x::r,l,h=>by
  unfold entsA at h
  split at h
  ·rename_i heq;cases heq
  ·rename_i i t r' heq
   cases heq
   rw [Option.map_eq_some_iff] at h
   obtain ⟨l',h1,rfl⟩:=h
   rw [entsA_eq h1];rfl
  ·cases h
def distB:List Nat→Bool
 | []=>true
 | a::r=>!(r.any (Nat.beq a))&&distB r
theorem distB_nodup:∀ {l:List Nat},distB l=true→l.Nodup
 | [],_=>by simp
 | a::r,h=>by
  simp only [distB,Bool.and_eq_true,Bool.not_eq_true',List.any_eq_false,Nat.beq_eq] at h
  rw [List.nodup_cons]
  exact ⟨fun hm=>h.1 a hm rfl,distB_nodup h.2⟩
def setL(old:List AV):List (Nat × Txt)→List AV
 | []=>old
 | p::r=>setL (old.set p.1 (.txt p.2)) r
theorem setL_other:∀ {l:List (Nat × Txt)} {old:List AV} {i:Nat},i ∉ l.map (·.1)→(setL old l)[i]?=old[i]?
 | [],_,_,_=>rfl
 | p::r,old,i,h=>by
  rw [List.map_cons,List.mem_cons,not_or] at h
  rw [setL,setL_other h.2,List.getElem?_set_ne (Ne.symm h.1)]
theorem setL_get:∀ {l:List (Nat × Txt)} {old:List AV} {p:Nat × Txt},(l.map (·.1)).Nodup→p∈l→p.1<old.length→(setL old l)[p.1]?=some (.txt p.2)
 | [],_,_,_,h,_=>by simp at h
 | q::r,old,p,hn,hm,hl=>by
  rw [List.map_cons,List.nodup_cons] at hn
  rw [setL]
  rcases List.mem_cons.1 hm with rfl | hm
  ·rw [setL_other hn.1,List.getElem?_set_self hl]
  ·exact setL_get hn.2 hm (by simpa using hl)
section
variable {F:Funs} {e:Env} {w0 w w':World} {h:AH} {P:Program}
theorem HR.apart(H:HR F e w0 w h)(r:Nat)(hsz:w.heap.size≤w'.heap.size)(hb:Below w0.heap.size w0 w')(hk:∀ j,j<w.heap.size→j≠r→w'.heap[j]?=w.heap[j]?)
 (hr:∀ (i:Nat) (o:AO) (x:Nat × Nat × Nat),h.bs[i]?=some o→e.bl[i]?=some x→o.live=true→x.1≠r):HR F e w0 w' h where
 below:=hb
 len:=H.len
 nv:=H.nv
 objs:=fun i o x h1 h2 h3=>by
  obtain ⟨g1,g2,g3⟩:=H.objs i o x h1 h2 h3
  exact ⟨g1,Nat.lt_of_lt_of_le g2 hsz,g3.of_heap (hk _ g2 (hr i o x h1 h2 h3))⟩
 inj:=H.inj
end
structure SyncI (ms:List MapEntry) (l:List (Nat × Txt)) (old cs:List AV) (seen:Array Nat):Prop where
 len:cs.length=old.length
 got:∀ (j:Nat) me p,ms[j]?=some me→l[j]?=some p→seen.contains me.born=true→cs[p.1]?=some (.txt p.2)
 rest:∀ i,(∀ (j:Nat) me p,ms[j]?=some me→l[j]?=some p→seen.contains me.born=true→p.1≠i)→cs[i]?=old[i]?
theorem SyncI.start(ms:List MapEntry)(l:List (Nat × Txt))(old:List AV):SyncI ms l old old #[]:=⟨rfl,fun _ _ _ _ _ h=>by simp at h,fun _ _=>rfl⟩
theorem SyncI.step{ms:List MapEntry}{l:List (Nat × Txt)}{old cs:List AV}{seen:Array Nat}(I:SyncI ms l old cs seen)(hnb:(ms.map (·.born)).Nodup)(hnd:(l.map (·.1)).Nodup){j:Nat}{me:MapEntry}{p:Nat × Txt}(h1:ms[j]?=some me)(h2:l[j]?=some p)(hp:p.1<old.length) :
 SyncI ms l old (cs.set p.1 (.txt p.2)) (seen.push me.born):=by
 have same:∀ (j':Nat) me' ,ms[j']?=some me'→me'.born=me.born→j'=j:=fun j' me' g1 g2=>by
  have a1:(ms.map (·.born))[j']?=some me.born:=by rw [List.getElem?_map,g1];simp [g2]
  have a2:(ms.map (·.born))[j]?=some me.born:=by rw [List.getElem?_map,h1];rfl
  exact (List.getElem?_inj (gJ a1).1 hnb).1 (a1.trans a2.symm)
 have same2:∀ (j':Nat) (p':Nat × Txt),l[j']?=some p'→p'.1=p.1→j'=j:=fun j' p' g1 g2=>by
  have a1:(l.map (·.1))[j']?=some p.1:=by rw [List.getElem?_map,g1];simp [g2]
  have a2:(l.map (·.1))[j]?=some p.1:=by rw [List.getElem?_map,h2];rfl
  exact (List.getElem?_inj (gJ a1).1 hnd).1 (a1.trans a2.symm)
 refine ⟨by rw [List.length_set];exact I.len,?_,?_⟩
 ·intro j' me' p' g1 g2 g3
  by_cases hj:p'.1=p.1
  ·obtain rfl:=same2 j' p' g2 hj
   rw [h2] at g2;cases g2
   rw [List.getElem?_set_self (by rw [I.len];exact hp)]
  ·rw [List.getElem?_set_ne (Ne.symm hj)]
   refine I.got j' me' p' g1 g2 ?_
   simp only [Array.contains_push,Bool.or_eq_true,beq_iff_eq] at g3
   rcases g3 with g3 | g3
   ·exact g3
   ·obtain rfl:=same j' me' g1 g3
    rw [h2] at g2;cases g2
    exact absurd rfl hj
 ·intro i hi
  have h3:p.1≠i:=hi j me p h1 h2 (by simp)
  rw [List.getElem?_set_ne h3]
  refine I.rest i fun j' me' p' g1 g2 g3=>hi j' me' p' g1 g2 ?_
  simp only [Array.contains_push,Bool.or_eq_true]
  exact .inl g3
theorem SyncI.done{ms:List MapEntry}{l:List (Nat × Txt)}{old cs:List AV}{seen:Array Nat}(I:SyncI ms l old cs seen)(hnd:(l.map (·.1)).Nodup)(hin:∀ p∈l,p.1<old.length)(hl:ms.length=l.length)(hall:∀ x∈ms,seen.contains x.born=true):cs=setL old l:=by
 apply List.ext_getElem?
 intro i
 by_cases hi:i∈l.map (·.1)
 ·obtain ⟨p,hp,rfl⟩:=List.mem_map.1 hi
  rw [setL_get hnd hp (hin p hp)]
  obtain ⟨j,hj⟩:=List.mem_iff_getElem?.1 hp
  have hjl:=(gJ hj).1
  have hme:=List.getElem?_eq_getElem (l:=ms) (i:=j) (by omega)
  exact I.got j _ p hme hj (hall _ (List.getElem_mem _))
 ·rw [setL_other hi]
  refine I.rest i fun j me p g1 g2 _ he=>hi ?_
  exact List.mem_map.2 ⟨p,List.mem_of_getElem? g2,he⟩
set_option maxRecDepth 100000 in
set_option maxHeartbeats 3200000 in
theorem sync_run{F:Funs}{call:Jq}(hc:Vs F Tryz.prog call){e:Env}{w0 w:World}{vs:Array Value}{d o m n c cl:Nat}{h h1 h2:AH}{old rest:List AV}{es:List (AV × AV)}{l:List (Nat × Txt)}
 (c1:call 202 [.ptr d 0,.lit (.int .i64 (.ofNat 0))] h=.ok (.lit (.int .i64 (.ofNat 0)),h1)) (c2:call 215 [.ptr d 0] h1=.ok (.lit (.bool true),h2))
 (hd:h2.bs[d]?=some (.cells (.slc o 0 n c 1::.map m::rest))) (ho:h2.bs[o]?=some (.cells old)) (hm:h2.bs[m]?=some (.map es cl)) (hes:entsA es=some l)
 (hnd:(l.map (·.1)).Nodup) (hin:∀ p∈l,p.1<n) (hn:n≤old.length) (hdo:d≠o) (H:HR F e w0 w h) (hv:VRs F e [.ptr d 0] vs.toList) :
 Calls Tryz.prog 153 vs w fun en w'=>∃ u,en=.returned u∧∃ e',e.le e'∧VR F e' (.lit (.int .i64 (.ofNat 0))) u∧HR F e' w0 w' { h2 with bs:=(h2.bs.set o (.cells (setL old l))).set m (.map [] cl) }:=by
 obtain ⟨v1,l1,hl1,g1,g3⟩:=hv
 obtain rfl:l1=[]:=g3
 obtain rfl:vs=#[v1]:=by apply Array.ext';exact hl1
 have g1':=g1
 obtain ⟨B,k,sz,hbd,rfl⟩:=g1
 have hc1:=jd (hc _ _ _ _ _ c1 e w0 w #[.pointer (some ⟨B,k+0,none⟩),.int .i64 0] H ⟨_,_,rfl,g1',_,_,rfl,rfl,rfl⟩)
 have hc2:=jd (fun e1 w1 (hle:e.le e1) H1=>hc _ _ _ _ _ c2 e1 w0 w1 #[.pointer (some ⟨B,k+0,none⟩)] H1 ⟨_,_,rfl,VR.le hle _ _ g1',rfl⟩)
 rw [Nat.add_zero] at *
 clear c1 c2 hl1 g1'
 replace hbd:=jd hbd
 go_enter Tryz.func153,Tryz.ntmps153
 go_wp2_with fail
 refine hc1.out.mono ?_
 rintro en w1 ⟨u,rfl,e1,le1,hu,H1⟩
 obtain rfl:u=.int .i64 0:=hu
 have hc3:=jd (hc2.out e1 w1 le1 H1)
 clear hc1 hc2 H H1
 go_wp2_with fail
 refine hc3.out.mono ?_
 rintro en w2 ⟨u,rfl,e2,le2,hu,H⟩
 obtain rfl:u=.bool true:=hu
 clear hc3
 have le:=Env.le_trans le1 le2
 have hx:=Env.le_bl le hbd.out
 obtain ⟨s0,cs0,s0v⟩:=H.load hd hx (i:=0) rfl
 obtain ⟨s1,cs1,s1v⟩:=H.load hd hx (i:=1) rfl
 obtain ⟨Bo,ko,no,c',o',hxo,rfl,ho1,ho2,ho3,ho4,ho5⟩:=s0v
 obtain ⟨Bm,km,nm,hxm,rfl⟩:=s1v
 rw [Nat.add_zero] at cs0
 obtain ⟨p1,p2,ms,p3,p4,p5,p6⟩:=H.objs _ _ _ hm hxm rfl
 obtain ⟨q1,q2,-⟩:=H.objs _ _ _ ho hxo rfl
 obtain ⟨r1,r2,-⟩:=H.objs _ _ _ hd hx rfl
 dsimp only at p1 p2 p3 q1 q2 r1 r2
 have hlive:Hid (∀ (i:Nat) (q:AO) (x:Nat × Nat × Nat),h2.bs[i]?=some q→e2.bl[i]?=some x→q.live=true→x.1≠w2.heap.size):=jd fun i q x a1 a2 a3 hh=>by
  have:=(H.objs i q x a1 a2 a3).2.1;omega
 have hrg:(Instr.range 169 (.map (some Bm))).run Tryz.prog w2=.ok (.pointer (some ⟨w2.heap.size,0,none⟩)) (w2.alloc (.mapIter (some Bm) cl #[] cl)):=run_range_map w2 _ _ _ Bm ms.toArray cl Tryz.underlying169 p3
 have hes2:=entsA_eq hes
 have hml:ms.length=l.length:=by have:=VRs.length _ _ p4;rw [hes2] at this;simpa using this
 have hent:Hid (∀ (j:Nat) me,ms[j]?=some me→∃ p,l[j]?=some p∧me.key=.int .i64 (p.1:Nat)∧VR F e2 (.txt p.2) me.val):=jd fun j me hj=>by
  have hjl:=(gJ hj).1
  obtain ⟨p,hp⟩:∃ p,l[j]?=some p:=⟨_,List.getElem?_eq_getElem (by omega)⟩
  refine ⟨p,hp,?_,?_⟩
  ·obtain ⟨y,hy,hr⟩:=VRs.get _ _ j (entP p).1 p4 (by rw [hes2];simp [hp])
   rw [List.getElem?_map,hj] at hy
   cases hy
   exact hr
  ·obtain ⟨y,hy,hr⟩:=VRs.get _ _ j (entP p).2 p5 (by rw [hes2];simp [hp])
   rw [List.getElem?_map,hj] at hy
   cases hy
   exact hr
 obtain ⟨r,hr⟩:∃ r,w2.heap.size=r:=⟨_,rfl⟩
 rw [hr] at hlive hrg
 have hIt:(w2.alloc (.mapIter (some Bm) cl #[] cl)).heap[r]?=some (.mapIter (some Bm) cl #[] cl):=by rw [← hr];exact heap_alloc_new w2 _
 have hMp:(w2.alloc (.mapIter (some Bm) cl #[] cl)).heap[Bm]?=some (.map ms.toArray cl):=by rw [heap_alloc_old w2 _ p2];exact p3
 have hH:HR F e2 w0 (w2.alloc (.mapIter (some Bm) cl #[] cl)) { h2 with bs:=h2.bs.set o (.cells old) }:=by
  have:=H.mono ((Below.refl w2.heap.size w2).alloc (Nat.le_refl _) (.mapIter (some Bm) cl #[] cl))
  have hset:h2.bs.set o (.cells old)=h2.bs:=by
   apply List.ext_getElem?
   intro i
   rw [List.getElem?_set]
   split
   ·rename_i hi
    subst hi
    rw [ho,if_pos (gJ ho).1]
   ·rfl
  rw [hset];exact this
 have hsz:w2.heap.size<(w2.alloc (.mapIter (some Bm) cl #[] cl)).heap.size:=by simp
 have hrw0:w0.heap.size≤r:=by omega
 have hBmo:Bm≠Bo:=H.inj m o _ _ (Bm,km,nm) (Bo,ko,no) (by intro hh;subst hh;rw [ho] at hm;cases hm) hm ho rfl rfl hxm hxo
 have hBor:Bo≠r:=by omega
 have hBmr:Bm≠r:=by omega
 have hBr:B≠r:=by omega
 go_upto_block 0 with (fail)
 generalize hw3:w2.alloc (.mapIter (some Bm) cl #[] cl)=w3 at *
 clear hc H hrg hw3 p1 p2 p3 q1 q2 r1 r2 cs0 cs1
 replace hr:=jd hr
 go_wp2_with fail
 go_loopw [] (fun wr=>∃ seen cs c0,r<wr.heap.size∧wr.heap[r]?=some (.mapIter (some Bm) cl seen c0)∧cl≤c0∧wr.heap[Bm]?=some (.map ms.toArray cl)∧HR F e2 w0 wr { h2 with bs:=h2.bs.set o (.cells cs) }∧SyncI ms l old cs seen) (fun wr=>match wr.heap[r]? with | some (.mapIter _ _ seen _)=>(leftOf ms.toArray seen).size | _=>0)
 case atStart=>exact ⟨#[],old,cl,by have:=hr.out;omega,hIt,Nat.le_refl _,hMp,hH,SyncI.start _ _ _⟩
 case round=>
  clear hIt hMp hH hsz
  obtain ⟨seen,cs,c0,hrs,hIt,hc0,hMp,H,hI⟩:=hrel
  replace hI:=jd hI
  rcases run_next_at (P:=Tryz.prog) wr 0 r Bm cl c0 seen ms.toArray cl hIt hMp (fun x hx=>p6.1 x hx) hc0 with ⟨h0,hnx⟩ | ⟨me,hme,w4,hw4,hnx⟩
  ·have hfin:cs=setL old l:=hI.out.done hnd (fun q hq=>Nat.lt_of_lt_of_le (hin q hq) hn) hml (fun x hx=>all_seen ms.toArray seen h0 x hx)
   subst hfin
   have hd':(h2.bs.set o (.cells (setL old l)))[d]?=some (.cells (.slc o 0 n c 1::.map m::rest)):=by rw [List.getElem?_set_ne (Ne.symm hdo)];exact hd
   have hmo:o≠m:=by intro hh;subst hh;rw [ho] at hm;cases hm
   have hm':(h2.bs.set o (.cells (setL old l)))[m]?=some (.map es cl):=by rw [List.getElem?_set_ne hmo];exact hm
   obtain ⟨s1,cs1,B1,k1,n1,hx1,rfl⟩:=H.load hd' hx (i:=1) rfl
   rw [hxm] at hx1
   cases hx1
   have hcl:(Builtin.clear_ #[169] 0 #[.map (some Bm)]).run Tryz.prog wr=.ok (.tuple #[]) (setBlock wr Bm (.map #[] cl)):=by
    simp [Builtin.clear_,run_underlying Tryz.underlying169,MapKept.run_getObj_map hMp,MapKept.run_setObj_map _ hMp,setBlock]
   have hfinal:=H.setMap (clock':=cl) (es':=[]) (ms':=[]) hm' hxm rfl rfl ⟨by simp,by simp⟩
   clear hlive hent
   go_wp2
   go_ret
   exact ⟨_,rfl,e2,le,rfl,hfinal⟩
  ·obtain ⟨hm1,hm2⟩:=mem_left hme
   obtain ⟨j,hj⟩:=List.mem_iff_getElem?.1 hm1
   have hj':ms[j]?=some me:=hj
   obtain ⟨q,hq,hkey,hqok,hval⟩:=hent.out j me hj'
   obtain ⟨s,hs⟩:∃ s,Hid (Qb (den F e2 q.2)=s):=⟨_,rfl⟩
   rw [hs.out] at hval
   rw [hkey,hval] at hnx
   have hqn:=hin q (List.mem_of_getElem? hq)
   have hw4h:w4.heap=wr.heap:=by rcases hw4 with rfl | rfl <;> rfl
   have hw4b:Below w0.heap.size w0 w4:=by
    rcases hw4 with rfl | rfl
    ·exact H.below
    ·exact H.below.drew
   obtain ⟨w5,hw5⟩:∃ w5,setBlock w4 r (.mapIter (some Bm) cl (seen.push me.born) cl)=w5:=⟨_,rfl⟩
   have h5o:∀ x,x≠r→w5.heap[x]?=wr.heap[x]?:=fun x hxr=>by
    rw [← hw5,← hw4h];simp only [setBlock];rw [Array.getElem?_setIfInBounds_ne (Ne.symm hxr)]
   have h5r:w5.heap[r]?=some (.mapIter (some Bm) cl (seen.push me.born) cl):=by
    rw [← hw5];simp only [setBlock];rw [Array.getElem?_setIfInBounds_self_of_lt (by rw [hw4h];exact hrs)]
   have h5s:w5.heap.size=wr.heap.size:=by rw [← hw5,← hw4h];simp [setBlock]
   have h5b:Below w0.heap.size w0 w5:=hw4b.trans (by
    rw [← hw5]
    exact ⟨rfl,rfl,rfl,by simp [setBlock],fun x hx=>by simp only [setBlock];rw [Array.getElem?_setIfInBounds_ne (by omega)]⟩)
   rw [hw5] at hnx
   have H5:HR F e2 w0 w5 { h2 with bs:=h2.bs.set o (.cells cs) }:=H.apart r (by omega) h5b (fun x _ hxr=>h5o x hxr) (fun i a x a1 a2 a3=>by
    by_cases hio:i=o
    ·subst hio
     rw [hxo] at a2;cases a2
     exact hBor
    ·exact hlive.out i a x (by rw [List.getElem?_set_ne (Ne.symm hio)] at a1;exact a1) a2 a3)
   have hen:(Instr.entry (.pointer (some ⟨r,0,none⟩))).run Tryz.prog w5=.ok (.tuple #[.int .i64 (q.1:Nat),.string s]) w5:=by
    have:=run_entry_at (P:=Tryz.prog) w5 r Bm cl seen ms.toArray cl me h5r (by rw [h5o Bm hBmr];exact hMp) hm1 p6.2
    rw [hkey,hval] at this
    exact this
   have hd':(h2.bs.set o (.cells cs))[d]?=some (.cells (.slc o 0 n c 1::.map m::rest)):=by rw [List.getElem?_set_ne (Ne.symm hdo)];exact hd
   have ho':(h2.bs.set o (.cells cs))[o]?=some (.cells cs):=by rw [List.getElem?_set_self (gJ ho).1]
   obtain ⟨s1,cs1,B1,k1,n1,c'',o'',hx1,rfl,hz1,hz2,hz3,hz4,hz5⟩:=H5.load hd' hx (i:=0) rfl
   rw [hxo] at hx1
   cases hx1
   obtain rfl:o''=ko+0:=by rcases hz1 with hz | hz <;> omega
   have hstep:=jd (hI.out.step p6.2 hnd hj' hq (Nat.lt_of_lt_of_le hqn hn))
   have hcsl:=hI.out.len
   obtain ⟨⟨u0,hu0⟩,hf0,H6⟩:=H5.store (x:=.txt q.2) (v:=.string s) ho' hxo (i:=q.1) (by omega) ⟨hqok,by rw [hs.out]⟩
   rw [List.set_set] at H6
   have hmeas:=jd (left_shrinks ms.toArray seen me hme)
   rw [Nat.add_zero] at *
   obtain ⟨pi,pt⟩:=q
   dsimp only at *
   have hqI:(pi:Int)<(n:Int):=by omega
   have hq0:(0:Int)≤(pi:Int):=by omega
   clear hlive hent hme hm1 hm2 hj hj' hkey hval hw4 hw4h hw4b hw5 hI H5 H
   go_wp2_with fail
   have hset:∀ x,x≠Bo→(w5.setCell ⟨Bo,o''+pi,none⟩ (.string s)).heap[x]?=w5.heap[x]?:=fun x hx=>Below.heap_setCell _ _ _ _ hx
   refine ⟨⟨seen.push me.born,cs.set pi (.txt pt),cl,by simp [World.setCell];omega,by rw [hset r (Ne.symm hBor)];exact h5r,Nat.le_refl _,by rw [hset Bm hBmo,h5o Bm hBmr];exact hMp,H6,hstep.out⟩,?_⟩
   rw [hset r (Ne.symm hBor),h5r,hIt]
   exact hmeas.out
def syPr(call:Jq):Prims:=onPr 153 fun args h=>match args with
 | [.ptr d o0]=>if Nat.beq o0 0 then some (match call 202 [.ptr d 0,.lit (.int .i64 (.ofNat 0))] h with
  | .ok (.lit (.int .i64 (.ofNat e0)),h1)=>if Nat.beq e0 0 then match call 215 [.ptr d 0] h1 with
   | .ok (.lit (.bool true),h2)=>match h2.bs[d]? with
    | some (.cells (.slc o oo n c 1::.map m::rest))=>match h2.bs[o]?,h2.bs[m]? with
     | some (.cells old),some (.map es cl)=>match entsA es with
      | some l=>if Nat.beq oo 0&&distB (l.map (·.1))&&l.all (fun p=>Nat.blt p.1 n)&&Nat.ble n old.length && !Nat.beq d o then
       h2.setF o (.cells (setL old l)) fun h3=>h3.setF m (.map [] cl) fun h4=>.ok (.lit (.int .i64 (.ofNat 0)),h4)
       else .no [153,4]
      | none=>.no [153,3]
     | _,_=>.no [153,2]
    | _=>.no [153,1]
   | .ok _=>.no [153,7]
   | .no l=>.no l else .no [153,8]
  | .ok _=>.no [153,6]
  | .no l=>.no l) else none
 | _=>none
theorem syPr_ok{F:Funs}{call:Jq}(hc:Vs F Tryz.prog call):Qc F Tryz.prog (syPr call):=by
 refine Qc.on fun args h v h' hr e w0 w vs H hv=>?_
 split at hr
 rotate_left
 ·cases hr
 rename_i d o0
 split at hr
 rotate_left
 ·cases hr
 rename_i hb0
 obtain rfl:o0=0:=by simpa using hb0
 replace hr:=Option.some.inj hr
 split at hr
 rotate_left
 ·cases hr
 ·cases hr
 rename_i e0 h1 hc1
 split at hr
 rotate_left
 ·cases hr
 rename_i hb1
 obtain rfl:e0=0:=by simpa using hb1
 split at hr
 rotate_left
 ·cases hr
 ·cases hr
 rename_i h2 hc2
 split at hr
 rotate_left
 ·cases hr
 rename_i o oo n c m rest hd
 split at hr
 rotate_left
 ·cases hr
 rename_i old es cl ho hm
 split at hr
 rotate_left
 ·cases hr
 rename_i l hl
 split at hr
 rotate_left
 ·cases hr
 rename_i hb
 simp only [AH.setF_eq] at hr
 cases hr
 simp only [Bool.and_eq_true,Bool.not_eq_true',Nat.ble_eq,List.all_eq_true,Nat.blt_eq,Nat.beq_eq] at hb
 obtain ⟨⟨⟨⟨rfl,hb2⟩,hb3⟩,hb4⟩,hb5⟩:=hb
 exact sync_run hc hc1 hc2 hd ho hm hl (distB_nodup hb2) hb3 hb4 (by intro hh;rw [hh] at hb5;simp at hb5) H hv
end
end Go.Proofs.YthekdeikodppkaaGreatDoor
namespace Go.Proofs.YthekdeikodppkaaGreatDoor
open Go.RowKit
theorem rep_spliceS(a:ByteArray){k n m:Nat}(h:n+m≤k):splice (txs (List.replicate n a++List.replicate (k-n) ⟨#[]⟩)) n (txs (List.replicate m a))=txs (List.replicate (n+m) a++List.replicate (k-(n+m)) ⟨#[]⟩):=by
 unfold splice txs
 rw [List.map_append,List.map_append,List.take_left' (by simp),List.drop_append,List.drop_eq_nil_of_le (by simp),List.nil_append]
 simp only [List.map_replicate,List.length_replicate,List.drop_replicate]
 rw [← List.append_assoc,List.replicate_append_replicate,show k-n-(n+m-n)=k-(n+m) by omega]
set_option maxRecDepth 100000 in
set_option maxHeartbeats 1600000 in
theorem repeatS_any{w:World}{v:Value}{a:ByteArray}(k:Nat)(hr:Rd w 1 v 1 (txs [a]))(hk:k≤1000000) :
 Calls Tryz.prog 94 #[v,.int .i64 k] w (Ret fun r w'=>Own w w' [slc 9 1 r k (txs (List.replicate k a))]):=by
 have H:=Own.start w
 obtain ⟨b,o,c,rfl,hc1,hc2⟩:=hr.some (by simp [txs])
 have c0:=hr.cell (u:=.string a) (j:=0) rfl
 have HC0:=jd c0
 clear hr c0
 have hmul:=mul_any k hk
 have HM:=jd hmul
 clear hmul
 have hkI:(k:Int)≤9223372036854775807:=by omega
 have hkw:IntKind.u64.wrap (k:Int)=(k:Int):=IntWalk.u64_in _ ⟨by omega,by omega⟩
 have hkw2:IntKind.i64.wrap (k:Int)=(k:Int):=IntWalk.i64_in _ ⟨by omega,by omega⟩
 have hmk:∀ w:World,(Instr.makeSlice 26 (.int .i64 k) (.int .i64 k)).run Tryz.prog w=.ok (.slice (some ⟨w.heap.size,0,none⟩) k k) (w.alloc (.cells (madeCells #[.string ⟨#[]⟩] k) 9)):=run_make_row' _ _ _ 16 Tryz.underlying26 Kd rfl .i64 .i64 k (by omega) (by omega)
 go_enter Tryz.func94,Tryz.ntmps94
 go_wp2_with fail
 refine (HM.out _).mono ?_
 rintro e w2 ⟨_,rfl,rfl,H2⟩
 have H:=H.join H2
 clear H2
 go_upto_region 7 with (fail)
 have h1:=H.alloc (.cells (madeCells #[.string ⟨#[]⟩] k) 9)
 have H:Own w (w2.alloc (.cells (madeCells #[.string ⟨#[]⟩] k) 9)) [slc 9 1 (.slice (some ⟨w2.heap.size,0,none⟩) k k) k (txs (List.replicate 0 a++List.replicate (k-0) ⟨#[]⟩))]:=
  h1.slc_mk (by simp [txs]) (Nat.le_refl _) (by simp [maxLen];omega) (by simp [size_madeCells]) (by rw [toList_madeCells_one];simp [txs])
 have c0:=(show (w2.alloc (.cells (madeCells #[.string ⟨#[]⟩] k) 9)).cell? ⟨b,o+0,none⟩=some (.string a) by rw [H.oldCell (World.block_lt_of_cell? _ _ HC0.out)];exact HC0.out)
 clear h1
 generalize w2.alloc (.cells (madeCells #[.string ⟨#[]⟩] k) 9)=w3 at *
 obtain ⟨g,hg⟩:∃ g,w2.heap.size=g:=⟨_,rfl⟩
 rw [hg] at H ⊢
 clear hg hmk HM
 have hsrc:∀ j v,(txs (List.replicate (min k 1) a))[j]?=some v→w3.cell? ((⟨b,o,none⟩:Addr).add j)=some v:=fun j v hj=>by
  have hlt:=(gJ hj).1
  rw [Qr,List.length_replicate] at hlt
  have:j=0:=by omega
  subst this
  rw [Addr.add_lit,c0]
  have hk1:min k 1=1:=by omega
  rw [hk1] at hj
  exact hj
 obtain ⟨m1,hm1⟩:∃ m1,Hid (min k 1=m1):=⟨_,rfl⟩
 have hmin:m1=Nat.min 1 k:=by rw [← hm1.out];show min k 1=min 1 k;omega
 rw [hm1.out] at hsrc
 have HS:=jd hsrc
 have HMIN:=jd hmin
 have hm1k:m1≤k:=by rw [← hm1.out];omega
 have hm10:1≤k→1≤m1:=fun h=>by rw [← hm1.out];omega
 have HP:=jd hm10
 have HONE:Hid (∀ m:Nat,∀ v∈txs (List.replicate m a),v.oneCell'=true):=jd (fun m v hv=>by
  unfold txs at hv;obtain ⟨x,_,rfl⟩:=List.mem_map.1 hv;rfl)
 clear c0 hsrc hmin hm10
 go_wp2_with (refine wpList_copy_slc rfl _ _ _ _ rfl Tryz.underlying26 (by kernel_rfl) H _ _ _ _ _ _ rfl rfl 0 m1 (txs (List.replicate m1 a)) (by simp [txs]) HMIN.out (fun h=>⟨rfl,_,rfl,HS.out⟩) (by omega) (HONE.out m1) ?_;clear H;intro w4 H;rw [rep_spliceS a (by omega),Nat.zero_add] at H)
 go_loopw [8] (fun s8 wx=>∃ n:Nat,s8=.int .i64 n∧n≤k∧(1≤k→1≤n)∧Own w wx [slc 9 1 (.slice (some ⟨g,0,none⟩) k k) k (txs (List.replicate n a++List.replicate (k-n) ⟨#[]⟩))]) (fun s8 _=>k-(intOf s8).toNat)
 case atStart=>exact ⟨m1,by go_num,hm1k,HP.out,H⟩
 case round=>
  clear H
  obtain ⟨n,rfl,hn,hn1,H⟩:=hrel
  by_cases hlt:n<k
  ·have hI:(n:Int)<(k:Int):=by omega
   have hn1:=hn1 (by omega)
   obtain ⟨m,hm⟩:∃ m,Hid (min n (k-n)=m):=⟨_,rfl⟩
   have hm1:1≤m:=by rw [← hm.out];omega
   have hmk:n+m≤k:=by rw [← hm.out];omega
   have hmn:m≤n:=by rw [← hm.out];omega
   have hmin:m=Nat.min n (k-n):=hm.out.symm
   have HMIN2:=jd hmin
   have hsub:((k:Int)-(n:Int))=((k-n:Nat):Int):=by omega
   clear hmin
   have hcut:(n:Int)≤(k:Int):=by omega
   have hn0:n≠0:=by omega
   have hkn:k≠n:=by omega
   go_upto_region 9 with (fail)
   refine wp_region_pres (fun σ w1=>Own w w1 [slc 9 1 (.slice (some ⟨g,0,none⟩) k k) k (txs (List.replicate n a++List.replicate (k-n) ⟨#[]⟩))]) 7 [] [0] (by kernel_rfl) (by kernel_rfl) (by kernel_rfl) (by kernel_rfl) (fun _ _ d _ _ h=>by cases d <;> exact h) ⟨_,_,rfl,fun w=>(by first | rfl | (go_simp;rfl)),rfl⟩ H.drew ?_
   simp only [List.take_succ_cons,List.take_zero,List.drop_succ_cons,List.drop_zero]
   repeat
    first
    | (refine calm_value (v:=?_) (by decide) rfl (fun σ w1 hS=>?_) ?_
       rotate_left
       ·skip
        first | (go_simp;rfl) | rfl
       simp only [Act.put,putC])
    | (refine calm_skip (by decide) rfl ?_
       simp only [Act.put,putC])
   refine calm_nil ?_
   intro σ wd hσ HD
   clear H
   simp only [Jx,List.foldl_nil]
   have hsrc:∀ j v,(txs (List.replicate m a))[j]?=some v→wd.cell? ((⟨g,0,none⟩:Addr).add j)=some v:=fun j v hj=>by
    have hlt:=(gJ hj).1
    rw [Qr,List.length_replicate] at hlt
    rw [Addr.add_lit]
    refine HD.rd.cell ?_
    unfold txs at hj ⊢
    rw [List.map_append,List.getElem?_append_left (by simp;omega),← hj]
    simp only [List.map_replicate,List.getElem?_replicate]
    rw [if_pos (by omega),if_pos hlt]
   have HS2:=jd hsrc
   have hnm:IntKind.i64.wrap ((n:Int)+(m:Int))=((n+m:Nat):Int):=by rw [Int.natCast_add];exact IntWalk.i64_in _ ⟨by omega,by omega⟩
   clear hsrc
   go_wp2_with (refine wpList_copy_slc rfl _ _ _ _ rfl Tryz.underlying26 (by kernel_rfl) HD _ _ _ _ _ _ rfl rfl n m (txs (List.replicate m a)) (by simp [txs]) HMIN2.out (fun h=>⟨rfl,_,rfl,HS2.out⟩) (by omega) (HONE.out m) ?_;clear HD;intro w6 H;rw [rep_spliceS a (by omega)] at H)
   go_roundw
   case rel=>exact ⟨n+m,by go_num,by omega,fun _=>by omega,H⟩
   case measure=>simp [intOf];omega
  ·have hI:¬ (n:Int)<(k:Int):=by omega
   obtain rfl:n=k:=by omega
   rw [Nat.sub_self,List.replicate_zero,List.append_nil] at H
   go_wp2_with fail
   go_ret
   exact ⟨_,rfl,H⟩
section
variable {F:Funs} {e:Env} {w0 w w':World} {h:AH}
theorem HR.pushB(H:HR F e w0 w h){ao:AO}{B k n:Nat}{e':Env}(he:e'=⟨e.bl++[(B,k,n)],e.tx⟩)(hB:w.heap.size≤B)(hB2:B<w'.heap.size)
 (hbw:Below w.heap.size w w') (ho:OR F e' w' (B,k,n) ao):HR F e' w0 w' { h with bs:=h.bs++[ao] }:=by
 have hle:e.le e':=by rw [he];exact ⟨⟨_,rfl⟩,⟨[],by simp⟩⟩
 have hbl:e'.bl=e.bl++[(B,k,n)]:=by rw [he]
 have hl:=H.len
 have key:∀ (i:Nat) (o:AO) (x:Nat × Nat × Nat),(h.bs++[ao])[i]?=some o→e'.bl[i]?=some x→o.live=true→(i<h.bs.length∧h.bs[i]?=some o∧e.bl[i]?=some x∧x.1<w.heap.size)∨(i=h.bs.length∧x=(B,k,n)∧o=ao):=by
  intro i o x h1 h2 h3
  rcases Nat.lt_or_ge i h.bs.length with hi | hi
  ·rw [List.getElem?_append_left hi] at h1
   rw [hbl,List.getElem?_append_left (by omega)] at h2
   exact .inl ⟨hi,h1,h2,(H.objs i o x h1 h2 h3).2.1⟩
  ·rw [List.getElem?_append_right hi] at h1
   rw [hbl,List.getElem?_append_right (by omega)] at h2
   rw [hl] at h1
   cases hi':i-e.bl.length with
   | zero=>
    rw [hi'] at h1 h2
    simp at h1 h2
    exact .inr ⟨by omega,h2.symm,h1.symm⟩
   | succ m=>rw [hi'] at h1;simp at h1
 refine ⟨H.below.trans (hbw.mono H.below'),?_,?_,?_,?_⟩
 ·simp [hbl,hl]
 ·rw [he];exact H.nv
 ·intro i o' x h1 h2 h3
  rcases key i o' x h1 h2 h3 with ⟨-,a2,a3,a4⟩ | ⟨-,rfl,rfl⟩
  ·obtain ⟨g1,g2,g3⟩:=H.objs i o' x a2 a3 h3
   exact ⟨g1,Nat.lt_of_lt_of_le g2 hbw.size,(g3.le hle).of_heap (hbw.block _ g2)⟩
  ·exact ⟨Nat.le_trans H.below' hB,hB2,ho⟩
 ·intro i j o1 o2 x y hij h1 h2 l1 l2 b1 b2
  rcases key i o1 x h1 b1 l1 with ⟨a1,a2,a3,a4⟩ | ⟨a1,rfl,-⟩ <;> rcases key j o2 y h2 b2 l2 with ⟨c1,c2,c3,c4⟩ | ⟨c1,rfl,-⟩
  ·exact H.inj i j o1 o2 x y hij a2 c2 l1 l2 a3 c3
  ·intro hh;rw [hh] at a4;dsimp only at a4;omega
  ·intro hh;rw [← hh] at c4;dsimp only at c4;omega
  ·omega
theorem HR.made(H:HR F e w0 w h){t:TypeId}{v:Value}{n:Nat}{xs:List Value}{cs:List AV}(ho:Own w w' (slc t 1 v n xs::[]))(hn:0<n)(hcs:VRs F e cs xs) :
 ∃ e',e.le e'∧VR F e' (.slc h.bs.length 0 n n 1) v∧HR F e' w0 w' { h with bs:=h.bs++[.cells cs] }:=by
 rcases ho.slc_cases with ⟨-,rfl,-,-⟩ | ⟨g,cap,cur,rfl,hl,h1,h2,h3,h4,h5⟩
 ·omega
 ·rw [Nat.mul_one] at h3 h4
  have hle:e.le ⟨e.bl++[(g,0,cur.size)],e.tx⟩:=⟨⟨_,rfl⟩,⟨[],by simp⟩⟩
  refine ⟨_,hle,⟨g,0,cur.size,cap,0,?_,rfl,.inl rfl,Nat.le_refl _,h1,by omega,h2⟩,H.pushB rfl h5.block.2 (Array.getElem?_eq_some_iff.1 h5.block.1).1 h5.below ?_⟩
  ·rw [H.len];simp
  ·have hlv:=VRs.length _ _ hcs
   refine ⟨cur,t,(0,0),h5.block.1,rfl,by simp,xs,VRs.le hle _ _ hcs,?_⟩
   rw [List.drop_zero,← hlv,← h4,List.length_take,Array.length_toList,Nat.min_eq_left (by omega)]
theorem vrs_replicate{a:AV}{v:Value}(h:VR F e a v):∀ n,VRs F e (List.replicate n a) (List.replicate n v)
 | 0=>rfl
 | n+1=>⟨v,List.replicate n v,rfl,h,vrs_replicate h n⟩
end
noncomputable section
def prRep:Prims:=onPr 94 fun args h=>match args with
 | [x,.lit (.int .i64 (.ofNat n))]=>match argTxts x h with
  | some [t]=>if Nat.ble n 100000&&Nat.blt 0 n then fNat n fun n=>h.pushF (.cells (List.replicate n (.txt t))) fun h'=>some (.ok (.slc h.bs.length 0 n n 1,h')) else none
  | _=>none
 | _=>none
theorem prRep_ok{F:Funs}:Qc F Tryz.prog prRep:=by
 refine Qc.on fun args h v h' hr e w0 w vs H hv=>?_
 split at hr
 rotate_left
 ·cases hr
 rename_i x n
 split at hr
 rotate_left
 ·cases hr
 rename_i t hl
 split at hr
 rotate_left
 ·cases hr
 rename_i hn
 simp only [Vv,AH.pushF_eq] at hr
 cases hr
 simp only [Bool.and_eq_true,Nat.ble_eq,Nat.blt_eq] at hn
 obtain ⟨v1,l1,hl1,g1,v2,l2,hl2,g2,g3⟩:=hv
 obtain rfl:l2=[]:=g3
 subst hl2
 obtain rfl:vs=#[v1,v2]:=by apply Array.ext';exact hl1
 obtain rfl:v2=.int .i64 (.ofNat n):=g2
 obtain ⟨⟨m,hrd⟩,hok⟩:=argTxts_rd H hl g1
 have hm:m=1:=by have:=hrd.len;simpa [txs] using this.symm
 subst hm
 refine (repeatS_any n hrd (by omega)).mono ?_
 rintro en w' ⟨u,rfl,ho⟩
 obtain ⟨e',h1,h2,h3⟩:=H.made (cs:=List.replicate n (.txt t)) ho (by omega) (by
  have:=vrs_replicate (F:=F) (e:=e) (a:=.txt t) (v:=.string (Qb (den F e t))) ⟨hok t (by simp),rfl⟩ n
  simpa [txs] using this)
 exact ⟨u,rfl,e',h1,h2,h3⟩
end
end Go.Proofs.YthekdeikodppkaaGreatDoor
namespace Go.Proofs
open Go.Shelf Go.RowKit
def Tryz.layTrim_ren:Go.Shelf.Ren:=⟨fun | 160=>204 | 232=>280 | 231=>279 | 227=>281 | 234=>283 | 233=>282 | 236=>285 | 235=>284 | 228=>333 | 271=>336 | 151=>335 | 197=>334 | 120=>364 | 152=>363 | 260=>362 | 137=>381 | 119=>382 | 224=>354 | 225=>353 | 217=>352 | 266=>376 | n=>n,fun | 9=>9 | 4=>4 | 3=>3 | 5=>5 | 117=>398 | 116=>397 | 0=>0 | 124=>401 | 21=>21 | 105=>436 | 46=>81 | 119=>471 | 139=>474 | 138=>473 | n=>n,fun | 3=>1 | 4=>2 | n=>n⟩
theorem Tryz.layTrim:Go.Proofs.Lays.n160 Tryz.prog Tryz.layTrim_ren:={
 mixed:=by kernel_rfl
 f119:=Tryz.func382.trans (congrArg some (by kernel_rfl))
 f120:=Tryz.func364.trans (congrArg some (by kernel_rfl))
 f137:=Tryz.func381.trans (congrArg some (by kernel_rfl))
 f151:=Tryz.func335.trans (congrArg some (by kernel_rfl))
 f152:=Tryz.func363.trans (congrArg some (by kernel_rfl))
 f160:=Tryz.func204.trans (congrArg some (by kernel_rfl))
 f197:=Tryz.func334.trans (congrArg some (by kernel_rfl))
 f217:=Tryz.func352.trans (congrArg some (by kernel_rfl))
 f224:=Tryz.func354.trans (congrArg some (by kernel_rfl))
 f225:=Tryz.func353.trans (congrArg some (by kernel_rfl))
 f227:=Tryz.func281.trans (congrArg some (by kernel_rfl))
 f228:=Tryz.func333.trans (congrArg some (by kernel_rfl))
 f231:=Tryz.func279.trans (congrArg some (by kernel_rfl))
 f232:=Tryz.func280.trans (congrArg some (by kernel_rfl))
 f233:=Tryz.func282.trans (congrArg some (by kernel_rfl))
 f234:=Tryz.func283.trans (congrArg some (by kernel_rfl))
 f235:=Tryz.func284.trans (congrArg some (by kernel_rfl))
 f236:=Tryz.func285.trans (congrArg some (by kernel_rfl))
 f260:=Tryz.func362.trans (congrArg some (by kernel_rfl))
 f266:=Tryz.func376.trans (congrArg some (by kernel_rfl))
 f271:=Tryz.func336.trans (congrArg some (by kernel_rfl))
 t0:=Tryz.underlying0
 a0:=Tryz.isAgg0
 z0:=Tryz.sizeOf0
 v0:=Tryz.zeroValue0
 t3:=Tryz.underlying3
 a3:=Tryz.isAgg3
 z3:=Tryz.sizeOf3
 v3:=Tryz.zeroValue3
 t4:=Tryz.underlying4
 a4:=Tryz.isAgg4
 z4:=Tryz.sizeOf4
 v4:=Tryz.zeroValue4
 t5:=Tryz.underlying5
 a5:=Tryz.isAgg5
 z5:=Tryz.sizeOf5
 v5:=Tryz.zeroValue5
 t9:=Tryz.underlying9
 a9:=Tryz.isAgg9
 z9:=Tryz.sizeOf9
 v9:=Tryz.zeroValue9
 t21:=Tryz.underlying21
 a21:=Tryz.isAgg21
 z21:=Tryz.sizeOf21
 v21:=Tryz.zeroValue21
 t46:=Tryz.underlying81
 a46:=Tryz.isAgg81
 z46:=Tryz.sizeOf81
 v46:=Tryz.zeroValue81
 t105:=Tryz.underlying436
 a105:=Tryz.isAgg436
 z105:=Tryz.sizeOf436
 v105:=Tryz.zeroValue436
 t116:=Tryz.underlying397
 a116:=Tryz.isAgg397
 z116:=Tryz.sizeOf397
 t117:=Tryz.underlying398
 a117:=Tryz.isAgg398
 z117:=Tryz.sizeOf398
 v117:=Tryz.zeroValue398
 t119:=Tryz.underlying471
 a119:=Tryz.isAgg471
 z119:=Tryz.sizeOf471
 t124:=Tryz.underlying401
 a124:=Tryz.isAgg401
 z124:=Tryz.sizeOf401
 v124:=Tryz.zeroValue401
 t138:=Tryz.underlying473
 a138:=Tryz.isAgg473
 z138:=Tryz.sizeOf473
 v138:=Tryz.zeroValue473
 t139:=Tryz.underlying474
 a139:=Tryz.isAgg474
 z139:=Tryz.sizeOf474
 v139:=Tryz.zeroValue474
 g3:=by kernel_rfl
 g4:=by kernel_rfl }
end Go.Proofs
namespace Go.Proofs.YthekdeikodppkaaGreatDoor
open Go.RowKit
noncomputable section
theorem trimB_zero(n:Nat):Lib.trimB (List.replicate n (0:UInt8)) 0=[]:=by
 have h:∀ m:Nat,(List.replicate m (0:UInt8)).dropWhile (· == 0)=[]:=by
  intro m
  induction m with
  | zero=>rfl
  | succ m _=>rw [List.replicate_succ,List.dropWhile_cons];simp
 unfold Lib.trimB Lib.trimLeftB Lib.trimRightB
 rw [List.reverse_replicate,h];rfl
def prTrim:Prims:=onPr 204 fun args h=>match args with
 | [.txt [.zr n],.txt [.by [0]]]=>if Nat.ble n 100000 then some (.ok (.txt [],h)) else none
 | _=>none
theorem prTrim_ok{F:Funs}:Qc F Tryz.prog prTrim:=by
 refine Qc.on fun args h v h' hr e w0 w vs H hv=>?_
 split at hr
 rotate_left
 ·cases hr
 rename_i n
 split at hr
 rotate_left
 ·cases hr
 rename_i hn
 cases hr
 obtain ⟨v1,l1,hl1,g1,v2,l2,hl2,g2,g3⟩:=hv
 have e2:=g2.2
 have e1:=g1.2
 have e3:l2=[]:=g3
 subst e3;subst hl2
 have hvs:vs=#[v1,v2]:=by apply Array.ext';exact hl1
 subst hvs
 have hs:v1=.string (Qb (List.replicate n 0)):=by rw [e1];simp [den,Ck.den]
 have hs2:v2=.string ⟨#[0]⟩:=by rw [e2];rfl
 subst hs;subst hs2
 have hn':n≤100000:=by simpa using hn
 have:=Any.strings_Trim_one (P:=Tryz.prog) Tryz.layTrim (Qb (List.replicate n 0)) 0 (by decide) w (by simp [Qb,ByteArray.size];omega)
 refine this.mono ?_
 rintro en w' ⟨rfl,hb⟩
 refine ⟨_,rfl,e,Env.le_refl _,⟨trivial,?_⟩,?_⟩
 ·have:(Qb (List.replicate n (0:UInt8))).data.toList=List.replicate n 0:=by simp [Qb]
  rw [this,trimB_zero]
  simp [den,Qb]
 ·rcases hb with rfl | rfl
  ·exact H
  ·exact H.same rfl rfl rfl rfl
end
end Go.Proofs.YthekdeikodppkaaGreatDoor
