/-
  Texts of this claim, one behind the other: huff; strings.Repeat of zeros, known of its own accord (by the shelf's contract, laid at this program); sha; sha; sha; huff; huff; huff; flate; flate; flate; filemap; filemap; sha; sha; sha; merkle; grow; archive.Root; consist.
-/
import Derived.Test.YthekdeikodppkaaGreatDoorKb5
import Derived.Deep.OwnRows
import Derived.Shelf.Strings.Repeat
import Derived.Ground.NamesProg
import Derived.Test.YthekdeikodppkaaGreatDoorRows
import Derived.Lib.Agree
import Derived.KernelRfl
import Derived.Laws.CopyOwn
import Derived.OwnWalk
import Derived.Shelf.Small.Strs
import Derived.Deep.MidRow
set_option linter.unusedVariables false
namespace Go.Proofs.YthekdeikodppkaaGreatDoor
open Go.RowKit
theorem sort_syms{w0 w:World}{ps:List Piece}{N B n:Nat}{l F:List Int}{v sv:Value}(hr:Rd w0 1 v n (nums F))(hn:n≤1000000)(hok:∀ x∈l,0≤x∧x<F.length)(hN:N=l.length)(hNb:N≤1000000)
 (H:Own w0 w (slc 3 1 sv N (nums l)::blk B (.cells #[v] 34)::ps)) :
 Calls Tryz.prog 328 #[sv,SI.cf B] w (Ret fun _ w'=>Own w0 w' (slc 3 1 sv N (nums (sortF (frq F) l))::blk B (.cells #[v] 34)::ps)):=by
 rcases H.slc_cases with ⟨rfl,rfl,hx,H2⟩ | ⟨g,cap,cur,rfl,_⟩
 ·refine (sortnil_any _ w).mono ?_
  rintro e w1 ⟨_,rfl,h⟩
  have hl:l=[]:=eJ hN.symm
  subst hl
  exact ⟨_,rfl,(H2.join h).nil _ _⟩
 ·rw [← rows_ie] at H ⊢
  exact sortI_any hr hn hok hN hNb H
set_option maxRecDepth 100000 in
set_option maxHeartbeats 12800000 in
theorem lengths_any{w:World}{v:Value}{n:Nat}{F:List Int}{L:Int}(hr:Rd w 1 v n (nums F))(hn:n≤1000) :
 Calls Tryz.prog 271 #[v,.int .i64 L] w (Ret fun r w'=>∃ ov,r=.tuple #[ov,.int .i64 (errF F L)]∧Own w w' [slc 3 1 ov (resF F L).length (nums (resF F L))]):=by
 have hFl:Hid (F.length=n):=jd (by have:=hr.len;rw [Qg] at this;omega)
 obtain ⟨va,vc,rfl,hv1,hv2⟩:=hr.shape
 have HR:=jd hr
 have H:=(Own.start w).alloc (.cells #[.slice va n vc] 34)
 obtain ⟨bad,hbad⟩:∃ bad,Hid (badArg F L=bad):=⟨_,rfl⟩
 obtain ⟨er,her⟩:∃ er,Hid (errF F L=er):=⟨_,rfl⟩
 obtain ⟨R,hRes⟩:∃ R,Hid (resF F L=R):=⟨_,rfl⟩
 rw [her.out,hRes.out]
 obtain ⟨RL,hRL⟩:∃ RL,Hid (R.length=RL):=⟨_,rfl⟩
 rw [hRL.out]
 have hC:=contains_any (w:=w) hr (by omega)
 clear hr
 go_enter Tryz.func271,Tryz.ntmps271
 go_upto_region 2 with (fail)
 generalize w.alloc (.cells #[.slice va n vc] 34)=wa at *
 generalize w.heap.size=B at *
 have c0:=H.cells
 have HCON:=jd hC
 clear hC
 go_cut [38] (fun s38 wx=>s38=.bool bad∧Own w wx [blk B (.cells #[.slice va n vc] 34)])
 case first=>
  have hbd:=hbad.out
  unfold badArg at hbd
  rw [hFl.out] at hbd
  by_cases h1:L<1
  ·have e:Hid (bad=true):=jd (by rw [← hbd];simp [h1])
   clear hbd
   go_wp2_with fail
   go_meet
   exact ⟨by rw [e.out],H⟩
  ·by_cases h2:15<L
   ·have e:Hid (bad=true):=jd (by rw [← hbd];simp [h2])
    clear hbd
    go_wp2_with fail
    go_meet
    exact ⟨by rw [e.out],H⟩
   ·by_cases h3:320<n
    ·have e:Hid (bad=true):=jd (by rw [← hbd];simp [h3])
     have h3I:(320:Int)<(n:Int):=by omega
     clear hbd
     go_wp2_with fail
     go_meet
     exact ⟨by rw [e.out],H⟩
    ·have e:Hid (bad=anyBad F):=jd (by rw [← hbd];simp [h1,h2,h3])
     have h3I:¬ (320:Int)<(n:Int):=by omega
     have HC2:=jd (contains_any (HR.out.old H) (by omega))
     clear hbd HCON
     go_wp2_with fail
     refine HC2.out.mono ?_
     rintro e1 w1 ⟨_,rfl,rfl,H1⟩
     have H:=H.join H1
     rw [← e.out]
     go_wp2_with fail
     go_meet
     exact ⟨rfl,H⟩
 case rest=>
  clear H c0 HCON
  obtain ⟨rfl,H⟩:=hcut
  cases bad with
  | true=>
   have e1:Hid (er=1):=jd (by rw [← her.out];unfold errF;rw [hbad.out];rfl)
   have e2:Hid (R=[]):=jd (by rw [← hRes.out];unfold resF;rw [her.out,e1.out];rfl)
   go_wp2_with fail
   go_ret2
   refine ⟨_,rfl,_,by rw [e1.out];rfl,?_⟩
   have e3:=hRL.out
   rw [e2.out] at e3
   subst e3
   rw [e2.out]
   exact (H.nil 3 1).swap.drop
  | false=>
   have hbd:=hbad.out
   unfold badArg at hbd
   simp only [Bool.or_eq_false_iff,decide_eq_false_iff_not] at hbd
   obtain ⟨⟨⟨hL1,hL2⟩,hL3⟩,hab⟩:=hbd
   obtain ⟨M,rfl⟩:∃ M:Nat,L=M:=⟨L.toNat,by omega⟩
   have hM1:1≤M:=by omega
   have hM2:M≤15:=by omega
   have hn3:n≤320:=by have:=hFl.out;omega
   have hFb:Hid (∀ f∈F,0≤f∧f≤4294967296):=jd (fun f hf=>by
    unfold anyBad at hab
    rw [List.any_eq_false] at hab
    have:=hab f hf
    simp only [badF,decide_eq_true_eq] at this
    omega)
   clear hab hL1 hL2 hL3
   have c0:=H.cells
   have H:=H.nil 3 1
   go_wp2_with fail
   clear c0
   go_loopw [7,41] (fun s7 s41 wx=>∃ k:Nat,s41=.int .i64 k∧k≤n∧Own w wx [slc 3 1 s7 (usedN F k).length (nums (usedN F k)),blk B (.cells #[.slice va n vc] 34)]) (fun _ s41 _=>n-(intOf s41).toNat)
   case atStart=>exact ⟨0,by go_num,by omega,by simpa [usedN,nums] using H⟩
   case round=>
    clear H
    obtain ⟨k,rfl,hk,H⟩:=hrel
    by_cases hlt:k<n
    ·obtain ⟨b,o,rfl,c1⟩:=rd_num HR.out H (by have:=hFl.out;omega:k<F.length) rfl
     have hu:=usedN_length F k
     have hus:usedN F (k+1)=if 0<F.getD k 0 then usedN F k++[(k:Int)] else usedN F k:=rfl
     obtain ⟨x,hx⟩:∃ x,Hid (F.getD k 0=x):=⟨_,rfl⟩
     rw [hx.out] at c1 hus
     have hkI:(k:Int)<(n:Int):=by omega
     obtain ⟨U,hU⟩:∃ U,Hid (usedN F k=U):=⟨_,rfl⟩
     rw [hU.out] at H hus hu
     by_cases hpos:0<x
     ·rw [if_pos hpos] at hus
      have HUS:=jd hus
      obtain ⟨q,hq⟩:∃ q,Hid (U.length=q):=⟨_,rfl⟩
      rw [hq.out] at H hu
      clear hus
      go_wp2_with (at_builtin;refine Qf rfl _ _ rfl Tryz.underlying34 intInfo rfl (by decide) rfl H (news:=[.int .i64 k]) rfl rfl rfl (by simp [Value.oneCell']) (by omega) (by omega) ?_;clear H c1;intro v' w' H)
      go_roundw
      case rel=>
       refine ⟨k+1,by go_num,by omega,?_⟩
       rw [HUS.out,lJ,hq.out]
       simpa [nums] using H
      case measure=>simp [intOf];omega
     ·rw [if_neg hpos] at hus
      have HUS:=jd hus
      clear hus
      go_wp2_with fail
      go_roundw
      case rel=>exact ⟨k+1,by go_num,by omega,by rw [HUS.out];exact H⟩
      case measure=>simp [intOf];omega
    ·obtain rfl:k=n:=by omega
     have hkI:¬ (k:Int)<(k:Int):=by omega
     have hul:=usedN_length F k
     have hus:Hid (usedN F k=usedF F):=jd (by unfold usedF;rw [hFl.out])
     rw [hus.out] at H hul
     obtain ⟨a7,c7,rfl,-⟩:=H.rd.shape
     obtain ⟨N,hN⟩:∃ N,Hid ((usedF F).length=N):=⟨_,rfl⟩
     rw [hN.out] at H hul ⊢
     obtain ⟨p,hp⟩:∃ p:Nat,Hid (2^M=p):=⟨_,rfl⟩
     have hp1:p≤32768:=by
      rw [← hp.out]
      have:2^M≤2^15:=Nat.pow_le_pow_right (by omega) hM2
      omega
     have hpw:wrap64 ((2:Int)^M)=(p:Int):=by
      have e:(2:Int)^M=(p:Int):=by rw [← hp.out];simp
      rw [e]
      exact IntWalk.wrap64_in _ ⟨by omega,by omega⟩
     have herr:Hid (er=if p<N then 3 else 0):=jd (by
      rw [← her.out];unfold errF
      rw [hbad.out,if_neg (by simp),Int.toNat_natCast,hp.out,hN.out])
     by_cases hfull:p<N
     ·have e1:Hid (er=3):=jd (by rw [herr.out,if_pos hfull])
      have e2:Hid (R=[]):=jd (by rw [← hRes.out];unfold resF;rw [her.out,e1.out];rfl)
      have hfI:(p:Int)<(N:Int):=by omega
      go_wp2_with fail
      go_ret2
      refine ⟨_,rfl,_,by rw [e1.out];rfl,?_⟩
      have e3:=hRL.out
      rw [e2.out] at e3
      subst e3
      rw [e2.out]
      exact (H.bare.nil 3 1)
     ·have e1:Hid (er=0):=jd (by rw [herr.out,if_neg hfull])
      have e2:Hid (Zz F M=R):=jd (by rw [← hRes.out];unfold resF;rw [her.out,e1.out];rfl)
      have hfI:¬ (p:Int)<(N:Int):=by omega
      have hS:=sort_syms HR.out (by omega) (fun x hx=>by
       obtain ⟨s,rfl,h1,_⟩:=(usedN_mem F _ x).1 hx
       exact ⟨by omega,by omega⟩) hN.out.symm (by omega) H
      have esym:sortF (frq F) (usedF F)=symsF F:=rfl
      rw [esym] at hS
      have hsl:Hid ((symsF F).length=N):=jd (by rw [syms_length];exact hN.out)
      have HS:=jd hS
      clear hS esym herr
      go_wp2_with fail
      refine HS.out.mono ?_
      rintro e w1 ⟨_,rfl,H1⟩
      clear H HS
      have c0:=(H1.front 1 rfl).cells
      have hmk:∀ w:World,(Instr.makeSlice 34 (.int .i64 k) (.int .i64 k)).run Tryz.prog w=.ok (.slice (some ⟨w.heap.size,0,none⟩) k k) (w.alloc (.cells (madeCells #[.int .i64 0] k) 3)):=run_make_row' _ _ _ 8 Tryz.underlying34 intInfo rfl .i64 .i64 k (by omega) (by omega)
      go_upto_region 15 with (fail)
      clear c0 hmk
      have H:=(H1.alloc (.cells (madeCells #[.int .i64 0] k) 3)).slc_mk (xs:=nums (Qm k)) (n:=k) (size:=1) (by simp [nums,Qm]) (Nat.le_refl _) (by simp [maxLen];omega) (by simp [size_madeCells]) (by rw [toList_madeCells_one];simp [nums,Qm])
      clear H1
      generalize w1.alloc (.cells (madeCells #[.int .i64 0] k) 3)=wb at *
      generalize w1.heap.size=og at *
      have hz:Hid (∀ s,(Qm k).getD s 0=0):=jd (fun s=>by
       unfold Qm
       rw [List.getD_eq_getElem?_getD,List.getElem?_replicate]
       split <;> rfl)
      have hzl:Hid ((Qm k).length=k):=jd (by simp [Qm])
      have hin:Hid (∀ x∈symsF F,∃ s:Nat,x=s∧s<k):=jd (fun x hx=>by
       obtain ⟨s,rfl,h1,_⟩:=(syms_mem F x).1 hx
       exact ⟨s,rfl,by have:=hFl.out;omega⟩)
      have hRl:k=RL:=by rw [← hRL.out,← e2.out,lengthsF_length];exact hFl.out.symm
      subst hRl
      by_cases h2:N<2
      ·have hN2:(N:Int)<2:=by omega
       have eR:Hid (bumpF (Qm k) ((symsF F).take N)=R):=jd (by
        rw [List.take_of_length_le (by rw [hsl.out];exact Nat.le_refl _),← e2.out]
        unfold Zz
        rw [if_pos (by rw [hsl.out];exact h2),hFl.out])
       go_wp2_with fail
       go_loopw [69] (fun s69 wx=>∃ j:Nat,s69=.int .i64 j∧j≤N∧Own w wx [slc 3 1 (.slice (some ⟨og,0,none⟩) k k) k (nums (bumpF (Qm k) ((symsF F).take j))),slc 3 1 (.slice a7 N c7) N (nums (symsF F)),blk B (.cells #[.slice va k vc] 34)]) (fun s69 _=>N-(intOf s69).toNat)
       case atStart=>exact ⟨0,by go_num,by omega,by simpa [bumpF] using H⟩
       case round=>
        clear H
        obtain ⟨j,rfl,hj,H⟩:=hrel
        by_cases hlt:j<N
        ·obtain rfl:j=0:=by omega
         obtain ⟨x,hx⟩:=Ql (l:=symsF F) (k:=0) (by have:=hsl.out;omega)
         obtain ⟨z,rfl,hz2⟩:=hin.out x (List.mem_of_getElem? hx)
         have hst:(nums (bumpF (Qm k) ((symsF F).take 0))).set z (.int .i64 1)=nums (bumpF (Qm k) ((symsF F).take (0+1))):=by
          rw [nums_set,bump_take hx]
          unfold bump1
          rw [show (bumpF (Qm k) ((symsF F).take 0))=Qm k from rfl,hz.out]
          rfl
         have HST:=jd hst
         obtain ⟨b7,o7,c7',he,-⟩:=(H.front 1 rfl).rd.some (by rw [Qg,hsl.out];omega)
         cases he
         have c2:=(H.front 1 rfl).rd.cell (Jj hx)
         rw [Nat.add_zero] at c2
         have hjI:(0:Int)<(N:Int):=by omega
         have hzI:(z:Int)<(k:Int):=by omega
         clear hst hx
         go_wp2_with (refine Ja rfl _ _ rfl rfl H (.int .i64 1) rfl (by kernel_rfl) (by omega) rfl ?_;clear H c2;intro w2 H;rw [HST.out] at H)
         go_roundw
         case rel=>exact ⟨0+1,by go_num,by omega,H⟩
         case measure=>simp [intOf];omega
        ·obtain rfl:j=N:=by omega
         have hjI:¬ (j:Int)<(j:Int):=by omega
         rw [eR.out] at H
         go_wp2_with fail
         go_ret2
         refine ⟨_,rfl,_,by rw [e1.out];rfl,?_⟩
         exact ((((H.front 2 rfl).front 2 rfl).drop.drop))
      ·have h3:2≤N:=by omega
       have hN2:¬ (N:Int)<2:=by omega
       obtain ⟨sg,sc,he,-⟩:=(H.front 1 rfl).at (by rw [Qg,hsl.out];omega)
       cases he
       go_upto_if 66 with (fail)
       go_cut [] (fun wx=>Own w wx [slc 3 1 (.slice (some ⟨og,0,none⟩) k k) k (nums (Qm k)),slc 3 1 (.slice (some ⟨sg,0,none⟩) N c7) N (nums (symsF F)),blk B (.cells #[.slice va k vc] 34)])
       case first=>
        go_wp2_with fail
        go_meet
        exact H
       case rest=>
        clear H
        apply_assumption
        refine len_tail22 (n:=k) (F:=F) (syms:=symsF F) (base:=baseF F) (o:=Qm k) (jd (base_law F)) (jd rfl) (jd (by rw [Vb];exact hsl.out)) h3 (by omega) hM1 hM2 hn3 hzl hz hsl (jd (syms_nodup F)) hin (jd (by have:=hp.out;omega)) e1.out (jd ?_) HR (jd ?_) _ _ _ _ _ _ _ _ _ _ _ _ _ _ _ _ _ _ _ _ _ _ _ _ _ _ _ _ _ _ _ _ _ _ _ _ _ _ _ _ _ _ _ _ _ _ _ _ _ _ _ _ _ _ _ _ _ _ _ _ _ _ _ _ _ _ _ _ _ _ _ _ _ _ _ _ _ _ _ _ _ _ _ _ _ _ _ _ _ _ _ _ _ _ _ _ _ _ _ _ _ _ _ _ _ _ _ _ _ _ _ _ _ _ _ _ _ _ _ _ _ _ _ _ _ _ _ _ _ _ _ _ _ _ _ _ _ _ _ _ _ _ _ _ _ hcut
        ·rw [← e2.out]
         unfold Zz
         rw [if_neg (by rw [hsl.out];omega),hsl.out,hFl.out]
        ·intro c hc
         obtain ⟨s,hs,rfl⟩:=List.mem_map.1 hc
         obtain ⟨m,rfl,hm,_⟩:=(syms_mem F s).1 hs
         show F.getD (Int.toNat m) 0≤_
         rw [Int.toNat_natCast,List.getD_eq_getElem?_getD,List.getElem?_eq_getElem hm]
         exact (hFb.out _ (List.getElem_mem _)).2
end Go.Proofs.YthekdeikodppkaaGreatDoor
namespace Go.Proofs
open Go.Shelf Go.RowKit
def Tryz.layRepeat_ren:Go.Shelf.Ren:=⟨fun | 105=>43 | 212=>81 | 99=>82 | 165=>83 | 166=>84 | 170=>85 | 169=>86 | 263=>132 | 264=>133 | 206=>134 | 240=>135 | 241=>136 | 276=>195 | 277=>196 | n=>n,fun | 9=>9 | 3=>3 | 4=>4 | 20=>20 | 0=>0 | 46=>81 | 109=>142 | 5=>5 | 72=>147 | 76=>150 | 51=>228 | 146=>229 | 53=>185 | 148=>231 | 70=>145 | 37=>58 | 75=>149 | 127=>233 | 164=>307 | 80=>39 | n=>n,fun | n=>n⟩
theorem Tryz.layRepeat:Go.Proofs.Lays.n105 Tryz.prog Tryz.layRepeat_ren:={
 mixed:=by kernel_rfl
 f99:=Tryz.func82.trans (congrArg some (by kernel_rfl))
 f105:=Tryz.func43.trans (congrArg some (by kernel_rfl))
 f165:=Tryz.func83.trans (congrArg some (by kernel_rfl))
 f166:=Tryz.func84.trans (congrArg some (by kernel_rfl))
 f169:=Tryz.func86.trans (congrArg some (by kernel_rfl))
 f170:=Tryz.func85.trans (congrArg some (by kernel_rfl))
 f206:=Tryz.func134.trans (congrArg some (by kernel_rfl))
 f212:=Tryz.func81.trans (congrArg some (by kernel_rfl))
 f240:=Tryz.func135.trans (congrArg some (by kernel_rfl))
 f241:=Tryz.func136.trans (congrArg some (by kernel_rfl))
 f263:=Tryz.func132.trans (congrArg some (by kernel_rfl))
 f264:=Tryz.func133.trans (congrArg some (by kernel_rfl))
 f276:=Tryz.func195.trans (congrArg some (by kernel_rfl))
 f277:=Tryz.func196.trans (congrArg some (by kernel_rfl))
 t0:=Tryz.underlying0
 a0:=Tryz.isAgg0
 z0:=Tryz.sizeOf0
 v0:=Tryz.zeroValue0
 t3:=Tryz.underlying3
 a3:=Tryz.isAgg3
 z3:=Tryz.sizeOf3
 v3:=Tryz.zeroValue3
 t4:=Tryz.underlying4
 a4:=Tryz.isAgg4
 z4:=Tryz.sizeOf4
 v4:=Tryz.zeroValue4
 t5:=Tryz.underlying5
 a5:=Tryz.isAgg5
 z5:=Tryz.sizeOf5
 v5:=Tryz.zeroValue5
 t9:=Tryz.underlying9
 a9:=Tryz.isAgg9
 z9:=Tryz.sizeOf9
 v9:=Tryz.zeroValue9
 t20:=Tryz.underlying20
 a20:=Tryz.isAgg20
 z20:=Tryz.sizeOf20
 v20:=Tryz.zeroValue20
 t37:=Tryz.underlying58
 a37:=Tryz.isAgg58
 z37:=Tryz.sizeOf58
 v37:=Tryz.zeroValue58
 t46:=Tryz.underlying81
 a46:=Tryz.isAgg81
 z46:=Tryz.sizeOf81
 v46:=Tryz.zeroValue81
 t51:=Tryz.underlying228
 a51:=Tryz.isAgg228
 z51:=Tryz.sizeOf228
 v51:=Tryz.zeroValue228
 t53:=Tryz.underlying185
 a53:=Tryz.isAgg185
 z53:=Tryz.sizeOf185
 v53:=Tryz.zeroValue185
 t70:=Tryz.underlying145
 a70:=Tryz.isAgg145
 z70:=Tryz.sizeOf145
 v70:=Tryz.zeroValue145
 t72:=Tryz.underlying147
 a72:=Tryz.isAgg147
 z72:=Tryz.sizeOf147
 v72:=Tryz.zeroValue147
 t75:=Tryz.underlying149
 a75:=Tryz.isAgg149
 z75:=Tryz.sizeOf149
 v75:=Tryz.zeroValue149
 t76:=Tryz.underlying150
 a76:=Tryz.isAgg150
 z76:=Tryz.sizeOf150
 v76:=Tryz.zeroValue150
 t109:=Tryz.underlying142
 a109:=Tryz.isAgg142
 z109:=Tryz.sizeOf142
 v109:=Tryz.zeroValue142
 t127:=Tryz.underlying233
 a127:=Tryz.isAgg233
 z127:=Tryz.sizeOf233
 v127:=Tryz.zeroValue233
 t146:=Tryz.underlying229
 a146:=Tryz.isAgg229
 z146:=Tryz.sizeOf229
 v146:=Tryz.zeroValue229
 t148:=Tryz.underlying231
 a148:=Tryz.isAgg231
 z148:=Tryz.sizeOf231
 v148:=Tryz.zeroValue231
 t164:=Tryz.underlying307
 a164:=Tryz.isAgg307
 z164:=Tryz.sizeOf307
 v164:=Tryz.zeroValue307 }
theorem Tryz.extraRepeat:Builder.Extra Tryz.prog Tryz.layRepeat_ren where
 sizeBuilder:=by kernel_rfl
 liesBuilder:=by kernel_rfl
 t5:=Tryz.layRepeat.t5
 a5:=Tryz.layRepeat.a5
 z5:=Tryz.layRepeat.z5
 v5:=Tryz.layRepeat.v5
 infoByte:=by kernel_rfl
 cellsByte:=by kernel_rfl
 sizeByte:=by kernel_rfl
 neB5:=by decide
end Go.Proofs
namespace Go.Proofs.YthekdeikodppkaaGreatDoor
open Go.RowKit
noncomputable section
theorem repeatL_zero:∀ n:Nat,Lib.repeatL [0] n=List.replicate n (0:UInt8)
 | 0=>rfl
 | n+1=>by
  have:=repeatL_zero n
  simp only [Lib.repeatL,List.replicate_succ,List.flatten_cons] at this ⊢
  rw [this];rfl
def prRepeat:Prims:=onPr 43 fun args h=>match args with
 | [.txt [.by [0]],.lit (.int .i64 (.ofNat n))]=>if Nat.ble n 100000 then fNat n fun n=>some (.ok (.txt [.zr n],h)) else none
 | _=>none
theorem prRepeat_ok{F:Funs}:Qc F Tryz.prog prRepeat:=by
 refine Qc.on fun args h v h' hr e w0 w vs H hv=>?_
 split at hr
 rotate_left
 ·cases hr
 rename_i n
 split at hr
 rotate_left
 ·cases hr
 rename_i hn
 rw [fNat_eq] at hr
 cases hr
 obtain ⟨v1,l1,hl1,g1,v2,l2,hl2,g2,g3⟩:=hv
 have e2:v2=.int .i64 (.ofNat n):=g2
 have e1:=g1.2
 have e3:l2=[]:=g3
 subst e2;subst e3;subst hl2
 have hvs:vs=#[v1,.int .i64 (.ofNat n)]:=by apply Array.ext';exact hl1
 subst hvs
 have hs:v1=.string (Qb [0]):=by rw [e1];rfl
 subst hs
 have hn':n≤100000:=by simpa using hn
 have:=Any.strings_Repeat (P:=Tryz.prog) Tryz.layRepeat Tryz.extraRepeat (Qb [0]) n w (by omega) (by simp [Qb,ByteArray.size];omega)
 refine this.mono ?_
 rintro en w' ⟨rfl,hb⟩
 refine ⟨_,rfl,e,Env.le_refl _,⟨⟨trivial,trivial⟩,?_⟩,H.mono hb⟩
 have:(Qb [0]).data.toList=[(0:UInt8)]:=rfl
 rw [this,repeatL_zero]
 simp [den,Ck.den,Qb]
end
end Go.Proofs.YthekdeikodppkaaGreatDoor
namespace Go.Proofs.YthekdeikodppkaaGreatDoor
open Go.RowKit
def sig1F(x:Int):Int:=bits .xor .u32 (bits .xor .u32 (turnF x 6) (turnF x 11)) (turnF x 25)
def sig0F(x:Int):Int:=bits .xor .u32 (bits .xor .u32 (turnF x 2) (turnF x 13)) (turnF x 22)
def chF(e f g:Int):Int:=bits .xor .u32 (bits .and .u32 e f) (bits .and .u32 (bits .xor .u32 4294967295 e) g)
def majF(a b c:Int):Int:=bits .xor .u32 (bits .xor .u32 (bits .and .u32 a b) (bits .and .u32 a c)) (bits .and .u32 b c)
def oneF(v:List Int)(r wd:Int):Int:=IntKind.u32.wrap (IntKind.u32.wrap (IntKind.u32.wrap (IntKind.u32.wrap (v.getD 7 0+sig1F (v.getD 4 0))+chF (v.getD 4 0) (v.getD 5 0) (v.getD 6 0))+r)+wd)
def twoF(v:List Int):Int:=IntKind.u32.wrap (sig0F (v.getD 0 0)+majF (v.getD 0 0) (v.getD 1 0) (v.getD 2 0))
def stepS(v:List Int)(r wd:Int):List Int:=[IntKind.u32.wrap (oneF v r wd+twoF v),v.getD 0 0,v.getD 1 0,v.getD 2 0,IntKind.u32.wrap (v.getD 3 0+oneF v r wd),v.getD 4 0,v.getD 5 0,v.getD 6 0]
def rndsF(h W:List Int):Nat→List Int
 | 0=>h
 | k+1=>stepS (rndsF h W k) (roundF k) (W.getD k 0)
theorem rnds_length{h:List Int}(hl:h.length=8)(W:List Int):∀ k,(rndsF h W k).length=8:=by
 intro k
 cases k with
 | zero=>exact hl
 | succ k=>rfl
def plusF(h v:List Int):Nat→List Int
 | 0=>h
 | k+1=>(plusF h v k).set k (IntKind.u32.wrap ((plusF h v k).getD k 0+v.getD k 0))
theorem plus_length{h:List Int}(hl:h.length=8)(v:List Int):∀ k,(plusF h v k).length=8:=by
 intro k
 induction k with
 | zero=>exact hl
 | succ k ih=>rw [plusF,List.length_set,ih]
def mixF(h b:List Int):List Int:=plusF h (rndsF h (wordsF b) 64) 8
theorem mix_length{h:List Int}(hl:h.length=8)(b:List Int):(mixF h b).length=8:=plus_length hl _ 8
theorem w8Info(cs:List Int)(h:cs.length=8):(Tryz.prog.info? 239).map (·.size)=some (wds cs).toArray.size:=by
 rw [List.size_toArray,Qi,h]
 kernel_rfl
theorem eight{l:List Int}(h:l.length=8):l=[l.getD 0 0,l.getD 1 0,l.getD 2 0,l.getD 3 0,l.getD 4 0,l.getD 5 0,l.getD 6 0,l.getD 7 0]:=by
 match l,h with
 | [a,b,c,d,e,f,g,i],_=>rfl
section
variable {w0 w:World} {ps:List Piece} {ops:Array Oper} {rest:List Oper} {o:Oper} {a:Act} {Q:Exit→Act→World→Prop}
theorem wpList_load8(hgd:o.guard=none)(x:Operand)(ho:o.op=.load 239 x){g:Nat}(hx:a.eval x=.pointer (some ⟨g,0,none⟩)){cs:List Int}(hl:cs.length=8)(H:Own w0 w (blk g (.cells (wds cs).toArray 239)::ps))
 (h:wpList Tryz.prog ops Q rest (a.put o.dst (.agg (wds cs).toArray)) w):wpList Tryz.prog ops Q (o::rest) a w:=
 wpList_load_row hgd 239 x ho g hx 239 (wds cs).toArray (0,0) _ H.block.1 Tryz.underlying239 rfl (w8Info cs hl) h
theorem wpList_store8(hgd:o.guard=none)(x y:Operand)(ho:o.op=.store 239 x y){g:Nat}(hx:a.eval x=.pointer (some ⟨g,0,none⟩)){cs ds:List Int}(hl:cs.length=8)(hd:ds.length=8)
 (H:Own w0 w (blk g (.cells (wds cs).toArray 239)::ps)) (hv:a.eval y=.agg (wds ds).toArray)
 (h:∀ w',Own w0 w' (blk g (.cells (wds ds).toArray 239)::ps)→wpList Tryz.prog ops Q rest (a.put o.dst undef) w'):wpList Tryz.prog ops Q (o::rest) a w:=
 Qe hgd x y ho hx H hv (by have:=w8Info ds hd;rw [List.size_toArray] at this;exact this) (by rw [List.size_toArray,Qi,Qi,hl,hd];omega) (wds_one ds) (shstore_whole _ _ (by rw [Qi,Qi,hl,hd])) h
theorem wpList_copy8(hgd:o.guard=none)(d s:Operand)(ho:o.op=.call { callee:=.builtin .copy,args:=#[d,s],argTypes:=#[318,318] }){g:Nat}{l:List Int}(hl:l.length=8)
 (H:Own w0 w (blk g (.cells (wds l).toArray 239)::ps)) {c1 c2:Nat} (hd:a.eval d=.slice (some ⟨g,1,none⟩) 7 c1) (hs:a.eval s=.slice (some ⟨g,0,none⟩) 7 c2)
 (h:∀ w',Own w0 w' (blk g (.cells (wds (l.take 1++l.take 7)).toArray 239)::ps)→wpList Tryz.prog ops Q rest (a.put o.dst (.int .i64 7)) w'):wpList Tryz.prog ops Q (o::rest) a w:=by
 refine wpList_copy_own (cs:=wds (l.take 7)) hgd d s _ _ ho 228 Tryz.underlying318 (by kernel_rfl) g 1 7 c1 ⟨g,0,none⟩ 7 c2 hd hs (wds l).toArray 239 H.block.1 (by rw [Qi,List.length_take,hl];rfl)
  (fun j v hv=>?_) (by rw [List.size_toArray,Qi,Qi,List.length_take,hl];decide) (wds_one _) ?_
 ·have hj:j<7:=by
   have:=(gJ hv).1
   rw [Qi,List.length_take] at this
   omega
  rw [show (⟨g,0,none⟩:Addr).add j=⟨g,j,none⟩ from by rcases j with _ | j <;> simp [Addr.add],H.cells,← hv,List.getElem?_toArray,wds,wds,List.getElem?_map,List.getElem?_map,List.getElem?_take_of_lt hj]
 ·have e:((wds (l.take 7)).length:Int)=7:=by rw [Qi,List.length_take,hl];rfl
  have e2:((wds l).toArray.toList.take 1++(wds (l.take 7)++(wds l).toArray.toList.drop (1+(wds (l.take 7)).length))).toArray=(wds (l.take 1++l.take 7)).toArray:=by
   have h8:(wds l).drop (1+(wds (l.take 7)).length)=[]:=by
    rw [List.drop_eq_nil_iff,Qi,Qi,List.length_take,hl];decide
   rw [List.toList_toArray,h8,List.append_nil];simp only [wds,List.map_append,List.map_take]
  rw [e2]
  unfold goInt
  rw [e]
  exact h _ H.setRow
end
theorem run_index_wds{P:Program}(t e:TypeId)(n:Nat)(cs:Array Value)(i:Nat)(v:Int)(w:World)(h:P.underlying t=some (.array n e))(hsz:∀ w,(sizeOf e).run P w=.ok 1 w)(hag:∀ w,(isAgg e).run P w=.ok false w)(hi:i<n)(hv:cs[i]?=some (.int .u32 v)) :
 (Instr.index t (.agg cs) (.int .i64 i)).run P w=.ok (.int .u32 v) w:=by
 have hn:(0:Int)≤(i:Int)∧(i:Int)<(n:Int):=by omega
 simp [Instr.index,run_underlying h,asIntOf,hn,go_sem]
 rw [if_pos hi]
 simp [hsz,hag,hv,Result.andThen]
theorem u32_one(w:World):(sizeOf 228).run Tryz.prog w=.ok 1 w∧(isAgg 228).run Tryz.prog w=.ok false w:=by
 constructor <;> go_simp
def bn(s:ByteArray):List Int:=s.data.toList.map fun b=>(b.toNat:Int)
theorem Qu(s:ByteArray):(bn s).length=s.size:=by rw [bn,List.length_map,Array.length_toList];rfl
theorem bn_cells(s:ByteArray):Lib.byteCells s.data.toList=(bn s).map (.int .u8):=by simp [Lib.byteCells,bn]
def feedF(h l:List Int):List Int × List Int:=
 if _h:64≤l.length then feedF (mixF h (l.take 64)) (l.drop 64) else (h,l)
termination_by l.length
decreasing_by simp only [List.length_drop];omega
theorem feed_less{h l:List Int}(hl:l.length<64):feedF h l=(h,l):=by rw [feedF,dif_neg (by omega)]
theorem feed_more{h l:List Int}(hl:64≤l.length):feedF h l=feedF (mixF h (l.take 64)) (l.drop 64):=by rw [feedF,dif_pos hl]
theorem feed_ok:∀ (d:Nat) (h l:List Int),l.length≤d→h.length=8→(feedF h l).1.length=8∧(feedF h l).2.length<64:=by
 intro d
 induction d with
 | zero=>
  intro h l hd hh
  rw [feed_less (by omega)]
  exact ⟨hh,by show l.length<64;omega⟩
 | succ d ih=>
  intro h l hd hh
  by_cases hl:64≤l.length
  ·rw [feed_more hl]
   exact ih _ _ (by rw [List.length_drop];omega) (mix_length hh _)
  ·rw [feed_less (by omega)]
   exact ⟨hh,by show l.length<64;omega⟩
theorem feed_append:∀ (d:Nat) (h l t:List Int),l.length≤d→feedF (feedF h l).1 ((feedF h l).2++t)=feedF h (l++t):=by
 intro d
 induction d with
 | zero=>
  intro h l t hd
  rw [feed_less (h:=h) (l:=l) (by omega)]
 | succ d ih=>
  intro h l t hd
  by_cases hl:64≤l.length
  ·rw [feed_more hl,ih _ _ _ (by rw [List.length_drop];omega),feed_more (h:=h) (l:=l++t) (by rw [lJ];omega),List.take_append_of_le_length hl,List.drop_append_of_le_length hl]
  ·rw [feed_less (h:=h) (l:=l) (by omega)]
def sh0:List Int:=[1779033703,3144134277,1013904242,2773480762,1359893119,2600822924,528734635,1541459225]
def shZerosF(m:Nat):Nat:=(120-m%64)%64
def lenByte(n:Nat)(i:Nat):Int:=IntKind.u8.wrap ((n:Int)*8/2^(56-8*i))
def lenF(n:Nat):Nat→List Int
 | 0=>[]
 | k+1=>lenF n k++[lenByte n k]
theorem lenF_length(n:Nat):∀ k,(lenF n k).length=k
 | 0=>rfl
 | k+1=>by rw [lenF,lJ,lenF_length n k];rfl
def tailF(l:List Int)(n:Nat):List Int:=l++[128]++List.replicate (shZerosF (l.length+1)) 0++lenF n 8
theorem tail_64(l:List Int)(n:Nat):(tailF l n).length%64=0:=by
 simp only [tailF,lJ,List.length_replicate,lenF_length,List.length_cons,List.length_nil,shZerosF]
 omega
def allF(h l:List Int):List Int:=
 if _h:0<l.length then allF (mixF h (l.take 64)) (l.drop 64) else h
termination_by l.length
decreasing_by simp only [List.length_drop];omega
theorem all_nil{h l:List Int}(hl:l=[]):allF h l=h:=by rw [allF,dif_neg (by rw [hl];simp)]
theorem all_more{h l:List Int}(hl:0<l.length):allF h l=allF (mixF h (l.take 64)) (l.drop 64):=by rw [allF,dif_pos hl]
theorem all_length:∀ (d:Nat) (h l:List Int),l.length≤d→h.length=8→(allF h l).length=8:=by
 intro d
 induction d with
 | zero=>
  intro h l hd hh
  rw [all_nil (eJ (by omega))];exact hh
 | succ d ih=>
  intro h l hd hh
  by_cases hl:0<l.length
  ·rw [all_more hl]
   exact ih _ _ (by rw [List.length_drop];omega) (mix_length hh _)
  ·rw [all_nil (eJ (by omega))];exact hh
def bytes4(x:Int):List Int:=[IntKind.u8.wrap (x/16777216),IntKind.u8.wrap (x/65536),IntKind.u8.wrap (x/256),IntKind.u8.wrap x]
def shOutF(v:List Int):Nat→List Int
 | 0=>[]
 | k+1=>shOutF v k++bytes4 (v.getD k 0)
theorem outF_length(v:List Int):∀ k,(shOutF v k).length=4*k
 | 0=>rfl
 | k+1=>by rw [shOutF,lJ,outF_length v k];simp [bytes4];omega
def shaL(t:List Int):List Int:=shOutF (allF (feedF sh0 t).1 (tailF (feedF sh0 t).2 t.length)) 8
def shaF(t:List Int):ByteArray:=strOfNums (shaL t)
theorem shaL_length(t:List Int):(shaL t).length=32:=outF_length _ 8
theorem shaF_size(t:List Int):(shaF t).size=32:=by rw [shaF,strOfNums_size,shaL_length]
def z8:List Int:=List.replicate 8 0
theorem z8_length:z8.length=8:=rfl
set_option maxRecDepth 100000 in
set_option maxHeartbeats 25600000 in
theorem shmix_any{w:World}{sv:Value}{h b:List Int}(hh:h.length=8)(hb:b.length=64)(hr:Rd w 1 sv 64 (b.map (.int .u8))):Calls Tryz.prog 139 #[.agg (wds h).toArray,sv] w (fun r w'=>r=.returned (.agg (wds (mixF h b)).toArray)∧Own w w' []):=by
 have HR:=jd hr
 clear hr
 obtain ⟨MX,hMX⟩:∃ M,Hid (mixF h b=M):=⟨_,rfl⟩
 rw [hMX.out]
 have H:=(Own.start w).alloc2 (.cells (wds h).toArray 239) (.cells #[.int .u32 0,.int .u32 0,.int .u32 0,.int .u32 0,.int .u32 0,.int .u32 0,.int .u32 0,.int .u32 0] 239)
 obtain ⟨v0,hv0⟩:∃ v0,Hid (h=v0):=⟨_,rfl⟩
 have HV0:=hh
 rw [hv0.out] at HV0
 obtain ⟨W,hW⟩:∃ W,Hid (wordsF b=W):=⟨_,rfl⟩
 have hWl:W.length=64:=by rw [← hW.out];exact w2F_length b 48
 have HWG:Hid (∀ i,i<64→(wds W).toArray[i]?=some (.int .u32 (W.getD i 0))):=jd fun i hi=>wds_get (by omega)
 have HWC:Hid (∀ (w':World) (qs:List Piece),Own w w' qs→Calls Tryz.prog 199 #[sv] w' (fun r w''=>r=.returned (.agg (wds W).toArray)∧Own w w'' qs)):=jd fun w' qs H=>by
  have:=shwords_any hb (HR.out.old H.bare)
  rw [hW.out] at this
  exact this.mono fun e w'' h2=>⟨h2.1,H.join h2.2⟩
 go_enter Tryz.func139,Tryz.ntmps139
 go_upto_region 1 with (fail)
 generalize (w.alloc _).alloc _=w1 at *
 obtain ⟨gz,hgz⟩:∃ g,w.heap.size+1=g:=⟨_,rfl⟩
 rw [hgz] at H ⊢
 generalize w.heap.size=gh at *
 clear hgz
 replace H:Own w w1 (blk gz (.cells (wds z8).toArray 239)::blk gh (.cells (wds h).toArray 239)::[]):=H
 go_upto_region 2 with (first
  | (refine wpList_load8 rfl _ rfl rfl hh H.swap ?_)
  | (refine wpList_store8 rfl _ _ rfl rfl z8_length hh (H.alloc (.cells #[.int .u32 0,.int .u32 0,.int .u32 0,.int .u32 0,.int .u32 0,.int .u32 0,.int .u32 0,.int .u32 0] 239)) rfl ?_;clear H;intro w2 H))
 generalize w1.heap.size=gv at *
 rw [hv0.out] at H
 replace H:Own w w2 (blk gv (.cells (wds (rndsF v0 W 0)).toArray 239)::blk gz (.cells (wds z8).toArray 239)::blk gh (.cells (wds v0).toArray 239)::[]):=H
 go_wp2_with fail
 refine (HWC.out _ _ H).mono ?_
 rintro _ w3 ⟨rfl,H3⟩
 clear H HWC
 have H:=H3
 clear H3
 go_wp2_with fail
 go_loopw [6,7,8,9,10,11,16] (fun _ _ _ _ _ _ v16 wx=>∃ (i:Nat),v16=.int .i64 i∧i≤64∧Own w wx (blk gv (.cells (wds (rndsF v0 W i)).toArray 239)::blk gz (.cells (wds z8).toArray 239)::blk gh (.cells (wds v0).toArray 239)::[])) (fun _ _ _ _ _ _ v16 _=>64-(intOf v16).toNat)
 case atStart=>exact ⟨0,by go_num,by omega,H⟩
 case round=>
  clear H
  obtain ⟨i,rfl,hi,H⟩:=hrel
  by_cases hi64:i<64
  ·obtain ⟨v,hv⟩:∃ v,Hid (rndsF v0 W i=v):=⟨_,rfl⟩
   have hvl:v.length=8:=by rw [← hv.out];exact rnds_length HV0 W i
   obtain ⟨wi,hwi⟩:∃ x,Hid (W.getD i 0=x):=⟨_,rfl⟩
   have hnx:Hid (rndsF v0 W (i+1)=stepS v (roundF i) wi):=jd (by rw [rndsF,hv.out,hwi.out])
   rw [hv.out] at H
   have hiI:(i:Int)<64:=by omega
   have hix:∀ w,(Instr.index 314 (.agg (wds W).toArray) (.int .i64 i)).run Tryz.prog w=.ok (.int .u32 wi) w:=fun w=>run_index_wds _ _ 64 _ i _ w Tryz.underlying314 (fun w=>(u32_one w).1) (fun w=>(u32_one w).2) hi64 (by rw [← hwi.out];exact HWG.out i hi64)
   obtain ⟨a0,a1,a2,a3,a4,a5,a6,a7,rfl⟩:∃ a0 a1 a2 a3 a4 a5 a6 a7,v=[a0,a1,a2,a3,a4,a5,a6,a7]:=⟨_,_,_,_,_,_,_,_,eight hvl⟩
   clear hvl
   have HC:Hid (∀ (w':World) (qs:List Piece),Own w w' (blk gv (.cells (wds [a0,a1,a2,a3,a4,a5,a6,a7]).toArray 239)::qs)→w'.cell? ⟨gv,0,none⟩=some (.int .u32 a0)∧w'.cell? ⟨gv,1,none⟩=some (.int .u32 a1)∧w'.cell? ⟨gv,2,none⟩=some (.int .u32 a2)∧w'.cell? ⟨gv,3,none⟩=some (.int .u32 a3)∧w'.cell? ⟨gv,4,none⟩=some (.int .u32 a4)∧w'.cell? ⟨gv,5,none⟩=some (.int .u32 a5)∧w'.cell? ⟨gv,6,none⟩=some (.int .u32 a6)∧w'.cell? ⟨gv,7,none⟩=some (.int .u32 a7)):=jd fun w' qs h=>⟨by rw [h.cells];rfl,by rw [h.cells];rfl,by rw [h.cells];rfl,by rw [h.cells];rfl,by rw [h.cells];rfl,by rw [h.cells];rfl,by rw [h.cells];rfl,by rw [h.cells];rfl⟩
   obtain ⟨rr,hrr⟩:∃ x,Hid (roundF i=x):=⟨_,rfl⟩
   rw [hrr.out] at hnx
   obtain ⟨O,hO⟩:∃ x,Hid (oneF [a0,a1,a2,a3,a4,a5,a6,a7] rr wi=x):=⟨_,rfl⟩
   obtain ⟨T2,hT2⟩:∃ x,Hid (twoF [a0,a1,a2,a3,a4,a5,a6,a7]=x):=⟨_,rfl⟩
   have hnx2:Hid (stepS [a0,a1,a2,a3,a4,a5,a6,a7] rr wi=[IntKind.u32.wrap (O+T2),a0,a1,a2,IntKind.u32.wrap (a3+O),a4,a5,a6]):=jd (by rw [stepS,hO.out,hT2.out];rfl)
   have T:Hid (∀ (m:Nat) (x:Int) (wx:World) (qs:List Piece),1≤m∧m≤31→Own w wx qs→Calls Tryz.prog 200 #[.int .u32 x,.int .i64 m] wx (fun r w'=>r=.returned (.int .u32 (turnF x m))∧Own w w' qs)):=jd fun m x wx qs hm h=>(shturn_any x m hm wx).mono fun e w' h2=>⟨h2.1,h.join h2.2⟩
   have R:Hid (∀ (wx:World) (qs:List Piece),Own w wx qs→Calls Tryz.prog 201 #[.int .i64 i] wx (fun r w'=>r=.returned (.int .u32 rr)∧Own w w' qs)):=jd fun wx qs h=>(shround_any i hi64 wx).mono fun e w' h2=>⟨by rw [← hrr.out];exact h2.1,h.join h2.2⟩
   go_upto_region 5 with (fail)
   refine Qa (fun wx=>Own w wx (blk gv (.cells (wds [a0,a1,a2,a3,a4,a5,a6,a7]).toArray 239)::blk gz (.cells (wds z8).toArray 239)::blk gh (.cells (wds v0).toArray 239)::[])) 5 (by kernel_rfl) (by kernel_rfl) H.drew ?_
   simp only [List.take_succ_cons,List.take_zero,List.drop_succ_cons,List.drop_zero]
   repeat
    first
    | (refine calm_value (v:=?_) (by decide) rfl (fun σ w1 hS=>?_) ?_
       rotate_left
       ·obtain ⟨c0,c1,c2,c3,c4,c5,c6,c7⟩:=HC.out _ _ hS
        first | (go_simp;rfl) | rfl
       simp only [Act.put,putC])
    | (refine calm_skip (by decide) rfl ?_
       simp only [Act.put,putC])
   refine calm_nil ?_
   intro wd HD
   clear H
   go_upto_region 6 with (fail)
   refine Qa (fun wx=>Own w wx (blk gv (.cells (wds [a0,a1,a2,a3,a4,a5,a6,a7]).toArray 239)::blk gz (.cells (wds z8).toArray 239)::blk gh (.cells (wds v0).toArray 239)::[])) 27 (by kernel_rfl) (by kernel_rfl) HD.drew ?_
   simp only [List.take_succ_cons,List.take_zero,List.drop_succ_cons,List.drop_zero]
   repeat
    first
    | (refine calm_value (v:=?_) (by decide) rfl (fun σ w1 hS=>?_) ?_
       rotate_left
       ·obtain ⟨c0,c1,c2,c3,c4,c5,c6,c7⟩:=HC.out _ _ hS
        first | (go_simp;rfl) | rfl
       simp only [Act.put,putC])
    | (refine calm_skip (by decide) rfl ?_
       simp only [Act.put,putC])
   refine calm_call (v:=.int .u32 (turnF a4 6)) (by decide) rfl (fun w1=>(by go_simp)) (fun σ w1 hS=>T.out 6 a4 w1 _ (by omega) hS) ?_
   simp only [Act.put,putC]
   repeat
    first
    | (refine calm_value (v:=?_) (by decide) rfl (fun σ w1 hS=>?_) ?_
       rotate_left
       ·obtain ⟨c0,c1,c2,c3,c4,c5,c6,c7⟩:=HC.out _ _ hS
        first | (go_simp;rfl) | rfl
       simp only [Act.put,putC])
    | (refine calm_skip (by decide) rfl ?_
       simp only [Act.put,putC])
   refine calm_call (v:=.int .u32 (turnF a4 11)) (by decide) rfl (fun w1=>(by go_simp)) (fun σ w1 hS=>T.out 11 a4 w1 _ (by omega) hS) ?_
   simp only [Act.put,putC]
   repeat
    first
    | (refine calm_value (v:=?_) (by decide) rfl (fun σ w1 hS=>?_) ?_
       rotate_left
       ·obtain ⟨c0,c1,c2,c3,c4,c5,c6,c7⟩:=HC.out _ _ hS
        first | (go_simp;rfl) | rfl
       simp only [Act.put,putC])
    | (refine calm_skip (by decide) rfl ?_
       simp only [Act.put,putC])
   refine calm_call (v:=.int .u32 (turnF a4 25)) (by decide) rfl (fun w1=>(by go_simp)) (fun σ w1 hS=>T.out 25 a4 w1 _ (by omega) hS) ?_
   simp only [Act.put,putC]
   repeat
    first
    | (refine calm_value (v:=?_) (by decide) rfl (fun σ w1 hS=>?_) ?_
       rotate_left
       ·obtain ⟨c0,c1,c2,c3,c4,c5,c6,c7⟩:=HC.out _ _ hS
        first | (go_simp;rfl) | rfl
       simp only [Act.put,putC])
    | (refine calm_skip (by decide) rfl ?_
       simp only [Act.put,putC])
   refine calm_call (v:=.int .u32 rr) (by decide) rfl (fun w1=>(by go_simp)) (fun σ w1 hS=>R.out w1 _ hS) ?_
   simp only [Act.put,putC]
   repeat
    first
    | (refine calm_value (v:=?_) (by decide) rfl (fun σ w1 hS=>?_) ?_
       rotate_left
       ·obtain ⟨c0,c1,c2,c3,c4,c5,c6,c7⟩:=HC.out _ _ hS
        first | (go_simp;rfl) | rfl
       simp only [Act.put,putC])
    | (refine calm_skip (by decide) rfl ?_
       simp only [Act.put,putC])
   refine calm_nil ?_
   intro we HE
   clear HD
   rw [show IntKind.u32.wrap (IntKind.u32.wrap (IntKind.u32.wrap (IntKind.u32.wrap (a7+bits .xor .u32 (bits .xor .u32 (turnF a4 6) (turnF a4 11)) (turnF a4 25))+bits .xor .u32 (bits .and .u32 a4 a5) (bits .and .u32 (bits .xor .u32 (if IntKind.u32.signed=true then -1 else IntKind.u32.max) a4) a6))+rr)+wi)=O from hO.out]
   go_upto_region 7 with (fail)
   refine Qa (fun wx=>Own w wx (blk gv (.cells (wds [a0,a1,a2,a3,a4,a5,a6,a7]).toArray 239)::blk gz (.cells (wds z8).toArray 239)::blk gh (.cells (wds v0).toArray 239)::[])) 24 (by kernel_rfl) (by kernel_rfl) HE.drew ?_
   simp only [List.take_succ_cons,List.take_zero,List.drop_succ_cons,List.drop_zero]
   repeat
    first
    | (refine calm_value (v:=?_) (by decide) rfl (fun σ w1 hS=>?_) ?_
       rotate_left
       ·obtain ⟨c0,c1,c2,c3,c4,c5,c6,c7⟩:=HC.out _ _ hS
        first | (go_simp;rfl) | rfl
       simp only [Act.put,putC])
    | (refine calm_skip (by decide) rfl ?_
       simp only [Act.put,putC])
   refine calm_call (v:=.int .u32 (turnF a0 2)) (by decide) rfl (fun w1=>(by go_simp)) (fun σ w1 hS=>T.out 2 a0 w1 _ (by omega) hS) ?_
   simp only [Act.put,putC]
   repeat
    first
    | (refine calm_value (v:=?_) (by decide) rfl (fun σ w1 hS=>?_) ?_
       rotate_left
       ·obtain ⟨c0,c1,c2,c3,c4,c5,c6,c7⟩:=HC.out _ _ hS
        first | (go_simp;rfl) | rfl
       simp only [Act.put,putC])
    | (refine calm_skip (by decide) rfl ?_
       simp only [Act.put,putC])
   refine calm_call (v:=.int .u32 (turnF a0 13)) (by decide) rfl (fun w1=>(by go_simp)) (fun σ w1 hS=>T.out 13 a0 w1 _ (by omega) hS) ?_
   simp only [Act.put,putC]
   repeat
    first
    | (refine calm_value (v:=?_) (by decide) rfl (fun σ w1 hS=>?_) ?_
       rotate_left
       ·obtain ⟨c0,c1,c2,c3,c4,c5,c6,c7⟩:=HC.out _ _ hS
        first | (go_simp;rfl) | rfl
       simp only [Act.put,putC])
    | (refine calm_skip (by decide) rfl ?_
       simp only [Act.put,putC])
   refine calm_call (v:=.int .u32 (turnF a0 22)) (by decide) rfl (fun w1=>(by go_simp)) (fun σ w1 hS=>T.out 22 a0 w1 _ (by omega) hS) ?_
   simp only [Act.put,putC]
   repeat
    first
    | (refine calm_value (v:=?_) (by decide) rfl (fun σ w1 hS=>?_) ?_
       rotate_left
       ·obtain ⟨c0,c1,c2,c3,c4,c5,c6,c7⟩:=HC.out _ _ hS
        first | (go_simp;rfl) | rfl
       simp only [Act.put,putC])
    | (refine calm_skip (by decide) rfl ?_
       simp only [Act.put,putC])
   refine calm_nil ?_
   intro wf HF
   clear HE
   rw [show IntKind.u32.wrap (bits .xor .u32 (bits .xor .u32 (turnF a0 2) (turnF a0 13)) (turnF a0 22)+bits .xor .u32 (bits .xor .u32 (bits .and .u32 a0 a1) (bits .and .u32 a0 a2)) (bits .and .u32 a1 a2))=T2 from hT2.out]
   go_upto_region 8 with (fail)
   refine Qa (fun wx=>Own w wx (blk gv (.cells (wds [a0,a1,a2,a3,a4,a5,a6,a7]).toArray 239)::blk gz (.cells (wds z8).toArray 239)::blk gh (.cells (wds v0).toArray 239)::[])) 2 (by kernel_rfl) (by kernel_rfl) HF.drew ?_
   simp only [List.take_succ_cons,List.take_zero,List.drop_succ_cons,List.drop_zero]
   repeat
    first
    | (refine calm_value (v:=?_) (by decide) rfl (fun σ w1 hS=>?_) ?_
       rotate_left
       ·obtain ⟨c0,c1,c2,c3,c4,c5,c6,c7⟩:=HC.out _ _ hS
        first | (go_simp;rfl) | rfl
       simp only [Act.put,putC])
    | (refine calm_skip (by decide) rfl ?_
       simp only [Act.put,putC])
   refine calm_nil ?_
   intro wg HG
   clear HF
   refine wpList_copy8 rfl _ _ rfl (l:=[a0,a1,a2,a3,a4,a5,a6,a7]) rfl HG rfl rfl ?_
   clear HG
   intro wk HG
   simp only [Act.put,putC]
   replace HG:Own w wk (blk gv (.cells (wds [a0,a0,a1,a2,a3,a4,a5,a6]).toArray 239)::blk gz (.cells (wds z8).toArray 239)::blk gh (.cells (wds v0).toArray 239)::[]):=HG
   have c4:wk.cell? ⟨gv,4,none⟩=some (.int .u32 a3):=by rw [HG.cells];rfl
   refine wpList_nil ?_
   go_upto_region 10 with (refine Qh rfl _ _ rfl rfl HG rfl (by kernel_rfl) (by simp [wds]) ?_;clear HG c4;intro wk2 HG;rw [wds_set] at HG)
   go_wp2_with (refine Qh rfl _ _ rfl rfl HG rfl (by kernel_rfl) (by simp [wds]) ?_;clear HG;intro wk3 HG;rw [wds_set] at HG)
   go_roundw
   case rel=>exact ⟨i+1,by go_num,by omega,by rw [hnx.out,hnx2.out];exact HG⟩
   case measure=>simp [intOf];omega
  ·obtain rfl:i=64:=by omega
   have hnI:¬ ((64:Nat):Int)<64:=by omega
   obtain ⟨vf,hvf⟩:∃ x,Hid (rndsF v0 W 64=x):=⟨_,rfl⟩
   have hvl:vf.length=8:=by rw [← hvf.out];exact rnds_length HV0 W 64
   rw [hvf.out] at H
   go_upto_region 12 with (fail)
   have hFIN:Hid (plusF v0 vf 8=MX):=jd (by rw [← hvf.out,← hW.out,← hMX.out,← hv0.out];rfl)
   clear hvf hi hi64 hW hWl HWG
   replace H:Own w wr (blk gv (.cells (wds vf).toArray 239)::blk gz (.cells (wds z8).toArray 239)::blk gh (.cells (wds (plusF v0 vf 0)).toArray 239)::[]):=H
   go_wp2_with fail
   go_loopw [12,88] (fun _ v88 wx=>∃ (j:Nat),v88=.int .i64 j∧j≤8∧Own w wx (blk gv (.cells (wds vf).toArray 239)::blk gz (.cells (wds z8).toArray 239)::blk gh (.cells (wds (plusF v0 vf j)).toArray 239)::[])) (fun _ v88 _=>8-(intOf v88).toNat)
   case atStart=>exact ⟨0,by go_num,by omega,H⟩
   case round=>
    clear H
    obtain ⟨j,rfl,hj,H⟩:=hrel
    by_cases hj8:j<8
    ·obtain ⟨P,hP⟩:∃ x,Hid (plusF v0 vf j=x):=⟨_,rfl⟩
     have hPl:Hid (P.length=8):=jd (by rw [← hP.out];exact plus_length HV0 vf j)
     have hjI:(j:Int)<8:=by omega
     obtain ⟨x,hx⟩:∃ x,Hid (P.getD j 0=x):=⟨_,rfl⟩
     obtain ⟨y,hy⟩:∃ x,Hid (vf.getD j 0=x):=⟨_,rfl⟩
     have hnx:Hid (plusF v0 vf (j+1)=P.set j (IntKind.u32.wrap (x+y))):=jd (by rw [plusF,hP.out,hx.out,hy.out])
     rw [hP.out] at H
     have HC:Hid (∀ (w':World),Own w w' (blk gv (.cells (wds vf).toArray 239)::blk gz (.cells (wds z8).toArray 239)::blk gh (.cells (wds P).toArray 239)::[])→w'.cell? ⟨gv,j,none⟩=some (.int .u32 y)∧w'.cell? ⟨gh,j,none⟩=some (.int .u32 x)):=jd fun w' h=>⟨by rw [h.cells,wds_get (by omega),hy.out],by rw [(h.front 2 rfl).cells,wds_get (by rw [hPl.out];omega),hx.out]⟩
     go_upto_region 15 with (fail)
     refine Qa (fun wx=>Own w wx (blk gv (.cells (wds vf).toArray 239)::blk gz (.cells (wds z8).toArray 239)::blk gh (.cells (wds P).toArray 239)::[])) 8 (by kernel_rfl) (by kernel_rfl) H.drew ?_
     simp only [List.take_succ_cons,List.take_zero,List.drop_succ_cons,List.drop_zero]
     repeat
      first
      | (refine calm_value (v:=?_) (by decide) rfl (fun σ w1 hS=>?_) ?_
         rotate_left
         ·obtain ⟨c0,c1⟩:=HC.out _ hS
          first | (go_simp;rfl) | rfl
         simp only [Act.put,putC])
      | (refine calm_skip (by decide) rfl ?_
         simp only [Act.put,putC])
     refine calm_nil ?_
     intro wd HD
     clear H
     have HE:=HD.front 2 rfl
     go_wp2_with (refine Qh rfl _ _ rfl rfl HE rfl (by kernel_rfl) (by simp [wds,hPl.out];omega) ?_;clear HE HD;intro w7 HE;rw [wds_set] at HE)
     go_roundw
     case rel=>exact ⟨j+1,by go_num,by omega,by rw [hnx.out];exact ((HE.front 2 rfl).front 2 rfl)⟩
     case measure=>simp [intOf];omega
    ·obtain rfl:j=8:=by omega
     have hnI:¬ ((8:Nat):Int)<8:=by omega
     have hMl:MX.length=8:=by rw [← hMX.out];exact mix_length hh b
     have hfin:Hid (plusF v0 vf 8=MX):=hFIN
     rw [hfin.out] at H
     clear hj hj8 hfin
     go_upto_region 17 with (fail)
     refine wp_region_list ?_
     refine wpList_load8 rfl _ rfl rfl hMl (H.front 2 rfl) ?_
     simp only [Act.put,putC]
     refine wpList_store8 rfl _ _ rfl rfl z8_length hMl (H.front 1 rfl) rfl ?_
     clear H
     intro w9 H
     refine wpList_nil ?_
     simp only [Act.put]
     refine (show ∀ (a:Act) (w:World),Code.wp Tryz.prog Code.ret _ a w→_ by assumption) _ _ ?_
     refine wp_ret ?_
     have hl9:(loadVar 239 ⟨gz,0,none⟩).run Tryz.prog w9=.ok (.agg (wds MX).toArray) w9:=run_loadVar_row w9 gz _ _ _ _ _ H.block.1 Tryz.underlying239 rfl (w8Info MX hMl)
     refine bodyPost_ret (v:=.agg (wds MX).toArray) (res_cell1 (p:=4) (ty:=239) rfl _ _ gz _ rfl hl9) rfl ?_
     exact ⟨rfl,H.bare⟩
def symsN(l:List Int)(n k:Nat):List Nat:=(List.range k).filter fun s=>decide (l.getD s 0=(n:Int))
def symsL(l:List Int)(n:Nat):List Nat:=symsN l n l.length
def tsymsN(l:List Int):Nat→List Nat
 | 0=>[]
 | n+1=>tsymsN l n++symsL l (n+1)
def tsymsF(l:List Int):List Nat:=tsymsN l 15
section
variable {l:List Int}
def atF(l:List Int):Nat→Int
 | 0=>0
 | n+1=>atF l n+cntC l n
def decN(l:List Int):Nat→Nat→Int→List Bool→Int × Int × Nat
 | 0,_,_,_=>(0,2,0)
 | _+1,_,_,[]=>(0,2,0)
 | f+1,n,c,b::t=>match (symsL l (n+1))[(2*c+bi b-lowF l (n+1)).toNat]? with
  | some s=>(s,0,1)
  | none=>((decN l f (n+1) (2*c+bi b) t).1,(decN l f (n+1) (2*c+bi b) t).2.1,(decN l f (n+1) (2*c+bi b) t).2.2+1)
def decF(l:List Int)(bs:List Bool):Int × Int × Nat:=decN l 15 0 0 bs
end
def cresF(l:List Int):List Int:=if cerrF l=0 then Zc l else []
theorem cerr_ok{l:List Int}(h:cerrF l=0):l.length≤320∧(∀ x∈l,0≤x∧x≤15)∧sumF wtF l≤2^15:=by
 unfold cerrF at h
 by_cases hm:mayF l=true
 ·rw [if_pos hm] at h
  have:=mayF_len hm
  refine ⟨this.1,this.2,?_⟩
  by_cases hw:sumF wtF l≤2^15
  ·exact hw
  ·rw [if_neg hw] at h;omega
 ·rw [if_neg hm] at h;omega
def terrF(l:List Int):Int:=if mayF l then (if sumF wtF l=32768∨(usedF l).length=0∨(usedF l).length=1∧sumF wtF l=16384 then 0 else 2) else 1
def natI(l:List Nat):List Int:=l.map Int.ofNat
def partT(F:List Int)(k j:Nat):List Nat:=tsymsN F k++symsN F (k+1) j
def lenT(l:List Nat):Nat:=l.length
theorem used_count(F:List Int):∀ k,k≤F.length→(usedN F k).length=(F.take k).countP fun x=>decide (0<x):=by
 intro k
 induction k with
 | zero=>intro _;simp [usedN]
 | succ k ih=>
  intro h
  rw [usedN,List.take_add_one,Za (by omega),List.countP_append,← ih (by omega)]
  split
  ·next h1=>rw [lJ];simp [List.countP_cons];simpa using h1
  ·next h1=>simp [List.countP_cons];simpa using h1
theorem few_weight:∀ l:List Int,(∀ x∈l,0≤x∧x≤15)→((l.countP fun x=>decide (0<x))=0→sumF wtF l=0∧cntL l 1=0)∧((l.countP fun x=>decide (0<x))=1→sumF wtF l≤16384∧(sumF wtF l=16384↔cntL l 1=1))
 | [],_=>by simp [sumF,cntL]
 | x::t,hl=>by
  have ih:=few_weight t fun y hy=>hl y (by simp [hy])
  have hx:=hl x (by simp)
  rw [Je]
  unfold cntL at ih ⊢
  rw [List.countP_cons,List.countP_cons]
  by_cases h0:0<x
  ·have e0:decide (0<x)=true:=by simp [h0]
   rw [e0,if_pos rfl]
   refine ⟨fun h=>by omega,fun h=>?_⟩
   have h1:=ih.1 (by omega)
   rw [h1.1,h1.2]
   have hw:wtF x=2^(15-x.toNat):=by unfold wtF;rw [if_pos h0]
   by_cases hx1:x=1
   ·subst hx1
    rw [hw];simp
   ·have e1:decide (x=((1:Nat):Int))=false:=by simp;exact hx1
    rw [e1]
    have h2:(2:Int)^(15-x.toNat)≤2^13:=by
     have:(2:Nat)^(15-x.toNat)≤2^13:=Nat.pow_le_pow_right (by omega) (by omega)
     exact_mod_cast this
    rw [hw]
    generalize (2:Int)^(15-x.toNat)=p at *
    simp
    omega
  ·have e0:decide (0<x)=false:=by simp;omega
   have e1:decide (x=((1:Nat):Int))=false:=by simp;omega
   have hw:wtF x=0:=by unfold wtF;rw [if_neg h0]
   rw [e0,e1,hw]
   simpa using ih
theorem table_ok{l:List Int}(h:terrF l=0):l.length≤320∧(∀ x∈l,0≤x∧x≤15)∧sumF wtF l≤2^15:=by
 unfold terrF at h
 by_cases hm:mayF l=true
 ·rw [if_pos hm] at h
  have:=mayF_len hm
  refine ⟨this.1,this.2,?_⟩
  by_cases hc:sumF wtF l=32768∨(usedF l).length=0∨(usedF l).length=1∧sumF wtF l=16384
  ·rcases hc with h1 | h1 | h1
   ·omega
   ·have h2:=few_weight l this.2
    unfold usedF at h1
    rw [used_count l _ (Nat.le_refl _),List.take_length] at h1
    have:=(h2.1 h1).1
    omega
   ·omega
  ·rw [if_neg hc] at h;omega
 ·rw [if_neg hm] at h;omega
structure LenOk (F:List Int) (L:Int) (R:List Int):Prop where
 lim:1≤L∧L≤15
 few:F.length≤320
 freq:∀ f∈F,0≤f∧f≤4294967296
 used:(symsF F).length≤2^L.toNat
 res:R=Zz F L.toNat
theorem len_ok{F:List Int}{L:Int}(h:errF F L=0):LenOk F L (resF F L):=by
 have h0:=h
 unfold errF at h
 by_cases hb:badArg F L=true
 ·rw [if_pos hb] at h;omega
 ·rw [if_neg hb] at h
  by_cases hu:2^L.toNat<(usedF F).length
  ·rw [if_pos hu] at h;omega
  ·unfold badArg at hb
   simp only [Bool.or_eq_true,decide_eq_true_eq,not_or] at hb
   obtain ⟨⟨⟨h1,h2⟩,h3⟩,h4⟩:=hb
   refine ⟨by omega,by omega,fun f hf=>?_,by rw [syms_length];omega,?_⟩
   ·unfold anyBad at h4
    rw [List.any_eq_true] at h4
    have:¬ badF f=true:=fun hb=>h4 ⟨f,hf,hb⟩
    simp only [badF,decide_eq_true_eq] at this
    omega
   ·unfold resF;rw [if_pos h0]
section
variable {F R:List Int} {L:Int} (h:LenOk F L R)
include h
theorem LenOk.lim':1≤L.toNat∧L.toNat≤15:=by have:=h.lim;omega
theorem LenOk.nn:∀ f∈F,0≤f:=fun f hf=>(h.freq f hf).1
theorem LenOk.len:R.length=F.length:=by rw [h.res,lengthsF_length]
theorem LenOk.get(j:Nat)(hj:j<F.length):0≤R.getD j 0∧R.getD j 0≤L∧(R.getD j 0=0↔F.getD j 0=0):=by
 rw [h.res]
 have:=lengthsF_range h.lim' h.used h.nn j hj
 have:=h.lim
 omega
theorem LenOk.all:∀ x∈R,0≤x∧x≤15:=fun x hx=>by
 obtain ⟨j,hj,rfl⟩:=List.getElem_of_mem hx
 have h1:=h.get j (by rw [← h.len];exact hj)
 rw [List.getD_eq_getElem?_getD,List.getElem?_eq_getElem hj] at h1
 have:=h.lim
 simp only [Option.getD_some] at h1
 omega
theorem LenOk.weight:sumF wtF R=if (usedF F).length<2 then ((usedF F).length:Int)*16384 else 32768:=by
 rw [h.res,lengthsF_weight h.lim' h.used,syms_length]
 split <;> omega
end
def cbits(l:List Int)(s:Nat):List Bool:=(Qj (codeF l s) (l.getD s 0).toNat).reverse
theorem cbits_length(l:List Int)(s:Nat):(cbits l s).length=(l.getD s 0).toNat:=by unfold cbits;rw [List.length_reverse,Qd]
theorem mem_getD2{F:List Int}{i:Nat}(h:i<F.length):F.getD i 0∈F:=by
 rw [List.getD_eq_getElem?_getD,List.getElem?_eq_getElem h]
 exact List.getElem_mem _
section
variable {l:List Int}
theorem LenOk.cod{F R:List Int}{L:Int}(h:LenOk F L R):cerrF R=0∧terrF R=0∧cresF R=Zc R:=by
 have hmy:mayF R=true:=by
  unfold mayF
  rw [h.len,decide_eq_true h.few,Bool.true_and,List.all_eq_true]
  intro x hx
  have:=h.all x hx
  simp [okLen];omega
 have hus:(usedF R).length=(usedF F).length:=by
  have:∀ k,k≤F.length→usedN R k=usedN F k:=by
   intro k
   induction k with
   | zero=>intro _;rfl
   | succ k ih=>
    intro hk
    rw [usedN,usedN,ih (by omega)]
    have h1:=h.get k (by omega)
    have h2:=getD_nonneg h.nn k
    by_cases hp:0<F.getD k 0
    ·rw [if_pos hp,if_pos (by omega)]
    ·rw [if_neg hp,if_neg (by omega)]
  unfold usedF
  rw [h.len,this _ (Nat.le_refl _)]
 have hw:=h.weight
 have hc:cerrF R=0:=by
  unfold cerrF
  rw [if_pos hmy,if_pos]
  rw [hw]
  split <;> omega
 refine ⟨hc,?_,by unfold cresF;rw [if_pos hc]⟩
 unfold terrF
 rw [if_pos hmy,hus,if_pos]
 rw [hw]
 by_cases h2:(usedF F).length<2
 ·rw [if_pos h2];omega
 ·rw [if_neg h2];omega
def allBits(l:List Int)(P:List Nat):List Bool:=P.flatMap (cbits l)
end
def tbits(L D:List Int)(t:Tok):List Bool:=
 if t.len=0 then cbits L t.lit.toNat
 else cbits L (Jy t.len.toNat).1++(Qj (Jy t.len.toNat).2.2 (Jy t.len.toNat).2.1++(cbits D (Jk t.dist.toNat).1++Qj (Jk t.dist.toNat).2.2 (Jk t.dist.toNat).2.1))
def toksB(L D:List Int)(l:List Tok):List Bool:=l.flatMap (tbits L D)
def bodyB(L D:List Int)(l:List Tok):List Bool:=toksB L D l++cbits L 256
def fixL:List Int:=List.replicate 144 8++List.replicate 112 9++List.replicate 24 7++List.replicate 8 8
def fixD:List Int:=List.replicate 32 5
def headB(last:Bool)(kind:Int):List Bool:=last::Qj kind 2
def litS(t:Tok):Int:=if t.len=0 then t.lit else ((Jy t.len.toNat).1:Int)
def distS(t:Tok):Int:=((Jk t.dist.toNat).1:Int)
def litFq(l:List Tok):List Int:=bumpF ((Qm 286).set 256 1) (l.map litS)
def distFq(l:List Tok):List Int:=bumpF (Qm 30) ((l.filter fun t=>decide (t.len≠0)).map distS)
def trimK(l:List Int)(least:Nat):Nat→Nat
 | 0=>0
 | k+1=>if least<k+1∧l.getD k 0=0 then trimK l least k else k+1
def trimF(l:List Int)(least:Nat):List Int:=l.take (trimK l least l.length)
structure Run where
 sym:Int
 n:Int
 v:Int
def sameK(x:Int):List Int→Nat
 | []=>0
 | y::t=>if y=x then sameK x t+1 else 0
def runsN:Nat→List Int→List Run
 | 0,_=>[]
 | _+1,[]=>[]
 | f+1,x::t=>
  if x=0∧10<sameK x t+1 then ⟨18,7,(min (sameK x t+1) 138:Nat)-11⟩::runsN f ((x::t).drop (min (sameK x t+1) 138))
  else if x=0∧2<sameK x t+1 then ⟨17,3,(sameK x t+1:Nat)-3⟩::runsN f ((x::t).drop (sameK x t+1))
  else if 3<sameK x t+1 then ⟨x,0,0⟩::⟨16,2,(min (sameK x t+1) 7:Nat)-4⟩::runsN f ((x::t).drop (min (sameK x t+1) 7))
  else ⟨x,0,0⟩::runsN f t
def runsF(l:List Int):List Run:=runsN l.length l
def ordF:List Nat:=[16,17,18,0,8,7,9,6,10,5,11,4,12,3,13,2,14,1,15]
def richL(l:List Tok):List Int:=trimF (resF (litFq l) 15) 257
def richD(l:List Tok):List Int:=trimF (resF (distFq l) 15) 1
def richR(l:List Tok):List Run:=runsF (richL l++richD l)
def runFq(rs:List Run):List Int:=bumpF (Qm 19) (rs.map Run.sym)
def runL(rs:List Run):List Int:=resF (runFq rs) 7
def sortedF(ls:List Int):List Int:=trimF (ordF.map fun s=>ls.getD s 0) 4
def runB(ls:List Int)(r:Run):List Bool:=cbits ls r.sym.toNat++Qj r.v r.n.toNat
def runsB(ls:List Int)(rs:List Run):List Bool:=rs.flatMap (runB ls)
def lensB(l:List Int):List Bool:=l.flatMap fun n=>Qj n 3
def sizesB(a b c:Nat):List Bool:=Qj ((a:Int)-257) 5++(Qj ((b:Int)-1) 5++Qj ((c:Int)-4) 4)
def richB(l:List Tok):List Bool:=
 sizesB (richL l).length (richD l).length (sortedF (runL (richR l))).length++(lensB (sortedF (runL (richR l)))++(runsB (runL (richR l)) (richR l)++bodyB (richL l) (richD l) l))
def blockB(l:List Tok)(kind:Int)(last:Bool):List Bool:=if kind=1 then headB last 1++bodyB fixL fixD l else headB last 2++richB l
def storeB:Nat→ByteArray→List Bool→List Bool
 | 0,_,bs=>bs
 | f+1,t,bs=>if t.size≤65535
  then Jv (bs++headB true 0)++(Qj (t.size:Int) 16++(Qj (65535-(t.size:Int)) 16++Zy t))
  else storeB f (t.extract 65535 t.size) (Jv (bs++headB false 0)++(Qj 65535 16++(Qj 0 16++Zy (t.extract 0 65535))))
def storeF(s:ByteArray):List Bool:=storeB (s.size+1) s []
def TokOk(t:Tok):Prop:=(t.len=0∧0≤t.lit∧t.lit<256)∨(3≤t.len∧t.len≤258∧1≤t.dist∧t.dist≤32768)
theorem may_ok{t:Tok}{n:Nat}(h:may t n=true):TokOk t:=by
 unfold may at h
 unfold TokOk
 split at h
 ·next h0=>have:=of_decide_eq_true h;omega
 ·have:=of_decide_eq_true h;omega
theorem flat_le{α:Type}{f:α→List Bool}{b:Nat}:∀ (l:List α),(∀ x∈l,(f x).length≤b)→(l.flatMap f).length≤b*l.length
 | [],_=>by simp
 | x::t,h=>by
  have h1:=flat_le t fun y hy=>h y (by simp [hy])
  have h2:=h x (by simp)
  rw [List.flatMap_cons,lJ,List.length_cons,Nat.mul_succ]
  omega
theorem getD_le{l:List Int}(hl:∀ x∈l,0≤x∧x≤15)(s:Nat):0≤l.getD s 0∧l.getD s 0≤15:=by
 by_cases h:s<l.length
 ·exact hl _ (mem_getD2 h)
 ·rw [List.getD_eq_getElem?_getD,List.getElem?_eq_none (by omega)];simp
theorem cbits_le{l:List Int}(hl:∀ x∈l,0≤x∧x≤15)(s:Nat):(cbits l s).length≤15:=by
 rw [cbits_length];have:=getD_le hl s;omega
theorem tbits_le{L D:List Int}(hL:∀ x∈L,0≤x∧x≤15)(hD:∀ x∈D,0≤x∧x≤15){t:Tok}(ht:TokOk t):(tbits L D t).length≤48:=by
 unfold tbits
 split
 ·have:=cbits_le hL t.lit.toNat;omega
 ·next h=>
  have h1:=cbits_le hL (Jy t.len.toNat).1
  have h2:=cbits_le hD (Jk t.dist.toNat).1
  have h3:3≤t.len∧t.len≤258∧1≤t.dist∧t.dist≤32768:=by rcases ht with h4 | h4 <;> omega
  have h4:=lenSym_bd (n:=t.len.toNat) (by omega)
  have h5:=distSym_bd (n:=t.dist.toNat) (by omega)
  rw [lJ,lJ,lJ,Qd,Qd]
  omega
theorem toksB_le{L D:List Int}(hL:∀ x∈L,0≤x∧x≤15)(hD:∀ x∈D,0≤x∧x≤15){l:List Tok}(ht:∀ t∈l,TokOk t):(toksB L D l).length≤48*l.length:=
 flat_le l fun t h=>tbits_le hL hD (ht t h)
theorem fixL_ok:fixL.length=288∧cerrF fixL=0∧terrF fixL=0:=by decide +kernel
theorem fixD_ok:fixD.length=32∧cerrF fixD=0∧terrF fixD=0:=by decide +kernel
theorem fixL_bd:∀ x∈fixL,0≤x∧x≤15:=by decide +kernel
theorem fixD_bd:∀ x∈fixD,0≤x∧x≤15:=by decide +kernel
theorem ex_stop{st n e:Nat}(hn:n<1048576)(he:2^(st+1)≤n/2^e):e<20:=by
 rcases Nat.lt_or_ge e 20 with h | h
 ·exact h
 ·have h1:2^20≤2^e:=Nat.pow_le_pow_right (by omega) h
  have:n/2^e=0:=Nat.div_eq_of_lt (by have:(2:Nat)^20=1048576:=rfl;omega)
  have h2:0<2^(st+1):=Nat.pow_pos (by omega)
  omega
theorem len_sym_le:∀ x:Fin 256,(Jy (x.1+3)).1≤285:=by decide +kernel
set_option maxRecDepth 100000 in
theorem band_any(n st:Nat)(hn:n<1048576)(hst:st=1∨st=2)(w:World) :
 Calls Tryz.prog 323 #[.int .i64 n,.int .i64 st] w (Ret fun r w'=>r=.tuple #[.int .i64 (bandF st n).1,.int .i64 (bandF st n).2.1,.int .i64 (bandF st n).2.2]∧Own w w' []):=by
 have H:=Own.start w
 obtain ⟨x,hx⟩:∃ x,Hid (exF st n=x):=⟨_,rfl⟩
 obtain ⟨b1,b2,b3,hB⟩:∃ b1 b2 b3,Hid (bandF st n=(b1,b2,b3)):=⟨_,_,_,rfl⟩
 have hP:Hid (b1=x*2^st+n/2^x∧b2=x∧b3=n%2^x):=jd (by have h:=hB.out;unfold bandF at h;rw [hx.out] at h;simp only [Prod.mk.injEq] at h;exact ⟨h.1.symm,h.2.1.symm,h.2.2.symm⟩)
 rw [hB.out]
 obtain ⟨c,hc⟩:∃ c:Int,Hid ((2:Int)*2^st=c):=⟨_,rfl⟩
 have hcw:IntKind.i64.wrap ((2:Int)*2^st)=c:=by rw [hc.out,← hc.out];rcases hst with rfl | rfl <;> rfl
 have hcn:Hid (c=((2^(st+1):Nat):Int)):=jd (by rw [← hc.out];rcases hst with rfl | rfl <;> rfl)
 have hst1:(st:Int)<64:=by omega
 have hst0:¬ (st:Int)<0:=by omega
 go_enter Tryz.func323,Tryz.ntmps323
 go_wp2_with fail
 go_loopw [7] (fun s7 wx=>∃ e:Nat,s7=.int .i64 e∧e≤20∧Hid (exN st n (64-e) e=x)∧Own w wx []) (fun s7 _=>20-(intOf s7).toNat)
 case atStart=>exact ⟨0,by go_num,by omega,jd hx.out,H⟩
 case round=>
  clear H
  obtain ⟨e,rfl,he,hex,H⟩:=hrel
  obtain ⟨q,hq⟩:∃ q:Nat,Hid (n/2^e=q):=⟨_,rfl⟩
  have hqi:(n:Int)/2^e=(q:Int):=by
   rw [← hq.out,Int.natCast_ediv,Int.natCast_pow];rfl
  have heI:(e:Int)<64:=by omega
  go_upto_region 2 with (fail)
  refine Qa (fun w1=>Own w w1 []) 5 (by kernel_rfl) (by kernel_rfl) H.drew ?_
  simp only [List.take_succ_cons,List.take_zero,List.drop_succ_cons,List.drop_zero]
  repeat
   first
   | (refine calm_value (v:=?_) (by decide) rfl (fun σ w1 hS=>?_) ?_
      rotate_left
      ·skip
       first | (go_simp;rfl) | rfl
      simp only [Act.put,putC])
   | (refine calm_skip (by decide) rfl ?_
      simp only [Act.put,putC])
  refine calm_nil ?_
  intro wd HD
  clear H
  have hex2:=hex.out
  rw [show 64-e=(64-(e+1))+1 by omega,exN,hq.out] at hex2
  by_cases hlt:2^(st+1)≤q
  ·have hcq:c≤(q:Int):=by rw [hcn.out];exact Int.ofNat_le.2 hlt
   rw [if_pos hlt] at hex2
   have he20:=ex_stop hn (by rw [hq.out];exact hlt)
   have HEX:=jd hex2
   clear hex2 hex hlt
   go_wp2_with fail
   go_roundw
   case rel=>exact ⟨e+1,by go_num,by omega,HEX,HD⟩
   case measure=>simp [intOf];omega
  ·have hcq:¬ c≤(q:Int):=by rw [hcn.out];exact fun h=>hlt (Int.ofNat_le.1 h)
   rw [if_neg hlt] at hex2
   subst hex2
   clear hex hlt
   obtain ⟨r,hr⟩:∃ r:Nat,Hid (n%2^e=r):=⟨_,rfl⟩
   have hri:bits .and .i64 (n:Int) ((2:Int)^e-1)=(r:Int):=by
    have h1:=i64_and_mask (n:Int) e (by omega)
    have h2:((2^e-1:Nat):Int)=(2:Int)^e-1:=by
     have:0<2^e:=Nat.pow_pos (by omega)
     rw [Int.natCast_sub (by omega),Int.natCast_pow];rfl
    rw [h2] at h1
    rw [h1,← hr.out,Int.natCast_emod]
   obtain ⟨p,hp⟩:∃ p:Nat,Hid (e*2^st=p):=⟨_,rfl⟩
   have hp80:p≤80:=by
    rw [← hp.out]
    rcases hst with rfl | rfl <;> omega
   have hpi:(e:Int)*2^st=(p:Int):=by rw [← hp.out,Int.natCast_mul,Int.natCast_pow];rfl
   have hq20:q≤1048576:=by rw [← hq.out];exact Nat.le_trans (Nat.div_le_self _ _) (by omega)
   have hpw:IntKind.i64.wrap ((p:Int))=(p:Int):=IntWalk.i64_in _ ⟨by omega,by omega⟩
   have hpq:IntKind.i64.wrap ((p:Int)+(q:Int))=((p+q:Nat):Int):=by rw [Int.natCast_add];exact IntWalk.i64_in _ ⟨by omega,by omega⟩
   have h2e:IntKind.i64.wrap ((2:Int)^e)=(2:Int)^e∧IntKind.i64.wrap ((2:Int)^e-1)=(2:Int)^e-1:=by
    obtain ⟨m,hm,h1,h2⟩:∃ m:Nat,(2:Int)^e=m∧1≤m∧m≤2^20:=⟨2^e,by rw [Int.natCast_pow];rfl,Nat.pow_pos (by omega),Nat.pow_le_pow_right (by omega) he⟩
    rw [hm]
    exact ⟨IntWalk.i64_in _ ⟨by omega,by omega⟩,IntWalk.i64_in _ ⟨by omega,by omega⟩⟩
   obtain ⟨h2e1,h2e2⟩:=h2e
   have e1:Hid (b1=p+q∧b2=e∧b3=r):=jd (by rw [← hp.out,← hq.out,← hr.out];exact hP.out)
   clear hP hB
   go_upto_region 4 with (fail)
   refine Qa (fun w1=>Own w w1 []) 15 (by kernel_rfl) (by kernel_rfl) HD.drew ?_
   simp only [List.take_succ_cons,List.take_zero,List.drop_succ_cons,List.drop_zero]
   repeat
    first
    | (refine calm_value (v:=?_) (by decide) rfl (fun σ w1 hS=>?_) ?_
       rotate_left
       ·skip
        first | (go_simp;rfl) | rfl
       simp only [Act.put,putC])
    | (refine calm_skip (by decide) rfl ?_
       simp only [Act.put,putC])
   refine calm_nil ?_
   intro we HE
   clear HD
   go_wp2_with fail
   go_ret3
   exact ⟨_,rfl,by rw [e1.out.1,e1.out.2.1,e1.out.2.2];rfl,HE⟩
theorem length_any(n:Nat)(hn:3≤n)(hn2:n≤258)(w:World) :
 Calls Tryz.prog 267 #[.int .i64 n] w (Ret fun r w'=>r=.tuple #[.int .i64 (Jy n).1,.int .i64 (Jy n).2.1,.int .i64 (Jy n).2.2]∧Own w w' []):=by
 have H:=Own.start w
 obtain ⟨b1,b2,b3,hB⟩:∃ b1 b2 b3,Hid (Jy n=(b1,b2,b3)):=⟨_,_,_,rfl⟩
 rw [hB.out]
 by_cases h1:n=258
 ·subst h1
  have hB2:(285,0,0)=(b1,b2,b3):=hB.out
  cases hB2
  go_enter Tryz.func267,Tryz.ntmps267
  go_wp2_with fail
  go_ret3
  exact ⟨_,rfl,rfl,H⟩
 ·have h1b:((n:Int)==258)=false:=by simp;omega
  by_cases h2:n<11
  ·have h2I:(n:Int)<11:=by omega
   have hB2:Hid (254+n=b1∧0=b2∧0=b3):=jd (by have h:=hB.out;unfold Jy at h;rw [if_neg h1,if_pos h2] at h;simp only [Prod.mk.injEq] at h;exact h)
   have hw:IntKind.i64.wrap (254+(n:Int))=254+(n:Int):=IntWalk.i64_in _ ⟨by omega,by omega⟩
   clear hB h1
   go_enter Tryz.func267,Tryz.ntmps267
   go_wp2_with fail
   go_ret3
   exact ⟨_,rfl,by rw [← hB2.out.1,← hB2.out.2.1,← hB2.out.2.2];rfl,H⟩
  ·have h2I:¬ (n:Int)<11:=by omega
   obtain ⟨c1,c2,c3,hC⟩:∃ c1 c2 c3,Hid (bandF 2 (n-3)=(c1,c2,c3)):=⟨_,_,_,rfl⟩
   have hB2:Hid (257+c1=b1∧c2=b2∧c3=b3):=jd (by have h:=hB.out;unfold Jy at h;rw [if_neg h1,if_neg h2,hC.out] at h;simp only [Prod.mk.injEq] at h;exact h)
   have hc:=band_any (n-3) 2 (by omega) (.inr rfl)
   rw [hC.out] at hc
   rw [show ((n-3:Nat):Int)=(n:Int)-3 by omega,show ((2:Nat):Int)=2 from rfl] at hc
   have HC:=jd hc
   have hc1:c1≤300:=by
    have h:=hB2.out.1
    have:b1≤285:=by
     have h3:=len_sym_le ⟨n-3,by omega⟩
     simp only [show n-3+3=n by omega,hB.out] at h3
     exact h3
    omega
   have hw:IntKind.i64.wrap ((c1:Int)+257)=(c1:Int)+257:=IntWalk.i64_in _ ⟨by omega,by omega⟩
   clear hB h1 hc
   go_enter Tryz.func267,Tryz.ntmps267
   go_wp2_with fail
   refine (HC.out _).mono ?_
   rintro e w2 ⟨_,rfl,rfl,H2⟩
   have H:=H.join H2
   go_wp2_with fail
   go_ret3
   exact ⟨_,rfl,by rw [← hB2.out.1,← hB2.out.2.1,← hB2.out.2.2];rfl,H⟩
theorem dist_any(n:Nat)(hn:1≤n)(hn2:n≤32768)(w:World) :
 Calls Tryz.prog 268 #[.int .i64 n] w (Ret fun r w'=>r=.tuple #[.int .i64 (Jk n).1,.int .i64 (Jk n).2.1,.int .i64 (Jk n).2.2]∧Own w w' []):=by
 have H:=Own.start w
 obtain ⟨b1,b2,b3,hB⟩:∃ b1 b2 b3,Hid (Jk n=(b1,b2,b3)):=⟨_,_,_,rfl⟩
 rw [hB.out]
 by_cases h2:n<5
 ·have h2I:(n:Int)<5:=by omega
  have hB2:Hid (n-1=b1∧0=b2∧0=b3):=jd (by have h:=hB.out;unfold Jk at h;rw [if_pos h2] at h;simp only [Prod.mk.injEq] at h;exact h)
  have hB3:Hid ((b1:Int)=(n:Int)-1):=jd (by have:=hB2.out.1;omega)
  clear hB
  go_enter Tryz.func268,Tryz.ntmps268
  go_wp2_with fail
  go_ret3
  exact ⟨_,rfl,by rw [hB3.out,← hB2.out.2.1,← hB2.out.2.2];rfl,H⟩
 ·have h2I:¬ (n:Int)<5:=by omega
  have hc:=band_any (n-1) 1 (by omega) (.inl rfl)
  have hd:Jk n=bandF 1 (n-1):=by unfold Jk;rw [if_neg h2]
  rw [← hd,hB.out,show ((n-1:Nat):Int)=(n:Int)-1 by omega,show ((1:Nat):Int)=1 from rfl] at hc
  have HC:=jd hc
  clear hB hc hd
  go_enter Tryz.func268,Tryz.ntmps268
  go_wp2_with fail
  refine (HC.out _).mono ?_
  rintro e w2 ⟨_,rfl,rfl,H2⟩
  have H:=H.join H2
  go_wp2_with fail
  go_ret3
  exact ⟨_,rfl,rfl,H⟩
theorem errF_ok{F:List Int}{L:Int}(hL:1≤L∧L≤15)(hn:F.length≤320)(hF:∀ f∈F,0≤f∧f≤4294967296)(hu:F.length≤2^L.toNat):errF F L=0:=by
 have hb:badArg F L=false:=by
  unfold badArg anyBad
  simp only [Bool.or_eq_false_iff,decide_eq_false_iff_not,List.any_eq_false]
  refine ⟨⟨⟨by omega,by omega⟩,by omega⟩,fun f hf=>?_⟩
  have:=hF f hf
  simp [badF];omega
 unfold errF
 rw [hb]
 have h2:(usedF F).length≤F.length:=usedN_length F F.length
 rw [if_neg (by simp),if_neg (by omega)]
theorem mem_getD{F:List Int}{f:Int}(h:f∈F):∃ j,j<F.length∧F.getD j 0=f:=by
 obtain ⟨j,hj,rfl⟩:=List.getElem_of_mem h
 exact ⟨j,hj,by rw [List.getD_eq_getElem?_getD,List.getElem?_eq_getElem hj];rfl⟩
theorem litFq_len(l:List Tok):(litFq l).length=286:=by unfold litFq;rw [Jl,List.length_set];exact List.length_replicate
theorem Zu(l:List Tok):(distFq l).length=30:=by unfold distFq;rw [Jl];exact List.length_replicate
theorem runFq_len(rs:List Run):(runFq rs).length=19:=by unfold runFq;rw [Jl];exact List.length_replicate
theorem litS_ok{t:Tok}(h:TokOk t):∃ s:Nat,litS t=s∧s<286:=by
 unfold litS
 rcases h with h | h
 ·rw [if_pos h.1];exact ⟨t.lit.toNat,by omega,by omega⟩
 ·rw [if_neg (by omega)]
  have:=lenSym_bd (n:=t.len.toNat) (by omega)
  exact ⟨_,rfl,by omega⟩
theorem distS_ok{t:Tok}(h:TokOk t)(h0:t.len≠0):∃ s:Nat,distS t=s∧s<30:=by
 unfold distS
 rcases h with h | h
 ·exact absurd h.1 h0
 ·have:=distSym_bd (n:=t.dist.toNat) (by omega)
  exact ⟨_,rfl,by omega⟩
theorem count_pos{l:List Int}{x:Int}(h:x∈l):1≤l.countP fun y=>decide (y=x):=List.countP_pos_iff.2 ⟨x,h,by simp⟩
theorem lit0_get(j:Nat):((Qm 286).set 256 1).getD j 0=if j=256 then 1 else 0:=by
 rw [List.getD_eq_getElem?_getD,List.getElem?_set]
 by_cases h:j=256
 ·subst h
  rw [if_pos rfl,if_pos rfl,if_pos (by unfold Qm;rw [List.length_replicate];omega)];rfl
 ·rw [if_neg (by omega),if_neg h]
  have:=zeros_get 286 j
  rwa [List.getD_eq_getElem?_getD] at this
theorem litFq_get{l:List Tok}(hl:∀ t∈l,TokOk t)(j:Nat):(litFq l).getD j 0=(if j=256 then 1 else 0)+((l.map litS).countP fun x=>decide (x=(j:Int)):Nat):=by
 unfold litFq
 rw [bumpF_get,lit0_get]
 intro x hx
 obtain ⟨t,ht,rfl⟩:=List.mem_map.1 hx
 obtain ⟨s,hs,h2⟩:=litS_ok (hl t ht)
 exact ⟨s,hs,by rw [List.length_set];unfold Qm;rw [List.length_replicate];exact h2⟩
theorem distFq_get{l:List Tok}(hl:∀ t∈l,TokOk t)(j:Nat):(distFq l).getD j 0=(((l.filter fun t=>decide (t.len≠0)).map distS).countP fun x=>decide (x=(j:Int)):Nat):=by
 unfold distFq
 rw [bumpF_get,zeros_get,Int.zero_add]
 intro x hx
 obtain ⟨t,ht,rfl⟩:=List.mem_map.1 hx
 obtain ⟨h1,h2⟩:=List.mem_filter.1 ht
 obtain ⟨s,hs,h3⟩:=distS_ok (hl t h1) (by simpa using h2)
 exact ⟨s,hs,by unfold Qm;rw [List.length_replicate];exact h3⟩
theorem litFq_bd{l:List Tok}(hl:∀ t∈l,TokOk t)(hn:l.length≤1000000):∀ f∈litFq l,0≤f∧f≤4294967296:=fun f hf=>by
 obtain ⟨j,_,rfl⟩:=mem_getD hf
 rw [litFq_get hl]
 have:=List.countP_le_length (p:=fun x:Int=>decide (x=(j:Int))) (l:=l.map litS)
 rw [List.length_map] at this
 split <;> omega
theorem distFq_bd{l:List Tok}(hl:∀ t∈l,TokOk t)(hn:l.length≤1000000):∀ f∈distFq l,0≤f∧f≤4294967296:=fun f hf=>by
 obtain ⟨j,_,rfl⟩:=mem_getD hf
 rw [distFq_get hl]
 have:=List.countP_le_length (p:=fun x:Int=>decide (x=(j:Int))) (l:=(l.filter fun t=>decide (t.len≠0)).map distS)
 have h2:=List.length_filter_le (fun t:Tok=>decide (t.len≠0)) l
 rw [List.length_map] at this
 omega
theorem trimK_le'(l:List Int)(least:Nat):∀ k,trimK l least k≤k:=by
 intro k
 induction k with
 | zero=>exact Nat.le_refl _
 | succ k ih=>
  rw [trimK]
  split
  ·omega
  ·exact Nat.le_refl _
theorem trimK_ge(l:List Int)(least:Nat):∀ k,least≤k→least≤trimK l least k:=by
 intro k
 induction k with
 | zero=>intro h;exact h
 | succ k ih=>
  intro h
  rw [trimK]
  split
  ·next h2=>exact ih (by omega)
  ·exact h
theorem trimK_zero(l:List Int)(least:Nat):∀ k j,trimK l least k≤j→j<k→l.getD j 0=0:=by
 intro k
 induction k with
 | zero=>intro j _ h;omega
 | succ k ih=>
  intro j h1 h2
  rw [trimK] at h1
  split at h1
  ·next h3=>
   rcases Nat.lt_or_ge j k with h4 | h4
   ·exact ih j h1 h4
   ·have:j=k:=by omega
    subst this;exact h3.2
  ·omega
theorem trimF_len(l:List Int)(least:Nat):(trimF l least).length=trimK l least l.length:=by
 unfold trimF
 rw [List.length_take]
 have:=trimK_le' l least l.length
 omega
theorem trimF_getD(l:List Int)(least j:Nat):(trimF l least).getD j 0=l.getD j 0:=by
 unfold trimF
 rw [List.getD_eq_getElem?_getD,List.getElem?_take]
 split
 ·rw [List.getD_eq_getElem?_getD]
 ·next h=>
  rcases Nat.lt_or_ge j l.length with h2 | h2
  ·rw [trimK_zero l least l.length j (by omega) h2];rfl
  ·rw [List.getD_eq_getElem?_getD,List.getElem?_eq_none h2]
theorem trimF_zeros(l:List Int)(least:Nat):l=trimF l least++List.replicate (l.length-(trimF l least).length) 0:=by
 have hk:=trimK_le' l least l.length
 have hl:=trimF_len l least
 apply List.ext_getElem?
 intro j
 rw [List.getElem?_append]
 split
 ·next h=>
  unfold trimF
  rw [List.getElem?_take,if_pos (by rw [← hl];exact h)]
 ·next h=>
  rw [List.getElem?_replicate]
  rcases Nat.lt_or_ge j l.length with h2 | h2
  ·rw [if_pos (by omega),List.getElem?_eq_getElem h2]
   have:=trimK_zero l least l.length j (by omega) h2
   rw [List.getD_eq_getElem?_getD,List.getElem?_eq_getElem h2] at this
   simpa using this
  ·rw [if_neg (by omega),List.getElem?_eq_none h2]
theorem trimF_mem{l:List Int}{least:Nat}{x:Int}(h:x∈trimF l least):x∈l:=List.mem_of_mem_take h
theorem sum_zeros(f:Int→Int)(h:f 0=0)(n:Nat):sumF f (List.replicate n 0)=0:=by
 induction n with
 | zero=>rfl
 | succ n ih=>rw [List.replicate_succ,Je,ih,h];rfl
theorem trimF_weight(l:List Int)(least:Nat):sumF wtF (trimF l least)=sumF wtF l:=by
 conv=>rhs;rw [trimF_zeros l least,sumF_append,sum_zeros wtF (by unfold wtF;rw [if_neg (by omega)])]
 omega
theorem trimF_used(l:List Int)(least:Nat):(usedF (trimF l least)).length=(usedF l).length:=by
 have h:∀ F:List Int,(usedF F).length=F.countP fun x=>decide (0<x):=fun F=>by
  unfold usedF;rw [used_count F _ (Nat.le_refl _),List.take_length]
 rw [h,h]
 conv=>rhs;rw [trimF_zeros l least,List.countP_append]
 rw [List.countP_replicate]
 simp
theorem trimF_may{l:List Int}(h:mayF l=true)(least:Nat):mayF (trimF l least)=true:=by
 have h1:=mayF_len h
 have h2:=trimF_len l least
 have h3:=trimK_le' l least l.length
 unfold mayF
 rw [decide_eq_true (by omega),Bool.true_and,List.all_eq_true]
 intro x hx
 have:=h1.2 x (trimF_mem hx)
 simp [okLen];omega
theorem trimF_terr{l:List Int}(h:terrF l=0)(least:Nat):terrF (trimF l least)=0:=by
 have hm:mayF l=true:=by
  unfold terrF at h
  by_cases hm:mayF l=true
  ·exact hm
  ·rw [if_neg hm] at h;omega
 unfold terrF at h ⊢
 rw [if_pos hm] at h
 rw [if_pos (trimF_may hm least),trimF_weight,trimF_used]
 exact h
theorem trimF_cerr{l:List Int}(h:cerrF l=0)(least:Nat):cerrF (trimF l least)=0:=by
 have h1:=cerr_ok h
 have hm:mayF l=true:=by
  unfold cerrF at h
  by_cases hm:mayF l=true
  ·exact hm
  ·rw [if_neg hm] at h;omega
 unfold cerrF
 rw [if_pos (trimF_may hm least),trimF_weight,if_pos h1.2.2]
theorem lit_ok{l:List Tok}(hl:∀ t∈l,TokOk t)(hn:l.length≤1000000):LenOk (litFq l) 15 (resF (litFq l) 15):=
 len_ok (errF_ok (by omega) (by rw [litFq_len];omega) (litFq_bd hl hn) (by rw [litFq_len];decide))
theorem dist_ok{l:List Tok}(hl:∀ t∈l,TokOk t)(hn:l.length≤1000000):LenOk (distFq l) 15 (resF (distFq l) 15):=
 len_ok (errF_ok (by omega) (by rw [Zu];omega) (distFq_bd hl hn) (by rw [Zu];decide))
structure Made (L:List Int) (lo hi:Nat):Prop where
 lo:lo≤L.length
 hi:L.length≤hi
 all:∀ x∈L,0≤x∧x≤15
 cerr:cerrF L=0
 terr:terrF L=0
theorem Made.wt{L:List Int}{lo hi:Nat}(h:Made L lo hi):sumF wtF L≤2^15:=(cerr_ok h.cerr).2.2
theorem made_trim{F:List Int}{lo hi:Nat}{lim:Int}(h:LenOk F lim (resF F lim))(hF:F.length=hi)(hlo:lo≤hi):Made (trimF (resF F lim) lo) lo hi:=by
 have hc:=h.cod
 have hlen:=h.len
 refine ⟨?_,?_,fun x hx=>h.all x (trimF_mem hx),trimF_cerr hc.1 lo,trimF_terr hc.2.1 lo⟩
 ·rw [trimF_len];exact trimK_ge _ _ _ (by omega)
 ·rw [trimF_len];have:=trimK_le' (resF F lim) lo (resF F lim).length;omega
theorem richL_made{l:List Tok}(hl:∀ t∈l,TokOk t)(hn:l.length≤1000000):Made (richL l) 257 286:=made_trim (lit_ok hl hn) (litFq_len l) (by omega)
theorem richD_made{l:List Tok}(hl:∀ t∈l,TokOk t)(hn:l.length≤1000000):Made (richD l) 1 30:=made_trim (dist_ok hl hn) (Zu l) (by omega)
theorem pos_lt{L:List Int}{s:Nat}(h:0<L.getD s 0):s<L.length:=by
 rcases Nat.lt_or_ge s L.length with h1 | h1
 ·exact h1
 ·rw [List.getD_eq_getElem?_getD,List.getElem?_eq_none h1] at h;simp at h
theorem richL_pos{l:List Tok}(hl:∀ t∈l,TokOk t)(hn:l.length≤1000000){s:Nat}(hs:s<286)(hp:0<(litFq l).getD s 0):0<(richL l).getD s 0:=by
 unfold richL
 rw [trimF_getD]
 have:=(lit_ok hl hn).get s (by rw [litFq_len];exact hs)
 omega
theorem richL_lit{l:List Tok}(hl:∀ t∈l,TokOk t)(hn:l.length≤1000000){t:Tok}(ht:t∈l):0<(richL l).getD (litS t).toNat 0:=by
 obtain ⟨s,hs,h2⟩:=litS_ok (hl t ht)
 rw [hs,Int.toNat_natCast]
 refine richL_pos hl hn h2 ?_
 rw [litFq_get hl]
 have:=count_pos (List.mem_map.2 ⟨t,ht,hs⟩)
 split <;> omega
theorem richD_dist{l:List Tok}(hl:∀ t∈l,TokOk t)(hn:l.length≤1000000){t:Tok}(ht:t∈l)(h0:t.len≠0):0<(richD l).getD (distS t).toNat 0:=by
 obtain ⟨s,hs,h2⟩:=distS_ok (hl t ht) h0
 rw [hs,Int.toNat_natCast]
 unfold richD
 rw [trimF_getD]
 have h1:=(dist_ok hl hn).get s (by rw [Zu];exact h2)
 have h3:0<(distFq l).getD s 0:=by
  rw [distFq_get hl]
  have:=count_pos (l:=(l.filter fun t=>decide (t.len≠0)).map distS) (x:=(s:Int)) (List.mem_map.2 ⟨t,List.mem_filter.2 ⟨ht,decide_eq_true h0⟩,hs⟩)
  omega
 omega
def SymOk'(L D:List Int)(t:Tok):Prop:=TokOk t∧(t.len=0→t.lit.toNat<L.length)∧(t.len≠0→(Jy t.len.toNat).1<L.length∧(Jk t.dist.toNat).1<D.length)
theorem rich_sym{l:List Tok}(hl:∀ t∈l,TokOk t)(hn:l.length≤1000000){t:Tok}(ht:t∈l):SymOk' (richL l) (richD l) t:=by
 refine ⟨hl t ht,fun h0=>?_,fun h0=>?_⟩
 ·have:=pos_lt (richL_lit hl hn ht)
  unfold litS at this
  rw [if_pos h0] at this
  exact this
 ·have h1:=pos_lt (richL_lit hl hn ht)
  have h2:=pos_lt (richD_dist hl hn ht h0)
  unfold litS at h1
  unfold distS at h2
  rw [if_neg h0] at h1
  exact ⟨by simpa using h1,by simpa using h2⟩
structure RunOk (r:Run):Prop where
 sym:0≤r.sym∧r.sym<19
 n:0≤r.n∧r.n≤7
 v:0≤r.v∧r.v<2^r.n.toNat
theorem runs_ok:∀ (f:Nat) (l:List Int),(∀ x∈l,0≤x∧x≤15)→∀ r∈runsN f l,RunOk r:=by
 intro f
 induction f with
 | zero=>intro l _ r h;simp [runsN] at h
 | succ f ih=>
  intro l hl r h
  cases l with
  | nil=>simp [runsN] at h
  | cons x t=>
   have hx:=hl x (by simp)
   have ht:∀ y∈t,0≤y∧y≤15:=fun y hy=>hl y (by simp [hy])
   have hd:∀ j,∀ y∈(x::t).drop j,0≤y∧y≤15:=fun j y hy=>hl y (List.mem_of_mem_drop hy)
   have h128:(2:Int)^(7:Int).toNat=128:=rfl
   have h8:(2:Int)^(3:Int).toNat=8:=rfl
   have h4:(2:Int)^(2:Int).toNat=4:=rfl
   have h1:(2:Int)^(0:Int).toNat=1:=rfl
   rw [runsN] at h
   split at h
   ·next hc=>
    rcases List.mem_cons.1 h with rfl | h
    ·exact ⟨by simp,by simp,by simp only;rw [h128];omega⟩
    ·exact ih _ (hd _) r h
   ·next hc1=>
    split at h
    ·next hc=>
     have hle:sameK x t+1≤10:=by
      rcases Nat.lt_or_ge 10 (sameK x t+1) with h9 | h9
      ·exact absurd ⟨hc.1,h9⟩ hc1
      ·exact h9
     rcases List.mem_cons.1 h with rfl | h
     ·exact ⟨by simp,by simp,by simp only;rw [h8];omega⟩
     ·exact ih _ (hd _) r h
    ·split at h
     ·next hc=>
      rcases List.mem_cons.1 h with rfl | h
      ·exact ⟨by simp only;omega,by simp,by simp only;rw [h1];omega⟩
      ·rcases List.mem_cons.1 h with rfl | h
       ·exact ⟨by simp,by simp,by simp only;rw [h4];omega⟩
       ·exact ih _ (hd _) r h
     ·rcases List.mem_cons.1 h with rfl | h
      ·exact ⟨by simp only;omega,by simp,by simp only;rw [h1];omega⟩
      ·exact ih _ ht r h
theorem runs_len:∀ (f:Nat) (l:List Int),(runsN f l).length≤2*f:=by
 intro f
 induction f with
 | zero=>intro l;simp [runsN]
 | succ f ih=>
  intro l
  cases l with
  | nil=>simp [runsN]
  | cons x t=>
   rw [runsN]
   split
   ·have:=ih ((x::t).drop (min (sameK x t+1) 138));simp only [List.length_cons];omega
   ·split
    ·have:=ih ((x::t).drop (sameK x t+1));simp only [List.length_cons];omega
    ·split
     ·have:=ih ((x::t).drop (min (sameK x t+1) 7));simp only [List.length_cons];omega
     ·have:=ih t;simp only [List.length_cons];omega
theorem richR_ok{l:List Tok}(hl:∀ t∈l,TokOk t)(hn:l.length≤1000000):∀ r∈richR l,RunOk r:=by
 have h1:=richL_made hl hn
 have h2:=richD_made hl hn
 exact runs_ok _ _ fun x hx=>by
  rcases List.mem_append.1 hx with h | h
  ·exact h1.all x h
  ·exact h2.all x h
theorem richR_len{l:List Tok}(hl:∀ t∈l,TokOk t)(hn:l.length≤1000000):(richR l).length≤632:=by
 have h1:=(richL_made hl hn).hi
 have h2:=(richD_made hl hn).hi
 have:=runs_len (richL l++richD l).length (richL l++richD l)
 rw [lJ] at this
 unfold richR runsF
 rw [lJ]
 omega
theorem runFq_get{rs:List Run}(hr:∀ r∈rs,RunOk r)(j:Nat):(runFq rs).getD j 0=((rs.map Run.sym).countP fun x=>decide (x=(j:Int)):Nat):=by
 unfold runFq
 rw [bumpF_get,zeros_get,Int.zero_add]
 intro x hx
 obtain ⟨r,h1,rfl⟩:=List.mem_map.1 hx
 have:=(hr r h1).sym
 exact ⟨r.sym.toNat,by omega,by unfold Qm;rw [List.length_replicate];omega⟩
theorem run_ok{rs:List Run}(hr:∀ r∈rs,RunOk r)(hn:rs.length≤1000000):LenOk (runFq rs) 7 (resF (runFq rs) 7):=by
 refine len_ok (errF_ok (by omega) (by rw [runFq_len];omega) (fun f hf=>?_) (by rw [runFq_len];decide))
 obtain ⟨j,_,rfl⟩:=mem_getD hf
 rw [runFq_get hr]
 have:=List.countP_le_length (p:=fun x:Int=>decide (x=(j:Int))) (l:=rs.map Run.sym)
 rw [List.length_map] at this
 omega
theorem runL_len{rs:List Run}(hr:∀ r∈rs,RunOk r)(hn:rs.length≤1000000):(runL rs).length=19:=by
 rw [← runFq_len rs];exact (run_ok hr hn).len
theorem runL_made{rs:List Run}(hr:∀ r∈rs,RunOk r)(hn:rs.length≤1000000):Made (runL rs) 19 19:=by
 have h:=run_ok hr hn
 have hc:=h.cod
 have hl:=runL_len hr hn
 exact ⟨by omega,by omega,h.all,hc.1,hc.2.1⟩
theorem runL_7{rs:List Run}(hr:∀ r∈rs,RunOk r)(hn:rs.length≤1000000)(j:Nat):0≤(runL rs).getD j 0∧(runL rs).getD j 0≤7:=by
 rcases Nat.lt_or_ge j 19 with h | h
 ·have:=(run_ok hr hn).get j (by rw [runFq_len];exact h)
  unfold runL
  omega
 ·rw [List.getD_eq_getElem?_getD,List.getElem?_eq_none (by rw [runL_len hr hn];exact h)];simp
theorem runL_pos{rs:List Run}(hr:∀ r∈rs,RunOk r)(hn:rs.length≤1000000){r:Run}(h:r∈rs):0<(runL rs).getD r.sym.toNat 0:=by
 have h1:=(run_ok hr hn).get r.sym.toNat (by rw [runFq_len];have:=(hr r h).sym;omega)
 have h3:0<(runFq rs).getD r.sym.toNat 0:=by
  rw [runFq_get hr]
  have:=count_pos (l:=rs.map Run.sym) (x:=(r.sym.toNat:Int)) (List.mem_map.2 ⟨r,h,by have:=(hr r h).sym;omega⟩)
  omega
 unfold runL
 omega
theorem sorted_len(ls:List Int):4≤(sortedF ls).length∧(sortedF ls).length≤19:=by
 unfold sortedF
 rw [trimF_len]
 have h1:=trimK_ge (ordF.map fun s=>ls.getD s 0) 4 (ordF.map fun s=>ls.getD s 0).length (by rw [List.length_map];decide)
 have h2:=trimK_le' (ordF.map fun s=>ls.getD s 0) 4 (ordF.map fun s=>ls.getD s 0).length
 rw [List.length_map] at h1 h2 ⊢
 exact ⟨h1,h2⟩
theorem sorted_7{rs:List Run}(hr:∀ r∈rs,RunOk r)(hn:rs.length≤1000000):∀ x∈sortedF (runL rs),0≤x∧x≤7:=fun x hx=>by
 obtain ⟨s,_,rfl⟩:=List.mem_map.1 (trimF_mem hx)
 exact runL_7 hr hn s
end Go.Proofs.YthekdeikodppkaaGreatDoor
namespace Go.Proofs
open Go.Shelf Go.RowKit
def Tryz.layCompare_ren:Go.Shelf.Ren:=⟨fun | 106=>187 | 213=>263 | 265=>320 | n=>n,fun | 9=>9 | 3=>3 | n=>n,fun | n=>n⟩
theorem Tryz.layCompare:Go.Proofs.Lays.n106 Tryz.prog Tryz.layCompare_ren:={
 mixed:=by kernel_rfl
 f106:=Tryz.func187.trans (congrArg some (by kernel_rfl))
 f213:=Tryz.func263.trans (congrArg some (by kernel_rfl))
 f265:=Tryz.func320.trans (congrArg some (by kernel_rfl))
 t3:=Tryz.underlying3
 a3:=Tryz.isAgg3
 z3:=Tryz.sizeOf3
 v3:=Tryz.zeroValue3
 t9:=Tryz.underlying9
 a9:=Tryz.isAgg9
 z9:=Tryz.sizeOf9
 v9:=Tryz.zeroValue9 }
end Go.Proofs
namespace Go.Proofs.YthekdeikodppkaaGreatDoor
open Go.RowKit
set_option maxHeartbeats 800000 in
theorem ptcompare_any{a b:ByteArray}(ha:a.size≤4096)(hb:b.size≤4096)(w:World):Calls Tryz.prog 124 #[.string a,.string b] w (fun e w'=>e=.returned (.int .i64 (cmpI (pkey a) (pkey b)))∧w'=w):=by
 have hC:=jd (Any.strings_Compare (P:=Tryz.prog) Tryz.layCompare a b w)
 rw [pkey_cmp ha hb] at hC
 obtain ⟨c,hc⟩:∃ c,Hid (cmpI (pkey a) (pkey b)=c):=⟨_,rfl⟩
 rw [hc.out] at hC ⊢
 go_enter Tryz.func124,Tryz.ntmps124
 go_wp2_with fail
 refine hC.out.mono ?_
 rintro e w1 ⟨rfl,rfl⟩
 go_wp2
 go_ret
 exact ⟨rfl,rfl⟩
def fkey(x:FileP):Int:=pkey x.path
def fok(x:FileP):Prop:=x.path.size≤4096
set_option maxHeartbeats 1600000 in
theorem fmcmp_any(w0:World)(ps:List Piece)(B:Nat):SF.Cmps w0 ps B fok fkey:=by
 intro wz row H0 x y hx hy
 have H:=(Own.start wz).alloc2 (.cells #[.string x.path,.string x.data] 47) (.cells #[.string y.path,.string y.data] 47)
 have hC:=jd (ptcompare_any hx hy)
 rw [show cmpI (pkey x.path) (pkey y.path)=cmpI (fkey x) (fkey y) from rfl] at hC
 obtain ⟨c,hc⟩:∃ c,Hid (cmpI (fkey x) (fkey y)=c):=⟨_,rfl⟩
 rw [hc.out] at hC ⊢
 unfold SF.ca SF.cg fval
 go_enter Tryz.func123,Tryz.ntmps123
 go_upto_region 1 with (fail)
 generalize (wz.alloc _).alloc _=w1 at *
 obtain ⟨gr,hgr⟩:∃ g,wz.heap.size+1=g:=⟨_,rfl⟩
 rw [hgr] at H ⊢
 generalize wz.heap.size=g at *
 clear hgr
 have c0:=H.cells
 have c1:=(H.front 1 rfl).cells
 go_wp2_with fail
 refine (hC.out _).mono ?_
 rintro e w2 ⟨rfl,hw2⟩
 obtain rfl:w1=w2:=hw2.symm
 go_wp2
 go_ret
 exact ⟨_,rfl,rfl,H.bare⟩
end Go.Proofs.YthekdeikodppkaaGreatDoor
namespace Go.Proofs.YthekdeikodppkaaGreatDoor
open Go.RowKit
theorem fileInfo:(Tryz.prog.info? 47).map (fun i=>(i.zero,i.size,i.bytes))=some (some (.agg #[.string ⟨#[]⟩,.string ⟨#[]⟩]),2,32):=by kernel_rfl
theorem frows_one(l:List FileP):∀ u∈rows fe l,u.oneCell'=true:=by
 intro u hu
 rw [rows,List.mem_flatMap] at hu
 obtain ⟨x,-,hx⟩:=hu
 exact SF.e_one x u hx
set_option maxRecDepth 100000 in
set_option maxHeartbeats 1600000 in
theorem fmclone_any{w:World}{v:Value}{n:Nat}{l:List FileP}(hr:Rd w 2 v n (rows fe l))(hn:n≤1000000) :
 Calls Tryz.prog 121 #[v] w (Ret fun r w'=>Own w w' (slc 47 2 r n (rows fe l)::[])):=by
 obtain ⟨a,c,rfl,hc1,hc2⟩:=hr.shape
 cases a with
 | none=>
  obtain ⟨hl,a',c',e,h1,h2,h3,h4⟩:=id hr
  cases e
  obtain ⟨rfl,rfl⟩:=h3 rfl
  have hz:rows fe l=[]:=eJ (by rw [hl])
  rw [hz]
  clear hr h4 hl h3 hz
  have heq:∀ w,(binOp .eql 22 (.slice none 0 0) (.slice none 0 0)).run Tryz.prog w=.ok (.bool true) w:=fun w=>Lib.run_eql_slice_nil w _ _ none 0 0 0 0 Tryz.underlying22
  go_enter Tryz.func121,Tryz.ntmps121
  go_wp2
  go_ret
  exact ⟨_,rfl,(Own.start w).nil 47 2⟩
 | some ad=>
  have H:=(Own.start w).made [] 47 2 0 rfl (by decide)
  have hr2:=hr.old H
  clear hr
  have heq:∀ w,(binOp .eql 22 (.slice (some ad) n c) (.slice none 0 0)).run Tryz.prog w=.ok (.bool false) w:=fun w=>Lib.run_eql_slice_nil w _ _ (some ad) n c 0 0 Tryz.underlying22
  go_enter Tryz.func121,Tryz.ntmps121
  go_wp2_with (at_builtin;refine Qn rfl _ _ rfl Tryz.underlying22 fileInfo rfl (by decide) rfl H hr2 (frows_one _) (by omega) (by omega) ?_;clear H hr2;intro v' w' H)
  rw [Nat.zero_add,List.nil_append] at H
  go_wp2
  go_ret
  exact ⟨_,rfl,H⟩
theorem fmins_nil(w:World):Calls Tryz.prog 261 #[.slice none 0 0,.int .i64 0,.int .i64 0,SF.cf 0] w (Ret fun _ w'=>w'=w):=by
 go_enter Tryz.func261,Tryz.ntmps261
 go_wp2_with fail
 go_loopw [8] (fun v8 wx=>v8=.int .i64 1∧wx=w) (fun _ _=>0)
 case atStart=>exact ⟨by go_num,rfl⟩
 case round=>
  obtain ⟨rfl,rfl⟩:=hrel
  go_wp2
  go_end0
  exact ⟨_,rfl,rfl⟩
set_option maxHeartbeats 1600000 in
theorem fmstab_nil(w:World):Calls Tryz.prog 186 #[.slice none 0 0,.int .i64 0,SF.cf 0] w (Ret fun _ w'=>w'=w):=by
 have hI:=jd fmins_nil
 go_enter Tryz.func186,Tryz.ntmps186
 go_wp2_with fail
 go_loopw [7,8] (fun v7 v8 wx=>v7=.int .i64 0∧v8=.int .i64 20∧wx=w) (fun _ _ _=>0)
 case atStart=>exact ⟨by go_num,by go_num,rfl⟩
 case round=>
  obtain ⟨rfl,rfl,rfl⟩:=hrel
  go_wp2_with fail
  refine (hI.out _).mono ?_
  rintro e w2 ⟨_,rfl,hw2⟩
  obtain rfl:wr=w2:=hw2.symm
  go_wp2_with fail
  go_loopw [6,7,8] (fun v6 _ _ wx=>v6=.int .i64 20∧wx=wr) (fun _ _ _ _=>0)
  case atStart=>exact ⟨rfl,rfl⟩
  case round=>
   obtain ⟨rfl,hw3⟩:=hrel
   go_wp2
   go_end0
   exact ⟨_,rfl,(by first | exact hw3 | rfl)⟩
set_option maxRecDepth 100000 in
set_option maxHeartbeats 1600000 in
theorem fmsorted_any{w0 w:World}{ps:List Piece}{v:Value}{n:Nat}{l:List FileP}(hl:l.length=n)(hn:n≤1000000)(hok:∀ x∈l,fok x)(H:Own w0 w (slc 47 2 v n (rows fe l)::ps)) :
 Calls Tryz.prog 122 #[v,SF.cf 0] w (Ret fun _ w'=>Own w0 w' (slc 47 2 v n (rows fe (sortF fkey l))::ps)):=by
 rcases H.slc_cases with ⟨rfl,rfl,hx,H2⟩ | ⟨g,cap,cur,rfl,-,hc1,hc2,-,-,-⟩
 ·obtain rfl:=eJ hl
  have hI:=jd fmstab_nil
  go_enter Tryz.func122,Tryz.ntmps122
  go_wp2_with fail
  refine (hI.out _).mono ?_
  rintro e w2 ⟨_,rfl,hw2⟩
  obtain rfl:w=w2:=hw2.symm
  go_wp2
  go_end0
  exact ⟨_,rfl,H⟩
 ·have hS:=jd (SF.stable_any (fmcmp_any w0 ps 0) hok hl.symm hn H)
  go_enter Tryz.func122,Tryz.ntmps122
  go_wp2_with fail
  refine hS.out.mono ?_
  rintro e w2 ⟨_,rfl,H2⟩
  go_wp2
  go_end0
  exact ⟨_,rfl,H2⟩
set_option maxRecDepth 100000 in
set_option maxHeartbeats 1600000 in
theorem fmsort_any{w:World}{v:Value}{n:Nat}{l:List FileP}(hr:Rd w 2 v n (rows fe l))(hn:n≤1000000)(hok:∀ x∈l,fok x) :
 Calls Tryz.prog 75 #[v] w (Ret fun r w'=>Own w w' (slc 47 2 r n (rows fe (sortF fkey l))::[])):=by
 have hl:l.length=n:=by have:=hr.len;rw [Qp fe (k:=2) SF.e_length] at this;omega
 have hC:=jd (fmclone_any hr hn)
 have hS:=jd fun w' v' (h:Own w w' (slc 47 2 v' n (rows fe l)::[]))=>fmsorted_any hl hn hok h
 clear hr
 go_enter Tryz.func75,Tryz.ntmps75
 go_wp2_with fail
 refine hC.out.mono ?_
 rintro e w2 ⟨r,rfl,H2⟩
 go_wp2_with fail
 refine (hS.out _ _ H2).mono ?_
 rintro e w3 ⟨_,rfl,H3⟩
 go_wp2
 go_ret
 exact ⟨_,rfl,H3⟩
def HshG(g:Nat)(h left:List Int)(n:Nat):Piece:=
 ex fun v:Value=>star (blk g (.cells (wds h++[v,Value.int .i64 n]).toArray 241)) (slc 5 1 v left.length (left.map (Value.int .u8)))
def Hsh(g:Nat)(t:List Int):Piece:=HshG g (feedF sh0 t).1 (feedF sh0 t).2 t.length
section
variable {w0 w:World} {ps:List Piece} {g n:Nat} {h left:List Int}
theorem Own.hsh(H:Own w0 w (HshG g h left n::ps)):∃ a c,left.length≤c∧c≤9223372036854775807∧Own w0 w (blk g (.cells (wds h++[Value.slice a left.length c,Value.int .i64 n]).toArray 241)::slc 5 1 (.slice a left.length c) left.length (left.map (Value.int .u8))::ps):=by
 obtain ⟨v,H⟩:=H.ex
 have H:=H.star
 obtain ⟨a,c,rfl,h1,h2⟩:=(H.front 1 rfl).rd.shape
 exact ⟨a,c,h1,h2,H⟩
theorem Own.unhsh{a:Value}(H:Own w0 w (blk g (.cells (wds h++[a,Value.int .i64 n]).toArray 241)::slc 5 1 a left.length (left.map (Value.int .u8))::ps)):Own w0 w (HshG g h left n::ps):=Own.unex a (Own.unstar H)
end
theorem bn_bc(s:ByteArray):byteCells s=(bn s).map (Value.int .u8):=by simp [byteCells,bn]
theorem hsh_cell8{h:List Int}(hl:h.length=8)(v u:Value):(wds h++[v,u]).toArray[8]?=some v∧(wds h++[v,u]).toArray[9]?=some u:=by
 rw [eight hl];exact ⟨rfl,rfl⟩
theorem hsh_set8{h:List Int}(hl:h.length=8)(v u x:Value):(wds h++[v,u]).toArray.setIfInBounds 8 x=(wds h++[x,u]).toArray:=by
 rw [eight hl];rfl
theorem hsh_set9{h:List Int}(hl:h.length=8)(v u x:Value):(wds h++[v,u]).toArray.setIfInBounds 9 x=(wds h++[v,x]).toArray:=by
 rw [eight hl];rfl
theorem hsh_set0{h d:List Int}(hl:h.length=8)(hd:d.length=8)(v u:Value):((wds h++[v,u]).toArray.toList.take 0++wds d++(wds h++[v,u]).toArray.toList.drop (0+(wds d).length)).toArray=(wds d++[v,u]).toArray:=by
 rw [eight hl,eight hd];rfl
theorem hsh_size{h:List Int}(hl:h.length=8)(v u:Value):(wds h++[v,u]).toArray.size=10:=by
 rw [eight hl];rfl
theorem hsh_load{w0 w:World}{ps:List Piece}{g:Nat}{h:List Int}{v u:Value}(hl:h.length=8)(H:Own w0 w (blk g (.cells (wds h++[v,u]).toArray 241)::ps)) :
 (Instr.loadAt 239 (.pointer (some ⟨g,0,none⟩))).run Tryz.prog w=.ok (.agg (wds h).toArray) w:=by
 refine run_loadAt_mid w g 0 239 (wds h) _ (fun j x hx=>?_) Tryz.underlying239 rfl (by rw [Qi,hl];kernel_rfl)
 rw [Nat.zero_add,H.cells,List.getElem?_toArray,List.getElem?_append_left (by exact (gJ hx).1)]
 exact hx
theorem shnew_any(w:World):Calls Tryz.prog 90 #[] w (Ret fun v w'=>∃ g,v=.pointer (some ⟨g,0,none⟩)∧Own w w' (Hsh g []::[])):=by
 have H:=(Own.start w).alloc (.cells #[.int .u32 1779033703,.int .u32 3144134277,.int .u32 1013904242,.int .u32 2773480762,.int .u32 1359893119,.int .u32 2600822924,.int .u32 528734635,.int .u32 1541459225,.slice none 0 0,.int .i64 0] 241)
 go_enter Tryz.func90,Tryz.ntmps90
 go_wp2
 go_ret
 refine ⟨_,rfl,_,rfl,?_⟩
 have h2:=((H.nil 5 1).swap)
 unfold Hsh
 rw [feed_less (by decide)]
 exact Own.unhsh (h:=sh0) (left:=[]) (n:=0) (a:=.slice none 0 0) h2
set_option maxRecDepth 100000 in
set_option maxHeartbeats 6400000 in
theorem shwrite_any{w0 w:World}{ps:List Piece}{g n:Nat}{h left:List Int}(s:ByteArray)(hh:h.length=8)(H0:Own w0 w (HshG g h left n::ps))(hn:n+s.size≤1000000000000)(hl64:left.length<64) :
 Calls Tryz.prog 91 #[.pointer (some ⟨g,0,none⟩),.string s] w (Ret fun _ w'=>Own w0 w' (HshG g (feedF h (left++bn s)).1 (feedF h (left++bn s)).2 (n+s.size)::ps)):=by
 obtain ⟨a,c,hc1,hc2,H⟩:=H0.hsh
 clear H0
 obtain ⟨N,hN⟩:∃ N,Hid (left.length=N):=⟨_,rfl⟩
 rw [hN.out] at hc1 hl64 H
 obtain ⟨L,hL⟩:∃ L,Hid (left++bn s=L):=⟨_,rfl⟩
 have hLl:Hid (L.length=N+s.size):=jd (by rw [← hL.out,lJ,Qu,hN.out])
 have hLm:Hid (left.map (Value.int .u8)++byteCells s=L.map (Value.int .u8)):=jd (by rw [← hL.out,List.map_append,bn_bc])
 have HC8:=jd (hsh_cell8 hh)
 have h8:=(HC8.out (.slice a N c) (.int .i64 n)).1
 have h9:=(HC8.out (.slice a N c) (.int .i64 n)).2
 have hsz:=jd (hsh_size hh)
 obtain ⟨M,hM⟩:∃ M,Hid (n+s.size=M):=⟨_,rfl⟩
 have hnw:IntKind.i64.wrap ((n:Int)+(s.size:Int))=(M:Int):=by rw [IntWalk.i64_in _ ⟨by omega,by omega⟩,← hM.out];omega
 rw [hL.out,hM.out]
 obtain ⟨F1,F2,hF⟩:∃ F1 F2,Hid (feedF h L=(F1,F2)):=⟨_,_,rfl⟩
 rw [hF.out]
 dsimp only
 go_enter Tryz.func91,Tryz.ntmps91
 have c0:=H.cells
 go_upto_region 2 with (refine Qh rfl _ _ rfl rfl H rfl (by kernel_rfl) (by rw [hsz.out];decide) ?_;clear H c0;intro w1 H;rw [hsh_set9 hh] at H)
 clear hnw h8 h9
 have h8:=(HC8.out (.slice a N c) (.int .i64 M)).1
 have c0:=H.cells
 go_upto_block 0 with (first
  | (at_builtin;refine wpList_append_str rfl _ _ rfl Tryz.underlying58 Tryz.underlying9 u8Info rfl rfl H.swap rfl (by omega) ?_;clear H c0 h8;intro v' w' H;replace H:=H.swap;obtain ⟨a',c',rfl,h1',h2'⟩:=(H.front 1 rfl).rd.shape)
  | (refine Jd rfl _ _ rfl rfl H rfl (by kernel_rfl) (by rw [hsz.out];decide) ?_;clear H;intro w2 H;rw [hsh_set8 hh,hLm.out] at H))
 obtain ⟨K,hK⟩:∃ K,Hid (N+s.size=K):=⟨_,rfl⟩
 rw [hK.out] at H h1' hLl
 have hK9:K≤1000000000064:=by have:=hK.out;omega
 clear hc1 hc2 hN hK hL hLm hl64 hn
 simp only [Act.put]
 go_wp2_with fail
 go_loopw [] (fun wx=>∃ (h3 L3:List Int) (a3:Option Addr) (c3 m:Nat),h3.length=8∧Hid (feedF h3 L3=(F1,F2))∧L3.length=m∧m≤c3∧c3≤9223372036854775807∧m≤1000000000064∧Own w0 wx (blk g (.cells (wds h3++[Value.slice a3 m c3,Value.int .i64 M]).toArray 241)::sld 5 1 (.slice a3 m c3) m (L3.map (Value.int .u8))::ps)) (fun wx=>Jr ((wx.cell? ⟨g,8,none⟩).getD undef))
 case atStart=>exact ⟨h,L,_,_,K,hh,hF,hLl.out,h1',h2',hK9,(sld_of_slc H.swap).swap⟩
 case round=>
  clear H hF hLl hh HC8 hsz hK9
  obtain ⟨h3,L3,a3,c3,m,hh,hF,hm,h1,h2,hm9,H⟩:=hrel
  have HC8:=jd (hsh_cell8 hh)
  have hsz:=jd (hsh_size hh)
  have h8:=(HC8.out (.slice a3 m c3) (.int .i64 M)).1
  have hm0:Hid (Jr ((wr.cell? ⟨g,8,none⟩).getD undef)=m):=jd (by rw [H.cells,h8];rfl)
  have c0:=H.cells
  by_cases hlt:64≤m
  ·obtain ⟨B,hB⟩:∃ B,Hid (L3.take 64=B):=⟨_,rfl⟩
   obtain ⟨R,hR⟩:∃ R,Hid (L3.drop 64=R):=⟨_,rfl⟩
   obtain ⟨h4,hh4⟩:∃ x,Hid (mixF h3 B=x):=⟨_,rfl⟩
   have hBl:Hid (B.length=64):=jd (by rw [← hB.out,List.length_take];omega)
   have hRl:Hid (R.length=m-64):=jd (by rw [← hR.out,List.length_drop];omega)
   have hl4:h4.length=8:=by rw [← hh4.out];exact mix_length hh _
   rw [feed_more (by omega),hB.out,hR.out,hh4.out] at hF
   have HMx:Hid (∀ w1,Own w0 w1 (blk g (.cells (wds h3++[Value.slice a3 m c3,Value.int .i64 M]).toArray 241)::sld 5 1 (.slice a3 m c3) m (L3.map (Value.int .u8))::ps)→Calls Tryz.prog 139 #[.agg (wds h3).toArray,.slice a3 64 c3] w1 (fun r w'=>r=.returned (.agg (wds h4).toArray)∧Own w0 w' (blk g (.cells (wds h3++[Value.slice a3 m c3,Value.int .i64 M]).toArray 241)::sld 5 1 (.slice a3 m c3) m (L3.map (Value.int .u8))::ps))):=jd fun w1 h1=>by
    have hr:=(h1.front 1 rfl).drd.take hlt
    rw [Nat.mul_one,← List.map_take,hB.out] at hr
    rw [← hh4.out]
    exact (shmix_any hh hBl.out hr).mono fun e w2 g2=>⟨g2.1,h1.join g2.2⟩
   have hltI:(64:Int)≤(m:Int):=by omega
   have hc64:64≤c3:=by omega
   have hc64I:(64:Int)≤(c3:Int):=by omega
   obtain ⟨tv,htv⟩:∃ v,Hid (sliced a3 64 m c3 1=v):=⟨_,rfl⟩
   have hsl:∀ w,(Instr.sliceAt 58 (.slice a3 m c3) (some (.int .i64 64)) none none).run Tryz.prog w=.ok tv w:=fun w=>slc_low (k:=64) (by kernel_rfl) (fun _=>by kernel_rfl) hlt htv.out w
   obtain ⟨ta,tc,rfl⟩:∃ ta tc,tv=.slice ta (m-64) tc:=⟨_,_,htv.out.symm⟩
   have htc:m-64≤tc∧tc≤9223372036854775807:=by
    obtain ⟨a9,c9,e9,k1,k2⟩:=((H.front 1 rfl).dcut hlt htv.out).drd.shape
    cases e9;exact ⟨k1,k2⟩
   go_upto_region 4 with (fail)
   clear c0
   refine Qa (fun w1=>Own w0 w1 (blk g (.cells (wds h3++[Value.slice a3 m c3,Value.int .i64 M]).toArray 241)::sld 5 1 (.slice a3 m c3) m (L3.map (Value.int .u8))::ps)) 13 (by kernel_rfl) (by kernel_rfl) H.drew ?_
   simp only [List.take_succ_cons,List.take_zero,List.drop_succ_cons,List.drop_zero]
   repeat
    first
    | (refine calm_value (v:=?_) (by decide) rfl (fun σ w1 hS=>?_) ?_
       rotate_left
       ·have c0:=hS.cells
        first | (go_simp;rfl) | rfl
       simp only [Act.put,putC])
    | (refine calm_skip (by decide) rfl ?_
       simp only [Act.put,putC])
   refine calm_value (v:=.agg (wds h3).toArray) (by decide) rfl (fun σ w1 hS=>exec_load rfl rfl (hsh_load hh hS)) ?_
   simp only [Act.put,putC]
   repeat
    first
    | (refine calm_value (v:=?_) (by decide) rfl (fun σ w1 hS=>?_) ?_
       rotate_left
       ·have c0:=hS.cells
        first | (go_simp;rfl) | rfl
       simp only [Act.put,putC])
    | (refine calm_skip (by decide) rfl ?_
       simp only [Act.put,putC])
   refine calm_call (v:=.agg (wds h4).toArray) (by decide) rfl (fun w1=>(by go_simp)) (fun σ w1 hS=>HMx.out w1 hS) ?_
   simp only [Act.put,putC]
   repeat
    first
    | (refine calm_value (v:=?_) (by decide) rfl (fun σ w1 hS=>?_) ?_
       rotate_left
       ·have c0:=hS.cells
        first | (go_simp;rfl) | rfl
       simp only [Act.put,putC])
    | (refine calm_skip (by decide) rfl ?_
       simp only [Act.put,putC])
   refine calm_nil ?_
   intro wd HD
   clear H HMx
   go_upto_region 5 with (refine Qe rfl _ _ rfl rfl HD rfl (by rw [Qi,hl4];kernel_rfl) (by rw [hsz.out,Qi,hl4];decide) (wds_one _) (hsh_set0 hh hl4 _ _) ?_;clear HD;intro w3 HD)
   have HC8':=jd (hsh_cell8 hl4)
   have hsz':=jd (hsh_size hl4)
   have h8':=(HC8'.out (.slice a3 m c3) (.int .i64 M)).1
   have c0:=HD.cells
   simp only [Act.put]
   have hmr:Hid (Jr ((wr.cell? ⟨g,8,none⟩).getD undef)=m):=hm0
   go_wp2_with (refine Jd rfl _ _ rfl rfl HD rfl (by kernel_rfl) (by rw [hsz'.out];decide) ?_;clear c0;intro w5 H5;rw [hsh_set8 hl4] at H5)
   have H6:=((H5.swap).dcut hlt htv.out).swap
   rw [Nat.mul_one,← List.map_drop,hR.out] at H6
   trace_state
   simp only [Act.put]
   go_roundw
   case rel=>exact ⟨h4,R,ta,tc,m-64,hl4,hF,hRl.out,htc.1,htc.2,by omega,H6⟩
   case measure=>
    rw [hmr.out,H6.cells,(HC8'.out (.slice ta (m-64) tc) (.int .i64 M)).1]
    show m-64<m
    omega
  ·have hltI:¬ (64:Int)≤(m:Int):=by omega
   rw [feed_less (by omega)] at hF
   obtain ⟨e1,e2⟩:=Prod.mk.inj hF.out
   subst e1;subst e2
   subst hm
   have c0:=H.cells
   go_wp2_with (first
    | (at_builtin;refine Qn rfl _ _ rfl Tryz.underlying58 u8Info rfl (by decide) rfl (H.nil 5 1) (H.front 1 rfl).drd (by simp [Value.oneCell']) (by omega) (by omega) ?_;clear c0;intro v' w' H4;obtain ⟨a',c',rfl,g1,g2⟩:=H4.rd.shape)
    | (refine Jd rfl _ _ rfl rfl (H4.front 1 rfl) rfl (by kernel_rfl) (by rw [hsz.out];decide) ?_;clear H4;intro w5 H4;rw [hsh_set8 hh] at H4))
   go_end0
   rw [Nat.zero_add] at H4
   exact ⟨_,rfl,Own.unhsh (a:=.slice a' L3.length c') (H4.front 2 rfl).drop⟩
theorem Own.headRd{w0 w:World}{ps:List Piece}{p:Piece}{e:TypeId}{size n:Nat}{v:Value}{xs:List Value}(H:Own w0 w (p::slc e size v n xs::ps)):Rd w size v n xs:=(H.front 1 rfl).rd
def bts(l:List Int):List Value:=l.map (Value.int .u8)
theorem Qx(l:List Int):(bts l).length=l.length:=List.length_map _
theorem bts_one(l:List Int):∀ u∈bts l,u.oneCell'=true:=by
 intro u hu
 obtain ⟨x,-,rfl⟩:=List.mem_map.1 hu
 rfl
theorem Zv(a b:List Int):bts (a++b)=bts a++bts b:=List.map_append
theorem hsh_old{w0 w:World}{ps:List Piece}{g n c:Nat}{h left:List Int}{a:Option Addr}(hh:h.length=8)(H:Own w0 w (blk g (.cells (wds h++[Value.slice a left.length c,Value.int .i64 n]).toArray 241)::slc 5 1 (.slice a left.length c) left.length (left.map (Value.int .u8))::ps)) :
 ∀ w' qs,Own w w' qs→w'.cell? ⟨g,8,none⟩=some (.slice a left.length c)∧w'.cell? ⟨g,9,none⟩=some (.int .i64 n)∧Rd w' 1 (.slice a left.length c) left.length (bts left)∧(Instr.loadAt 239 (.pointer (some ⟨g,0,none⟩))).run Tryz.prog w'=.ok (.agg (wds h).toArray) w':=fun w' qs h2=>by
 have h3:=H.join h2
 obtain ⟨b1,-⟩:=H.block
 have hlt:g<w.heap.size:=(Array.getElem?_eq_some_iff.1 b1).1
 have c0:∀ i,w'.cell? ⟨g,i,none⟩=(wds h++[Value.slice a left.length c,Value.int .i64 n]).toArray[i]?:=fun i=>by rw [h2.oldCell hlt,H.cells]
 refine ⟨by rw [c0,(hsh_cell8 hh _ _).1],by rw [c0,(hsh_cell8 hh _ _).2],H.headRd.old h2,?_⟩
 refine run_loadAt_mid w' g 0 239 (wds h) _ (fun j x hx=>?_) Tryz.underlying239 rfl (by rw [Qi,hh];kernel_rfl)
 rw [Nat.zero_add,c0,List.getElem?_toArray,List.getElem?_append_left (by exact (gJ hx).1)]
 exact hx
set_option maxRecDepth 100000 in
set_option maxHeartbeats 6400000 in
theorem shsum_any{w0 w:World}{ps:List Piece}{g n:Nat}{h left:List Int}(hh:h.length=8)(H0:Own w0 w (HshG g h left n::ps))(hn:n≤1000000000000)(hl64:left.length<64) :
 Calls Tryz.prog 93 #[.pointer (some ⟨g,0,none⟩)] w (fun e w'=>e=.returned (.string (strOfNums (shOutF (allF h (tailF left n)) 8)))∧Own w w' []):=by
 obtain ⟨RES,hRES⟩:∃ s,Hid (strOfNums (shOutF (allF h (tailF left n)) 8)=s):=⟨_,rfl⟩
 rw [hRES.out]
 obtain ⟨a,c,hc1,hc2,H⟩:=H0.hsh
 have HX:=jd (hsh_old hh H)
 clear H0 H
 obtain ⟨N,hN⟩:∃ N,Hid (left.length=N):=⟨_,rfl⟩
 rw [hN.out] at HX hc1 hl64
 have H:=Own.start w
 have hnI:(n:Int)≤1000000000000:=by omega
 go_enter Tryz.func93,Tryz.ntmps93
 obtain ⟨c8,c9,hrd,hld⟩:=HX.out _ _ H
 clear hld
 go_upto_block 0 with (first
  | (at_builtin;refine Qn rfl _ _ rfl Tryz.underlying58 u8Info rfl (by decide) rfl (H.nil 5 1) hrd (bts_one _) (by omega) (by omega) ?_;clear H c8 c9 hrd;intro v1 w1 H;rw [Nat.zero_add,List.nil_append] at H;obtain ⟨a1,c1,rfl,g1,g2⟩:=H.rd.shape)
  | (at_builtin;refine Qf (news:=bts [128]) rfl _ _ rfl Tryz.underlying58 u8Info rfl (by decide) rfl H rfl rfl rfl (bts_one _) (by omega) (by omega) ?_;clear H g1 g2;intro v2 w2 H))
 rw [← Zv] at H
 obtain ⟨L,hL⟩:∃ L:List Int,Hid (left++[128]=L):=⟨left++[128],rfl⟩
 obtain ⟨Z,hZ⟩:∃ Z,Hid (shZerosF (N+1)=Z):=⟨_,rfl⟩
 have hZ2:(N+1+Z)%64=56∧Z≤63∧∀ k,k<Z→(N+1+k)%64≠56:=by have:=hZ.out;unfold shZerosF at this;refine ⟨by omega,by omega,fun k hk=>by omega⟩
 obtain ⟨hZ3,hZ4,hZ5⟩:=hZ2
 replace hZ5:=jd hZ5
 rw [hL.out] at H
 go_wp2_with fail
 go_loopw [3] (fun v3 wx=>∃ k m:Nat,k≤Z∧Hid (m=N+1+k)∧m≤130∧Own w wx (slc 5 1 v3 m (bts (L++List.replicate k 0))::[])) (fun v3 _=>200-Jr v3)
 case atStart=>exact ⟨0,N+1,by omega,jd rfl,by omega,by simpa using H⟩
 case round=>
  clear H
  obtain ⟨k,m,hk,hm,hm9,H⟩:=hrel
  obtain ⟨a3,c3,rfl,g1,g2⟩:=H.rd.shape
  have htm:(m:Int).tmod 64=((m%64:Nat):Int):=by rw [Int.tmod_eq_emod_of_nonneg (by omega)];omega
  by_cases hkZ:k<Z
  ·have hne:(((m%64:Nat):Int)==56)=false:=by
    have:=hZ5.out k hkZ
    rw [← hm.out] at this
    simp;omega
   obtain ⟨q,hq⟩:∃ q,Hid (m%64=q):=⟨_,rfl⟩
   rw [hq.out] at htm hne
   have hne2:((q:Int) != 56)=true:=by simp only [bne,hne];rfl
   go_wp2_with (at_builtin;refine Qf (news:=bts [0]) rfl _ _ rfl Tryz.underlying58 u8Info rfl (by decide) rfl H rfl rfl rfl (bts_one _) (by omega) (by omega) ?_;clear H g1 g2;intro v2 w2 H)
   rw [← Zv,List.append_assoc,show List.replicate k (0:Int)++[0]=List.replicate (k+1) 0 from by rw [List.replicate_succ']] at H
   obtain ⟨a4,c4,rfl,g1,g2⟩:=H.rd.shape
   go_roundw
   case rel=>exact ⟨k+1,m+1,by omega,jd (by have:=hm.out;omega),by have:=hm.out;omega,H⟩
   case measure=>simp [Jr];omega
  ·obtain rfl:k=Z:=by omega
   have hm56:m%64=56:=by rw [hm.out];exact hZ3
   rw [hm56] at htm
   go_upto_region 7 with (fail)
   clear hZ5 hk hkZ htm hm56
   obtain ⟨T,hT⟩:∃ T:List Int,Hid (L++List.replicate k 0=T):=⟨L++List.replicate k 0,rfl⟩
   have hTT:Hid (tailF left n=T++lenF n 8):=jd (by rw [tailF,hL.out,hN.out,hZ.out,hT.out])
   rw [hT.out] at H
   have hTl:Hid (T.length=m):=jd (by have:=H.slc_len;rw [Qx] at this;omega)
   go_wp2_with fail
   go_loopw [3,4,26] (fun v3 _ v26 wx=>∃ i:Nat,v26=.int .i64 i∧i≤8∧Own w wx (slc 5 1 v3 (m+i) (bts (T++lenF n i))::[])) (fun _ _ v26 _=>8-(intOf v26).toNat)
   case atStart=>exact ⟨0,by go_num,by omega,by simpa [lenF] using H⟩
   case round=>
    clear H g1 g2
    obtain ⟨i,rfl,hi,H⟩:=hrel
    obtain ⟨a5,c5,rfl,g1,g2⟩:=H.rd.shape
    by_cases hi8:i<8
    ·obtain ⟨q,hq⟩:∃ q,Hid (56-8*i=q):=⟨_,rfl⟩
     obtain ⟨y,hy⟩:∃ y,Hid (lenByte n i=y):=⟨_,rfl⟩
     have hy2:IntKind.u8.wrap ((n:Int)*8/2^q)=y:=by rw [← hy.out,lenByte,hq.out]
     have e1:IntKind.i64.wrap (8*(i:Int))=8*(i:Int):=IntWalk.i64_in _ ⟨by omega,by omega⟩
     have e2:IntKind.i64.wrap (56-8*(i:Int))=(q:Int):=by rw [IntWalk.i64_in _ ⟨by omega,by omega⟩];have:=hq.out;omega
     have e3:IntKind.i64.wrap ((n:Int)*8)=(n:Int)*8:=IntWalk.i64_in _ ⟨by omega,by omega⟩
     have e4:(q:Int)<64:=by have:=hq.out;omega
     have e5:¬ (q:Int)<0:=by omega
     have hiI:(i:Int)<8:=by omega
     have hstep:Hid (lenF n (i+1)=lenF n i++[y]):=jd (by rw [lenF,hy.out])
     obtain ⟨c8,c9,-⟩:=HX.out _ _ H
     go_wp2_with (at_builtin;refine Qf (news:=bts [y]) rfl _ _ rfl Tryz.underlying58 u8Info rfl (by decide) rfl H rfl rfl rfl (bts_one _) (by omega) (by omega) ?_;clear H g1 g2 c8 c9;intro v2 w2 H)
     rw [← Zv,List.append_assoc,← hstep.out] at H
     obtain ⟨a4,c4,rfl,g1,g2⟩:=H.rd.shape
     go_roundw
     case rel=>exact ⟨i+1,by go_num,by omega,H⟩
     case measure=>simp [intOf];omega
    ·obtain rfl:i=8:=by omega
     have hnI8:¬ ((8:Nat):Int)<8:=by omega
     rw [← hTT.out] at H
     obtain ⟨D,hD⟩:∃ D,Hid (tailF left n=D):=⟨_,rfl⟩
     have hDl:Hid (D.length=m+8):=jd (by rw [← hD.out,hTT.out,lJ,hTl.out,lenF_length])
     have hD64:Hid (D.length%64=0):=jd (by rw [← hD.out];exact tail_64 _ _)
     rw [hD.out] at H hRES
     clear hi hi8 hTT hT hTl hD hZ hZ3 hZ4 hL hN
     go_upto_region 12 with (fail)
     obtain ⟨-,-,-,hld⟩:=HX.out _ _ H
     go_upto_block 4 with (first
      | (refine wpList_load_by rfl _ rfl rfl hld ?_)
      | (refine wpList_store8 rfl _ _ rfl rfl z8_length hh (H.alloc (.cells #[.int .u32 0,.int .u32 0,.int .u32 0,.int .u32 0,.int .u32 0,.int .u32 0,.int .u32 0,.int .u32 0] 239)) rfl ?_;clear H hld;intro w3 H))
     simp only [Act.put]
     generalize wr.heap.size=gv at *
     obtain ⟨AL,hAL⟩:∃ A,Hid (allF h D=A):=⟨_,rfl⟩
     rw [hAL.out] at hRES
     have hALl:Hid (AL.length=8):=jd (by rw [← hAL.out];exact all_length _ _ _ (Nat.le_refl _) hh)
     replace H:=(sld_of_slc H.swap).swap
     have hm200:m+8≤200:=by omega
     clear hm9 hm g1 g2
     go_wp2_with fail
     go_loopw [3] (fun v3 wx=>∃ (vv D3:List Int) (m3:Nat),vv.length=8∧Hid (allF vv D3=AL)∧Hid (D3.length%64=0)∧D3.length=m3∧m3≤200∧Own w wx (blk gv (.cells (wds vv).toArray 239)::sld 5 1 v3 m3 (bts D3)::[])) (fun v3 _=>Jr v3)
     case atStart=>exact ⟨h,D,m+8,hh,hAL,hD64,hDl.out,hm200,H⟩
     case round=>
      clear H hAL hD64 hDl hm200
      obtain ⟨vv,D3,m3,hvv,hAL,hD64,hDl,hm200,H⟩:=hrel
      obtain ⟨a5,c5,rfl,g1,g2⟩:=(H.front 1 rfl).drd.shape
      by_cases h0:0<m3
      ·have h64:64≤m3:=by have:=hD64.out;omega
       obtain ⟨B,hB⟩:∃ B,Hid (D3.take 64=B):=⟨_,rfl⟩
       obtain ⟨R,hR⟩:∃ R,Hid (D3.drop 64=R):=⟨_,rfl⟩
       obtain ⟨v4,hh4⟩:∃ x,Hid (mixF vv B=x):=⟨_,rfl⟩
       have hBl:Hid (B.length=64):=jd (by rw [← hB.out,List.length_take];omega)
       have hRl:Hid (R.length=m3-64):=jd (by rw [← hR.out,List.length_drop];omega)
       have hRm:Hid (R.length%64=0):=jd (by have:=hD64.out;rw [hRl.out];omega)
       have hl4:v4.length=8:=by rw [← hh4.out];exact mix_length hvv _
       rw [all_more (by omega),hB.out,hR.out,hh4.out] at hAL
       have hld:Hid (∀ w',Own w w' (blk gv (.cells (wds vv).toArray 239)::sld 5 1 (.slice a5 m3 c5) m3 (bts D3)::[])→(Instr.loadAt 239 (.pointer (some ⟨gv,0,none⟩))).run Tryz.prog w'=.ok (.agg (wds vv).toArray) w'):=jd fun w' h=>by
        refine run_loadAt_mid w' gv 0 239 (wds vv) _ (fun j x hx=>?_) Tryz.underlying239 rfl (by rw [Qi,hvv];kernel_rfl)
        rw [Nat.zero_add,h.cells,List.getElem?_toArray]
        exact hx
       have HMx:Hid (∀ w1,Own w w1 (blk gv (.cells (wds vv).toArray 239)::sld 5 1 (.slice a5 m3 c5) m3 (bts D3)::[])→Calls Tryz.prog 139 #[.agg (wds vv).toArray,.slice a5 64 c5] w1 (fun r w'=>r=.returned (.agg (wds v4).toArray)∧Own w w' (blk gv (.cells (wds vv).toArray 239)::sld 5 1 (.slice a5 m3 c5) m3 (bts D3)::[]))):=jd fun w1 h1=>by
        have hr:=(h1.front 1 rfl).drd.take h64
        rw [Nat.mul_one,bts,← List.map_take,hB.out] at hr
        rw [← hh4.out]
        exact (shmix_any hvv hBl.out hr).mono fun e w2 g2=>⟨g2.1,h1.join g2.2⟩
       have h0I:(0:Int)<(m3:Int):=by omega
       have hc64:64≤c5:=by omega
       have hc64I:(64:Int)≤(c5:Int):=by omega
       obtain ⟨tv,htv⟩:∃ v,Hid (sliced a5 64 m3 c5 1=v):=⟨_,rfl⟩
       have hsl:∀ w,(Instr.sliceAt 58 (.slice a5 m3 c5) (some (.int .i64 64)) none none).run Tryz.prog w=.ok tv w:=fun w=>slc_low (k:=64) (by kernel_rfl) (fun _=>by kernel_rfl) h64 htv.out w
       obtain ⟨ta,tc,rfl⟩:∃ ta tc,tv=.slice ta (m3-64) tc:=⟨_,_,htv.out.symm⟩
       go_upto_region 15 with (fail)
       refine Qa (fun w1=>Own w w1 (blk gv (.cells (wds vv).toArray 239)::sld 5 1 (.slice a5 m3 c5) m3 (bts D3)::[])) 4 (by kernel_rfl) (by kernel_rfl) H.drew ?_
       simp only [List.take_succ_cons,List.take_zero,List.drop_succ_cons,List.drop_zero]
       refine calm_value (v:=.agg (wds vv).toArray) (by decide) rfl (fun σ w1 hS=>exec_load rfl rfl (hld.out w1 hS)) ?_
       simp only [Act.put,putC]
       repeat
        first
        | (refine calm_value (v:=?_) (by decide) rfl (fun σ w1 hS=>?_) ?_
           rotate_left
           ·skip
            first | (go_simp;rfl) | rfl
           simp only [Act.put,putC])
        | (refine calm_skip (by decide) rfl ?_
           simp only [Act.put,putC])
       refine calm_call (v:=.agg (wds v4).toArray) (by decide) rfl (fun w1=>(by go_simp)) (fun σ w1 hS=>HMx.out w1 hS) ?_
       simp only [Act.put,putC]
       refine calm_nil ?_
       intro wd HD
       clear H HMx hld
       refine wpList_store8 rfl _ _ rfl rfl hvv hl4 HD rfl ?_
       clear HD
       intro w5 H5
       simp only [Act.put]
       refine wpList_nil ?_
       have H6:=((H5.swap).dcut h64 htv.out).swap
       rw [Nat.mul_one,bts,← List.map_drop,hR.out] at H6
       go_wp2_with fail
       go_roundw
       case rel=>exact ⟨v4,R,m3-64,hl4,hAL,hRm,hRl.out,by omega,H6⟩
       case measure=>simp [Jr];omega
      ·obtain rfl:m3=0:=by omega
       obtain rfl:D3=[]:=eJ hDl
       rw [all_nil rfl] at hAL
       obtain rfl:vv=AL:=hAL.out
       clear hAL hD64 hDl hm200 hALl g1 g2 h0
       have h00:¬ (0:Int)<((0:Nat):Int):=by omega
       have hld:(Instr.loadAt 239 (.pointer (some ⟨gv,0,none⟩))).run Tryz.prog wr=.ok (.agg (wds vv).toArray) wr:=by
        refine run_loadAt_mid wr gv 0 239 (wds vv) _ (fun j x hx=>?_) Tryz.underlying239 rfl (by rw [Qi,hvv];kernel_rfl)
        rw [Nat.zero_add,H.cells,List.getElem?_toArray]
        exact hx
       go_upto_block 6 with (refine wpList_load_by rfl _ rfl rfl hld ?_)
       clear hld
       replace H:Own w wr (slc 5 1 (.slice none 0 0) (4*0) (bts (shOutF vv 0))::[]):=H.bare.nil 5 1
       go_wp2_with fail
       go_loopw [6,8,57] (fun v6 _ v57 wx=>∃ j:Nat,v57=.int .i64 j∧j≤8∧Own w wx (slc 5 1 v6 (4*j) (bts (shOutF vv j))::[])) (fun _ _ v57 _=>8-(intOf v57).toNat)
       case atStart=>exact ⟨0,by go_num,by omega,H⟩
       case round=>
        clear H
        obtain ⟨j,rfl,hj,H⟩:=hrel
        obtain ⟨a6,c6,rfl,g1,g2⟩:=H.rd.shape
        by_cases hj8:j<8
        ·have hjI:(j:Int)<8:=by omega
         obtain ⟨x,hx⟩:∃ x,Hid (vv.getD j 0=x):=⟨_,rfl⟩
         have hix:∀ w,(Instr.index 239 (.agg (wds vv).toArray) (.int .i64 j)).run Tryz.prog w=.ok (.int .u32 x) w:=fun w=>run_index_wds _ _ 8 _ j _ w Tryz.underlying239 (fun w=>(u32_one w).1) (fun w=>(u32_one w).2) hj8 (by rw [← hx.out];exact wds_get (by omega))
         have hnx:Hid (shOutF vv (j+1)=shOutF vv j++bytes4 x):=jd (by rw [shOutF,hx.out])
         go_wp2_with (at_builtin;refine wpList_append_new (news:=bts (bytes4 x)) (m:=4) rfl _ _ rfl Tryz.underlying58 u8Info rfl (by decide) rfl H rfl rfl (by decide) rfl (bts_one _) (by omega) (by omega) ?_;clear H g1 g2;intro v2 w2 H)
         rw [← Zv,← hnx.out] at H
         obtain ⟨a4,c4,rfl,g1,g2⟩:=H.rd.shape
         go_roundw
         case rel=>exact ⟨j+1,by go_num,by omega,H⟩
         case measure=>simp [intOf];omega
        ·obtain rfl:j=8:=by omega
         have hnJ8:¬ ((8:Nat):Int)<8:=by omega
         have hs:=Js (P:=Tryz.prog) 58 9 Tryz.underlying58 Tryz.underlying5 Tryz.underlying9 H.rd
         rw [hRES.out] at hs
         go_wp2
         go_ret
         exact ⟨rfl,H.bare⟩
theorem shwriteT{w0 w:World}{ps:List Piece}{g:Nat}{t:List Int}(s:ByteArray)(H:Own w0 w (Hsh g t::ps))(hb:t.length+s.size≤1000000000000) :
 Calls Tryz.prog 91 #[.pointer (some ⟨g,0,none⟩),.string s] w (Ret fun _ w'=>Own w0 w' (Hsh g (t++bn s)::ps)):=by
 obtain ⟨h1,h2⟩:=feed_ok _ sh0 t (Nat.le_refl _) rfl
 refine (shwrite_any s h1 H hb h2).mono ?_
 rintro e w' ⟨v,hv,h⟩
 rw [feed_append _ _ _ _ (Nat.le_refl _)] at h
 refine ⟨v,hv,?_⟩
 unfold Hsh
 rw [lJ,Qu]
 exact h
theorem shsumT{w0 w:World}{ps:List Piece}{g:Nat}{t:List Int}(H:Own w0 w (Hsh g t::ps))(hb:t.length≤1000000000000) :
 Calls Tryz.prog 93 #[.pointer (some ⟨g,0,none⟩)] w (fun e w'=>e=.returned (.string (shaF t))∧Own w w' []):=by
 obtain ⟨h1,h2⟩:=feed_ok _ sh0 t (Nat.le_refl _) rfl
 exact shsum_any h1 H hb h2
def bns(l:List ByteArray):List Int:=l.flatMap bn
theorem bns_take{l:List ByteArray}{i:Nat}{s:ByteArray}(h:l[i]?=some s):bns (l.take (i+1))=bns (l.take i)++bn s:=by
 rw [List.take_add_one,h]
 simp [bns]
theorem bns_le(l:List ByteArray)(i:Nat):(bns (l.take i)).length≤(bns l).length:=by
 have h:bns l=bns (l.take i)++bns (l.drop i):=by rw [bns,bns,bns,← List.flatMap_append,List.take_append_drop]
 rw [h,lJ]
 omega
set_option maxHeartbeats 1600000 in
theorem shsums_any{w:World}{v:Value}{n:Nat}{l:List ByteArray}(hr:Rd w 1 v n (txs l))(hb:(bns l).length≤1000000000000) :
 Calls Tryz.prog 63 #[v] w (fun e w'=>e=.returned (.string (shaF (bns l)))∧Own w w' []):=by
 obtain ⟨a,c,rfl,hc1,hc2⟩:=hr.shape
 have hl:l.length=n:=by have:=hr.len;rw [Qr] at this;omega
 obtain ⟨RES,hRES⟩:∃ s,Hid (shaF (bns l)=s):=⟨_,rfl⟩
 rw [hRES.out]
 have H:=Own.start w
 go_enter Tryz.func63,Tryz.ntmps63
 go_wp2_with fail
 refine (shnew_any w).mono ?_
 rintro e w1 ⟨_,rfl,g,rfl,H1⟩
 clear H
 go_wp2_with fail
 go_loopw [5,9] (fun _ v9 wx=>∃ i:Nat,v9=.int .i64 i∧i≤n∧Own w wx (Hsh g (bns (l.take i))::[])) (fun _ v9 _=>n-(intOf v9).toNat)
 case atStart=>exact ⟨0,by go_num,by omega,by simpa [bns] using H1⟩
 case round=>
  clear H1
  obtain ⟨i,rfl,hi,H⟩:=hrel
  by_cases hin:i<n
  ·have hiI:(i:Int)<(n:Int):=by omega
   obtain ⟨s,hs⟩:=Ql (l:=l) (k:=i) (by omega)
   obtain ⟨b,o,c',e⟩:=Rd.some hr (by rw [Qr];omega)
   obtain ⟨e,-,-⟩:=e
   cases e
   have hcell:=(hr.old H).cell (txs_get hs)
   have hw:=shwriteT s H (by
    have h1:=bns_le l (i+1)
    rw [bns_take hs,lJ,Qu] at h1
    omega)
   rw [← bns_take hs] at hw
   replace hw:=jd hw
   replace hs:=jd hs
   go_wp2_with fail
   refine hw.out.mono ?_
   rintro e w2 ⟨_,rfl,H2⟩
   clear H hw hcell
   go_wp2_with fail
   go_roundw
   case rel=>exact ⟨i+1,by go_num,by omega,H2⟩
   case measure=>simp [intOf];omega
  ·obtain rfl:i=n:=by omega
   rw [List.take_of_length_le (by omega)] at H
   have hS:=jd (shsumT H hb)
   rw [hRES.out] at hS
   go_wp2_with fail
   refine hS.out.mono ?_
   rintro e w2 ⟨rfl,H2⟩
   go_wp2
   go_ret
   exact ⟨rfl,(H.join H2).bare⟩
theorem mkwidth_any(w:World):Calls Tryz.prog 30 #[.int .i64 32] w (fun e w'=>e=.returned (.int .i64 32)∧w'=w):=by
 go_enter Tryz.func30,Tryz.ntmps30
 go_wp2
 go_ret
 exact ⟨rfl,rfl⟩
set_option maxHeartbeats 800000 in
theorem mksum_any{w:World}{v:Value}{n:Nat}{l:List ByteArray}(hr:Rd w 1 v n (txs l))(hb:(bns l).length≤1000000000000) :
 Calls Tryz.prog 31 #[.int .i64 32,v] w (fun e w'=>e=.returned (.string (shaF (bns l)))∧Own w w' []):=by
 have hS:=jd (shsums_any hr hb)
 have hsz:(shaF (bns l)).size=32:=shaF_size _
 obtain ⟨R,hR⟩:∃ s,Hid (shaF (bns l)=s):=⟨_,rfl⟩
 rw [hR.out] at hS hsz ⊢
 have hW:=jd mkwidth_any
 have hex:R.extract 0 32=R:=by rw [← hsz,ByteArray.extract_zero_size]
 clear hr hb hR
 go_enter Tryz.func31,Tryz.ntmps31
 go_wp2_with fail
 refine hS.out.mono ?_
 rintro e w1 ⟨rfl,H1⟩
 go_wp2_with fail
 refine (hW.out _).mono ?_
 rintro e w2 ⟨rfl,rfl⟩
 have hszI:(32:Int)≤(R.size:Int):=by omega
 go_wp2
 go_ret
 exact ⟨rfl,H1⟩
def leafF(s:ByteArray):ByteArray:=shaF (0::bn s)
def nodeF(a b:ByteArray):ByteArray:=shaF (1::(bn a++bn b))
theorem leaf_size(s:ByteArray):(leafF s).size=32:=shaF_size _
theorem node_size(a b:ByteArray):(nodeF a b).size=32:=shaF_size _
def mt0:ByteArray:=⟨#[0]⟩
def mt1:ByteArray:=⟨#[1]⟩
theorem bns_leaf(s:ByteArray):bns [mt0,s]=0::bn s:=by simp [bns,mt0,bn]
theorem bns_node(a b:ByteArray):bns [mt1,a,b]=1::(bn a++bn b):=by simp [bns,mt1,bn]
set_option maxHeartbeats 800000 in
theorem mkleaf_any(s:ByteArray)(hs:s.size≤100000000000)(w:World) :
 Calls Tryz.prog 9 #[.int .i64 32,.string s] w (fun e w'=>e=.returned (.string (leafF s))∧Own w w' []):=by
 have H:=(Own.start w).made [.string mt0,.string s] 9 1 2 rfl (by decide)
 have hr:=H.rd
 have hS:=jd (mksum_any (l:=[mt0,s]) hr (by rw [bns_leaf,List.length_cons,Qu];omega))
 rw [bns_leaf] at hS
 rw [show shaF (0::bn s)=leafF s from rfl] at hS
 obtain ⟨R,hR⟩:∃ r,Hid (leafF s=r):=⟨_,rfl⟩
 rw [hR.out] at hS ⊢
 clear hr
 go_enter Tryz.func9,Tryz.ntmps9
 go_wp2_with fail
 refine hS.out.mono ?_
 rintro e w1 ⟨rfl,H1⟩
 go_wp2
 go_ret
 exact ⟨rfl,(H.join H1).bare⟩
set_option maxHeartbeats 800000 in
theorem mknode_any(a b:ByteArray)(ha:a.size≤100000000000)(hb:b.size≤100000000000)(w:World) :
 Calls Tryz.prog 32 #[.int .i64 32,.string a,.string b] w (fun e w'=>e=.returned (.string (nodeF a b))∧Own w w' []):=by
 have H:=(Own.start w).made [.string mt1,.string a,.string b] 9 1 3 rfl (by decide)
 have hr:=H.rd
 have hS:=jd (mksum_any (l:=[mt1,a,b]) hr (by rw [bns_node,List.length_cons,lJ,Qu,Qu];omega))
 rw [bns_node,show shaF (1::(bn a++bn b))=nodeF a b from rfl] at hS
 obtain ⟨R,hR⟩:∃ r,Hid (nodeF a b=r):=⟨_,rfl⟩
 rw [hR.out] at hS ⊢
 clear hr
 go_enter Tryz.func32,Tryz.ntmps32
 go_wp2_with fail
 refine hS.out.mono ?_
 rintro e w1 ⟨rfl,H1⟩
 go_wp2
 go_ret
 exact ⟨rfl,(H.join H1).bare⟩
set_option maxHeartbeats 800000 in
theorem mkcut_any(n:Nat)(hn:n≤1000000000000)(w:World) :
 Calls Tryz.prog 64 #[.int .i64 n] w (fun e w'=>e=.returned (.int .i64 (cutN n:Nat))∧w'=w):=by
 obtain ⟨C,hC⟩:∃ c,Hid (cutN n=c):=⟨_,rfl⟩
 rw [hC.out]
 go_enter Tryz.func64,Tryz.ntmps64
 go_wp2_with fail
 go_loopw [3] (fun v3 wx=>wx=w∧∃ j k:Nat,Hid (k=2^j)∧v3=.int .i64 k∧1≤k∧k≤1000000000000∧Hid (j=0∨k<n)) (fun v3 _=>n-(intOf v3).toNat)
 case atStart=>exact ⟨rfl,0,1,jd rfl,by go_num,by omega,by omega,jd (.inl rfl)⟩
 case round=>
  obtain ⟨rfl,j,k,hkj,rfl,hk1,hk2,hjn⟩:=hrel
  have e1:IntKind.i64.wrap ((n:Int)-(k:Int))=(n:Int)-(k:Int):=IntWalk.i64_in _ ⟨by omega,by omega⟩
  by_cases hlt:k<n-k
  ·have hltI:(k:Int)<(n:Int)-(k:Int):=by omega
   have e2:IntKind.i64.wrap ((k:Int)*2)=((k*2:Nat):Int):=by rw [IntWalk.i64_in _ ⟨by omega,by omega⟩];omega
   go_wp2_with fail
   go_roundw
   case rel=>exact ⟨(by first | rfl | trivial),j+1,k*2,jd (by rw [hkj.out,Nat.pow_succ]),rfl,by omega,by omega,jd (.inr (by omega))⟩
   case measure=>simp [intOf];omega
  ·have hltI:¬ (k:Int)<(n:Int)-(k:Int):=by omega
   have hck:k=C:=by
    rw [← hC.out]
    rcases hjn.out with h | h
    ·have h1:k=1:=by rw [hkj.out,h]
     rw [cutN_le2 (by omega),h1]
    ·rw [cutN_is (i:=j) (by rw [← hkj.out];exact h) (by rw [← hkj.out];omega),hkj.out]
   subst hck
   go_wp2
   go_ret
   exact ⟨rfl,rfl⟩
def noneF(s:ByteArray):ByteArray:=shaF (bn s)
abbrev mroot(l:List ByteArray):ByteArray:=rootF noneF nodeF l
theorem root_size:∀ (d:Nat) (l:List ByteArray),l.length≤d→(∀ s∈l,s.size≤1000000)→(mroot l).size≤1000000:=by
 intro d
 induction d with
 | zero=>
  intro l hl hs
  obtain rfl:=eJ (Nat.le_zero.1 hl)
  rw [mroot,rootF_nil,noneF,shaF_size];omega
 | succ d ih=>
  intro l hl hs
  by_cases h2:2≤l.length
  ·rw [mroot,Zs h2,node_size];omega
  ·match l,h2 with
   | [],_=>rw [mroot,rootF_nil,noneF,shaF_size];omega
   | [x],_=>rw [mroot,rootF_one];exact hs x (by simp)
   | x::y::r,h2=>simp at h2
set_option maxRecDepth 100000 in
set_option maxHeartbeats 3200000 in
theorem mkroot_any:∀ (d:Nat) (w:World) (v:Value) (n:Nat) (l:List ByteArray),n≤d→n≤1000000000000→Rd w 1 v n (txs l)→(∀ s∈l,s.size≤1000000) →
 Calls Tryz.prog 33 #[.int .i64 32,v] w (fun e w'=>e=.returned (.string (mroot l))∧Own w w' []):=by
 intro d
 induction d with
 | zero=>
  intro w v n l hd h9 hr hs
  obtain ⟨a,c,rfl,hc1,hc2⟩:=hr.shape
  have hl:l.length=n:=by have:=hr.len;rw [Qr] at this;omega
  obtain rfl:n=0:=by omega
  obtain rfl:=eJ hl
  have hS:=jd (mksum_any (l:=[]) (Rd.nil w 1) (by simp [bns]))
  rw [show shaF (bns [])=mroot [] by rw [mroot,rootF_nil];rfl] at hS
  obtain ⟨R,hR⟩:∃ r,Hid (mroot []=r):=⟨_,rfl⟩
  rw [hR.out] at hS ⊢
  go_enter Tryz.func33,Tryz.ntmps33
  go_wp2_with fail
  refine hS.out.mono ?_
  rintro e w1 ⟨rfl,H1⟩
  go_wp2
  go_ret
  exact ⟨rfl,H1⟩
 | succ d ih=>
  intro w v n l hd h9 hr hs
  obtain ⟨a,c,rfl,hc1,hc2⟩:=hr.shape
  have hl:l.length=n:=by have:=hr.len;rw [Qr] at this;omega
  by_cases h0:n=0
  ·exact ih w _ n l (by omega) h9 hr hs
  ·by_cases h1:n=1
   ·subst h1
    obtain ⟨x,rfl⟩:∃ x,l=[x]:=by
     match l,hl with
     | [x],_=>exact ⟨x,rfl⟩
    obtain ⟨b,o,c',e,-⟩:=Rd.some hr (by simp [txs])
    cases e
    have hcell:=Rd.cell hr (j:=0) (u:=.string x) (by simp [txs])
    have c0:w.cell? ⟨b,o,none⟩=some (.string x):=hcell
    rw [mroot,rootF_one]
    go_enter Tryz.func33,Tryz.ntmps33
    go_wp2
    go_ret
    exact ⟨rfl,Own.start w⟩
   ·have h2:2≤n:=by omega
    obtain ⟨k,hk⟩:∃ k,Hid (cutN n=k):=⟨_,rfl⟩
    have hbd:=Jo n h2
    rw [hk.out] at hbd
    obtain ⟨k1,k2,k3⟩:=hbd
    have hC:=jd (mkcut_any n h9)
    rw [hk.out] at hC
    obtain ⟨A,hA⟩:∃ r,Hid (mroot (l.take k)=r):=⟨_,rfl⟩
    obtain ⟨B,hB⟩:∃ r,Hid (mroot (l.drop k)=r):=⟨_,rfl⟩
    have hsA:A.size≤1000000:=by rw [← hA.out];exact root_size _ _ (Nat.le_refl _) fun s h=>hs s (List.mem_of_mem_take h)
    have hsB:B.size≤1000000:=by rw [← hB.out];exact root_size _ _ (Nat.le_refl _) fun s h=>hs s (List.mem_of_mem_drop h)
    have hN:=jd (mknode_any A B (by omega) (by omega))
    have hroot:mroot l=nodeF A B:=by rw [mroot,Zs (by omega),hl,hk.out,← hA.out,← hB.out]
    obtain ⟨R,hR⟩:∃ r,Hid (nodeF A B=r):=⟨_,rfl⟩
    rw [hroot,hR.out]
    rw [hR.out] at hN
    obtain ⟨tv,htv⟩:∃ v,Hid (sliced a k n c 1=v):=⟨_,rfl⟩
    have hsl:∀ w,(Instr.sliceAt 26 (.slice a n c) (some (.int .i64 k)) none none).run Tryz.prog w=.ok tv w:=fun w=>slc_low (by kernel_rfl) (fun _=>by kernel_rfl) (by omega) htv.out w
    have HA:Hid (∀ w',Own w w' []→Calls Tryz.prog 33 #[.int .i64 32,.slice a k c] w' (fun e w2=>e=.returned (.string A)∧Own w w2 [])):=jd fun w' h=>by
     have hr2:=(hr.old h).take (k:=k) (by omega)
     rw [Nat.mul_one,txs,← List.map_take] at hr2
     have:=ih w' _ k (l.take k) (by omega) (by omega) hr2 fun s h=>hs s (List.mem_of_mem_take h)
     rw [hA.out] at this
     exact this.mono fun e w2 g=>⟨g.1,h.join g.2⟩
    have HB:Hid (∀ w',Own w w' []→Calls Tryz.prog 33 #[.int .i64 32,tv] w' (fun e w2=>e=.returned (.string B)∧Own w w2 [])):=jd fun w' h=>by
     have hr2:=(hr.old h).cutOf (k:=k) (m:=n) (by omega) (Nat.le_refl _)
     rw [htv.out,Nat.mul_one,Nat.mul_one,txs,List.take_of_length_le (by rw [List.length_map];omega),← List.map_drop] at hr2
     have:=ih w' _ (n-k) (l.drop k) (by omega) (by omega) hr2 fun s h=>hs s (List.mem_of_mem_drop h)
     rw [hB.out] at this
     exact this.mono fun e w2 g=>⟨g.1,h.join g.2⟩
    have HN:Hid (∀ w',Own w w' []→Calls Tryz.prog 32 #[.int .i64 32,.string A,.string B] w' (fun e w2=>e=.returned (.string R)∧Own w w2 [])):=jd fun w' h=>(hN.out w').mono fun e w2 g=>⟨g.1,h.join g.2⟩
    have H:=Own.start w
    have hkc:k≤c:=by omega
    have hkcI:(k:Int)≤(c:Int):=by omega
    have n0:((n:Int)==0)=false:=by simp;omega
    have n1:((n:Int)==1)=false:=by simp;omega
    clear hr hs ih hN hroot hA hB hR hk
    go_enter Tryz.func33,Tryz.ntmps33
    go_wp2_with fail
    refine (hC.out _).mono ?_
    rintro e w1 ⟨rfl,hw1⟩
    obtain rfl:w=w1:=hw1.symm
    go_upto_region 7 with (fail)
    refine Qa (fun w1=>Own w w1 []) 12 (by kernel_rfl) (by kernel_rfl) H.drew ?_
    simp only [List.take_succ_cons,List.take_zero,List.drop_succ_cons,List.drop_zero]
    repeat
     first
     | (refine calm_value (v:=?_) (by decide) rfl (fun σ w1 hS=>?_) ?_
        rotate_left
        ·skip
         first | (go_simp;rfl) | rfl
        simp only [Act.put,putC])
     | (refine calm_skip (by decide) rfl ?_
        simp only [Act.put,putC])
    refine calm_call (v:=.string A) (by decide) rfl (fun w1=>(by go_simp)) (fun σ w1 hS=>HA.out w1 hS) ?_
    simp only [Act.put,putC]
    repeat
     first
     | (refine calm_value (v:=?_) (by decide) rfl (fun σ w1 hS=>?_) ?_
        rotate_left
        ·skip
         first | (go_simp;rfl) | rfl
        simp only [Act.put,putC])
     | (refine calm_skip (by decide) rfl ?_
        simp only [Act.put,putC])
    refine calm_call (v:=.string B) (by decide) rfl (fun w1=>(by go_simp)) (fun σ w1 hS=>HB.out w1 hS) ?_
    simp only [Act.put,putC]
    repeat
     first
     | (refine calm_value (v:=?_) (by decide) rfl (fun σ w1 hS=>?_) ?_
        rotate_left
        ·skip
         first | (go_simp;rfl) | rfl
        simp only [Act.put,putC])
     | (refine calm_skip (by decide) rfl ?_
        simp only [Act.put,putC])
    refine calm_call (v:=.string R) (by decide) rfl (fun w1=>(by go_simp)) (fun σ w1 hS=>HN.out w1 hS) ?_
    simp only [Act.put,putC]
    refine calm_nil ?_
    intro wd HD
    go_wp2
    go_ret
    exact ⟨rfl,HD⟩
def popc(n:Nat):Nat:=if _h:n=0 then 0 else popc (n/2)+n%2
theorem popc_odd{n:Nat}(h:n%2=1):popc n=popc (n/2)+1:=by rw [popc,dif_neg (by omega),h]
theorem popc_le:∀ n:Nat,popc n≤n:=by
 intro n
 induction n using Nat.strongRecOn with
 | ind n ih=>
  by_cases h0:n=0
  ·rw [h0,popc];simp
  ·have:=ih (n/2) (by omega)
   rw [popc,dif_neg h0]
   omega
theorem peaks_length(nd:ByteArray→ByteArray→ByteArray):∀ (d:Nat) (l:List ByteArray),l.length≤d→(Jp nd l).length=popc l.length:=by
 intro d
 induction d with
 | zero=>
  intro l h
  obtain rfl:l=[]:=eJ (by omega)
  rw [peaksF_nil,List.length_nil,popc,dif_pos rfl]
 | succ d ih=>
  intro l h
  by_cases hl:l=[]
  ·rw [hl,peaksF_nil,List.length_nil,popc,dif_pos rfl]
  ·have hp:=List.length_pos_iff.2 hl
   rw [Jp,dif_neg hl,lJ,ih _ (by rw [Qz];omega),Qz]
   conv=>rhs;rw [popc,dif_neg (by omega)]
   congr 1
   split
   ·rename_i h1;rw [h1];rfl
   ·rename_i h1;simp;omega
theorem pairs_mem(nd:ByteArray→ByteArray→ByteArray)(hnd:∀ a b,(nd a b).size=32):∀ (l:List ByteArray),∀ s∈Qy nd l,s.size=32
 | [],s,h=>by simp [Qy] at h
 | [x],s,h=>by simp [Qy] at h
 | x::y::r,s,h=>by
  rw [Qy] at h
  rcases List.mem_cons.1 h with rfl | h
  ·exact hnd x y
  ·exact pairs_mem nd hnd r s h
theorem peaks_size:∀ (d:Nat) (l:List ByteArray),l.length≤d→(∀ s∈l,s.size=32)→∀ s∈Jp nodeF l,s.size=32:=by
 intro d
 induction d with
 | zero=>
  intro l h hs s hm
  obtain rfl:l=[]:=eJ (by omega)
  rw [peaksF_nil] at hm;cases hm
 | succ d ih=>
  intro l h hs s hm
  by_cases hl:l=[]
  ·rw [hl,peaksF_nil] at hm;cases hm
  ·have hp:=List.length_pos_iff.2 hl
   rw [Jp,dif_neg hl,List.mem_append] at hm
   rcases hm with hm | hm
   ·exact ih _ (by rw [Qz];omega) (pairs_mem nodeF node_size l) s hm
   ·split at hm
    ·obtain rfl:=List.mem_singleton.1 hm
     rw [List.getLastD_eq_getLast?,List.getLast?_eq_some_getLast hl]
     exact hs _ (List.getLast_mem hl)
    ·cases hm
def Grw(g:Nat)(l:List ByteArray):Piece:=ex fun v:Value=>star (blk g (.cells #[.int .i64 32,.int .i64 l.length,v] 79)) (slc 9 1 v (Jp nodeF l).length (txs (Jp nodeF l)))
section
variable {w0 w:World} {ps:List Piece} {g:Nat} {l:List ByteArray}
theorem Own.grw(H:Own w0 w (Grw g l::ps)):∃ a c,(Jp nodeF l).length≤c∧c≤9223372036854775807∧Own w0 w (blk g (.cells #[.int .i64 32,.int .i64 l.length,.slice a (Jp nodeF l).length c] 79)::slc 9 1 (.slice a (Jp nodeF l).length c) (Jp nodeF l).length (txs (Jp nodeF l))::ps):=by
 obtain ⟨v,H⟩:=H.ex
 have H:=H.star
 obtain ⟨a,c,rfl,h1,h2⟩:=(H.front 1 rfl).rd.shape
 exact ⟨a,c,h1,h2,H⟩
theorem Own.ungrw{v:Value}(H:Own w0 w (blk g (.cells #[.int .i64 32,.int .i64 l.length,v] 79)::slc 9 1 v (Jp nodeF l).length (txs (Jp nodeF l))::ps)):Own w0 w (Grw g l::ps):=Own.unex v (Own.unstar H)
end
theorem txs_one(l:List ByteArray):∀ u∈txs l,u.oneCell'=true:=by
 intro u hu
 obtain ⟨x,-,rfl⟩:=List.mem_map.1 hu
 rfl
theorem Zi(a b:List ByteArray):txs (a++b)=txs a++txs b:=List.map_append
theorem strInfo:(Tryz.prog.info? 9).map (fun i=>(i.zero,i.size,i.bytes))=some (some (.string ⟨#[]⟩),1,16):=by kernel_rfl
set_option maxHeartbeats 800000 in
theorem grnew_any(w:World):Calls Tryz.prog 8 #[.int .i64 32] w (Ret fun v w'=>∃ g,v=.pointer (some ⟨g,0,none⟩)∧Own w w' (Grw g []::[])):=by
 have hW:=jd mkwidth_any
 have H:=(Own.start w).alloc (.cells #[.int .i64 32,.int .i64 0,.slice none 0 0] 79)
 go_enter Tryz.func8,Tryz.ntmps8
 go_wp2_with fail
 refine (hW.out _).mono ?_
 rintro e w1 ⟨rfl,hw1⟩
 obtain rfl:w=w1:=hw1.symm
 go_wp2
 go_ret
 refine ⟨_,rfl,_,rfl,?_⟩
 have h2:=(H.nil 9 1).swap
 refine Own.ungrw (v:=.slice none 0 0) ?_
 rw [peaksF_nil]
 exact h2
set_option maxRecDepth 100000 in
set_option maxHeartbeats 6400000 in
theorem gradd_any{w0 w:World}{ps:List Piece}{g:Nat}{l:List ByteArray}(x:ByteArray)(hx:x.size=32)(hl:∀ s∈l,s.size=32)(hn:l.length≤1000000)(H0:Own w0 w (Grw g l::ps)) :
 Calls Tryz.prog 10 #[.pointer (some ⟨g,0,none⟩),.string x] w (Ret fun v w'=>v=.int .i64 0∧Own w0 w' (Grw g (l++[x])::ps)):=by
 obtain ⟨a,c,h1,h2,H⟩:=H0.grw
 clear H0
 obtain ⟨P,hP⟩:∃ P,Hid (Jp nodeF l=P):=⟨_,rfl⟩
 obtain ⟨R,hR⟩:∃ R,Hid (Jp nodeF (l++[x])=R):=⟨_,rfl⟩
 have hadd:Hid (mkAddF nodeF P l.length x=R):=jd (by rw [← hR.out,peaks_add _ l x (Nat.le_refl _),hP.out])
 have hPl:Hid (P.length=popc l.length):=jd (by rw [← hP.out];exact peaks_length _ _ l (Nat.le_refl _))
 have hPs:Hid (∀ s∈P,s.size=32):=jd (by rw [← hP.out];exact peaks_size _ l (Nat.le_refl _) hl)
 have FIN:Hid (∀ w' v,Own w0 w' (blk g (.cells #[.int .i64 32,.int .i64 ((l.length+1:Nat):Int),v] 79)::slc 9 1 v R.length (txs R)::ps)→Own w0 w' (Grw g (l++[x])::ps)):=jd fun w' v h=>by
  refine Own.ungrw (v:=v) ?_
  rw [hR.out,lJ]
  exact h
 rw [hP.out] at h1 H
 obtain ⟨n,hnl⟩:∃ n,Hid (l.length=n):=⟨_,rfl⟩
 rw [hnl.out] at FIN H hadd hPl hn
 obtain ⟨m,hm⟩:∃ m,Hid (P.length=m):=⟨_,rfl⟩
 have hmn:m≤1000000:=by have:=popc_le n;rw [← hm.out,hPl.out];omega
 rw [hm.out] at h1 H
 have hx32:(x.size:Int)=32:=by omega
 have e1:IntKind.i64.wrap ((n:Int)+1)=((n+1:Nat):Int):=by rw [IntWalk.i64_in _ ⟨by omega,by omega⟩];omega
 clear hR hP hl hnl
 have c0:=H.cells
 have hrd:=(H.front 1 rfl).rd
 go_enter Tryz.func10,Tryz.ntmps10
 go_upto_region 6 with (at_builtin;refine Qn rfl _ _ rfl Tryz.underlying26 strInfo rfl (by decide) rfl (H.nil 9 1) hrd (txs_one _) (by omega) (by omega) ?_;clear H c0 hrd;intro v1 w1 H;rw [Nat.zero_add,List.nil_append] at H)
 obtain ⟨a1,c1,rfl,g1,g2⟩:=H.rd.shape
 have hm2:Hid (m=popc n):=jd (by rw [← hm.out,hPl.out])
 replace e1:=jd e1
 have c0:=(H.front 1 rfl).cells
 go_upto_block 1 with (fail)
 clear c0
 go_wp2_with fail
 go_loopw [1,5,6] (fun v1 v5 v6 wx=>∃ (q:List ByteArray) (y:ByteArray) (k mq:Nat),v1=.string y∧y.size=32∧v6=.int .i64 k∧k≤1000000∧Hid (q.length=mq)∧mq≤1000000∧Hid (mq=popc k)∧Hid (∀ s∈q,s.size=32)∧Hid (mkAddF nodeF q k y=R)∧Own w0 wx (slc 9 1 v5 mq (txs q)::blk g (.cells #[.int .i64 32,.int .i64 n,.slice a m c] 79)::slc 9 1 (.slice a m c) m (txs P)::ps)) (fun _ _ v6 _=>(intOf v6).toNat)
 case atStart=>exact ⟨P,x,n,m,rfl,hx,rfl,hn,hm,hmn,hm2,hPs,hadd,H⟩
 case round=>
  clear H hPs hadd hm2 g1 g2
  obtain ⟨q,y,k,mq,rfl,hy,rfl,hk,hql,hmq,hpop,hqs,hadd,H⟩:=hrel
  by_cases hodd:k%2=1
  ·have hk1:bits .and .i64 (k:Int) 1=1:=by rw [i64_and1];omega
   have hmq1:1≤mq:=by rw [hpop.out,popc_odd hodd];omega
   rcases H.slc_cases with ⟨-,h0,-,-⟩ | ⟨gq,cap,cur,rfl,-,hc1,hc2,-,-,-⟩
   ·omega
   obtain ⟨q',z,hqz⟩:∃ q' z,q=q'++[z]:=⟨q.dropLast,q.getLast (by intro e;rw [e] at hql;have:=hql.out;simp at this;omega),(List.dropLast_concat_getLast _).symm⟩
   have hq'l:Hid (q'.length=mq-1):=jd (by have:=hql.out;rw [hqz,lJ] at this;simp at this;omega)
   have hzs:z.size=32:=hqs.out z (by rw [hqz];simp)
   have hq's:Hid (∀ s∈q',s.size=32):=jd fun s hs=>hqs.out s (by rw [hqz];simp [hs])
   obtain ⟨N,hN⟩:∃ N,Hid (nodeF z y=N):=⟨_,rfl⟩
   have hNs:N.size=32:=by rw [← hN.out];exact node_size _ _
   rw [mkAddF,dif_pos hodd,hqz,List.dropLast_concat,List.getLastD_concat,hN.out] at hadd
   obtain ⟨j,hj⟩:∃ j,Hid (mq-1=j):=⟨_,rfl⟩
   rw [hj.out] at hq'l
   have hpop2:Hid (j=popc (k/2)):=jd (by rw [← hj.out,hpop.out,popc_odd hodd];omega)
   have ej:IntKind.i64.wrap ((mq:Int)-1)=(j:Int):=by rw [IntWalk.i64_in _ ⟨by omega,by omega⟩];have:=hj.out;omega
   have hjm:j<mq:=by have:=hj.out;omega
   have hjmI:(j:Int)<(mq:Int):=by omega
   have hjc:j≤cap:=by omega
   have hjcI:(j:Int)≤(cap:Int):=by omega
   have hk2:(k:Int)/2=((k/2:Nat):Int):=by omega
   obtain ⟨kh,hkh⟩:∃ kh,Hid (k/2=kh):=⟨_,rfl⟩
   rw [hkh.out] at hk2 hadd hpop2
   have HC:Hid (∀ w1,Own w0 w1 (slc 9 1 (.slice (some ⟨gq,0,none⟩) mq cap) mq (txs q)::blk g (.cells #[.int .i64 32,.int .i64 n,.slice a m c] 79)::slc 9 1 (.slice a m c) m (txs P)::ps)→w1.cell? ⟨gq,j,none⟩=some (.string z)∧w1.cell? ⟨g,0,none⟩=some (.int .i64 32)):=jd fun w1 h=>by
    have h3:=Rd.cell h.rd (j:=j) (u:=.string z) (by rw [txs_get];rw [hqz,List.getElem?_append_right (by rw [hq'l.out];exact Nat.le_refl _),hq'l.out,Nat.sub_self];rfl)
    rw [Nat.zero_add] at h3
    exact ⟨h3,by rw [(h.front 1 rfl).cells];rfl⟩
   have HN:Hid (∀ w1 qs,Own w0 w1 qs→Calls Tryz.prog 32 #[.int .i64 32,.string z,.string y] w1 (fun e w2=>e=.returned (.string N)∧Own w0 w2 qs)):=jd fun w1 qs h=>by
    rw [← hN.out]
    exact (mknode_any z y (by omega) (by omega) w1).mono fun e w2 g2=>⟨g2.1,h.join g2.2⟩
   go_upto_region 9 with (fail)
   refine Qa (fun w1=>Own w0 w1 (slc 9 1 (.slice (some ⟨gq,0,none⟩) mq cap) mq (txs q)::blk g (.cells #[.int .i64 32,.int .i64 n,.slice a m c] 79)::slc 9 1 (.slice a m c) m (txs P)::ps)) 12 (by kernel_rfl) (by kernel_rfl) H.drew ?_
   simp only [List.take_succ_cons,List.take_zero,List.drop_succ_cons,List.drop_zero]
   repeat
    first
    | (refine calm_value (v:=?_) (by decide) rfl (fun σ w1 hS=>?_) ?_
       rotate_left
       ·obtain ⟨c0,c1⟩:=HC.out _ hS
        first | (go_simp;rfl) | rfl
       simp only [Act.put,putC])
    | (refine calm_skip (by decide) rfl ?_
       simp only [Act.put,putC])
   refine calm_call (v:=.string N) (by decide) rfl (fun w1=>(by go_simp)) (fun σ w1 hS=>HN.out w1 _ hS) ?_
   simp only [Act.put,putC]
   refine calm_nil ?_
   intro wd HD
   clear H HN HC
   have HD2:=HD.slc_take (k:=j) (by omega)
   rw [Nat.mul_one,hqz,Zi,List.take_append_of_le_length (by rw [Qr,hq'l.out];exact Nat.le_refl _),List.take_of_length_le (by rw [Qr,hq'l.out];exact Nat.le_refl _)] at HD2
   clear HD hqz hqs hql hpop hj hN
   go_wp2_with fail
   go_roundw
   case rel=>exact ⟨q',N,kh,j,rfl,hNs,by go_num,by have:=hkh.out;omega,hq'l,by omega,hpop2,hq's,hadd,HD2⟩
   case measure=>have:=hkh.out;simp [intOf];omega
  ·have hk0:bits .and .i64 (k:Int) 1=0:=by rw [i64_and1];omega
   rw [mkAddF,dif_neg hodd] at hadd
   obtain ⟨a5,c5,rfl,g1,g2⟩:=H.rd.shape
   have hRl:Hid (R.length=mq+1):=jd (by rw [← hadd.out,lJ,hql.out];rfl)
   have c0:=(H.front 1 rfl).cells
   have ee:=e1.out
   replace H:=H.swap
   go_wp2_with (first
    | (at_builtin;refine Qf (news:=[.string y]) rfl _ _ rfl Tryz.underlying26 strInfo rfl (by decide) rfl H.swap rfl rfl rfl (by simp [Value.oneCell']) (by omega) (by omega) ?_;clear H;intro v9 w9 H;replace H:=H.swap;obtain ⟨a9,c9,rfl,g3,g4⟩:=(H.front 1 rfl).rd.shape)
    | (refine Qh rfl _ _ rfl rfl H rfl (by kernel_rfl) (by simp) ?_;clear H c0;intro w7 H)
    | (refine Jd rfl _ _ rfl rfl H rfl (by kernel_rfl) (by simp) ?_;clear H;intro w7 H))
   go_ret
   refine ⟨_,rfl,rfl,FIN.out _ (.slice a9 (mq+1) c9) ?_⟩
   rw [hRl.out,← hadd.out,Zi]
   exact (H.front 2 rfl).drop
theorem fold_cons{nd:ByteArray→ByteArray→ByteArray}{x:ByteArray}{r:List ByteArray}(h:r≠[]):foldF nd (x::r)=nd x (foldF nd r):=by
 cases r with
 | nil=>exact absurd rfl h
 | cons y r=>rfl
theorem fold_size(l:List ByteArray)(hs:∀ s∈l,s.size=32)(h:l≠[]):(foldF nodeF l).size=32:=by
 match l,h with
 | [x],_=>exact hs x (by simp)
 | x::y::r,_=>rw [fold_cons (by simp),node_size]
set_option maxRecDepth 100000 in
set_option maxHeartbeats 6400000 in
theorem grroot_any{w0 w:World}{ps:List Piece}{g:Nat}{l:List ByteArray}(hl:∀ s∈l,s.size=32)(hn:l.length≤1000000)(hne:1≤l.length)(H0:Own w0 w (Grw g l::ps)) :
 Calls Tryz.prog 11 #[.pointer (some ⟨g,0,none⟩)] w (fun e w'=>e=.returned (.string (mroot l))∧Own w w' []):=by
 obtain ⟨R,hR⟩:∃ R,Hid (mroot l=R):=⟨_,rfl⟩
 rw [hR.out]
 obtain ⟨a,c,h1,h2,H⟩:=H0.grw
 clear H0
 obtain ⟨P,hP⟩:∃ P,Hid (Jp nodeF l=P):=⟨_,rfl⟩
 have hfold:Hid (foldF nodeF P=R):=jd (by rw [← hR.out,← hP.out];exact fold_peaks noneF _ l (Nat.le_refl _) hne)
 have hPs:Hid (∀ s∈P,s.size=32):=jd (by rw [← hP.out];exact peaks_size _ l (Nat.le_refl _) hl)
 have hPne:P≠[]:=by rw [← hP.out];exact peaks_ne hne
 rw [hP.out] at h1 H
 obtain ⟨m,hm⟩:∃ m,Hid (P.length=m):=⟨_,rfl⟩
 have hm1:1≤m:=by rw [← hm.out];exact List.length_pos_iff.2 hPne
 have hmn:m≤1000000:=by
  have:=popc_le l.length
  rw [← hm.out,← hP.out,peaks_length _ _ l (Nat.le_refl _)];omega
 rw [hm.out] at h1 H
 rcases (H.front 1 rfl).slc_cases with ⟨-,h0,-,-⟩ | ⟨gp,cap,cur,e,-,hc1,hc2,-,-,-⟩
 ·omega
 cases e
 obtain ⟨bl,hbl⟩:∃ bl,Hid (l.length=bl):=⟨_,rfl⟩
 have HX:Hid (∀ w' qs,Own w w' qs→w'.cell? ⟨g,0,none⟩=some (.int .i64 32)∧w'.cell? ⟨g,2,none⟩=some (.slice (some ⟨gp,0,none⟩) m c)∧∀ j z,P[j]?=some z→w'.cell? ⟨gp,j,none⟩=some (.string z)):=jd fun w' qs h=>by
  have hg:g<w.heap.size:=(Array.getElem?_eq_some_iff.1 H.block.1).1
  have hrd:=(H.front 1 rfl).rd.old h
  refine ⟨by rw [h.oldCell hg,H.cells];rfl,by rw [h.oldCell hg,H.cells];rfl,fun j z hz=>?_⟩
  have:=Rd.cell hrd (j:=j) (u:=.string z) (by rw [txs_get hz])
  rw [Nat.zero_add] at this
  exact this
 clear H hR hP hl hn hne
 have H:=Own.start w
 have m0:((m:Int)==0)=false:=by simp;omega
 obtain ⟨j,hj⟩:∃ j,Hid (m-1=j):=⟨_,rfl⟩
 have ej:IntKind.i64.wrap ((m:Int)-1)=(j:Int):=by rw [IntWalk.i64_in _ ⟨by omega,by omega⟩];have:=hj.out;omega
 have ej2:IntKind.i64.wrap ((m:Int)-2)=(j:Int)-1:=by rw [IntWalk.i64_in _ ⟨by omega,by omega⟩];have:=hj.out;omega
 have hjm:j<m:=by have:=hj.out;omega
 have hjmI:(j:Int)<(m:Int):=by omega
 obtain ⟨z,hz⟩:∃ z,P[j]?=some z:=Ql (by rw [hm.out];exact hjm)
 have hzf:Hid (foldF nodeF (P.drop j)=z):=jd (by
  rw [List.drop_eq_getElem_cons (by rw [hm.out];exact hjm),List.drop_eq_nil_of_le (by rw [hm.out];have:=hj.out;omega)]
  have:=gJ hz
  exact this.2)
 have HZ:Hid (∀ w' qs,Own w w' qs→w'.cell? ⟨gp,j,none⟩=some (.string z)):=jd fun w' qs h=>(HX.out w' qs h).2.2 j z hz
 replace hz:=jd hz
 go_enter Tryz.func11,Tryz.ntmps11
 obtain ⟨c0,c2,-⟩:=HX.out _ _ H
 go_upto_region 5 with (fail)
 clear c0 c2
 refine Qa (fun w1=>Own w w1 []) 12 (by kernel_rfl) (by kernel_rfl) H.drew ?_
 simp only [List.take_succ_cons,List.take_zero,List.drop_succ_cons,List.drop_zero]
 repeat
  first
  | (refine calm_value (v:=?_) (by decide) rfl (fun σ w1 hS=>?_) ?_
     rotate_left
     ·obtain ⟨c0,c2,-⟩:=HX.out _ _ hS;have c1:=HZ.out _ _ hS
      first | (go_simp;rfl) | rfl
     simp only [Act.put,putC])
  | (refine calm_skip (by decide) rfl ?_
     simp only [Act.put,putC])
 refine calm_nil ?_
 intro wd HD
 clear H
 obtain ⟨c0,c2,-⟩:=HX.out _ _ HD
 go_upto_block 0 with (fail)
 clear c0 c2
 go_wp2_with fail
 go_loopw [3,4] (fun v3 v4 wx=>∃ (i:Nat) (y:ByteArray),v3=.string y∧v4=.int .i64 ((i:Int)-1)∧i<m∧Hid (foldF nodeF (P.drop i)=y)∧Own w wx []) (fun _ v4 _=>(intOf v4+1).toNat)
 case atStart=>exact ⟨j,z,rfl,by go_num,hjm,hzf,HD⟩
 case round=>
  clear HD hzf
  obtain ⟨i,y,rfl,rfl,him,hy,H⟩:=hrel
  by_cases hi0:i=0
  ·subst hi0
   have hyR:y=R:=by have:=hy.out;rw [List.drop_zero,hfold.out] at this;exact this.symm
   subst hyR
   go_wp2
   go_ret
   exact ⟨rfl,H⟩
  ·obtain ⟨k,rfl⟩:∃ k,i=k+1:=⟨i-1,by omega⟩
   have eI:((k+1:Nat):Int)-1=(k:Int):=by omega
   rw [eI]
   obtain ⟨x,hx⟩:∃ x,P[k]?=some x:=Ql (by rw [hm.out];omega)
   have hkm:(k:Int)<(m:Int):=by omega
   have hk0:(0:Int)≤(k:Int):=by omega
   have hxs:x.size=32:=hPs.out x (List.mem_of_getElem? hx)
   have hne:P.drop (k+1)≠[]:=by
    intro e
    have:=congrArg List.length e
    rw [List.length_drop,hm.out] at this
    simp at this;omega
   have hys:y.size=32:=by rw [← hy.out];exact fold_size _ (fun s hs=>hPs.out s (List.mem_of_mem_drop hs)) hne
   obtain ⟨N,hN⟩:∃ N,Hid (nodeF x y=N):=⟨_,rfl⟩
   have hNf:Hid (foldF nodeF (P.drop k)=N):=jd (by
    rw [List.drop_eq_getElem_cons (by rw [hm.out];omega),fold_cons hne,hy.out,← hN.out,(gJ hx).2])
   have HN:Hid (∀ w1 qs,Own w w1 qs→Calls Tryz.prog 32 #[.int .i64 32,.string x,.string y] w1 (fun e w2=>e=.returned (.string N)∧Own w w2 qs)):=jd fun w1 qs h=>by
    rw [← hN.out]
    exact (mknode_any x y (by omega) (by omega) w1).mono fun e w2 g2=>⟨g2.1,h.join g2.2⟩
   have HZ2:Hid (∀ w' qs,Own w w' qs→w'.cell? ⟨gp,k,none⟩=some (.string x)):=jd fun w' qs h=>(HX.out w' qs h).2.2 k x hx
   replace hx:=jd hx
   clear hne eI hi0
   go_upto_region 9 with (fail)
   refine Qa (fun w1=>Own w w1 []) 13 (by kernel_rfl) (by kernel_rfl) H.drew ?_
   simp only [List.take_succ_cons,List.take_zero,List.drop_succ_cons,List.drop_zero]
   repeat
    first
    | (refine calm_value (v:=?_) (by decide) rfl (fun σ w1 hS=>?_) ?_
       rotate_left
       ·obtain ⟨c0,c2,-⟩:=HX.out _ _ hS;have c1:=HZ2.out _ _ hS
        first | (go_simp;rfl) | rfl
       simp only [Act.put,putC])
    | (refine calm_skip (by decide) rfl ?_
       simp only [Act.put,putC])
   refine calm_call (v:=.string N) (by decide) rfl (fun w1=>(by go_simp)) (fun σ w1 hS=>HN.out w1 _ hS) ?_
   simp only [Act.put,putC]
   refine calm_nil ?_
   intro we HE
   have ek:IntKind.i64.wrap ((k:Int)-1)=(k:Int)-1:=IntWalk.i64_in _ ⟨by omega,by omega⟩
   go_wp2_with fail
   go_roundw
   case rel=>exact ⟨k,N,rfl,by go_num,by omega,hNf,HE⟩
   case measure=>simp [intOf]
set_option maxRecDepth 100000 in
set_option maxHeartbeats 6400000 in
theorem arroot_any{w:World}{v:Value}{n:Nat}{l:List ByteArray}(hr:Rd w 1 v n (txs l))(hn:n≤1000000)(hs:∀ s∈l,s.size≤100000000000) :
 Calls Tryz.prog 22 #[v] w (fun e w'=>e=.returned (.string (mroot (l.map leafF)))∧Own w w' []):=by
 have hl:l.length=n:=by have:=hr.len;rw [Qr] at this;omega
 obtain ⟨a,c,rfl,hc1,hc2⟩:=hr.shape
 obtain ⟨M,hM⟩:∃ M,Hid (mroot (l.map leafF)=M):=⟨_,rfl⟩
 rw [hM.out]
 obtain ⟨F,hF⟩:∃ F,Hid (F=l.map leafF):=⟨_,jd rfl⟩
 rw [← hF.out] at hM
 have hFl:F.length=n:=by rw [hF.out,List.length_map,hl]
 have hF32:Hid (∀ s∈F,s.size≤1000000):=jd fun s h=>by
  rw [hF.out] at h
  obtain ⟨x,-,rfl⟩:=List.mem_map.1 h
  rw [leaf_size];omega
 have HX:Hid (∀ w' qs,Own w w' qs→∀ k x,l[k]?=some x→∃ b o,a=some ⟨b,o,none⟩∧w'.cell? ⟨b,o+k,none⟩=some (.string x)):=jd fun w' qs h k x hx=>by
  have hkn:=(gJ hx).1
  obtain ⟨b,o,c',e,-⟩:=Rd.some hr (by rw [Qr];omega)
  cases e
  exact ⟨b,o,rfl,Rd.cell (hr.old h.bare) (j:=k) (u:=.string x) (by rw [txs_get hx])⟩
 clear hr
 have H:=(Own.start w).nil 9 1
 go_enter Tryz.func22,Tryz.ntmps22
 go_upto_block 0 with (fail)
 go_wp2_with fail
 go_loopw [3,5,8] (fun v3 _ v8 wx=>∃ (k:Nat),v8=.int .i64 k∧k≤n∧Own w wx (slc 9 1 v3 k (txs (F.take k))::[])) (fun _ _ v8 _=>n-(intOf v8).toNat)
 case atStart=>exact ⟨0,rfl,by omega,H⟩
 case round=>
  clear H
  obtain ⟨k,rfl,hk,H⟩:=hrel
  by_cases hkn:k<n
  ·have hI:(k:Int)<(n:Int):=by omega
   have hk0:(0:Int)≤(k:Int):=by omega
   have ek:IntKind.i64.wrap ((k:Int)+1)=((k+1:Nat):Int):=by rw [IntWalk.i64_in _ ⟨by omega,by omega⟩];omega
   obtain ⟨x,hx⟩:∃ x,l[k]?=some x:=Ql (by omega)
   have hxs:=hs x (List.mem_of_getElem? hx)
   obtain ⟨b,o,rfl,c0⟩:=HX.out _ _ H k x hx
   obtain ⟨y,hy⟩:∃ y,Hid (leafF x=y):=⟨_,rfl⟩
   have hsn:Hid (txs (F.take (k+1))=txs (F.take k)++[.string y]):=jd (by
    have:F[k]?=some y:=by rw [hF.out,List.getElem?_map,hx,← hy.out];rfl
    rw [List.take_succ,this,Zi];rfl)
   have HL:=jd (mkleaf_any x hxs wr)
   rw [hy.out] at HL
   obtain ⟨a5,c5,rfl,g1,g2⟩:=H.rd.shape
   clear HX hy hx hF hM hs
   go_wp2_with fail
   refine HL.out.mono ?_
   rintro e w2 ⟨rfl,H2⟩
   replace H:=H.join H2
   rw [List.nil_append] at H
   clear H2 HL c0
   go_wp2_with (at_builtin;refine Qf (news:=[.string y]) rfl _ _ rfl Tryz.underlying26 strInfo rfl (by decide) rfl H rfl rfl rfl (by simp [Value.oneCell']) (by omega) (by omega) ?_;clear H;intro v' w' H)
   rw [← hsn.out] at H
   go_roundw
   case rel=>exact ⟨k+1,by go_num,hkn,H⟩
   case measure=>simp [intOf];omega
  ·obtain rfl:k=n:=by omega
   have hI:¬ (k:Int)<(k:Int):=by omega
   rw [List.take_of_length_le (by omega)] at H
   have HR:=jd (mkroot_any k _ _ k F (Nat.le_refl _) (by omega) H.rd hF32.out)
   rw [hM.out] at HR
   obtain ⟨a5,c5,rfl,g1,g2⟩:=H.rd.shape
   clear HX hF hM hs
   go_wp2_with fail
   refine HR.out.mono ?_
   rintro e w2 ⟨rfl,H2⟩
   go_wp2
   go_ret
   exact ⟨rfl,(H.join H2).bare⟩
def newS(l:List ByteArray):Option Value→List Piece
 | none=>[]
 | some v=>[slc 9 1 v l.length (txs l)]
theorem Own.tailOf{w0 w:World}{qs:List Piece}:∀ (rs:List Piece),Own w0 w (rs++qs)→Own w0 w qs
 | [],h=>h
 | _::rs,h=>Own.tailOf rs h.drop
section
variable {w0:World} {P:Program} {ops:Array Oper} {nw:List Nat} {R:Act→Prop} {a:Act} {o:Oper} {rest:List Oper} {i:Nat}
theorem calm_row2{obj:Obj}{n:Nat}{ps:Sig→List Piece}(hps:∀ σ v,ps (σ.upd i v)=ps σ)(hi:i∈nw)(hr:∀ w,(execOp a.eval o).run P w=.ok (.value (.slice (some ⟨w.heap.size,0,none⟩) n n)) (w.alloc obj))
 (h:calm P ops (fun σ w=>Own w0 w (newR obj n (σ i)++ps σ)) nw R (i+1) rest a):calm P ops (fun σ w=>Own w0 w (newR obj n (σ i)++ps σ)) nw R i (o::rest) a:=
 calm_new hi (fun σ w hS K Q hK=>by
  unfold Oper.wp
  rw [hr w]
  refine hK _ _ ?_
  have hs:(σ.upd i (.slice (some ⟨w.heap.size,0,none⟩) n n)) i=some (.slice (some ⟨w.heap.size,0,none⟩) n n):=by simp [Sig.upd]
  show Own w0 _ (newR obj n ((σ.upd i _) i)++ps (σ.upd i _))
  rw [hs,hps]
  exact ((Own.tailOf _ hS).alloc obj).imp fun x hx=>⟨_,rfl,hx⟩) h
theorem calm_callS{f:FuncId}{args:Array Value}{l:List ByteArray}{obj:Obj}{j n:Nat}(hij:i≠j)(hi:i∈nw)(hr:∀ w,(execOp a.eval o).run P w=.ok (.enter f args) w)
 (hc:∀ w,Own w0 w []→Calls P f args w (Ret fun v w'=>Own w w' (slc 9 1 v l.length (txs l)::[])))
 (h:calm P ops (fun σ w=>Own w0 w (newR obj n (σ j)++newS l (σ i))) nw R (i+1) rest a):calm P ops (fun σ w=>Own w0 w (newR obj n (σ j)++newS l (σ i))) nw R i (o::rest) a:=
 ncalm_call hi hr (fun σ w hS=>by
  refine (hc w hS.bare).mono ?_
  rintro e w' ⟨v,rfl,h2⟩
  refine ⟨v,rfl,?_⟩
  have h3:Own w0 w (newR obj n (σ j)):=by
   have:=hS.perm (List.perm_append_comm (l₁:=newR obj n (σ j)) (l₂:=newS l (σ i)))
   exact Own.tailOf _ this
  have h4:=(h3.join h2).perm (List.perm_append_comm (l₁:=[slc 9 1 v l.length (txs l)]) (l₂:=newR obj n (σ j)))
  have e1:(σ.upd i v) j=σ j:=by simp [Sig.upd,Ne.symm hij]
  have e2:(σ.upd i v) i=some v:=by simp [Sig.upd]
  show Own w0 w' (newR obj n ((σ.upd i v) j)++newS l ((σ.upd i v) i))
  rw [e1,e2]
  exact h4) h
end
theorem long_le:∀ (d n m:Nat) (whole:Bool),n≤d→1≤m→m≤n→longF m n whole≤n:=by
 intro d
 induction d with
 | zero=>intro n m whole h1 h2 h3;omega
 | succ d ih=>
  intro n m whole h1 h2 h3
  rw [longF]
  split
  ·split <;> omega
  ·rename_i hne
   have hbd:=Jo n (by omega)
   split
   ·have:=ih (cutN n) m whole (by omega) h2 (by omega)
    omega
   ·have:=ih (n-cutN n) (m-cutN n) false (by omega) (by omega) (by omega)
    omega
abbrev msub(m:Nat)(l:List ByteArray)(whole:Bool):List ByteArray:=subF noneF nodeF m l whole
set_option maxRecDepth 100000 in
set_option maxHeartbeats 12800000 in
theorem cssub_any:∀ (d:Nat) (w:World) (v:Value) (n m:Nat) (l:List ByteArray) (whole:Bool),n≤d→n≤1000000→1≤m→m≤n→Rd w 1 v n (txs l)→(∀ s∈l,s.size≤1000000) →
 Calls Tryz.prog 34 #[.int .i64 32,.int .i64 m,v,.bool whole] w (Ret fun v w'=>Own w w' (slc 9 1 v (msub m l whole).length (txs (msub m l whole))::[])):=by
 intro d
 induction d with
 | zero=>intro w v n m l whole hd h9 hm1 hmn;omega
 | succ d ih=>
  intro w v n m l whole hd h9 hm1 hmn hr hs
  obtain ⟨a,c,rfl,hc1,hc2⟩:=hr.shape
  have hl:l.length=n:=by have:=hr.len;rw [Qr] at this;omega
  have H:=Own.start w
  by_cases hmn2:m=n
  ·subst hmn2
   have hsub:msub m l whole=if whole then [] else [mroot l]:=by rw [msub,subF,dif_pos (.inl hl.symm)]
   have mm:((m:Int)==(m:Int))=true:=by simp
   cases whole with
   | true=>
    rw [hsub,if_pos rfl]
    clear hr hs ih hsub
    go_enter Tryz.func34,Tryz.ntmps34
    go_wp2
    go_ret
    exact ⟨_,rfl,H.nil 9 1⟩
   | false=>
    have hR:=mkroot_any m w _ m l (Nat.le_refl _) (by omega) hr hs
    rw [hsub,if_neg (by decide)]
    obtain ⟨R,hRR⟩:∃ R,Hid (mroot l=R):=⟨_,rfl⟩
    rw [hRR.out] at hR ⊢
    replace hR:=jd hR
    clear hr hs ih hsub hRR
    go_enter Tryz.func34,Tryz.ntmps34
    go_wp2_with fail
    refine hR.out.mono ?_
    rintro e w1 ⟨rfl,H1⟩
    have H2:=H1.made [.string R] 9 1 1 rfl (by decide)
    go_wp2
    go_ret
    exact ⟨_,rfl,H2⟩
  ·have h2:2≤n:=by omega
   obtain ⟨k,hk⟩:∃ k,Hid (cutN n=k):=⟨_,rfl⟩
   have hbd:=Jo n h2
   rw [hk.out] at hbd
   obtain ⟨k1,k2,k3⟩:=hbd
   have hC:=jd (mkcut_any n (by omega))
   rw [hk.out] at hC
   have hsub:msub m l whole=if m≤k then msub m (l.take k) whole++[mroot (l.drop k)] else msub (m-k) (l.drop k) false++[mroot (l.take k)]:=by
    rw [msub,subF,dif_neg (by rw [hl];omega),hl,hk.out]
   have mnI:((m:Int)==(n:Int))=false:=by simp;omega
   obtain ⟨tv,htv⟩:∃ v,Hid (sliced a k n c 1=v):=⟨_,rfl⟩
   have hsl:∀ w,(Instr.sliceAt 26 (.slice a n c) (some (.int .i64 k)) none none).run Tryz.prog w=.ok tv w:=fun w=>slc_low (by kernel_rfl) (fun _=>by kernel_rfl) (by omega) htv.out w
   have hrA:Hid (∀ w',Own w w' []→Rd w' 1 (.slice a k c) k (txs (l.take k))):=jd fun w' h=>by
    have hr2:=(hr.old h).take (k:=k) (by omega)
    rw [Nat.mul_one,txs,← List.map_take] at hr2
    exact hr2
   have hrB:Hid (∀ w',Own w w' []→Rd w' 1 tv (n-k) (txs (l.drop k))):=jd fun w' h=>by
    have hr2:=(hr.old h).cutOf (k:=k) (m:=n) (by omega) (Nat.le_refl _)
    rw [htv.out,Nat.mul_one,Nat.mul_one,txs,List.take_of_length_le (by rw [List.length_map];omega),← List.map_drop] at hr2
    exact hr2
   have hsA:∀ s∈l.take k,s.size≤1000000:=fun s h=>hs s (List.mem_of_mem_take h)
   have hsB:∀ s∈l.drop k,s.size≤1000000:=fun s h=>hs s (List.mem_of_mem_drop h)
   have hkc:k≤c:=by omega
   have hkcI:(k:Int)≤(c:Int):=by omega
   by_cases hmk:m≤k
   ·have hmkI:(m:Int)≤(k:Int):=by omega
    rw [if_pos hmk] at hsub
    have hlen:(msub m l whole).length≤n:=by rw [msub,sub_long _ _ _ _ (Nat.le_refl _),hl];exact long_le n n m whole (Nat.le_refl _) hm1 hmn
    rw [hsub]
    obtain ⟨A,hA⟩:∃ A,Hid (msub m (l.take k) whole=A):=⟨_,rfl⟩
    obtain ⟨R,hR⟩:∃ R,Hid (mroot (l.drop k)=R):=⟨_,rfl⟩
    have HS:Hid (∀ w',Own w w' []→Calls Tryz.prog 34 #[.int .i64 32,.int .i64 m,.slice a k c,.bool whole] w' (Ret fun v w2=>Own w' w2 (slc 9 1 v A.length (txs A)::[]))):=jd fun w' h=>by
     rw [← hA.out];exact ih w' _ k m (l.take k) whole (by omega) (by omega) hm1 hmk (hrA.out w' h) hsA
    have HR:Hid (∀ w1 qs,Own w w1 qs→Calls Tryz.prog 33 #[.int .i64 32,tv] w1 (fun e w2=>e=.returned (.string R)∧Own w w2 qs)):=jd fun w1 qs h=>by
     rw [← hR.out];exact (mkroot_any (n-k) w1 _ (n-k) (l.drop k) (Nat.le_refl _) (by omega) (hrB.out w1 h.bare) hsB).mono fun e w2 g=>⟨g.1,h.join g.2⟩
    rw [hsub,hA.out,hR.out,lJ] at hlen
    rw [hA.out,hR.out]
    obtain ⟨na,hna⟩:∃ na,Hid (A.length=na):=⟨_,rfl⟩
    have hna9:na≤1000000:=by rw [← hna.out];simp at hlen;omega
    clear hr hs ih hsub hA hR hk hrA hrB hsA hsB hlen
    go_enter Tryz.func34,Tryz.ntmps34
    go_wp2_with fail
    refine (hC.out _).mono ?_
    rintro e w1 ⟨rfl,hw1⟩
    obtain rfl:w=w1:=hw1.symm
    go_upto_region 8 with (fail)
    refine wp_region_new (fun σ w1=>Own w w1 (newR (.cells #[.string R] 9) 1 (σ 12)++newS A (σ 6))) 13 [6,12] (by kernel_rfl) (by kernel_rfl) (by simpa [Sig.no,newR,newS] using H.drew) ?_
    simp only [List.take_succ_cons,List.take_zero,List.drop_succ_cons,List.drop_zero]
    repeat
     first
     | (refine calm_value (v:=?_) (by decide) rfl (fun σ w1 hS=>?_) ?_
        rotate_left
        ·skip
         first | (go_simp;rfl) | rfl
        simp only [Act.put,putC])
     | (refine calm_skip (by decide) rfl ?_
        simp only [Act.put,putC])
    refine calm_callS (by decide) (by decide) (fun w1=>(by go_simp)) (fun w1 h=>HS.out w1 h) ?_
    repeat
     first
     | (refine calm_value (v:=?_) (by decide) rfl (fun σ w1 hS=>?_) ?_
        rotate_left
        ·skip
         first | (go_simp;rfl) | rfl
        simp only [Act.put,putC])
     | (refine calm_skip (by decide) rfl ?_
        simp only [Act.put,putC])
    refine calm_call (v:=.string R) (by decide) rfl (fun w1=>(by go_simp)) (fun σ w1 hS=>HR.out w1 _ hS) ?_
    simp only [Act.put,putC]
    refine calm_row2 (ps:=fun σ=>newS A (σ 6)) (fun σ v=>(by simp [Sig.upd])) (by decide) (fun w1=>(by go_simp)) ?_
    refine calm_nil ?_
    intro σ wd hσ HD
    obtain ⟨v1,hv1⟩:=Option.isSome_iff_exists.1 (hσ 6 (by decide))
    obtain ⟨v2,hv2⟩:=Option.isSome_iff_exists.1 (hσ 12 (by decide))
    rw [hv1,hv2] at HD
    obtain ⟨g2,rfl,HN⟩:=HD.newr
    clear HD H
    simp only [Jx,List.foldl_cons,List.foldl_nil,hv1,hv2]
    simp only [Act.put,List.setIfInBounds_toArray,List.set_cons_zero,List.set_cons_succ,List.getElem?_cons_succ,List.getElem?_cons_zero,Option.bind_some,Option.getD_some]
    have hrow:=(HN.slc_mk (xs:=[.string R]) (n:=1) (size:=1) rfl (Nat.le_refl _) (by decide) rfl rfl).rd
    have H:Own w wd (slc 9 1 v1 A.length (txs A)::[]):=HN.drop
    clear HN
    rw [hna.out] at H
    go_wp2_with (at_builtin;refine Qn rfl _ _ rfl Tryz.underlying26 strInfo rfl (by decide) rfl H hrow (by simp [Value.oneCell']) (by omega) (by omega) ?_;clear H hrow;intro v9 w9 H)
    go_ret
    exact ⟨_,rfl,by rw [lJ,hna.out,Zi];exact H⟩
   ·have hmkI:¬ (m:Int)≤(k:Int):=by omega
    have emk:IntKind.i64.wrap ((m:Int)-(k:Int))=((m-k:Nat):Int):=by rw [IntWalk.i64_in _ ⟨by omega,by omega⟩];omega
    obtain ⟨mk,hmk9⟩:∃ mk,Hid (m-k=mk):=⟨_,rfl⟩
    rw [hmk9.out] at emk
    rw [if_neg hmk,hmk9.out] at hsub
    have hlen:(msub m l whole).length≤n:=by rw [msub,sub_long _ _ _ _ (Nat.le_refl _),hl];exact long_le n n m whole (Nat.le_refl _) hm1 hmn
    rw [hsub]
    obtain ⟨A,hA⟩:∃ A,Hid (msub mk (l.drop k) false=A):=⟨_,rfl⟩
    obtain ⟨R,hR⟩:∃ R,Hid (mroot (l.take k)=R):=⟨_,rfl⟩
    have HS:Hid (∀ w',Own w w' []→Calls Tryz.prog 34 #[.int .i64 32,.int .i64 mk,tv,.bool false] w' (Ret fun v w2=>Own w' w2 (slc 9 1 v A.length (txs A)::[]))):=jd fun w' h=>by
     rw [← hA.out];exact ih w' _ (n-k) mk (l.drop k) false (by omega) (by omega) (by have:=hmk9.out;omega) (by have:=hmk9.out;omega) (hrB.out w' h) hsB
    have HR:Hid (∀ w1 qs,Own w w1 qs→Calls Tryz.prog 33 #[.int .i64 32,.slice a k c] w1 (fun e w2=>e=.returned (.string R)∧Own w w2 qs)):=jd fun w1 qs h=>by
     rw [← hR.out];exact (mkroot_any k w1 _ k (l.take k) (Nat.le_refl _) (by omega) (hrA.out w1 h.bare) hsA).mono fun e w2 g=>⟨g.1,h.join g.2⟩
    rw [hsub,hA.out,hR.out,lJ] at hlen
    rw [hA.out,hR.out]
    obtain ⟨na,hna⟩:∃ na,Hid (A.length=na):=⟨_,rfl⟩
    have hna9:na≤1000000:=by rw [← hna.out];simp at hlen;omega
    clear hr hs ih hsub hA hR hk hrA hrB hsA hsB hlen
    go_enter Tryz.func34,Tryz.ntmps34
    go_wp2_with fail
    refine (hC.out _).mono ?_
    rintro e w1 ⟨rfl,hw1⟩
    obtain rfl:w=w1:=hw1.symm
    go_upto_region 9 with (fail)
    refine wp_region_new (fun σ w1=>Own w w1 (newR (.cells #[.string R] 9) 1 (σ 13)++newS A (σ 7))) 14 [7,13] (by kernel_rfl) (by kernel_rfl) (by simpa [Sig.no,newR,newS] using H.drew) ?_
    simp only [List.take_succ_cons,List.take_zero,List.drop_succ_cons,List.drop_zero]
    repeat
     first
     | (refine calm_value (v:=?_) (by decide) rfl (fun σ w1 hS=>?_) ?_
        rotate_left
        ·skip
         first | (go_simp;rfl) | rfl
        simp only [Act.put,putC])
     | (refine calm_skip (by decide) rfl ?_
        simp only [Act.put,putC])
    refine calm_callS (by decide) (by decide) (fun w1=>(by go_simp)) (fun w1 h=>HS.out w1 h) ?_
    repeat
     first
     | (refine calm_value (v:=?_) (by decide) rfl (fun σ w1 hS=>?_) ?_
        rotate_left
        ·skip
         first | (go_simp;rfl) | rfl
        simp only [Act.put,putC])
     | (refine calm_skip (by decide) rfl ?_
        simp only [Act.put,putC])
    refine calm_call (v:=.string R) (by decide) rfl (fun w1=>(by go_simp)) (fun σ w1 hS=>HR.out w1 _ hS) ?_
    simp only [Act.put,putC]
    refine calm_row2 (ps:=fun σ=>newS A (σ 7)) (fun σ v=>(by simp [Sig.upd])) (by decide) (fun w1=>(by go_simp)) ?_
    refine calm_nil ?_
    intro σ wd hσ HD
    obtain ⟨v1,hv1⟩:=Option.isSome_iff_exists.1 (hσ 7 (by decide))
    obtain ⟨v2,hv2⟩:=Option.isSome_iff_exists.1 (hσ 13 (by decide))
    rw [hv1,hv2] at HD
    obtain ⟨g2,rfl,HN⟩:=HD.newr
    clear HD H
    simp only [Jx,List.foldl_cons,List.foldl_nil,hv1,hv2]
    simp only [Act.put,List.setIfInBounds_toArray,List.set_cons_zero,List.set_cons_succ,List.getElem?_cons_succ,List.getElem?_cons_zero,Option.bind_some,Option.getD_some]
    have hrow:=(HN.slc_mk (xs:=[.string R]) (n:=1) (size:=1) rfl (Nat.le_refl _) (by decide) rfl rfl).rd
    have H:Own w wd (slc 9 1 v1 A.length (txs A)::[]):=HN.drop
    clear HN
    rw [hna.out] at H
    go_wp2_with (at_builtin;refine Qn rfl _ _ rfl Tryz.underlying26 strInfo rfl (by decide) rfl H hrow (by simp [Value.oneCell']) (by omega) (by omega) ?_;clear H hrow;intro v9 w9 H)
    go_ret
    exact ⟨_,rfl,by rw [lJ,hna.out,Zi];exact H⟩
end Go.Proofs.YthekdeikodppkaaGreatDoor
