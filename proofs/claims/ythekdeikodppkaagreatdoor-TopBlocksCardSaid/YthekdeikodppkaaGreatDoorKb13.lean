/-
  Texts of this claim, one behind the other: huff; sha; sha; sha; huff; huff; huff; flate; flate.
-/
import Derived.Test.YthekdeikodppkaaGreatDoorKb12
import Derived.Deep.OwnRows
import Derived.Laws.CopyOwn
import Derived.OwnWalk
set_option linter.unusedVariables false
namespace Go.Proofs.YthekdeikodppkaaGreatDoor
open Go.RowKit
theorem sort_syms{w0 w:World}{ps:List Piece}{N B n:Nat}{l F:List Int}{v sv:Value}(hr:Rd w0 1 v n (nums F))(hn:n≤1000000)(hok:∀ x∈l,0≤x∧x<F.length)(hN:N=l.length)(hNb:N≤1000000)
 (H:Own w0 w (slc 3 1 sv N (nums l)::blk B (.cells #[v] 34)::ps)) :
 Calls Tryz.prog 328 #[sv,SI.cf B] w (Ret fun _ w'=>Own w0 w' (slc 3 1 sv N (nums (sortF (frq F) l))::blk B (.cells #[v] 34)::ps)):=by
 rcases H.slc_cases with ⟨rfl,rfl,hx,H2⟩ | ⟨g,cap,cur,rfl,_⟩
 ·refine (sortnil_any _ w).mono ?_
  rintro e w1 ⟨_,rfl,h⟩
  have hl:l=[]:=eJ hN.symm
  subst hl
  exact ⟨_,rfl,(H2.join h).nil _ _⟩
 ·rw [← rows_ie] at H ⊢
  exact sortI_any hr hn hok hN hNb H
set_option maxRecDepth 100000 in
set_option maxHeartbeats 12800000 in
theorem lengths_any{w:World}{v:Value}{n:Nat}{F:List Int}{L:Int}(hr:Rd w 1 v n (nums F))(hn:n≤1000) :
 Calls Tryz.prog 271 #[v,.int .i64 L] w (Ret fun r w'=>∃ ov,r=.tuple #[ov,.int .i64 (errF F L)]∧Own w w' [slc 3 1 ov (resF F L).length (nums (resF F L))]):=by
 have hFl:Hid (F.length=n):=jd (by have:=hr.len;rw [Qg] at this;omega)
 obtain ⟨va,vc,rfl,hv1,hv2⟩:=hr.shape
 have HR:=jd hr
 have H:=(Own.start w).alloc (.cells #[.slice va n vc] 34)
 obtain ⟨bad,hbad⟩:∃ bad,Hid (badArg F L=bad):=⟨_,rfl⟩
 obtain ⟨er,her⟩:∃ er,Hid (errF F L=er):=⟨_,rfl⟩
 obtain ⟨R,hRes⟩:∃ R,Hid (resF F L=R):=⟨_,rfl⟩
 rw [her.out,hRes.out]
 obtain ⟨RL,hRL⟩:∃ RL,Hid (R.length=RL):=⟨_,rfl⟩
 rw [hRL.out]
 have hC:=contains_any (w:=w) hr (by omega)
 clear hr
 go_enter Tryz.func271,Tryz.ntmps271
 go_upto_region 2 with (fail)
 generalize w.alloc (.cells #[.slice va n vc] 34)=wa at *
 generalize w.heap.size=B at *
 have c0:=H.cells
 have HCON:=jd hC
 clear hC
 go_cut [38] (fun s38 wx=>s38=.bool bad∧Own w wx [blk B (.cells #[.slice va n vc] 34)])
 case first=>
  have hbd:=hbad.out
  unfold badArg at hbd
  rw [hFl.out] at hbd
  by_cases h1:L<1
  ·have e:Hid (bad=true):=jd (by rw [← hbd];simp [h1])
   clear hbd
   go_wp2_with fail
   go_meet
   exact ⟨by rw [e.out],H⟩
  ·by_cases h2:15<L
   ·have e:Hid (bad=true):=jd (by rw [← hbd];simp [h2])
    clear hbd
    go_wp2_with fail
    go_meet
    exact ⟨by rw [e.out],H⟩
   ·by_cases h3:320<n
    ·have e:Hid (bad=true):=jd (by rw [← hbd];simp [h3])
     have h3I:(320:Int)<(n:Int):=by omega
     clear hbd
     go_wp2_with fail
     go_meet
     exact ⟨by rw [e.out],H⟩
    ·have e:Hid (bad=anyBad F):=jd (by rw [← hbd];simp [h1,h2,h3])
     have h3I:¬ (320:Int)<(n:Int):=by omega
     have HC2:=jd (contains_any (HR.out.old H) (by omega))
     clear hbd HCON
     go_wp2_with fail
     refine HC2.out.mono ?_
     rintro e1 w1 ⟨_,rfl,rfl,H1⟩
     have H:=H.join H1
     rw [← e.out]
     go_wp2_with fail
     go_meet
     exact ⟨rfl,H⟩
 case rest=>
  clear H c0 HCON
  obtain ⟨rfl,H⟩:=hcut
  cases bad with
  | true=>
   have e1:Hid (er=1):=jd (by rw [← her.out];unfold errF;rw [hbad.out];rfl)
   have e2:Hid (R=[]):=jd (by rw [← hRes.out];unfold resF;rw [her.out,e1.out];rfl)
   go_wp2_with fail
   go_ret2
   refine ⟨_,rfl,_,by rw [e1.out];rfl,?_⟩
   have e3:=hRL.out
   rw [e2.out] at e3
   subst e3
   rw [e2.out]
   exact (H.nil 3 1).swap.drop
  | false=>
   have hbd:=hbad.out
   unfold badArg at hbd
   simp only [Bool.or_eq_false_iff,decide_eq_false_iff_not] at hbd
   obtain ⟨⟨⟨hL1,hL2⟩,hL3⟩,hab⟩:=hbd
   obtain ⟨M,rfl⟩:∃ M:Nat,L=M:=⟨L.toNat,by omega⟩
   have hM1:1≤M:=by omega
   have hM2:M≤15:=by omega
   have hn3:n≤320:=by have:=hFl.out;omega
   have hFb:Hid (∀ f∈F,0≤f∧f≤4294967296):=jd (fun f hf=>by
    unfold anyBad at hab
    rw [List.any_eq_false] at hab
    have:=hab f hf
    simp only [badF,decide_eq_true_eq] at this
    omega)
   clear hab hL1 hL2 hL3
   have c0:=H.cells
   have H:=H.nil 3 1
   go_wp2_with fail
   clear c0
   go_loopw [7,41] (fun s7 s41 wx=>∃ k:Nat,s41=.int .i64 k∧k≤n∧Own w wx [slc 3 1 s7 (usedN F k).length (nums (usedN F k)),blk B (.cells #[.slice va n vc] 34)]) (fun _ s41 _=>n-(intOf s41).toNat)
   case atStart=>exact ⟨0,by go_num,by omega,by simpa [usedN,nums] using H⟩
   case round=>
    clear H
    obtain ⟨k,rfl,hk,H⟩:=hrel
    by_cases hlt:k<n
    ·obtain ⟨b,o,rfl,c1⟩:=rd_num HR.out H (by have:=hFl.out;omega:k<F.length) rfl
     have hu:=usedN_length F k
     have hus:usedN F (k+1)=if 0<F.getD k 0 then usedN F k++[(k:Int)] else usedN F k:=rfl
     obtain ⟨x,hx⟩:∃ x,Hid (F.getD k 0=x):=⟨_,rfl⟩
     rw [hx.out] at c1 hus
     have hkI:(k:Int)<(n:Int):=by omega
     obtain ⟨U,hU⟩:∃ U,Hid (usedN F k=U):=⟨_,rfl⟩
     rw [hU.out] at H hus hu
     by_cases hpos:0<x
     ·rw [if_pos hpos] at hus
      have HUS:=jd hus
      obtain ⟨q,hq⟩:∃ q,Hid (U.length=q):=⟨_,rfl⟩
      rw [hq.out] at H hu
      clear hus
      go_wp2_with (at_builtin;refine Qf rfl _ _ rfl Tryz.underlying34 Vr rfl (by decide) rfl H (news:=[.int .i64 k]) rfl rfl rfl (by simp [Value.oneCell']) (by omega) (by omega) ?_;clear H c1;intro v' w' H)
      go_roundw
      case rel=>
       refine ⟨k+1,by go_num,by omega,?_⟩
       rw [HUS.out,lJ,hq.out]
       simpa [nums] using H
      case measure=>simp [intOf];omega
     ·rw [if_neg hpos] at hus
      have HUS:=jd hus
      clear hus
      go_wp2_with fail
      go_roundw
      case rel=>exact ⟨k+1,by go_num,by omega,by rw [HUS.out];exact H⟩
      case measure=>simp [intOf];omega
    ·obtain rfl:k=n:=by omega
     have hkI:¬ (k:Int)<(k:Int):=by omega
     have hul:=usedN_length F k
     have hus:Hid (usedN F k=usedF F):=jd (by unfold usedF;rw [hFl.out])
     rw [hus.out] at H hul
     obtain ⟨a7,c7,rfl,-⟩:=H.rd.shape
     obtain ⟨N,hN⟩:∃ N,Hid ((usedF F).length=N):=⟨_,rfl⟩
     rw [hN.out] at H hul ⊢
     obtain ⟨p,hp⟩:∃ p:Nat,Hid (2^M=p):=⟨_,rfl⟩
     have hp1:p≤32768:=by
      rw [← hp.out]
      have:2^M≤2^15:=Nat.pow_le_pow_right (by omega) hM2
      omega
     have hpw:wrap64 ((2:Int)^M)=(p:Int):=by
      have e:(2:Int)^M=(p:Int):=by rw [← hp.out];simp
      rw [e]
      exact IntWalk.wrap64_in _ ⟨by omega,by omega⟩
     have herr:Hid (er=if p<N then 3 else 0):=jd (by
      rw [← her.out];unfold errF
      rw [hbad.out,if_neg (by simp),Int.toNat_natCast,hp.out,hN.out])
     by_cases hfull:p<N
     ·have e1:Hid (er=3):=jd (by rw [herr.out,if_pos hfull])
      have e2:Hid (R=[]):=jd (by rw [← hRes.out];unfold resF;rw [her.out,e1.out];rfl)
      have hfI:(p:Int)<(N:Int):=by omega
      go_wp2_with fail
      go_ret2
      refine ⟨_,rfl,_,by rw [e1.out];rfl,?_⟩
      have e3:=hRL.out
      rw [e2.out] at e3
      subst e3
      rw [e2.out]
      exact (H.bare.nil 3 1)
     ·have e1:Hid (er=0):=jd (by rw [herr.out,if_neg hfull])
      have e2:Hid (Zz F M=R):=jd (by rw [← hRes.out];unfold resF;rw [her.out,e1.out];rfl)
      have hfI:¬ (p:Int)<(N:Int):=by omega
      have hS:=sort_syms HR.out (by omega) (fun x hx=>by
       obtain ⟨s,rfl,h1,_⟩:=(usedN_mem F _ x).1 hx
       exact ⟨by omega,by omega⟩) hN.out.symm (by omega) H
      have esym:sortF (frq F) (usedF F)=symsF F:=rfl
      rw [esym] at hS
      have hsl:Hid ((symsF F).length=N):=jd (by rw [syms_length];exact hN.out)
      have HS:=jd hS
      clear hS esym herr
      go_wp2_with fail
      refine HS.out.mono ?_
      rintro e w1 ⟨_,rfl,H1⟩
      clear H HS
      have c0:=(H1.front 1 rfl).cells
      have hmk:∀ w:World,(Instr.makeSlice 34 (.int .i64 k) (.int .i64 k)).run Tryz.prog w=.ok (.slice (some ⟨w.heap.size,0,none⟩) k k) (w.alloc (.cells (madeCells #[.int .i64 0] k) 3)):=run_make_row' _ _ _ 8 Tryz.underlying34 Vr rfl .i64 .i64 k (by omega) (by omega)
      go_upto_region 15 with (fail)
      clear c0 hmk
      have H:=(H1.alloc (.cells (madeCells #[.int .i64 0] k) 3)).slc_mk (xs:=nums (Qm k)) (n:=k) (size:=1) (by simp [nums,Qm]) (Nat.le_refl _) (by simp [maxLen];omega) (by simp [size_madeCells]) (by rw [toList_madeCells_one];simp [nums,Qm])
      clear H1
      generalize w1.alloc (.cells (madeCells #[.int .i64 0] k) 3)=wb at *
      generalize w1.heap.size=og at *
      have hz:Hid (∀ s,(Qm k).getD s 0=0):=jd (fun s=>by
       unfold Qm
       rw [List.getD_eq_getElem?_getD,List.getElem?_replicate]
       split <;> rfl)
      have hzl:Hid ((Qm k).length=k):=jd (by simp [Qm])
      have hin:Hid (∀ x∈symsF F,∃ s:Nat,x=s∧s<k):=jd (fun x hx=>by
       obtain ⟨s,rfl,h1,_⟩:=(Kj F x).1 hx
       exact ⟨s,rfl,by have:=hFl.out;omega⟩)
      have hRl:k=RL:=by rw [← hRL.out,← e2.out,lengthsF_length];exact hFl.out.symm
      subst hRl
      by_cases h2:N<2
      ·have hN2:(N:Int)<2:=by omega
       have eR:Hid (bumpF (Qm k) ((symsF F).take N)=R):=jd (by
        rw [List.take_of_length_le (by rw [hsl.out];exact Nat.le_refl _),← e2.out]
        unfold Zz
        rw [if_pos (by rw [hsl.out];exact h2),hFl.out])
       go_wp2_with fail
       go_loopw [69] (fun s69 wx=>∃ j:Nat,s69=.int .i64 j∧j≤N∧Own w wx [slc 3 1 (.slice (some ⟨og,0,none⟩) k k) k (nums (bumpF (Qm k) ((symsF F).take j))),slc 3 1 (.slice a7 N c7) N (nums (symsF F)),blk B (.cells #[.slice va k vc] 34)]) (fun s69 _=>N-(intOf s69).toNat)
       case atStart=>exact ⟨0,by go_num,by omega,by simpa [bumpF] using H⟩
       case round=>
        clear H
        obtain ⟨j,rfl,hj,H⟩:=hrel
        by_cases hlt:j<N
        ·obtain rfl:j=0:=by omega
         obtain ⟨x,hx⟩:=Ql (l:=symsF F) (k:=0) (by have:=hsl.out;omega)
         obtain ⟨z,rfl,hz2⟩:=hin.out x (List.mem_of_getElem? hx)
         have hst:(nums (bumpF (Qm k) ((symsF F).take 0))).set z (.int .i64 1)=nums (bumpF (Qm k) ((symsF F).take (0+1))):=by
          rw [nums_set,bump_take hx]
          unfold bump1
          rw [show (bumpF (Qm k) ((symsF F).take 0))=Qm k from rfl,hz.out]
          rfl
         have HST:=jd hst
         obtain ⟨b7,o7,c7',he,-⟩:=(H.front 1 rfl).rd.some (by rw [Qg,hsl.out];omega)
         cases he
         have c2:=(H.front 1 rfl).rd.cell (Jj hx)
         rw [Nat.add_zero] at c2
         have hjI:(0:Int)<(N:Int):=by omega
         have hzI:(z:Int)<(k:Int):=by omega
         clear hst hx
         go_wp2_with (refine Ja rfl _ _ rfl rfl H (.int .i64 1) rfl (by kernel_rfl) (by omega) rfl ?_;clear H c2;intro w2 H;rw [HST.out] at H)
         go_roundw
         case rel=>exact ⟨0+1,by go_num,by omega,H⟩
         case measure=>simp [intOf];omega
        ·obtain rfl:j=N:=by omega
         have hjI:¬ (j:Int)<(j:Int):=by omega
         rw [eR.out] at H
         go_wp2_with fail
         go_ret2
         refine ⟨_,rfl,_,by rw [e1.out];rfl,?_⟩
         exact ((((H.front 2 rfl).front 2 rfl).drop.drop))
      ·have h3:2≤N:=by omega
       have hN2:¬ (N:Int)<2:=by omega
       obtain ⟨sg,sc,he,-⟩:=(H.front 1 rfl).at (by rw [Qg,hsl.out];omega)
       cases he
       go_upto_if 66 with (fail)
       go_cut [] (fun wx=>Own w wx [slc 3 1 (.slice (some ⟨og,0,none⟩) k k) k (nums (Qm k)),slc 3 1 (.slice (some ⟨sg,0,none⟩) N c7) N (nums (symsF F)),blk B (.cells #[.slice va k vc] 34)])
       case first=>
        go_wp2_with fail
        go_meet
        exact H
       case rest=>
        clear H
        apply_assumption
        refine len_tail22 (n:=k) (F:=F) (syms:=symsF F) (base:=baseF F) (o:=Qm k) (jd (base_law F)) (jd rfl) (jd (by rw [Vb];exact hsl.out)) h3 (by omega) hM1 hM2 hn3 hzl hz hsl (jd (syms_nodup F)) hin (jd (by have:=hp.out;omega)) e1.out (jd ?_) HR (jd ?_) _ _ _ _ _ _ _ _ _ _ _ _ _ _ _ _ _ _ _ _ _ _ _ _ _ _ _ _ _ _ _ _ _ _ _ _ _ _ _ _ _ _ _ _ _ _ _ _ _ _ _ _ _ _ _ _ _ _ _ _ _ _ _ _ _ _ _ _ _ _ _ _ _ _ _ _ _ _ _ _ _ _ _ _ _ _ _ _ _ _ _ _ _ _ _ _ _ _ _ _ _ _ _ _ _ _ _ _ _ _ _ _ _ _ _ _ _ _ _ _ _ _ _ _ _ _ _ _ _ _ _ _ _ _ _ _ _ _ _ _ _ _ _ _ _ hcut
        ·rw [← e2.out]
         unfold Zz
         rw [if_neg (by rw [hsl.out];omega),hsl.out,hFl.out]
        ·intro c hc
         obtain ⟨s,hs,rfl⟩:=List.mem_map.1 hc
         obtain ⟨m,rfl,hm,_⟩:=(Kj F s).1 hs
         show F.getD (Int.toNat m) 0≤_
         rw [Int.toNat_natCast,List.getD_eq_getElem?_getD,List.getElem?_eq_getElem hm]
         exact (hFb.out _ (List.getElem_mem _)).2
def sig1F(x:Int):Int:=bits .xor .u32 (bits .xor .u32 (turnF x 6) (turnF x 11)) (turnF x 25)
def sig0F(x:Int):Int:=bits .xor .u32 (bits .xor .u32 (turnF x 2) (turnF x 13)) (turnF x 22)
def chF(e f g:Int):Int:=bits .xor .u32 (bits .and .u32 e f) (bits .and .u32 (bits .xor .u32 4294967295 e) g)
def majF(a b c:Int):Int:=bits .xor .u32 (bits .xor .u32 (bits .and .u32 a b) (bits .and .u32 a c)) (bits .and .u32 b c)
def oneF(v:List Int)(r wd:Int):Int:=IntKind.u32.wrap (IntKind.u32.wrap (IntKind.u32.wrap (IntKind.u32.wrap (v.getD 7 0+sig1F (v.getD 4 0))+chF (v.getD 4 0) (v.getD 5 0) (v.getD 6 0))+r)+wd)
def twoF(v:List Int):Int:=IntKind.u32.wrap (sig0F (v.getD 0 0)+majF (v.getD 0 0) (v.getD 1 0) (v.getD 2 0))
def stepS(v:List Int)(r wd:Int):List Int:=[IntKind.u32.wrap (oneF v r wd+twoF v),v.getD 0 0,v.getD 1 0,v.getD 2 0,IntKind.u32.wrap (v.getD 3 0+oneF v r wd),v.getD 4 0,v.getD 5 0,v.getD 6 0]
def rndsF(h W:List Int):Nat→List Int
 | 0=>h
 | k+1=>stepS (rndsF h W k) (roundF k) (W.getD k 0)
theorem rnds_length{h:List Int}(hl:h.length=8)(W:List Int):∀ k,(rndsF h W k).length=8:=by
 intro k
 cases k with
 | zero=>exact hl
 | succ k=>rfl
def plusF(h v:List Int):Nat→List Int
 | 0=>h
 | k+1=>(plusF h v k).set k (IntKind.u32.wrap ((plusF h v k).getD k 0+v.getD k 0))
theorem plus_length{h:List Int}(hl:h.length=8)(v:List Int):∀ k,(plusF h v k).length=8:=by
 intro k
 induction k with
 | zero=>exact hl
 | succ k ih=>rw [plusF,List.length_set,ih]
def mixF(h b:List Int):List Int:=plusF h (rndsF h (wordsF b) 64) 8
theorem mix_length{h:List Int}(hl:h.length=8)(b:List Int):(mixF h b).length=8:=plus_length hl _ 8
theorem w8Info(cs:List Int)(h:cs.length=8):(Tryz.prog.info? 239).map (·.size)=some (wds cs).toArray.size:=by
 rw [List.size_toArray,Qi,h]
 kernel_rfl
theorem eight{l:List Int}(h:l.length=8):l=[l.getD 0 0,l.getD 1 0,l.getD 2 0,l.getD 3 0,l.getD 4 0,l.getD 5 0,l.getD 6 0,l.getD 7 0]:=by
 match l,h with
 | [a,b,c,d,e,f,g,i],_=>rfl
section
variable {w0 w:World} {ps:List Piece} {ops:Array Oper} {rest:List Oper} {o:Oper} {a:Act} {Q:Exit→Act→World→Prop}
theorem wpList_load8(hgd:o.guard=none)(x:Operand)(ho:o.op=.load 239 x){g:Nat}(hx:a.eval x=.pointer (some ⟨g,0,none⟩)){cs:List Int}(hl:cs.length=8)(H:Own w0 w (blk g (.cells (wds cs).toArray 239)::ps))
 (h:wpList Tryz.prog ops Q rest (a.put o.dst (.agg (wds cs).toArray)) w):wpList Tryz.prog ops Q (o::rest) a w:=
 wpList_load_row hgd 239 x ho g hx 239 (wds cs).toArray (0,0) _ H.block.1 Tryz.underlying239 rfl (w8Info cs hl) h
theorem wpList_store8(hgd:o.guard=none)(x y:Operand)(ho:o.op=.store 239 x y){g:Nat}(hx:a.eval x=.pointer (some ⟨g,0,none⟩)){cs ds:List Int}(hl:cs.length=8)(hd:ds.length=8)
 (H:Own w0 w (blk g (.cells (wds cs).toArray 239)::ps)) (hv:a.eval y=.agg (wds ds).toArray)
 (h:∀ w',Own w0 w' (blk g (.cells (wds ds).toArray 239)::ps)→wpList Tryz.prog ops Q rest (a.put o.dst undef) w'):wpList Tryz.prog ops Q (o::rest) a w:=
 Qe hgd x y ho hx H hv (by have:=w8Info ds hd;rw [List.size_toArray] at this;exact this) (by rw [List.size_toArray,Qi,Qi,hl,hd];omega) (wds_one ds) (shstore_whole _ _ (by rw [Qi,Qi,hl,hd])) h
theorem wpList_copy8(hgd:o.guard=none)(d s:Operand)(ho:o.op=.call { callee:=.builtin .copy,args:=#[d,s],argTypes:=#[318,318] }){g:Nat}{l:List Int}(hl:l.length=8)
 (H:Own w0 w (blk g (.cells (wds l).toArray 239)::ps)) {c1 c2:Nat} (hd:a.eval d=.slice (some ⟨g,1,none⟩) 7 c1) (hs:a.eval s=.slice (some ⟨g,0,none⟩) 7 c2)
 (h:∀ w',Own w0 w' (blk g (.cells (wds (l.take 1++l.take 7)).toArray 239)::ps)→wpList Tryz.prog ops Q rest (a.put o.dst (.int .i64 7)) w'):wpList Tryz.prog ops Q (o::rest) a w:=by
 refine wpList_copy_own (cs:=wds (l.take 7)) hgd d s _ _ ho 228 Tryz.underlying318 (by kernel_rfl) g 1 7 c1 ⟨g,0,none⟩ 7 c2 hd hs (wds l).toArray 239 H.block.1 (by rw [Qi,List.length_take,hl];rfl)
  (fun j v hv=>?_) (by rw [List.size_toArray,Qi,Qi,List.length_take,hl];decide) (wds_one _) ?_
 ·have hj:j<7:=by
   have:=(gJ hv).1
   rw [Qi,List.length_take] at this
   omega
  rw [show (⟨g,0,none⟩:Addr).add j=⟨g,j,none⟩ from by rcases j with _ | j <;> simp [Addr.add],H.cells,← hv,List.getElem?_toArray,wds,wds,List.getElem?_map,List.getElem?_map,List.getElem?_take_of_lt hj]
 ·have e:((wds (l.take 7)).length:Int)=7:=by rw [Qi,List.length_take,hl];rfl
  have e2:((wds l).toArray.toList.take 1++(wds (l.take 7)++(wds l).toArray.toList.drop (1+(wds (l.take 7)).length))).toArray=(wds (l.take 1++l.take 7)).toArray:=by
   have h8:(wds l).drop (1+(wds (l.take 7)).length)=[]:=by
    rw [List.drop_eq_nil_iff,Qi,Qi,List.length_take,hl];decide
   rw [List.toList_toArray,h8,List.append_nil];simp only [wds,List.map_append,List.map_take]
  rw [e2]
  unfold goInt
  rw [e]
  exact h _ H.setRow
end
theorem run_index_wds{P:Program}(t e:TypeId)(n:Nat)(cs:Array Value)(i:Nat)(v:Int)(w:World)(h:P.underlying t=some (.array n e))(hsz:∀ w,(sizeOf e).run P w=.ok 1 w)(hag:∀ w,(isAgg e).run P w=.ok false w)(hi:i<n)(hv:cs[i]?=some (.int .u32 v)) :
 (Instr.index t (.agg cs) (.int .i64 i)).run P w=.ok (.int .u32 v) w:=by
 have hn:(0:Int)≤(i:Int)∧(i:Int)<(n:Int):=by omega
 simp [Instr.index,run_underlying h,asIntOf,hn,go_sem]
 rw [if_pos hi]
 simp [hsz,hag,hv,Result.andThen]
theorem u32_one(w:World):(sizeOf 228).run Tryz.prog w=.ok 1 w∧(isAgg 228).run Tryz.prog w=.ok false w:=by
 constructor <;> go_simp
def bn(s:ByteArray):List Int:=s.data.toList.map fun b=>(b.toNat:Int)
theorem Qu(s:ByteArray):(bn s).length=s.size:=by rw [bn,List.length_map,Array.length_toList];rfl
theorem bn_cells(s:ByteArray):Lib.byteCells s.data.toList=(bn s).map (.int .u8):=by simp [Lib.byteCells,bn]
def feedF(h l:List Int):List Int × List Int:=
 if _h:64≤l.length then feedF (mixF h (l.take 64)) (l.drop 64) else (h,l)
termination_by l.length
decreasing_by simp only [List.length_drop];omega
theorem feed_less{h l:List Int}(hl:l.length<64):feedF h l=(h,l):=by rw [feedF,dif_neg (by omega)]
theorem feed_more{h l:List Int}(hl:64≤l.length):feedF h l=feedF (mixF h (l.take 64)) (l.drop 64):=by rw [feedF,dif_pos hl]
theorem feed_ok:∀ (d:Nat) (h l:List Int),l.length≤d→h.length=8→(feedF h l).1.length=8∧(feedF h l).2.length<64:=by
 intro d
 induction d with
 | zero=>
  intro h l hd hh
  rw [feed_less (by omega)]
  exact ⟨hh,by show l.length<64;omega⟩
 | succ d ih=>
  intro h l hd hh
  by_cases hl:64≤l.length
  ·rw [feed_more hl]
   exact ih _ _ (by rw [List.length_drop];omega) (mix_length hh _)
  ·rw [feed_less (by omega)]
   exact ⟨hh,by show l.length<64;omega⟩
theorem feed_append:∀ (d:Nat) (h l t:List Int),l.length≤d→feedF (feedF h l).1 ((feedF h l).2++t)=feedF h (l++t):=by
 intro d
 induction d with
 | zero=>
  intro h l t hd
  rw [feed_less (h:=h) (l:=l) (by omega)]
 | succ d ih=>
  intro h l t hd
  by_cases hl:64≤l.length
  ·rw [feed_more hl,ih _ _ _ (by rw [List.length_drop];omega),feed_more (h:=h) (l:=l++t) (by rw [lJ];omega),List.take_append_of_le_length hl,List.drop_append_of_le_length hl]
  ·rw [feed_less (h:=h) (l:=l) (by omega)]
def sh0:List Int:=[1779033703,3144134277,1013904242,2773480762,1359893119,2600822924,528734635,1541459225]
def shZerosF(m:Nat):Nat:=(120-m%64)%64
def lenByte(n:Nat)(i:Nat):Int:=IntKind.u8.wrap ((n:Int)*8/2^(56-8*i))
def lenF(n:Nat):Nat→List Int
 | 0=>[]
 | k+1=>lenF n k++[lenByte n k]
theorem lenF_length(n:Nat):∀ k,(lenF n k).length=k
 | 0=>rfl
 | k+1=>by rw [lenF,lJ,lenF_length n k];rfl
def tailF(l:List Int)(n:Nat):List Int:=l++[128]++List.replicate (shZerosF (l.length+1)) 0++lenF n 8
theorem tail_64(l:List Int)(n:Nat):(tailF l n).length%64=0:=by
 simp only [tailF,lJ,List.length_replicate,lenF_length,List.length_cons,List.length_nil,shZerosF]
 omega
def allF(h l:List Int):List Int:=
 if _h:0<l.length then allF (mixF h (l.take 64)) (l.drop 64) else h
termination_by l.length
decreasing_by simp only [List.length_drop];omega
theorem all_nil{h l:List Int}(hl:l=[]):allF h l=h:=by rw [allF,dif_neg (by rw [hl];simp)]
theorem all_more{h l:List Int}(hl:0<l.length):allF h l=allF (mixF h (l.take 64)) (l.drop 64):=by rw [allF,dif_pos hl]
theorem all_length:∀ (d:Nat) (h l:List Int),l.length≤d→h.length=8→(allF h l).length=8:=by
 intro d
 induction d with
 | zero=>
  intro h l hd hh
  rw [all_nil (eJ (by omega))];exact hh
 | succ d ih=>
  intro h l hd hh
  by_cases hl:0<l.length
  ·rw [all_more hl]
   exact ih _ _ (by rw [List.length_drop];omega) (mix_length hh _)
  ·rw [all_nil (eJ (by omega))];exact hh
def bytes4(x:Int):List Int:=[IntKind.u8.wrap (x/16777216),IntKind.u8.wrap (x/65536),IntKind.u8.wrap (x/256),IntKind.u8.wrap x]
def shOutF(v:List Int):Nat→List Int
 | 0=>[]
 | k+1=>shOutF v k++bytes4 (v.getD k 0)
theorem outF_length(v:List Int):∀ k,(shOutF v k).length=4*k
 | 0=>rfl
 | k+1=>by rw [shOutF,lJ,outF_length v k];simp [bytes4];omega
def shaL(t:List Int):List Int:=shOutF (allF (feedF sh0 t).1 (tailF (feedF sh0 t).2 t.length)) 8
def shaF(t:List Int):ByteArray:=strOfNums (shaL t)
theorem shaL_length(t:List Int):(shaL t).length=32:=outF_length _ 8
theorem Vh(t:List Int):(shaF t).size=32:=by rw [shaF,strOfNums_size,shaL_length]
def z8:List Int:=List.replicate 8 0
theorem z8_length:z8.length=8:=rfl
set_option maxRecDepth 100000 in
set_option maxHeartbeats 25600000 in
theorem shmix_any{w:World}{sv:Value}{h b:List Int}(hh:h.length=8)(hb:b.length=64)(hr:Rd w 1 sv 64 (b.map (.int .u8))):Calls Tryz.prog 139 #[.agg (wds h).toArray,sv] w (fun r w'=>r=.returned (.agg (wds (mixF h b)).toArray)∧Own w w' []):=by
 have HR:=jd hr
 clear hr
 obtain ⟨MX,hMX⟩:∃ M,Hid (mixF h b=M):=⟨_,rfl⟩
 rw [hMX.out]
 have H:=(Own.start w).alloc2 (.cells (wds h).toArray 239) (.cells #[.int .u32 0,.int .u32 0,.int .u32 0,.int .u32 0,.int .u32 0,.int .u32 0,.int .u32 0,.int .u32 0] 239)
 obtain ⟨v0,hv0⟩:∃ v0,Hid (h=v0):=⟨_,rfl⟩
 have HV0:=hh
 rw [hv0.out] at HV0
 obtain ⟨W,hW⟩:∃ W,Hid (wordsF b=W):=⟨_,rfl⟩
 have hWl:W.length=64:=by rw [← hW.out];exact w2F_length b 48
 have HWG:Hid (∀ i,i<64→(wds W).toArray[i]?=some (.int .u32 (W.getD i 0))):=jd fun i hi=>Vu (by omega)
 have HWC:Hid (∀ (w':World) (qs:List Piece),Own w w' qs→Calls Tryz.prog 199 #[sv] w' (fun r w''=>r=.returned (.agg (wds W).toArray)∧Own w w'' qs)):=jd fun w' qs H=>by
  have:=shwords_any hb (HR.out.old H.bare)
  rw [hW.out] at this
  exact this.mono fun e w'' h2=>⟨h2.1,H.join h2.2⟩
 go_enter Tryz.func139,Tryz.ntmps139
 go_upto_region 1 with (fail)
 generalize (w.alloc _).alloc _=w1 at *
 obtain ⟨gz,hgz⟩:∃ g,w.heap.size+1=g:=⟨_,rfl⟩
 rw [hgz] at H ⊢
 generalize w.heap.size=gh at *
 clear hgz
 replace H:Own w w1 (blk gz (.cells (wds z8).toArray 239)::blk gh (.cells (wds h).toArray 239)::[]):=H
 go_upto_region 2 with (first
  | (refine wpList_load8 rfl _ rfl rfl hh H.swap ?_)
  | (refine wpList_store8 rfl _ _ rfl rfl z8_length hh (H.alloc (.cells #[.int .u32 0,.int .u32 0,.int .u32 0,.int .u32 0,.int .u32 0,.int .u32 0,.int .u32 0,.int .u32 0] 239)) rfl ?_;clear H;intro w2 H))
 generalize w1.heap.size=gv at *
 rw [hv0.out] at H
 replace H:Own w w2 (blk gv (.cells (wds (rndsF v0 W 0)).toArray 239)::blk gz (.cells (wds z8).toArray 239)::blk gh (.cells (wds v0).toArray 239)::[]):=H
 go_wp2_with fail
 refine (HWC.out _ _ H).mono ?_
 rintro _ w3 ⟨rfl,H3⟩
 clear H HWC
 have H:=H3
 clear H3
 go_wp2_with fail
 go_loopw [6,7,8,9,10,11,16] (fun _ _ _ _ _ _ v16 wx=>∃ (i:Nat),v16=.int .i64 i∧i≤64∧Own w wx (blk gv (.cells (wds (rndsF v0 W i)).toArray 239)::blk gz (.cells (wds z8).toArray 239)::blk gh (.cells (wds v0).toArray 239)::[])) (fun _ _ _ _ _ _ v16 _=>64-(intOf v16).toNat)
 case atStart=>exact ⟨0,by go_num,by omega,H⟩
 case round=>
  clear H
  obtain ⟨i,rfl,hi,H⟩:=hrel
  by_cases hi64:i<64
  ·obtain ⟨v,hv⟩:∃ v,Hid (rndsF v0 W i=v):=⟨_,rfl⟩
   have hvl:v.length=8:=by rw [← hv.out];exact rnds_length HV0 W i
   obtain ⟨wi,hwi⟩:∃ x,Hid (W.getD i 0=x):=⟨_,rfl⟩
   have hnx:Hid (rndsF v0 W (i+1)=stepS v (roundF i) wi):=jd (by rw [rndsF,hv.out,hwi.out])
   rw [hv.out] at H
   have hiI:(i:Int)<64:=by omega
   have hix:∀ w,(Instr.index 314 (.agg (wds W).toArray) (.int .i64 i)).run Tryz.prog w=.ok (.int .u32 wi) w:=fun w=>run_index_wds _ _ 64 _ i _ w Tryz.underlying314 (fun w=>(u32_one w).1) (fun w=>(u32_one w).2) hi64 (by rw [← hwi.out];exact HWG.out i hi64)
   obtain ⟨a0,a1,a2,a3,a4,a5,a6,a7,rfl⟩:∃ a0 a1 a2 a3 a4 a5 a6 a7,v=[a0,a1,a2,a3,a4,a5,a6,a7]:=⟨_,_,_,_,_,_,_,_,eight hvl⟩
   clear hvl
   have HC:Hid (∀ (w':World) (qs:List Piece),Own w w' (blk gv (.cells (wds [a0,a1,a2,a3,a4,a5,a6,a7]).toArray 239)::qs)→w'.cell? ⟨gv,0,none⟩=some (.int .u32 a0)∧w'.cell? ⟨gv,1,none⟩=some (.int .u32 a1)∧w'.cell? ⟨gv,2,none⟩=some (.int .u32 a2)∧w'.cell? ⟨gv,3,none⟩=some (.int .u32 a3)∧w'.cell? ⟨gv,4,none⟩=some (.int .u32 a4)∧w'.cell? ⟨gv,5,none⟩=some (.int .u32 a5)∧w'.cell? ⟨gv,6,none⟩=some (.int .u32 a6)∧w'.cell? ⟨gv,7,none⟩=some (.int .u32 a7)):=jd fun w' qs h=>⟨by rw [h.cells];rfl,by rw [h.cells];rfl,by rw [h.cells];rfl,by rw [h.cells];rfl,by rw [h.cells];rfl,by rw [h.cells];rfl,by rw [h.cells];rfl,by rw [h.cells];rfl⟩
   obtain ⟨rr,hrr⟩:∃ x,Hid (roundF i=x):=⟨_,rfl⟩
   rw [hrr.out] at hnx
   obtain ⟨O,hO⟩:∃ x,Hid (oneF [a0,a1,a2,a3,a4,a5,a6,a7] rr wi=x):=⟨_,rfl⟩
   obtain ⟨T2,hT2⟩:∃ x,Hid (twoF [a0,a1,a2,a3,a4,a5,a6,a7]=x):=⟨_,rfl⟩
   have hnx2:Hid (stepS [a0,a1,a2,a3,a4,a5,a6,a7] rr wi=[IntKind.u32.wrap (O+T2),a0,a1,a2,IntKind.u32.wrap (a3+O),a4,a5,a6]):=jd (by rw [stepS,hO.out,hT2.out];rfl)
   have T:Hid (∀ (m:Nat) (x:Int) (wx:World) (qs:List Piece),1≤m∧m≤31→Own w wx qs→Calls Tryz.prog 200 #[.int .u32 x,.int .i64 m] wx (fun r w'=>r=.returned (.int .u32 (turnF x m))∧Own w w' qs)):=jd fun m x wx qs hm h=>(shturn_any x m hm wx).mono fun e w' h2=>⟨h2.1,h.join h2.2⟩
   have R:Hid (∀ (wx:World) (qs:List Piece),Own w wx qs→Calls Tryz.prog 201 #[.int .i64 i] wx (fun r w'=>r=.returned (.int .u32 rr)∧Own w w' qs)):=jd fun wx qs h=>(shround_any i hi64 wx).mono fun e w' h2=>⟨by rw [← hrr.out];exact h2.1,h.join h2.2⟩
   go_upto_region 5 with (fail)
   refine Qa (fun wx=>Own w wx (blk gv (.cells (wds [a0,a1,a2,a3,a4,a5,a6,a7]).toArray 239)::blk gz (.cells (wds z8).toArray 239)::blk gh (.cells (wds v0).toArray 239)::[])) 5 (by kernel_rfl) (by kernel_rfl) H.drew ?_
   simp only [List.take_succ_cons,List.take_zero,List.drop_succ_cons,List.drop_zero]
   repeat
    first
    | (refine calm_value (v:=?_) (by decide) rfl (fun σ w1 hS=>?_) ?_
       rotate_left
       ·obtain ⟨c0,c1,c2,c3,c4,c5,c6,c7⟩:=HC.out _ _ hS
        first | (go_simp;rfl) | rfl
       simp only [Act.put,putC])
    | (refine calm_skip (by decide) rfl ?_
       simp only [Act.put,putC])
   refine calm_nil ?_
   intro wd HD
   clear H
   go_upto_region 6 with (fail)
   refine Qa (fun wx=>Own w wx (blk gv (.cells (wds [a0,a1,a2,a3,a4,a5,a6,a7]).toArray 239)::blk gz (.cells (wds z8).toArray 239)::blk gh (.cells (wds v0).toArray 239)::[])) 27 (by kernel_rfl) (by kernel_rfl) HD.drew ?_
   simp only [List.take_succ_cons,List.take_zero,List.drop_succ_cons,List.drop_zero]
   repeat
    first
    | (refine calm_value (v:=?_) (by decide) rfl (fun σ w1 hS=>?_) ?_
       rotate_left
       ·obtain ⟨c0,c1,c2,c3,c4,c5,c6,c7⟩:=HC.out _ _ hS
        first | (go_simp;rfl) | rfl
       simp only [Act.put,putC])
    | (refine calm_skip (by decide) rfl ?_
       simp only [Act.put,putC])
   refine calm_call (v:=.int .u32 (turnF a4 6)) (by decide) rfl (fun w1=>(by go_simp)) (fun σ w1 hS=>T.out 6 a4 w1 _ (by omega) hS) ?_
   simp only [Act.put,putC]
   repeat
    first
    | (refine calm_value (v:=?_) (by decide) rfl (fun σ w1 hS=>?_) ?_
       rotate_left
       ·obtain ⟨c0,c1,c2,c3,c4,c5,c6,c7⟩:=HC.out _ _ hS
        first | (go_simp;rfl) | rfl
       simp only [Act.put,putC])
    | (refine calm_skip (by decide) rfl ?_
       simp only [Act.put,putC])
   refine calm_call (v:=.int .u32 (turnF a4 11)) (by decide) rfl (fun w1=>(by go_simp)) (fun σ w1 hS=>T.out 11 a4 w1 _ (by omega) hS) ?_
   simp only [Act.put,putC]
   repeat
    first
    | (refine calm_value (v:=?_) (by decide) rfl (fun σ w1 hS=>?_) ?_
       rotate_left
       ·obtain ⟨c0,c1,c2,c3,c4,c5,c6,c7⟩:=HC.out _ _ hS
        first | (go_simp;rfl) | rfl
       simp only [Act.put,putC])
    | (refine calm_skip (by decide) rfl ?_
       simp only [Act.put,putC])
   refine calm_call (v:=.int .u32 (turnF a4 25)) (by decide) rfl (fun w1=>(by go_simp)) (fun σ w1 hS=>T.out 25 a4 w1 _ (by omega) hS) ?_
   simp only [Act.put,putC]
   repeat
    first
    | (refine calm_value (v:=?_) (by decide) rfl (fun σ w1 hS=>?_) ?_
       rotate_left
       ·obtain ⟨c0,c1,c2,c3,c4,c5,c6,c7⟩:=HC.out _ _ hS
        first | (go_simp;rfl) | rfl
       simp only [Act.put,putC])
    | (refine calm_skip (by decide) rfl ?_
       simp only [Act.put,putC])
   refine calm_call (v:=.int .u32 rr) (by decide) rfl (fun w1=>(by go_simp)) (fun σ w1 hS=>R.out w1 _ hS) ?_
   simp only [Act.put,putC]
   repeat
    first
    | (refine calm_value (v:=?_) (by decide) rfl (fun σ w1 hS=>?_) ?_
       rotate_left
       ·obtain ⟨c0,c1,c2,c3,c4,c5,c6,c7⟩:=HC.out _ _ hS
        first | (go_simp;rfl) | rfl
       simp only [Act.put,putC])
    | (refine calm_skip (by decide) rfl ?_
       simp only [Act.put,putC])
   refine calm_nil ?_
   intro we HE
   clear HD
   rw [show IntKind.u32.wrap (IntKind.u32.wrap (IntKind.u32.wrap (IntKind.u32.wrap (a7+bits .xor .u32 (bits .xor .u32 (turnF a4 6) (turnF a4 11)) (turnF a4 25))+bits .xor .u32 (bits .and .u32 a4 a5) (bits .and .u32 (bits .xor .u32 (if IntKind.u32.signed=true then -1 else IntKind.u32.max) a4) a6))+rr)+wi)=O from hO.out]
   go_upto_region 7 with (fail)
   refine Qa (fun wx=>Own w wx (blk gv (.cells (wds [a0,a1,a2,a3,a4,a5,a6,a7]).toArray 239)::blk gz (.cells (wds z8).toArray 239)::blk gh (.cells (wds v0).toArray 239)::[])) 24 (by kernel_rfl) (by kernel_rfl) HE.drew ?_
   simp only [List.take_succ_cons,List.take_zero,List.drop_succ_cons,List.drop_zero]
   repeat
    first
    | (refine calm_value (v:=?_) (by decide) rfl (fun σ w1 hS=>?_) ?_
       rotate_left
       ·obtain ⟨c0,c1,c2,c3,c4,c5,c6,c7⟩:=HC.out _ _ hS
        first | (go_simp;rfl) | rfl
       simp only [Act.put,putC])
    | (refine calm_skip (by decide) rfl ?_
       simp only [Act.put,putC])
   refine calm_call (v:=.int .u32 (turnF a0 2)) (by decide) rfl (fun w1=>(by go_simp)) (fun σ w1 hS=>T.out 2 a0 w1 _ (by omega) hS) ?_
   simp only [Act.put,putC]
   repeat
    first
    | (refine calm_value (v:=?_) (by decide) rfl (fun σ w1 hS=>?_) ?_
       rotate_left
       ·obtain ⟨c0,c1,c2,c3,c4,c5,c6,c7⟩:=HC.out _ _ hS
        first | (go_simp;rfl) | rfl
       simp only [Act.put,putC])
    | (refine calm_skip (by decide) rfl ?_
       simp only [Act.put,putC])
   refine calm_call (v:=.int .u32 (turnF a0 13)) (by decide) rfl (fun w1=>(by go_simp)) (fun σ w1 hS=>T.out 13 a0 w1 _ (by omega) hS) ?_
   simp only [Act.put,putC]
   repeat
    first
    | (refine calm_value (v:=?_) (by decide) rfl (fun σ w1 hS=>?_) ?_
       rotate_left
       ·obtain ⟨c0,c1,c2,c3,c4,c5,c6,c7⟩:=HC.out _ _ hS
        first | (go_simp;rfl) | rfl
       simp only [Act.put,putC])
    | (refine calm_skip (by decide) rfl ?_
       simp only [Act.put,putC])
   refine calm_call (v:=.int .u32 (turnF a0 22)) (by decide) rfl (fun w1=>(by go_simp)) (fun σ w1 hS=>T.out 22 a0 w1 _ (by omega) hS) ?_
   simp only [Act.put,putC]
   repeat
    first
    | (refine calm_value (v:=?_) (by decide) rfl (fun σ w1 hS=>?_) ?_
       rotate_left
       ·obtain ⟨c0,c1,c2,c3,c4,c5,c6,c7⟩:=HC.out _ _ hS
        first | (go_simp;rfl) | rfl
       simp only [Act.put,putC])
    | (refine calm_skip (by decide) rfl ?_
       simp only [Act.put,putC])
   refine calm_nil ?_
   intro wf HF
   clear HE
   rw [show IntKind.u32.wrap (bits .xor .u32 (bits .xor .u32 (turnF a0 2) (turnF a0 13)) (turnF a0 22)+bits .xor .u32 (bits .xor .u32 (bits .and .u32 a0 a1) (bits .and .u32 a0 a2)) (bits .and .u32 a1 a2))=T2 from hT2.out]
   go_upto_region 8 with (fail)
   refine Qa (fun wx=>Own w wx (blk gv (.cells (wds [a0,a1,a2,a3,a4,a5,a6,a7]).toArray 239)::blk gz (.cells (wds z8).toArray 239)::blk gh (.cells (wds v0).toArray 239)::[])) 2 (by kernel_rfl) (by kernel_rfl) HF.drew ?_
   simp only [List.take_succ_cons,List.take_zero,List.drop_succ_cons,List.drop_zero]
   repeat
    first
    | (refine calm_value (v:=?_) (by decide) rfl (fun σ w1 hS=>?_) ?_
       rotate_left
       ·obtain ⟨c0,c1,c2,c3,c4,c5,c6,c7⟩:=HC.out _ _ hS
        first | (go_simp;rfl) | rfl
       simp only [Act.put,putC])
    | (refine calm_skip (by decide) rfl ?_
       simp only [Act.put,putC])
   refine calm_nil ?_
   intro wg HG
   clear HF
   refine wpList_copy8 rfl _ _ rfl (l:=[a0,a1,a2,a3,a4,a5,a6,a7]) rfl HG rfl rfl ?_
   clear HG
   intro wk HG
   simp only [Act.put,putC]
   replace HG:Own w wk (blk gv (.cells (wds [a0,a0,a1,a2,a3,a4,a5,a6]).toArray 239)::blk gz (.cells (wds z8).toArray 239)::blk gh (.cells (wds v0).toArray 239)::[]):=HG
   have c4:wk.cell? ⟨gv,4,none⟩=some (.int .u32 a3):=by rw [HG.cells];rfl
   refine wpList_nil ?_
   go_upto_region 10 with (refine Qh rfl _ _ rfl rfl HG rfl (by kernel_rfl) (by simp [wds]) ?_;clear HG c4;intro wk2 HG;rw [Vt] at HG)
   go_wp2_with (refine Qh rfl _ _ rfl rfl HG rfl (by kernel_rfl) (by simp [wds]) ?_;clear HG;intro wk3 HG;rw [Vt] at HG)
   go_roundw
   case rel=>exact ⟨i+1,by go_num,by omega,by rw [hnx.out,hnx2.out];exact HG⟩
   case measure=>simp [intOf];omega
  ·obtain rfl:i=64:=by omega
   have hnI:¬ ((64:Nat):Int)<64:=by omega
   obtain ⟨vf,hvf⟩:∃ x,Hid (rndsF v0 W 64=x):=⟨_,rfl⟩
   have hvl:vf.length=8:=by rw [← hvf.out];exact rnds_length HV0 W 64
   rw [hvf.out] at H
   go_upto_region 12 with (fail)
   have hFIN:Hid (plusF v0 vf 8=MX):=jd (by rw [← hvf.out,← hW.out,← hMX.out,← hv0.out];rfl)
   clear hvf hi hi64 hW hWl HWG
   replace H:Own w wr (blk gv (.cells (wds vf).toArray 239)::blk gz (.cells (wds z8).toArray 239)::blk gh (.cells (wds (plusF v0 vf 0)).toArray 239)::[]):=H
   go_wp2_with fail
   go_loopw [12,88] (fun _ v88 wx=>∃ (j:Nat),v88=.int .i64 j∧j≤8∧Own w wx (blk gv (.cells (wds vf).toArray 239)::blk gz (.cells (wds z8).toArray 239)::blk gh (.cells (wds (plusF v0 vf j)).toArray 239)::[])) (fun _ v88 _=>8-(intOf v88).toNat)
   case atStart=>exact ⟨0,by go_num,by omega,H⟩
   case round=>
    clear H
    obtain ⟨j,rfl,hj,H⟩:=hrel
    by_cases hj8:j<8
    ·obtain ⟨P,hP⟩:∃ x,Hid (plusF v0 vf j=x):=⟨_,rfl⟩
     have hPl:Hid (P.length=8):=jd (by rw [← hP.out];exact plus_length HV0 vf j)
     have hjI:(j:Int)<8:=by omega
     obtain ⟨x,hx⟩:∃ x,Hid (P.getD j 0=x):=⟨_,rfl⟩
     obtain ⟨y,hy⟩:∃ x,Hid (vf.getD j 0=x):=⟨_,rfl⟩
     have hnx:Hid (plusF v0 vf (j+1)=P.set j (IntKind.u32.wrap (x+y))):=jd (by rw [plusF,hP.out,hx.out,hy.out])
     rw [hP.out] at H
     have HC:Hid (∀ (w':World),Own w w' (blk gv (.cells (wds vf).toArray 239)::blk gz (.cells (wds z8).toArray 239)::blk gh (.cells (wds P).toArray 239)::[])→w'.cell? ⟨gv,j,none⟩=some (.int .u32 y)∧w'.cell? ⟨gh,j,none⟩=some (.int .u32 x)):=jd fun w' h=>⟨by rw [h.cells,Vu (by omega),hy.out],by rw [(h.front 2 rfl).cells,Vu (by rw [hPl.out];omega),hx.out]⟩
     go_upto_region 15 with (fail)
     refine Qa (fun wx=>Own w wx (blk gv (.cells (wds vf).toArray 239)::blk gz (.cells (wds z8).toArray 239)::blk gh (.cells (wds P).toArray 239)::[])) 8 (by kernel_rfl) (by kernel_rfl) H.drew ?_
     simp only [List.take_succ_cons,List.take_zero,List.drop_succ_cons,List.drop_zero]
     repeat
      first
      | (refine calm_value (v:=?_) (by decide) rfl (fun σ w1 hS=>?_) ?_
         rotate_left
         ·obtain ⟨c0,c1⟩:=HC.out _ hS
          first | (go_simp;rfl) | rfl
         simp only [Act.put,putC])
      | (refine calm_skip (by decide) rfl ?_
         simp only [Act.put,putC])
     refine calm_nil ?_
     intro wd HD
     clear H
     have HE:=HD.front 2 rfl
     go_wp2_with (refine Qh rfl _ _ rfl rfl HE rfl (by kernel_rfl) (by simp [wds,hPl.out];omega) ?_;clear HE HD;intro w7 HE;rw [Vt] at HE)
     go_roundw
     case rel=>exact ⟨j+1,by go_num,by omega,by rw [hnx.out];exact ((HE.front 2 rfl).front 2 rfl)⟩
     case measure=>simp [intOf];omega
    ·obtain rfl:j=8:=by omega
     have hnI:¬ ((8:Nat):Int)<8:=by omega
     have hMl:MX.length=8:=by rw [← hMX.out];exact mix_length hh b
     have hfin:Hid (plusF v0 vf 8=MX):=hFIN
     rw [hfin.out] at H
     clear hj hj8 hfin
     go_upto_region 17 with (fail)
     refine wp_region_list ?_
     refine wpList_load8 rfl _ rfl rfl hMl (H.front 2 rfl) ?_
     simp only [Act.put,putC]
     refine wpList_store8 rfl _ _ rfl rfl z8_length hMl (H.front 1 rfl) rfl ?_
     clear H
     intro w9 H
     refine wpList_nil ?_
     simp only [Act.put]
     refine (show ∀ (a:Act) (w:World),Code.wp Tryz.prog Code.ret _ a w→_ by assumption) _ _ ?_
     refine wp_ret ?_
     have hl9:(loadVar 239 ⟨gz,0,none⟩).run Tryz.prog w9=.ok (.agg (wds MX).toArray) w9:=run_loadVar_row w9 gz _ _ _ _ _ H.block.1 Tryz.underlying239 rfl (w8Info MX hMl)
     refine bodyPost_ret (v:=.agg (wds MX).toArray) (res_cell1 (p:=4) (ty:=239) rfl _ _ gz _ rfl hl9) rfl ?_
     exact ⟨rfl,H.bare⟩
def symsN(l:List Int)(n k:Nat):List Nat:=(List.range k).filter fun s=>decide (l.getD s 0=(n:Int))
def symsL(l:List Int)(n:Nat):List Nat:=symsN l n l.length
def tsymsN(l:List Int):Nat→List Nat
 | 0=>[]
 | n+1=>tsymsN l n++symsL l (n+1)
def tsymsF(l:List Int):List Nat:=tsymsN l 15
section
variable {l:List Int}
def atF(l:List Int):Nat→Int
 | 0=>0
 | n+1=>atF l n+cntC l n
def decN(l:List Int):Nat→Nat→Int→List Bool→Int × Int × Nat
 | 0,_,_,_=>(0,2,0)
 | _+1,_,_,[]=>(0,2,0)
 | f+1,n,c,b::t=>match (symsL l (n+1))[(2*c+bi b-lowF l (n+1)).toNat]? with
  | some s=>(s,0,1)
  | none=>((decN l f (n+1) (2*c+bi b) t).1,(decN l f (n+1) (2*c+bi b) t).2.1,(decN l f (n+1) (2*c+bi b) t).2.2+1)
def decF(l:List Int)(bs:List Bool):Int × Int × Nat:=decN l 15 0 0 bs
end
def cresF(l:List Int):List Int:=if cerrF l=0 then Zc l else []
theorem cerr_ok{l:List Int}(h:cerrF l=0):l.length≤320∧(∀ x∈l,0≤x∧x≤15)∧sumF wtF l≤2^15:=by
 unfold cerrF at h
 by_cases hm:mayF l=true
 ·rw [if_pos hm] at h
  have:=mayF_len hm
  refine ⟨this.1,this.2,?_⟩
  by_cases hw:sumF wtF l≤2^15
  ·exact hw
  ·rw [if_neg hw] at h;omega
 ·rw [if_neg hm] at h;omega
def terrF(l:List Int):Int:=if mayF l then (if sumF wtF l=32768∨(usedF l).length=0∨(usedF l).length=1∧sumF wtF l=16384 then 0 else 2) else 1
def natI(l:List Nat):List Int:=l.map Int.ofNat
def partT(F:List Int)(k j:Nat):List Nat:=tsymsN F k++symsN F (k+1) j
def lenT(l:List Nat):Nat:=l.length
theorem used_count(F:List Int):∀ k,k≤F.length→(usedN F k).length=(F.take k).countP fun x=>decide (0<x):=by
 intro k
 induction k with
 | zero=>intro _;simp [usedN]
 | succ k ih=>
  intro h
  rw [usedN,List.take_add_one,Za (by omega),List.countP_append,← ih (by omega)]
  split
  ·next h1=>rw [lJ];simp [List.countP_cons];simpa using h1
  ·next h1=>simp [List.countP_cons];simpa using h1
theorem few_weight:∀ l:List Int,(∀ x∈l,0≤x∧x≤15)→((l.countP fun x=>decide (0<x))=0→sumF wtF l=0∧cntL l 1=0)∧((l.countP fun x=>decide (0<x))=1→sumF wtF l≤16384∧(sumF wtF l=16384↔cntL l 1=1))
 | [],_=>by simp [sumF,cntL]
 | x::t,hl=>by
  have ih:=few_weight t fun y hy=>hl y (by simp [hy])
  have hx:=hl x (by simp)
  rw [Je]
  unfold cntL at ih ⊢
  rw [List.countP_cons,List.countP_cons]
  by_cases h0:0<x
  ·have e0:decide (0<x)=true:=by simp [h0]
   rw [e0,if_pos rfl]
   refine ⟨fun h=>by omega,fun h=>?_⟩
   have h1:=ih.1 (by omega)
   rw [h1.1,h1.2]
   have hw:wtF x=2^(15-x.toNat):=by unfold wtF;rw [if_pos h0]
   by_cases hx1:x=1
   ·subst hx1
    rw [hw];simp
   ·have e1:decide (x=((1:Nat):Int))=false:=by simp;exact hx1
    rw [e1]
    have h2:(2:Int)^(15-x.toNat)≤2^13:=by
     have:(2:Nat)^(15-x.toNat)≤2^13:=Nat.pow_le_pow_right (by omega) (by omega)
     exact_mod_cast this
    rw [hw]
    generalize (2:Int)^(15-x.toNat)=p at *
    simp
    omega
  ·have e0:decide (0<x)=false:=by simp;omega
   have e1:decide (x=((1:Nat):Int))=false:=by simp;omega
   have hw:wtF x=0:=by unfold wtF;rw [if_neg h0]
   rw [e0,e1,hw]
   simpa using ih
theorem table_ok{l:List Int}(h:terrF l=0):l.length≤320∧(∀ x∈l,0≤x∧x≤15)∧sumF wtF l≤2^15:=by
 unfold terrF at h
 by_cases hm:mayF l=true
 ·rw [if_pos hm] at h
  have:=mayF_len hm
  refine ⟨this.1,this.2,?_⟩
  by_cases hc:sumF wtF l=32768∨(usedF l).length=0∨(usedF l).length=1∧sumF wtF l=16384
  ·rcases hc with h1 | h1 | h1
   ·omega
   ·have h2:=few_weight l this.2
    unfold usedF at h1
    rw [used_count l _ (Nat.le_refl _),List.take_length] at h1
    have:=(h2.1 h1).1
    omega
   ·omega
  ·rw [if_neg hc] at h;omega
 ·rw [if_neg hm] at h;omega
structure LenOk (F:List Int) (L:Int) (R:List Int):Prop where
 lim:1≤L∧L≤15
 few:F.length≤320
 freq:∀ f∈F,0≤f∧f≤4294967296
 used:(symsF F).length≤2^L.toNat
 res:R=Zz F L.toNat
theorem len_ok{F:List Int}{L:Int}(h:errF F L=0):LenOk F L (resF F L):=by
 have h0:=h
 unfold errF at h
 by_cases hb:badArg F L=true
 ·rw [if_pos hb] at h;omega
 ·rw [if_neg hb] at h
  by_cases hu:2^L.toNat<(usedF F).length
  ·rw [if_pos hu] at h;omega
  ·unfold badArg at hb
   simp only [Bool.or_eq_true,decide_eq_true_eq,not_or] at hb
   obtain ⟨⟨⟨h1,h2⟩,h3⟩,h4⟩:=hb
   refine ⟨by omega,by omega,fun f hf=>?_,by rw [syms_length];omega,?_⟩
   ·unfold anyBad at h4
    rw [List.any_eq_true] at h4
    have:¬ badF f=true:=fun hb=>h4 ⟨f,hf,hb⟩
    simp only [badF,decide_eq_true_eq] at this
    omega
   ·unfold resF;rw [if_pos h0]
section
variable {F R:List Int} {L:Int} (h:LenOk F L R)
include h
theorem LenOk.lim':1≤L.toNat∧L.toNat≤15:=by have:=h.lim;omega
theorem LenOk.nn:∀ f∈F,0≤f:=fun f hf=>(h.freq f hf).1
theorem LenOk.len:R.length=F.length:=by rw [h.res,lengthsF_length]
theorem LenOk.get(j:Nat)(hj:j<F.length):0≤R.getD j 0∧R.getD j 0≤L∧(R.getD j 0=0↔F.getD j 0=0):=by
 rw [h.res]
 have:=lengthsF_range h.lim' h.used h.nn j hj
 have:=h.lim
 omega
theorem LenOk.all:∀ x∈R,0≤x∧x≤15:=fun x hx=>by
 obtain ⟨j,hj,rfl⟩:=List.getElem_of_mem hx
 have h1:=h.get j (by rw [← h.len];exact hj)
 rw [List.getD_eq_getElem?_getD,List.getElem?_eq_getElem hj] at h1
 have:=h.lim
 simp only [Option.getD_some] at h1
 omega
theorem LenOk.weight:sumF wtF R=if (usedF F).length<2 then ((usedF F).length:Int)*16384 else 32768:=by
 rw [h.res,lengthsF_weight h.lim' h.used,syms_length]
 split <;> omega
end
def cbits(l:List Int)(s:Nat):List Bool:=(Qj (codeF l s) (l.getD s 0).toNat).reverse
theorem cbits_length(l:List Int)(s:Nat):(cbits l s).length=(l.getD s 0).toNat:=by unfold cbits;rw [List.length_reverse,Qd]
theorem mem_getD2{F:List Int}{i:Nat}(h:i<F.length):F.getD i 0∈F:=by
 rw [List.getD_eq_getElem?_getD,List.getElem?_eq_getElem h]
 exact List.getElem_mem _
section
variable {l:List Int}
theorem LenOk.cod{F R:List Int}{L:Int}(h:LenOk F L R):cerrF R=0∧terrF R=0∧cresF R=Zc R:=by
 have hmy:mayF R=true:=by
  unfold mayF
  rw [h.len,decide_eq_true h.few,Bool.true_and,List.all_eq_true]
  intro x hx
  have:=h.all x hx
  simp [okLen];omega
 have hus:(usedF R).length=(usedF F).length:=by
  have:∀ k,k≤F.length→usedN R k=usedN F k:=by
   intro k
   induction k with
   | zero=>intro _;rfl
   | succ k ih=>
    intro hk
    rw [usedN,usedN,ih (by omega)]
    have h1:=h.get k (by omega)
    have h2:=getD_nonneg h.nn k
    by_cases hp:0<F.getD k 0
    ·rw [if_pos hp,if_pos (by omega)]
    ·rw [if_neg hp,if_neg (by omega)]
  unfold usedF
  rw [h.len,this _ (Nat.le_refl _)]
 have hw:=h.weight
 have hc:cerrF R=0:=by
  unfold cerrF
  rw [if_pos hmy,if_pos]
  rw [hw]
  split <;> omega
 refine ⟨hc,?_,by unfold cresF;rw [if_pos hc]⟩
 unfold terrF
 rw [if_pos hmy,hus,if_pos]
 rw [hw]
 by_cases h2:(usedF F).length<2
 ·rw [if_pos h2];omega
 ·rw [if_neg h2];omega
def allBits(l:List Int)(P:List Nat):List Bool:=P.flatMap (cbits l)
end
def tbits(L D:List Int)(t:Tok):List Bool:=
 if t.len=0 then cbits L t.lit.toNat
 else cbits L (Jy t.len.toNat).1++(Qj (Jy t.len.toNat).2.2 (Jy t.len.toNat).2.1++(cbits D (Jk t.dist.toNat).1++Qj (Jk t.dist.toNat).2.2 (Jk t.dist.toNat).2.1))
def toksB(L D:List Int)(l:List Tok):List Bool:=l.flatMap (tbits L D)
def bodyB(L D:List Int)(l:List Tok):List Bool:=toksB L D l++cbits L 256
def fixL:List Int:=List.replicate 144 8++List.replicate 112 9++List.replicate 24 7++List.replicate 8 8
def fixD:List Int:=List.replicate 32 5
def headB(last:Bool)(kind:Int):List Bool:=last::Qj kind 2
def litS(t:Tok):Int:=if t.len=0 then t.lit else ((Jy t.len.toNat).1:Int)
def distS(t:Tok):Int:=((Jk t.dist.toNat).1:Int)
def litFq(l:List Tok):List Int:=bumpF ((Qm 286).set 256 1) (l.map litS)
def Vf(l:List Tok):List Int:=bumpF (Qm 30) ((l.filter fun t=>decide (t.len≠0)).map distS)
def trimK(l:List Int)(least:Nat):Nat→Nat
 | 0=>0
 | k+1=>if least<k+1∧l.getD k 0=0 then trimK l least k else k+1
def trimF(l:List Int)(least:Nat):List Int:=l.take (trimK l least l.length)
structure Run where
 sym:Int
 n:Int
 v:Int
def sameK(x:Int):List Int→Nat
 | []=>0
 | y::t=>if y=x then sameK x t+1 else 0
def runsN:Nat→List Int→List Run
 | 0,_=>[]
 | _+1,[]=>[]
 | f+1,x::t=>
  if x=0∧10<sameK x t+1 then ⟨18,7,(min (sameK x t+1) 138:Nat)-11⟩::runsN f ((x::t).drop (min (sameK x t+1) 138))
  else if x=0∧2<sameK x t+1 then ⟨17,3,(sameK x t+1:Nat)-3⟩::runsN f ((x::t).drop (sameK x t+1))
  else if 3<sameK x t+1 then ⟨x,0,0⟩::⟨16,2,(min (sameK x t+1) 7:Nat)-4⟩::runsN f ((x::t).drop (min (sameK x t+1) 7))
  else ⟨x,0,0⟩::runsN f t
def runsF(l:List Int):List Run:=runsN l.length l
def ordF:List Nat:=[16,17,18,0,8,7,9,6,10,5,11,4,12,3,13,2,14,1,15]
def richL(l:List Tok):List Int:=trimF (resF (litFq l) 15) 257
def richD(l:List Tok):List Int:=trimF (resF (Vf l) 15) 1
def richR(l:List Tok):List Run:=runsF (richL l++richD l)
def runFq(rs:List Run):List Int:=bumpF (Qm 19) (rs.map Run.sym)
def runL(rs:List Run):List Int:=resF (runFq rs) 7
def sortedF(ls:List Int):List Int:=trimF (ordF.map fun s=>ls.getD s 0) 4
def runB(ls:List Int)(r:Run):List Bool:=cbits ls r.sym.toNat++Qj r.v r.n.toNat
def runsB(ls:List Int)(rs:List Run):List Bool:=rs.flatMap (runB ls)
def lensB(l:List Int):List Bool:=l.flatMap fun n=>Qj n 3
def sizesB(a b c:Nat):List Bool:=Qj ((a:Int)-257) 5++(Qj ((b:Int)-1) 5++Qj ((c:Int)-4) 4)
def richB(l:List Tok):List Bool:=
 sizesB (richL l).length (richD l).length (sortedF (runL (richR l))).length++(lensB (sortedF (runL (richR l)))++(runsB (runL (richR l)) (richR l)++bodyB (richL l) (richD l) l))
def Kl(l:List Tok)(kind:Int)(last:Bool):List Bool:=if kind=1 then headB last 1++bodyB fixL fixD l else headB last 2++richB l
def storeB:Nat→ByteArray→List Bool→List Bool
 | 0,_,bs=>bs
 | f+1,t,bs=>if t.size≤65535
  then Jv (bs++headB true 0)++(Qj (t.size:Int) 16++(Qj (65535-(t.size:Int)) 16++Zy t))
  else storeB f (t.extract 65535 t.size) (Jv (bs++headB false 0)++(Qj 65535 16++(Qj 0 16++Zy (t.extract 0 65535))))
def storeF(s:ByteArray):List Bool:=storeB (s.size+1) s []
def TokOk(t:Tok):Prop:=(t.len=0∧0≤t.lit∧t.lit<256)∨(3≤t.len∧t.len≤258∧1≤t.dist∧t.dist≤32768)
theorem may_ok{t:Tok}{n:Nat}(h:may t n=true):TokOk t:=by
 unfold may at h
 unfold TokOk
 split at h
 ·next h0=>have:=of_decide_eq_true h;omega
 ·have:=of_decide_eq_true h;omega
theorem flat_le{α:Type}{f:α→List Bool}{b:Nat}:∀ (l:List α),(∀ x∈l,(f x).length≤b)→(l.flatMap f).length≤b*l.length
 | [],_=>by simp
 | x::t,h=>by
  have h1:=flat_le t fun y hy=>h y (by simp [hy])
  have h2:=h x (by simp)
  rw [List.flatMap_cons,lJ,List.length_cons,Nat.mul_succ]
  omega
theorem getD_le{l:List Int}(hl:∀ x∈l,0≤x∧x≤15)(s:Nat):0≤l.getD s 0∧l.getD s 0≤15:=by
 by_cases h:s<l.length
 ·exact hl _ (mem_getD2 h)
 ·rw [List.getD_eq_getElem?_getD,List.getElem?_eq_none (by omega)];simp
theorem cbits_le{l:List Int}(hl:∀ x∈l,0≤x∧x≤15)(s:Nat):(cbits l s).length≤15:=by
 rw [cbits_length];have:=getD_le hl s;omega
theorem tbits_le{L D:List Int}(hL:∀ x∈L,0≤x∧x≤15)(hD:∀ x∈D,0≤x∧x≤15){t:Tok}(ht:TokOk t):(tbits L D t).length≤48:=by
 unfold tbits
 split
 ·have:=cbits_le hL t.lit.toNat;omega
 ·next h=>
  have h1:=cbits_le hL (Jy t.len.toNat).1
  have h2:=cbits_le hD (Jk t.dist.toNat).1
  have h3:3≤t.len∧t.len≤258∧1≤t.dist∧t.dist≤32768:=by rcases ht with h4 | h4 <;> omega
  have h4:=lenSym_bd (n:=t.len.toNat) (by omega)
  have h5:=distSym_bd (n:=t.dist.toNat) (by omega)
  rw [lJ,lJ,lJ,Qd,Qd]
  omega
theorem toksB_le{L D:List Int}(hL:∀ x∈L,0≤x∧x≤15)(hD:∀ x∈D,0≤x∧x≤15){l:List Tok}(ht:∀ t∈l,TokOk t):(toksB L D l).length≤48*l.length:=
 flat_le l fun t h=>tbits_le hL hD (ht t h)
theorem Kg:fixL.length=288∧cerrF fixL=0∧terrF fixL=0:=by decide +kernel
theorem fixD_ok:fixD.length=32∧cerrF fixD=0∧terrF fixD=0:=by decide +kernel
theorem fixL_bd:∀ x∈fixL,0≤x∧x≤15:=by decide +kernel
theorem fixD_bd:∀ x∈fixD,0≤x∧x≤15:=by decide +kernel
theorem ex_stop{st n e:Nat}(hn:n<1048576)(he:2^(st+1)≤n/2^e):e<20:=by
 rcases Nat.lt_or_ge e 20 with h | h
 ·exact h
 ·have h1:2^20≤2^e:=Nat.pow_le_pow_right (by omega) h
  have:n/2^e=0:=Nat.div_eq_of_lt (by have:(2:Nat)^20=1048576:=rfl;omega)
  have h2:0<2^(st+1):=Nat.pow_pos (by omega)
  omega
theorem len_sym_le:∀ x:Fin 256,(Jy (x.1+3)).1≤285:=by decide +kernel
set_option maxRecDepth 100000 in
theorem band_any(n st:Nat)(hn:n<1048576)(hst:st=1∨st=2)(w:World) :
 Calls Tryz.prog 323 #[.int .i64 n,.int .i64 st] w (Ret fun r w'=>r=.tuple #[.int .i64 (bandF st n).1,.int .i64 (bandF st n).2.1,.int .i64 (bandF st n).2.2]∧Own w w' []):=by
 have H:=Own.start w
 obtain ⟨x,hx⟩:∃ x,Hid (exF st n=x):=⟨_,rfl⟩
 obtain ⟨b1,b2,b3,hB⟩:∃ b1 b2 b3,Hid (bandF st n=(b1,b2,b3)):=⟨_,_,_,rfl⟩
 have hP:Hid (b1=x*2^st+n/2^x∧b2=x∧b3=n%2^x):=jd (by have h:=hB.out;unfold bandF at h;rw [hx.out] at h;simp only [Prod.mk.injEq] at h;exact ⟨h.1.symm,h.2.1.symm,h.2.2.symm⟩)
 rw [hB.out]
 obtain ⟨c,hc⟩:∃ c:Int,Hid ((2:Int)*2^st=c):=⟨_,rfl⟩
 have hcw:IntKind.i64.wrap ((2:Int)*2^st)=c:=by rw [hc.out,← hc.out];rcases hst with rfl | rfl <;> rfl
 have hcn:Hid (c=((2^(st+1):Nat):Int)):=jd (by rw [← hc.out];rcases hst with rfl | rfl <;> rfl)
 have hst1:(st:Int)<64:=by omega
 have hst0:¬ (st:Int)<0:=by omega
 go_enter Tryz.func323,Tryz.ntmps323
 go_wp2_with fail
 go_loopw [7] (fun s7 wx=>∃ e:Nat,s7=.int .i64 e∧e≤20∧Hid (exN st n (64-e) e=x)∧Own w wx []) (fun s7 _=>20-(intOf s7).toNat)
 case atStart=>exact ⟨0,by go_num,by omega,jd hx.out,H⟩
 case round=>
  clear H
  obtain ⟨e,rfl,he,hex,H⟩:=hrel
  obtain ⟨q,hq⟩:∃ q:Nat,Hid (n/2^e=q):=⟨_,rfl⟩
  have hqi:(n:Int)/2^e=(q:Int):=by
   rw [← hq.out,Int.natCast_ediv,Int.natCast_pow];rfl
  have heI:(e:Int)<64:=by omega
  go_upto_region 2 with (fail)
  refine Qa (fun w1=>Own w w1 []) 5 (by kernel_rfl) (by kernel_rfl) H.drew ?_
  simp only [List.take_succ_cons,List.take_zero,List.drop_succ_cons,List.drop_zero]
  repeat
   first
   | (refine calm_value (v:=?_) (by decide) rfl (fun σ w1 hS=>?_) ?_
      rotate_left
      ·skip
       first | (go_simp;rfl) | rfl
      simp only [Act.put,putC])
   | (refine calm_skip (by decide) rfl ?_
      simp only [Act.put,putC])
  refine calm_nil ?_
  intro wd HD
  clear H
  have hex2:=hex.out
  rw [show 64-e=(64-(e+1))+1 by omega,exN,hq.out] at hex2
  by_cases hlt:2^(st+1)≤q
  ·have hcq:c≤(q:Int):=by rw [hcn.out];exact Int.ofNat_le.2 hlt
   rw [if_pos hlt] at hex2
   have he20:=ex_stop hn (by rw [hq.out];exact hlt)
   have HEX:=jd hex2
   clear hex2 hex hlt
   go_wp2_with fail
   go_roundw
   case rel=>exact ⟨e+1,by go_num,by omega,HEX,HD⟩
   case measure=>simp [intOf];omega
  ·have hcq:¬ c≤(q:Int):=by rw [hcn.out];exact fun h=>hlt (Int.ofNat_le.1 h)
   rw [if_neg hlt] at hex2
   subst hex2
   clear hex hlt
   obtain ⟨r,hr⟩:∃ r:Nat,Hid (n%2^e=r):=⟨_,rfl⟩
   have hri:bits .and .i64 (n:Int) ((2:Int)^e-1)=(r:Int):=by
    have h1:=i64_and_mask (n:Int) e (by omega)
    have h2:((2^e-1:Nat):Int)=(2:Int)^e-1:=by
     have:0<2^e:=Nat.pow_pos (by omega)
     rw [Int.natCast_sub (by omega),Int.natCast_pow];rfl
    rw [h2] at h1
    rw [h1,← hr.out,Int.natCast_emod]
   obtain ⟨p,hp⟩:∃ p:Nat,Hid (e*2^st=p):=⟨_,rfl⟩
   have hp80:p≤80:=by
    rw [← hp.out]
    rcases hst with rfl | rfl <;> omega
   have hpi:(e:Int)*2^st=(p:Int):=by rw [← hp.out,Int.natCast_mul,Int.natCast_pow];rfl
   have hq20:q≤1048576:=by rw [← hq.out];exact Nat.le_trans (Nat.div_le_self _ _) (by omega)
   have hpw:IntKind.i64.wrap ((p:Int))=(p:Int):=IntWalk.i64_in _ ⟨by omega,by omega⟩
   have hpq:IntKind.i64.wrap ((p:Int)+(q:Int))=((p+q:Nat):Int):=by rw [Int.natCast_add];exact IntWalk.i64_in _ ⟨by omega,by omega⟩
   have h2e:IntKind.i64.wrap ((2:Int)^e)=(2:Int)^e∧IntKind.i64.wrap ((2:Int)^e-1)=(2:Int)^e-1:=by
    obtain ⟨m,hm,h1,h2⟩:∃ m:Nat,(2:Int)^e=m∧1≤m∧m≤2^20:=⟨2^e,by rw [Int.natCast_pow];rfl,Nat.pow_pos (by omega),Nat.pow_le_pow_right (by omega) he⟩
    rw [hm]
    exact ⟨IntWalk.i64_in _ ⟨by omega,by omega⟩,IntWalk.i64_in _ ⟨by omega,by omega⟩⟩
   obtain ⟨h2e1,h2e2⟩:=h2e
   have e1:Hid (b1=p+q∧b2=e∧b3=r):=jd (by rw [← hp.out,← hq.out,← hr.out];exact hP.out)
   clear hP hB
   go_upto_region 4 with (fail)
   refine Qa (fun w1=>Own w w1 []) 15 (by kernel_rfl) (by kernel_rfl) HD.drew ?_
   simp only [List.take_succ_cons,List.take_zero,List.drop_succ_cons,List.drop_zero]
   repeat
    first
    | (refine calm_value (v:=?_) (by decide) rfl (fun σ w1 hS=>?_) ?_
       rotate_left
       ·skip
        first | (go_simp;rfl) | rfl
       simp only [Act.put,putC])
    | (refine calm_skip (by decide) rfl ?_
       simp only [Act.put,putC])
   refine calm_nil ?_
   intro we HE
   clear HD
   go_wp2_with fail
   go_ret3
   exact ⟨_,rfl,by rw [e1.out.1,e1.out.2.1,e1.out.2.2];rfl,HE⟩
theorem length_any(n:Nat)(hn:3≤n)(hn2:n≤258)(w:World) :
 Calls Tryz.prog 267 #[.int .i64 n] w (Ret fun r w'=>r=.tuple #[.int .i64 (Jy n).1,.int .i64 (Jy n).2.1,.int .i64 (Jy n).2.2]∧Own w w' []):=by
 have H:=Own.start w
 obtain ⟨b1,b2,b3,hB⟩:∃ b1 b2 b3,Hid (Jy n=(b1,b2,b3)):=⟨_,_,_,rfl⟩
 rw [hB.out]
 by_cases h1:n=258
 ·subst h1
  have hB2:(285,0,0)=(b1,b2,b3):=hB.out
  cases hB2
  go_enter Tryz.func267,Tryz.ntmps267
  go_wp2_with fail
  go_ret3
  exact ⟨_,rfl,rfl,H⟩
 ·have h1b:((n:Int)==258)=false:=by simp;omega
  by_cases h2:n<11
  ·have h2I:(n:Int)<11:=by omega
   have hB2:Hid (254+n=b1∧0=b2∧0=b3):=jd (by have h:=hB.out;unfold Jy at h;rw [if_neg h1,if_pos h2] at h;simp only [Prod.mk.injEq] at h;exact h)
   have hw:IntKind.i64.wrap (254+(n:Int))=254+(n:Int):=IntWalk.i64_in _ ⟨by omega,by omega⟩
   clear hB h1
   go_enter Tryz.func267,Tryz.ntmps267
   go_wp2_with fail
   go_ret3
   exact ⟨_,rfl,by rw [← hB2.out.1,← hB2.out.2.1,← hB2.out.2.2];rfl,H⟩
  ·have h2I:¬ (n:Int)<11:=by omega
   obtain ⟨c1,c2,c3,hC⟩:∃ c1 c2 c3,Hid (bandF 2 (n-3)=(c1,c2,c3)):=⟨_,_,_,rfl⟩
   have hB2:Hid (257+c1=b1∧c2=b2∧c3=b3):=jd (by have h:=hB.out;unfold Jy at h;rw [if_neg h1,if_neg h2,hC.out] at h;simp only [Prod.mk.injEq] at h;exact h)
   have hc:=band_any (n-3) 2 (by omega) (.inr rfl)
   rw [hC.out] at hc
   rw [show ((n-3:Nat):Int)=(n:Int)-3 by omega,show ((2:Nat):Int)=2 from rfl] at hc
   have HC:=jd hc
   have hc1:c1≤300:=by
    have h:=hB2.out.1
    have:b1≤285:=by
     have h3:=len_sym_le ⟨n-3,by omega⟩
     simp only [show n-3+3=n by omega,hB.out] at h3
     exact h3
    omega
   have hw:IntKind.i64.wrap ((c1:Int)+257)=(c1:Int)+257:=IntWalk.i64_in _ ⟨by omega,by omega⟩
   clear hB h1 hc
   go_enter Tryz.func267,Tryz.ntmps267
   go_wp2_with fail
   refine (HC.out _).mono ?_
   rintro e w2 ⟨_,rfl,rfl,H2⟩
   have H:=H.join H2
   go_wp2_with fail
   go_ret3
   exact ⟨_,rfl,by rw [← hB2.out.1,← hB2.out.2.1,← hB2.out.2.2];rfl,H⟩
theorem dist_any(n:Nat)(hn:1≤n)(hn2:n≤32768)(w:World) :
 Calls Tryz.prog 268 #[.int .i64 n] w (Ret fun r w'=>r=.tuple #[.int .i64 (Jk n).1,.int .i64 (Jk n).2.1,.int .i64 (Jk n).2.2]∧Own w w' []):=by
 have H:=Own.start w
 obtain ⟨b1,b2,b3,hB⟩:∃ b1 b2 b3,Hid (Jk n=(b1,b2,b3)):=⟨_,_,_,rfl⟩
 rw [hB.out]
 by_cases h2:n<5
 ·have h2I:(n:Int)<5:=by omega
  have hB2:Hid (n-1=b1∧0=b2∧0=b3):=jd (by have h:=hB.out;unfold Jk at h;rw [if_pos h2] at h;simp only [Prod.mk.injEq] at h;exact h)
  have hB3:Hid ((b1:Int)=(n:Int)-1):=jd (by have:=hB2.out.1;omega)
  clear hB
  go_enter Tryz.func268,Tryz.ntmps268
  go_wp2_with fail
  go_ret3
  exact ⟨_,rfl,by rw [hB3.out,← hB2.out.2.1,← hB2.out.2.2];rfl,H⟩
 ·have h2I:¬ (n:Int)<5:=by omega
  have hc:=band_any (n-1) 1 (by omega) (.inl rfl)
  have hd:Jk n=bandF 1 (n-1):=by unfold Jk;rw [if_neg h2]
  rw [← hd,hB.out,show ((n-1:Nat):Int)=(n:Int)-1 by omega,show ((1:Nat):Int)=1 from rfl] at hc
  have HC:=jd hc
  clear hB hc hd
  go_enter Tryz.func268,Tryz.ntmps268
  go_wp2_with fail
  refine (HC.out _).mono ?_
  rintro e w2 ⟨_,rfl,rfl,H2⟩
  have H:=H.join H2
  go_wp2_with fail
  go_ret3
  exact ⟨_,rfl,rfl,H⟩
end Go.Proofs.YthekdeikodppkaaGreatDoor
