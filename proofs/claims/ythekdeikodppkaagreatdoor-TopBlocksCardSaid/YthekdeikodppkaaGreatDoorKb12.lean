/-
  Texts of this claim, one behind the other: huff; huff; huff; huff; Bits; Bits; Bits; Bits; sha; sha.
-/
import Derived.Test.YthekdeikodppkaaGreatDoorKb11
import Derived.Lib.BufferMore
set_option linter.unusedVariables false
namespace Go.Proofs.YthekdeikodppkaaGreatDoor
open Go.RowKit
theorem coinInfo:(Tryz.prog.info? 431).map (fun i=>(i.zero,i.size,i.bytes))=some (some (.agg #[.int .i64 0,.bool false]),2,16):=by kernel_rfl
theorem rows_ie(l:List Int):rows SI.ie l=nums l:=by
 induction l with
 | nil=>rfl
 | cons x t ih=>rw [Ke,ih];rfl
theorem insert_nil(cmp:Value)(w:World):Calls Tryz.prog 378 #[.slice none 0 0,.int .i64 0,.int .i64 0,cmp] w (Ret fun _ w'=>Own w w' []):=by
 have H:=Own.start w
 go_enter Tryz.func378,Tryz.ntmps378
 go_wp2_with fail
 go_loop [8] (fun s8=>s8=.int .i64 1) (fun _=>0)
 case atStart=>go_num
 case round=>
  obtain rfl:=hrel
  go_wp2
  go_end0
  exact ⟨_,rfl,H⟩
theorem stable_nil(cmp:Value)(w:World):Calls Tryz.prog 358 #[.slice none 0 0,.int .i64 0,cmp] w (Ret fun _ w'=>Own w w' []):=by
 have H:=Own.start w
 go_enter Tryz.func358,Tryz.ntmps358
 go_wp2_with fail
 go_loop [7,8] (fun s7 s8=>s7=.int .i64 0∧s8=.int .i64 20) (fun _ _=>0)
 case atStart=>exact ⟨by go_num,by go_num⟩
 case round=>
  obtain ⟨rfl,rfl⟩:=hrel
  go_wp2_with fail
  refine (insert_nil cmp _).mono ?_
  rintro e w1 ⟨_,rfl,H1⟩
  go_wp2_with fail
  go_loop [6] (fun s6=>s6=.int .i64 20) (fun _=>0)
  case atStart=>go_num
  case round=>
   obtain rfl:=hrel
   go_wp2
   go_end0
   exact ⟨_,rfl,H1⟩
theorem sortnil_any(cmp:Value)(w:World):Calls Tryz.prog 328 #[.slice none 0 0,cmp] w (Ret fun _ w'=>Own w w' []):=by
 go_enter Tryz.func328,Tryz.ntmps328
 go_wp2_with fail
 refine (stable_nil cmp w).mono ?_
 rintro e w1 ⟨_,rfl,H1⟩
 go_wp2
 go_end0
 exact ⟨_,rfl,H1⟩
theorem sortI_any{w0 w:World}{ps:List Piece}{g c N B n:Nat}{l F:List Int}{v:Value}(hr:Rd w0 1 v n (nums F))(hn:n≤1000000)(hok:∀ x∈l,0≤x∧x<F.length)(hN:N=l.length)(hNb:N≤1000000)
 (H:Own w0 w (slc 3 1 (.slice (some ⟨g,0,none⟩) N c) N (rows SI.ie l)::blk B (.cells #[v] 34)::ps)) :
 Calls Tryz.prog 328 #[.slice (some ⟨g,0,none⟩) N c,SI.cf B] w (Ret fun _ w'=>Own w0 w' (slc 3 1 (.slice (some ⟨g,0,none⟩) N c) N (rows SI.ie (sortF (frq F) l))::blk B (.cells #[v] 34)::ps)):=by
 have HS:=jd (SI.stable_any (byfreq_any hr hn) hok hN hNb H)
 clear hr hok H hN
 go_enter Tryz.func328,Tryz.ntmps328
 go_wp2_with fail
 refine HS.out.mono ?_
 rintro e w1 ⟨_,rfl,H1⟩
 go_wp2
 go_end0
 exact ⟨_,rfl,H1⟩
theorem sortC_any{w0 w:World}{ps:List Piece}{g c N:Nat}{l:List Coin}(hN:N=l.length)(hNb:N≤1000000)
 (H:Own w0 w (slc 431 2 (.slice (some ⟨g,0,none⟩) N c) N (rows ce l)::ps)) :
 Calls Tryz.prog 360 #[.slice (some ⟨g,0,none⟩) N c,SC.cf 0] w (Ret fun _ w'=>Own w0 w' (slc 431 2 (.slice (some ⟨g,0,none⟩) N c) N (rows ce (sortF Coin.w l))::ps)):=by
 have HS:=jd (SC.stable_any (B:=0) (lighter_any w0 ps 0) (fun _ _=>trivial) hN hNb H)
 clear H hN
 go_enter Tryz.func360,Tryz.ntmps360
 go_wp2_with fail
 refine HS.out.mono ?_
 rintro e w1 ⟨_,rfl,H1⟩
 go_wp2
 go_end0
 exact ⟨_,rfl,H1⟩
theorem rows_ce_one(l:List Coin):∀ u∈rows ce l,u.oneCell'=true:=by
 intro u hu
 obtain ⟨x,_,hx⟩:=List.mem_flatMap.1 hu
 exact SC.e_one x u hx
theorem clone_any{w:World}{v:Value}{n:Nat}{l:List Coin}(hr:Rd w 2 v n (rows ce l))(hl:0<l.length)(hn:n≤1000000) :
 Calls Tryz.prog 359 #[v] w (Ret fun r w'=>Own w w' [slc 431 2 r n (rows ce l)]):=by
 have hlen:0<(rows ce l).length:=by rw [Qp ce SC.e_length];omega
 obtain ⟨b,o,c,rfl,hc1,hc2⟩:=hr.some hlen
 have H:=(Own.start w).made [] 431 2 0 (by simp) (by simp [maxLen])
 have hr2:=hr.old H
 have h1:=rows_ce_one l
 generalize rows ce l=xs at *
 have HR:=jd hr2
 have H1:=jd h1
 clear hr hr2 h1 hlen
 have hnil:∀ W,(binOp .eql 429 (.slice (some ⟨b,o,none⟩) n c) (.slice none 0 0)).run Tryz.prog W=.ok (.bool false) W:=fun W=>Lib.run_eql_slice_some_nil W _ _ _ Tryz.underlying429
 go_enter Tryz.func359,Tryz.ntmps359
 go_wp2_with (at_builtin;refine Qn rfl _ _ rfl Tryz.underlying429 coinInfo rfl (by decide) rfl H HR.out H1.out (by omega) (by omega) ?_;clear H;intro v' w' H)
 go_ret
 refine ⟨_,rfl,?_⟩
 simpa using H
theorem rows_pair_cells(a b:Coin)(t:List Coin):rows ce (a::b::t)=[.int .i64 a.w,.bool a.pair,.int .i64 b.w,.bool b.pair]++rows ce t:=rfl
theorem rd_tail2{w:World}{b o cap n:Nat}{c1 c2:Coin}{t:List Coin}(h:Rd w 2 (.slice (some ⟨b,o,none⟩) (n+2) cap) (n+2) (rows ce (c1::c2::t))) :
 Rd w 2 (.slice (if cap=2 then some ⟨b,o,none⟩ else some ⟨b,o+4,none⟩) n (cap-2)) n (rows ce t):=by
 have h1:=h.tail (k:=2) (by omega)
 by_cases hc:cap=2
 ·subst hc
  obtain ⟨hl,a,c,e,hle,_⟩:=h
  cases e
  have hn:n=0:=by omega
  subst hn
  have hx:rows ce t=[]:=by
   refine eJ ?_
   rw [rows_pair_cells,lJ] at hl
   simp at hl
   simpa using hl
  rw [hx]
  exact ⟨by simp,_,_,rfl,by omega,by simp [maxLen],by simp,fun ad _ j u hu=>by simp at hu⟩
 ·have e:(rows ce (c1::c2::t)).drop (2*2)=rows ce t:=by rw [rows_drop ce SC.e_length];rfl
  rw [e] at h1
  simpa [hc,Addr.add] using h1
set_option maxRecDepth 100000 in
set_option maxHeartbeats 1600000 in
theorem row_any{w:World}{v u:Value}{n m:Nat}{base A:List Coin}(hr:Rd w 2 v n (rows ce base))(hu:Rd w 2 u m (rows ce A))(hl:0<base.length)(hn:n≤1000)(hm:m≤1000)
 (hA:∀ c∈A,0≤c.w∧c.w≤1000000000000000000) :
 Calls Tryz.prog 331 #[v,u] w (Ret fun r w'=>Own w w' [slc 431 2 r (rowF base A).length (rows ce (rowF base A))]):=by
 have HC:=jd (clone_any hr hl (by omega))
 have hbn:Hid (base.length=n):=jd (by have:=hr.len;rw [Qp ce SC.e_length] at this;omega)
 have hlm:A.length=m:=by have:=hu.len;rw [Qp ce SC.e_length] at this;omega
 clear hr
 have HL:=jd hl
 clear hl
 go_enter Tryz.func331,Tryz.ntmps331
 go_wp2_with fail
 refine HC.out.mono ?_
 rintro e w1 ⟨r,rfl,H⟩
 clear HC
 have HU:=jd hu
 have HA:=jd hA
 obtain ⟨M,hP⟩:∃ M,Hid (base++Ji A=M):=⟨_,rfl⟩
 have hPM:=hP
 have hn2:n+m/2≤2000:=by omega
 go_wp2_with fail
 clear hu hA
 go_loopw [1,5] (fun s1 s5 wx=>∃ (k q:Nat) (B P:List Coin),Hid (Rd w 2 s1 k (rows ce B))∧Hid (B.length=k)∧k≤1000∧q+k/2≤2000∧Hid (P++Ji B=M)∧Hid (∀ c∈B,0≤c.w∧c.w≤1000000000000000000)∧Hid (P.length=q)∧Own w wx [slc 431 2 s5 q (rows ce P)]) (fun s1 _ _=>Jr s1)
 case atStart=>exact ⟨m,n,A,base,HU,jd hlm,hm,hn2,hP,HA,hbn,H⟩
 case round=>
  clear H HU HA hP hn2 hn hm hlm hbn
  obtain ⟨k,q,B,P,HU,hB,hk,hq,hP,HA,hPl,H⟩:=hrel
  by_cases h2:2≤k
  ·obtain ⟨c1,c2,t,rfl⟩:∃ (c1 c2:Coin) (t:List Coin),B=c1::c2::t:=by
    match B,hB.out with
    | [],h=>simp at h;omega
    | [_],h=>simp at h;omega
    | c1::c2::t,_=>exact ⟨c1,c2,t,rfl⟩
   obtain ⟨k,rfl⟩:∃ k',k=k'+2:=⟨k-2,by omega⟩
   have hu:=HU.out
   obtain ⟨b,o,c,rfl,hc1,hc2⟩:=hu.some (by rw [Qp ce SC.e_length];simp)
   have g1:∀ (ps':List Piece) (w':World),Own w w' ps'→w'.cell? ⟨b,o,none⟩=some (.int .i64 c1.w)∧w'.cell? ⟨b,o+2,none⟩=some (.int .i64 c2.w):=fun _ w' h=>by
    have h:=hu.old h
    exact And.intro (h.cell (j:=0) rfl) (h.cell (j:=2) rfl)
   have G1:=jd g1
   have HU2:=jd (rd_tail2 hu)
   have hB2:Hid (t.length=k):=jd (by have:=hB.out;simp at this;omega)
   have HA2:Hid (∀ c∈t,0≤c.w∧c.w≤1000000000000000000):=jd (fun c hc=>HA.out c (by simp [hc]))
   have hP2:Hid ((P++[(⟨c1.w+c2.w,true⟩:Coin)])++Ji t=M):=jd (by rw [← hP.out,Ji,List.append_assoc];rfl)
   have hPl2:Hid ((P++[(⟨c1.w+c2.w,true⟩:Coin)]).length=q+1):=jd (by rw [lJ,hPl.out];rfl)
   have b1:=HA.out c1 (by simp)
   have b2:=HA.out c2 (by simp)
   have hrow0:rows ce P++ce ⟨c1.w+c2.w,true⟩=rows ce (P++[⟨c1.w+c2.w,true⟩]):=by rw [Ze,rows_one]
   have HR0:=jd hrow0
   clear hu g1 HU hB HA hP hPl hrow0
   generalize c1.w=x1 at *
   generalize c2.w=x2 at *
   obtain ⟨s,hs⟩:∃ s,Hid (x1+x2=s):=⟨_,rfl⟩
   have hsw:IntKind.i64.wrap (x1+x2)=s:=by rw [← hs.out];exact IntWalk.i64_in _ ⟨by omega,by omega⟩
   rw [hs.out] at hP2 hPl2 HR0
   have hcc:((k:Int)+2≤(c:Int)):=by omega
   have hk0:(0:Int)<(k:Int)+2:=by omega
   have hk1:(1:Int)<(k:Int)+2:=by omega
   go_upto_region 4 with (fail)
   refine wp_region_new (fun σ w1=>Own w w1 (newR (.cells #[.int .i64 s,.bool true] 431) 1 (σ 11)++(slc 431 2 u5 q (rows ce P)::[]))) 12 [11] (by kernel_rfl) (by kernel_rfl) H.drew ?_
   simp only [List.take_succ_cons,List.take_zero,List.drop_succ_cons,List.drop_zero]
   repeat
    first
    | (refine calm_value (v:=?_) (by decide) rfl (fun σ w1 hS=>?_) ?_
       rotate_left
       ·obtain ⟨c0,c1⟩:=G1.out _ _ hS
        first | (go_simp;rfl) | rfl
       simp only [Act.put,putC])
    | (refine calm_skip (by decide) rfl ?_
       simp only [Act.put,putC])
   refine calm_row (by decide) (fun w1=>(by go_simp)) ?_
   refine calm_nil ?_
   intro σ wd hσ HD
   obtain ⟨vn,hvn⟩:=Option.isSome_iff_exists.1 (hσ 11 (by decide))
   rw [hvn] at HD
   obtain ⟨g2,rfl,HN⟩:=HD.newr
   clear HD H
   simp only [Jx,List.foldl_cons,List.foldl_nil,hvn]
   simp only [Act.put,List.setIfInBounds_toArray,List.set_cons_zero,List.set_cons_succ,List.getElem?_cons_succ,List.getElem?_cons_zero,Option.bind_some,Option.getD_some]
   have hrow:=(HN.slc_mk (xs:=ce ⟨s,true⟩) (n:=1) (size:=2) rfl (Nat.le_refl _) (by decide) rfl rfl).rd
   have H:=HN.drop
   clear HN
   go_wp2_with (at_builtin;refine Qn rfl _ _ rfl Tryz.underlying429 coinInfo rfl (by decide) rfl H hrow (SC.e_one _) (by omega) (by omega) ?_;clear H hrow;intro v' w' H;rw [HR0.out] at H)
   go_roundw
   case rel=>exact ⟨k,q+1,t,P++[⟨s,true⟩],HU2,hB2,by omega,by omega,hP2,HA2,hPl2,H⟩
   case measure=>simp [Jr]
  ·have hB0:Ji B=[]:=eJ (by rw [pairsF_length,hB.out];omega)
   have hPM2:P=M:=by rw [← hP.out,hB0,List.append_nil]
   subst hPM2
   have hq1:0<q:=by rw [← hPl.out,← hPM.out,lJ];have:=HL.out;omega
   obtain ⟨a,cp,rfl,hc1,hc2⟩:=HU.out.shape
   obtain ⟨g,c,rfl,hd1,hd2,_⟩:=H.at (by rw [Qp ce SC.e_length,hPl.out];omega)
   have HS:=jd (sortC_any hPl.out.symm (by omega) H)
   have hkI:¬ (2:Int)≤(k:Int):=by omega
   have hR:Hid (sortF Coin.w P=rowF base A):=jd (by rw [← hPM.out];rfl)
   have hRl:Hid ((rowF base A).length=q):=jd (by rw [← hR.out,← (Zo P).2.length,hPl.out])
   clear HU hB hB0 hP HA hPl H HL hPM h2
   go_wp2_with fail
   refine HS.out.mono ?_
   rintro e w2 ⟨_,rfl,H2⟩
   rw [hR.out] at H2
   go_wp2
   go_ret
   exact ⟨_,rfl,by rw [hRl.out];exact H2⟩
set_option maxHeartbeats 800000 in
theorem counted_any{w:World}{v:Value}{n k:Nat}{l:List Coin}(hr:Rd w 2 v n (rows ce l))(hn:n≤1000000)(hk:k≤n) :
 Calls Tryz.prog 332 #[v,.int .i64 k] w (Ret fun r w'=>r=.tuple #[.int .i64 ((k-npF l k:Nat):Int),.int .i64 (npF l k)]∧Own w w' []):=by
 have hln:l.length=n:=by have:=hr.len;rw [Qp ce SC.e_length] at this;omega
 have hle:=npF_le l k
 obtain ⟨Z,hZ⟩:∃ Z,Hid (npF l k=Z):=⟨_,rfl⟩
 rw [hZ.out] at hle ⊢
 obtain ⟨a,c,rfl,hc1,hc2⟩:=hr.shape
 have HR:=jd hr
 have hl:=jd hln
 have H:=Own.start w
 clear hr hln
 go_enter Tryz.func332,Tryz.ntmps332
 go_wp2_with fail
 go_loopw [6,13] (fun s6 s13 wx=>∃ i:Nat,s13=.int .i64 i∧i≤k∧s6=.int .i64 (npF l i)∧Own w wx []) (fun _ s13 _=>k-(intOf s13).toNat)
 case atStart=>exact ⟨0,by go_num,by omega,by simp [npF],H⟩
 case round=>
  clear H
  obtain ⟨i,rfl,hi,rfl,H⟩:=hrel
  have hpl:=npF_le l i
  by_cases hlt:i<k
  ·obtain ⟨x,hx⟩:=Ql (l:=l) (k:=i) (by have:=hl.out;omega)
   have hp:npF l (i+1)=npF l i+if x.pair then 1 else 0:=by
    unfold npF
    rw [List.take_add_one,hx,List.countP_append]
    simp
   obtain ⟨y,hy⟩:∃ y,Hid (npF l i=y):=⟨_,rfl⟩
   have HP:=jd hp
   have hr:=HR.out
   obtain ⟨b,o,c',he,_⟩:=hr.some (by rw [Qp ce SC.e_length];have:=hl.out;omega)
   cases he
   have hr2:=(HR.out.old H)
   have g0:wr.cell? ⟨b,o+i*2,none⟩=some (.int .i64 x.w):=by
    have:=hr2.cell ((Jt ce SC.e_length hx 0 (by omega)).trans rfl)
    simpa using this
   have g1:wr.cell? ⟨b,o+(i*2+1),none⟩=some (.bool x.pair):=hr2.cell ((Jt ce SC.e_length hx 1 (by omega)).trans rfl)
   have g2:wr.cell? ⟨b,o+i*2+1,none⟩=some (.bool x.pair):=g1
   have hI:(i:Int)<(k:Int):=by omega
   clear hp hr hr2 hx
   obtain ⟨xw,xp⟩:=x
   simp only at g0 g1 g2 HP
   obtain ⟨gc,hgc⟩:∃ gc,Hid (wr.heap.size=gc):=⟨_,rfl⟩
   rw [hy.out] at HP hpl ⊢
   cases xp
   all_goals
    go_wp2_with (refine Qe rfl _ _ rfl rfl (H.alloc _) rfl (by kernel_rfl) (by simp) (by simp;exact ⟨rfl,rfl⟩) rfl ?_;clear H;intro w5 H;rw [hgc.out] at H ⊢;have c0:=H.cells)
    go_roundw
    case rel=>exact ⟨i+1,by go_num,by omega,by rw [HP.out];simp,H.bare⟩
    case measure=>simp [intOf];omega
  ·obtain rfl:i=k:=by omega
   have hz:=hZ.out
   rw [hz] at hpl ⊢
   have hw:IntKind.i64.wrap ((i:Int)-(Z:Int))=((i-Z:Nat):Int):=by rw [IntWalk.i64_in _ ⟨by omega,by omega⟩];omega
   clear hz
   go_wp2
   go_ret2
   exact ⟨_,rfl,rfl,H⟩
theorem bad_any(f:Int)(w:World):Calls Tryz.prog 326 #[.int .i64 f] w fun e w'=>e=.returned (.bool (badF f))∧w'=w:=by
 obtain ⟨b,hb⟩:∃ b,Hid (badF f=b):=⟨_,rfl⟩
 rw [hb.out]
 go_enter Tryz.func326,Tryz.ntmps326
 by_cases h1:f<0
 ·have e:Hid (b=true):=jd (by rw [← hb.out];simp [badF,h1])
  go_wp2
  go_ret
  exact ⟨by rw [e.out];rfl,rfl⟩
 ·by_cases h2:4294967296<f
  ·have e:Hid (b=true):=jd (by rw [← hb.out];simp [badF,h2])
   go_wp2
   go_ret
   exact ⟨by rw [e.out];rfl,rfl⟩
  ·have e:Hid (b=false):=jd (by rw [← hb.out];simp [badF];omega)
   go_wp2
   go_ret
   exact ⟨by rw [e.out];rfl,rfl⟩
theorem index_any{w:World}{v:Value}{n:Nat}{F:List Int}(hr:Rd w 1 v n (nums F))(hn:n≤1000000) :
 Calls Tryz.prog 357 #[v,.func (.func 326) #[] #[]] w (Ret fun r w'=>(∃ x:Int,r=.int .i64 x∧(0≤x↔anyBad F=true) ∧ -1≤x∧x≤1000000)∧Own w w' []):=by
 have hl:F.length=n:=by have:=hr.len;rw [Qg] at this;omega
 obtain ⟨a,c,rfl,hc1,hc2⟩:=hr.shape
 have HR:=jd hr
 have HL:=jd hl
 have H:=Own.start w
 clear hr hl
 go_enter Tryz.func357,Tryz.ntmps357
 go_wp2_with fail
 go_loopw [8] (fun s8 wx=>∃ i:Nat,s8=.int .i64 i∧i≤n∧Hid (∀ j,j<i→badF (F.getD j 0)=false)∧Own w wx []) (fun s8 _=>n-(intOf s8).toNat)
 case atStart=>exact ⟨0,by go_num,by omega,jd (fun j h=>by omega),H⟩
 case round=>
  clear H
  obtain ⟨i,rfl,hi,hno,H⟩:=hrel
  by_cases hlt:i<n
  ·obtain ⟨b,o,rfl,c0⟩:=rd_num HR.out H (by have:=HL.out;omega:i<F.length) rfl
   obtain ⟨x,hx⟩:∃ x,Hid (F.getD i 0=x):=⟨_,rfl⟩
   rw [hx.out] at c0
   have hI:(i:Int)<(n:Int):=by omega
   obtain ⟨bx,hbx⟩:∃ bx,Hid (badF x=bx):=⟨_,rfl⟩
   go_wp2_with fail
   refine (bad_any x _).mono ?_
   rintro e w1 ⟨rfl,rfl⟩
   rw [hbx.out]
   cases bx with
   | true=>
    go_wp2
    go_ret
    refine ⟨_,rfl,⟨_,rfl,?_,by omega,by omega⟩,H⟩
    constructor
    ·intro _
     unfold anyBad
     rw [List.any_eq_true]
     refine ⟨x,?_,hbx.out⟩
     have hl:=HL.out
     rw [← hx.out,List.getD_eq_getElem?_getD,List.getElem?_eq_getElem (by omega)]
     exact List.getElem_mem _
    ·intro _;omega
   | false=>
    go_wp2_with fail
    go_roundw
    case rel=>exact ⟨i+1,by go_num,by omega,jd (fun j h=>by
     rcases Nat.lt_or_ge j i with h1 | h1
     ·exact hno.out j h1
     ·have:j=i:=by omega
      subst this;rw [hx.out];exact hbx.out),H⟩
    case measure=>simp [intOf];omega
  ·have hI:¬ (i:Int)<(n:Int):=by omega
   go_wp2
   go_ret
   refine ⟨_,rfl,⟨_,rfl,?_,by omega,by omega⟩,H⟩
   constructor
   ·intro h;omega
   ·intro h
    exfalso
    unfold anyBad at h
    rw [List.any_eq_true] at h
    obtain ⟨x,hx,hb⟩:=h
    obtain ⟨j,hj,rfl⟩:=List.getElem_of_mem hx
    have hl:=HL.out
    have:=hno.out j (by omega)
    rw [List.getD_eq_getElem?_getD,List.getElem?_eq_getElem hj] at this
    simp only [Option.getD_some] at this
    rw [this] at hb
    cases hb
theorem contains_any{w:World}{v:Value}{n:Nat}{F:List Int}(hr:Rd w 1 v n (nums F))(hn:n≤1000000) :
 Calls Tryz.prog 327 #[v,.func (.func 326) #[] #[]] w (Ret fun r w'=>r=.bool (anyBad F)∧Own w w' []):=by
 have HI:=jd (index_any hr hn)
 obtain ⟨b,hb⟩:∃ b,Hid (anyBad F=b):=⟨_,rfl⟩
 rw [hb.out]
 clear hr
 go_enter Tryz.func327,Tryz.ntmps327
 go_wp2_with fail
 refine HI.out.mono ?_
 rintro e w1 ⟨_,rfl,⟨x,rfl,hx,hx1,hx2⟩,H1⟩
 rw [hb.out] at hx
 by_cases h0:0≤x
 ·have e:=hx.1 h0
  subst e
  clear hx
  go_wp2
  go_ret
  exact ⟨_,rfl,rfl,H1⟩
 ·have e:b=false:=by cases b <;> simp_all
  subst e
  have e2:Hid (decide (0≤x)=false):=jd (by simp;omega)
  clear hx
  go_wp2
  go_ret
  exact ⟨_,rfl,by show Value.bool (decide (0≤x))=_;rw [e2.out],H1⟩
noncomputable def lenTail(r:Nat):Code:=((Tryz.f271.body.bind (fromR r)).getD .skip)
def rowPs(base:List Coin)(f:Nat→Value):Nat→List Piece
 | 0=>[]
 | k+1=>slc 431 2 (f k) (rowsF base k).length (rows ce (rowsF base k))::rowPs base f k
theorem rowPs_get(base:List Coin)(f:Nat→Value):∀ k j,j<k→(rowPs base f k)[k-1-j]?=some (slc 431 2 (f j) (rowsF base j).length (rows ce (rowsF base j)))
 | 0,j,h=>by omega
 | k+1,j,h=>by
  rw [rowPs]
  rcases Nat.lt_or_ge j k with h1 | h1
  ·rw [show k+1-1-j=(k-1-j)+1 by omega,List.getElem?_cons_succ]
   exact rowPs_get base f k j h1
  ·have:j=k:=by omega
   subst this
   rw [show j+1-1-j=0 by omega]
   rfl
theorem rowPs_congr(base:List Coin)(f g:Nat→Value):∀ k,(∀ j,j<k→f j=g j)→rowPs base f k=rowPs base g k
 | 0,_=>rfl
 | k+1,h=>by rw [rowPs,rowPs,h k (by omega),rowPs_congr base f g k fun j hj=>h j (by omega)]
def cntM(base:List Coin):Nat→Nat→List Nat
 | 0,_=>[]
 | m+1,n=>(n-npF (rowsF base m) n)::cntM base m (2*npF (rowsF base m) n)
theorem cntM_eq(base:List Coin):∀ i n,cntM base (i+1) n=cntF base i n:=by
 intro i
 induction i with
 | zero=>intro n;rfl
 | succ i ih=>intro n;rw [cntM,ih,cntF]
theorem rowsF_len_le(base:List Coin)(i:Nat):(rowsF base i).length≤2*base.length:=by
 induction i with
 | zero=>simp [rowsF];omega
 | succ i ih=>rw [rowsF_length];omega
theorem bump_bounds{o:List Int}{syms:List Int}(hnd:syms.Nodup)(hin:∀ x∈syms,∃ s:Nat,x=s∧s<o.length)(j s:Nat):o.getD s 0≤(bumpF o (syms.take j)).getD s 0∧(bumpF o (syms.take j)).getD s 0≤o.getD s 0+1:=by
 rw [Kh _ _ _ (fun x hx=>hin x (List.mem_of_mem_take hx)),count_nodup (hnd.sublist (List.take_sublist _ _))]
 split <;> omega
set_option maxRecDepth 100000 in
set_option maxHeartbeats 12800000 in
theorem len_tail33{w wr:World}{base:List Coin}{f:Nat→Value}{syms o R:List Int}{L N n rg rc og oc sg sc:Nat}{er:Int}(hb:Hid (Base base))(hN:Hid (base.length=N))(h2:2≤N)(hN3:N≤320)(hL1:1≤L)(hL2:L≤15)(hn:n≤320)(ho:Hid (o.length=n))(hz:Hid (∀ s,o.getD s 0=0))
 (hsl:Hid (syms.length=N)) (hnd:Hid syms.Nodup) (hin:Hid (∀ x∈syms,∃ s:Nat,x=s∧s<n)) (hpow:Hid (N≤2^L)) (he:er=0) (hR:Hid (outF syms (cntF base (L-1) (2*N-2)) o=R)) (hbv:∃ a c,f 0=.slice a N c)
 (z0 z2 z3 z4 z5 z6 z8 z9 z11 z12 z14 z15 z17 z18 z19 z20 z21 z22 z23 z24 z25 z26 z27 z28 z29 z30 z31 z32 z33 z34 z35 z36 z37 z38 z39 z40 z41 z42 z43 z44 z45 z46 z47 z48 z49 z50 z51 z52 z53 z54 z55 z56 z57 z58 z59 z60 z61 z62 z63 z64 z65 z66 z67 z68 z69 z70 z71 z72 z73 z74 z75 z76 z77 z78 z79 z80 z81 z82 z83 z84 z85 z86 z87 z88 z89 z90 z91 z92 z93 z94 z95 z96 z97 z98 z99 z100 z101 z102 z103 z104 z105 z106 z107 z108 z109 z110 z111 z112 z113 z114 z115 z116 z117 z118 z119 z120 z121 z122 z123 z124 z125 z126 z127 z128 z129 z130 z131 z132 z133 z134 z135 z136 z137 z138 z139 z140 z141 z142 z143 z144 z145 z146 z147 z148:Value)
 (H:Own w wr (slc 429 1 (.slice (some ⟨rg,0,none⟩) L rc) L ((List.range L).map f)::slc 3 1 (.slice (some ⟨og,0,none⟩) n oc) n (nums o)::slc 3 1 (.slice (some ⟨sg,0,none⟩) N sc) N (nums syms)::rowPs base f L)) :
 Code.wp Tryz.prog (lenTail 33) (bodyPost Tryz.prog Tryz.f271 (Ret fun r w'=>∃ ov,r=.tuple #[ov,.int .i64 er]∧Own w w' [slc 3 1 ov n (nums R)]))
  ⟨#[z0,.int .i64 L,z2,z3,z4,z5,z6,.slice (some ⟨sg,0,none⟩) N sc,z8,z9,.slice (some ⟨og,0,none⟩) n oc,z11,z12,f 0,z14,z15,.slice (some ⟨rg,0,none⟩) L rc,z17,z18,z19,z20,z21,z22,z23,z24,z25,z26,z27,z28,z29,z30,z31,z32,z33,z34,z35,z36,z37,z38,z39,z40,z41,z42,z43,z44,z45,z46,z47,z48,z49,z50,z51,z52,z53,z54,z55,z56,z57,z58,z59,z60,z61,z62,z63,z64,z65,z66,z67,z68,z69,z70,z71,z72,z73,z74,z75,z76,z77,z78,z79,z80,z81,z82,z83,z84,z85,z86,z87,z88,z89,z90,z91,z92,z93,z94,z95,z96,z97,z98,z99,z100,z101,z102,z103,z104,z105,z106,z107,z108,z109,z110,z111,z112,z113,z114,z115,z116,z117,z118,z119,z120,z121,z122,z123,z124,z125,z126,z127,z128,z129,z130,z131,z132,z133,z134,z135,z136,z137,z138,z139,z140,z141,z142,z143,z144,z145,z146,z147,z148],[]⟩ wr:=by
 conv=>arg 2;whnf
 dsimp only
 subst he
 obtain ⟨ba,bc,hbv⟩:=hbv
 rw [hbv]
 have hwN:IntKind.i64.wrap (2*(N:Int))=2*(N:Int):=IntWalk.i64_in _ ⟨by omega,by omega⟩
 have hwN2:IntKind.i64.wrap (2*(N:Int)-2)=((2*N-2:Nat):Int):=by rw [IntWalk.i64_in _ ⟨by omega,by omega⟩];omega
 have hwL:IntKind.i64.wrap ((L:Int)-1)=(L:Int)-1:=IntWalk.i64_in _ ⟨by omega,by omega⟩
 have hnn:2*N-2≤(rowsF base (L-1)).length:=by
  have:=rowsF_enough (base:=base) (L-1) (by rw [hN.out,show L-1+1=L by omega];exact hpow.out)
  have:=hN.out
  omega
 have hnn2:2*N-2≤640:=by omega
 have hRM:Hid (outF syms (cntM base L (2*N-2)) o=R):=jd (by
  have e:=cntM_eq base (L-1) (2*N-2)
  rw [show L-1+1=L by omega] at e
  rw [e];exact hR.out)
 obtain ⟨nn,hnnE⟩:∃ nn,Hid (2*N-2=nn):=⟨_,rfl⟩
 rw [hnnE.out] at hwN2 hnn hRM hnn2
 have HNN:=jd hnn
 have hNc:N≤sc:=by obtain ⟨_,_,e,h1,_⟩:=(H.front 2 rfl).rd.shape;cases e;exact h1
 have hsc:sc≤9223372036854775807:=by obtain ⟨_,_,e,_,h1⟩:=(H.front 2 rfl).rd.shape;cases e;exact h1
 clear hnn hR hpow hbv h2
 go_wp2_with fail
 go_loopw [17,18] (fun s17 s18 wx=>∃ (m k:Nat) (q:List Int) (t:Nat),s17=.int .i64 k∧s18=.int .i64 ((m:Int)-1)∧m≤L∧k≤640∧t+m≤15∧Hid (0<m→k≤(rowsF base (m-1)).length)∧Hid (q.length=n)∧Hid (∀ s,0≤q.getD s 0∧q.getD s 0≤t)∧Hid (outF syms (cntM base m k) q=R)∧Own w wx (slc 429 1 (.slice (some ⟨rg,0,none⟩) L rc) L ((List.range L).map f)::slc 3 1 (.slice (some ⟨og,0,none⟩) n oc) n (nums q)::slc 3 1 (.slice (some ⟨sg,0,none⟩) N sc) N (nums syms)::rowPs base f L)) (fun _ s18 _=>(intOf s18+1).toNat)
 case atStart=>exact ⟨L,nn,o,0,by go_num,by go_num,Nat.le_refl _,hnn2,by omega,jd (fun _=>HNN.out),ho,jd (fun s=>by rw [hz.out s];omega),hRM,H⟩
 case round=>
  clear H hRM HNN hwN hwN2 hz ho
  obtain ⟨m,k,q,t,rfl,rfl,hm,hk,ht,hkl,hq,hqb,hqR,H⟩:=hrel
  rcases Nat.eq_zero_or_pos m with h0 | h0
  ·subst h0
   have e:Hid (q=R):=jd hqR.out
   have hm1:¬ (0:Int)≤((0:Nat):Int)-1:=by omega
   clear hqR hkl
   go_wp2
   go_ret2
   refine ⟨_,rfl,_,rfl,?_⟩
   rw [← e.out]
   obtain ⟨r,hr⟩:∃ r,rowPs base f L=r:=⟨_,rfl⟩
   have H2:=(H.front 1 rfl)
   refine ⟨H2.below,?_⟩
   obtain ⟨_,h,g1,g2,g3,_⟩:=H2
   exact ⟨h,g1,g2,g3,trivial⟩
  ·obtain ⟨i,rfl⟩:∃ i,m=i+1:=⟨m-1,by omega⟩
   have hiE:((i+1:Nat):Int)-1=(i:Int):=by omega
   rw [hiE]
   have hrd:Rd wr 2 (f i) (rowsF base i).length (rows ce (rowsF base i)):=(H.front (3+(L-1-i)) (by
    rw [Nat.add_comm 3]
    simp only [List.getElem?_cons_succ]
    exact rowPs_get base f L i (by omega))).rd
   have hkl2:k≤(rowsF base i).length:=by have:=hkl.out (by omega);simpa using this
   have hrl:=rowsF_len_le base i
   rw [hN.out] at hrl
   have hs:=(Vq hb.out i k hkl2).1
   rw [hN.out] at hs
   have hp:=npF_le (rowsF base i) k
   have hnext:0<i→2*npF (rowsF base i) k≤(rowsF base (i-1)).length:=fun h=>by
    obtain ⟨j,rfl⟩:∃ j,i=j+1:=⟨i-1,by omega⟩
    exact np_two hb.out j k
   have hqR2:=hqR.out
   rw [cntM] at hqR2
   have hc:=counted_any hrd (by omega) hkl2
   obtain ⟨P,hP⟩:∃ P,Hid (npF (rowsF base i) k=P):=⟨_,rfl⟩
   rw [hP.out] at hs hp hnext hqR2 hc
   obtain ⟨S,hS⟩:∃ S,Hid (k-P=S):=⟨_,rfl⟩
   rw [hS.out] at hs hqR2 hc
   obtain ⟨fa,fc,hfi,hf1,hf2⟩:=hrd.shape
   have c0:wr.cell? ⟨rg,i,none⟩=some (f i):=by
    have:=H.rd.cell (j:=i) (u:=f i) (by simp [show i<L by omega])
    simpa using this
   rw [hfi] at c0 hc
   have HC:=jd hc
   have HR2:Hid (outF syms (cntM base i (2*P)) (bumpF q (syms.take S))=R):=jd hqR2
   have HNX:=jd hnext
   have hiL:(i:Int)<(L:Int):=by omega
   have hLc:L≤rc:=by obtain ⟨_,_,e,h1,_⟩:=H.rd.shape;cases e;exact h1
   obtain ⟨ln,hln⟩:∃ ln,(rowsF base i).length=ln:=⟨_,rfl⟩
   rw [hln] at hrl c0 HC
   clear hc hqR2 hqR hnext hkl hkl2 hrd hfi hln hiE hm h0 hf1 hf2
   go_wp2_with fail
   refine HC.out.mono ?_
   rintro e w1 ⟨_,rfl,rfl,H1⟩
   have H:=H.join H1
   clear H1 c0 HC
   have hSN:(S:Int)≤(N:Int):=by omega
   have hSc:(S:Int)≤(sc:Int):=by omega
   go_wp2_with fail
   go_loopw [135] (fun s135 wx=>∃ j:Nat,s135=.int .i64 j∧j≤S∧Own w wx (slc 429 1 (.slice (some ⟨rg,0,none⟩) L rc) L ((List.range L).map f)::slc 3 1 (.slice (some ⟨og,0,none⟩) n oc) n (nums (bumpF q (syms.take j)))::slc 3 1 (.slice (some ⟨sg,0,none⟩) N sc) N (nums syms)::rowPs base f L)) (fun s135 _=>S-(intOf s135).toNat)
   case atStart=>exact ⟨0,by go_num,by omega,by simpa [bumpF] using H⟩
   case round=>
    clear H
    obtain ⟨j,rfl,hj,H⟩:=hrel
    by_cases hlt:j<S
    ·obtain ⟨x,hx⟩:=Ql (l:=syms) (k:=j) (by have:=hsl.out;omega)
     obtain ⟨z,rfl,hz2⟩:=hin.out x (List.mem_of_getElem? hx)
     have hql:(bumpF q (syms.take j)).length=n:=by rw [Jl];exact hq.out
     have hbd:=bump_bounds (o:=q) hnd.out (fun x hx=>by rw [hq.out];exact hin.out x hx) j z
     have hqz:=hqb.out z
     have hst:(nums (bumpF q (syms.take j))).set z (.int .i64 ((bumpF q (syms.take j)).getD z 0+1))=nums (bumpF q (syms.take (j+1))):=by
      rw [nums_set,bump_take hx];rfl
     have c2:=(H.front 2 rfl).rd.cell (Jj hx)
     have c1:=(H.front 1 rfl).rd.cell (j:=z) (Jj (List.getElem?_eq_getElem (by omega)))
     rw [show (bumpF q (syms.take j))[z]'(by omega)=(bumpF q (syms.take j)).getD z 0 by rw [List.getD_eq_getElem?_getD,List.getElem?_eq_getElem (by omega)];rfl] at c1
     rw [Nat.zero_add] at c1 c2
     have HST:=jd hst
     obtain ⟨y,hy⟩:∃ y,Hid ((bumpF q (syms.take j)).getD z 0=y):=⟨_,rfl⟩
     rw [hy.out] at hbd c1 HST
     have hfr:=(H.front 1 rfl).at (by rw [Qg,hql];omega)
     obtain ⟨_,_,he,ho1,ho2,_⟩:=hfr
     cases he
     have hyw:IntKind.i64.wrap (y+1)=y+1:=IntWalk.i64_in _ ⟨by omega,by omega⟩
     have hjI:(j:Int)<(S:Int):=by omega
     have hzI:(z:Int)<(n:Int):=by omega
     clear hst hql hx hbd hqz
     go_wp2_with (refine Ja rfl _ _ rfl rfl (H.front 1 rfl) (.int .i64 (y+1)) rfl (by kernel_rfl) (by omega) rfl ?_;clear H c1 c2;intro w2 H;rw [HST.out] at H;replace H:=H.swap)
     go_roundw
     case rel=>exact ⟨j+1,by go_num,by omega,H⟩
     case measure=>simp [intOf];omega
    ·obtain rfl:j=S:=by omega
     have hjI:¬ (j:Int)<(j:Int):=by omega
     have hql:Hid ((bumpF q (syms.take j)).length=n):=jd (by rw [Jl];exact hq.out)
     have hqb2:Hid (∀ s,0≤(bumpF q (syms.take j)).getD s 0∧(bumpF q (syms.take j)).getD s 0≤((t+1:Nat):Int)):=jd (fun s=>by
      have hbd:=bump_bounds (o:=q) hnd.out (fun x hx=>by rw [hq.out];exact hin.out x hx) j s
      have hqz:=hqb.out s
      omega)
     have hPw:IntKind.i64.wrap (2*(P:Int))=((2*P:Nat):Int):=by rw [IntWalk.i64_in _ ⟨by omega,by omega⟩];omega
     have hiw:IntKind.i64.wrap ((i:Int)-1)=(i:Int)-1:=IntWalk.i64_in _ ⟨by omega,by omega⟩
     have hP2:2*P≤640:=by
      rcases Nat.eq_zero_or_pos i with h | h
      ·have h2:=hP.out
       rw [h,rowsF_zero_np hb.out] at h2
       omega
      ·have h2:=HNX.out h
       have h3:=rowsF_len_le base (i-1)
       have h4:=hN.out
       omega
     generalize bumpF q (syms.take j)=q2 at *
     clear hqb hq
     go_wp2
     go_roundw
     case rel=>exact ⟨i,2*P,q2,t+1,by go_num,by go_num,by omega,hP2,by omega,HNX,hql,hqb2,HR2,H⟩
     case measure=>simp [intOf]
theorem crowInfo:(Tryz.prog.info? 429).map (fun i=>(i.zero,i.size,i.bytes))=some (some (.slice none 0 0),1,24):=by kernel_rfl
theorem rows_map_one(F:List Int)(z:Nat):ce (coinOf F z)=[.int .i64 (F.getD z 0),.bool false]:=rfl
set_option maxRecDepth 100000 in
set_option maxHeartbeats 12800000 in
theorem len_tail22{w wr:World}{base:List Coin}{v:Value}{F syms o R:List Int}{L N n B og oc sg sc:Nat}{er:Int}(hb:Hid (Base base))(hbe:Hid (syms.map (coinOf F)=base))(hN:Hid (base.length=N))(h2:2≤N)(hN3:N≤320)(hL1:1≤L)(hL2:L≤15)(hn:n≤320)(ho:Hid (o.length=n))(hz:Hid (∀ s,o.getD s 0=0))
 (hsl:Hid (syms.length=N)) (hnd:Hid syms.Nodup) (hin:Hid (∀ x∈syms,∃ s:Nat,x=s∧s<n)) (hpow:Hid (N≤2^L)) (he:er=0) (hR:Hid (outF syms (cntF base (L-1) (2*N-2)) o=R)) (hr:Hid (Rd w 1 v n (nums F))) (hF:Hid (∀ c∈base,c.w≤4294967296))
 (z0 z3 z4 z5 z6 z8 z9 z11 z12 z13 z14 z15 z16 z17 z18 z19 z20 z21 z22 z23 z24 z25 z26 z27 z28 z29 z30 z31 z32 z33 z34 z35 z36 z37 z38 z39 z40 z41 z42 z43 z44 z45 z46 z47 z48 z49 z50 z51 z52 z53 z54 z55 z56 z57 z58 z59 z60 z61 z62 z63 z64 z65 z66 z67 z68 z69 z70 z71 z72 z73 z74 z75 z76 z77 z78 z79 z80 z81 z82 z83 z84 z85 z86 z87 z88 z89 z90 z91 z92 z93 z94 z95 z96 z97 z98 z99 z100 z101 z102 z103 z104 z105 z106 z107 z108 z109 z110 z111 z112 z113 z114 z115 z116 z117 z118 z119 z120 z121 z122 z123 z124 z125 z126 z127 z128 z129 z130 z131 z132 z133 z134 z135 z136 z137 z138 z139 z140 z141 z142 z143 z144 z145 z146 z147 z148:Value)
 (H:Own w wr (slc 3 1 (.slice (some ⟨og,0,none⟩) n oc) n (nums o)::slc 3 1 (.slice (some ⟨sg,0,none⟩) N sc) N (nums syms)::blk B (.cells #[v] 34)::[])) :
 Code.wp Tryz.prog (lenTail 22) (bodyPost Tryz.prog Tryz.f271 (Ret fun r w'=>∃ ov,r=.tuple #[ov,.int .i64 er]∧Own w w' [slc 3 1 ov n (nums R)]))
  ⟨#[z0,.int .i64 L,.pointer (some ⟨B,0,none⟩),z3,z4,z5,z6,.slice (some ⟨sg,0,none⟩) N sc,z8,z9,.slice (some ⟨og,0,none⟩) n oc,z11,z12,z13,z14,z15,z16,z17,z18,z19,z20,z21,z22,z23,z24,z25,z26,z27,z28,z29,z30,z31,z32,z33,z34,z35,z36,z37,z38,z39,z40,z41,z42,z43,z44,z45,z46,z47,z48,z49,z50,z51,z52,z53,z54,z55,z56,z57,z58,z59,z60,z61,z62,z63,z64,z65,z66,z67,z68,z69,z70,z71,z72,z73,z74,z75,z76,z77,z78,z79,z80,z81,z82,z83,z84,z85,z86,z87,z88,z89,z90,z91,z92,z93,z94,z95,z96,z97,z98,z99,z100,z101,z102,z103,z104,z105,z106,z107,z108,z109,z110,z111,z112,z113,z114,z115,z116,z117,z118,z119,z120,z121,z122,z123,z124,z125,z126,z127,z128,z129,z130,z131,z132,z133,z134,z135,z136,z137,z138,z139,z140,z141,z142,z143,z144,z145,z146,z147,z148],[]⟩ wr:=by
 conv=>arg 2;whnf
 dsimp only
 have hFl:Hid (F.length=n):=jd (by have:=hr.out.len;rw [Qg] at this;omega)
 obtain ⟨x0,hx0⟩:=Ql (l:=syms) (k:=0) (by have:=hsl.out;omega)
 obtain ⟨z0',_,hz0'⟩:=hin.out x0 (List.mem_of_getElem? hx0)
 obtain ⟨fb,fo,fc,rfl,hc1,hc2⟩:=hr.out.some (by rw [Qg];have:=hFl.out;omega)
 clear hx0
 have H:=(H.nil 431 2)
 have hwL:IntKind.i64.wrap ((L:Int)-1)=(L:Int)-1:=IntWalk.i64_in _ ⟨by omega,by omega⟩
 go_wp2_with fail
 go_loopw [13,80] (fun s13 s80 wx=>∃ k:Nat,s80=.int .i64 k∧k≤N∧Own w wx (slc 431 2 s13 k (rows ce ((syms.take k).map (coinOf F)))::slc 3 1 (.slice (some ⟨og,0,none⟩) n oc) n (nums o)::slc 3 1 (.slice (some ⟨sg,0,none⟩) N sc) N (nums syms)::blk B (.cells #[.slice (some ⟨fb,fo,none⟩) n fc] 34)::[])) (fun _ s80 _=>N-(intOf s80).toNat)
 case atStart=>exact ⟨0,by go_num,by omega,by simpa [rows] using H⟩
 case round=>
  clear H
  obtain ⟨k,rfl,hk,H⟩:=hrel
  by_cases hlt:k<N
  ·obtain ⟨x,hx⟩:=Ql (l:=syms) (k:=k) (by have:=hsl.out;omega)
   obtain ⟨z,rfl,hz2⟩:=hin.out x (List.mem_of_getElem? hx)
   have hst:rows ce ((syms.take k).map (coinOf F))++ce (coinOf F z)=rows ce ((syms.take (k+1)).map (coinOf F)):=by
    rw [List.take_add_one,hx,List.map_append,Ze];rfl
   have c2:=(H.front 2 rfl).rd.cell (Jj hx)
   have c3:=(H.front 3 rfl).cells
   have c1:=(hr.out.old H).cell (j:=z) (Jj (List.getElem?_eq_getElem (by have:=hFl.out;omega)))
   rw [show F[z]'(by have:=hFl.out;omega)=F.getD z 0 by rw [List.getD_eq_getElem?_getD,List.getElem?_eq_getElem (by have:=hFl.out;omega)];rfl] at c1
   rw [Nat.zero_add] at c2
   rw [rows_map_one] at hst
   have HST:=jd hst
   obtain ⟨y,hy⟩:∃ y,Hid (F.getD z 0=y):=⟨_,rfl⟩
   rw [hy.out] at c1 HST
   have hkI:(k:Int)<(N:Int):=by omega
   have hzI:(z:Int)<(n:Int):=by omega
   clear hst hx
   go_wp2_with (at_builtin;refine Qf rfl _ _ rfl Tryz.underlying429 coinInfo rfl (by decide) rfl H (news:=[.int .i64 y,.bool false]) rfl rfl rfl (by simp [Value.oneCell']) (by omega) (by omega) ?_;clear H c1 c2 c3;intro v' w' H;rw [HST.out] at H)
   go_roundw
   case rel=>exact ⟨k+1,by go_num,by omega,H⟩
   case measure=>simp [intOf];omega
  ·obtain rfl:k=N:=by omega
   rw [List.take_of_length_le (by have:=hsl.out;omega),hbe.out] at H
   obtain ⟨bg,bc,rfl,hd1,hd2,-⟩:=H.at (by rw [Qp ce SC.e_length,hN.out];omega)
   obtain ⟨bv,hbv⟩:∃ bv,Hid (Value.slice (some ⟨bg,0,none⟩) k bc=bv):=⟨_,rfl⟩
   have hkI:¬ (k:Int)<(k:Int):=by omega
   go_upto_region 29 with (fail)
   replace H:=(H.alloc (.cells #[.slice (some ⟨bg,0,none⟩) k bc] 429)).slc_mk (xs:=[.slice (some ⟨bg,0,none⟩) k bc]) (n:=1) (size:=1) rfl (Nat.le_refl _) (by decide) rfl rfl
   generalize wr.alloc (.cells #[.slice (some ⟨bg,0,none⟩) k bc] 429)=w0 at *
   generalize wr.heap.size=rg0 at *
   have H:Own w w0 (slc 429 1 (.slice (some ⟨rg0,0,none⟩) (0+1) 1) (0+1) ((List.range (0+1)).map (fun _=>Value.slice (some ⟨bg,0,none⟩) k bc))::slc 3 1 (.slice (some ⟨og,0,none⟩) n oc) n (nums o)::slc 3 1 (.slice (some ⟨sg,0,none⟩) k sc) k (nums syms)::rowPs base (fun _=>Value.slice (some ⟨bg,0,none⟩) k bc) (0+1)):=by
    have e:slc 431 2 (.slice (some ⟨bg,0,none⟩) k bc) k (rows ce base)=slc 431 2 (.slice (some ⟨bg,0,none⟩) k bc) (rowsF base 0).length (rows ce (rowsF base 0)):=by
     show _=slc 431 2 _ base.length _
     rw [hN.out];rfl
    rw [e] at H
    exact (((((H.front 3 rfl).front 3 rfl).front 2 rfl).front 4 rfl).drop)
   go_upto_block 6 with (fail)
   go_cut [16] (fun s16 wx=>∃ (rg rc:Nat) (f:Nat→Value),s16=.slice (some ⟨rg,0,none⟩) L rc∧Hid (f 0=.slice (some ⟨bg,0,none⟩) k bc)∧Own w wx (slc 429 1 (.slice (some ⟨rg,0,none⟩) L rc) L ((List.range L).map f)::slc 3 1 (.slice (some ⟨og,0,none⟩) n oc) n (nums o)::slc 3 1 (.slice (some ⟨sg,0,none⟩) k sc) k (nums syms)::rowPs base f L))
   case first=>
    go_wp2_with fail
    go_loopw [16,97] (fun s16 s97 wx=>∃ (i rg rc:Nat) (f:Nat→Value),s97=.int .i64 i∧i+1≤L∧s16=.slice (some ⟨rg,0,none⟩) (i+1) rc∧Hid (f 0=.slice (some ⟨bg,0,none⟩) k bc)∧Own w wx (slc 429 1 (.slice (some ⟨rg,0,none⟩) (i+1) rc) (i+1) ((List.range (i+1)).map f)::slc 3 1 (.slice (some ⟨og,0,none⟩) n oc) n (nums o)::slc 3 1 (.slice (some ⟨sg,0,none⟩) k sc) k (nums syms)::rowPs base f (i+1))) (fun _ s97 _=>L-(intOf s97).toNat)
    case atStart=>exact ⟨0,rg0,1,_,by go_num,hL1,rfl,jd rfl,H⟩
    case round=>
     clear H
     obtain ⟨i,rg,rc,f,rfl,hi,rfl,hf0,H⟩:=hrel
     by_cases hlt:i+1<L
     ·have hbase:Rd wr 2 (f 0) (rowsF base 0).length (rows ce (rowsF base 0)):=(H.front (3+(i+1-1-0)) (by
       rw [Nat.add_comm 3]
       simp only [List.getElem?_cons_succ]
       exact rowPs_get base f (i+1) 0 (by omega))).rd
      have hlast:Rd wr 2 (f i) (rowsF base i).length (rows ce (rowsF base i)):=(H.front 3 rfl).rd
      have hbl:(rowsF base 0).length=k:=hN.out
      have hll:(rowsF base i).length≤1000:=by have:=rowsF_len_le base i;have:=hN.out;omega
      have hbw:∀ c∈rowsF base i,0≤c.w∧c.w≤1000000000000000000:=fun c hc=>by
       have h1:=rowsF_pos hb.out i c hc
       have h2:=rowsF_le i 4294967296 (by omega) hF.out c hc
       have h3:(2:Int)^i≤2^14:=by
        have:(2:Nat)^i≤2^14:=Nat.pow_le_pow_right (by omega) (by omega)
        exact_mod_cast this
       have h4:=Int.mul_le_mul_of_nonneg_right h3 (show (0:Int)≤4294967296 by omega)
       omega
      obtain ⟨fa,fcp,hfi,hf1,hf2⟩:=hlast.shape
      have hc:=row_any hbase hlast (by rw [hbl];omega) (by rw [hbl];omega) hll hbw
      have e1:rowF (rowsF base 0) (rowsF base i)=rowsF base (i+1):=rfl
      rw [e1] at hc
      obtain ⟨_,_,he,hr1,hr2,-⟩:=H.at (by simp)
      cases he
      have c0:wr.cell? ⟨rg,i,none⟩=some (f i):=by
       have:=H.rd.cell (j:=i) (u:=f i) (by simp)
       simpa using this
      rw [hf0.out] at hc
      rw [hfi] at c0 hc
      have HC:=jd hc
      obtain ⟨ln,hln⟩:∃ ln,(rowsF base i).length=ln:=⟨_,rfl⟩
      rw [hln] at c0 HC
      have hiI:(i:Int)<((L:Int)-1):=by omega
      clear hc hbase hlast hbl hll hbw e1 hfi hln hf1 hf2
      go_wp2_with fail
      refine HC.out.mono ?_
      rintro e w1 ⟨r,rfl,H1⟩
      obtain ⟨ra,rcp,rfl,-⟩:=H1.rd.shape
      have H:=(H.join H1).swap
      clear HC H1 c0
      obtain ⟨rv,hrv⟩:∃ rv,Hid (Value.slice ra (rowsF base (i+1)).length rcp=rv):=⟨_,rfl⟩
      obtain ⟨rl,hrl⟩:∃ rl,Hid ((rowsF base (i+1)).length=rl):=⟨_,rfl⟩
      rw [hrl.out] at hrv H ⊢
      go_wp2_with (at_builtin;refine Qf rfl _ _ rfl Tryz.underlying432 crowInfo rfl (by decide) rfl H (news:=[.slice ra rl rcp]) rfl rfl rfl (by simp [Value.oneCell']) (by omega) (by omega) ?_;clear H;intro v' w' H;obtain ⟨rg2,rc2,rfl,-⟩:=H.at (by simp))
      rw [hrv.out] at H
      go_roundw
      case rel=>
       refine ⟨i+1,rg2,rc2,fun j=>if j=i+1 then rv else f j,by go_num,by omega,rfl,jd (by show (if 0=i+1 then rv else f 0)=_;rw [if_neg (by omega)];exact hf0.out),?_⟩
       have e1:(List.range (i+1)).map f++[rv]=(List.range (i+1+1)).map (fun j=>if j=i+1 then rv else f j):=by
        rw [List.range_succ (n:=i+1),List.map_append]
        congr 1
        ·refine List.map_congr_left fun j hj=>?_
         rw [if_neg (by have:=List.mem_range.1 hj;omega)]
        ·simp
       have e2:rowPs base (fun j=>if j=i+1 then rv else f j) (i+1+1)=slc 431 2 rv (rowsF base (i+1)).length (rows ce (rowsF base (i+1)))::rowPs base f (i+1):=by
        rw [rowPs,if_pos rfl,rowPs_congr base _ f (i+1) fun j hj=>by rw [if_neg (by omega)]]
       rw [← e1,e2]
       rw [hrl.out]
       exact ((((H.front 3 rfl).front 3 rfl).front 2 rfl))
      case measure=>simp [intOf];omega
     ·have hLi:i+1=L:=by omega
      rw [hLi] at H ⊢
      have hiI:¬ (i:Int)<(L:Int)-1:=by omega
      clear hLi hi hlt
      go_wp2_with fail
      go_meet
      exact ⟨rg,rc,f,rfl,hf0,H⟩
   case rest=>
    clear H
    obtain ⟨rg,rc,f,rfl,hf0,H⟩:=hcut
    apply_assumption
    have hb0:=hf0.out
    rw [← hb0]
    exact len_tail33 (n:=n) hb hN h2 hN3 hL1 hL2 hn ho hz hsl hnd hin hpow he hR ⟨_,_,hb0⟩ _ _ _ _ _ _ _ _ _ _ _ _ _ _ _ _ _ _ _ _ _ _ _ _ _ _ _ _ _ _ _ _ _ _ _ _ _ _ _ _ _ _ _ _ _ _ _ _ _ _ _ _ _ _ _ _ _ _ _ _ _ _ _ _ _ _ _ _ _ _ _ _ _ _ _ _ _ _ _ _ _ _ _ _ _ _ _ _ _ _ _ _ _ _ _ _ _ _ _ _ _ _ _ _ _ _ _ _ _ _ _ _ _ _ _ _ _ _ _ _ _ _ _ _ _ _ _ _ _ _ _ _ _ _ _ _ _ _ _ _ _ _ _ _ H
theorem Own.newWtr{w0 w:World}{ps:List Piece}(H:Own w0 w ps):Own w0 (w.alloc (.cells #[.slice none 0 0,.int .i64 0] 221)) (Wtr w.heap.size []::ps):=by
 have h:=(H.alloc (.cells #[.slice none 0 0,.int .i64 0] 221)).nil 5 1
 exact Own.unwtr (n:=0) h.swap rfl rfl rfl
theorem bytes_any{w0 w:World}{ps:List Piece}{g:Nat}{bs:List Bool}(H:Own w0 w (Wtr g bs::ps)) :
 Calls Tryz.prog 129 #[.pointer (some ⟨g,0,none⟩)] w fun e w'=>e=.returned (.string (textOf bs))∧w'=w:=by
 obtain ⟨a,cp,hc1,hc2,H⟩:=H.wtr
 have c0:=H.cells
 have hs:=Js (P:=Tryz.prog) 58 9 Tryz.underlying58 Tryz.underlying5 Tryz.underlying9 (H.front 1 rfl).rd
 rw [show strOfNums (Jg bs)=textOf bs from rfl] at hs
 obtain ⟨n,hn⟩:∃ n,n=Qq bs.length:=⟨_,rfl⟩
 simp only [← hn] at hs c0
 clear hn
 go_enter Tryz.func129,Tryz.ntmps129
 go_wp2
 go_ret
 exact ⟨rfl,rfl⟩
set_option maxHeartbeats 400000 in
theorem align_gen{w0 w:World}{ps:List Piece}{g:Nat}{a:Option Addr}{N cp m:Nat}{xs:List Value}(H:Own w0 w (blk g (.cells #[.slice a N cp,.int .i64 m] 221)::ps))(hN1:N≤35184372088832)(hc1:N≤cp)(hc2:cp≤9223372036854775807) :
 Calls Tryz.prog 126 #[.pointer (some ⟨g,0,none⟩)] w (Ret fun _ w'=>Own w0 w' (blk g (.cells #[.slice a N cp,.int .i64 (8*N:Nat)] 221)::ps)):=by
 have c0:=H.cells
 go_enter Tryz.func126,Tryz.ntmps126
 go_wp2_with (refine Qh rfl _ _ rfl rfl H rfl (by kernel_rfl) (by simp) ?_;clear H c0;intro w3 H)
 go_end0
 refine ⟨_,rfl,?_⟩
 simpa using H
theorem align_any{w0 w:World}{ps:List Piece}{g:Nat}{bs:List Bool}(H:Own w0 w (Wtr g bs::ps))(hl:bs.length≤35184372088832) :
 Calls Tryz.prog 126 #[.pointer (some ⟨g,0,none⟩)] w (Ret fun _ w'=>Own w0 w' (Wtr g (Jv bs)::ps)):=by
 obtain ⟨a,cp,hc1,hc2,H⟩:=H.wtr
 refine (align_gen (xs:=[]) H (by unfold Qq;omega) hc1 hc2).mono ?_
 rintro e w3 ⟨v,rfl,H⟩
 refine ⟨_,rfl,H.unwtr ?_ ?_ ?_⟩
 ·rw [Jh]
 ·rw [Jh];unfold Qq;omega
 ·rw [bytesOf_aligned]
set_option maxHeartbeats 400000 in
theorem text_any{w0 w:World}{ps:List Piece}{g:Nat}{bs:List Bool}(s:ByteArray)(H:Own w0 w (Wtr g bs::ps))(hl:bs.length+s.size≤35184372088000) :
 Calls Tryz.prog 128 #[.pointer (some ⟨g,0,none⟩),.string s] w (Ret fun _ w'=>Own w0 w' (Wtr g (Jv bs++Zy s)::ps)):=by
 go_enter Tryz.func128,Tryz.ntmps128
 go_wp2_with fail
 refine (align_any H (by omega)).mono ?_
 rintro e w1 ⟨_,rfl,H1⟩
 clear H
 obtain ⟨m,hm⟩:∃ m,Hid ((Jv bs).length=m):=⟨_,rfl⟩
 obtain ⟨N,hN⟩:∃ N,Hid (Qq m=N):=⟨_,rfl⟩
 have hmN:m=8*N∧N≤Qq bs.length:=by have h1:=hm.out;have h2:=hN.out;rw [Jh] at h1;unfold Qq at *;omega
 obtain ⟨hmN,hN2⟩:=hmN
 have hN3:N+s.size≤35184372088800:=by unfold Qq at hN2;omega
 obtain ⟨a,cp,hc1,hc2,H⟩:=H1.wtr
 clear H1
 rw [hm.out] at H hc1
 rw [hN.out] at H hc1
 have c0:=H.cells
 go_wp2_with (first
  | (at_builtin;refine wpList_append_str rfl _ _ rfl Tryz.underlying58 Tryz.underlying9 Vw rfl rfl H.swap rfl (by omega) ?_;clear H c0;intro v' w' H;replace H:=H.swap;obtain ⟨a',c',rfl,h1',h2'⟩:=(H.front 1 rfl).rd.shape)
  | (refine Jd rfl _ _ rfl rfl H rfl (by kernel_rfl) (by simp) ?_;clear H;intro w2 H))
 refine (align_gen (xs:=[]) (m:=m) (by simpa using H) (by omega) h1' h2').mono ?_
 rintro e w3 ⟨_,rfl,H3⟩
 go_wp2
 go_end0
 have hlen:(Jv bs++Zy s).length=8*(N+s.size):=by rw [lJ,hm.out,textBits_length];omega
 refine ⟨_,rfl,H3.unwtr ?_ ?_ ?_⟩
 ·rw [hlen]
 ·rw [hlen];unfold Qq;omega
 ·rw [bytesOf_append _ _ (by rw [hm.out];omega),Zy,bytesOf_nums _ (byteNums_bd s),byteCells_nums]
  simp [u8s]
theorem res_cell1{P:Program}{fn:Func}{p:Tmp}{ty:TypeId}(h:fn.results=#[.cell p ty])(tmps:Array Value)(w:World)(g:Nat)(v:Value)
 (hp:tmps.getD p undef=.pointer (some ⟨g,0,none⟩)) (hl:(loadVar ty ⟨g,0,none⟩).run P w=.ok v w):(results fn tmps).run P w=.ok v w:=by
 have hp':tmps[p]?.getD undef=.pointer (some ⟨g,0,none⟩):=by simpa using hp
 simp only [results,h]
 simp [hp',asAddr,hl]
theorem shstore_whole(a b:List Value)(h:b.length=a.length):(a.toArray.toList.take 0++b++a.toArray.toList.drop (0+b.length)).toArray=b.toArray:=by
 simp [h]
theorem w64Info(cs:List Int)(h:cs.length=64):(Tryz.prog.info? 314).map (·.size)=some (wds cs).toArray.size:=by
 rw [List.size_toArray,Qi,h]
 kernel_rfl
section
variable {w0 w:World} {ps:List Piece} {ops:Array Oper} {rest:List Oper} {o:Oper} {a:Act} {Q:Exit→Act→World→Prop}
theorem wpList_load64(hgd:o.guard=none)(x:Operand)(ho:o.op=.load 314 x){g:Nat}(hx:a.eval x=.pointer (some ⟨g,0,none⟩)){cs:List Int}(hl:cs.length=64)(H:Own w0 w (blk g (.cells (wds cs).toArray 314)::ps))
 (h:wpList Tryz.prog ops Q rest (a.put o.dst (.agg (wds cs).toArray)) w):wpList Tryz.prog ops Q (o::rest) a w:=
 wpList_load_row hgd 314 x ho g hx 314 (wds cs).toArray (0,0) _ H.block.1 Tryz.underlying314 rfl (w64Info cs hl) h
theorem wpList_store64(hgd:o.guard=none)(x y:Operand)(ho:o.op=.store 314 x y){g:Nat}(hx:a.eval x=.pointer (some ⟨g,0,none⟩)){cs ds:List Int}(hl:cs.length=64)(hd:ds.length=64)
 (H:Own w0 w (blk g (.cells (wds cs).toArray 314)::ps)) (hv:a.eval y=.agg (wds ds).toArray)
 (h:∀ w',Own w0 w' (blk g (.cells (wds ds).toArray 314)::ps)→wpList Tryz.prog ops Q rest (a.put o.dst undef) w'):wpList Tryz.prog ops Q (o::rest) a w:=
 Qe hgd x y ho hx H hv (by have:=w64Info ds hd;rw [List.size_toArray] at this;exact this) (by rw [List.size_toArray,Qi,Qi,hl,hd];omega) (wds_one ds) (shstore_whole _ _ (by rw [Qi,Qi,hl,hd])) h
end
def wordB(b:List Int)(i:Nat):Int:=bits .or .u32 (bits .or .u32 (bits .or .u32 (IntKind.u32.wrap (IntKind.u32.wrap (b.getD (4*i) 0)*16777216)) (IntKind.u32.wrap (IntKind.u32.wrap (b.getD (4*i+1) 0)*65536))) (IntKind.u32.wrap (IntKind.u32.wrap (b.getD (4*i+2) 0)*256))) (IntKind.u32.wrap (b.getD (4*i+3) 0))
def w1F(b:List Int):Nat→List Int
 | 0=>List.replicate 64 0
 | k+1=>(w1F b k).set k (wordB b k)
theorem w1F_length(b:List Int):∀ k,(w1F b k).length=64:=by
 intro k
 induction k with
 | zero=>simp [w1F]
 | succ k ih=>rw [w1F,List.length_set,ih]
def nextA(x:Int):Int:=bits .xor .u32 (bits .xor .u32 (turnF x 7) (turnF x 18)) (x/8)
def nextB(x:Int):Int:=bits .xor .u32 (bits .xor .u32 (turnF x 17) (turnF x 19)) (x/1024)
def nextW(l:List Int)(i:Nat):Int:=IntKind.u32.wrap (IntKind.u32.wrap (IntKind.u32.wrap (l.getD (i-16) 0+nextA (l.getD (i-15) 0))+l.getD (i-7) 0)+nextB (l.getD (i-2) 0))
def w2F(b:List Int):Nat→List Int
 | 0=>w1F b 16
 | k+1=>(w2F b k).set (16+k) (nextW (w2F b k) (16+k))
theorem w2F_length(b:List Int):∀ k,(w2F b k).length=64:=by
 intro k
 induction k with
 | zero=>exact w1F_length b 16
 | succ k ih=>rw [w2F,List.length_set,ih]
def wordsF(b:List Int):List Int:=w2F b 48
set_option maxRecDepth 100000 in
set_option maxHeartbeats 25600000 in
theorem shwords_any{w:World}{sv:Value}{b:List Int}(hb:b.length=64)(hr:Rd w 1 sv 64 (b.map (.int .u8))):Calls Tryz.prog 199 #[sv] w (fun r w'=>r=.returned (.agg (wds (wordsF b)).toArray)∧Own w w' []):=by
 obtain ⟨W,hW⟩:∃ W,Hid (wordsF b=W):=⟨_,rfl⟩
 rw [hW.out]
 obtain ⟨sa,sc,rfl,hsc1,hsc2⟩:=hr.shape
 have HC:Hid (∃ bg bo,sa=some ⟨bg,bo,none⟩∧∀ (w':World) (qs:List Piece),Own w w' qs→∀ i,i<64→w'.cell? ⟨bg,bo+i,none⟩=some (.int .u8 (b.getD i 0))):=jd (by
  have hget:∀ i,i<64→(b.map (Value.int .u8))[i]?=some (.int .u8 (b.getD i 0)):=fun i hi=>by
   rw [List.getElem?_map,List.getD_eq_getElem?_getD,List.getElem?_eq_getElem (by omega)];rfl
  obtain ⟨bg,bo,c',e,-⟩:=Rd.some hr (by rw [List.length_map];omega)
  cases e
  exact ⟨bg,bo,rfl,fun w' qs h i hi=>(hr.old h.bare).cell (hget i hi)⟩)
 obtain ⟨bg,bo,rfl,HB⟩:=HC.out
 replace HB:=jd HB
 clear HC hr
 have H:=(Own.start w).alloc2 (.cells #[.int .u32 0,.int .u32 0,.int .u32 0,.int .u32 0,.int .u32 0,.int .u32 0,.int .u32 0,.int .u32 0,.int .u32 0,.int .u32 0,.int .u32 0,.int .u32 0,.int .u32 0,.int .u32 0,.int .u32 0,.int .u32 0,.int .u32 0,.int .u32 0,.int .u32 0,.int .u32 0,.int .u32 0,.int .u32 0,.int .u32 0,.int .u32 0,.int .u32 0,.int .u32 0,.int .u32 0,.int .u32 0,.int .u32 0,.int .u32 0,.int .u32 0,.int .u32 0,.int .u32 0,.int .u32 0,.int .u32 0,.int .u32 0,.int .u32 0,.int .u32 0,.int .u32 0,.int .u32 0,.int .u32 0,.int .u32 0,.int .u32 0,.int .u32 0,.int .u32 0,.int .u32 0,.int .u32 0,.int .u32 0,.int .u32 0,.int .u32 0,.int .u32 0,.int .u32 0,.int .u32 0,.int .u32 0,.int .u32 0,.int .u32 0,.int .u32 0,.int .u32 0,.int .u32 0,.int .u32 0,.int .u32 0,.int .u32 0,.int .u32 0,.int .u32 0] 314) (.cells #[.int .u32 0,.int .u32 0,.int .u32 0,.int .u32 0,.int .u32 0,.int .u32 0,.int .u32 0,.int .u32 0,.int .u32 0,.int .u32 0,.int .u32 0,.int .u32 0,.int .u32 0,.int .u32 0,.int .u32 0,.int .u32 0,.int .u32 0,.int .u32 0,.int .u32 0,.int .u32 0,.int .u32 0,.int .u32 0,.int .u32 0,.int .u32 0,.int .u32 0,.int .u32 0,.int .u32 0,.int .u32 0,.int .u32 0,.int .u32 0,.int .u32 0,.int .u32 0,.int .u32 0,.int .u32 0,.int .u32 0,.int .u32 0,.int .u32 0,.int .u32 0,.int .u32 0,.int .u32 0,.int .u32 0,.int .u32 0,.int .u32 0,.int .u32 0,.int .u32 0,.int .u32 0,.int .u32 0,.int .u32 0,.int .u32 0,.int .u32 0,.int .u32 0,.int .u32 0,.int .u32 0,.int .u32 0,.int .u32 0,.int .u32 0,.int .u32 0,.int .u32 0,.int .u32 0,.int .u32 0,.int .u32 0,.int .u32 0,.int .u32 0,.int .u32 0] 314)
 go_enter Tryz.func199,Tryz.ntmps199
 go_upto_region 2 with (fail)
 generalize (w.alloc _).alloc _=w1 at *
 obtain ⟨gw,hgw⟩:∃ g,w.heap.size+1=g:=⟨_,rfl⟩
 rw [hgw] at H ⊢
 generalize w.heap.size=gr at *
 clear hgw
 replace H:Own w w1 (blk gw (.cells (wds (List.replicate 64 0)).toArray 314)::blk gr (.cells (wds (List.replicate 64 0)).toArray 314)::[]):=H
 go_wp2_with fail
 go_loopw [4,8] (fun _ v8 wx=>∃ (i:Nat),v8=.int .i64 i∧i≤16∧Own w wx (blk gw (.cells (wds (w1F b i)).toArray 314)::blk gr (.cells (wds (List.replicate 64 0)).toArray 314)::[])) (fun _ v8 _=>16-(intOf v8).toNat)
 case atStart=>exact ⟨0,by go_num,by omega,H⟩
 case round=>
  clear H
  obtain ⟨i,rfl,hi,H⟩:=hrel
  obtain ⟨l,hl⟩:∃ l,Hid (w1F b i=l):=⟨_,rfl⟩
  have hll:Hid (l.length=64):=jd (by rw [← hl.out,w1F_length])
  rw [hl.out] at H
  by_cases hi16:i<16
  ·have hiI:(i:Int)<16:=by omega
   have hi64:(i:Int)<64:=by omega
   have hi64':i<64:=by omega
   have w0:IntKind.i64.wrap (4*(i:Int))=4*(i:Int):=IntWalk.i64_in _ ⟨by omega,by omega⟩
   have w1:IntKind.i64.wrap (4*(i:Int)+1)=4*(i:Int)+1:=IntWalk.i64_in _ ⟨by omega,by omega⟩
   have w2:IntKind.i64.wrap (4*(i:Int)+2)=4*(i:Int)+2:=IntWalk.i64_in _ ⟨by omega,by omega⟩
   have w3:IntKind.i64.wrap (4*(i:Int)+3)=4*(i:Int)+3:=IntWalk.i64_in _ ⟨by omega,by omega⟩
   go_upto_region 5 with (fail)
   have x0:(4:Int)*(i:Int)<64:=by omega
   have x1:(4:Int)*(i:Int)+1<64:=by omega
   have x2:(4:Int)*(i:Int)+2<64:=by omega
   have x3:(4:Int)*(i:Int)+3<64:=by omega
   have y0:(0:Int)≤(4:Int)*(i:Int):=by omega
   have y1:(0:Int)≤(4:Int)*(i:Int)+1:=by omega
   have y2:(0:Int)≤(4:Int)*(i:Int)+2:=by omega
   have y3:(0:Int)≤(4:Int)*(i:Int)+3:=by omega
   have t0:((4:Int)*(i:Int)).toNat=4*i:=by omega
   have t1:((4:Int)*(i:Int)+1).toNat=4*i+1:=by omega
   have t2:((4:Int)*(i:Int)+2).toNat=4*i+2:=by omega
   have t3:((4:Int)*(i:Int)+3).toNat=4*i+3:=by omega
   refine Qa (fun wx=>Own w wx (blk gw (.cells (wds l).toArray 314)::blk gr (.cells (wds (List.replicate 64 0)).toArray 314)::[])) 35 (by kernel_rfl) (by kernel_rfl) H.drew ?_
   simp only [List.take_succ_cons,List.take_zero,List.drop_succ_cons,List.drop_zero]
   repeat
    first
    | (refine calm_value (v:=?_) (by decide) rfl (fun σ w1 hS=>?_) ?_
       rotate_left
       ·have c0:=HB.out _ _ hS (4*i) (by omega);have c1:=HB.out _ _ hS (4*i+1) (by omega);have c2:=HB.out _ _ hS (4*i+2) (by omega);have c3:=HB.out _ _ hS (4*i+3) (by omega)
        first | (go_simp;rfl) | rfl
       simp only [Act.put,putC])
    | (refine calm_skip (by decide) rfl ?_
       simp only [Act.put,putC])
   refine calm_nil ?_
   intro wd HD
   clear H
   obtain ⟨y,hy⟩:∃ y,Hid (wordB b i=y):=⟨_,rfl⟩
   have hy2:=hy.out
   unfold wordB at hy2
   simp only [List.getD_eq_getElem?_getD] at hy2
   have hnx:Hid (w1F b (i+1)=l.set i y):=jd (by rw [w1F,hl.out,hy.out])
   go_wp2_with (refine Qh rfl _ _ rfl rfl HD rfl (by kernel_rfl) (by simp [wds,hll.out];omega) ?_;clear HD;intro w7 HD;rw [Vt] at HD)
   go_roundw
   case rel=>exact ⟨i+1,by go_num,by omega,by rw [hnx.out,← hy2];exact HD⟩
   case measure=>simp [intOf];omega
  ·obtain rfl:i=16:=by omega
   rw [← hl.out] at H
   have hnI:¬ ((16:Nat):Int)<16:=by omega
   replace H:Own w wr (blk gw (.cells (wds (w2F b 0)).toArray 314)::blk gr (.cells (wds (List.replicate 64 0)).toArray 314)::[]):=H
   clear hi hi16
   go_wp2_with fail
   go_loopw [5,6,7] (fun v5 _ _ wx=>∃ (j k:Nat),v5=.int .i64 j∧16≤j∧j≤64∧Hid (j=16+k)∧Own w wx (blk gw (.cells (wds (w2F b k)).toArray 314)::blk gr (.cells (wds (List.replicate 64 0)).toArray 314)::[])) (fun v5 _ _ _=>64-(intOf v5).toNat)
   case atStart=>exact ⟨16,0,by go_num,by omega,by omega,jd rfl,H⟩
   case round=>
    clear H
    obtain ⟨j,k,rfl,hj1,hj2,hjk,H⟩:=hrel
    by_cases hj:j<64
    ·have hjI:(j:Int)<64:=by omega
     obtain ⟨l,hl⟩:∃ l,Hid (w2F b k=l):=⟨_,rfl⟩
     have hll:Hid (l.length=64):=jd (by rw [← hl.out,w2F_length])
     rw [hl.out] at H
     have hidx:∀ m:Nat,m≤16→IntKind.i64.wrap ((j:Int)-m)=((j-m:Nat):Int):=fun m hm=>by
      rw [show (j:Int)-m=((j-m:Nat):Int) by omega];exact IntWalk.i64_in _ ⟨by omega,by omega⟩
     have d15:IntKind.i64.wrap ((j:Int)-15)=((j-15:Nat):Int):=hidx 15 (by omega)
     have d2:IntKind.i64.wrap ((j:Int)-2)=((j-2:Nat):Int):=hidx 2 (by omega)
     have d16:IntKind.i64.wrap ((j:Int)-16)=((j-16:Nat):Int):=hidx 16 (by omega)
     have d7:IntKind.i64.wrap ((j:Int)-7)=((j-7:Nat):Int):=hidx 7 (by omega)
     obtain ⟨j15,e15⟩:∃ m,Hid (j-15=m):=⟨_,rfl⟩
     obtain ⟨j2,e2⟩:∃ m,Hid (j-2=m):=⟨_,rfl⟩
     obtain ⟨j16,e16⟩:∃ m,Hid (j-16=m):=⟨_,rfl⟩
     obtain ⟨j7,e7⟩:∃ m,Hid (j-7=m):=⟨_,rfl⟩
     rw [e15.out] at d15
     rw [e2.out] at d2
     rw [e16.out] at d16
     rw [e7.out] at d7
     have b15:j15<64:=by have:=e15.out;omega
     have b2:j2<64:=by have:=e2.out;omega
     have b16:j16<64:=by have:=e16.out;omega
     have b7:j7<64:=by have:=e7.out;omega
     have i15:(j15:Int)<64:=by omega
     have i2:(j2:Int)<64:=by omega
     have i16:(j16:Int)<64:=by omega
     have i7:(j7:Int)<64:=by omega
     clear hidx
     have HX:Hid (∀ m:Nat,m<64→∀ (w':World) (qs:List Piece),Own w w' (blk gw (.cells (wds l).toArray 314)::qs)→w'.cell? ⟨gw,m,none⟩=some (.int .u32 (l.getD m 0))):=jd fun m hm w' qs h=>by rw [h.cells];exact Vu (by rw [hll.out];exact hm)
     have HC:Hid (∀ (w':World) (qs:List Piece),Own w w' (blk gw (.cells (wds l).toArray 314)::qs)→w'.cell? ⟨gw,j15,none⟩=some (.int .u32 (l.getD j15 0))∧w'.cell? ⟨gw,j2,none⟩=some (.int .u32 (l.getD j2 0))∧w'.cell? ⟨gw,j16,none⟩=some (.int .u32 (l.getD j16 0))∧w'.cell? ⟨gw,j7,none⟩=some (.int .u32 (l.getD j7 0))):=jd fun w' qs h=>⟨HX.out j15 b15 _ _ h,HX.out j2 b2 _ _ h,HX.out j16 b16 _ _ h,HX.out j7 b7 _ _ h⟩
     have hnx0:Hid (w2F b (k+1)=l.set j (IntKind.u32.wrap (IntKind.u32.wrap (IntKind.u32.wrap (l.getD j16 0+nextA (l.getD j15 0))+l.getD j7 0)+nextB (l.getD j2 0)))):=jd (by
      rw [w2F,hl.out,← hjk.out,← e16.out,← e15.out,← e7.out,← e2.out];rfl)
     obtain ⟨x15,f15⟩:∃ x,Hid (l.getD j15 0=x):=⟨_,rfl⟩
     obtain ⟨x2,f2⟩:∃ x,Hid (l.getD j2 0=x):=⟨_,rfl⟩
     obtain ⟨x16,f16⟩:∃ x,Hid (l.getD j16 0=x):=⟨_,rfl⟩
     obtain ⟨x7,f7⟩:∃ x,Hid (l.getD j7 0=x):=⟨_,rfl⟩
     rw [f15.out,f2.out,f16.out,f7.out] at HC hnx0
     clear HX f15 f2 f16 f7 e15 e2 e16 e7
     have T:Hid (∀ (m:Nat) (x:Int) (wx:World) (qs:List Piece),1≤m∧m≤31→Own w wx qs→Calls Tryz.prog 200 #[.int .u32 x,.int .i64 m] wx (fun r w'=>r=.returned (.int .u32 (turnF x m))∧Own w w' qs)):=jd fun m x wx qs hm h=>(shturn_any x m hm wx).mono fun e w' h2=>⟨h2.1,h.join h2.2⟩
     go_upto_region 10 with (fail)
     refine Qa (fun wx=>Own w wx (blk gw (.cells (wds l).toArray 314)::blk gr (.cells (wds (List.replicate 64 0)).toArray 314)::[])) 17 (by kernel_rfl) (by kernel_rfl) H.drew ?_
     simp only [List.take_succ_cons,List.take_zero,List.drop_succ_cons,List.drop_zero]
     repeat
      first
      | (refine calm_value (v:=?_) (by decide) rfl (fun σ w1 hS=>?_) ?_
         rotate_left
         ·obtain ⟨c15,c2,c16,c7⟩:=HC.out _ _ hS
          first | (go_simp;rfl) | rfl
         simp only [Act.put,putC])
      | (refine calm_skip (by decide) rfl ?_
         simp only [Act.put,putC])
     refine calm_call (v:=.int .u32 (turnF x15 7)) (by decide) rfl (fun w1=>(by go_simp)) (fun σ w1 hS=>T.out 7 x15 w1 _ (by omega) hS) ?_
     simp only [Act.put,putC]
     repeat
      first
      | (refine calm_value (v:=?_) (by decide) rfl (fun σ w1 hS=>?_) ?_
         rotate_left
         ·obtain ⟨c15,c2,c16,c7⟩:=HC.out _ _ hS
          first | (go_simp;rfl) | rfl
         simp only [Act.put,putC])
      | (refine calm_skip (by decide) rfl ?_
         simp only [Act.put,putC])
     refine calm_call (v:=.int .u32 (turnF x15 18)) (by decide) rfl (fun w1=>(by go_simp)) (fun σ w1 hS=>T.out 18 x15 w1 _ (by omega) hS) ?_
     simp only [Act.put,putC]
     repeat
      first
      | (refine calm_value (v:=?_) (by decide) rfl (fun σ w1 hS=>?_) ?_
         rotate_left
         ·obtain ⟨c15,c2,c16,c7⟩:=HC.out _ _ hS
          first | (go_simp;rfl) | rfl
         simp only [Act.put,putC])
      | (refine calm_skip (by decide) rfl ?_
         simp only [Act.put,putC])
     refine calm_nil ?_
     intro wd HD
     clear H
     go_upto_region 11 with (fail)
     refine Qa (fun wx=>Own w wx (blk gw (.cells (wds l).toArray 314)::blk gr (.cells (wds (List.replicate 64 0)).toArray 314)::[])) 17 (by kernel_rfl) (by kernel_rfl) HD.drew ?_
     simp only [List.take_succ_cons,List.take_zero,List.drop_succ_cons,List.drop_zero]
     repeat
      first
      | (refine calm_value (v:=?_) (by decide) rfl (fun σ w1 hS=>?_) ?_
         rotate_left
         ·obtain ⟨c15,c2,c16,c7⟩:=HC.out _ _ hS
          first | (go_simp;rfl) | rfl
         simp only [Act.put,putC])
      | (refine calm_skip (by decide) rfl ?_
         simp only [Act.put,putC])
     refine calm_call (v:=.int .u32 (turnF x2 17)) (by decide) rfl (fun w1=>(by go_simp)) (fun σ w1 hS=>T.out 17 x2 w1 _ (by omega) hS) ?_
     simp only [Act.put,putC]
     repeat
      first
      | (refine calm_value (v:=?_) (by decide) rfl (fun σ w1 hS=>?_) ?_
         rotate_left
         ·obtain ⟨c15,c2,c16,c7⟩:=HC.out _ _ hS
          first | (go_simp;rfl) | rfl
         simp only [Act.put,putC])
      | (refine calm_skip (by decide) rfl ?_
         simp only [Act.put,putC])
     refine calm_call (v:=.int .u32 (turnF x2 19)) (by decide) rfl (fun w1=>(by go_simp)) (fun σ w1 hS=>T.out 19 x2 w1 _ (by omega) hS) ?_
     simp only [Act.put,putC]
     repeat
      first
      | (refine calm_value (v:=?_) (by decide) rfl (fun σ w1 hS=>?_) ?_
         rotate_left
         ·obtain ⟨c15,c2,c16,c7⟩:=HC.out _ _ hS
          first | (go_simp;rfl) | rfl
         simp only [Act.put,putC])
      | (refine calm_skip (by decide) rfl ?_
         simp only [Act.put,putC])
     refine calm_nil ?_
     intro we HE
     clear HD
     go_upto_region 12 with (fail)
     refine Qa (fun wx=>Own w wx (blk gw (.cells (wds l).toArray 314)::blk gr (.cells (wds (List.replicate 64 0)).toArray 314)::[])) 15 (by kernel_rfl) (by kernel_rfl) HE.drew ?_
     simp only [List.take_succ_cons,List.take_zero,List.drop_succ_cons,List.drop_zero]
     repeat
      first
      | (refine calm_value (v:=?_) (by decide) rfl (fun σ w1 hS=>?_) ?_
         rotate_left
         ·obtain ⟨c15,c2,c16,c7⟩:=HC.out _ _ hS
          first | (go_simp;rfl) | rfl
         simp only [Act.put,putC])
      | (refine calm_skip (by decide) rfl ?_
         simp only [Act.put,putC])
     refine calm_nil ?_
     intro wf HF
     clear HE
     go_wp2_with (refine Qh rfl _ _ rfl rfl HF rfl (by kernel_rfl) (by simp [wds,hll.out];omega) ?_;clear HF;intro w7 HF;rw [Vt] at HF)
     go_roundw
     case rel=>exact ⟨j+1,k+1,by go_num,by omega,by omega,jd (by have:=hjk.out;omega),by rw [hnx0.out];exact HF⟩
     case measure=>simp [intOf];omega
    ·obtain rfl:j=64:=by omega
     have hnI:¬ ((64:Nat):Int)<64:=by omega
     obtain rfl:k=48:=by have:=hjk.out;omega
     have hl:Hid (W.length=64):=jd (by rw [← hW.out];exact w2F_length b 48)
     rw [show w2F b 48=W from hW.out] at H
     clear hjk hj hj1 hj2
     obtain ⟨z,hz⟩:∃ z,Hid (List.replicate 64 (0:Int)=z):=⟨_,rfl⟩
     have hzl:z.length=64:=by rw [← hz.out,List.length_replicate]
     rw [hz.out] at H
     replace hz:=hl
     have hl:=hl.out
     clear hz
     go_upto_region 13 with (fail)
     refine wp_region_list ?_
     refine wpList_load64 rfl _ rfl rfl hl H ?_
     simp only [Act.put,putC]
     refine wpList_store64 rfl _ _ rfl rfl hzl hl H.swap rfl ?_
     clear H
     intro w9 H
     refine wpList_nil ?_
     simp only [Act.put]
     refine (show ∀ (a:Act) (w:World),Code.wp Tryz.prog Code.ret _ a w→_ by assumption) _ _ ?_
     refine wp_ret ?_
     have hl9:(loadVar 314 ⟨gr,0,none⟩).run Tryz.prog w9=.ok (.agg (wds W).toArray) w9:=run_loadVar_row w9 gr _ _ _ _ _ H.block.1 Tryz.underlying314 rfl (w64Info W hl)
     refine bodyPost_ret (v:=.agg (wds W).toArray) (res_cell1 (p:=2) (ty:=314) rfl _ _ gr _ rfl hl9) rfl ?_
     exact ⟨rfl,H.bare⟩
end Go.Proofs.YthekdeikodppkaaGreatDoor
