/-
  Texts of this claim, one behind the other: enc; chacha; chacha; chacha; chacha.
-/
import Derived.Test.YthekdeikodppkaaGreatDoorKb15
set_option linter.unusedVariables false
namespace Go.Proofs.YthekdeikodppkaaGreatDoor
open Go.RowKit
def byteF(n:Int)(i:Nat):Int:=IntKind.u8.wrap (n/2^(8*i))
def fxL(n:Int):Nat→List Int
 | 0=>List.replicate 8 0
 | i+1=>(fxL n i).set (7-i) (byteF n i)
theorem fix_length(n:Int):∀ i,(fxL n i).length=8
 | 0=>rfl
 | i+1=>by rw [fxL,List.length_set,fix_length n i]
def fixF(n:Int)(k:Nat):ByteArray:=strOfNums ((fxL n 8).drop (8-k))
theorem Zp(n:Int){k:Nat}(h:k≤8):(fixF n k).size=k:=by rw [fixF,strOfNums_size,List.length_drop,fix_length];omega
set_option maxRecDepth 100000 in
set_option maxHeartbeats 3200000 in
theorem fxd_any(n:Int)(k:Nat)(hk:1≤k∧k≤8)(w:World) :
 Calls Tryz.prog 89 #[.int .i64 n,.int .i64 k] w (fun e w'=>e=.returned (.string (fixF n k))∧Own w w' []):=by
 obtain ⟨hk1,hk8⟩:=hk
 obtain ⟨q,hq⟩:∃ q,Hid (8-k=q):=⟨_,rfl⟩
 have hq7:q≤7:=by have:=hq.out;omega
 have hqk:8-q=k:=by have:=hq.out;omega
 obtain ⟨RES,hRES⟩:∃ s,Hid (fixF n k=s):=⟨_,rfl⟩
 rw [hRES.out]
 have hR2:Hid (strOfNums ((fxL n 8).drop q)=RES):=jd (by rw [← hRES.out,fixF,hq.out])
 clear hRES
 have H:=(Own.start w).alloc (.cells #[.int .u8 0,.int .u8 0,.int .u8 0,.int .u8 0,.int .u8 0,.int .u8 0,.int .u8 0,.int .u8 0] 238)
 go_enter Tryz.func89,Tryz.ntmps89
 go_upto_region 2 with (fail)
 generalize w.alloc _=w1 at *
 generalize w.heap.size=g at *
 replace H:Own w w1 (blk g (.cells (bts (fxL n 0)).toArray 238)::[]):=H
 go_wp2_with fail
 go_loopw [6,7] (fun _ v7 wx=>∃ i:Nat,v7=.int .i64 i∧i≤8∧Own w wx (blk g (.cells (bts (fxL n i)).toArray 238)::[])) (fun _ v7 _=>8-(intOf v7).toNat)
 case atStart=>exact ⟨0,by go_num,by omega,H⟩
 case round=>
  clear H
  obtain ⟨i,rfl,hi,H⟩:=hrel
  have hxl:=jd (fix_length n i)
  by_cases hi8:i<8
  ·have hiI:(i:Int)<8:=by omega
   obtain ⟨X,hX⟩:∃ X,Hid (fxL n i=X):=⟨_,rfl⟩
   rw [hX.out] at H hxl
   obtain ⟨j,hj⟩:∃ j,Hid (7-i=j):=⟨_,rfl⟩
   obtain ⟨r,hr⟩:∃ r,Hid (8*i=r):=⟨_,rfl⟩
   obtain ⟨y,hy⟩:∃ y,Hid (byteF n i=y):=⟨_,rfl⟩
   have hnx:Hid (fxL n (i+1)=X.set j y):=jd (by rw [fxL,hX.out,hj.out,hy.out])
   have hy2:IntKind.u8.wrap (n/2^r)=y:=by rw [← hy.out,byteF,hr.out]
   have e1:IntKind.i64.wrap (7-(i:Int))=(j:Int):=by rw [IntWalk.i64_in _ ⟨by omega,by omega⟩];have:=hj.out;omega
   have e2:IntKind.i64.wrap (8*(i:Int))=(r:Int):=by rw [IntWalk.i64_in _ ⟨by omega,by omega⟩];have:=hr.out;omega
   have hj8:j<8:=by have:=hj.out;omega
   have hj8I:(j:Int)<8:=by omega
   have hr64:(r:Int)<64:=by have:=hr.out;omega
   have hr0:¬ (r:Int)<0:=by omega
   go_wp2_with (refine Qh rfl _ _ rfl rfl H rfl (by kernel_rfl) (by rw [List.size_toArray,Qx,hxl.out];omega) ?_;clear H;intro w7 H;rw [bts_set] at H)
   go_roundw
   case rel=>exact ⟨i+1,by go_num,by omega,by rw [hnx.out];exact H⟩
   case measure=>simp [intOf];omega
  ·obtain rfl:i=8:=by omega
   have hnI:¬ ((8:Nat):Int)<8:=by omega
   have hsl:∀ w,(Instr.sliceAt 238 (.pointer (some ⟨g,0,none⟩)) (some (.int .i64 (q:Int))) none none).run Tryz.prog w=.ok (.slice (some ⟨g,q,none⟩) k k) w:=fun w=>by
    have hl:Tryz.prog.arrayLen 238=8:=by kernel_rfl
    have h:=run_sliceAt_array_l (P:=Tryz.prog) w 238 ⟨g,0,none⟩ Tryz.underlying238 .i64 (q:Int) (by omega) (by rw [hl];omega)
    have he:(sizeOf (Tryz.prog.elem 238)).run Tryz.prog w=.ok 1 w:=by kernel_rfl
    rw [h,hl,he]
    simp only [Result.andThen_ok,slicedAt,Int.toNat_natCast,Nat.mul_one,hqk]
    rw [if_neg (by omega),Addr.add_lit,Nat.zero_add]
   have hrd:=H.blkRd (q:=q) (n:=k) (by rw [hxl.out];omega) (by omega)
   have hs:=Js (P:=Tryz.prog) 58 9 Tryz.underlying58 Tryz.underlying5 Tryz.underlying9 hrd
   rw [hR2.out] at hs
   have m1:¬ (k:Int)<0:=by omega
   have m2:¬ (8:Int)<(k:Int):=by omega
   have m3:IntKind.i64.wrap (8-(k:Int))=(q:Int):=by rw [IntWalk.i64_in _ ⟨by omega,by omega⟩];have:=hq.out;omega
   clear hrd
   go_wp2
   go_ret
   exact ⟨rfl,H.bare⟩
theorem str_bn(s:ByteArray):strOfNums (bn s)=s:=by
 cases s with
 | mk d=>
  cases d with
  | mk l=>simp [strOfNums,bn,Function.comp_def]
def extF(salt secret:ByteArray):ByteArray:=tagF salt (bn secret)
def expF(key info:ByteArray):ByteArray:=tagF key (bns [ByteArray.empty,info,fixF 1 1])
def nmB:ByteArray:=⟨#[115,108,101,100,103,101,32,98,121,116,101,115]⟩
def nmT:ByteArray:=⟨#[115,108,101,100,103,101,32,116,97,103,115]⟩
def nmH:ByteArray:=⟨#[115,108,101,100,103,101,32,104,101,97,100,115]⟩
def keyEnc(secret salt:ByteArray):ByteArray:=expF (extF salt secret) nmB
def keyMac(secret salt:ByteArray):ByteArray:=expF (extF salt secret) nmT
def keyHead(secret:ByteArray):ByteArray:=expF (extF ByteArray.empty secret) nmH
theorem keyHead_size(s:ByteArray):(keyHead s).size=32:=Vy _ _
theorem keyEnc_size(s t:ByteArray):(keyEnc s t).size=32:=Vy _ _
theorem keyMac_size(s t:ByteArray):(keyMac s t).size=32:=Vy _ _
set_option maxHeartbeats 800000 in
theorem kdext_any(salt secret:ByteArray)(h1:salt.size≤100000000000)(h2:secret.size≤100000000000)(w:World) :
 Calls Tryz.prog 41 #[.string salt,.string secret] w (fun e w'=>e=.returned (.string (extF salt secret))∧Own w w' []):=by
 have H:=(Own.start w).made [.string secret] 9 1 1 rfl (by decide)
 have hS:=mctag_any (l:=[secret]) h1 H.rd (by simp only [bns,List.flatMap_cons,List.flatMap_nil,List.append_nil,Qu];omega)
 obtain ⟨R,hR⟩:∃ r,Hid (extF salt secret=r):=⟨_,rfl⟩
 rw [show tagF salt (bns [secret])=R by rw [← hR.out,extF];simp [bns]] at hS
 rw [hR.out]
 replace hS:=jd hS
 go_enter Tryz.func41,Tryz.ntmps41
 go_wp2_with fail
 refine hS.out.mono ?_
 rintro e w1 ⟨rfl,H1⟩
 go_wp2
 go_ret
 exact ⟨rfl,(H.join H1).bare⟩
set_option maxRecDepth 100000 in
set_option maxHeartbeats 3200000 in
theorem kdexp_any(key info:ByteArray)(h1:key.size≤100000000000)(h2:info.size≤1000000000)(w:World) :
 Calls Tryz.prog 80 #[.string key,.string info,.int .i64 32] w (fun e w'=>e=.returned (.tuple #[.string (expF key info),.int .i64 0])∧Own w w' []):=by
 obtain ⟨R,hR⟩:∃ r,Hid (expF key info=r):=⟨_,rfl⟩
 have hRs:R.size=32:=by rw [← hR.out];exact Vy _ _
 obtain ⟨f1,hf⟩:∃ r,Hid (fixF 1 1=r):=⟨_,rfl⟩
 have hfs:f1.size=1:=by rw [← hf.out];exact Zp _ (by decide)
 have hF:=jd fun w=>fxd_any 1 1 (by decide) w
 rw [hf.out] at hF
 rw [hR.out]
 have H:=Own.start w
 have hT:Hid (∀ w',Own w w' []→Calls Tryz.prog 48 #[.string key,.slice (some ⟨w'.heap.size,0,none⟩) 3 3] (w'.alloc (.cells #[.string ⟨#[]⟩,.string info,.string f1] 9)) (fun e w2=>e=.returned (.string R)∧Own w w2 [])):=jd fun w' h=>by
  have h3:=h.made [.string ⟨#[]⟩,.string info,.string f1] 9 1 3 rfl (by decide)
  have:=mctag_any (l:=[⟨#[]⟩,info,f1]) h1 h3.rd (by simp only [bns,List.flatMap_cons,List.flatMap_nil,List.append_nil,lJ,Qu,hfs];have hz:(ByteArray.mk #[]).size=0:=rfl;omega)
  rw [show tagF key (bns [⟨#[]⟩,info,f1])=R by rw [← hR.out,expF,hf.out];rfl] at this
  exact this.mono fun e w2 g=>⟨g.1,(h3.join g.2).bare⟩
 go_enter Tryz.func80,Tryz.ntmps80
 go_wp2_with fail
 go_loopw [8,9,10] (fun v8 v9 v10 wx=>(v8=.slice none 0 0∧v9=.string ⟨#[]⟩∧v10=.int .i64 1∧Own w wx [])∨(v9=.string R∧v10=.int .i64 2∧Own w wx (slc 5 1 v8 32 (bts (bn R))::[]))) (fun v8 _ _ _=>40-Jr v8)
 case atStart=>exact .inl ⟨rfl,rfl,by go_num,H⟩
 case round=>
  clear H
  rcases hrel with ⟨rfl,rfl,rfl,H⟩ | ⟨rfl,rfl,H⟩
  ·go_wp2_with fail
   refine (hF.out _).mono ?_
   rintro e w1 ⟨rfl,H1⟩
   replace H1:=H.join H1
   clear H
   go_wp2_with fail
   refine (hT.out w1 H1).mono ?_
   rintro e w2 ⟨rfl,H2⟩
   clear H1
   go_wp2_with (at_builtin;refine wpList_append_str rfl _ _ rfl Tryz.underlying58 Tryz.underlying9 Vw rfl rfl (H2.nil 5 1) rfl (by omega) ?_;clear H2;intro v3 w3 H3)
   rw [List.nil_append,bn_bc,Nat.zero_add,hRs] at H3
   obtain ⟨a4,c4,rfl,g1,g2⟩:=H3.rd.shape
   go_roundw
   case rel=>exact .inr ⟨rfl,by go_num,H3⟩
   case measure=>simp [Jr]
  ·obtain ⟨a4,c4,rfl,g1,g2⟩:=H.rd.shape
   have hs:=Js (P:=Tryz.prog) 58 9 Tryz.underlying58 Tryz.underlying5 Tryz.underlying9 (v:=.slice a4 32 c4) (n:=32) (ns:=bn R) H.rd
   rw [str_bn] at hs
   have g1I:(32:Int)≤(c4:Int):=by omega
   go_wp2
   go_ret2
   exact ⟨rfl,H.bare⟩
set_option maxHeartbeats 1600000 in
theorem kdof_any(key info:ByteArray)(h1:key.size≤100000000000)(h2:info.size≤1000000000)(w:World) :
 Calls Tryz.prog 42 #[.string info,.string key] w (fun e w'=>e=.returned (.string (expF key info))∧Own w w' []):=by
 have hE:=jd (kdexp_any key info h1 h2 w)
 obtain ⟨R,hR⟩:∃ r,Hid (expF key info=r):=⟨_,rfl⟩
 rw [hR.out] at hE ⊢
 go_enter Tryz.func42,Tryz.ntmps42
 go_wp2_with fail
 refine hE.out.mono ?_
 rintro e w1 ⟨rfl,H1⟩
 go_wp2
 go_ret
 exact ⟨rfl,H1⟩
set_option maxHeartbeats 1600000 in
theorem kdkeys_any(secret salt:ByteArray)(h1:secret.size≤1000000000)(h2:salt.size≤1000000000)(w:World) :
 Calls Tryz.prog 18 #[.string secret,.string salt] w (fun e w'=>e=.returned (.agg #[.string (keyEnc secret salt),.string (keyMac secret salt),.string (keyHead secret)])∧Own w w' []):=by
 obtain ⟨K,hK⟩:∃ r,Hid (extF salt secret=r):=⟨_,rfl⟩
 obtain ⟨K0,hK0⟩:∃ r,Hid (extF ByteArray.empty secret=r):=⟨_,rfl⟩
 have hKs:K.size≤100000000000:=by rw [← hK.out,extF,Vy];omega
 have hK0s:K0.size≤100000000000:=by rw [← hK0.out,extF,Vy];omega
 obtain ⟨A,hA⟩:∃ r,Hid (keyEnc secret salt=r):=⟨_,rfl⟩
 obtain ⟨B,hB⟩:∃ r,Hid (keyMac secret salt=r):=⟨_,rfl⟩
 obtain ⟨C,hC⟩:∃ r,Hid (keyHead secret=r):=⟨_,rfl⟩
 have h4:=kdext_any salt secret (by omega) (by omega)
 have h5:=kdext_any ByteArray.empty secret (by simp) (by omega)
 have h6:=kdof_any K nmB hKs (by decide)
 have h7:=kdof_any K nmT hKs (by decide)
 have h8:=kdof_any K0 nmH hK0s (by decide)
 rw [show expF K nmB=A by rw [← hA.out,← hK.out];rfl] at h6
 rw [show expF K nmT=B by rw [← hB.out,← hK.out];rfl] at h7
 rw [show expF K0 nmH=C by rw [← hC.out,← hK0.out];rfl] at h8
 rw [hK.out] at h4
 rw [hK0.out] at h5
 replace h4:=jd h4
 replace h5:=jd h5
 replace h6:=jd h6
 replace h7:=jd h7
 replace h8:=jd h8
 rw [hA.out,hB.out,hC.out]
 have H:=(Own.start w).alloc (.cells #[.string ⟨#[]⟩,.string ⟨#[]⟩,.string ⟨#[]⟩] 51)
 go_enter Tryz.func18,Tryz.ntmps18
 go_upto_region 1 with (fail)
 generalize w.alloc _=w1 at *
 generalize w.heap.size=g at *
 go_wp2_with fail
 refine (h4.out _).mono ?_
 rintro e w2 ⟨rfl,H2⟩
 replace H2:=H.join H2
 go_wp2_with fail
 refine (h6.out _).mono ?_
 rintro e w3 ⟨rfl,H3⟩
 replace H3:=H2.join H3
 go_wp2_with fail
 refine (h7.out _).mono ?_
 rintro e w4 ⟨rfl,H4⟩
 replace H4:=H3.join H4
 go_wp2_with fail
 refine (h5.out _).mono ?_
 rintro e w5 ⟨rfl,H5⟩
 replace H5:=H4.join H5
 go_wp2_with fail
 refine (h8.out _).mono ?_
 rintro e w6 ⟨rfl,H6⟩
 replace H6:=H5.join H6
 clear H H2 H3 H4 H5
 go_wp2_with (refine Qe rfl _ _ rfl rfl H6 (vs:=[.string A,.string B,.string C]) rfl (by kernel_rfl) (by simp) (by simp [Value.oneCell']) rfl ?_;clear H6;intro w7 H7)
 have hl9:(loadVar 51 ⟨g,0,none⟩).run Tryz.prog w7=.ok (.agg #[.string A,.string B,.string C]) w7:=run_loadVar_row w7 g _ _ _ _ _ H7.block.1 Tryz.underlying51 rfl (by kernel_rfl)
 refine bodyPost_ret (v:=.agg #[.string A,.string B,.string C]) (res_cell1 (p:=4) (ty:=51) rfl _ _ g _ rfl hl9) rfl ?_
 exact ⟨rfl,H7.bare⟩
theorem str_at{s:ByteArray}{i:Nat}(h:i<s.size)(w:World):(Instr.index 9 (.string s) (.int .i64 (i:Int))).run Tryz.prog w=.ok (.int .u8 ((bn s).getD i 0)) w:=by
 rw [run_index_string w _ _ _ _ Tryz.underlying9,dif_pos (by omega)]
 have h1:(bn s).getD i 0=((s[i]'h).toNat:Int):=by
  rw [bn,List.getD_eq_getElem?_getD,List.getElem?_map,List.getElem?_eq_getElem (by show i<s.data.toList.length;rw [Array.length_toList];exact h)]
  rfl
 rw [h1]
 rfl
theorem results_tmp4{fn:Func}{t u v x:Tmp}(h:fn.results=#[.tmp t,.tmp u,.tmp v,.tmp x])(tmps:Array Value)(P:Program)(w:World) :
 (results fn tmps).run P w=.ok (.tuple #[tmps.getD t undef,tmps.getD u undef,tmps.getD v undef,tmps.getD x undef]) w:=by
 simp [results,h]
def rotF(x:Int)(k:Nat):Int:=bits .or .u32 (IntKind.u32.wrap (x*2^k)) (x/2^(32-k))
set_option maxHeartbeats 800000 in
theorem ccturn_any(x:Int)(k:Nat)(hk:1≤k∧k≤31)(w:World):Calls Tryz.prog 277 #[.int .u32 x,.int .i64 k] w (fun r w'=>r=.returned (.int .u32 (rotF x k))∧Own w w' []):=by
 obtain ⟨hk1,hk2⟩:=hk
 have d11:(k:Int)<64:=by omega
 have d12:¬ (k:Int)<0:=by omega
 have h1:¬ ((32:Int)-k)<0:=by omega
 have h2:IntKind.i64.wrap (32-(k:Int))=32-k:=IntWalk.i64_in _ ⟨by omega,by omega⟩
 have h3:((32:Int)-k).toNat=32-k:=by omega
 unfold rotF
 have H:=Own.start w
 go_enter Tryz.func277,Tryz.ntmps277
 go_upto_region 1 with (fail)
 refine Qa (fun w1=>Own w w1 []) 8 (by kernel_rfl) (by kernel_rfl) H.drew ?_
 simp only [List.take_succ_cons,List.take_zero,List.drop_succ_cons,List.drop_zero]
 repeat
  first
  | (refine calm_value (v:=?_) (by decide) rfl (fun σ w1 hS=>?_) ?_
     rotate_left
     ·skip
      first | (go_simp;rfl) | rfl
     simp only [Act.put,putC])
  | (refine calm_skip (by decide) rfl ?_
     simp only [Act.put,putC])
 refine calm_nil ?_
 intro wd HD
 go_wp2
 go_ret
 exact ⟨rfl,HD⟩
def q1F(a b c d:Int):Int × Int × Int × Int:=
 let a1:=IntKind.u32.wrap (a+b)
 let d1:=rotF (bits .xor .u32 d a1) 16
 let c1:=IntKind.u32.wrap (c+d1)
 let b1:=rotF (bits .xor .u32 b c1) 12
 let a2:=IntKind.u32.wrap (a1+b1)
 let d2:=rotF (bits .xor .u32 d1 a2) 8
 let c2:=IntKind.u32.wrap (c1+d2)
 let b2:=rotF (bits .xor .u32 b1 c2) 7
 (a2,b2,c2,d2)
def quartV(a b c d:Int):Value:=.tuple #[.int .u32 (q1F a b c d).1,.int .u32 (q1F a b c d).2.1,.int .u32 (q1F a b c d).2.2.1,.int .u32 (q1F a b c d).2.2.2]
set_option maxRecDepth 100000 in
set_option maxHeartbeats 1600000 in
theorem ccquarter_any(a b c d:Int)(w:World):Calls Tryz.prog 198 #[.int .u32 a,.int .u32 b,.int .u32 c,.int .u32 d] w (fun r w'=>r=.returned (quartV a b c d)∧Own w w' []):=by
 have T:Hid (∀ (m:Nat) (x:Int) (wx:World) (qs:List Piece),1≤m∧m≤31→Own w wx qs→Calls Tryz.prog 277 #[.int .u32 x,.int .i64 m] wx (fun r w'=>r=.returned (.int .u32 (rotF x m))∧Own w w' qs)):=jd fun m x wx qs hm h=>(ccturn_any x m hm wx).mono fun e w' h2=>⟨h2.1,h.join h2.2⟩
 have H:=Own.start w
 obtain ⟨RES,hRES⟩:∃ s,Hid (quartV a b c d=s):=⟨_,rfl⟩
 rw [hRES.out]
 obtain ⟨a1,ha1⟩:∃ x,Hid (IntKind.u32.wrap (a+b)=x):=⟨_,rfl⟩
 obtain ⟨d1,hd1⟩:∃ x,Hid (rotF (bits .xor .u32 d a1) 16=x):=⟨_,rfl⟩
 obtain ⟨c1,hc1⟩:∃ x,Hid (IntKind.u32.wrap (c+d1)=x):=⟨_,rfl⟩
 obtain ⟨b1,hb1⟩:∃ x,Hid (rotF (bits .xor .u32 b c1) 12=x):=⟨_,rfl⟩
 obtain ⟨a2,ha2⟩:∃ x,Hid (IntKind.u32.wrap (a1+b1)=x):=⟨_,rfl⟩
 obtain ⟨d2,hd2⟩:∃ x,Hid (rotF (bits .xor .u32 d1 a2) 8=x):=⟨_,rfl⟩
 obtain ⟨c2,hc2⟩:∃ x,Hid (IntKind.u32.wrap (c1+d2)=x):=⟨_,rfl⟩
 obtain ⟨b2,hb2⟩:∃ x,Hid (rotF (bits .xor .u32 b1 c2) 7=x):=⟨_,rfl⟩
 have hfin:Hid (RES=.tuple #[.int .u32 a2,.int .u32 b2,.int .u32 c2,.int .u32 d2]):=jd (by
  rw [← hRES.out,← hb2.out,← hc2.out,← hd2.out,← ha2.out,← hb1.out,← hc1.out,← hd1.out,← ha1.out];rfl)
 clear hRES
 have ea1:=ha1.out
 have ec1:=hc1.out
 have ea2:=ha2.out
 have ec2:=hc2.out
 go_enter Tryz.func198,Tryz.ntmps198
 go_wp2_with fail
 refine (T.out 16 _ _ _ (by omega) H).mono ?_
 rintro e w1 ⟨rfl,H1⟩
 rw [hd1.out]
 go_wp2_with fail
 refine (T.out 12 _ _ _ (by omega) H1).mono ?_
 rintro e w2 ⟨rfl,H2⟩
 rw [hb1.out]
 go_wp2_with fail
 refine (T.out 8 _ _ _ (by omega) H2).mono ?_
 rintro e w3 ⟨rfl,H3⟩
 rw [hd2.out]
 go_wp2_with fail
 refine (T.out 7 _ _ _ (by omega) H3).mono ?_
 rintro e w4 ⟨rfl,H4⟩
 rw [hb2.out]
 go_wp2
 refine bodyPost_ret (results_tmp4 rfl _ _ _) rfl ?_
 exact ⟨by rw [hfin.out];rfl,H4⟩
def wordC(b:List Int)(i:Nat):Int:=bits .or .u32 (bits .or .u32 (bits .or .u32 (IntKind.u32.wrap (b.getD (4*i) 0)) (IntKind.u32.wrap (IntKind.u32.wrap (b.getD (4*i+1) 0)*256))) (IntKind.u32.wrap (IntKind.u32.wrap (b.getD (4*i+2) 0)*65536))) (IntKind.u32.wrap (IntKind.u32.wrap (b.getD (4*i+3) 0)*16777216))
set_option maxHeartbeats 1600000 in
theorem ccword_any(s:ByteArray)(i:Nat)(hi:4*i+3<s.size)(hi9:i≤1000)(w:World):Calls Tryz.prog 197 #[.string s,.int .i64 i] w (fun r w'=>r=.returned (.int .u32 (wordC (bn s) i))∧Own w w' []):=by
 have H:=Own.start w
 obtain ⟨RES,hRES⟩:∃ x,Hid (wordC (bn s) i=x):=⟨_,rfl⟩
 rw [hRES.out]
 obtain ⟨j,hj⟩:∃ j,Hid (4*i=j):=⟨_,rfl⟩
 have w0:IntKind.i64.wrap (4*(i:Int))=(j:Int):=by rw [IntWalk.i64_in _ ⟨by omega,by omega⟩];have:=hj.out;omega
 have w1:IntKind.i64.wrap ((j:Int)+1)=((j+1:Nat):Int):=by have:=hj.out;rw [IntWalk.i64_in _ ⟨by omega,by omega⟩];omega
 have w2:IntKind.i64.wrap ((j:Int)+2)=((j+2:Nat):Int):=by have:=hj.out;rw [IntWalk.i64_in _ ⟨by omega,by omega⟩];omega
 have w3:IntKind.i64.wrap ((j:Int)+3)=((j+3:Nat):Int):=by have:=hj.out;rw [IntWalk.i64_in _ ⟨by omega,by omega⟩];omega
 obtain ⟨j1,h1⟩:∃ k,Hid (j+1=k):=⟨_,rfl⟩
 obtain ⟨j2,h2⟩:∃ k,Hid (j+2=k):=⟨_,rfl⟩
 obtain ⟨j3,h3⟩:∃ k,Hid (j+3=k):=⟨_,rfl⟩
 rw [h1.out] at w1
 rw [h2.out] at w2
 rw [h3.out] at w3
 have hj':=hj.out
 have i0:=str_at (s:=s) (i:=j) (by omega)
 have i1:=str_at (s:=s) (i:=j1) (by have:=h1.out;omega)
 have i2:=str_at (s:=s) (i:=j2) (by have:=h2.out;omega)
 have i3:=str_at (s:=s) (i:=j3) (by have:=h3.out;omega)
 obtain ⟨b0,e0⟩:∃ x,Hid ((bn s).getD j 0=x):=⟨_,rfl⟩
 obtain ⟨b1,e1⟩:∃ x,Hid ((bn s).getD j1 0=x):=⟨_,rfl⟩
 obtain ⟨b2,e2⟩:∃ x,Hid ((bn s).getD j2 0=x):=⟨_,rfl⟩
 obtain ⟨b3,e3⟩:∃ x,Hid ((bn s).getD j3 0=x):=⟨_,rfl⟩
 rw [e0.out] at i0
 rw [e1.out] at i1
 rw [e2.out] at i2
 rw [e3.out] at i3
 have hfin:Hid (RES=bits .or .u32 (bits .or .u32 (bits .or .u32 (IntKind.u32.wrap b0) (IntKind.u32.wrap (IntKind.u32.wrap b1*256))) (IntKind.u32.wrap (IntKind.u32.wrap b2*65536))) (IntKind.u32.wrap (IntKind.u32.wrap b3*16777216))):=jd (by
  rw [← hRES.out,wordC,hj.out,h1.out,h2.out,h3.out,e0.out,e1.out,e2.out,e3.out])
 clear hRES e0 e1 e2 e3 h1 h2 h3 hj' hj
 go_enter Tryz.func197,Tryz.ntmps197
 go_upto_region 1 with (fail)
 refine Qa (fun w1=>Own w w1 []) 29 (by kernel_rfl) (by kernel_rfl) H.drew ?_
 simp only [List.take_succ_cons,List.take_zero,List.drop_succ_cons,List.drop_zero]
 repeat
  first
  | (refine calm_value (v:=?_) (by decide) rfl (fun σ w1 hS=>?_) ?_
     rotate_left
     ·skip
      first | (go_simp;rfl) | rfl
     simp only [Act.put,putC])
  | (refine calm_skip (by decide) rfl ?_
     simp only [Act.put,putC])
 refine calm_nil ?_
 intro wd HD
 go_wp2
 go_ret
 exact ⟨by rw [hfin.out];rfl,HD⟩
def consC:List Int:=[1634760805,857760878,2036477234,1797285236,0,0,0,0,0,0,0,0,0,0,0,0]
def begK(k:List Int):Nat→List Int
 | 0=>consC
 | i+1=>(begK k i).set (4+i) (wordC k i)
def begN(s:List Int)(n:List Int):Nat→List Int
 | 0=>s
 | i+1=>(begN s n i).set (13+i) (wordC n i)
theorem begK_length(k:List Int):∀ i,(begK k i).length=16
 | 0=>rfl
 | i+1=>by rw [begK,List.length_set,begK_length k i]
theorem begN_length(s n:List Int):∀ i,(begN s n i).length=s.length
 | 0=>rfl
 | i+1=>by rw [begN,List.length_set,begN_length s n i]
def beginF(key nonce:ByteArray)(ctr:Int):List Int:=begN ((begK (bn key) 8).set 12 (ctr%4294967296)) (bn nonce) 3
theorem begin_length(key nonce:ByteArray)(ctr:Int):(beginF key nonce ctr).length=16:=by rw [beginF,begN_length,List.length_set,begK_length]
theorem w16Info(cs:List Int)(h:cs.length=16):(Tryz.prog.info? 235).map (·.size)=some (wds cs).toArray.size:=by
 rw [List.size_toArray,Qi,h]
 kernel_rfl
section
variable {w0 w:World} {ps:List Piece} {ops:Array Oper} {rest:List Oper} {o:Oper} {a:Act} {Q:Exit→Act→World→Prop}
theorem wpList_load16w(hgd:o.guard=none)(x:Operand)(ho:o.op=.load 235 x){g:Nat}(hx:a.eval x=.pointer (some ⟨g,0,none⟩)){cs:List Int}(hl:cs.length=16)(H:Own w0 w (blk g (.cells (wds cs).toArray 235)::ps))
 (h:wpList Tryz.prog ops Q rest (a.put o.dst (.agg (wds cs).toArray)) w):wpList Tryz.prog ops Q (o::rest) a w:=
 wpList_load_row hgd 235 x ho g hx 235 (wds cs).toArray (0,0) _ H.block.1 Tryz.underlying235 rfl (w16Info cs hl) h
theorem wpList_store16w(hgd:o.guard=none)(x y:Operand)(ho:o.op=.store 235 x y){g:Nat}(hx:a.eval x=.pointer (some ⟨g,0,none⟩)){cs ds:List Int}(hl:cs.length=16)(hd:ds.length=16)
 (H:Own w0 w (blk g (.cells (wds cs).toArray 235)::ps)) (hv:a.eval y=.agg (wds ds).toArray)
 (h:∀ w',Own w0 w' (blk g (.cells (wds ds).toArray 235)::ps)→wpList Tryz.prog ops Q rest (a.put o.dst undef) w'):wpList Tryz.prog ops Q (o::rest) a w:=
 Qe hgd x y ho hx H hv (by have:=w16Info ds hd;rw [List.size_toArray] at this;exact this) (by rw [List.size_toArray,Qi,Qi,hl,hd];omega) (wds_one ds) (shstore_whole _ _ (by rw [Qi,Qi,hl,hd])) h
end
def z16:List Int:=List.replicate 16 0
theorem z16_length:z16.length=16:=by simp [z16]
set_option maxRecDepth 100000 in
set_option maxHeartbeats 3200000 in
theorem ccbegin_any(key nonce:ByteArray)(hk:key.size=32)(hn:nonce.size=12)(ctr:Int)(w:World) :
 Calls Tryz.prog 137 #[.string key,.string nonce,.int .i64 ctr] w (fun r w'=>r=.returned (.agg (wds (beginF key nonce ctr)).toArray)∧Own w w' []):=by
 obtain ⟨RES,hRES⟩:∃ x,Hid (beginF key nonce ctr=x):=⟨_,rfl⟩
 have hRl:RES.length=16:=by rw [← hRES.out];exact begin_length _ _ _
 rw [hRES.out]
 have H:=(Own.start w).alloc2 (.cells #[.int .u32 0,.int .u32 0,.int .u32 0,.int .u32 0,.int .u32 0,.int .u32 0,.int .u32 0,.int .u32 0,.int .u32 0,.int .u32 0,.int .u32 0,.int .u32 0,.int .u32 0,.int .u32 0,.int .u32 0,.int .u32 0] 235) (.cells #[.int .u32 1634760805,.int .u32 857760878,.int .u32 2036477234,.int .u32 1797285236,.int .u32 0,.int .u32 0,.int .u32 0,.int .u32 0,.int .u32 0,.int .u32 0,.int .u32 0,.int .u32 0,.int .u32 0,.int .u32 0,.int .u32 0,.int .u32 0] 235)
 have WK:Hid (∀ (i:Nat) (wx:World) (qs:List Piece),i<8→Own w wx qs→Calls Tryz.prog 197 #[.string key,.int .i64 i] wx (fun r w'=>r=.returned (.int .u32 (wordC (bn key) i))∧Own w w' qs)):=jd fun i wx qs h1 h=>(ccword_any key i (by omega) (by omega) wx).mono fun e w' h2=>⟨h2.1,h.join h2.2⟩
 have WN:Hid (∀ (i:Nat) (wx:World) (qs:List Piece),i<3→Own w wx qs→Calls Tryz.prog 197 #[.string nonce,.int .i64 i] wx (fun r w'=>r=.returned (.int .u32 (wordC (bn nonce) i))∧Own w w' qs)):=jd fun i wx qs h1 h=>(ccword_any nonce i (by omega) (by omega) wx).mono fun e w' h2=>⟨h2.1,h.join h2.2⟩
 go_enter Tryz.func137,Tryz.ntmps137
 go_upto_region 2 with (fail)
 generalize (w.alloc _).alloc _=w1 at *
 obtain ⟨gs,hgs⟩:∃ g,w.heap.size+1=g:=⟨_,rfl⟩
 rw [hgs] at H ⊢
 generalize w.heap.size=gr at *
 clear hgs
 replace H:Own w w1 (blk gs (.cells (wds (begK (bn key) 0)).toArray 235)::blk gr (.cells (wds z16).toArray 235)::[]):=H
 go_wp2_with fail
 go_loopw [8,11] (fun _ v11 wx=>∃ i:Nat,v11=.int .i64 i∧i≤8∧Own w wx (blk gs (.cells (wds (begK (bn key) i)).toArray 235)::blk gr (.cells (wds z16).toArray 235)::[])) (fun _ v11 _=>8-(intOf v11).toNat)
 case atStart=>exact ⟨0,by go_num,by omega,H⟩
 case round=>
  clear H
  obtain ⟨i,rfl,hi,H⟩:=hrel
  have hxl:=jd (begK_length (bn key) i)
  by_cases hi8:i<8
  ·have hiI:(i:Int)<8:=by omega
   obtain ⟨X,hX⟩:∃ X,Hid (begK (bn key) i=X):=⟨_,rfl⟩
   rw [hX.out] at H hxl
   obtain ⟨y,hy⟩:∃ y,Hid (wordC (bn key) i=y):=⟨_,rfl⟩
   obtain ⟨m,hm⟩:∃ m,Hid (4+i=m):=⟨_,rfl⟩
   have hnx:Hid (begK (bn key) (i+1)=X.set m y):=jd (by rw [begK,hX.out,hy.out,hm.out])
   have e1:IntKind.i64.wrap (4+(i:Int))=(m:Int):=by rw [IntWalk.i64_in _ ⟨by omega,by omega⟩];have:=hm.out;omega
   have hm16:m<16:=by have:=hm.out;omega
   have hm16I:(m:Int)<16:=by omega
   go_wp2_with fail
   refine (WK.out i _ _ hi8 H).mono ?_
   rintro e w2 ⟨rfl,H2⟩
   rw [hy.out]
   clear H
   go_wp2_with (refine Qh rfl _ _ rfl rfl H2 rfl (by kernel_rfl) (by rw [List.size_toArray,Qi,hxl.out];omega) ?_;clear H2;intro w7 H2;rw [Vt] at H2)
   go_roundw
   case rel=>exact ⟨i+1,by go_num,by omega,by rw [hnx.out];exact H2⟩
   case measure=>simp [intOf];omega
  ·obtain rfl:i=8:=by omega
   have hnI:¬ ((8:Nat):Int)<8:=by omega
   obtain ⟨X,hX⟩:∃ X,Hid (begK (bn key) 8=X):=⟨_,rfl⟩
   rw [hX.out] at H hxl
   clear hi hi8
   go_upto_region 8 with (refine Qh rfl _ _ rfl rfl H rfl (by kernel_rfl) (by rw [List.size_toArray,Qi,hxl.out];decide) ?_;clear H;intro w7 H;rw [Vt] at H)
   obtain ⟨Y,hY⟩:∃ Y,Hid (X.set 12 (ctr%4294967296)=Y):=⟨_,rfl⟩
   have hYl:Hid (Y.length=16):=jd (by rw [← hY.out,List.length_set,hxl.out])
   have hfin:Hid (begN Y (bn nonce) 3=RES):=jd (by rw [← hRES.out,beginF,hX.out,hY.out])
   rw [hY.out] at H
   replace H:Own w w7 (blk gs (.cells (wds (begN Y (bn nonce) 0)).toArray 235)::blk gr (.cells (wds z16).toArray 235)::[]):=H
   clear hRES hX hY hxl WK
   go_wp2_with fail
   go_loopw [9,24] (fun _ v24 wx=>∃ i:Nat,v24=.int .i64 i∧i≤3∧Own w wx (blk gs (.cells (wds (begN Y (bn nonce) i)).toArray 235)::blk gr (.cells (wds z16).toArray 235)::[])) (fun _ v24 _=>3-(intOf v24).toNat)
   case atStart=>exact ⟨0,by go_num,by omega,H⟩
   case round=>
    clear H
    obtain ⟨i,rfl,hi,H⟩:=hrel
    have hxl:Hid ((begN Y (bn nonce) i).length=16):=jd (by rw [begN_length,hYl.out])
    by_cases hi3:i<3
    ·have hiI:(i:Int)<3:=by omega
     obtain ⟨X,hX⟩:∃ X,Hid (begN Y (bn nonce) i=X):=⟨_,rfl⟩
     rw [hX.out] at H hxl
     obtain ⟨y,hy⟩:∃ y,Hid (wordC (bn nonce) i=y):=⟨_,rfl⟩
     obtain ⟨m,hm⟩:∃ m,Hid (13+i=m):=⟨_,rfl⟩
     have hnx:Hid (begN Y (bn nonce) (i+1)=X.set m y):=jd (by rw [begN,hX.out,hy.out,hm.out])
     have e1:IntKind.i64.wrap (13+(i:Int))=(m:Int):=by rw [IntWalk.i64_in _ ⟨by omega,by omega⟩];have:=hm.out;omega
     have hm16:m<16:=by have:=hm.out;omega
     have hm16I:(m:Int)<16:=by omega
     go_wp2_with fail
     refine (WN.out i _ _ hi3 H).mono ?_
     rintro e w2 ⟨rfl,H2⟩
     rw [hy.out]
     clear H
     go_wp2_with (refine Qh rfl _ _ rfl rfl H2 rfl (by kernel_rfl) (by rw [List.size_toArray,Qi,hxl.out];omega) ?_;clear H2;intro w9 H2;rw [Vt] at H2)
     go_roundw
     case rel=>exact ⟨i+1,by go_num,by omega,by rw [hnx.out];exact H2⟩
     case measure=>simp [intOf];omega
    ·obtain rfl:i=3:=by omega
     have hnI3:¬ ((3:Nat):Int)<3:=by omega
     rw [hfin.out] at H
     clear hi hi3 hfin hxl
     go_upto_region 13 with (fail)
     refine wp_region_list ?_
     refine wpList_load16w rfl _ rfl rfl hRl H ?_
     simp only [Act.put,putC]
     refine wpList_store16w rfl _ _ rfl rfl z16_length hRl H.swap rfl ?_
     clear H
     intro w9 H
     refine wpList_nil ?_
     simp only [Act.put]
     refine (show ∀ (a:Act) (w:World),Code.wp Tryz.prog Code.ret _ a w→_ by assumption) _ _ ?_
     refine wp_ret ?_
     have hl9:(loadVar 235 ⟨gr,0,none⟩).run Tryz.prog w9=.ok (.agg (wds RES).toArray) w9:=run_loadVar_row w9 gr _ _ _ _ _ H.block.1 Tryz.underlying235 rfl (w16Info RES hRl)
     refine bodyPost_ret (v:=.agg (wds RES).toArray) (res_cell1 (p:=6) (ty:=235) rfl _ _ gr _ rfl hl9) rfl ?_
     exact ⟨rfl,H.bare⟩
def cmixF(s:List Int)(a b c d:Nat):List Int:=
 let q:=q1F (s.getD a 0) (s.getD b 0) (s.getD c 0) (s.getD d 0)
 (((s.set a q.1).set b q.2.1).set c q.2.2.1).set d q.2.2.2
theorem cmix_length(s:List Int)(a b c d:Nat):(cmixF s a b c d).length=s.length:=by simp [cmixF]
def pickS(x36 x39 x42:Bool)(s s1 s2 s3:List Int):List Int:=if x42 then s3 else if x39 then s2 else if x36 then s1 else s
theorem late_none{x12 x17 x22 x27 x36 x39 x42:Bool}(h1:x36=true→x12=true∧x17=true∧x22=true∧x27=true)(h2:x39=true→x36=true)(h3:x42=true→x39=true)(hn:(x12&&x17&&x22&&x27)=false):x36=false∧x39=false∧x42=false:=by
 cases x36 <;> cases x39 <;> cases x42 <;> simp_all
set_option maxRecDepth 100000 in
set_option maxHeartbeats 6400000 in
theorem ccmix_any{w0 w:World}{ps:List Piece}{g:Nat}{s:List Int}{a b c d:Nat}(hs:s.length=16)(ha:a<16)(hb:b<16)(hc:c<16)(hd:d<16)(H:Own w0 w (blk g (.cells (wds s).toArray 235)::ps)) :
 Calls Tryz.prog 138 #[.pointer (some ⟨g,0,none⟩),.int .i64 a,.int .i64 b,.int .i64 c,.int .i64 d] w (Ret fun _ w'=>Own w0 w' (blk g (.cells (wds (cmixF s a b c d)).toArray 235)::ps)):=by
 obtain ⟨xa,hxa⟩:∃ x,Hid (s.getD a 0=x):=⟨_,rfl⟩
 obtain ⟨xb,hxb⟩:∃ x,Hid (s.getD b 0=x):=⟨_,rfl⟩
 obtain ⟨xc,hxc⟩:∃ x,Hid (s.getD c 0=x):=⟨_,rfl⟩
 obtain ⟨xd,hxd⟩:∃ x,Hid (s.getD d 0=x):=⟨_,rfl⟩
 obtain ⟨y1,y2,y3,y4,hy⟩:∃ y1 y2 y3 y4,Hid (q1F xa xb xc xd=(y1,y2,y3,y4)):=⟨_,_,_,_,rfl⟩
 have hQ:Hid (∀ w1 qs,Own w0 w1 qs→Calls Tryz.prog 198 #[.int .u32 xa,.int .u32 xb,.int .u32 xc,.int .u32 xd] w1 (fun e w2=>e=.returned (.tuple #[.int .u32 y1,.int .u32 y2,.int .u32 y3,.int .u32 y4])∧Own w0 w2 qs)):=jd fun w1 qs h=>(ccquarter_any xa xb xc xd w1).mono fun e w2 g2=>⟨by rw [g2.1,quartV,hy.out],h.join g2.2⟩
 have hres:Hid (cmixF s a b c d=(((s.set a y1).set b y2).set c y3).set d y4):=jd (by rw [cmixF,hxa.out,hxb.out,hxc.out,hxd.out,hy.out])
 rw [hres.out]
 obtain ⟨s1,h1⟩:∃ x,Hid (s.set a y1=x):=⟨_,rfl⟩
 obtain ⟨s2,h2⟩:∃ x,Hid (s1.set b y2=x):=⟨_,rfl⟩
 obtain ⟨s3,h3⟩:∃ x,Hid (s2.set c y3=x):=⟨_,rfl⟩
 obtain ⟨s4,h4⟩:∃ x,Hid (s3.set d y4=x):=⟨_,rfl⟩
 rw [h1.out,h2.out,h3.out,h4.out]
 have l1:s1.length=16:=by rw [← h1.out,List.length_set,hs]
 have l2:s2.length=16:=by rw [← h2.out,List.length_set,l1]
 have l3:s3.length=16:=by rw [← h3.out,List.length_set,l2]
 have HC:Hid (∀ w1,Own w0 w1 (blk g (.cells (wds s).toArray 235)::ps)→w1.cell? ⟨g,a,none⟩=some (.int .u32 xa)∧w1.cell? ⟨g,b,none⟩=some (.int .u32 xb)∧w1.cell? ⟨g,c,none⟩=some (.int .u32 xc)∧w1.cell? ⟨g,d,none⟩=some (.int .u32 xd)):=jd fun w1 h=>⟨by rw [h.cells,Vu (by omega),hxa.out],by rw [h.cells,Vu (by omega),hxb.out],by rw [h.cells,Vu (by omega),hxc.out],by rw [h.cells,Vu (by omega),hxd.out]⟩
 have iA:(a:Int)<16:=by omega
 have iB:(b:Int)<16:=by omega
 have iC:(c:Int)<16:=by omega
 have iD:(d:Int)<16:=by omega
 replace hs:=jd hs
 replace l1:=jd l1
 replace l2:=jd l2
 replace l3:=jd l3
 clear hres hxa hxb hxc hxd hy
 go_enter Tryz.func138,Tryz.ntmps138
 refine Trd.wp_region_new (fun σ w1=>((σ 36).isSome=true→(σ 12).isSome=true∧(σ 17).isSome=true∧(σ 22).isSome=true∧(σ 27).isSome=true)∧((σ 39).isSome=true→(σ 36).isSome=true)∧((σ 42).isSome=true→(σ 39).isSome=true)∧Own w0 w1 (blk g (.cells (wds (pickS (σ 36).isSome (σ 39).isSome (σ 42).isSome s s1 s2 s3)).toArray 235)::ps)) 45 [] [12,17,22,27,36,39,42] (by decide) (by kernel_rfl) (by kernel_rfl) ⟨by simp [Sig.no],by simp [Sig.no],by simp [Sig.no],by simpa [Sig.no,pickS] using H.drew⟩ ?_
 simp only [List.take_succ_cons,List.take_zero,List.drop_succ_cons,List.drop_zero]
 repeat
  first
  | (refine Trd.calm_value (v:=?_) (by decide) (by decide) rfl (fun σ w1 hS=>?_) ?_
     rotate_left
     ·skip
      first | (go_simp;rfl) | rfl
     simp only [Act.put,putC])
  | (refine Trd.calm_skip (by decide) rfl ?_
     simp only [Act.put,putC])
 refine Trd.calm_track (v:=.int .u32 xa) (by decide) (by decide) rfl (fun σ w1 hS hn _=>?_) ?_
 ·obtain ⟨e1,e2,e3⟩:=late_none hS.1 hS.2.1 hS.2.2.1 (by simp [hn])
  have H1:=hS.2.2.2
  rw [e1,e2,e3] at H1
  obtain ⟨c0,c1,c2,c3⟩:=HC.out w1 H1
  refine ⟨w1,by go_simp,fun h=>?_,?_,?_,?_⟩
  ·exact absurd h (by simp [Sig.upd,e1])
  ·simpa [Sig.upd] using hS.2.1
  ·simpa [Sig.upd] using hS.2.2.1
  ·simpa [Sig.upd,e1,e2,e3] using hS.2.2.2
 simp only [Act.put,putC]
 repeat
  first
  | (refine Trd.calm_value (v:=?_) (by decide) (by decide) rfl (fun σ w1 hS=>?_) ?_
     rotate_left
     ·skip
      first | (go_simp;rfl) | rfl
     simp only [Act.put,putC])
  | (refine Trd.calm_skip (by decide) rfl ?_
     simp only [Act.put,putC])
 refine Trd.calm_track (v:=.int .u32 xb) (by decide) (by decide) rfl (fun σ w1 hS hn _=>?_) ?_
 ·obtain ⟨e1,e2,e3⟩:=late_none hS.1 hS.2.1 hS.2.2.1 (by simp [hn])
  have H1:=hS.2.2.2
  rw [e1,e2,e3] at H1
  obtain ⟨c0,c1,c2,c3⟩:=HC.out w1 H1
  refine ⟨w1,by go_simp,fun h=>?_,?_,?_,?_⟩
  ·exact absurd h (by simp [Sig.upd,e1])
  ·simpa [Sig.upd] using hS.2.1
  ·simpa [Sig.upd] using hS.2.2.1
  ·simpa [Sig.upd,e1,e2,e3] using hS.2.2.2
 simp only [Act.put,putC]
 repeat
  first
  | (refine Trd.calm_value (v:=?_) (by decide) (by decide) rfl (fun σ w1 hS=>?_) ?_
     rotate_left
     ·skip
      first | (go_simp;rfl) | rfl
     simp only [Act.put,putC])
  | (refine Trd.calm_skip (by decide) rfl ?_
     simp only [Act.put,putC])
 refine Trd.calm_track (v:=.int .u32 xc) (by decide) (by decide) rfl (fun σ w1 hS hn _=>?_) ?_
 ·obtain ⟨e1,e2,e3⟩:=late_none hS.1 hS.2.1 hS.2.2.1 (by simp [hn])
  have H1:=hS.2.2.2
  rw [e1,e2,e3] at H1
  obtain ⟨c0,c1,c2,c3⟩:=HC.out w1 H1
  refine ⟨w1,by go_simp,fun h=>?_,?_,?_,?_⟩
  ·exact absurd h (by simp [Sig.upd,e1])
  ·simpa [Sig.upd] using hS.2.1
  ·simpa [Sig.upd] using hS.2.2.1
  ·simpa [Sig.upd,e1,e2,e3] using hS.2.2.2
 simp only [Act.put,putC]
 repeat
  first
  | (refine Trd.calm_value (v:=?_) (by decide) (by decide) rfl (fun σ w1 hS=>?_) ?_
     rotate_left
     ·skip
      first | (go_simp;rfl) | rfl
     simp only [Act.put,putC])
  | (refine Trd.calm_skip (by decide) rfl ?_
     simp only [Act.put,putC])
 refine Trd.calm_track (v:=.int .u32 xd) (by decide) (by decide) rfl (fun σ w1 hS hn _=>?_) ?_
 ·obtain ⟨e1,e2,e3⟩:=late_none hS.1 hS.2.1 hS.2.2.1 (by simp [hn])
  have H1:=hS.2.2.2
  rw [e1,e2,e3] at H1
  obtain ⟨c0,c1,c2,c3⟩:=HC.out w1 H1
  refine ⟨w1,by go_simp,fun h=>?_,?_,?_,?_⟩
  ·exact absurd h (by simp [Sig.upd,e1])
  ·simpa [Sig.upd] using hS.2.1
  ·simpa [Sig.upd] using hS.2.2.1
  ·simpa [Sig.upd,e1,e2,e3] using hS.2.2.2
 simp only [Act.put,putC]
 repeat
  first
  | (refine Trd.calm_value (v:=?_) (by decide) (by decide) rfl (fun σ w1 hS=>?_) ?_
     rotate_left
     ·skip
      first | (go_simp;rfl) | rfl
     simp only [Act.put,putC])
  | (refine Trd.calm_skip (by decide) rfl ?_
     simp only [Act.put,putC])
 refine scalm_call (v:=.tuple #[.int .u32 y1,.int .u32 y2,.int .u32 y3,.int .u32 y4]) (by decide) (by decide) rfl (fun w1=>(by go_simp)) (fun σ w1 hS=>(hQ.out w1 _ hS.2.2.2).mono fun e w2 g2=>⟨g2.1,hS.1,hS.2.1,hS.2.2.1,g2.2⟩) ?_
 simp only [Act.put,putC]
 repeat
  first
  | (refine Trd.calm_value (v:=?_) (by decide) (by decide) rfl (fun σ w1 hS=>?_) ?_
     rotate_left
     ·skip
      first | (go_simp;rfl) | rfl
     simp only [Act.put,putC])
  | (refine Trd.calm_skip (by decide) rfl ?_
     simp only [Act.put,putC])
 refine scalm_store (off:=a) (u:=.int .u32 y1) _ _ (by decide) (by decide) rfl rfl rfl rfl rfl (by kernel_rfl) rfl (fun σ w1 hS hn hd=>?_) ?_
 ·have e3:(σ 39).isSome=false:=by
   cases h:(σ 39).isSome with
   | false=>rfl
   | true=>have:=hS.2.1 h;rw [hn] at this;cases this
  have e4:(σ 42).isSome=false:=by
   cases h:(σ 42).isSome with
   | false=>rfl
   | true=>have:=hS.2.2.1 h;rw [e3] at this;cases this
  have H1:=hS.2.2.2
  rw [hn,e3,e4] at H1
  have d1:=hd 12 (by decide) ⟨⟨12,.phase⟩,by simp,by decide,rfl⟩
  have d2:=hd 17 (by decide) ⟨⟨17,.phase⟩,by simp,by decide,rfl⟩
  have d3:=hd 22 (by decide) ⟨⟨22,.phase⟩,by simp,by decide,rfl⟩
  have d4:=hd 27 (by decide) ⟨⟨27,.phase⟩,by simp,by decide,rfl⟩
  refine ⟨w0,_,_,_,H1,by rw [List.size_toArray,Qi];show a<s.length;rw [hs.out];exact ha,fun w' h=>⟨fun _=>?_,?_,?_,?_⟩⟩
  ·simp [Sig.upd,d1,d2,d3,d4]
  ·simp [Sig.upd,e3]
  ·simp [Sig.upd,e3,e4]
  ·have h':Own w0 w' (blk g (.cells ((wds s).toArray.setIfInBounds a (.int .u32 y1)) 235)::ps):=h
   rw [Vt,h1.out] at h'
   simpa [Sig.upd,e3,e4,pickS] using h'
 simp only [Act.put]
 repeat
  first
  | (refine Trd.calm_value (v:=?_) (by decide) (by decide) rfl (fun σ w1 hS=>?_) ?_
     rotate_left
     ·skip
      first | (go_simp;rfl) | rfl
     simp only [Act.put,putC])
  | (refine Trd.calm_skip (by decide) rfl ?_
     simp only [Act.put,putC])
 refine scalm_store (off:=b) (u:=.int .u32 y2) _ _ (by decide) (by decide) rfl rfl rfl rfl rfl (by kernel_rfl) rfl (fun σ w1 hS hn hd=>?_) ?_
 ·have e4:(σ 42).isSome=false:=by
   cases h:(σ 42).isSome with
   | false=>rfl
   | true=>have:=hS.2.2.1 h;rw [hn] at this;cases this
  have d1:=hd 36 (by decide) ⟨⟨36,.chain⟩,by simp,by decide,rfl⟩
  have H1:=hS.2.2.2
  rw [hn,e4,d1] at H1
  refine ⟨w0,_,_,_,H1,by rw [List.size_toArray,Qi];show b<s1.length;rw [l1.out];exact hb,fun w' h=>⟨fun _=>?_,?_,?_,?_⟩⟩
  ·simpa [Sig.upd] using hS.1 d1
  ·simp [Sig.upd,d1]
  ·simp [Sig.upd,e4]
  ·have h':Own w0 w' (blk g (.cells ((wds s1).toArray.setIfInBounds b (.int .u32 y2)) 235)::ps):=h
   rw [Vt,h2.out] at h'
   simpa [Sig.upd,d1,e4,pickS] using h'
 simp only [Act.put]
 repeat
  first
  | (refine Trd.calm_value (v:=?_) (by decide) (by decide) rfl (fun σ w1 hS=>?_) ?_
     rotate_left
     ·skip
      first | (go_simp;rfl) | rfl
     simp only [Act.put,putC])
  | (refine Trd.calm_skip (by decide) rfl ?_
     simp only [Act.put,putC])
 refine scalm_store (off:=c) (u:=.int .u32 y3) _ _ (by decide) (by decide) rfl rfl rfl rfl rfl (by kernel_rfl) rfl (fun σ w1 hS hn hd=>?_) ?_
 ·have d1:=hd 39 (by decide) ⟨⟨39,.chain⟩,by simp,by decide,rfl⟩
  have d2:=hS.2.1 d1
  have H1:=hS.2.2.2
  rw [hn,d2,d1] at H1
  refine ⟨w0,_,_,_,H1,by rw [List.size_toArray,Qi];show c<s2.length;rw [l2.out];exact hc,fun w' h=>⟨fun _=>?_,?_,?_,?_⟩⟩
  ·simpa [Sig.upd] using hS.1 d2
  ·simpa [Sig.upd] using fun _=>d2
  ·simp [Sig.upd,d1]
  ·have h':Own w0 w' (blk g (.cells ((wds s2).toArray.setIfInBounds c (.int .u32 y3)) 235)::ps):=h
   rw [Vt,h3.out] at h'
   simpa [Sig.upd,d1,d2,pickS] using h'
 simp only [Act.put]
 repeat
  first
  | (refine Trd.calm_value (v:=?_) (by decide) (by decide) rfl (fun σ w1 hS=>?_) ?_
     rotate_left
     ·skip
      first | (go_simp;rfl) | rfl
     simp only [Act.put,putC])
  | (refine Trd.calm_skip (by decide) rfl ?_
     simp only [Act.put,putC])
 refine Trd.calm_nil ?_
 intro σ wd _ hσ HD
 replace HD:=HD.2.2.2
 rw [hσ 36 (by decide),hσ 39 (by decide),hσ 42 (by decide)] at HD
 replace HD:Own w0 wd (blk g (.cells (wds s3).toArray 235)::ps):=HD
 clear hσ H
 simp only [Jx,List.foldl_nil]
 go_wp2_with (refine Qh rfl _ _ rfl rfl HD rfl (by kernel_rfl) (by rw [List.size_toArray,Qi,l3.out];omega) ?_;clear HD;intro w7 HD;rw [Vt,h4.out] at HD)
 go_end0
 exact ⟨_,rfl,HD⟩
def colsF(s:List Int):Nat→List Int
 | 0=>s
 | i+1=>cmixF (colsF s i) i (4+i) (8+i) (12+i)
def dgsF(s:List Int):Nat→List Int
 | 0=>s
 | i+1=>cmixF (dgsF s i) i (4+(i+1)%4) (8+(i+2)%4) (12+(i+3)%4)
def rndC(s:List Int):Nat→List Int
 | 0=>s
 | k+1=>dgsF (colsF (rndC s k) 4) 4
theorem cols_length(s:List Int):∀ i,(colsF s i).length=s.length
 | 0=>rfl
 | i+1=>by rw [colsF,cmix_length,cols_length s i]
theorem dgs_length(s:List Int):∀ i,(dgsF s i).length=s.length
 | 0=>rfl
 | i+1=>by rw [dgsF,cmix_length,dgs_length s i]
theorem rndC_length(s:List Int):∀ i,(rndC s i).length=s.length
 | 0=>rfl
 | i+1=>by rw [rndC,dgs_length,cols_length,rndC_length s i]
def put4(l:List Int)(j:Nat)(x:Int):List Int:=(((l.set j (IntKind.u8.wrap x)).set (j+1) (IntKind.u8.wrap (x/256))).set (j+2) (IntKind.u8.wrap (x/65536))).set (j+3) (IntKind.u8.wrap (x/16777216))
def outC(s f:List Int):Nat→List Int
 | 0=>z64
 | i+1=>put4 (outC s f i) (4*i) (IntKind.u32.wrap (s.getD i 0+f.getD i 0))
theorem outC_length(s f:List Int):∀ i,(outC s f i).length=64
 | 0=>z64_length
 | i+1=>by rw [outC,put4];simp only [List.length_set];exact outC_length s f i
def blockC(key nonce:ByteArray)(ctr:Int):List Int:=outC (rndC (beginF key nonce ctr) 10) (beginF key nonce ctr) 16
theorem blockC_length(key nonce:ByteArray)(ctr:Int):(blockC key nonce ctr).length=64:=outC_length _ _ _
theorem b64Info(cs:List Int)(h:cs.length=64):(Tryz.prog.info? 154).map (·.size)=some (bts cs).toArray.size:=by
 rw [List.size_toArray,Qx,h]
 kernel_rfl
section
variable {w0 w:World} {ps:List Piece} {ops:Array Oper} {rest:List Oper} {o:Oper} {a:Act} {Q:Exit→Act→World→Prop}
theorem wpList_load64b(hgd:o.guard=none)(x:Operand)(ho:o.op=.load 154 x){g:Nat}(hx:a.eval x=.pointer (some ⟨g,0,none⟩)){cs:List Int}(hl:cs.length=64)(H:Own w0 w (blk g (.cells (bts cs).toArray 154)::ps))
 (h:wpList Tryz.prog ops Q rest (a.put o.dst (.agg (bts cs).toArray)) w):wpList Tryz.prog ops Q (o::rest) a w:=
 wpList_load_row hgd 154 x ho g hx 154 (bts cs).toArray (0,0) _ H.block.1 Tryz.underlying154 rfl (b64Info cs hl) h
theorem wpList_store64b(hgd:o.guard=none)(x y:Operand)(ho:o.op=.store 154 x y){g:Nat}(hx:a.eval x=.pointer (some ⟨g,0,none⟩)){cs ds:List Int}(hl:cs.length=64)(hd:ds.length=64)
 (H:Own w0 w (blk g (.cells (bts cs).toArray 154)::ps)) (hv:a.eval y=.agg (bts ds).toArray)
 (h:∀ w',Own w0 w' (blk g (.cells (bts ds).toArray 154)::ps)→wpList Tryz.prog ops Q rest (a.put o.dst undef) w'):wpList Tryz.prog ops Q (o::rest) a w:=
 Qe hgd x y ho hx H hv (by have:=b64Info ds hd;rw [List.size_toArray] at this;exact this) (by rw [List.size_toArray,Qx,Qx,hl,hd];omega) (bts_one ds) (shstore_whole _ _ (by rw [Qx,Qx,hl,hd])) h
end
set_option maxRecDepth 100000 in
set_option maxHeartbeats 12800000 in
theorem ccblock_any(key nonce:ByteArray)(hk:key.size=32)(hn:nonce.size=12)(ctr:Int)(w:World) :
 Calls Tryz.prog 88 #[.string key,.string nonce,.int .i64 ctr] w (fun r w'=>r=.returned (.agg (bts (blockC key nonce ctr)).toArray)∧Own w w' []):=by
 obtain ⟨RES,hRES⟩:∃ x,Hid (blockC key nonce ctr=x):=⟨_,rfl⟩
 have hRl:RES.length=64:=by rw [← hRES.out];exact blockC_length _ _ _
 rw [hRES.out]
 have H:=(Own.start w).alloc (.cells #[.int .u8 0,.int .u8 0,.int .u8 0,.int .u8 0,.int .u8 0,.int .u8 0,.int .u8 0,.int .u8 0,.int .u8 0,.int .u8 0,.int .u8 0,.int .u8 0,.int .u8 0,.int .u8 0,.int .u8 0,.int .u8 0,.int .u8 0,.int .u8 0,.int .u8 0,.int .u8 0,.int .u8 0,.int .u8 0,.int .u8 0,.int .u8 0,.int .u8 0,.int .u8 0,.int .u8 0,.int .u8 0,.int .u8 0,.int .u8 0,.int .u8 0,.int .u8 0,.int .u8 0,.int .u8 0,.int .u8 0,.int .u8 0,.int .u8 0,.int .u8 0,.int .u8 0,.int .u8 0,.int .u8 0,.int .u8 0,.int .u8 0,.int .u8 0,.int .u8 0,.int .u8 0,.int .u8 0,.int .u8 0,.int .u8 0,.int .u8 0,.int .u8 0,.int .u8 0,.int .u8 0,.int .u8 0,.int .u8 0,.int .u8 0,.int .u8 0,.int .u8 0,.int .u8 0,.int .u8 0,.int .u8 0,.int .u8 0,.int .u8 0,.int .u8 0] 154)
 have HB:=jd fun w=>ccbegin_any key nonce hk hn ctr w
 obtain ⟨FIR,hFIR⟩:∃ x,Hid (beginF key nonce ctr=x):=⟨_,rfl⟩
 have hFl:FIR.length=16:=by rw [← hFIR.out];exact begin_length _ _ _
 rw [hFIR.out] at HB
 go_enter Tryz.func88,Tryz.ntmps88
 go_upto_region 1 with (fail)
 generalize w.alloc _=w1 at *
 generalize w.heap.size=gr at *
 replace H:Own w w1 (blk gr (.cells (bts z64).toArray 154)::[]):=H
 go_wp2_with fail
 refine (HB.out _).mono ?_
 rintro e w2 ⟨rfl,H2⟩
 replace H2:=H.join H2
 clear H
 go_upto_region 2 with (refine wpList_store16w rfl _ _ rfl rfl z16_length hFl (H2.alloc (.cells #[.int .u32 0,.int .u32 0,.int .u32 0,.int .u32 0,.int .u32 0,.int .u32 0,.int .u32 0,.int .u32 0,.int .u32 0,.int .u32 0,.int .u32 0,.int .u32 0,.int .u32 0,.int .u32 0,.int .u32 0,.int .u32 0] 235)) rfl ?_;clear H2;intro w3 H2)
 simp only [Act.put]
 generalize w2.heap.size=gf at *
 go_upto_region 3 with (first
  | (refine wpList_load16w rfl _ rfl rfl hFl H2 ?_)
  | (refine wpList_store16w rfl _ _ rfl rfl z16_length hFl (H2.alloc (.cells #[.int .u32 0,.int .u32 0,.int .u32 0,.int .u32 0,.int .u32 0,.int .u32 0,.int .u32 0,.int .u32 0,.int .u32 0,.int .u32 0,.int .u32 0,.int .u32 0,.int .u32 0,.int .u32 0,.int .u32 0,.int .u32 0] 235)) rfl ?_;clear H2;intro w4 H2))
 simp only [Act.put]
 generalize w3.heap.size=gs at *
 replace H2:Own w w4 (blk gs (.cells (wds (rndC FIR 0)).toArray 235)::blk gf (.cells (wds FIR).toArray 235)::blk gr (.cells (bts z64).toArray 154)::[]):=H2
 go_wp2_with fail
 go_loopw [9,10,19,21,33] (fun _ _ v19 _ _ wx=>∃ k:Nat,v19=.int .i64 k∧k≤10∧Own w wx (blk gs (.cells (wds (rndC FIR k)).toArray 235)::blk gf (.cells (wds FIR).toArray 235)::blk gr (.cells (bts z64).toArray 154)::[])) (fun _ _ v19 _ _ _=>10-(intOf v19).toNat)
 case atStart=>exact ⟨0,by go_num,by omega,H2⟩
 case round=>
  clear H2
  obtain ⟨k,rfl,hk10,H⟩:=hrel
  have hRl':(rndC FIR k).length=16:=by rw [rndC_length,hFl]
  by_cases hlt:k<10
  ·have hkI:(k:Int)<10:=by omega
   obtain ⟨X,hX⟩:∃ X,Hid (rndC FIR k=X):=⟨_,rfl⟩
   have hnx:Hid (rndC FIR (k+1)=dgsF (colsF X 4) 4):=jd (by rw [rndC,hX.out])
   rw [hX.out] at H hRl'
   replace hRl':=jd hRl'
   replace H:Own w wr (blk gs (.cells (wds (colsF X 0)).toArray 235)::blk gf (.cells (wds FIR).toArray 235)::blk gr (.cells (bts z64).toArray 154)::[]):=H
   go_wp2_with fail
   go_loopw [9,21] (fun _ v21 wx=>∃ i:Nat,v21=.int .i64 i∧i≤4∧Own w wx (blk gs (.cells (wds (colsF X i)).toArray 235)::blk gf (.cells (wds FIR).toArray 235)::blk gr (.cells (bts z64).toArray 154)::[])) (fun _ v21 _=>4-(intOf v21).toNat)
   case atStart=>exact ⟨0,by go_num,by omega,H⟩
   case round=>
    clear H
    obtain ⟨i,rfl,hi,H⟩:=hrel
    have hcl:(colsF X i).length=16:=by rw [cols_length,hRl'.out]
    by_cases hi4:i<4
    ·have hiI:(i:Int)<4:=by omega
     have hnx2:Hid (colsF X (i+1)=cmixF (colsF X i) i (4+i) (8+i) (12+i)):=jd rfl
     obtain ⟨m4,h4⟩:∃ m,Hid (4+i=m):=⟨_,rfl⟩
     obtain ⟨m8,h8⟩:∃ m,Hid (8+i=m):=⟨_,rfl⟩
     obtain ⟨m12,h12⟩:∃ m,Hid (12+i=m):=⟨_,rfl⟩
     rw [h4.out,h8.out,h12.out] at hnx2
     have e4:IntKind.i64.wrap (4+(i:Int))=(m4:Int):=by rw [IntWalk.i64_in _ ⟨by omega,by omega⟩];have:=h4.out;omega
     have e8:IntKind.i64.wrap (8+(i:Int))=(m8:Int):=by rw [IntWalk.i64_in _ ⟨by omega,by omega⟩];have:=h8.out;omega
     have e12:IntKind.i64.wrap (12+(i:Int))=(m12:Int):=by rw [IntWalk.i64_in _ ⟨by omega,by omega⟩];have:=h12.out;omega
     have hM:=jd (ccmix_any (a:=i) (b:=m4) (c:=m8) (d:=m12) hcl (by omega) (by have:=h4.out;omega) (by have:=h8.out;omega) (by have:=h12.out;omega) H)
     rw [← hnx2.out] at hM
     go_wp2_with fail
     refine hM.out.mono ?_
     rintro e w7 ⟨_,rfl,H7⟩
     clear H hM
     go_wp2_with fail
     go_roundw
     case rel=>exact ⟨i+1,by go_num,by omega,H7⟩
     case measure=>simp [intOf];omega
    ·obtain rfl:i=4:=by omega
     have hnI4:¬ ((4:Nat):Int)<4:=by omega
     obtain ⟨Y,hY⟩:∃ Y,Hid (colsF X 4=Y):=⟨_,rfl⟩
     rw [hY.out] at H hnx hcl
     replace hcl:=jd hcl
     replace H:Own w wr (blk gs (.cells (wds (dgsF Y 0)).toArray 235)::blk gf (.cells (wds FIR).toArray 235)::blk gr (.cells (bts z64).toArray 154)::[]):=H
     clear hi hi4
     go_wp2_with fail
     go_loopw [10,33] (fun _ v33 wx=>∃ i:Nat,v33=.int .i64 i∧i≤4∧Own w wx (blk gs (.cells (wds (dgsF Y i)).toArray 235)::blk gf (.cells (wds FIR).toArray 235)::blk gr (.cells (bts z64).toArray 154)::[])) (fun _ v33 _=>4-(intOf v33).toNat)
     case atStart=>exact ⟨0,by go_num,by omega,H⟩
     case round=>
      clear H
      obtain ⟨i,rfl,hi,H⟩:=hrel
      have hdl:(dgsF Y i).length=16:=by rw [dgs_length,hcl.out]
      by_cases hi4:i<4
      ·have hiI:(i:Int)<4:=by omega
       have hnx2:Hid (dgsF Y (i+1)=cmixF (dgsF Y i) i (4+(i+1)%4) (8+(i+2)%4) (12+(i+3)%4)):=jd rfl
       obtain ⟨r1,hr1⟩:∃ m,Hid ((i+1)%4=m):=⟨_,rfl⟩
       obtain ⟨r2,hr2⟩:∃ m,Hid ((i+2)%4=m):=⟨_,rfl⟩
       obtain ⟨r3,hr3⟩:∃ m,Hid ((i+3)%4=m):=⟨_,rfl⟩
       rw [hr1.out,hr2.out,hr3.out] at hnx2
       obtain ⟨m4,h4⟩:∃ m,Hid (4+r1=m):=⟨_,rfl⟩
       obtain ⟨m8,h8⟩:∃ m,Hid (8+r2=m):=⟨_,rfl⟩
       obtain ⟨m12,h12⟩:∃ m,Hid (12+r3=m):=⟨_,rfl⟩
       rw [h4.out,h8.out,h12.out] at hnx2
       have b1:r1<4:=by have:=hr1.out;omega
       have b2:r2<4:=by have:=hr2.out;omega
       have b3:r3<4:=by have:=hr3.out;omega
       have a1:IntKind.i64.wrap ((i:Int)+1)=(i:Int)+1:=IntWalk.i64_in _ ⟨by omega,by omega⟩
       have a2:IntKind.i64.wrap ((i:Int)+2)=(i:Int)+2:=IntWalk.i64_in _ ⟨by omega,by omega⟩
       have a3:IntKind.i64.wrap ((i:Int)+3)=(i:Int)+3:=IntWalk.i64_in _ ⟨by omega,by omega⟩
       have t1:((i:Int)+1).tmod 4=(r1:Int):=by rw [Int.tmod_eq_emod_of_nonneg (by omega)];have:=hr1.out;omega
       have t2:((i:Int)+2).tmod 4=(r2:Int):=by rw [Int.tmod_eq_emod_of_nonneg (by omega)];have:=hr2.out;omega
       have t3:((i:Int)+3).tmod 4=(r3:Int):=by rw [Int.tmod_eq_emod_of_nonneg (by omega)];have:=hr3.out;omega
       have e4:IntKind.i64.wrap (4+(r1:Int))=(m4:Int):=by rw [IntWalk.i64_in _ ⟨by omega,by omega⟩];have:=h4.out;omega
       have e8:IntKind.i64.wrap (8+(r2:Int))=(m8:Int):=by rw [IntWalk.i64_in _ ⟨by omega,by omega⟩];have:=h8.out;omega
       have e12:IntKind.i64.wrap (12+(r3:Int))=(m12:Int):=by rw [IntWalk.i64_in _ ⟨by omega,by omega⟩];have:=h12.out;omega
       have hM:=jd (ccmix_any (a:=i) (b:=m4) (c:=m8) (d:=m12) hdl (by omega) (by have:=h4.out;omega) (by have:=h8.out;omega) (by have:=h12.out;omega) H)
       rw [← hnx2.out] at hM
       go_wp2_with fail
       refine hM.out.mono ?_
       rintro e w7 ⟨_,rfl,H7⟩
       clear H hM
       go_wp2_with fail
       go_roundw
       case rel=>exact ⟨i+1,by go_num,by omega,H7⟩
       case measure=>simp [intOf];omega
      ·obtain rfl:i=4:=by omega
       have hnI4':¬ ((4:Nat):Int)<4:=by omega
       rw [← hnx.out] at H
       go_wp2_with fail
       go_roundw
       case rel=>exact ⟨k+1,by go_num,by omega,H⟩
       case measure=>simp [intOf];omega
  ·obtain rfl:k=10:=by omega
   have hnI10:¬ ((10:Nat):Int)<10:=by omega
   obtain ⟨X,hX⟩:∃ X,Hid (rndC FIR 10=X):=⟨_,rfl⟩
   have hfin:Hid (outC X FIR 16=RES):=jd (by rw [← hRES.out,blockC,hFIR.out,hX.out])
   rw [hX.out] at H hRl'
   clear hRES hFIR hX
   replace H:=H.alloc (.cells #[.int .u8 0,.int .u8 0,.int .u8 0,.int .u8 0,.int .u8 0,.int .u8 0,.int .u8 0,.int .u8 0,.int .u8 0,.int .u8 0,.int .u8 0,.int .u8 0,.int .u8 0,.int .u8 0,.int .u8 0,.int .u8 0,.int .u8 0,.int .u8 0,.int .u8 0,.int .u8 0,.int .u8 0,.int .u8 0,.int .u8 0,.int .u8 0,.int .u8 0,.int .u8 0,.int .u8 0,.int .u8 0,.int .u8 0,.int .u8 0,.int .u8 0,.int .u8 0,.int .u8 0,.int .u8 0,.int .u8 0,.int .u8 0,.int .u8 0,.int .u8 0,.int .u8 0,.int .u8 0,.int .u8 0,.int .u8 0,.int .u8 0,.int .u8 0,.int .u8 0,.int .u8 0,.int .u8 0,.int .u8 0,.int .u8 0,.int .u8 0,.int .u8 0,.int .u8 0,.int .u8 0,.int .u8 0,.int .u8 0,.int .u8 0,.int .u8 0,.int .u8 0,.int .u8 0,.int .u8 0,.int .u8 0,.int .u8 0,.int .u8 0,.int .u8 0] 154)
   go_upto_region 17 with (fail)
   generalize wr.alloc _=w5 at *
   generalize wr.heap.size=go at *
   replace H:Own w w5 (blk go (.cells (bts (outC X FIR 0)).toArray 154)::blk gs (.cells (wds (X)).toArray 235)::blk gf (.cells (wds FIR).toArray 235)::blk gr (.cells (bts z64).toArray 154)::[]):=H
   go_upto_block 6 with (refine wpList_load16w rfl _ rfl rfl hRl' H.swap ?_)
   replace hRl':=jd hRl'
   replace hFl:=jd hFl
   go_wp2_with fail
   go_loopw [12,13,53] (fun _ _ v53 wx=>∃ i:Nat,v53=.int .i64 i∧i≤16∧Own w wx (blk go (.cells (bts (outC X FIR i)).toArray 154)::blk gs (.cells (wds (X)).toArray 235)::blk gf (.cells (wds FIR).toArray 235)::blk gr (.cells (bts z64).toArray 154)::[])) (fun _ _ v53 _=>16-(intOf v53).toNat)
   case atStart=>exact ⟨0,by go_num,by omega,H⟩
   case round=>
    clear H
    obtain ⟨i,rfl,hi,H⟩:=hrel
    have hol:=jd (outC_length X FIR i)
    by_cases hi16:i<16
    ·have hiI:(i:Int)<16:=by omega
     obtain ⟨O,hO⟩:∃ O,Hid (outC X FIR i=O):=⟨_,rfl⟩
     obtain ⟨x,hx⟩:∃ x,Hid (X.getD i 0=x):=⟨_,rfl⟩
     obtain ⟨f,hf⟩:∃ x,Hid (FIR.getD i 0=x):=⟨_,rfl⟩
     obtain ⟨z,hz⟩:∃ z0,IntKind.u32.wrap (x+f)=z0:=⟨_,rfl⟩
     obtain ⟨y0,hy0⟩:∃ y,IntKind.u8.wrap z=y:=⟨_,rfl⟩
     obtain ⟨y1,hy1⟩:∃ y,IntKind.u8.wrap (z/256)=y:=⟨_,rfl⟩
     obtain ⟨y2,hy2⟩:∃ y,IntKind.u8.wrap (z/65536)=y:=⟨_,rfl⟩
     obtain ⟨y3,hy3⟩:∃ y,IntKind.u8.wrap (z/16777216)=y:=⟨_,rfl⟩
     obtain ⟨j,hj⟩:∃ j,Hid (4*i=j):=⟨_,rfl⟩
     have hnx:Hid (outC X FIR (i+1)=(((O.set j y0).set (j+1) y1).set (j+2) y2).set (j+3) y3):=jd (by rw [outC,hO.out,hx.out,hf.out,hz,hj.out,put4,hy0,hy1,hy2,hy3])
     rw [hO.out] at H hol
     have j64:j+3<64:=by have:=hj.out;omega
     have e0:IntKind.i64.wrap (4*(i:Int))=(j:Int):=by rw [IntWalk.i64_in _ ⟨by omega,by omega⟩];have:=hj.out;omega
     have e1:IntKind.i64.wrap ((j:Int)+1)=((j+1:Nat):Int):=by rw [IntWalk.i64_in _ ⟨by omega,by omega⟩];omega
     have e2:IntKind.i64.wrap ((j:Int)+2)=((j+2:Nat):Int):=by rw [IntWalk.i64_in _ ⟨by omega,by omega⟩];omega
     have e3:IntKind.i64.wrap ((j:Int)+3)=((j+3:Nat):Int):=by rw [IntWalk.i64_in _ ⟨by omega,by omega⟩];omega
     obtain ⟨j1,h1⟩:∃ m,Hid (j+1=m):=⟨_,rfl⟩
     obtain ⟨j2,h2⟩:∃ m,Hid (j+2=m):=⟨_,rfl⟩
     obtain ⟨j3,h3⟩:∃ m,Hid (j+3=m):=⟨_,rfl⟩
     rw [h1.out] at e1
     rw [h2.out] at e2
     rw [h3.out] at e3
     rw [h1.out,h2.out,h3.out] at hnx
     have k0:j<64:=by omega
     have k1:j1<64:=by have:=h1.out;omega
     have k2:j2<64:=by have:=h2.out;omega
     have k3:j3<64:=by have:=h3.out;omega
     have k0I:(j:Int)<64:=by omega
     have k1I:(j1:Int)<64:=by omega
     have k2I:(j2:Int)<64:=by omega
     have k3I:(j3:Int)<64:=by omega
     have hix:∀ w,(Instr.index 235 (.agg (wds X).toArray) (.int .i64 i)).run Tryz.prog w=.ok (.int .u32 x) w:=fun w=>run_index_wds _ _ 16 _ i _ w Tryz.underlying235 (fun w=>(u32_one w).1) (fun w=>(u32_one w).2) hi16 (by rw [← hx.out];exact Vu (by rw [hRl'.out];omega))
     have c0:wr.cell? ⟨gf,i,none⟩=some (.int .u32 f):=by rw [(H.front 2 rfl).cells,Vu (by rw [hFl.out];omega),hf.out]
     clear hO hx hf hj h1 h2 h3
     go_wp2_with (refine Qh rfl _ _ rfl rfl H rfl (by kernel_rfl) (by simp only [List.size_toArray,Qx,List.length_set,hol.out];omega) ?_;clear H;intro w7 H;rw [bts_set] at H)
     go_roundw
     case rel=>exact ⟨i+1,by go_num,by omega,by rw [hnx.out];exact H⟩
     case measure=>simp [intOf];omega
    ·obtain rfl:i=16:=by omega
     have hnI16:¬ ((16:Nat):Int)<16:=by omega
     rw [hfin.out] at H
     clear hi hi16 hfin hol
     go_upto_region 23 with (fail)
     refine wp_region_list ?_
     refine wpList_load64b rfl _ rfl rfl hRl H ?_
     simp only [Act.put,putC]
     refine wpList_store64b rfl _ _ rfl rfl z64_length hRl (H.front 3 rfl) rfl ?_
     clear H
     intro w9 H
     refine wpList_nil ?_
     simp only [Act.put]
     refine (show ∀ (a:Act) (w:World),Code.wp Tryz.prog Code.ret _ a w→_ by assumption) _ _ ?_
     refine wp_ret ?_
     have hl9:(loadVar 154 ⟨gr,0,none⟩).run Tryz.prog w9=.ok (.agg (bts RES).toArray) w9:=run_loadVar_row w9 gr _ _ _ _ _ H.block.1 Tryz.underlying154 rfl (b64Info RES hRl)
     refine bodyPost_ret (v:=.agg (bts RES).toArray) (res_cell1 (p:=6) (ty:=154) rfl _ _ gr _ rfl hl9) rfl ?_
     exact ⟨rfl,H.bare⟩
section
variable {w0 w:World} {ps:List Piece} {g cap:Nat} {L:List Int} {tl:List Value} {e:TypeId}
theorem fz_cell(H:Own w0 w (blk g (.cells (bts L++tl).toArray e (cap,cap+1))::ps)){i:Nat}(hi:i<L.length):w.cell? ⟨g,i,none⟩=some (.int .u8 (L.getD i 0)):=by
 rw [H.cell,List.getElem?_toArray,List.getElem?_append_left (by rw [Qx];exact hi)]
 have:=bts_get hi
 rw [List.getElem?_toArray] at this
 exact this
theorem fz_frozen(H:Own w0 w (blk g (.cells (bts L++tl).toArray e (cap,cap+1))::ps)){i:Nat}(hi:i<cap):w.frozen? ⟨g,i,none⟩=false:=by
 simp only [World.frozen?,H.block.1]
 simp;omega
theorem fz_set(H:Own w0 w (blk g (.cells (bts L++tl).toArray e (cap,cap+1))::ps)){i:Nat}(hi:i<L.length)(y:Int):Own w0 (w.setCell ⟨g,i,none⟩ (.int .u8 y)) (blk g (.cells (bts (L.set i y)++tl).toArray e (cap,cap+1))::ps):=by
 have h:=H.set i (.int .u8 y)
 have e1:(bts L++tl).toArray.setIfInBounds i (.int .u8 y)=(bts (L.set i y)++tl).toArray:=by
  rw [List.setIfInBounds_toArray,List.set_append,if_pos (by rw [Qx];exact hi),bts,bts,List.map_set]
 rw [e1] at h
 exact h
theorem fz_rd(H:Own w0 w (blk g (.cells (bts L++tl).toArray e (cap,cap+1))::ps)){c:Nat}(hc:L.length≤c)(hm:c≤maxLen):Rd w 1 (.slice (some ⟨g,0,none⟩) L.length c) L.length (bts L):=by
 refine ⟨by rw [Qx];omega,some ⟨g,0,none⟩,c,rfl,hc,hm,by simp,?_⟩
 intro ad had j u hu
 obtain rfl:=Option.some.inj had
 have hj:j<L.length:=by rw [← Qx];exact (gJ hu).1
 rw [Addr.add_lit,Nat.zero_add,fz_cell H hj]
 have:=bts_get hj
 rw [List.getElem?_toArray,hu] at this
 exact this.symm
end
theorem wpList_bytesOf{P:Program}{ops:Array Oper}{rest:List Oper}{o:Oper}{a:Act}{w0 w:World}{ps:List Piece}{Q:Exit→Act→World→Prop}(hgd:o.guard=none){src dst el:TypeId}(x:Operand)(ho:o.op=.convert src dst x)(hs:P.underlying src=some .string)(hd:P.underlying dst=some (.slice el))(he:P.underlying el=some (.int .u8))
 {s:ByteArray} (hx:a.eval x=.string s) (hsz:s.size≤1000000000) (H:Own w0 w ps)
 (h:∀ g cap tl w',cap≤maxLen→tl.length+s.size=cap→Own w0 w' (blk g (.cells (bts (bn s)++tl).toArray el (cap,cap+1))::ps)→wpList P ops Q rest (a.put o.dst (.slice (some ⟨g,0,none⟩) s.size cap)) w'):wpList P ops Q (o::rest) a w:=by
 refine wpList_plain hgd fun K hK=>?_
 have hr:=run_bytes_of_string (P:=P) w src dst el s hs hd he
 unfold Oper.wp execOp
 simp only [ho,hx,Sem.run_bind,hr,Result.andThen_ok,Sem.run_pure]
 have hge:=grownCap_ge w s.size 0 el
 have hle:=grownCap_le_maxLen w s.size 0 el (by simp [maxLen];omega)
 have hrow:bytesRow s (grownCap w s.size 0 el)=(bts (bn s)++List.replicate (grownCap w s.size 0 el-s.size) (Value.int .u8 0)).toArray:=by
  apply Array.toList_inj.1
  simp [bytesRow,bts,bn]
 have hsz2:(bytesRow s (grownCap w s.size 0 el)).size=grownCap w s.size 0 el:=by
  rw [hrow,List.size_toArray,lJ,Qx,Qu,List.length_replicate];omega
 refine hK _ _ (h w.heap.size (grownCap w s.size 0 el) (List.replicate (grownCap w s.size 0 el-s.size) (Value.int .u8 0)) _ hle (by rw [List.length_replicate];omega) ?_)
 rw [hsz2,hrow]
 exact H.drew.alloc _
def ksF(key nonce:ByteArray)(m:Nat):Int:=(blockC key nonce (1+((m/64:Nat):Int))).getD (m%64) 0
def xorR(key nonce:ByteArray)(l:List Int):Nat→List Int
 | 0=>l
 | m+1=>(xorR key nonce l m).set m (bits .xor .u8 ((xorR key nonce l m).getD m 0) (ksF key nonce m))
theorem xorR_length(key nonce:ByteArray)(l:List Int):∀ m,(xorR key nonce l m).length=l.length
 | 0=>rfl
 | m+1=>by rw [xorR,List.length_set,xorR_length key nonce l m]
def xorT(key nonce s:ByteArray):ByteArray:=strOfNums (xorR key nonce (bn s) 192)
theorem xorT_size(key nonce s:ByteArray):(xorT key nonce s).size=s.size:=by rw [xorT,strOfNums_size,xorR_length,Qu]
set_option maxHeartbeats 1600000 in
theorem ccright_any(key nonce:ByteArray)(hk:key.size=32)(hn:nonce.size=12)(w:World) :
 Calls Tryz.prog 87 #[.string key,.string nonce,.int .i64 1] w (fun r w'=>r=.returned (.bool true)∧w'=w):=by
 go_enter Tryz.func87,Tryz.ntmps87
 go_wp2
 go_ret
 exact ⟨rfl,rfl⟩
set_option maxRecDepth 100000 in
set_option maxHeartbeats 12800000 in
theorem ccxor_any(key nonce s:ByteArray)(hk:key.size=32)(hn:nonce.size=12)(hs:s.size=192)(w:World) :
 Calls Tryz.prog 45 #[.string key,.string nonce,.int .i64 1,.string s] w (fun r w'=>r=.returned (.tuple #[.string (xorT key nonce s),.int .i64 0])∧Own w w' []):=by
 obtain ⟨RES,hRES⟩:∃ x,Hid (xorT key nonce s=x):=⟨_,rfl⟩
 rw [hRES.out]
 have HR:=jd (ccright_any key nonce hk hn)
 have HB:=jd fun (q:Nat) w=>ccblock_any key nonce hk hn (1+(q:Int)) w
 have H:=Own.start w
 have hn192:(s.size:Int)=192:=by omega
 go_enter Tryz.func45,Tryz.ntmps45
 go_wp2_with fail
 refine (HR.out _).mono ?_
 rintro e w1 ⟨rfl,hw1⟩
 obtain rfl:w=w1:=hw1.symm
 go_upto_region 5 with (fail)
 refine wp_region_list ?_
 refine wpList_value rfl (u:=.string s) (by go_simp) ?_
 simp only [Act.put,putC]
 refine wpList_bytesOf rfl _ rfl Tryz.underlying9 Tryz.underlying58 Tryz.underlying5 rfl (by omega) H ?_
 clear H
 intro g cap tl w2 hcm htl H
 simp only [Act.put,putC]
 rw [hs] at htl ⊢
 refine wpList_value rfl (u:=.slice (some ⟨g,0,none⟩) 192 cap) (by go_simp) ?_
 simp only [Act.put,putC]
 refine wpList_nil ?_
 obtain ⟨L,hL⟩:∃ L,Hid (bn s=L):=⟨_,rfl⟩
 have hLl:Hid (L.length=192):=jd (by rw [← hL.out,Qu,hs])
 rw [hL.out] at H
 have hfin:Hid (strOfNums (xorR key nonce L 192)=RES):=jd (by rw [← hRES.out,xorT,hL.out])
 have hc192:192≤cap:=by omega
 have hcm2:cap≤9223372036854775807:=by simpa [maxLen] using hcm
 replace htl:=jd htl
 replace hk:=jd hk
 replace hn:=jd hn
 replace H:Own w w2 (blk g (.cells (bts (xorR key nonce L (64*0))++tl).toArray 5 (cap,cap+1))::[]):=H
 clear hRES hL HR
 go_wp2_with fail
 go_loopw [11,12,13,14,57,58,59] (fun v11 _ _ _ _ _ _ wx=>∃ q:Nat,v11=.int .i64 ((64*q:Nat):Int)∧q≤3∧Own w wx (blk g (.cells (bts (xorR key nonce L (64*q))++tl).toArray 5 (cap,cap+1))::[])) (fun v11 _ _ _ _ _ _ _=>192-(intOf v11).toNat)
 case atStart=>exact ⟨0,by go_num,by omega,H⟩
 case round=>
  clear H
  obtain ⟨q,rfl,hq,H⟩:=hrel
  obtain ⟨m,hm⟩:∃ m,Hid (64*q=m):=⟨_,rfl⟩
  rw [hm.out] at H ⊢
  by_cases hq3:q<3
  ·have hmI:(m:Int)<192:=by have:=hm.out;omega
   have hm128:m≤128:=by have:=hm.out;omega
   have t1:(m:Int).tdiv 64=(q:Int):=by have:=hm.out;rw [Int.tdiv_eq_ediv_of_nonneg (by omega)];omega
   have e1:IntKind.i64.wrap (1+(q:Int))=1+(q:Int):=IntWalk.i64_in _ ⟨by omega,by omega⟩
   have e2:IntKind.i64.wrap ((m:Int)+64)=((m+64:Nat):Int):=by rw [IntWalk.i64_in _ ⟨by omega,by omega⟩];omega
   obtain ⟨m2,hm2⟩:∃ m2,Hid (m+64=m2):=⟨_,rfl⟩
   rw [hm2.out] at e2
   have hmin:¬ (192:Int)<(m2:Int):=by have:=hm2.out;omega
   obtain ⟨KB,hKB⟩:∃ x,Hid (blockC key nonce (1+(q:Int))=x):=⟨_,rfl⟩
   have hKl:KB.length=64:=by rw [← hKB.out];exact blockC_length _ _ _
   have HB1:=jd (HB.out q)
   rw [hKB.out] at HB1
   go_wp2_with fail
   refine (HB1.out _).mono ?_
   rintro e w3 ⟨rfl,H3⟩
   replace H3:=H.join H3
   clear H HB1
   go_upto_region 10 with (refine wpList_store64b rfl _ _ rfl rfl z64_length hKl (H3.alloc (.cells #[.int .u8 0,.int .u8 0,.int .u8 0,.int .u8 0,.int .u8 0,.int .u8 0,.int .u8 0,.int .u8 0,.int .u8 0,.int .u8 0,.int .u8 0,.int .u8 0,.int .u8 0,.int .u8 0,.int .u8 0,.int .u8 0,.int .u8 0,.int .u8 0,.int .u8 0,.int .u8 0,.int .u8 0,.int .u8 0,.int .u8 0,.int .u8 0,.int .u8 0,.int .u8 0,.int .u8 0,.int .u8 0,.int .u8 0,.int .u8 0,.int .u8 0,.int .u8 0,.int .u8 0,.int .u8 0,.int .u8 0,.int .u8 0,.int .u8 0,.int .u8 0,.int .u8 0,.int .u8 0,.int .u8 0,.int .u8 0,.int .u8 0,.int .u8 0,.int .u8 0,.int .u8 0,.int .u8 0,.int .u8 0,.int .u8 0,.int .u8 0,.int .u8 0,.int .u8 0,.int .u8 0,.int .u8 0,.int .u8 0,.int .u8 0,.int .u8 0,.int .u8 0,.int .u8 0,.int .u8 0,.int .u8 0,.int .u8 0,.int .u8 0,.int .u8 0] 154)) rfl ?_;clear H3;intro w4 H3)
   simp only [Act.put]
   generalize w3.heap.size=gb at *
   replace H3:Own w w4 (blk gb (.cells (bts KB).toArray 154)::blk g (.cells (bts (xorR key nonce L m)++tl).toArray 5 (cap,cap+1))::[]):=H3
   have hsl:∀ w,(Instr.sliceAt 58 (.slice (some ⟨g,0,none⟩) 192 cap) (some (.int .i64 (m:Int))) (some (.int .i64 (m2:Int))) none).run Tryz.prog w=.ok (.slice (some ⟨g,m,none⟩) 64 (cap-m)) w:=fun w=>by
    have h:=slc_lh (P:=Tryz.prog) (ty:=58) (size:=1) (by kernel_rfl) (fun _=>by kernel_rfl) (ad:=some ⟨g,0,none⟩) (n:=192) (c:=cap) (k:=m) (m:=m2) (by have:=hm2.out;omega) (by have:=hm2.out;omega) rfl w
    rw [h]
    unfold sliced
    rw [if_neg (by omega),show m2-m=64 by have:=hm2.out;omega]
    simp [Addr.add_lit]
   go_upto_block 3 with (fail)
   replace H3:Own w w4 (blk gb (.cells (bts KB).toArray 154)::blk g (.cells (bts (xorR key nonce L (m+0))++tl).toArray 5 (cap,cap+1))::[]):=H3
   go_wp2_with fail
   go_loopw [14,59] (fun _ v59 wx=>∃ i:Nat,v59=.int .i64 i∧i≤64∧Own w wx (blk gb (.cells (bts KB).toArray 154)::blk g (.cells (bts (xorR key nonce L (m+i))++tl).toArray 5 (cap,cap+1))::[])) (fun _ v59 _=>64-(intOf v59).toNat)
   case atStart=>exact ⟨0,by go_num,by omega,H3⟩
   case round=>
    clear H3
    obtain ⟨i,rfl,hi,H⟩:=hrel
    by_cases hi64:i<64
    ·have hiI:(i:Int)<64:=by omega
     obtain ⟨X,hX⟩:∃ X,Hid (xorR key nonce L (m+i)=X):=⟨_,rfl⟩
     have hXl:Hid (X.length=192):=jd (by rw [← hX.out,xorR_length,hLl.out])
     obtain ⟨x,hx⟩:∃ x,Hid (X.getD (m+i) 0=x):=⟨_,rfl⟩
     obtain ⟨k,hk9⟩:∃ k,Hid (KB.getD i 0=k):=⟨_,rfl⟩
     have hks:Hid (ksF key nonce (m+i)=k):=jd (by
      have:=hm.out
      rw [ksF,show (m+i)/64=q by omega,show (m+i)%64=i by omega,hKB.out,hk9.out])
     have hnx:Hid (xorR key nonce L (m+(i+1))=X.set (m+i) (bits .xor .u8 x k)):=jd (by rw [← Nat.add_assoc,xorR,hX.out,hx.out,hks.out])
     rw [hX.out] at H
     have HS:Hid (∀ w1,Own w w1 (blk gb (.cells (bts KB).toArray 154)::blk g (.cells (bts (X)++tl).toArray 5 (cap,cap+1))::[])→w1.cell? ⟨gb,i,none⟩=some (.int .u8 k)∧w1.cell? ⟨g,m+i,none⟩=some (.int .u8 x)):=jd fun w1 h=>⟨by rw [h.cells,bts_get (by omega),hk9.out],by rw [fz_cell (h.front 1 rfl) (by rw [hXl.out];omega),hx.out]⟩
     go_upto_region 14 with (fail)
     refine Qa (fun w1=>Own w w1 (blk gb (.cells (bts KB).toArray 154)::blk g (.cells (bts (X)++tl).toArray 5 (cap,cap+1))::[])) 9 (by kernel_rfl) (by kernel_rfl) H.drew ?_
     simp only [List.take_succ_cons,List.take_zero,List.drop_succ_cons,List.drop_zero]
     repeat
      first
      | (refine calm_value (v:=?_) (by decide) rfl (fun σ w1 hS=>?_) ?_
         rotate_left
         ·obtain ⟨c0,c1⟩:=HS.out _ hS
          first | (go_simp;rfl) | rfl
         simp only [Act.put,putC])
      | (refine calm_skip (by decide) rfl ?_
         simp only [Act.put,putC])
     refine calm_nil ?_
     intro wd HD
     clear H
     obtain ⟨-,c1⟩:=HS.out _ HD
     have f1:=fz_frozen (HD.front 1 rfl) (i:=m+i) (by omega)
     have H5:=fz_set (HD.front 1 rfl) (i:=m+i) (by rw [hXl.out];omega) (bits .xor .u8 x k)
     rw [← hnx.out] at H5
     go_wp2
     go_roundw
     case rel=>exact ⟨i+1,by go_num,by omega,H5.front 1 rfl⟩
     case measure=>simp [intOf];omega
    ·obtain rfl:i=64:=by omega
     have hnI:¬ ((64:Nat):Int)<64:=by omega
     have H6:=H.drop
     go_wp2_with fail
     go_roundw
     case rel=>exact ⟨q+1,by have:=hm.out;have:=hm2.out;first | (go_num;done) | (go_num;omega),by omega,by rw [show 64*(q+1)=m+64 by have:=hm.out;omega];exact H6⟩
     case measure=>have:=hm2.out;simp [intOf];omega
  ·obtain rfl:q=3:=by omega
   obtain rfl:m=192:=by have:=hm.out;omega
   have hnI:¬ ((192:Nat):Int)<192:=by omega
   have hrd:=fz_rd H (c:=cap) (by rw [xorR_length,hLl.out];exact hc192) hcm
   have hs2:=Js (P:=Tryz.prog) 58 9 Tryz.underlying58 Tryz.underlying5 Tryz.underlying9 hrd
   rw [hfin.out,xorR_length,hLl.out] at hs2
   clear hrd
   go_wp2
   go_ret2
   exact ⟨rfl,H.bare⟩
end Go.Proofs.YthekdeikodppkaaGreatDoor
