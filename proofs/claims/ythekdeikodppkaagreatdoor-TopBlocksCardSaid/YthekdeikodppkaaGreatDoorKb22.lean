/-
  Texts of this claim, one behind the other: sledgelaw19.Files; solid.Split; path.Check; filemap.Check; filemap.Put; solid.Squeeze; archive.Pack.
-/
import Derived.Test.YthekdeikodppkaaGreatDoorKb21
import Derived.Shelf.Strings.Search3
import Derived.Lib.IndexLaws
import Derived.TacticsInMore
import Derived.LoopNIn
import Derived.LoopIn
set_option linter.unusedVariables false
namespace Go.Proofs.YthekdeikodppkaaGreatDoor
open Go.RowKit
def Ve(l:List FileP):Nat:=(l.map fun x=>x.path.size+x.data.size).sum
theorem sumF_take{l:List FileP}{k:Nat}{x:FileP}(hx:l[k]?=some x):Ve (l.take (k+1))=Ve (l.take k)+(x.path.size+x.data.size):=by
 rw [Ve,Ve,List.take_add_one,hx,List.map_append,List.sum_append]
 rfl
set_option maxRecDepth 100000 in
set_option maxHeartbeats 6400000 in
theorem files_any{w:World}{a:Option Addr}{n c:Nat}{l:List FileP}(hr:Rd w 2 (.slice a n c) n (rows fe l))(hs:∀ x∈l,x.path.size≤9223372036854775807∧x.data.size≤9223372036854775807) :
 Calls Tryz.prog 4 #[.slice a n c] w (Ret fun r w'=>∃ k,k≤n∧k≤70∧r=.slice a k c∧Own w w' []∧Ve (l.take k)≤2500):=by
 have hF:=jd (few_any hr hs)
 have hl:l.length=n:=by have:=hr.len;rw [Qp fe (k:=2) SF.e_length] at this;omega
 have hX:Hid (∀ w' qs,Own w w' qs→∀ k x,l[k]?=some x→∃ b o,a=some ⟨b,o,none⟩∧w'.cell? ⟨b,o+k*2,none⟩=some (.string x.path)∧w'.cell? ⟨b,o+k*2+1,none⟩=some (.string x.data)):=jd fun w' qs h k x hx=>by
  have hkn:=(gJ hx).1
  obtain ⟨b,o,c',e,-⟩:=Rd.some hr (by rw [Qp fe (k:=2) SF.e_length];omega)
  cases e
  have h0:=Rd.cell (hr.old h.bare) (j:=k*2) (u:=.string x.path) (by have:=Jt fe SF.e_length hx 0 (by omega);rw [Nat.add_zero] at this;rw [this];rfl)
  have h1:=Rd.cell (hr.old h.bare) (j:=k*2+1) (u:=.string x.data) (by rw [Jt fe SF.e_length hx 1 (by omega)];rfl)
  exact ⟨b,o,rfl,h0,h1⟩
 obtain ⟨a',c',e,hc1,hc2⟩:=hr.shape
 injection e with e1 e2 e3
 subst e1
 subst e3
 clear hr hs
 go_enter Tryz.func4,Tryz.ntmps4
 go_wp2_with fail
 refine hF.out.mono ?_
 rintro e w1 ⟨_,rfl,m,hmn,hm70,rfl,H,hsmf⟩
 replace hsmf:=jd hsmf
 clear hF
 go_upto_block 0 with (fail)
 go_wp2_with fail
 go_loopw [3,4] (fun v3 v4 wx=>∃ (k:Nat),v3=.int .i64 (Ve (l.take k):Nat)∧v4=.int .i64 k∧k≤m∧Ve (l.take k)≤2500∧Own w wx []) (fun _ v4 _=>m-(intOf v4).toNat)
 case atStart=>exact ⟨0,rfl,rfl,by omega,by simp [Ve],H⟩
 case round=>
  clear H
  obtain ⟨k,rfl,rfl,hk,ht,H⟩:=hrel
  obtain ⟨t,htt⟩:∃ t,Hid (Ve (l.take k)=t):=⟨_,rfl⟩
  rw [htt.out] at ht ⊢
  by_cases hkn:k<m
  ·have hI:(k:Int)<(m:Int):=by omega
   have hk0:(0:Int)≤(k:Int):=by omega
   obtain ⟨x,hx⟩:∃ x,l[k]?=some x:=Ql (by omega)
   obtain ⟨b,o,rfl,-,-⟩:=hX.out _ _ H k x hx
   have hxs:smf x:=hsmf.out x (List.mem_iff_getElem?.2 ⟨k,by rw [List.getElem?_take_of_lt hkn];exact hx⟩)
   obtain ⟨hxs1,hxs2⟩:=hxs
   have HC:=jd fun w' (h:Own w w' [])=>(hX.out w' _ h k x hx)
   have hS2:=sumF_take hx
   rw [htt.out] at hS2
   obtain ⟨p,d⟩:=x
   dsimp only at HC hxs1 hxs2 hS2
   obtain ⟨P,hP⟩:∃ Z,p.size=Z:=⟨_,rfl⟩
   obtain ⟨D,hD⟩:∃ Z,d.size=Z:=⟨_,rfl⟩
   rw [hP] at hxs1
   rw [hD] at hxs2
   rw [hP,hD] at hS2
   replace hS2:=jd hS2
   go_upto_region 6 with (fail)
   refine Qa (fun w1=>Own w w1 []) 15 (by kernel_rfl) (by kernel_rfl) H.drew ?_
   simp only [List.take_succ_cons,List.take_zero,List.drop_succ_cons,List.drop_zero]
   repeat
    first
    | (refine calm_value (v:=?_) (by decide) rfl (fun σ w1 hS=>?_) ?_
       rotate_left
       ·obtain ⟨b',o',e,c0,c1⟩:=HC.out _ hS;cases e
        first | (go_simp;rfl) | rfl
       simp only [Act.put,putC])
    | (refine calm_skip (by decide) rfl ?_
       simp only [Act.put,putC])
   refine calm_nil ?_
   intro wd HD
   clear hX H HC hx
   have hkc:(k:Int)≤(c:Int):=by omega
   by_cases h3:2500<t+P+D
   ·have h3I:(2500:Int)<(t:Int)+(P:Int)+(D:Int):=by omega
    go_wp2_with fail
    all_goals go_ret
    exact ⟨_,rfl,k,by omega,by omega,rfl,HD,by rw [htt.out];exact ht⟩
   ·have h3I:¬ (2500:Int)<(t:Int)+(P:Int)+(D:Int):=by omega
    go_wp2_with fail
    go_roundw
    case rel=>exact ⟨k+1,by rw [hS2.out];congr 1;first | (rw [IntWalk.i64_in ((t:Int)+(P:Int)) ⟨by omega,by omega⟩,IntWalk.i64_in _ ⟨by omega,by omega⟩];omega) | omega,by go_num,by omega,by rw [hS2.out];omega,HD⟩
    case measure=>simp [intOf];omega
  ·obtain rfl:k=m:=by omega
   have hI:¬ (k:Int)<(k:Int):=by omega
   clear hX
   go_wp2
   go_ret
   exact ⟨_,rfl,k,by omega,hm70,rfl,H,by rw [htt.out];exact ht⟩
def zrs(n:Nat):ByteArray:=⟨(List.replicate n (0:UInt8)).toArray⟩
theorem zrs_size(n:Nat):(zrs n).size=n:=by simp [zrs,ByteArray.size]
def splF(s:ByteArray):List ByteArray:=
 if _h:s.size=0 then [] else (s.extract 0 (min 192 s.size)++zrs (192-min 192 s.size))::splF (s.extract (min 192 s.size) s.size)
termination_by s.size
decreasing_by simp [ByteArray.size_extract];omega
theorem rep_any(n:Nat)(hn:n≤100000)(w:World) :
 Calls Tryz.prog 43 #[.string ⟨#[0]⟩,.int .i64 n] w (fun e w'=>e=.returned (.string (zrs n))∧Own w w' []):=by
 have:=Any.strings_Repeat (P:=Tryz.prog) Tryz.layRepeat Tryz.extraRepeat ⟨#[0]⟩ n w (by omega) (by simp [ByteArray.size];omega)
 refine this.mono ?_
 rintro en w' ⟨rfl,hb⟩
 refine ⟨?_,(Own.start w).mono hb⟩
 rw [show (⟨#[0]⟩:ByteArray).data.toList=[(0:UInt8)] from rfl,repeatL_zero]
 rfl
theorem toList_empty(R:ByteArray):R.toList.isEmpty=decide (R.size=0):=by
 rw [str_data R]
 obtain ⟨⟨l⟩⟩:=R
 cases l with
 | nil=>rfl
 | cons x r=>simp [ByteArray.size]
set_option maxRecDepth 100000 in
set_option maxHeartbeats 6400000 in
theorem split_any{w:World}{s:ByteArray}(hs:s.size≤1000000) :
 Calls Tryz.prog 19 #[.string s] w (Ret fun r w'=>Own w w' (slc 9 1 r (splF s).length (txs (splF s))::[])):=by
 obtain ⟨F,hF⟩:∃ F,Hid (splF s=F):=⟨_,rfl⟩
 rw [hF.out]
 have H:=(Own.start w).nil 9 1
 go_enter Tryz.func19,Tryz.ntmps19
 go_upto_block 0 with (fail)
 go_wp2_with fail
 go_loopw [0,3,4] (fun v0 v3 _ wx=>∃ (R:ByteArray) (L:List ByteArray) (k:Nat),v0=.string R∧Hid (F=L++splF R)∧R.size+k≤1000000∧Hid (L.length=k)∧Own w wx (slc 9 1 v3 k (txs L)::[])) (fun v0 _ _ _=>match v0 with | .string s=>s.size | _=>0)
 case atStart=>exact ⟨s,[],0,rfl,hF.symm,by omega,rfl,H⟩
 case round=>
  clear H hF
  obtain ⟨R,L,k,rfl,hcat,hR,hL,H⟩:=hrel
  obtain ⟨la,lc,rfl,hl1,hl2⟩:=H.rd.shape
  obtain ⟨Z,hZ⟩:∃ Z,R.size=Z:=⟨_,rfl⟩
  rw [hZ] at hR
  by_cases hz:Z=0
  ·have hRe:R=ByteArray.empty:=ByteArray.ext (Array.eq_empty_of_size_eq_zero (by rw [← hz,← hZ];rfl))
   subst hRe
   have hfin:Hid (F=L):=jd (by rw [hcat.out,splF,dif_pos (by rfl),List.append_nil])
   have e0:ByteArray.empty.toList.isEmpty=true:=by rw [toList_empty];rfl
   clear hcat
   go_wp2
   go_ret
   refine ⟨_,rfl,?_⟩
   rw [hfin.out,hL.out]
   exact H
  ·have e0:R.toList.isEmpty=false:=by
    rw [toList_empty]
    simp [hZ,hz]
   obtain ⟨m,hm⟩:∃ m,Hid (min 192 Z=m):=⟨_,rfl⟩
   have hmb:m≤192∧m≤Z∧1≤m:=by have:=hm.out;omega
   have hmI:min (192:Int) (Z:Int)=(m:Int):=by have:=hm.out;omega
   obtain ⟨q,hq⟩:∃ q,Hid (192-m=q):=⟨_,rfl⟩
   have hqI:(192:Int)-(m:Int)=(q:Int):=by have:=hq.out;omega
   have hq9:q≤100000:=by have:=hq.out;omega
   obtain ⟨C,hC⟩:∃ C,Hid (R.extract 0 m++zrs q=C):=⟨_,rfl⟩
   have hcat2:Hid (F=(L++[C])++splF (R.extract m Z)):=jd (by
    rw [hcat.out,splF,dif_neg (by rw [hZ];exact hz),hZ,hm.out,hq.out,hC.out,List.append_assoc];rfl)
   have hsn:Hid (txs (L++[C])=txs L++[.string C]):=jd (by rw [Zi];rfl)
   have hZ2:(R.extract m Z).size=Z-m:=by rw [ByteArray.size_extract];omega
   clear hcat
   go_wp2_with fail
   refine (rep_any q hq9 _).mono ?_
   rintro e w2 ⟨rfl,H2⟩
   replace H:=H.join H2
   rw [List.nil_append] at H
   clear H2
   have hsz1:(R.extract 0 m).size=m:=by rw [ByteArray.size_extract];omega
   have hsz2:=zrs_size q
   have hCI:R.extract 0 m++zrs q=C:=hC.out
   go_wp2_with (at_builtin;refine Qf (news:=[.string C]) rfl _ _ rfl Tryz.underlying26 Kd rfl (by decide) rfl H rfl rfl rfl (by simp [Value.oneCell']) (by omega) (by omega) ?_;clear H;intro v' w' H)
   rw [← hsn.out] at H
   go_roundw
   case rel=>exact ⟨R.extract m Z,L++[C],k+1,rfl,hcat2,by omega,jd (by rw [lJ,hL.out];rfl),H⟩
   case measure=>show (R.extract m Z).size<R.size;omega
end Go.Proofs.YthekdeikodppkaaGreatDoor
namespace Go.Proofs
open Go.Shelf Go.RowKit
def Tryz.layContains_ren:Go.Shelf.Ren:=⟨fun | 144=>183 | 143=>258 | 219=>317 | 217=>352 | 225=>353 | 224=>354 | 267=>355 | 266=>376 | 314=>377 | n=>n,fun | 9=>9 | 4=>4 | 3=>3 | 5=>5 | 46=>81 | 146=>229 | 51=>228 | n=>n,fun | 1=>0 | n=>n⟩
theorem Tryz.layContains:Go.Proofs.Lays.n144 Tryz.prog Tryz.layContains_ren:={
 mixed:=by kernel_rfl
 f143:=Tryz.func258.trans (congrArg some (by kernel_rfl))
 f144:=Tryz.func183.trans (congrArg some (by kernel_rfl))
 f217:=Tryz.func352.trans (congrArg some (by kernel_rfl))
 f219:=Tryz.func317.trans (congrArg some (by kernel_rfl))
 f224:=Tryz.func354.trans (congrArg some (by kernel_rfl))
 f225:=Tryz.func353.trans (congrArg some (by kernel_rfl))
 f266:=Tryz.func376.trans (congrArg some (by kernel_rfl))
 f267:=Tryz.func355.trans (congrArg some (by kernel_rfl))
 f314:=Tryz.func377.trans (congrArg some (by kernel_rfl))
 t3:=Tryz.underlying3
 a3:=Tryz.isAgg3
 z3:=Tryz.sizeOf3
 v3:=Tryz.zeroValue3
 t4:=Tryz.underlying4
 a4:=Tryz.isAgg4
 z4:=Tryz.sizeOf4
 v4:=Tryz.zeroValue4
 t5:=Tryz.underlying5
 a5:=Tryz.isAgg5
 z5:=Tryz.sizeOf5
 v5:=Tryz.zeroValue5
 t9:=Tryz.underlying9
 a9:=Tryz.isAgg9
 z9:=Tryz.sizeOf9
 v9:=Tryz.zeroValue9
 t46:=Tryz.underlying81
 a46:=Tryz.isAgg81
 z46:=Tryz.sizeOf81
 v46:=Tryz.zeroValue81
 t51:=Tryz.underlying228
 a51:=Tryz.isAgg228
 z51:=Tryz.sizeOf228
 v51:=Tryz.zeroValue228
 t146:=Tryz.underlying229
 a146:=Tryz.isAgg229
 z146:=Tryz.sizeOf229
 v146:=Tryz.zeroValue229
 g1:=by kernel_rfl }
def Tryz.layIdx_ren:Go.Shelf.Ren:=⟨fun | 219=>317 | 217=>352 | 225=>353 | 224=>354 | 267=>355 | 266=>376 | 314=>377 | n=>n,fun | 9=>9 | 3=>3 | 4=>4 | 5=>5 | 46=>81 | 146=>229 | 51=>228 | n=>n,fun | 1=>0 | n=>n⟩
theorem Tryz.layIdx:Go.Proofs.Lays.n219 Tryz.prog Tryz.layIdx_ren:={
 mixed:=by kernel_rfl
 f217:=Tryz.func352.trans (congrArg some (by kernel_rfl))
 f219:=Tryz.func317.trans (congrArg some (by kernel_rfl))
 f224:=Tryz.func354.trans (congrArg some (by kernel_rfl))
 f225:=Tryz.func353.trans (congrArg some (by kernel_rfl))
 f266:=Tryz.func376.trans (congrArg some (by kernel_rfl))
 f267:=Tryz.func355.trans (congrArg some (by kernel_rfl))
 f314:=Tryz.func377.trans (congrArg some (by kernel_rfl))
 t3:=Tryz.underlying3
 a3:=Tryz.isAgg3
 z3:=Tryz.sizeOf3
 v3:=Tryz.zeroValue3
 t4:=Tryz.underlying4
 a4:=Tryz.isAgg4
 z4:=Tryz.sizeOf4
 v4:=Tryz.zeroValue4
 t5:=Tryz.underlying5
 a5:=Tryz.isAgg5
 z5:=Tryz.sizeOf5
 v5:=Tryz.zeroValue5
 t9:=Tryz.underlying9
 a9:=Tryz.isAgg9
 z9:=Tryz.sizeOf9
 v9:=Tryz.zeroValue9
 t46:=Tryz.underlying81
 a46:=Tryz.isAgg81
 z46:=Tryz.sizeOf81
 v46:=Tryz.zeroValue81
 t51:=Tryz.underlying228
 a51:=Tryz.isAgg228
 z51:=Tryz.sizeOf228
 v51:=Tryz.zeroValue228
 t146:=Tryz.underlying229
 a146:=Tryz.isAgg229
 z146:=Tryz.sizeOf229
 v146:=Tryz.zeroValue229
 g1:=by kernel_rfl }
end Go.Proofs
namespace Go.Proofs.YthekdeikodppkaaGreatDoor
open Go.RowKit
def cutI(s:ByteArray):Int:=Lib.indexByte s.data.toList 47
theorem cutI_cases(s:ByteArray):cutI s = -1∨∃ k:Nat,cutI s=k∧k<s.size:=by
 have h:=Lib.indexByte_ge s.data.toList 47
 by_cases h0:cutI s = -1
 ·exact .inl h0
 ·right
  have h1:0≤cutI s:=by unfold cutI at h0 ⊢;omega
  obtain ⟨k,hk⟩:=Int.eq_ofNat_of_zero_le h1
  refine ⟨k,hk,?_⟩
  have:=(Lib.indexByte_some (o:=k) hk).1
  have:=(gJ this).1
  simpa using this
def cutA(s:ByteArray):ByteArray:=if cutI s<0 then s else s.extract 0 (cutI s).toNat
def cutB(s:ByteArray):ByteArray:=if cutI s<0 then ⟨#[]⟩ else s.extract ((cutI s).toNat+1) s.size
def cutM(s:ByteArray):Bool:=decide (0≤cutI s)
def pbad(s:ByteArray):Bool:=s.toList.isEmpty||s.toList==[46]||s.toList==[46,46]
def okG:Nat→ByteArray→Bool
 | 0,s=>!pbad s
 | f+1,s=>if cutI s<0 then !pbad s else !pbad (cutA s)&&okG f (cutB s)
def pathF(p:ByteArray):Bool:=decide (0<p.size)&&decide (p.size≤4096)&&decide (Lib.indexByte p.data.toList 0<0)&&okG p.size p
set_option maxRecDepth 100000 in
set_option maxHeartbeats 3200000 in
theorem cut1_any(s:ByteArray)(hs:s.size≤1000000)(w:World) :
 Calls Tryz.prog 260 #[.string s,.string ⟨#[47]⟩] w (Ret fun r w'=>r=.tuple #[.string (cutA s),.string (cutB s),.bool (cutM s)]∧Own w w' []):=by
 have H:=Own.start w
 have HC:=jd (Any.stringslite_Index_one (P:=Tryz.prog) Tryz.layIdx s 47 w)
 have hX:Calls Tryz.prog 318 #[.string s,.string ⟨#[47]⟩] w (Ret fun r w'=>r=.tuple #[.string (cutA s),.string (cutB s),.bool (cutM s)]∧Own w w' []):=by
  obtain ⟨Z,hZ⟩:∃ Z,s.size=Z:=⟨_,rfl⟩
  obtain ⟨A,hA⟩:∃ A,Hid (cutA s=A):=⟨_,rfl⟩
  obtain ⟨B,hB⟩:∃ A,Hid (cutB s=A):=⟨_,rfl⟩
  obtain ⟨M,hM⟩:∃ A,Hid (cutM s=A):=⟨_,rfl⟩
  rw [hA.out,hB.out,hM.out]
  rw [show Lib.indexByte s.data.toList 47=cutI s from rfl] at HC
  rcases cutI_cases s with h | ⟨k,h,hk⟩
  ·have eA:A=s:=by rw [← hA.out,cutA,if_pos (by omega)]
   have eB:B=⟨#[]⟩:=by rw [← hB.out,cutB,if_pos (by omega)]
   have eM:M=false:=by rw [← hM.out,cutM];simp;omega
   subst eA;subst eB;subst eM
   rw [h] at HC
   clear h hA hB hM
   go_enter Tryz.func318,Tryz.ntmps318
   go_wp2_with fail
   refine HC.out.mono ?_
   rintro e w2 ⟨rfl,hw2⟩
   obtain rfl:w=w2:=hw2.symm
   go_wp2
   go_ret3
   exact ⟨_,rfl,rfl,H⟩
  ·have eA:s.extract 0 k=A:=by rw [← hA.out,cutA,if_neg (by omega),h];rfl
   obtain ⟨q,hq⟩:∃ q,Hid (k+1=q):=⟨_,rfl⟩
   have eB:s.extract q Z=B:=by rw [← hB.out,cutB,if_neg (by omega),h,hZ,← hq.out];rfl
   have eM:M=true:=by rw [← hM.out,cutM];simp;omega
   subst eM
   rw [h] at HC
   replace h:=jd h
   rw [hZ] at hk hs
   have e1:IntKind.i64.wrap ((k:Int)+1)=(q:Int):=by have:=hq.out;rw [IntWalk.i64_in _ ⟨by omega,by omega⟩];omega
   have hk2:q≤Z:=by have:=hq.out;omega
   have hk3:(q:Int)≤(Z:Int):=by omega
   have hk5:(0:Int)≤(q:Int):=by omega
   have hk4:(k:Int)≤(Z:Int):=by omega
   have hk0:(0:Int)≤(k:Int):=by omega
   clear hA hB hM
   go_enter Tryz.func318,Tryz.ntmps318
   go_wp2_with fail
   refine HC.out.mono ?_
   rintro e w2 ⟨rfl,hw2⟩
   obtain rfl:w=w2:=hw2.symm
   go_upto_region 3 with (fail)
   refine Qa (fun w1=>Own w w1 []) 11 (by kernel_rfl) (by kernel_rfl) H.drew ?_
   simp only [List.take_succ_cons,List.take_zero,List.drop_succ_cons,List.drop_zero]
   repeat
    first
    | (refine calm_value (v:=?_) (by decide) rfl (fun σ w1 hS=>?_) ?_
       rotate_left
       ·skip
        first | (go_simp;rfl) | rfl
       simp only [Act.put,putC])
    | (refine calm_skip (by decide) rfl ?_
       simp only [Act.put,putC])
   refine calm_nil ?_
   intro wd HD
   go_wp2
   go_ret3
   exact ⟨_,rfl,rfl,HD⟩
 replace hX:=jd hX
 clear HC
 go_enter Tryz.func260,Tryz.ntmps260
 go_wp2_with fail
 refine hX.out.mono ?_
 rintro e w2 ⟨_,rfl,rfl,H2⟩
 go_wp2
 go_ret3
 exact ⟨_,rfl,rfl,H2⟩
theorem pathF_part{f:Nat}{s:ByteArray}(hf:s.size≤f)(hbad:pbad (cutA s)=false)(hm:cutM s=true):∃ g,okG f s=okG g (cutB s)∧(cutB s).size≤g∧(cutB s).size<s.size:=by
 have h0:0≤cutI s:=by simpa [cutM] using hm
 rcases cutI_cases s with h | ⟨k,h,hk⟩
 ·omega
 ·cases f with
  | zero=>omega
  | succ f=>
   have hB:(cutB s).size=s.size-(k+1):=by rw [cutB,if_neg (by omega),ByteArray.size_extract,h];simp only [Int.toNat_natCast];omega
   refine ⟨f,?_,by omega,by omega⟩
   rw [okG,if_neg (by omega),hbad];rfl
theorem pathF_last{f:Nat}{s:ByteArray}(hm:cutM s=false):okG f s = !pbad (cutA s):=by
 have h0:cutI s<0:=by simpa [cutM] using hm
 have hA:cutA s=s:=by rw [cutA,if_pos h0]
 cases f with
 | zero=>rw [okG,hA]
 | succ f=>rw [okG,if_pos h0,hA]
theorem pathF_bad{f:Nat}{s:ByteArray}(hf:s.size≤f)(hbad:pbad (cutA s)=true):okG f s=false:=by
 by_cases hm:cutM s=true
 ·have h0:0≤cutI s:=by simpa [cutM] using hm
  rcases cutI_cases s with h | ⟨k,h,hk⟩
  ·omega
  ·cases f with
   | zero=>omega
   | succ f=>rw [okG,if_neg (by omega),hbad];rfl
 ·rw [pathF_last (by simpa using hm),hbad];rfl
set_option maxRecDepth 100000 in
set_option maxHeartbeats 6400000 in
attribute [local go_sem] Oper.semAt_some in
theorem parts_in{w0:World}{p:ByteArray}(hp:p.size≤1000000)(E B:Nat)(l D:Nat)(rA rZ:Obj)(W:World)
 (hY:∀ (i:ByteArray) (x:ByteArray) (W:World),Own w0 W (blk l rA::blk D dfr::[blk E (.cells #[.int .i64 0] 29),blk B (.cells #[.string i] 9)])→YieldAt Fence.wide (3-1-1) Tryz.prog l #[.string x] W fun e W'=>
   ((!pbad x)=true∧e=.returned (.bool true)∧Own w0 W' (blk l rA::blk D dfr::[blk E (.cells #[.int .i64 0] 29),blk B (.cells #[.string i] 9)]))∨((!pbad x)=false∧e=.returned (.bool false)∧Own w0 W' (blk l rZ::blk D dfr::[blk E (.cells #[.int .i64 5] 29),blk B (.cells #[.string i] 9)])))
 (H:Own w0 W (blk l rA::blk D dfr::[blk E (.cells #[.int .i64 0] 29),blk B (.cells #[.string p] 9)])) :
 CallsIn Fence.wide (3-1) Tryz.prog 259 (#[.func (.yield l) #[] #[]]++#[.pointer (some ⟨B,0,none⟩)]) W fun e W'=>(∃ v,e=.returned v) ∧
  ((okG p.size p=true∧∃ i,Own w0 W' (blk l rA::blk D dfr::[blk E (.cells #[.int .i64 0] 29),blk B (.cells #[.string i] 9)]))∨(okG p.size p=false∧∃ i,Own w0 W' (blk l rZ::blk D dfr::[blk E (.cells #[.int .i64 5] 29),blk B (.cells #[.string i] 9)]))):=by
 obtain ⟨G,hG⟩:∃ G,Hid (okG p.size p=G):=⟨_,rfl⟩
 rw [hG.out]
 have hcut:=jd fun s hs w=>callsIn_wide (n:=1).2 (cut1_any s hs w)
 replace hY:=jd hY
 refine callsIn_of_wp Tryz.func259 rfl trivial ?_ rfl
 simp only [Tryz.ntmps259,List.size_toArray,List.length_cons,List.length_nil,Nat.reduceAdd,Nat.reduceSub,Array.replicate_succ,Array.replicate_zero,List.push_toArray,List.append_toArray,List.nil_append,List.cons_append]
 gi_wp2
 gi_loopw [] (fun wr=>∃ (f:Nat) (r:ByteArray),r.size≤f∧r.size≤1000000∧Hid (okG f r=G)∧Own w0 wr (blk l rA::blk D dfr::[blk E (.cells #[.int .i64 0] 29),blk B (.cells #[.string r] 9)])) (fun wr=>match wr.cell? ⟨B,0,none⟩ with | some (.string s)=>s.size | _=>0)
 case atStart=>exact ⟨p.size,p,Nat.le_refl _,hp,hG,H⟩
 case round=>
  clear H hG
  obtain ⟨f,r,hrf,hr6,hok,H⟩:=hrel
  have H':=H
  replace H':=jd H'
  have c0:wr.cell? ⟨B,0,none⟩=some (.string r):=(H.front 3 rfl).cells 0
  have hp1:=jd (fun h1 h2=>pathF_part (f:=f) (s:=r) hrf h1 h2)
  have hp2:=jd (fun h1=>pathF_last (f:=f) (s:=r) h1)
  have hp3:=jd (fun h1=>pathF_bad (f:=f) (s:=r) hrf h1)
  have HC:=jd (hcut.out r hr6 wr)
  obtain ⟨x,hx⟩:∃ x,Hid (cutA r=x):=⟨_,rfl⟩
  obtain ⟨y,hy⟩:∃ x,Hid (cutB r=x):=⟨_,rfl⟩
  obtain ⟨m,hm⟩:∃ x,Hid (cutM r=x):=⟨_,rfl⟩
  rw [hx.out,hm.out,hy.out] at hp1
  rw [hx.out,hm.out] at hp2
  rw [hx.out] at hp3
  rw [hx.out,hm.out,hy.out] at HC
  clear hcut hx hy hm hrf
  gi_wp2_with fail
  refine ⟨trivial,HC.out.mono ?_⟩
  rintro e w2 ⟨_,rfl,rfl,H2⟩
  replace H:=H.join H2
  rw [List.nil_append] at H
  clear H2 HC c0
  obtain ⟨fn,tmps,assign,body,hy2,hR⟩:=hY.out r x w2 H
  replace hR:=jd hR
  gi_wp2_with fail
  refine hR.out.mono ?_
  rintro e w3 (⟨hb,rfl,H3⟩ | ⟨hb,rfl,H3⟩)
  ·have hb2:pbad x=false:=by simpa using hb
   have c0:w3.cell? ⟨B,0,none⟩=some (.string r):=(H3.front 3 rfl).cells 0
   have f0:=(H3.front 3 rfl).free 0
   clear hy2 hR H hb
   cases m
   ·have hG:G=true:=by rw [← hok.out,hp2.out rfl,hb2];rfl
    replace hG:=jd hG
    gi_wp2
    refine bodyPost_ret (results_none rfl _ _ _) rfl ?_
    exact ⟨⟨_,rfl⟩,.inl ⟨hG.out,r,H3⟩⟩
   ·obtain ⟨g,e1,e2,e3⟩:=hp1.out hb2 rfl
    replace e1:=jd e1
    replace e3:=jd e3
    gi_wp2
    have H4:=(H3.front 3 rfl).set 0 (.string y)
    have c4:=H4.cells 0
    rw [show (#[Value.string r].setIfInBounds 0 (.string y))[0]?=some (.string y) from rfl] at c4
    have H5:=((((H4.front 3 rfl).front 3 rfl).front 3 rfl))
    have c1:=(Own.front 3 H'.out rfl).cells 0
    rw [show (#[Value.string r])[0]?=some (.string r) from rfl] at c1
    refine ⟨⟨g,y,e2,by have:=e3.out;omega,jd (by rw [← e1.out];exact hok.out),H5⟩,?_⟩
    rw [c4,c1]
    exact e3.out
  ·have hb2:pbad x=true:=by simpa using hb
   have hG:G=false:=by rw [← hok.out,hp3.out hb2]
   replace hG:=jd hG
   clear hy2 hR H hb
   gi_wp2
   refine bodyPost_ret (results_none rfl _ _ _) rfl ?_
   exact ⟨⟨_,rfl⟩,.inr ⟨hG.out,r,H3⟩⟩
set_option maxRecDepth 100000 in
theorem partsm_any(p:ByteArray)(w:World):Calls Tryz.prog 184 #[.string p] w (fun e w'=>e=.returned (.func (.func 259) #[] #[.pointer (some ⟨w.heap.size,0,none⟩)])∧w'=w.alloc (.cells #[.string p] 9)):=by
 go_enter Tryz.func184,Tryz.ntmps184
 go_wp2
 go_ret
 exact ⟨rfl,rfl⟩
theorem err_load{w:World}{g:Nat}{x:Int}(h:w.cell? ⟨g,0,none⟩=some (.int .i64 x)):(loadVar 29 ⟨g,0,none⟩).run Tryz.prog w=.ok (.int .i64 x) w:=by
 go_simp
set_option maxRecDepth 100000 in
set_option maxHeartbeats 6400000 in
attribute [local go_sem] Oper.semAt_some in
theorem pacheck_any(p:ByteArray)(hp:p.size≤140737488351232)(w:World) :
 Calls Tryz.prog 118 #[.string p] w (fun e w'=>e=.returned (.int .i64 (if pathF p then 0 else 5))∧Own w w' []):=by
 obtain ⟨G,hG⟩:∃ G,Hid (pathF p=G):=⟨_,rfl⟩
 rw [hG.out]
 have HC:=jd (fun w=>callsIn_wide (n:=2).2 (Any.strings_Contains_one (P:=Tryz.prog) Tryz.layContains p 0 w))
 have HP:=jd (fun w=>callsIn_wide (n:=2).2 (partsm_any p w))
 obtain ⟨Z,hZ⟩:∃ Z,p.size=Z:=⟨_,rfl⟩
 have hemp:=jd (toList_empty p)
 rw [hZ] at hp hemp
 have H:=(Own.start w).alloc (.cells #[.int .i64 0] 29)
 refine (callsIn_wide (n:=3)).1 ?_
 refine callsIn_of_wp_marks Tryz.func118 rfl trivial ?_ rfl
 simp only [Tryz.ntmps118,List.size_toArray,List.length_cons,List.length_nil,Nat.reduceAdd,Nat.reduceSub,Array.replicate_succ,Array.replicate_zero,List.push_toArray,List.append_toArray,List.nil_append,List.cons_append]
 have c0:=H.cells 0
 have f0:=H.free 0
 by_cases h0:Z=0
 ·have hE:p.toList.isEmpty=true:=by rw [hemp.out];simp [h0]
  have hG0:G=false:=by rw [← hG.out,pathF,hZ,h0];rfl
  subst hG0
  gi_wp2_with fail
  refine ⟨trivial,?_⟩
  gi_wp2
  exact ⟨_,Zm rfl _ _ _ _ rfl (err_load (x:=5) (((Own.start w).alloc (.cells #[.int .i64 5] 29)).cells 0)),rfl,(Own.start w).alloc' _⟩
 ·have hE:p.toList.isEmpty=false:=by rw [hemp.out];simp [h0]
  by_cases h4:4096<Z
  ·have hG0:G=false:=by rw [← hG.out,pathF,hZ];simp;omega
   subst hG0
   have h4I:(4096:Int)<(Z:Int):=by omega
   gi_wp2_with fail
   refine ⟨trivial,?_⟩
   gi_wp2
   exact ⟨_,Zm rfl _ _ _ _ rfl (err_load (x:=5) (((Own.start w).alloc (.cells #[.int .i64 5] 29)).cells 0)),rfl,(Own.start w).alloc' _⟩
  ·have h4I:¬ (4096:Int)<(Z:Int):=by omega
   obtain ⟨b,hb⟩:∃ b,Hid (decide (0≤Lib.indexByte p.data.toList 0)=b):=⟨_,rfl⟩
   rw [hb.out] at HC
   cases b
   ·have hG2:Hid (okG p.size p=G):=jd (by
     have:=of_decide_eq_false hb.out
     rw [← hG.out,pathF,hZ,decide_eq_true (show 0<Z by omega),decide_eq_true (show Z≤4096 by omega),decide_eq_true (show Lib.indexByte p.data.toList 0<0 by omega)];rfl)
    clear hG hb
    gi_wp2_with fail
    refine ⟨trivial,(HC.out _).mono ?_⟩
    rintro e w2 ⟨rfl,rfl⟩
    gi_wp2_with fail
    refine ⟨trivial,(HP.out _).mono ?_⟩
    rintro e w2 ⟨rfl,rfl⟩
    gi_wp2_with fail
    replace H:=H.alloc (.cells #[.string p] 9)
    rw [World.size_alloc] at H
    obtain ⟨B,hB⟩:∃ B,w.heap.size+1=B:=⟨_,rfl⟩
    rw [hB] at H ⊢
    generalize w.alloc _=w1 at *
    generalize w1.alloc _=w2 at *
    generalize w.heap.size=E at *
    clear hB
    have hIT:=fun (l D:Nat) (rA rZ:Obj) (W:World)=>parts_in (w0:=w) (p:=p) (by omega) E B l D rA rZ W
    rw [hG2.out] at hIT
    clear HC HP
    refine wpIn_range_pieces (w0:=w) rfl (by omega) (gf:=259) (lb:=#[.pointer (some ⟨B,0,none⟩)]) rfl trivial (enters_of Tryz.func259 (by kernel_rfl) rfl)
     (fun x:ByteArray=>Value.string x) rfl (fun x=>!pbad x) G (fun i=>[blk E (.cells #[.int .i64 0] 29),blk B (.cells #[.string i] 9)]) (fun i=>[blk E (.cells #[.int .i64 5] 29),blk B (.cells #[.string i] 9)]) p H.swap
     (fun x=>{ tmps:=#[.string p,undef,.pointer (some ⟨E,0,none⟩),.string x,.string p,.bool false,.bool false,.string p,.int .i64 Z,.bool false,.bool false,.bool false,.string p,.bool false,.bool false,.string p,.func (.func 259) #[] #[.pointer (some ⟨B,0,none⟩)],.string x,undef,undef,undef,undef,undef,undef,undef,undef,undef,undef],defers:=[] }) ?assign ?body hIT ?done ?stop
    case assign=>
     intro l x W K hK
     gi_wp2
     exact hK
    case body=>
     intro l D rc i x W H
     have c1:=(H.front 2 rfl).cells 0
     have f1:=(H.front 2 rfl).free 0
     rw [show (#[Value.int .i64 0])[0]?=some (.int .i64 0) from rfl] at c1
     have hb:=jd (show pbad x=(x.toList.isEmpty||x.toList==[46]||x.toList==[46,46]) from rfl)
     have fin:Own w (W.setCell ⟨E,0,none⟩ (.int .i64 5)) (blk l rc::blk D dfr::[blk E (.cells #[.int .i64 5] 29),blk B (.cells #[.string i] 9)]):=by
      have H2:=(H.front 2 rfl).set 0 (.int .i64 5)
      exact (((H2.front 2 rfl).front 2 rfl))
     replace fin:=jd fin
     cases e1:x.toList.isEmpty
     ·cases e2:(x.toList==[46])
      ·cases e3:(x.toList==[46,46])
       ·have hbx:pbad x=false:=by rw [hb.out,e1,e2,e3];rfl
        gi_wp2
       ·have hbx:pbad x=true:=by rw [hb.out,e3];simp
        gi_wp2
        exact fin.out
      ·have hbx:pbad x=true:=by rw [hb.out,e2];simp
       gi_wp2
       exact fin.out
     ·have hbx:pbad x=true:=by rw [hb.out,e1];rfl
      gi_wp2
      exact fin.out
    case done=>
     intro hg D i W H
     have c1:=(H.front 1 rfl).cells 0
     have f1:=(H.front 1 rfl).free 0
     rw [show (#[Value.int .i64 0])[0]?=some (.int .i64 0) from rfl] at c1
     gi_wp2
     have H2:=((H.front 1 rfl).set 0 (.int .i64 0)).front 1 rfl
     have H3:=H2.turn (w':=World.putObj (W.setCell ⟨E,0,none⟩ (.int .i64 0)) D (.deferred none)) rfl rfl rfl (by simp) (World.putObj_heap_same (Array.getElem?_eq_some_iff.1 H2.block.1).1) (fun k _ hk=>World.putObj_heap_other hk)
     refine ⟨by simp,.inl ⟨_,_,rfl,run_takeDeferred H2.block.1,_,Zm rfl _ _ _ _ rfl (err_load (x:=0) ((H3.front 1 rfl).cells 0)),?_,H3.bare⟩⟩
     first | rfl | (rw [hg];rfl)
    case stop=>
     intro hg D i W H
     gi_wp2
     all_goals
      have H3:=H.turn (w':=World.putObj W D (.deferred none)) rfl rfl rfl (by simp) (World.putObj_heap_same (Array.getElem?_eq_some_iff.1 H.block.1).1) (fun k _ hk=>World.putObj_heap_other hk)
      refine ⟨by simp,.inl ⟨_,_,rfl,run_takeDeferred H.block.1,_,Zm rfl _ _ _ _ rfl (err_load (x:=5) ((H3.front 1 rfl).cells 0)),?_,H3.bare⟩⟩
      first | rfl | (rw [hg];rfl)
   ·have hG0:G=false:=by
     have:=of_decide_eq_true hb.out
     rw [← hG.out,pathF,hZ,decide_eq_false (show ¬ Lib.indexByte p.data.toList 0<0 by omega)];simp
    subst hG0
    gi_wp2_with fail
    refine ⟨trivial,(HC.out _).mono ?_⟩
    rintro e w2 ⟨rfl,rfl⟩
    gi_wp2
    exact ⟨_,Zm rfl _ _ _ _ rfl (err_load (x:=5) (((Own.start w).alloc (.cells #[.int .i64 5] 29)).cells 0)),rfl,(Own.start w).alloc' _⟩
end Go.Proofs.YthekdeikodppkaaGreatDoor
namespace Go.Proofs.YthekdeikodppkaaGreatDoor
open Go.RowKit
def fgood(x:FileP):Prop:=pathF x.path=true∧x.data.size≤1048576
def CheckPost(l:List FileP)(e:Int):Prop:=(e=0→l.length≤64∧∀ x∈l,fgood x)∧(l.length≤1→(∀ x∈l,fgood x)→e=0)
theorem pathF_size{p:ByteArray}(h:pathF p=true):p.size≤4096:=by
 simp only [pathF,Bool.and_eq_true,decide_eq_true_eq] at h
 exact h.1.1.2
set_option maxRecDepth 100000 in
set_option maxHeartbeats 6400000 in
theorem fcheck_any{w:World}{v:Value}{n:Nat}{l:List FileP}(hr:Rd w 2 v n (rows fe l))(hn:n≤1000000)(hs:∀ x∈l,x.path.size≤1000000∧x.data.size≤1000000000) :
 Calls Tryz.prog 73 #[v] w (Ret fun r w'=>∃ e:Int,r=.int .i64 e∧CheckPost l e∧Own w w' []):=by
 have hl:l.length=n:=by have:=hr.len;rw [Qp fe (k:=2) SF.e_length] at this;omega
 obtain ⟨a,c,rfl,hc1,hc2⟩:=hr.shape
 have hX:Hid (∀ w' qs,Own w w' qs→∀ k x,l[k]?=some x→∃ b o,a=some ⟨b,o,none⟩∧w'.cell? ⟨b,o+k*2,none⟩=some (.string x.path)∧w'.cell? ⟨b,o+k*2+1,none⟩=some (.string x.data)):=jd fun w' qs h k x hx=>by
  have hkn:=(gJ hx).1
  obtain ⟨b,o,c',e,-⟩:=Rd.some hr (by rw [Qp fe (k:=2) SF.e_length];omega)
  cases e
  have h0:=Rd.cell (hr.old h.bare) (j:=k*2) (u:=.string x.path) (by have:=Jt fe SF.e_length hx 0 (by omega);rw [Nat.add_zero] at this;rw [this];rfl)
  have h1:=Rd.cell (hr.old h.bare) (j:=k*2+1) (u:=.string x.data) (by rw [Jt fe SF.e_length hx 1 (by omega)];rfl)
  exact ⟨b,o,rfl,h0,h1⟩
 have H:=Own.start w
 clear hr
 go_enter Tryz.func73,Tryz.ntmps73
 by_cases h64:64<n
 ·have hI:(64:Int)<(n:Int):=by omega
  go_wp2
  go_ret
  exact ⟨_,rfl,3,rfl,⟨fun e=>absurd e (by decide),fun h=>by omega⟩,H⟩
 have hI:¬ (64:Int)<(n:Int):=by omega
 go_upto_block 0 with (fail)
 go_cut [] (fun wx=>Hid (∀ x∈l,fgood x)∧Own w wx [])
 case first=>
  go_wp2_with fail
  go_loopw [15] (fun v15 wx=>∃ k:Nat,v15=.int .i64 k∧k≤n∧Hid (∀ x∈l.take k,fgood x)∧Own w wx []) (fun v15 _=>n-(intOf v15).toNat)
  case atStart=>exact ⟨0,rfl,by omega,jd (by simp),H⟩
  case round=>
   clear H
   obtain ⟨k,rfl,hk,hg,H⟩:=hrel
   by_cases hkn:k<n
   ·have hI2:(k:Int)<(n:Int):=by omega
    have hk0:(0:Int)≤(k:Int):=by omega
    obtain ⟨x,hx⟩:∃ x,l[k]?=some x:=Ql (by omega)
    obtain ⟨b,o,rfl,c0,c1⟩:=hX.out _ _ H k x hx
    have hxs:=hs x (List.mem_of_getElem? hx)
    have hxm:=jd (List.mem_of_getElem? hx)
    have hS2:Hid (fgood x→∀ y∈l.take (k+1),fgood y):=jd fun h y hy=>by
     rw [List.take_add_one,hx] at hy
     rcases List.mem_append.1 hy with hy | hy
     ·exact hg.out y hy
     ·obtain rfl:y=x:=by simpa using hy
      exact h
    obtain ⟨p,d⟩:=x
    dsimp only at c0 c1 hxs
    have HP:=jd (fun w=>pacheck_any p (by omega) w)
    have H2:=H.alloc (.cells #[.string p,.string d] 47)
    obtain ⟨D,hD⟩:∃ Z,d.size=Z:=⟨_,rfl⟩
    clear hX hx hg
    go_wp2_with fail
    generalize wr.alloc _=w1 at *
    generalize wr.heap.size=g at *
    refine (HP.out w1).mono ?_
    rintro e w2 ⟨rfl,H3⟩
    replace H3:=H2.join H3
    rw [List.nil_append] at H3
    clear H2 H HP c0 c1
    have c1:w2.cell? ⟨g,1,none⟩=some (.string d):=by rw [H3.cells];rfl
    obtain ⟨G,hG⟩:∃ G,Hid (pathF p=G):=⟨_,rfl⟩
    rw [hG.out]
    cases G
    ·have hbad:Hid (¬ ∀ x∈l,fgood x):=jd fun h=>by
      have:=(h _ hxm.out).1
      rw [show pathF (FileP.mk p d).path=false from hG.out] at this
      cases this
     clear hG
     go_wp2
     go_ret
     exact ⟨_,rfl,5,rfl,⟨fun e=>absurd e (by decide),fun _ h=>absurd h hbad.out⟩,H3.drop⟩
    ·by_cases hD4:1048576<D
     ·have hDI:(1048576:Int)<(D:Int):=by omega
      have hbad:Hid (¬ ∀ x∈l,fgood x):=jd fun h=>by
       have:=(h _ hxm.out).2
       rw [show (FileP.mk p d).data.size=D from hD] at this
       omega
      clear hG
      go_wp2
      go_ret
      exact ⟨_,rfl,3,rfl,⟨fun e=>absurd e (by decide),fun _ h=>absurd h hbad.out⟩,H3.drop⟩
     ·have hDI:¬ (1048576:Int)<(D:Int):=by omega
      have hS3:=jd (hS2.out ⟨hG.out,by show d.size≤_;omega⟩)
      clear hG hS2
      go_wp2
      go_roundw
      case rel=>exact ⟨k+1,by go_num,by omega,hS3,H3.drop⟩
      case measure=>simp [intOf];omega
   ·obtain rfl:k=n:=by omega
    have hI2:¬ (k:Int)<(k:Int):=by omega
    rw [List.take_of_length_le (by omega)] at hg
    go_wp2
    go_meet
    exact ⟨hg,H⟩
 case rest=>
  obtain ⟨hgood,H2⟩:=hcut
  clear H
  go_wp2_with fail
  go_loopw [32] (fun v32 wx=>∃ k:Nat,v32=.int .i64 k∧k≤n∧Own w wx []) (fun v32 _=>n-(intOf v32).toNat)
  case atStart=>exact ⟨0,rfl,by omega,H2⟩
  case round=>
   clear H2
   obtain ⟨k,rfl,hk,H⟩:=hrel
   by_cases hkn:k<n
   ·have hI2:(k:Int)<(n:Int):=by omega
    have hk0:(0:Int)≤(k:Int):=by omega
    obtain ⟨x,hx⟩:∃ x,l[k]?=some x:=Ql (by omega)
    obtain ⟨b,o,rfl,c0,c1⟩:=hX.out _ _ H k x hx
    obtain ⟨m,hm⟩:∃ m,Hid (n-(k+1)=m):=⟨_,rfl⟩
    obtain ⟨xp,xd⟩:=x
    dsimp only at c0 c1
    have e1:IntKind.i64.wrap ((k:Int)+1)=((k+1:Nat):Int):=by rw [IntWalk.i64_in _ ⟨by omega,by omega⟩];omega
    obtain ⟨q,hq⟩:∃ q,Hid (k+1=q):=⟨_,rfl⟩
    rw [hq.out] at e1
    have hqn:q≤n:=by have:=hq.out;omega
    have hmq:Hid (m=n-q):=jd (by have:=hq.out;have:=hm.out;omega)
    have hmI:m+q=n:=by have:=hmq.out;omega
    obtain ⟨a2,ha2⟩:∃ a2,Hid ((if c=q then some (⟨b,o,none⟩:Addr) else some ⟨b,o+q*2,none⟩)=a2):=⟨_,rfl⟩
    have hsl:∀ w,(Instr.sliceAt 22 (.slice (some ⟨b,o,none⟩) n c) (some (.int .i64 (q:Int))) none none).run Tryz.prog w=.ok (.slice a2 m (c-q)) w:=fun w=>by
     refine slc_low (P:=Tryz.prog) (ty:=22) (size:=2) (by kernel_rfl) (fun _=>by kernel_rfl) hqn ?_ w
     unfold sliced
     rw [← ha2.out,hmq.out]
     split
     ·rfl
     ·rw [Option.map_some,Addr.add_lit]
    have H2:=H.alloc (.cells #[.string xp,.string xd] 47)
    have hl2:=jd (show 0<m→1<l.length by have:=hq.out;omega)
    have hqk:=jd hq.out
    clear hq hm hmq
    go_wp2_with fail
    generalize wr.alloc _=w1 at *
    generalize wr.heap.size=g at *
    clear c0 c1 H
    go_loopw [42] (fun v42 wx=>∃ j:Nat,v42=.int .i64 j∧j≤m∧Own w wx (blk g (.cells #[.string xp,.string xd] 47)::[])) (fun v42 _=>m-(intOf v42).toNat)
    case atStart=>exact ⟨0,rfl,by omega,H2⟩
    case round=>
     clear H2
     obtain ⟨j,rfl,hj,H⟩:=hrel
     by_cases hjm:j<m
     ·have hj1:(j:Int)<(m:Int):=by omega
      have hj0:(0:Int)≤(j:Int):=by omega
      have hcq:¬ c=q:=by omega
      obtain rfl:some (⟨b,o+q*2,none⟩:Addr)=a2:=by rw [← ha2.out,if_neg hcq]
      obtain ⟨y,hy⟩:∃ x,l[q+j]?=some x:=Ql (by omega)
      obtain ⟨b',o',e,d0,d1⟩:=hX.out _ _ H (q+j) y hy
      cases e
      rw [show o+(q+j)*2=o+q*2+j*2 by omega] at d0 d1
      have hl3:=jd (hl2.out (by omega))
      obtain ⟨yp,yd⟩:=y
      dsimp only at d0 d1
      have H2:=H.alloc (.cells #[.string yp,.string yd] 47)
      have c0:wr.cell? ⟨g,0,none⟩=some (.string xp):=by rw [H.cells];rfl
      have c1:wr.cell? ⟨g,1,none⟩=some (.string xd):=by rw [H.cells];rfl
      have HC1:=jd (fun w=>clash_any ⟨xp,xd⟩ ⟨yp,yd⟩ w)
      have HC2:=jd (fun w=>clash_any ⟨yp,yd⟩ ⟨xp,xd⟩ w)
      clear hX hy hsl ha2
      go_upto_region 18 with (fail)
      generalize wr.alloc _=w3 at *
      generalize wr.heap.size=g2 at *
      clear c0 c1 d0 d1
      have c0:w3.cell? ⟨g,0,none⟩=some (.string xp):=by rw [H2.swap.cells];rfl
      have c1:w3.cell? ⟨g,1,none⟩=some (.string xd):=by rw [H2.swap.cells];rfl
      have d0:w3.cell? ⟨g2,0,none⟩=some (.string yp):=by rw [H2.cells];rfl
      have d1:w3.cell? ⟨g2,1,none⟩=some (.string yd):=by rw [H2.cells];rfl
      go_wp2_with fail
      refine (HC1.out w3).mono ?_
      rintro e w4 ⟨_,rfl,⟨b1,rfl⟩,H4⟩
      replace H4:=H2.join H4
      rw [List.nil_append] at H4
      clear H2 H HC1 c0 c1 d0 d1
      cases b1
      ·have c0:w4.cell? ⟨g,0,none⟩=some (.string xp):=by rw [H4.swap.cells];rfl
       have c1:w4.cell? ⟨g,1,none⟩=some (.string xd):=by rw [H4.swap.cells];rfl
       have d0:w4.cell? ⟨g2,0,none⟩=some (.string yp):=by rw [H4.cells];rfl
       have d1:w4.cell? ⟨g2,1,none⟩=some (.string yd):=by rw [H4.cells];rfl
       go_wp2_with fail
       refine (HC2.out w4).mono ?_
       rintro e w5 ⟨_,rfl,⟨b2,rfl⟩,H5⟩
       replace H5:=H4.join H5
       rw [List.nil_append] at H5
       clear H4 HC2 c0 c1 d0 d1
       cases b2
       ·go_wp2
        go_roundw
        case rel=>exact ⟨j+1,by go_num,by omega,H5.drop⟩
        case measure=>simp [intOf];omega
       ·go_wp2
        go_ret
        exact ⟨_,rfl,6,rfl,⟨fun e=>absurd e (by decide),fun h=>by have:=hl3.out;omega⟩,H5.bare⟩
      ·go_wp2
       go_ret
       exact ⟨_,rfl,6,rfl,⟨fun e=>absurd e (by decide),fun h=>by have:=hl3.out;omega⟩,H4.bare⟩
     ·obtain rfl:j=m:=by omega
      have hj1:¬ (j:Int)<(j:Int):=by omega
      go_wp2_with fail
      go_roundw
      case rel=>exact ⟨q,by have:=hqk.out;go_num,hqn,H.drop⟩
      case measure=>have:=hqk.out;simp [intOf];omega
   ·obtain rfl:k=n:=by omega
    have hI2:¬ (k:Int)<(k:Int):=by omega
    go_wp2
    go_ret
    exact ⟨_,rfl,0,rfl,⟨fun _=>⟨by omega,hgood.out⟩,fun _ _=>rfl⟩,H⟩
def fpsL(l:List FileP):List Int:=l.flatMap fun x=>bn (textF x.path)++bn (textF x.data)
def fpL(l:List FileP):List Int:=bn (numF l.length)++fpsL (sortF fkey l)
def putF(l:List FileP):ByteArray:=strOfNums (fpL l)
theorem fpsL_length:∀ (l:List FileP),(∀ x∈l,fgood x)→(fpsL l).length≤Ve l+10*l.length
 | [],_=>by simp [fpsL]
 | x::l,h=>by
  have ih:=fpsL_length l fun y hy=>h y (by simp [hy])
  have hx:=h x (by simp)
  have h1:=textF_size (s:=x.path) (by have:=pathF_size hx.1;omega)
  have h2:=textF_size (s:=x.data) (by have:=hx.2;omega)
  simp only [fpsL,List.flatMap_cons,lJ,Qu,Ve,List.map_cons,List.sum_cons,List.length_cons] at ih ⊢
  omega
theorem sort_mem{l:List FileP}{x:FileP}(h:x∈sortF fkey l):x∈l:=(Zo (key:=fkey) l).2.perm.mem_iff.2 h
theorem sort_length(l:List FileP):(sortF fkey l).length=l.length:=((Zo (key:=fkey) l).2.length).symm
theorem sort_sum(l:List FileP):Ve (sortF fkey l)=Ve l:=by
 unfold Ve
 exact (((Zo (key:=fkey) l).2.perm.map _).sum_nat).symm
theorem putF_size{l:List FileP}(h:∀ x∈l,fgood x)(hn:l.length≤64):(putF l).size≤Ve l+645:=by
 have h1:=fpsL_length (sortF fkey l) fun x hx=>h x (sort_mem hx)
 have h2:=numF_size (n:=l.length) (by omega)
 rw [sort_length,sort_sum] at h1
 rw [putF,strOfNums_size,fpL,lJ,Qu]
 omega
theorem fpsL_take{l:List FileP}{k:Nat}{x:FileP}(hx:l[k]?=some x):fpsL (l.take (k+1))=fpsL (l.take k)++bn (textF x.path)++bn (textF x.data):=by
 rw [List.take_add_one,hx]
 simp [fpsL]
def PutPost(l:List FileP)(s:ByteArray)(e:Int):Prop:=CheckPost l e∧(e=0→s=putF l)
set_option maxRecDepth 100000 in
set_option maxHeartbeats 6400000 in
theorem fmput_any{w:World}{v:Value}{n:Nat}{l:List FileP}(hr:Rd w 2 v n (rows fe l))(hn:n≤1000000)(hs:∀ x∈l,x.path.size≤1000000∧x.data.size≤1000000000) :
 Calls Tryz.prog 39 #[v] w (Ret fun r w'=>∃ (s:ByteArray) (e:Int),r=.tuple #[.string s,.int .i64 e]∧PutPost l s e∧Own w w' []):=by
 have hl:l.length=n:=by have:=hr.len;rw [Qp fe (k:=2) SF.e_length] at this;omega
 have HC:=jd (fcheck_any hr hn hs)
 have HS:=jd fun w' (h:Own w w' []) hok=>fmsort_any (hr.old h) hn hok
 obtain ⟨a,c,rfl,hc1,hc2⟩:=hr.shape
 clear hr hs
 go_enter Tryz.func39,Tryz.ntmps39
 go_wp2_with fail
 refine HC.out.mono ?_
 rintro e w1 ⟨_,rfl,e,rfl,hp,H⟩
 replace hp:=jd hp
 by_cases he:e=0
 rotate_left
 ·have heI:(e==0)=false:=by simp [he]
  have heJ:(e != 0)=true:=by simp [he]
  go_wp2
  go_ret2
  exact ⟨_,rfl,_,e,rfl,⟨hp.out,fun h=>absurd h he⟩,H⟩
 subst he
 obtain ⟨hn64,hgood⟩:=hp.out.1 rfl
 rw [hl] at hn64
 have HS2:=jd fun w' h=>HS.out w' h fun x hx=>pathF_size (hgood x hx).1
 obtain ⟨S,hS⟩:∃ S,Hid (sortF fkey l=S):=⟨_,rfl⟩
 have hSl:S.length=n:=by rw [← hS.out,sort_length,hl]
 have hSg:Hid (∀ x∈S,fgood x):=jd (by rw [← hS.out];exact fun x hx=>hgood x (sort_mem hx))
 rw [hS.out] at HS2
 obtain ⟨R,hR⟩:∃ R,Hid (putF l=R):=⟨_,rfl⟩
 obtain ⟨F,hF⟩:∃ F,Hid (numF n=F):=⟨_,rfl⟩
 have hRe:Hid (strOfNums (bn F++fpsL S)=R):=jd (by rw [← hR.out,putF,fpL,hl,hF.out,hS.out])
 have hF5:F.size≤5:=by rw [← hF.out];exact numF_size (by omega)
 have H1:=H.made [.int .i64 n] 3 1 1 rfl (by decide)
 have HN:=jd (ennum_any n (by omega) H1.rd)
 rw [hF.out] at HN
 clear HS HC hS hF
 replace hgood:=jd hgood
 go_wp2_with fail
 generalize w1.alloc _=w2 at *
 refine HN.out.mono ?_
 rintro e w3 ⟨rfl,H3⟩
 replace H3:=(H1.join H3).bare
 clear H1 HN H
 go_wp2_with (refine wpList_bytesOf2 rfl _ rfl Tryz.underlying9 Tryz.underlying58 Tryz.underlying5 rfl (by omega) H3 ?_;clear H3;intro v4 w4 H3)
 refine (HS2.out w4 H3.bare).mono ?_
 rintro e w5 ⟨r,rfl,H5⟩
 replace H5:=H3.join H5
 replace H5:Own w w5 (slc 47 2 r n (rows fe S)::slf 5 v4 F.size (bts (bn F))::[]):=H5
 clear H3 HS2
 obtain ⟨sa,sc,rfl,hsc1,hsc2⟩:=H5.rd.shape
 go_wp2_with fail
 go_loopw [5,21] (fun v5 v21 wx=>∃ k m:Nat,v21=.int .i64 k∧k≤n∧m≤5+1200000*k∧Own w wx (slc 47 2 (.slice sa n sc) n (rows fe S)::slf 5 v5 m (bts (bn F++fpsL (S.take k)))::[])) (fun _ v21 _=>n-(intOf v21).toNat)
 case atStart=>exact ⟨0,F.size,rfl,by omega,by omega,by simpa [fpsL] using H5⟩
 case round=>
  clear H5
  obtain ⟨k,m,rfl,hk,hm,H⟩:=hrel
  obtain ⟨a5,c5,rfl,g1,g2⟩:=H.swap.slf_rd.shape
  by_cases hkn:k<n
  ·have hI2:(k:Int)<(n:Int):=by omega
   have hk0:(0:Int)≤(k:Int):=by omega
   obtain ⟨x,hx⟩:∃ x,S[k]?=some x:=Ql (by omega)
   have hrd:=H.rd
   obtain ⟨b,o,c',e,-⟩:=Rd.some hrd (by rw [Qp fe (k:=2) SF.e_length];omega)
   cases e
   have h0:wr.cell? ⟨b,o+k*2,none⟩=_:=Rd.cell hrd (j:=k*2) (u:=.string x.path) (by have:=Jt fe SF.e_length hx 0 (by omega);rw [Nat.add_zero] at this;rw [this];rfl)
   have h1:wr.cell? ⟨b,o+k*2+1,none⟩=_:=Rd.cell hrd (j:=k*2+1) (u:=.string x.data) (by rw [Jt fe SF.e_length hx 1 (by omega)];rfl)
   clear hrd
   have hxg:=hSg.out x (List.mem_of_getElem? hx)
   have hxp:=pathF_size hxg.1
   have hxd:=hxg.2
   have hst:=jd (fpsL_take hx)
   clear hxg
   obtain ⟨p,d⟩:=x
   dsimp only at h0 h1 hxp hxd hst
   have HP:=jd (fun w=>entext_any p (by omega) w)
   have HD:=jd (fun w=>entext_any d (by omega) w)
   have hp5:=textF_size (s:=p) (by omega)
   have hd5:=textF_size (s:=d) (by omega)
   obtain ⟨P,hP⟩:∃ Z,Hid (textF p=Z):=⟨_,rfl⟩
   obtain ⟨D,hD⟩:∃ Z,Hid (textF d=Z):=⟨_,rfl⟩
   rw [hP.out] at HP hp5 hst
   rw [hD.out] at HD hd5 hst
   have hP2:P.size≤5000:=by omega
   have hD2:D.size≤1048600:=by omega
   have H2:=H.alloc (.cells #[.string p,.string d] 47)
   clear hx hP hD hp5 hd5 hxp hxd
   go_upto_region 8 with (fail)
   generalize wr.alloc _=w1 at *
   generalize wr.heap.size=g at *
   clear h0 h1 H
   have c0:w1.cell? ⟨g,0,none⟩=some (.string p):=by rw [H2.cells];rfl
   go_wp2_with fail
   refine (HP.out w1).mono ?_
   rintro e w2 ⟨rfl,H3⟩
   replace H3:=H2.join H3
   rw [List.nil_append] at H3
   replace H3:=((H3.front 2 rfl))
   clear H2 HP c0
   go_upto_region 9 with (at_builtin;refine wpList_append_slf rfl _ _ rfl Tryz.underlying58 Vw rfl rfl H3 rfl (Src.ofString _ Tryz.underlying9 P) (by omega) ?_;clear H3;intro v6 w6 H3)
   rw [show byteCells P=bts (bn P) by simp [byteCells,bts,bn],← Zv] at H3
   have c1:w6.cell? ⟨g,1,none⟩=some (.string d):=by rw [(H3.front 1 rfl).cells];rfl
   obtain ⟨a6,c6,rfl,g3,g4⟩:=H3.slf_rd.shape
   go_wp2_with fail
   refine (HD.out w6).mono ?_
   rintro e w7 ⟨rfl,H7⟩
   replace H7:=H3.join H7
   rw [List.nil_append] at H7
   clear H3 HD c1
   go_wp2_with (at_builtin;refine wpList_append_slf rfl _ _ rfl Tryz.underlying58 Vw rfl rfl H7 rfl (Src.ofString _ Tryz.underlying9 D) (by omega) ?_;clear H7;intro v8 w8 H7)
   rw [show byteCells D=bts (bn D) by simp [byteCells,bts,bn],← Zv] at H7
   obtain ⟨a8,c8,rfl,g5,g6⟩:=H7.slf_rd.shape
   have H8:=(((H7.front 2 rfl).front 2 rfl).drop)
   go_roundw
   case rel=>exact ⟨k+1,m+P.size+D.size,by go_num,by omega,by omega,by rw [hst.out,← List.append_assoc,← List.append_assoc];exact H8⟩
   case measure=>simp [intOf];omega
  ·obtain rfl:k=n:=by omega
   have hI2:¬ (k:Int)<(k:Int):=by omega
   rw [List.take_of_length_le (by omega)] at H
   have hs2:=Js (P:=Tryz.prog) 58 9 Tryz.underlying58 Tryz.underlying5 Tryz.underlying9 H.swap.slf_rd
   rw [hRe.out] at hs2
   go_wp2
   go_ret2
   exact ⟨_,rfl,R,0,rfl,⟨hp.out,fun _=>hR.out.symm⟩,H.bare⟩
def SqPost(l:List FileP)(t:ByteArray)(n e:Int):Prop:=
 (e=0→t=packF (putF l)∧n=(putF l).size∧t.size≤49152)∧(l.length≤1→(∀ x∈l,fgood x)→(packF (putF l)).size≤49152→e=0)
set_option maxRecDepth 100000 in
set_option maxHeartbeats 6400000 in
theorem squeeze_any{w:World}{v:Value}{n:Nat}{l:List FileP}(hr:Rd w 2 v n (rows fe l))(hn:n≤1000000)(hs:∀ x∈l,x.path.size≤1000000∧x.data.size≤1000000000)(h25:Ve l≤2500) :
 Calls Tryz.prog 17 #[v] w (Ret fun r w'=>∃ (t:ByteArray) (n e:Int),r=.tuple #[.string t,.int .i64 n,.int .i64 e]∧SqPost l t n e∧Own w w' []):=by
 have hPut:=jd (fmput_any hr hn hs)
 have hSz:=jd (fun h1 h2=>putF_size (l:=l) h1 h2)
 obtain ⟨a,c,rfl,hc1,hc2⟩:=hr.shape
 clear hr hs
 go_enter Tryz.func17,Tryz.ntmps17
 go_wp2_with fail
 refine hPut.out.mono ?_
 rintro e w1 ⟨_,rfl,s,e,rfl,hp,H⟩
 clear hPut
 replace hp:=jd hp
 by_cases he:e=0
 ·subst he
  obtain ⟨h64,hgood⟩:=hp.out.1.1 rfl
  have hs9:=hSz.out hgood h64
  rw [← hp.out.2 rfl] at hs9
  have hsP:=jd (hp.out.2 rfl)
  have HP:=jd (pack_any (w:=w1) s (by omega))
  obtain ⟨T,hT⟩:∃ T,Hid (packF s=T):=⟨_,rfl⟩
  rw [hT.out] at HP
  obtain ⟨Z,hZ⟩:∃ Z,s.size=Z:=⟨_,rfl⟩
  obtain ⟨Y,hY⟩:∃ Z,T.size=Z:=⟨_,rfl⟩
  replace hgood:=jd hgood
  go_wp2_with fail
  refine HP.out.mono ?_
  rintro e w2 ⟨_,rfl,rfl,H2⟩
  by_cases h:49152<Y
  ·have hI:(49152:Int)<(Y:Int):=by omega
   go_wp2
   go_ret3
   exact ⟨_,rfl,_,_,_,rfl,⟨fun e=>absurd e (by decide),fun _ _ h2=>by rw [← hsP.out,hT.out] at h2;omega⟩,(H.join H2).bare⟩
  ·have hI:¬ (49152:Int)<(Y:Int):=by omega
   go_wp2
   go_ret3
   exact ⟨_,rfl,_,_,_,rfl,⟨fun _=>⟨by rw [← hsP.out,hT.out],by rw [← hsP.out,hZ],by omega⟩,fun _ _ _=>rfl⟩,(H.join H2).bare⟩
 ·have heI:(e==0)=false:=by simp [he]
  have heJ:(e != 0)=true:=by simp [he]
  go_wp2
  go_ret3
  exact ⟨_,rfl,_,_,_,rfl,⟨fun h=>absurd h he,fun h1 h2 _=>absurd (hp.out.1.2 h1 h2) he⟩,H⟩
theorem splF_sizes:∀ (k:Nat) (s:ByteArray),s.size≤k→(∀ c∈splF s,c.size=192)∧(splF s).length*192<s.size+192∧(0<s.size→0<(splF s).length)
 | 0,s,h=>by
  rw [splF,dif_pos (by omega)]
  exact ⟨by simp,by simp,by omega⟩
 | k+1,s,h=>by
  by_cases h0:s.size=0
  ·rw [splF,dif_pos h0]
   exact ⟨by simp,by simp,by omega⟩
  ·have hm:(s.extract (min 192 s.size) s.size).size=s.size-min 192 s.size:=by rw [ByteArray.size_extract];omega
   obtain ⟨h1,h2,-⟩:=splF_sizes k (s.extract (min 192 s.size) s.size) (by omega)
   rw [splF,dif_neg h0]
   refine ⟨fun c hc=>?_,?_,by simp⟩
   ·rcases List.mem_cons.1 hc with rfl | hc
    ·rw [ByteArray.size_append,ByteArray.size_extract,zrs_size];omega
    ·exact h1 c hc
   ·rw [List.length_cons,hm] at *;omega
theorem textOf_pos{bs:List Bool}(h:0<bs.length):0<(textOf bs).size:=by
 rw [textOf_size];unfold Qq;omega
theorem head_length(b:Bool)(k:Int):0<(headB b k).length:=by simp [headB]
theorem storeB_pos:∀ (f:Nat) (t:ByteArray) (bs:List Bool),0<bs.length∨0<f→0<(storeB f t bs).length
 | 0,t,bs,h=>by rw [storeB];omega
 | f+1,t,bs,h=>by
  rw [storeB]
  split
  ·simp only [lJ,Qd];omega
  ·refine storeB_pos f _ _ (.inl ?_)
   simp only [lJ,Qd];omega
theorem pack_pos(s:ByteArray):0<(packF s).size:=by
 have h1:=textOf_pos (storeB_pos (s.size+1) s [] (.inr (by omega)))
 have h2:0<(simpleF s).size:=by
  unfold simpleF
  exact textOf_pos (by rw [Kl,if_pos rfl,lJ];have:=head_length true 1;omega)
 have h3:0<(richF s).size:=by
  unfold richF
  exact textOf_pos (by rw [Kl,if_neg (by decide),lJ];have:=head_length true 2;omega)
 unfold packF Va
 split <;> split <;> first | exact h1 | exact h2 | exact h3
def sealsF(ke km:ByteArray)(l:List ByteArray):List ByteArray:=l.mapIdx fun i c=>sealF ke km i c
theorem seals_length(ke km:ByteArray)(l:List ByteArray):(sealsF ke km l).length=l.length:=by simp [sealsF]
theorem seals_get{ke km:ByteArray}{l:List ByteArray}{k:Nat}{c:ByteArray}(h:l[k]?=some c):(sealsF ke km l)[k]?=some (sealF ke km k c):=by
 simp [sealsF,h]
theorem seals_sizes{ke km:ByteArray}{l:List ByteArray}(h:∀ c∈l,c.size=192):∀ b∈sealsF ke km l,b.size=224:=by
 intro b hb
 obtain ⟨k,hk⟩:=List.mem_iff_getElem?.1 hb
 have hk2:k<l.length:=by have:=(gJ hk).1;rwa [seals_length] at this
 rw [seals_get (List.getElem?_eq_getElem hk2)] at hk
 obtain rfl:=Option.some.inj hk
 exact seal_size _ _ _ (h _ (List.getElem_mem hk2))
theorem res_cell_tmp{P:Program}{fn:Func}{p q:Tmp}{ty:TypeId}(h:fn.results=#[.cell p ty,.tmp q])(tmps:Array Value)(w:World)(g:Nat)(v:Value)
 (hp:tmps.getD p undef=.pointer (some ⟨g,0,none⟩)) (hl:(loadVar ty ⟨g,0,none⟩).run P w=.ok v w):(results fn tmps).run P w=.ok (.tuple #[v,tmps.getD q undef]) w:=by
 have hp':tmps[p]?.getD undef=.pointer (some ⟨g,0,none⟩):=by simpa using hp
 simp only [results,h]
 simp [hp',asAddr,hl]
def arcC(id:Int)(salt:ByteArray)(n bytes raw:Int)(root tag:ByteArray)(v:Value):List Value:=[.int .i64 id,.string salt,.int .i64 n,.int .i64 bytes,.int .i64 raw,.string root,.string tag,v]
structure Packed (secret salt:ByteArray) (id:Int) (l:List FileP) (bl:List ByteArray) (bytes raw:Nat) (tag:ByteArray):Prop where
 hbl:bl=sealsF (keyEnc secret salt) (keyMac secret salt) (splF (packF (putF l)))
 hbytes:bytes=(packF (putF l)).size
 hraw:raw=(putF l).size
 htag:tag=htagF (keyHead secret) id salt bl.length bytes raw (mroot (bl.map leafF))
def PkPost(w:World)(secret salt:ByteArray)(id:Int)(l:List FileP)(r:Value)(w':World):Prop:=
 (∃ e:Int,r=.tuple #[.agg #[.int .i64 0,.string ⟨#[]⟩,.int .i64 0,.int .i64 0,.int .i64 0,.string ⟨#[]⟩,.string ⟨#[]⟩,.slice none 0 0],.int .i64 e]∧e≠0∧((∀ x∈l,fgood x)→l.length≤1→49152<(packF (putF l)).size)∧Own w w' []) ∨
 (∃ (bl:List ByteArray) (bytes raw:Nat) (tag:ByteArray) (v:Value),r=.tuple #[.agg (arcC id salt bl.length bytes raw (mroot (bl.map leafF)) tag v).toArray,.int .i64 0]∧Packed secret salt id l bl bytes raw tag∧bytes≤49152∧Own w w' (slc 9 1 v bl.length (txs bl)::[]))
set_option maxRecDepth 100000 in
set_option maxHeartbeats 12800000 in
theorem pack_arc{w:World}{v:Value}{n:Nat}{l:List FileP}(secret salt:ByteArray)(id:Int)(hsec:secret.size≤1000000)(hsalt:salt.size=16)(hid:1≤id∧id≤4294967295)
 (hr:Rd w 2 v n (rows fe l)) (hn:n≤1000000) (hs:∀ x∈l,x.path.size≤1000000∧x.data.size≤1000000000) (h25:Ve l≤2500) :
 Calls Tryz.prog 5 #[.string secret,.string salt,.int .i64 id,v] w (Ret fun r w'=>PkPost w secret salt id l r w'):=by
 have hl:l.length=n:=by have:=hr.len;rw [Qp fe (k:=2) SF.e_length] at this;omega
 have HS:=jd fun w' (h:Own w w' [])=>squeeze_any (hr.old h) hn hs h25
 obtain ⟨a,c,rfl,hc1,hc2⟩:=hr.shape
 clear hr hs
 obtain ⟨hid1,hid2⟩:=hid
 have hidI:¬ id<1:=by omega
 have hidJ:¬ 4294967295<id:=by omega
 have hsI:(salt.size:Int)=16:=by omega
 have H:=(Own.start w).alloc (.cells #[.int .i64 0,.string ⟨#[]⟩,.int .i64 0,.int .i64 0,.int .i64 0,.string ⟨#[]⟩,.string ⟨#[]⟩,.slice none 0 0] 28)
 go_enter Tryz.func5,Tryz.ntmps5
 go_upto_region 1 with (fail)
 generalize w.alloc _=w1 at *
 generalize w.heap.size=R at *
 have hKE:=jd (keyEnc_size secret salt)
 have hKM:=jd (keyMac_size secret salt)
 have hKH:=jd (keyHead_size secret)
 have HK:=jd (fun w=>kdkeys_any secret salt (by omega) (by omega) w)
 have hPK:Hid (∀ bl bytes raw tag,bl=sealsF (keyEnc secret salt) (keyMac secret salt) (splF (packF (putF l)))→bytes=(packF (putF l)).size→raw=(putF l).size→tag=htagF (keyHead secret) id salt bl.length bytes raw (mroot (bl.map leafF))→Packed secret salt id l bl bytes raw tag):=jd fun _ _ _ _ h1 h2 h3 h4=>⟨h1,h2,h3,h4⟩
 obtain ⟨ke,hke⟩:∃ x,Hid (keyEnc secret salt=x):=⟨_,rfl⟩
 obtain ⟨km,hkm⟩:∃ x,Hid (keyMac secret salt=x):=⟨_,rfl⟩
 obtain ⟨kh,hkh⟩:∃ x,Hid (keyHead secret=x):=⟨_,rfl⟩
 rw [hke.out,hkm.out,hkh.out] at HK
 rw [hke.out] at hKE
 rw [hkm.out] at hKM
 rw [hkh.out] at hKH
 rw [hke.out,hkm.out,hkh.out] at hPK
 clear hke hkm hkh
 go_wp2_with fail
 refine (HS.out w1 H.bare).mono ?_
 rintro e w2 ⟨_,rfl,t,raw,e,rfl,hp,H2⟩
 replace H2:=H.join H2
 rw [List.nil_append] at H2
 clear H HS
 replace hp:=jd hp
 have hld:∀ (w':World) (cs:List Value) (qs:List Piece),Own w w' (blk R (.cells cs.toArray 28)::qs)→cs.length=8→(loadVar 28 ⟨R,0,none⟩).run Tryz.prog w'=.ok (.agg cs.toArray) w':=fun w' cs qs h hc=>run_loadVar_row w' R _ _ _ _ _ h.block.1 Tryz.underlying28 rfl (by rw [List.size_toArray,hc];kernel_rfl)
 replace hld:=jd hld
 by_cases he:e=0
 rotate_left
 ·have heI:(e==0)=false:=by simp [he]
  have heJ:(e != 0)=true:=by simp [he]
  go_wp2_with (refine Qe rfl _ _ rfl rfl H2 (vs:=[.int .i64 0,.string ⟨#[]⟩,.int .i64 0,.int .i64 0,.int .i64 0,.string ⟨#[]⟩,.string ⟨#[]⟩,.slice none 0 0]) rfl (by kernel_rfl) (by simp) (by simp [Value.oneCell']) rfl ?_;clear H2;intro w3 H3)
  refine bodyPost_ret (res_cell_tmp rfl _ _ R _ rfl (hld.out _ _ _ H3 rfl)) rfl ?_
  exact ⟨_,rfl,.inl ⟨e,rfl,he,fun h1 h2=>Nat.lt_of_not_le fun h3=>he (hp.out.2 h2 h1 h3),H3.bare⟩⟩
 subst he
 obtain ⟨ht,hraw,ht49⟩:=hp.out.1 rfl
 obtain ⟨spl1,spl2,spl3⟩:=splF_sizes t.size t (Nat.le_refl _)
 have hN1:=jd (spl3 (by rw [ht];exact pack_pos _))
 clear spl3
 rw [← ht] at hPK
 obtain ⟨rw',hrw'⟩:∃ r:Nat,Hid ((putF l).size=r):=⟨_,rfl⟩
 rw [hrw'.out] at hPK hraw
 subst hraw
 have HSp:=jd (fun w=>split_any (w:=w) (s:=t) (by omega))
 obtain ⟨Z,hZ⟩:∃ Z,t.size=Z:=⟨_,rfl⟩
 rw [hZ] at ht49 spl2 hPK
 obtain ⟨L,hL⟩:∃ L,Hid (splF t=L):=⟨_,rfl⟩
 rw [hL.out] at HSp spl1 spl2 hPK hN1
 obtain ⟨N,hN⟩:∃ N,L.length=N:=⟨_,rfl⟩
 rw [hN] at HSp spl2 hN1
 have hN256:N≤256:=by omega
 obtain ⟨B,hB⟩:∃ B,Hid (sealsF ke km L=B):=⟨_,rfl⟩
 have hBl:B.length=N:=by rw [← hB.out,seals_length,hN]
 have hB224:Hid (∀ b∈B,b.size=224):=jd (by rw [← hB.out];exact seals_sizes spl1)
 have hBk:Hid (∀ (k:Nat) x,L[k]?=some x→B[k]?=some (sealF ke km k x)):=jd (fun k x h=>by rw [← hB.out];exact seals_get h)
 rw [hB.out] at hPK
 have hPK2:=jd (fun tag=>hPK.out B Z rw' tag rfl rfl rfl)
 rw [hBl] at hPK2
 replace spl1:=jd spl1
 clear hPK hB ht hp hrw' spl2 hL
 go_wp2_with fail
 refine (HK.out w2).mono ?_
 rintro e w3 ⟨rfl,H3⟩
 replace H3:=H2.join H3
 rw [List.nil_append] at H3
 clear H2 HK
 have H4:=(H3.alloc (.cells #[.string ke,.string km,.string kh] 51))
 go_upto_region 7 with (fail)
 generalize w3.alloc _=w4 at *
 generalize w3.heap.size=gk at *
 clear H3
 have H5:=(H4.alloc (.cells #[.int .i64 0,.string ⟨#[]⟩,.int .i64 0,.int .i64 0,.int .i64 0,.string ⟨#[]⟩,.string ⟨#[]⟩,.slice none 0 0] 28))
 go_upto_region 8 with (fail)
 generalize w4.alloc _=w5 at *
 generalize w4.heap.size=ga at *
 clear H4
 go_wp2_with fail
 refine (HSp.out w5).mono ?_
 rintro e w6 ⟨_,rfl,H6⟩
 replace H6:=H5.join H6
 replace H6:=H6.swap
 clear H5 HSp
 rename_i rv
 obtain ⟨ra,rc,rfl,hrc1,hrc2⟩:=(H6.front 1 rfl).rd.shape
 go_wp2_with fail
 go_loopw [47] (fun v47 wx=>∃ (k:Nat) (v:Value),v47=.int .i64 k∧k≤N∧Own w wx (blk ga (.cells #[.int .i64 0,.string ⟨#[]⟩,.int .i64 0,.int .i64 0,.int .i64 0,.string ⟨#[]⟩,.string ⟨#[]⟩,v] 28)::slc 9 1 v k (txs (B.take k))::slc 9 1 (.slice ra N rc) N (txs L)::blk gk (.cells #[.string ke,.string km,.string kh] 51)::blk R (.cells #[.int .i64 0,.string ⟨#[]⟩,.int .i64 0,.int .i64 0,.int .i64 0,.string ⟨#[]⟩,.string ⟨#[]⟩,.slice none 0 0] 28)::[])) (fun v47 _=>N-(intOf v47).toNat)
 case atStart=>exact ⟨0,.slice none 0 0,rfl,by omega,(H6.nil 9 1).swap⟩
 case round=>
  clear H6
  obtain ⟨k,v,rfl,hk,H⟩:=hrel
  by_cases hkN:k<N
  ·have hI2:(k:Int)<(N:Int):=by omega
   have hk0:(0:Int)≤(k:Int):=by omega
   obtain ⟨x,hx⟩:∃ x,L[k]?=some x:=Ql (by omega)
   have hrd:=(H.front 2 rfl).rd
   obtain ⟨b,o,c',e,-⟩:=Rd.some hrd (by rw [Qr];omega)
   cases e
   have h0:wr.cell? ⟨b,o+k,none⟩=some (.string x):=Rd.cell hrd (j:=k) (u:=.string x) (by rw [Kp hx])
   clear hrd
   have hx192:=spl1.out x (List.mem_of_getElem? hx)
   have hst:Hid (txs (B.take (k+1))=txs (B.take k)++[.string (sealF ke km k x)]):=jd (by
    rw [List.take_add_one,hBk.out k x hx,Zi];rfl)
   have HB:=jd (fun w=>blseal_any ke km kh x (by rw [hKE.out]) (by rw [hKM.out];omega) hx192 k (by omega) w)
   unfold keysV at HB
   obtain ⟨y,hy⟩:∃ y,Hid (sealF ke km k x=y):=⟨_,rfl⟩
   rw [hy.out] at HB hst
   obtain ⟨va,vc,rfl,g1,g2⟩:=(H.front 1 rfl).rd.shape
   have c0:=(H.front 3 rfl).cells
   clear hx hx192 hy
   go_wp2_with fail
   refine (HB.out wr).mono ?_
   rintro e w2 ⟨rfl,H2⟩
   replace H2:=H.join H2
   rw [List.nil_append] at H2
   clear H HB h0 c0
   have c1:=H2.cells
   have H3:=((H2.front 1 rfl))
   clear H2
   go_wp2_with (first
    | (at_builtin;refine Qf (news:=[.string y]) rfl _ _ rfl Tryz.underlying26 Kd rfl (by decide) rfl H3 rfl rfl rfl (by simp [Value.oneCell']) (by omega) (by omega) ?_;clear H3 c1;intro v' w' H3;obtain ⟨va2,vc2,rfl,g3,g4⟩:=H3.rd.shape)
    | (refine Jd rfl _ _ rfl rfl H3.swap rfl (by kernel_rfl) (by simp) ?_;clear H3;intro w7 H3))
   refine ⟨⟨k+1,.slice va2 (k+1) vc2,by go_num,by omega,?_⟩,by simp [intOf];omega⟩
   rw [hst.out]
   exact H3
  ·obtain rfl:k=N:=by omega
   have hI2:¬ (k:Int)<(k:Int):=by omega
   rw [List.take_of_length_le (by omega)] at H
   obtain ⟨va,vc,rfl,g1,g2⟩:=(H.front 1 rfl).rd.shape
   obtain ⟨M,hM⟩:∃ M,Hid (mroot (B.map leafF)=M):=⟨_,rfl⟩
   have hM32:M.size=32:=by rw [← hM.out];exact root_32 _ (by rw [List.length_map,hBl];exact hN1.out) (fun s hs=>by obtain ⟨x,-,rfl⟩:=List.mem_map.1 hs;exact leaf_size x)
   obtain ⟨T,hT⟩:∃ T,Hid (htagF kh id salt k Z rw' M=T):=⟨_,rfl⟩
   have hP3:=jd (hPK2.out T (by rw [hM.out,hT.out]))
   obtain ⟨ps,hps⟩:∃ ps:List Piece,ps=(blk ga (.cells #[.int .i64 0,.string ⟨#[]⟩,.int .i64 0,.int .i64 0,.int .i64 0,.string ⟨#[]⟩,.string ⟨#[]⟩,.slice va k vc] 28)::slc 9 1 (.slice va k vc) k (txs B)::blk gk (.cells #[.string ke,.string km,.string kh] 51)::blk R (.cells #[.int .i64 0,.string ⟨#[]⟩,.int .i64 0,.int .i64 0,.int .i64 0,.string ⟨#[]⟩,.string ⟨#[]⟩,.slice none 0 0] 28)::[]):=⟨_,rfl⟩
   have H2:Own w wr ps:=by rw [hps];exact ((H.front 2 rfl).drop)
   have k2:Hid (∀ w1,Own w w1 ps→Calls Tryz.prog 22 #[.slice va k vc] w1 (fun e w2=>e=.returned (.string M)∧Own w w2 ps)):=jd fun w1 h=>by
    have:=arroot_any (w:=w1) (l:=B) (n:=k) (v:=.slice va k vc) (by rw [hps] at h;exact (h.front 1 rfl).rd) (by omega) (fun s hs=>by have:=hB224.out s hs;omega)
    rw [hM.out] at this
    exact this.mono fun e w2 g=>⟨g.1,h.join g.2⟩
   have k3:Hid (∀ w1,Own w w1 ps→Calls Tryz.prog 21 #[.string kh,.agg #[.int .i64 id,.string salt,.int .i64 k,.int .i64 Z,.int .i64 rw',.string M,.string ⟨#[]⟩]] w1 (fun e w2=>e=.returned (.agg #[.int .i64 id,.string salt,.int .i64 k,.int .i64 Z,.int .i64 rw',.string M,.string T])∧Own w w2 ps)):=jd fun w1 h=>by
    have:=hdsign_any kh id salt k Z rw' M ⟨#[]⟩ (by rw [hKH.out];omega) hsalt hM32 w1
    rw [hT.out] at this
    exact this.mono fun e w2 g=>⟨g.1,h.join g.2⟩
   have cS:Hid (∀ w1,Own w w1 ps→w1.cell? ⟨gk,2,none⟩=some (.string kh)∧w1.cell? ⟨ga,7,none⟩=some (.slice va k vc)):=jd fun w1 h=>by
    rw [hps] at h
    exact ⟨by rw [(h.front 2 rfl).cells];rfl,by rw [h.cells];rfl⟩
   have hM2:=hM
   clear hPK2 hM hT H hBk spl1
   go_upto_region 14 with (fail)
   refine Qa (fun w1=>Own w w1 ps) 15 (by kernel_rfl) (by kernel_rfl) H2.drew ?_
   simp only [List.take_succ_cons,List.take_zero,List.drop_succ_cons,List.drop_zero]
   repeat
    first
    | (refine calm_value (v:=?_) (by decide) rfl (fun σ w1 hS=>?_) ?_
       rotate_left
       ·obtain ⟨c0,c1⟩:=cS.out _ hS
        first | (go_simp;rfl) | rfl
       simp only [Act.put,putC])
    | (refine calm_skip (by decide) rfl ?_
       simp only [Act.put,putC])
   refine calm_call (v:=.string M) (by decide) rfl (fun w1=>(by go_simp)) (fun σ w1 hS=>k2.out w1 hS) ?_
   simp only [Act.put,putC]
   repeat
    first
    | (refine calm_value (v:=?_) (by decide) rfl (fun σ w1 hS=>?_) ?_
       rotate_left
       ·obtain ⟨c0,c1⟩:=cS.out _ hS
        first | (go_simp;rfl) | rfl
       simp only [Act.put,putC])
    | (refine calm_skip (by decide) rfl ?_
       simp only [Act.put,putC])
   refine calm_call (v:=.agg #[.int .i64 id,.string salt,.int .i64 k,.int .i64 Z,.int .i64 rw',.string M,.string T]) (by decide) rfl (fun w1=>(by go_simp)) (fun σ w1 hS=>k3.out w1 hS) ?_
   simp only [Act.put,putC]
   repeat
    first
    | (refine calm_value (v:=?_) (by decide) rfl (fun σ w1 hS=>?_) ?_
       rotate_left
       ·obtain ⟨c0,c1⟩:=cS.out _ hS
        first | (go_simp;rfl) | rfl
       simp only [Act.put,putC])
    | (refine calm_skip (by decide) rfl ?_
       simp only [Act.put,putC])
   refine calm_nil ?_
   intro wd HD
   rw [hps] at HD
   clear k2 k3 cS hps H2
   go_upto_region 15 with (refine Qe rfl _ _ rfl rfl HD (vs:=[.int .i64 id,.string salt,.int .i64 k,.int .i64 Z,.int .i64 rw',.string M,.string T]) rfl (by kernel_rfl) (by simp) (by simp [Value.oneCell']) rfl ?_;clear HD;intro w7 HD)
   simp only [Act.put]
   replace HD:Own w w7 (blk ga (.cells #[.int .i64 id,.string salt,.int .i64 k,.int .i64 Z,.int .i64 rw',.string M,.string T,.slice va k vc] 28)::slc 9 1 (.slice va k vc) k (txs B)::blk gk (.cells #[.string ke,.string km,.string kh] 51)::blk R (.cells #[.int .i64 0,.string ⟨#[]⟩,.int .i64 0,.int .i64 0,.int .i64 0,.string ⟨#[]⟩,.string ⟨#[]⟩,.slice none 0 0] 28)::[]):=HD
   have c0:=HD.cells
   have H3:=HD.front 3 rfl
   go_wp2_with (refine Qe rfl _ _ rfl rfl H3 (vs:=[.int .i64 id,.string salt,.int .i64 k,.int .i64 Z,.int .i64 rw',.string M,.string T,.slice va k vc]) rfl (by kernel_rfl) (by simp) (by simp [Value.oneCell']) rfl ?_;clear H3 HD c0;intro w9 H3)
   replace H3:Own w w9 (blk R (.cells [.int .i64 id,.string salt,.int .i64 k,.int .i64 Z,.int .i64 rw',.string M,.string T,.slice va k vc].toArray 28)::blk ga (.cells #[.int .i64 id,.string salt,.int .i64 k,.int .i64 Z,.int .i64 rw',.string M,.string T,.slice va k vc] 28)::slc 9 1 (.slice va k vc) k (txs B)::blk gk (.cells #[.string ke,.string km,.string kh] 51)::[]):=H3
   refine bodyPost_ret (res_cell_tmp rfl _ _ R _ rfl (hld.out _ _ _ H3 rfl)) rfl ?_
   refine ⟨_,rfl,.inr ⟨B,Z,rw',T,.slice va k vc,?_,hP3.out,ht49,?_⟩⟩
   ·rw [hBl,hM2.out];rfl
   ·rw [hBl];exact ((((H3.front 3 rfl).front 2 rfl).front 2 rfl).drop.drop.drop)
end Go.Proofs.YthekdeikodppkaaGreatDoor
