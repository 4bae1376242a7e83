/-
  Texts of this claim, one behind the other: strings.Repeat of zeros, known of its own accord (by the shelf's contract, laid at this program); filemap; filemap; multi; multi; multi; multi; What comes in; path.Under, filemap.clash; Few, Files.
-/
import Derived.Test.YthekdeikodppkaaGreatDoorKb20
import Derived.Shelf.Strings.Repeat
import Derived.Ground.NamesProg
import Derived.Test.YthekdeikodppkaaGreatDoorRows
import Derived.Lib.Agree
import Derived.KernelRfl
import Derived.Shelf.Small.Strs
import Derived.Shelf.Slices.SearchI
set_option linter.unusedVariables false
namespace Go.Proofs
open Go.Shelf Go.RowKit
def Tryz.layRepeat_ren:Go.Shelf.Ren:=⟨fun | 105=>43 | 212=>81 | 99=>82 | 165=>83 | 166=>84 | 170=>85 | 169=>86 | 263=>132 | 264=>133 | 206=>134 | 240=>135 | 241=>136 | 276=>195 | 277=>196 | n=>n,fun | 9=>9 | 3=>3 | 4=>4 | 20=>20 | 0=>0 | 46=>81 | 109=>142 | 5=>5 | 72=>147 | 76=>150 | 51=>228 | 146=>229 | 53=>185 | 148=>231 | 70=>145 | 37=>58 | 75=>149 | 127=>233 | 164=>307 | 80=>39 | n=>n,fun | n=>n⟩
theorem Tryz.layRepeat:Go.Proofs.Lays.n105 Tryz.prog Tryz.layRepeat_ren:={
 mixed:=by kernel_rfl
 f99:=Tryz.func82.trans (congrArg some (by kernel_rfl))
 f105:=Tryz.func43.trans (congrArg some (by kernel_rfl))
 f165:=Tryz.func83.trans (congrArg some (by kernel_rfl))
 f166:=Tryz.func84.trans (congrArg some (by kernel_rfl))
 f169:=Tryz.func86.trans (congrArg some (by kernel_rfl))
 f170:=Tryz.func85.trans (congrArg some (by kernel_rfl))
 f206:=Tryz.func134.trans (congrArg some (by kernel_rfl))
 f212:=Tryz.func81.trans (congrArg some (by kernel_rfl))
 f240:=Tryz.func135.trans (congrArg some (by kernel_rfl))
 f241:=Tryz.func136.trans (congrArg some (by kernel_rfl))
 f263:=Tryz.func132.trans (congrArg some (by kernel_rfl))
 f264:=Tryz.func133.trans (congrArg some (by kernel_rfl))
 f276:=Tryz.func195.trans (congrArg some (by kernel_rfl))
 f277:=Tryz.func196.trans (congrArg some (by kernel_rfl))
 t0:=Tryz.underlying0
 a0:=Tryz.isAgg0
 z0:=Tryz.sizeOf0
 v0:=Tryz.zeroValue0
 t3:=Tryz.underlying3
 a3:=Tryz.isAgg3
 z3:=Tryz.sizeOf3
 v3:=Tryz.zeroValue3
 t4:=Tryz.underlying4
 a4:=Tryz.isAgg4
 z4:=Tryz.sizeOf4
 v4:=Tryz.zeroValue4
 t5:=Tryz.underlying5
 a5:=Tryz.isAgg5
 z5:=Tryz.sizeOf5
 v5:=Tryz.zeroValue5
 t9:=Tryz.underlying9
 a9:=Tryz.isAgg9
 z9:=Tryz.sizeOf9
 v9:=Tryz.zeroValue9
 t20:=Tryz.underlying20
 a20:=Tryz.isAgg20
 z20:=Tryz.sizeOf20
 v20:=Tryz.zeroValue20
 t37:=Tryz.underlying58
 a37:=Tryz.isAgg58
 z37:=Tryz.sizeOf58
 v37:=Tryz.zeroValue58
 t46:=Tryz.underlying81
 a46:=Tryz.isAgg81
 z46:=Tryz.sizeOf81
 v46:=Tryz.zeroValue81
 t51:=Tryz.underlying228
 a51:=Tryz.isAgg228
 z51:=Tryz.sizeOf228
 v51:=Tryz.zeroValue228
 t53:=Tryz.underlying185
 a53:=Tryz.isAgg185
 z53:=Tryz.sizeOf185
 v53:=Tryz.zeroValue185
 t70:=Tryz.underlying145
 a70:=Tryz.isAgg145
 z70:=Tryz.sizeOf145
 v70:=Tryz.zeroValue145
 t72:=Tryz.underlying147
 a72:=Tryz.isAgg147
 z72:=Tryz.sizeOf147
 v72:=Tryz.zeroValue147
 t75:=Tryz.underlying149
 a75:=Tryz.isAgg149
 z75:=Tryz.sizeOf149
 v75:=Tryz.zeroValue149
 t76:=Tryz.underlying150
 a76:=Tryz.isAgg150
 z76:=Tryz.sizeOf150
 v76:=Tryz.zeroValue150
 t109:=Tryz.underlying142
 a109:=Tryz.isAgg142
 z109:=Tryz.sizeOf142
 v109:=Tryz.zeroValue142
 t127:=Tryz.underlying233
 a127:=Tryz.isAgg233
 z127:=Tryz.sizeOf233
 v127:=Tryz.zeroValue233
 t146:=Tryz.underlying229
 a146:=Tryz.isAgg229
 z146:=Tryz.sizeOf229
 v146:=Tryz.zeroValue229
 t148:=Tryz.underlying231
 a148:=Tryz.isAgg231
 z148:=Tryz.sizeOf231
 v148:=Tryz.zeroValue231
 t164:=Tryz.underlying307
 a164:=Tryz.isAgg307
 z164:=Tryz.sizeOf307
 v164:=Tryz.zeroValue307 }
theorem Tryz.extraRepeat:Builder.Extra Tryz.prog Tryz.layRepeat_ren where
 sizeBuilder:=by kernel_rfl
 liesBuilder:=by kernel_rfl
 t5:=Tryz.layRepeat.t5
 a5:=Tryz.layRepeat.a5
 z5:=Tryz.layRepeat.z5
 v5:=Tryz.layRepeat.v5
 infoByte:=by kernel_rfl
 cellsByte:=by kernel_rfl
 sizeByte:=by kernel_rfl
 neB5:=by decide
end Go.Proofs
namespace Go.Proofs.YthekdeikodppkaaGreatDoor
open Go.RowKit
noncomputable section
theorem repeatL_zero:∀ n:Nat,Lib.repeatL [0] n=List.replicate n (0:UInt8)
 | 0=>rfl
 | n+1=>by
  have:=repeatL_zero n
  simp only [Lib.repeatL,List.replicate_succ] at this ⊢
  rw [this];rfl
def prRepeat:Prims:=onPr 43 fun args h=>match args with
 | [.txt [.by [0]],.lit (.int .i64 (.ofNat n))]=>if Nat.ble n 100000 then fNat n fun n=>some (.ok (.txt [.zr n],h)) else none
 | _=>none
theorem prRepeat_ok{F:Funs}:Qc F Tryz.prog prRepeat:=by
 refine Qc.on fun args h v h' hr e w0 w vs H hv=>?_
 split at hr
 rotate_left
 ·cases hr
 rename_i n
 split at hr
 rotate_left
 ·cases hr
 rename_i hn
 rw [Vv] at hr
 cases hr
 obtain ⟨v1,l1,hl1,g1,v2,l2,hl2,g2,g3⟩:=hv
 have e2:v2=.int .i64 (.ofNat n):=g2
 have e1:=g1.2
 have e3:l2=[]:=g3
 subst e2;subst e3;subst hl2
 have hvs:vs=#[v1,.int .i64 (.ofNat n)]:=by apply Array.ext';exact hl1
 subst hvs
 have hs:v1=.string (Qb [0]):=by rw [e1];rfl
 subst hs
 have hn':n≤100000:=by simpa using hn
 have:=Any.strings_Repeat (P:=Tryz.prog) Tryz.layRepeat Tryz.extraRepeat (Qb [0]) n w (by omega) (by simp [Qb,ByteArray.size];omega)
 refine this.mono ?_
 rintro en w' ⟨rfl,hb⟩
 refine ⟨_,rfl,e,Env.le_refl _,⟨⟨trivial,trivial⟩,?_⟩,H.mono hb⟩
 have:(Qb [0]).data.toList=[(0:UInt8)]:=rfl
 rw [this,repeatL_zero]
 simp [den,Ck.den,Qb]
end
end Go.Proofs.YthekdeikodppkaaGreatDoor
namespace Go.Proofs
open Go.Shelf Go.RowKit
def Tryz.layCompare_ren:Go.Shelf.Ren:=⟨fun | 106=>187 | 213=>263 | 265=>320 | n=>n,fun | 9=>9 | 3=>3 | n=>n,fun | n=>n⟩
theorem Tryz.layCompare:Go.Proofs.Lays.n106 Tryz.prog Tryz.layCompare_ren:={
 mixed:=by kernel_rfl
 f106:=Tryz.func187.trans (congrArg some (by kernel_rfl))
 f213:=Tryz.func263.trans (congrArg some (by kernel_rfl))
 f265:=Tryz.func320.trans (congrArg some (by kernel_rfl))
 t3:=Tryz.underlying3
 a3:=Tryz.isAgg3
 z3:=Tryz.sizeOf3
 v3:=Tryz.zeroValue3
 t9:=Tryz.underlying9
 a9:=Tryz.isAgg9
 z9:=Tryz.sizeOf9
 v9:=Tryz.zeroValue9 }
end Go.Proofs
namespace Go.Proofs.YthekdeikodppkaaGreatDoor
open Go.RowKit
set_option maxHeartbeats 800000 in
theorem ptcompare_any{a b:ByteArray}(ha:a.size≤4096)(hb:b.size≤4096)(w:World):Calls Tryz.prog 124 #[.string a,.string b] w (fun e w'=>e=.returned (.int .i64 (cmpI (pkey a) (pkey b)))∧w'=w):=by
 have hC:=jd (Any.strings_Compare (P:=Tryz.prog) Tryz.layCompare a b w)
 rw [pkey_cmp ha hb] at hC
 obtain ⟨c,hc⟩:∃ c,Hid (cmpI (pkey a) (pkey b)=c):=⟨_,rfl⟩
 rw [hc.out] at hC ⊢
 go_enter Tryz.func124,Tryz.ntmps124
 go_wp2_with fail
 refine hC.out.mono ?_
 rintro e w1 ⟨rfl,rfl⟩
 go_wp2
 go_ret
 exact ⟨rfl,rfl⟩
def fkey(x:FileP):Int:=pkey x.path
def fok(x:FileP):Prop:=x.path.size≤4096
set_option maxHeartbeats 1600000 in
theorem fmcmp_any(w0:World)(ps:List Piece)(B:Nat):SF.Cmps w0 ps B fok fkey:=by
 intro wz row H0 x y hx hy
 have H:=(Own.start wz).alloc2 (.cells #[.string x.path,.string x.data] 47) (.cells #[.string y.path,.string y.data] 47)
 have hC:=jd (ptcompare_any hx hy)
 rw [show cmpI (pkey x.path) (pkey y.path)=cmpI (fkey x) (fkey y) from rfl] at hC
 obtain ⟨c,hc⟩:∃ c,Hid (cmpI (fkey x) (fkey y)=c):=⟨_,rfl⟩
 rw [hc.out] at hC ⊢
 unfold SF.ca SF.cg fval
 go_enter Tryz.func123,Tryz.ntmps123
 go_upto_region 1 with (fail)
 generalize (wz.alloc _).alloc _=w1 at *
 obtain ⟨gr,hgr⟩:∃ g,wz.heap.size+1=g:=⟨_,rfl⟩
 rw [hgr] at H ⊢
 generalize wz.heap.size=g at *
 clear hgr
 have c0:=H.cells
 have c1:=(H.front 1 rfl).cells
 go_wp2_with fail
 refine (hC.out _).mono ?_
 rintro e w2 ⟨rfl,hw2⟩
 obtain rfl:w1=w2:=hw2.symm
 go_wp2
 go_ret
 exact ⟨_,rfl,rfl,H.bare⟩
end Go.Proofs.YthekdeikodppkaaGreatDoor
namespace Go.Proofs.YthekdeikodppkaaGreatDoor
open Go.RowKit
theorem fileInfo:(Tryz.prog.info? 47).map (fun i=>(i.zero,i.size,i.bytes))=some (some (.agg #[.string ⟨#[]⟩,.string ⟨#[]⟩]),2,32):=by kernel_rfl
theorem frows_one(l:List FileP):∀ u∈rows fe l,u.oneCell'=true:=by
 intro u hu
 rw [rows,List.mem_flatMap] at hu
 obtain ⟨x,-,hx⟩:=hu
 exact SF.e_one x u hx
set_option maxRecDepth 100000 in
set_option maxHeartbeats 1600000 in
theorem fmclone_any{w:World}{v:Value}{n:Nat}{l:List FileP}(hr:Rd w 2 v n (rows fe l))(hn:n≤1000000) :
 Calls Tryz.prog 121 #[v] w (Ret fun r w'=>Own w w' (slc 47 2 r n (rows fe l)::[])):=by
 obtain ⟨a,c,rfl,hc1,hc2⟩:=hr.shape
 cases a with
 | none=>
  obtain ⟨hl,a',c',e,h1,h2,h3,h4⟩:=id hr
  cases e
  obtain ⟨rfl,rfl⟩:=h3 rfl
  have hz:rows fe l=[]:=eJ (by rw [hl])
  rw [hz]
  clear hr h4 hl h3 hz
  have heq:∀ w,(binOp .eql 22 (.slice none 0 0) (.slice none 0 0)).run Tryz.prog w=.ok (.bool true) w:=fun w=>Lib.run_eql_slice_nil w _ _ none 0 0 0 0 Tryz.underlying22
  go_enter Tryz.func121,Tryz.ntmps121
  go_wp2
  go_ret
  exact ⟨_,rfl,(Own.start w).nil 47 2⟩
 | some ad=>
  have H:=(Own.start w).made [] 47 2 0 rfl (by decide)
  have hr2:=hr.old H
  clear hr
  have heq:∀ w,(binOp .eql 22 (.slice (some ad) n c) (.slice none 0 0)).run Tryz.prog w=.ok (.bool false) w:=fun w=>Lib.run_eql_slice_nil w _ _ (some ad) n c 0 0 Tryz.underlying22
  go_enter Tryz.func121,Tryz.ntmps121
  go_wp2_with (at_builtin;refine Qn rfl _ _ rfl Tryz.underlying22 fileInfo rfl (by decide) rfl H hr2 (frows_one _) (by omega) (by omega) ?_;clear H hr2;intro v' w' H)
  rw [Nat.zero_add,List.nil_append] at H
  go_wp2
  go_ret
  exact ⟨_,rfl,H⟩
theorem fmins_nil(w:World):Calls Tryz.prog 261 #[.slice none 0 0,.int .i64 0,.int .i64 0,SF.cf 0] w (Ret fun _ w'=>w'=w):=by
 go_enter Tryz.func261,Tryz.ntmps261
 go_wp2_with fail
 go_loopw [8] (fun v8 wx=>v8=.int .i64 1∧wx=w) (fun _ _=>0)
 case atStart=>exact ⟨by go_num,rfl⟩
 case round=>
  obtain ⟨rfl,rfl⟩:=hrel
  go_wp2
  go_end0
  exact ⟨_,rfl,rfl⟩
set_option maxHeartbeats 1600000 in
theorem fmstab_nil(w:World):Calls Tryz.prog 186 #[.slice none 0 0,.int .i64 0,SF.cf 0] w (Ret fun _ w'=>w'=w):=by
 have hI:=jd fmins_nil
 go_enter Tryz.func186,Tryz.ntmps186
 go_wp2_with fail
 go_loopw [7,8] (fun v7 v8 wx=>v7=.int .i64 0∧v8=.int .i64 20∧wx=w) (fun _ _ _=>0)
 case atStart=>exact ⟨by go_num,by go_num,rfl⟩
 case round=>
  obtain ⟨rfl,rfl,rfl⟩:=hrel
  go_wp2_with fail
  refine (hI.out _).mono ?_
  rintro e w2 ⟨_,rfl,hw2⟩
  obtain rfl:wr=w2:=hw2.symm
  go_wp2_with fail
  go_loopw [6,7,8] (fun v6 _ _ wx=>v6=.int .i64 20∧wx=wr) (fun _ _ _ _=>0)
  case atStart=>exact ⟨rfl,rfl⟩
  case round=>
   obtain ⟨rfl,hw3⟩:=hrel
   go_wp2
   go_end0
   exact ⟨_,rfl,(by first | exact hw3 | rfl)⟩
set_option maxRecDepth 100000 in
set_option maxHeartbeats 1600000 in
theorem fmsorted_any{w0 w:World}{ps:List Piece}{v:Value}{n:Nat}{l:List FileP}(hl:l.length=n)(hn:n≤1000000)(hok:∀ x∈l,fok x)(H:Own w0 w (slc 47 2 v n (rows fe l)::ps)) :
 Calls Tryz.prog 122 #[v,SF.cf 0] w (Ret fun _ w'=>Own w0 w' (slc 47 2 v n (rows fe (sortF fkey l))::ps)):=by
 rcases H.slc_cases with ⟨rfl,rfl,hx,H2⟩ | ⟨g,cap,cur,rfl,-,hc1,hc2,-,-,-⟩
 ·obtain rfl:=eJ hl
  have hI:=jd fmstab_nil
  go_enter Tryz.func122,Tryz.ntmps122
  go_wp2_with fail
  refine (hI.out _).mono ?_
  rintro e w2 ⟨_,rfl,hw2⟩
  obtain rfl:w=w2:=hw2.symm
  go_wp2
  go_end0
  exact ⟨_,rfl,H⟩
 ·have hS:=jd (SF.stable_any (fmcmp_any w0 ps 0) hok hl.symm hn H)
  go_enter Tryz.func122,Tryz.ntmps122
  go_wp2_with fail
  refine hS.out.mono ?_
  rintro e w2 ⟨_,rfl,H2⟩
  go_wp2
  go_end0
  exact ⟨_,rfl,H2⟩
set_option maxRecDepth 100000 in
set_option maxHeartbeats 1600000 in
theorem fmsort_any{w:World}{v:Value}{n:Nat}{l:List FileP}(hr:Rd w 2 v n (rows fe l))(hn:n≤1000000)(hok:∀ x∈l,fok x) :
 Calls Tryz.prog 75 #[v] w (Ret fun r w'=>Own w w' (slc 47 2 r n (rows fe (sortF fkey l))::[])):=by
 have hl:l.length=n:=by have:=hr.len;rw [Qp fe (k:=2) SF.e_length] at this;omega
 have hC:=jd (fmclone_any hr hn)
 have hS:=jd fun w' v' (h:Own w w' (slc 47 2 v' n (rows fe l)::[]))=>fmsorted_any hl hn hok h
 clear hr
 go_enter Tryz.func75,Tryz.ntmps75
 go_wp2_with fail
 refine hC.out.mono ?_
 rintro e w2 ⟨r,rfl,H2⟩
 go_wp2_with fail
 refine (hS.out _ _ H2).mono ?_
 rintro e w3 ⟨_,rfl,H3⟩
 go_wp2
 go_ret
 exact ⟨_,rfl,H3⟩
end Go.Proofs.YthekdeikodppkaaGreatDoor
namespace Go.Proofs
open Go.Shelf Go.RowKit
def Tryz.laySearch_ren:Go.Shelf.Ren:=⟨fun | 25=>116 | 31=>181 | 32=>182 | 37=>257 | n=>n,fun | 22=>34 | 3=>3 | 4=>4 | 40=>81 | 0=>0 | n=>n,fun | n=>n⟩
theorem Tryz.laySearch:Go.Proofs.Lays2.n25 Tryz.prog Tryz.laySearch_ren:={
 mixed:=by kernel_rfl
 f25:=Tryz.func116.trans (congrArg some (by kernel_rfl))
 f31:=Tryz.func181.trans (congrArg some (by kernel_rfl))
 f32:=Tryz.func182.trans (congrArg some (by kernel_rfl))
 f37:=Tryz.func257.trans (congrArg some (by kernel_rfl))
 t0:=Tryz.underlying0
 a0:=Tryz.isAgg0
 z0:=Tryz.sizeOf0
 v0:=Tryz.zeroValue0
 t3:=Tryz.underlying3
 a3:=Tryz.isAgg3
 z3:=Tryz.sizeOf3
 v3:=Tryz.zeroValue3
 t4:=Tryz.underlying4
 a4:=Tryz.isAgg4
 z4:=Tryz.sizeOf4
 v4:=Tryz.zeroValue4
 t22:=Tryz.underlying34
 a22:=Tryz.isAgg34
 z22:=Tryz.sizeOf34
 v22:=Tryz.zeroValue34
 t40:=Tryz.underlying81
 a40:=Tryz.isAgg81
 z40:=Tryz.sizeOf81
 v40:=Tryz.zeroValue81 }
end Go.Proofs
namespace Go.Proofs.YthekdeikodppkaaGreatDoor
open Go.RowKit
def nts(l:List Nat):List Value:=l.map fun (n:Nat)=>Value.int .i64 (n:Int)
theorem Zj(l:List Nat):(nts l).length=l.length:=List.length_map _
theorem nts_append(a b:List Nat):nts (a++b)=nts a++nts b:=List.map_append
theorem nts_get{l:List Nat}{i x:Nat}(h:l[i]?=some x):(nts l)[i]?=some (.int .i64 x):=by rw [nts,List.getElem?_map,h];rfl
theorem low_take{want:List Nat}(k:Nat)(h:want.Pairwise (· < ·)):want.take (Jb want k).length=Jb want k∧(want.drop (Jb want k).length).map (· - k)=highF want k∧∀ x∈want.drop (Jb want k).length,k≤x:=by
 have h1:=split_want k h
 have e1:want.take (Jb want k).length=Jb want k:=by
  conv=>lhs;rw [h1]
  rw [show (Jb (Jb want k++(highF want k).map (· + k)) k)=Jb want k by rw [← h1]]
  exact List.take_left
 have e2:want.drop (Jb want k).length=(highF want k).map (· + k):=by
  conv=>lhs;rw [h1]
  rw [show (Jb (Jb want k++(highF want k).map (· + k)) k)=Jb want k by rw [← h1]]
  exact List.drop_left
 refine ⟨e1,?_,?_⟩
 ·rw [e2,List.map_map]
  conv=>rhs;rw [← List.map_id (highF want k)]
  refine List.map_congr_left fun x _=>?_
  simp
 ·rw [e2]
  intro x hx
  obtain ⟨y,-,rfl⟩:=List.mem_map.1 hx
  omega
theorem mkLow_le(want:List Nat)(k:Nat):(Jb want k).length≤want.length:=List.length_filter_le _ _
set_option maxRecDepth 100000 in
set_option maxHeartbeats 6400000 in
theorem mupart_any{w:World}{b o c n:Nat}{want:List Nat}(k:Nat)(hr:Rd w 1 (.slice (some ⟨b,o,none⟩) n c) n (nts want))(hn:n≤1000000)(hk:k≤1000000)(hp:want.Pairwise (· < ·))(hb:∀ x∈want,x<1000000) :
 Calls Tryz.prog 69 #[.slice (some ⟨b,o,none⟩) n c,.int .i64 k] w (Ret fun r w'=>∃ u,r=.tuple #[.slice (some ⟨b,o,none⟩) (Jb want k).length c,u]∧Own w w' (slc 3 1 u (highF want k).length (nts (highF want k))::[])):=by
 have hl:want.length=n:=by have:=hr.len;rw [Zj] at this;omega
 have hnc:n≤c∧c≤9223372036854775807:=by obtain ⟨_,_,e,g1,g2⟩:=hr.shape;cases e;exact ⟨g1,g2⟩
 obtain ⟨hc1,hc2⟩:=hnc
 obtain ⟨t1,t2,t3⟩:=low_take k hp
 have t4:=mkLow_le want k
 obtain ⟨p,hpp⟩:∃ p,Hid ((Jb want k).length=p):=⟨_,rfl⟩
 rw [hpp.out] at t1 t2 t3 t4 ⊢
 obtain ⟨D,hD⟩:∃ D,Hid (want.drop p=D):=⟨_,rfl⟩
 rw [hD.out] at t2 t3
 rw [← t2]
 have hDl:D.length=n-p:=by rw [← hD.out,List.length_drop,hl]
 have hB:=Any.slices_BinarySearch_int (P:=Tryz.prog) Tryz.laySearch b o n c (want.map fun (x:Nat)=>(x:Int)) k w (by rw [List.length_map,hl];exact Nat.le_refl _) (by omega) (fun j hj=>by
  rw [List.length_map] at hj
  have:=Rd.cell hr (j:=j) (u:=.int .i64 (want[j]:Nat)) (nts_get (List.getElem?_eq_getElem hj))
  rw [this,List.getD_eq_getElem?_getD,List.getElem?_map,List.getElem?_eq_getElem hj]
  rfl) (by
  rw [List.take_of_length_le (by rw [List.length_map,hl];exact Nat.le_refl _),List.pairwise_map]
  exact hp.imp fun h=>by omega)
 rw [List.take_of_length_le (by rw [List.length_map,hl];exact Nat.le_refl _)] at hB
 have hcount:(want.map fun (x:Nat)=>(x:Int)).countP (· < (k:Int))=p:=by
  rw [List.countP_map,← hpp.out,Jb,← List.countP_eq_length_filter]
  refine List.countP_congr fun x _=>?_
  simp
 rw [hcount] at hB
 obtain ⟨cb,hcb⟩:∃ cb,Hid ((want.map fun (x:Nat)=>(x:Int)).contains (k:Int)=cb):=⟨_,rfl⟩
 rw [hcb.out] at hB
 replace hB:=jd hB
 obtain ⟨tv,htv⟩:∃ v,Hid (sliced (some ⟨b,o,none⟩) p n c 1=v):=⟨_,rfl⟩
 have hsl:∀ w,(Instr.sliceAt 34 (.slice (some ⟨b,o,none⟩) n c) (some (.int .i64 (p:Int))) none none).run Tryz.prog w=.ok tv w:=fun w=>slc_low (by kernel_rfl) (fun _=>by kernel_rfl) (by omega) htv.out w
 have hrd:Hid (∀ w' qs,Own w w' qs→Rd w' 1 tv (n-p) (nts D)):=jd fun w' qs h=>by
  have hr2:=(hr.old h).cutOf (k:=p) (m:=n) (by omega) (Nat.le_refl _)
  rw [htv.out,Nat.mul_one,Nat.mul_one,nts,List.take_of_length_le (by rw [List.length_map];omega),← List.map_drop,hD.out] at hr2
  exact hr2
 have H0:=Own.start w
 obtain ⟨ta,tc,rfl⟩:∃ ta tc,tv=.slice ta (n-p) tc:=⟨_,_,htv.out.symm⟩
 obtain ⟨m,hm⟩:∃ m,Hid (n-p=m):=⟨_,rfl⟩
 rw [hm.out] at hrd hsl hDl
 have hm9:m≤1000000:=by have:=hm.out;omega
 have hpc:p≤c:=by omega
 have hpcI:(p:Int)≤(c:Int):=by omega
 have hDs:Hid (∀ x∈D,k≤x∧x<1000000):=jd fun x hx=>⟨t3 x hx,hb x (by rw [← hD.out] at hx;exact List.mem_of_mem_drop hx)⟩
 clear hr hp hb t1 t2 t3 hcount htv hD hcb hpp hl
 go_enter Tryz.func69,Tryz.ntmps69
 go_wp2_with fail
 refine hB.out.mono ?_
 rintro e w1 ⟨rfl,q,rfl⟩
 have H:=(H0.drewN q).nil 3 1
 clear H0
 generalize w.drewN q=w1 at *
 replace H:Own w w1 (slc 3 1 (.slice none 0 0) 0 (nts ((D.take 0).map (· - k)))::[]):=H
 go_wp2_with fail
 go_loopw [8,10,21] (fun v8 _ v21 wx=>∃ i:Nat,v21=.int .i64 i∧i≤m∧Own w wx (slc 3 1 v8 i (nts ((D.take i).map (· - k)))::[])) (fun _ _ v21 _=>m-(intOf v21).toNat)
 case atStart=>exact ⟨0,by go_num,by omega,H⟩
 case round=>
  clear H
  obtain ⟨i,rfl,hi,H⟩:=hrel
  obtain ⟨a8,c8,rfl,g1,g2⟩:=H.rd.shape
  by_cases him:i<m
  ·have hiI:(i:Int)<(m:Int):=by omega
   obtain ⟨x,hx⟩:=Ql (l:=D) (k:=i) (by omega)
   have hxk:=hDs.out x (List.mem_of_getElem? hx)
   obtain ⟨hxk1,hxk2⟩:=hxk
   have hrd1:=hrd.out _ _ H
   obtain ⟨b2,o2,c2,e,-⟩:=Rd.some hrd1 (by rw [Zj];omega)
   cases e
   have hcell:=hrd1.cell (nts_get hx)
   obtain ⟨y,hy⟩:∃ y,Hid (x-k=y):=⟨_,rfl⟩
   have ey:IntKind.i64.wrap ((x:Int)-(k:Int))=(y:Int):=by have:=hy.out;rw [IntWalk.i64_in _ ⟨by omega,by omega⟩];omega
   have hst:Hid ((D.take (i+1)).map (· - k)=(D.take i).map (· - k)++[y]):=jd (by rw [List.take_add_one,hx];simp [hy.out])
   replace hx:=jd hx
   clear hrd1
   go_wp2_with (at_builtin;refine Qf (news:=nts [y]) rfl _ _ rfl Tryz.underlying34 Vr rfl (by decide) rfl H rfl rfl rfl (by simp [nts,Value.oneCell']) (by omega) (by omega) ?_;clear H g1 g2 hcell;intro v9 w9 H)
   rw [← nts_append,← hst.out] at H
   obtain ⟨a9,c9,rfl,g1,g2⟩:=H.rd.shape
   go_roundw
   case rel=>exact ⟨i+1,by go_num,by omega,H⟩
   case measure=>simp [intOf];omega
  ·obtain rfl:i=m:=by omega
   have hnI:¬ (i:Int)<(i:Int):=by omega
   rw [List.take_of_length_le (by omega)] at H
   go_wp2
   go_ret2
   exact ⟨_,rfl,_,rfl,by first | exact H | (rw [List.length_map,hDl];exact H)⟩
set_option maxRecDepth 100000 in
set_option maxHeartbeats 6400000 in
theorem murises_any{w:World}{b o c n N:Nat}{want:List Nat}(hr:Rd w 1 (.slice (some ⟨b,o,none⟩) n c) n (nts want))(hn:n≤1000000)(h1:1≤n)(hp:want.Pairwise (· < ·))(hb:∀ x∈want,x<N)(hN:N≤1000000) :
 Calls Tryz.prog 36 #[.slice (some ⟨b,o,none⟩) n c,.int .i64 N] w (fun e w'=>e=.returned (.bool true)∧w'=w):=by
 have hl:want.length=n:=by have:=hr.len;rw [Zj] at this;omega
 have h1I:(0:Int)<(n:Int):=by omega
 have HE:Hid (∀ (i x:Nat),want[i]?=some x→w.cell? ⟨b,o+i,none⟩=some (.int .i64 x)∧x<N):=jd fun i x h=>⟨Rd.cell hr (nts_get h),hb x (List.mem_of_getElem? h)⟩
 have HP:Hid (∀ (i x y:Nat),want[i]?=some x→want[i+1]?=some y→x<y):=jd fun i x y hx hy=>by
  have g1:=gJ hx
  have g2:=gJ hy
  obtain ⟨k1,e1⟩:=g1
  obtain ⟨k2,e2⟩:=g2
  have:=List.pairwise_iff_getElem.1 hp i (i+1) k1 k2 (by omega)
  rw [e1,e2] at this
  exact this
 clear hr hp hb
 go_enter Tryz.func36,Tryz.ntmps36
 go_wp2_with fail
 go_loopw [5,6,9] (fun _ _ v9 wx=>∃ i:Nat,v9=.int .i64 i∧i≤n∧wx=w) (fun _ _ v9 _=>n-(intOf v9).toNat)
 case atStart=>exact ⟨0,by go_num,by omega,rfl⟩
 case round=>
  obtain ⟨i,rfl,hi,rfl⟩:=hrel
  by_cases hin:i<n
  ·have hiI:(i:Int)<(n:Int):=by omega
   obtain ⟨x,hx⟩:=Ql (l:=want) (k:=i) (by omega)
   obtain ⟨c0,hxN⟩:=HE.out i x hx
   have hx0:¬ (x:Int)<0:=by omega
   have hxI:¬ (N:Int)≤(x:Int):=by omega
   by_cases h0:i=0
   ·subst h0
    rw [Nat.add_zero] at c0
    replace hx:=jd hx
    go_wp2_with fail
    go_roundw
    case rel=>exact ⟨1,by go_num,by omega,(by first | rfl | trivial)⟩
    case measure=>simp [intOf];omega
   ·obtain ⟨j,rfl⟩:∃ j,i=j+1:=⟨i-1,by omega⟩
    obtain ⟨y,hy⟩:=Ql (l:=want) (k:=j) (by omega)
    obtain ⟨c1,-⟩:=HE.out j y hy
    have hyx:=HP.out j y x hy hx
    have hyxI:¬ (x:Int)≤(y:Int):=by omega
    have hj0:(0:Int)<((j+1:Nat):Int):=by omega
    have ej:IntKind.i64.wrap (((j+1:Nat):Int)-1)=(j:Int):=by rw [IntWalk.i64_in _ ⟨by omega,by omega⟩];omega
    have hjn:(j:Int)<(n:Int):=by omega
    obtain ⟨i,hi9⟩:∃ i,Hid (j+1=i):=⟨_,rfl⟩
    rw [hi9.out] at c0 hj0 ej hiI hin ⊢
    replace hx:=jd hx
    replace hy:=jd hy
    go_wp2_with fail
    go_roundw
    case rel=>exact ⟨i+1,by go_num,by omega,(by first | rfl | trivial)⟩
    case measure=>simp [intOf];omega
  ·obtain rfl:i=n:=by omega
   have hnI:¬ (i:Int)<(i:Int):=by omega
   have h1N:0<i:=by omega
   go_wp2
   go_ret
   exact ⟨rfl,rfl⟩
end Go.Proofs.YthekdeikodppkaaGreatDoor
namespace Go.Proofs.YthekdeikodppkaaGreatDoor
open Go.RowKit
section
variable {w0:World} {P:Program} {ops:Array Oper} {nw:List Nat} {R:Act→Prop} {a:Act} {o:Oper} {rest:List Oper} {i:Nat}
theorem calm_callB{f:FuncId}{args:Array Value}{l:List ByteArray}{X:Sig→List Piece}(hX:∀ σ v,X (σ.upd i v)=X σ)(hi:i∈nw)(hr:∀ w,(execOp a.eval o).run P w=.ok (.enter f args) w)
 (hc:∀ w,Own w0 w []→Calls P f args w (Ret fun v w'=>Own w w' (slc 9 1 v l.length (txs l)::[])))
 (h:calm P ops (fun σ w=>Own w0 w (X σ++newS l (σ i))) nw R (i+1) rest a):calm P ops (fun σ w=>Own w0 w (X σ++newS l (σ i))) nw R i (o::rest) a:=
 ncalm_call hi hr (fun σ w hS=>by
  refine (hc w hS.bare).mono ?_
  rintro e w' ⟨v,rfl,h2⟩
  refine ⟨v,rfl,?_⟩
  have h3:Own w0 w (X σ):=Own.tailOf _ (hS.perm (List.perm_append_comm (l₁:=X σ) (l₂:=newS l (σ i))))
  have h4:=(h3.join h2).perm (List.perm_append_comm (l₁:=[slc 9 1 v l.length (txs l)]) (l₂:=X σ))
  have e2:(σ.upd i v) i=some v:=by simp [Sig.upd]
  show Own w0 w' (X (σ.upd i v)++newS l ((σ.upd i v) i))
  rw [hX,e2]
  exact h4) h
theorem calm_callF{f:FuncId}{args:Array Value}{l:List ByteArray}{X:Sig→List Piece}(hX:∀ σ v,X (σ.upd i v)=X σ)(hi:i∈nw)(hr:∀ w,(execOp a.eval o).run P w=.ok (.enter f args) w)
 (hc:∀ w,Own w0 w []→Calls P f args w (Ret fun v w'=>Own w w' (slc 9 1 v l.length (txs l)::[])))
 (h:calm P ops (fun σ w=>Own w0 w (newS l (σ i)++X σ)) nw R (i+1) rest a):calm P ops (fun σ w=>Own w0 w (newS l (σ i)++X σ)) nw R i (o::rest) a:=
 ncalm_call hi hr (fun σ w hS=>by
  refine (hc w hS.bare).mono ?_
  rintro e w' ⟨v,rfl,h2⟩
  refine ⟨v,rfl,?_⟩
  have h3:Own w0 w (X σ):=Own.tailOf _ hS
  have e2:(σ.upd i v) i=some v:=by simp [Sig.upd]
  show Own w0 w' (newS l ((σ.upd i v) i)++X (σ.upd i v))
  rw [hX,e2]
  exact h3.join h2) h
end
abbrev Zr(want:List Nat)(l:List ByteArray):List ByteArray:=Kn noneF nodeF want l
theorem want_len_from{n:Nat}:∀ (l:List Nat) (a:Nat),l.Pairwise (· < ·)→(∀ x∈l,a≤x∧x<n)→l=[]∨a+l.length≤n
 | [],_,_,_=>.inl rfl
 | x::r,a,h1,h2=>by
  right
  have hx:=h2 x (by simp)
  rw [List.pairwise_cons] at h1
  rcases want_len_from r (a+1) h1.2 (fun y hy=>⟨by have:=h1.1 y hy;omega,(h2 y (by simp [hy])).2⟩) with h | h
  ·rw [h,List.length_singleton];omega
  ·rw [List.length_cons];omega
theorem want_len{n:Nat}{l:List Nat}(h1:l.Pairwise (· < ·))(h2:∀ x∈l,x<n):l.length≤n:=by
 rcases want_len_from l 0 h1 (fun x hx=>⟨by omega,h2 x hx⟩) with h | h
 ·rw [h];exact Nat.zero_le _
 ·omega
theorem count_le:∀ (d n:Nat) (want:List Nat),n≤d→1≤n→Jw n want≤n:=by
 intro d
 induction d with
 | zero=>intro n want h h1;omega
 | succ d ih=>
  intro n want h h1
  rw [Jw]
  split
  ·omega
  ·split
   ·omega
   ·have hbd:=Jo n (by omega)
    have a1:=ih (cutN n) (Jb want (cutN n)) (by omega) (by omega)
    have a2:=ih (n-cutN n) (highF want (cutN n)) (by omega) (by omega)
    omega
set_option maxRecDepth 100000 in
set_option maxHeartbeats 12800000 in
theorem muprove_any:∀ (d:Nat) (w:World) (v u:Value) (n m:Nat) (l:List ByteArray) (want:List Nat),n≤d→1≤n→n≤1000000→Rd w 1 v n (txs l)→Rd w 1 u m (nts want)→(∀ s∈l,s.size≤1000000)→want.Pairwise (· < ·)→(∀ x∈want,x<n) →
 Calls Tryz.prog 37 #[.int .i64 32,u,v] w (Ret fun r w'=>Own w w' (slc 9 1 r (Zr want l).length (txs (Zr want l))::[])):=by
 intro d
 induction d with
 | zero=>intro w v u n m l want hd hn1;omega
 | succ d ih=>
  intro w v u n m l want hd hn1 h9 hr hru hs hp hb
  obtain ⟨a,c,rfl,hc1,hc2⟩:=hr.shape
  obtain ⟨ua,uc,rfl,huc1,huc2⟩:=hru.shape
  have hl:l.length=n:=by have:=hr.len;rw [Qr] at this;omega
  have hul:want.length=m:=by have:=hru.len;rw [Zj] at this;omega
  have H:=Own.start w
  by_cases hm0:m=0
  ·subst hm0
   obtain rfl:=eJ hul
   have hpf:Zr [] l=[mroot l]:=by rw [Zr,Kn];simp
   have hR:=mkroot_any n w _ n l (Nat.le_refl _) (by omega) hr hs
   rw [hpf]
   obtain ⟨R,hRR⟩:∃ R,Hid (mroot l=R):=⟨_,rfl⟩
   rw [hRR.out] at hR ⊢
   replace hR:=jd hR
   clear hr hru hs ih hp hb hpf hRR
   go_enter Tryz.func37,Tryz.ntmps37
   go_wp2_with fail
   refine hR.out.mono ?_
   rintro e w1 ⟨rfl,H1⟩
   have H2:=H1.made [.string R] 9 1 1 rfl (by decide)
   go_wp2
   go_ret
   exact ⟨_,rfl,H2⟩
  ·have hm0I:((m:Int)==0)=false:=by simp;omega
   by_cases hn:n=1
   ·subst hn
    have hpf:Zr want l=[]:=by rw [Zr,Kn,if_neg (by intro e;rw [e] at hul;exact hm0 hul.symm),dif_pos (by omega)]
    rw [hpf]
    clear hr hru hs ih hp hb hpf
    go_enter Tryz.func37,Tryz.ntmps37
    go_wp2
    go_ret
    exact ⟨_,rfl,H.nil 9 1⟩
   ·have h2:2≤n:=by omega
    obtain ⟨k,hk⟩:∃ k,Hid (cutN n=k):=⟨_,rfl⟩
    have hbd:=Jo n h2
    rw [hk.out] at hbd
    obtain ⟨k1,k2,k3⟩:=hbd
    have hC:=jd (Kf n (by omega))
    rw [hk.out] at hC
    have hpf:Zr want l=Zr (Jb want k) (l.take k)++Zr (highF want k) (l.drop k):=by
     rw [Zr,Kn,if_neg (by intro e;rw [e] at hul;exact hm0 hul.symm),dif_neg (by omega),hl,hk.out]
    have hlen:(Zr want l).length≤n:=by rw [Zr,prove_count _ _ _ (Nat.le_refl _),hl];exact count_le n n want (Nat.le_refl _) hn1
    rw [hpf] at hlen ⊢
    have n1I:((n:Int)==1)=false:=by simp;omega
    obtain ⟨b,o,c',e,-⟩:=Rd.some hru (by rw [Zj];omega)
    cases e
    have hm9:m≤1000000:=by have:=want_len hp hb;omega
    have hP:=jd (mupart_any k hru hm9 (by omega) hp (fun x hx=>by have:=hb x hx;omega))
    obtain ⟨tv,htv⟩:∃ v,Hid (sliced a k n c 1=v):=⟨_,rfl⟩
    have hsl:∀ w,(Instr.sliceAt 26 (.slice a n c) (some (.int .i64 k)) none none).run Tryz.prog w=.ok tv w:=fun w=>slc_low (by kernel_rfl) (fun _=>by kernel_rfl) (by omega) htv.out w
    obtain ⟨LW,hLW⟩:∃ x,Hid (Jb want k=x):=⟨_,rfl⟩
    obtain ⟨HW,hHW⟩:∃ x,Hid (highF want k=x):=⟨_,rfl⟩
    have hlo:=low_ok (k:=k) hp
    have hhi:=high_ok (k:=k) (n:=n) hp hb
    have htk:=(low_take k hp).1
    have hlle:=mkLow_le want k
    rw [hLW.out,hHW.out] at hP hlen ⊢
    rw [hLW.out] at hlo htk hlle
    rw [hHW.out] at hhi
    obtain ⟨A,hA⟩:∃ A,Hid (Zr LW (l.take k)=A):=⟨_,rfl⟩
    obtain ⟨B,hB⟩:∃ A,Hid (Zr HW (l.drop k)=A):=⟨_,rfl⟩
    rw [hA.out,hB.out] at hlen ⊢
    obtain ⟨p,hpl⟩:∃ p,Hid (LW.length=p):=⟨_,rfl⟩
    rw [hpl.out] at hP htk hlle
    have hkc:k≤c:=by omega
    have hkcI:(k:Int)≤(c:Int):=by omega
    rw [lJ] at hlen
    have HL:Hid (∀ w',Own w w' []→Rd w' 1 (.slice (some ⟨b,o,none⟩) p uc) p (nts LW)):=jd fun w' h=>by
     have hr2:=(hru.old h).take (k:=p) (by omega)
     rw [Nat.mul_one,nts,← List.map_take,htk] at hr2
     exact hr2
    have HA0:Hid (∀ w',Own w w' []→Calls Tryz.prog 37 #[.int .i64 32,.slice (some ⟨b,o,none⟩) p uc,.slice a k c] w' (Ret fun v w2=>Own w' w2 (slc 9 1 v A.length (txs A)::[]))):=jd fun w' h=>by
     have hr2:=(hr.old h).take (k:=k) (by omega)
     rw [Nat.mul_one,txs,← List.map_take] at hr2
     rw [← hA.out]
     exact ih w' _ _ k p (l.take k) LW (by omega) (by omega) (by omega) hr2 (HL.out w' h) (fun s h=>hs s (List.mem_of_mem_take h)) hlo.1 hlo.2
    have HB0:Hid (∀ w' v,Own w w' []→Rd w' 1 v HW.length (nts HW)→Calls Tryz.prog 37 #[.int .i64 32,v,tv] w' (Ret fun v w2=>Own w' w2 (slc 9 1 v B.length (txs B)::[]))):=jd fun w' v h h2=>by
     have hr2:=(hr.old h).cutOf (k:=k) (m:=n) (by omega) (Nat.le_refl _)
     rw [htv.out,Nat.mul_one,Nat.mul_one,txs,List.take_of_length_le (by rw [List.length_map];omega),← List.map_drop] at hr2
     rw [← hB.out]
     exact ih w' _ _ (n-k) HW.length (l.drop k) HW (by omega) (by omega) (by omega) hr2 h2 (fun s h=>hs s (List.mem_of_mem_drop h)) hhi.1 hhi.2
    obtain ⟨na,hna⟩:∃ na,Hid (A.length=na):=⟨_,rfl⟩
    obtain ⟨nb,hnb⟩:∃ na,Hid (B.length=na):=⟨_,rfl⟩
    have hab:na+nb≤1000000:=by rw [← hna.out,← hnb.out];omega
    clear hr hru hs ih hp hb hpf hA hB hk hlo hhi htk hlle hLW hHW hpl hlen HL hul hl htv
    go_enter Tryz.func37,Tryz.ntmps37
    go_wp2_with fail
    refine (hC.out _).mono ?_
    rintro e w1 ⟨rfl,hw1⟩
    obtain rfl:w=w1:=hw1.symm
    go_wp2_with fail
    refine hP.out.mono ?_
    rintro e w2 ⟨_,rfl,u,rfl,H2⟩
    obtain ⟨ua2,uc2,rfl,q1,q2⟩:=H2.rd.shape
    have HBu:Hid (∀ w',Own w2 w' []→Calls Tryz.prog 37 #[.int .i64 32,.slice ua2 HW.length uc2,tv] w' (Ret fun v w3=>Own w' w3 (slc 9 1 v B.length (txs B)::[]))):=jd fun w' h=>HB0.out w' _ (H2.join h).bare (H2.rd.old h)
    have HAu:Hid (∀ w',Own w2 w' []→Calls Tryz.prog 37 #[.int .i64 32,.slice (some ⟨b,o,none⟩) p uc,.slice a k c] w' (Ret fun v w3=>Own w' w3 (slc 9 1 v A.length (txs A)::[]))):=jd fun w' h=>HA0.out w' (H2.join h).bare
    have H3:=Own.start w2
    go_upto_region 7 with (fail)
    refine wp_region_new (fun σ w1=>Own w2 w1 (newS B (σ 11)++newS A (σ 5))) 12 [5,11] (by kernel_rfl) (by kernel_rfl) (by simpa [Sig.no,newS] using H3.drew) ?_
    simp only [List.take_succ_cons,List.take_zero,List.drop_succ_cons,List.drop_zero]
    repeat
     first
     | (refine calm_value (v:=?_) (by decide) rfl (fun σ w1 hS=>?_) ?_
        rotate_left
        ·skip
         first | (go_simp;rfl) | rfl
        simp only [Act.put,putC])
     | (refine calm_skip (by decide) rfl ?_
        simp only [Act.put,putC])
    refine calm_callB (X:=fun σ=>newS B (σ 11)) (fun σ v=>(by simp [Sig.upd])) (by decide) (fun w1=>(by go_simp)) (fun w1 h=>HAu.out w1 h) ?_
    repeat
     first
     | (refine calm_value (v:=?_) (by decide) rfl (fun σ w1 hS=>?_) ?_
        rotate_left
        ·skip
         first | (go_simp;rfl) | rfl
        simp only [Act.put,putC])
     | (refine calm_skip (by decide) rfl ?_
        simp only [Act.put,putC])
    refine calm_callF (X:=fun σ=>newS A (σ 5)) (fun σ v=>(by simp [Sig.upd])) (by decide) (fun w1=>(by go_simp)) (fun w1 h=>HBu.out w1 h) ?_
    refine calm_nil ?_
    intro σ wd hσ HD
    obtain ⟨v1,hv1⟩:=Option.isSome_iff_exists.1 (hσ 5 (by decide))
    obtain ⟨v2,hv2⟩:=Option.isSome_iff_exists.1 (hσ 11 (by decide))
    rw [hv1,hv2] at HD
    replace HD:Own w2 wd (slc 9 1 v2 B.length (txs B)::slc 9 1 v1 A.length (txs A)::[]):=HD
    clear H3
    simp only [Jx,List.foldl_cons,List.foldl_nil,hv1,hv2]
    simp only [Act.put,List.setIfInBounds_toArray,List.set_cons_zero,List.set_cons_succ,List.getElem?_cons_succ,List.getElem?_cons_zero,Option.bind_some,Option.getD_some]
    have hrow:=HD.rd
    rw [hnb.out] at hrow
    have H4:=HD.swap
    rw [hna.out] at H4
    go_wp2_with (at_builtin;refine Qn rfl _ _ rfl Tryz.underlying26 Kd rfl (by decide) rfl H4 hrow (txs_one _) (by omega) (by omega) ?_;clear H4 hrow HD;intro v9 w9 H4)
    go_ret
    refine ⟨_,rfl,?_⟩
    rw [lJ,hna.out,hnb.out,Zi]
    have H5:Own w2 w9 (slc 9 1 v9 (na+nb) (txs A++txs B)::[]):=(H4.front 1 rfl).drop
    exact (((H2.join H5).front 1 rfl).drop)
set_option maxRecDepth 100000 in
set_option maxHeartbeats 3200000 in
theorem muProve_any{w:World}{v u:Value}{n m:Nat}{l:List ByteArray}{want:List Nat}(h1:1≤n)(h9:n≤1000000)(hm:1≤m)(hr:Rd w 1 v n (txs l))(hru:Rd w 1 u m (nts want))(hs:∀ s∈l,s.size≤1000000)(hp:want.Pairwise (· < ·))(hb:∀ x∈want,x<n)(hm9:m≤1000000) :
 Calls Tryz.prog 14 #[.int .i64 32,u,v] w (Ret fun r w'=>∃ q,r=.tuple #[q,.int .i64 0]∧Own w w' (slc 9 1 q (Zr want l).length (txs (Zr want l))::[])):=by
 have hP:=jd (muprove_any n w v u n m l want (Nat.le_refl _) h1 h9 hr hru hs hp hb)
 obtain ⟨a,c,rfl,hc1,hc2⟩:=hr.shape
 obtain ⟨b,o,c',rfl,-⟩:=Rd.some hru (by have:=hru.len;rw [Zj] at this ⊢;omega)
 have hR:=jd (murises_any (N:=n) hru hm9 hm hp hb h9)
 obtain ⟨A,hA⟩:∃ A,Hid (Zr want l=A):=⟨_,rfl⟩
 rw [hA.out] at hP ⊢
 clear hr hru hs hp hb
 go_enter Tryz.func14,Tryz.ntmps14
 go_wp2_with fail
 refine hR.out.mono ?_
 rintro e w1 ⟨rfl,hw1⟩
 obtain rfl:w=w1:=hw1.symm
 go_wp2_with fail
 refine hP.out.mono ?_
 rintro e w1 ⟨q,rfl,H1⟩
 go_wp2
 go_ret2
 exact ⟨_,rfl,q,rfl,H1⟩
theorem split_len{want:List Nat}(k:Nat)(h:want.Pairwise (· < ·)):want.length=(Jb want k).length+(highF want k).length:=by
 have:=congrArg List.length (split_want k h)
 rw [lJ,List.length_map] at this
 exact this
theorem up_drop:∀ (d n:Nat) (want:List Nat) (L P:List ByteArray),n≤d→1≤n→want.Pairwise (· < ·)→(∀ x∈want,x<n)→want.length≤L.length→Jw n want≤P.length→(∀ s∈L,s.size=32)→(∀ s∈P,s.size=32) →
 (upF nodeF n want L P).1.size=32∧(upF nodeF n want L P).2.1=L.drop want.length∧(upF nodeF n want L P).2.2=P.drop (Jw n want):=by
 intro d
 induction d with
 | zero=>intro n want L P h h1;omega
 | succ d ih=>
  intro n want L P h h1 hp hb hL hP sL sP
  rw [Jw] at hP ⊢
  rw [upF]
  by_cases hw:want=[]
  ·rw [if_pos hw] at hP ⊢
   rw [if_pos hw,hw]
   match P,hP with
   | x::r,_=>exact ⟨sP x (by simp),rfl,rfl⟩
  ·rw [if_neg hw] at hP ⊢
   rw [if_neg hw]
   by_cases hn:n<2
   ·rw [dif_pos hn] at hP ⊢
    rw [dif_pos hn]
    have hwl:want.length=1:=by
     have h2:=want_len hp hb
     have h3:=List.length_pos_iff.2 hw
     omega
    rw [hwl] at hL ⊢
    match L,hL with
    | x::r,_=>exact ⟨sL x (by simp),rfl,rfl⟩
   ·rw [dif_neg hn] at hP ⊢
    rw [dif_neg hn]
    have hbd:=Jo n (by omega)
    have hs:=split_len (cutN n) hp
    have hlo:=low_ok (k:=cutN n) hp
    have hhi:=high_ok (k:=cutN n) (n:=n) hp hb
    obtain ⟨a1,a2,a3⟩:=ih (cutN n) (Jb want (cutN n)) L P (by omega) (by omega) hlo.1 hlo.2 (by omega) (by omega) sL sP
    rw [a2,a3]
    obtain ⟨b1,b2,b3⟩:=ih (n-cutN n) (highF want (cutN n)) (L.drop (Jb want (cutN n)).length) (P.drop (Jw (cutN n) (Jb want (cutN n)))) (by omega) (by omega) hhi.1 hhi.2 (by rw [List.length_drop];omega) (by rw [List.length_drop];omega) (fun s h=>sL s (List.mem_of_mem_drop h)) (fun s h=>sP s (List.mem_of_mem_drop h))
    refine ⟨Vk _ _,?_,?_⟩
    ·show (upF nodeF (n-cutN n) (highF want (cutN n)) _ _).2.1=_
     rw [b2,List.drop_drop,← hs]
    ·show (upF nodeF (n-cutN n) (highF want (cutN n)) _ _).2.2=_
     rw [b3,List.drop_drop]
set_option maxRecDepth 100000 in
set_option maxHeartbeats 6400000 in
theorem mucount_any:∀ (d:Nat) (w:World) (u:Value) (n m:Nat) (want:List Nat),n≤d→1≤n→n≤1000000→Rd w 1 u m (nts want)→want.Pairwise (· < ·)→(∀ x∈want,x<n) →
 Calls Tryz.prog 71 #[.int .i64 n,u] w (fun e w'=>e=.returned (.int .i64 (Jw n want:Nat))∧Own w w' []):=by
 intro d
 induction d with
 | zero=>intro w u n m want hd hn1;omega
 | succ d ih=>
  intro w u n m want hd hn1 h9 hru hp hb
  obtain ⟨ua,uc,rfl,huc1,huc2⟩:=hru.shape
  have hul:want.length=m:=by have:=hru.len;rw [Zj] at this;omega
  have H:=Own.start w
  have n0:¬ (n:Int)<1:=by omega
  by_cases hm0:m=0
  ·subst hm0
   obtain rfl:=eJ hul
   have hpf:Jw n []=1:=by rw [Jw];simp
   rw [hpf]
   clear hru ih hp hb hpf
   go_enter Tryz.func71,Tryz.ntmps71
   go_wp2
   go_ret
   exact ⟨rfl,H⟩
  ·have hm0I:((m:Int)==0)=false:=by simp;omega
   have hwne:want≠[]:=by intro e;rw [e] at hul;exact hm0 hul.symm
   by_cases hn:n=1
   ·subst hn
    have hpf:Jw 1 want=0:=by rw [Jw,if_neg hwne,dif_pos (by omega)]
    rw [hpf]
    clear hru ih hp hb hpf
    go_enter Tryz.func71,Tryz.ntmps71
    go_wp2
    go_ret
    exact ⟨rfl,H⟩
   ·have h2:2≤n:=by omega
    obtain ⟨k,hk⟩:∃ k,Hid (cutN n=k):=⟨_,rfl⟩
    have hbd:=Jo n h2
    rw [hk.out] at hbd
    obtain ⟨k1,k2,k3⟩:=hbd
    have hC:=jd (Kf n (by omega))
    rw [hk.out] at hC
    have hpf:Jw n want=Jw k (Jb want k)+Jw (n-k) (highF want k):=by
     rw [Jw,if_neg hwne,dif_neg (by omega),hk.out]
    rw [hpf]
    have n1I:((n:Int)==1)=false:=by simp;omega
    obtain ⟨b,o,c',e,-⟩:=Rd.some hru (by rw [Zj];omega)
    cases e
    have hm9:m≤1000000:=by have:=want_len hp hb;omega
    have hP:=jd (mupart_any k hru hm9 (by omega) hp (fun x hx=>by have:=hb x hx;omega))
    obtain ⟨LW,hLW⟩:∃ x,Hid (Jb want k=x):=⟨_,rfl⟩
    obtain ⟨HW,hHW⟩:∃ x,Hid (highF want k=x):=⟨_,rfl⟩
    have hlo:=low_ok (k:=k) hp
    have hhi:=high_ok (k:=k) (n:=n) hp hb
    have htk:=(low_take k hp).1
    have hlle:=mkLow_le want k
    rw [hLW.out,hHW.out] at hP ⊢
    rw [hLW.out] at hlo htk hlle
    rw [hHW.out] at hhi
    obtain ⟨p,hpl⟩:∃ p,Hid (LW.length=p):=⟨_,rfl⟩
    rw [hpl.out] at hP htk hlle
    obtain ⟨nk,hnk⟩:∃ p,Hid (n-k=p):=⟨_,rfl⟩
    rw [hnk.out] at hhi ⊢
    have enk:IntKind.i64.wrap ((n:Int)-(k:Int))=(nk:Int):=by have:=hnk.out;rw [IntWalk.i64_in _ ⟨by omega,by omega⟩];omega
    have hnk1:1≤nk∧nk≤d∧nk≤1000000∧nk+k=n:=by have:=hnk.out;omega
    have cA:=count_le k k LW (Nat.le_refl _) k3
    have cB:=count_le nk nk HW (Nat.le_refl _) hnk1.1
    have HA:Hid (∀ w',Own w w' []→Calls Tryz.prog 71 #[.int .i64 k,.slice (some ⟨b,o,none⟩) p uc] w' (fun e w2=>e=.returned (.int .i64 (Jw k LW:Nat))∧Own w' w2 [])):=jd fun w' h=>by
     have hr2:=(hru.old h).take (k:=p) (by omega)
     rw [Nat.mul_one,nts,← List.map_take,htk] at hr2
     exact ih w' _ k p LW (by omega) (by omega) (by omega) hr2 hlo.1 hlo.2
    have HB:Hid (∀ w' v,Rd w' 1 v HW.length (nts HW)→Calls Tryz.prog 71 #[.int .i64 nk,v] w' (fun e w2=>e=.returned (.int .i64 (Jw nk HW:Nat))∧Own w' w2 [])):=jd fun w' v h2=>ih w' _ nk HW.length HW hnk1.2.1 hnk1.1 hnk1.2.2.1 h2 hhi.1 hhi.2
    obtain ⟨ca,hca⟩:∃ p,Hid (Jw k LW=p):=⟨_,rfl⟩
    obtain ⟨cb,hcb⟩:∃ p,Hid (Jw nk HW=p):=⟨_,rfl⟩
    rw [hca.out] at HA cA ⊢
    rw [hcb.out] at HB cB ⊢
    have esum:IntKind.i64.wrap ((ca:Int)+(cb:Int))=((ca+cb:Nat):Int):=by rw [IntWalk.i64_in _ ⟨by omega,by omega⟩];omega
    clear hru ih hp hb hpf hk hlo hhi htk hlle hLW hHW hpl hul hwne
    go_enter Tryz.func71,Tryz.ntmps71
    go_wp2_with fail
    refine (hC.out _).mono ?_
    rintro e w1 ⟨rfl,hw1⟩
    obtain rfl:w=w1:=hw1.symm
    go_wp2_with fail
    refine hP.out.mono ?_
    rintro e w2 ⟨_,rfl,u,rfl,H2⟩
    go_wp2_with fail
    refine (HA.out _ H2.bare).mono ?_
    rintro e w3 ⟨rfl,H3⟩
    have H4:=H2.join H3
    go_wp2_with fail
    refine (HB.out w3 u H4.rd).mono ?_
    rintro e w4 ⟨rfl,H5⟩
    go_wp2
    go_ret
    exact ⟨rfl,(H4.join H5).bare⟩
set_option maxHeartbeats 1600000 in
theorem munext_any{w0 w:World}{ps:List Piece}{g off n:Nat}{cs:Array Value}{e:TypeId}{v:Value}{x:ByteArray}{L:List ByteArray}(hcs:cs[off]?=some v)(H:Own w0 w (blk g (.cells cs e)::ps))(hr:Rd w0 1 v n (txs (x::L))) :
 Calls Tryz.prog 117 #[.pointer (some ⟨g,off,none⟩)] w (Ret fun r w'=>r=.string x∧∃ tv,Rd w0 1 tv (n-1) (txs L)∧Own w0 w' (blk g (.cells (cs.setIfInBounds off tv) e)::ps)):=by
 obtain ⟨b,o,c,rfl,hnc,hc2⟩:=Rd.some hr (by simp [txs])
 have hl:n=L.length+1:=by have:=hr.len;rw [Qr] at this;simp at this;omega
 have hoff:off<cs.size:=(Array.getElem?_eq_some_iff.1 hcs).1
 have hcell:Hid (∀ w' qs,Own w0 w' qs→w'.cell? ⟨b,o,none⟩=some (.string x)):=jd fun w' qs h=>by
  have:=Rd.cell (hr.old h) (j:=0) (u:=.string x) (by simp [txs])
  rw [Nat.add_zero] at this
  exact this
 obtain ⟨tv,htv⟩:∃ v,Hid (sliced (some ⟨b,o,none⟩) 1 n c 1=v):=⟨_,rfl⟩
 have hrt:Rd w0 1 tv (n-1) (txs L):=by
  have h2:=hr.cutOf (k:=1) (m:=n) (by omega) (Nat.le_refl _)
  rw [htv.out,List.take_of_length_le (by rw [Qr];simp;omega)] at h2
  exact h2
 have hrt2:Rd w0 1 (.slice (if c=1 then some ⟨b,o,none⟩ else some ⟨b,o+1,none⟩) L.length (c-1)) (n-1) (txs L):=by
  have h:=hrt
  rw [← htv.out] at h
  unfold sliced at h
  have e1:n-1=L.length:=by omega
  rw [e1] at h ⊢
  simpa [Addr.add_lit] using h
 have c0:=hcell.out _ _ H
 have c1:w.cell? ⟨g,off,none⟩=some (.slice (some ⟨b,o,none⟩) n c):=by rw [H.cells,hcs]
 have hn0:(0:Int)<(n:Int):=by omega
 have hn1:(1:Int)≤(n:Int):=by omega
 clear hr hcs hcell hrt htv
 go_enter Tryz.func117,Tryz.ntmps117
 go_wp2_with (refine Jd rfl _ _ rfl rfl H rfl (by kernel_rfl) hoff ?_;clear H c0 c1;intro w7 H)
 all_goals
  have e1:n-1=L.length:=by omega
  rw [e1] at hrt2
  go_ret
  exact ⟨_,rfl,rfl,_,hrt2,H⟩
theorem ucallT{P:Program}{ops:Array Oper}{S:Sig→World→Prop}{nw tw:List Nat}{R:Act→Prop}{a:Act}{o:Oper}{rest:List Oper}{i:Nat}{v:Value}{f:FuncId}{args:Array Value}(hi:i ∉ nw)(hit:i ∉ tw)(hw:Region.wanted o (yielded ops a.tmps)=true)(hr:∀ w,(execOp a.eval o).run P w=.ok (.enter f args) w)
 (hc:∀ σ w,S σ w→Calls P f args w fun e w'=>e=.returned v∧S σ w') (h:Trk.calm P ops S nw tw R (i+1) rest (a.put o.dst v)):Trk.calm P ops S nw tw R i (o::rest) a:=
 Trk.calm_step v hi hw (fun σ w hS hf K Q hK=>by
  unfold Oper.wp
  rw [hr w]
  refine (hc σ w hS).mono ?_
  rintro e w' ⟨rfl,hS'⟩
  exact hK w' (by rw [Trk.trk,if_neg hit];exact hS')) h
def cbv(lv pv:Value):Array Value:=#[.int .i64 32,lv,pv]
set_option maxRecDepth 100000 in
set_option maxHeartbeats 12800000 in
theorem muup_any:∀ (d:Nat) (w0 w:World) (ps:List Piece) (g:Nat) (u lv pv:Value) (n m:Nat) (want:List Nat) (L P:List ByteArray),n≤d→1≤n→n≤1000000→Rd w 1 u m (nts want)→want.Pairwise (· < ·)→(∀ x∈want,x<n)→want.length≤L.length→Jw n want≤P.length→(∀ s∈L,s.size=32)→(∀ s∈P,s.size=32) →
 Rd w0 1 lv L.length (txs L)→Rd w0 1 pv P.length (txs P)→Own w0 w (blk g (.cells (cbv lv pv) 136)::ps) →
 Calls Tryz.prog 72 #[.pointer (some ⟨g,0,none⟩),.int .i64 n,u] w (Ret fun r w'=>r=.string (upF nodeF n want L P).1∧∃ lv' pv',Rd w0 1 lv' (upF nodeF n want L P).2.1.length (txs (upF nodeF n want L P).2.1)∧Rd w0 1 pv' (upF nodeF n want L P).2.2.length (txs (upF nodeF n want L P).2.2)∧Own w0 w' (blk g (.cells (cbv lv' pv') 136)::ps)):=by
 intro d
 induction d with
 | zero=>intro w0 w ps g u lv pv n m want L P hd hn1;omega
 | succ d ih=>
  intro w0 w ps g u lv pv n m want L P hd hn1 h9 hru hp hb hL hP sL sP hrl hrp H
  obtain ⟨ua,uc,rfl,huc1,huc2⟩:=hru.shape
  have hul:want.length=m:=by have:=hru.len;rw [Zj] at this;omega
  by_cases hm0:m=0
  ·subst hm0
   obtain rfl:=eJ hul
   rw [Jw,if_pos rfl] at hP
   obtain ⟨x,r,rfl⟩:∃ x r,P=x::r:=by
    match P,hP with
    | x::r,_=>exact ⟨x,r,rfl⟩
   have hpf:upF nodeF n [] L (x::r)=(x,L,r):=by rw [upF,if_pos rfl];rfl
   rw [hpf]
   have hN:=jd (munext_any (off:=2) rfl H hrp)
   clear hru ih hp hb hpf H hrp
   go_enter Tryz.func72,Tryz.ntmps72
   go_wp2_with fail
   refine hN.out.mono ?_
   rintro e w1 ⟨_,rfl,rfl,tv,hrt,H1⟩
   go_wp2
   go_ret
   exact ⟨_,rfl,rfl,_,tv,hrl,by simpa using hrt,H1⟩
  ·have hm0I:((m:Int)==0)=false:=by simp;omega
   have hwne:want≠[]:=by intro e;rw [e] at hul;exact hm0 hul.symm
   by_cases hn:n=1
   ·subst hn
    obtain ⟨x,r,rfl⟩:∃ x r,L=x::r:=by
     have:=List.length_pos_iff.2 hwne
     match L,hL with
     | x::r,_=>exact ⟨x,r,rfl⟩
     | [],h=>exact absurd (eJ (by simpa using h)) hwne
    have hpf:upF nodeF 1 want (x::r) P=(x,r,P):=by rw [upF,if_neg hwne,dif_pos (by omega)];rfl
    rw [hpf]
    have hN:=jd (munext_any (off:=1) rfl H hrl)
    clear hru ih hp hb hpf H hrl
    go_enter Tryz.func72,Tryz.ntmps72
    go_wp2_with fail
    refine hN.out.mono ?_
    rintro e w1 ⟨_,rfl,rfl,tv,hrt,H1⟩
    go_wp2
    go_ret
    exact ⟨_,rfl,rfl,tv,_,by simpa using hrt,hrp,H1⟩
   ·have h2:2≤n:=by omega
    obtain ⟨k,hk⟩:∃ k,Hid (cutN n=k):=⟨_,rfl⟩
    have hbd:=Jo n h2
    rw [hk.out] at hbd
    obtain ⟨k1,k2,k3⟩:=hbd
    have hC:=jd (Kf n (by omega))
    rw [hk.out] at hC
    have n1I:((n:Int)==1)=false:=by simp;omega
    obtain ⟨b,o,c',e,-⟩:=Rd.some hru (by rw [Zj];omega)
    cases e
    have hm9:m≤1000000:=by have:=want_len hp hb;omega
    have hPt:=jd (mupart_any k hru hm9 (by omega) hp (fun x hx=>by have:=hb x hx;omega))
    have hcnt:Jw n want=Jw k (Jb want k)+Jw (n-k) (highF want k):=by
     rw [Jw,if_neg hwne,dif_neg (by omega),hk.out]
    have hslen:=split_len k hp
    have hpf:upF nodeF n want L P=(nodeF (upF nodeF k (Jb want k) L P).1 (upF nodeF (n-k) (highF want k) (upF nodeF k (Jb want k) L P).2.1 (upF nodeF k (Jb want k) L P).2.2).1,(upF nodeF (n-k) (highF want k) (upF nodeF k (Jb want k) L P).2.1 (upF nodeF k (Jb want k) L P).2.2).2):=by
     rw [upF,if_neg hwne,dif_neg (by omega),hk.out]
    obtain ⟨LW,hLW⟩:∃ x,Hid (Jb want k=x):=⟨_,rfl⟩
    obtain ⟨HW,hHW⟩:∃ x,Hid (highF want k=x):=⟨_,rfl⟩
    have hlo:=low_ok (k:=k) hp
    have hhi:=high_ok (k:=k) (n:=n) hp hb
    have htk:=(low_take k hp).1
    have hlle:=mkLow_le want k
    rw [hLW.out,hHW.out] at hPt hcnt hslen hpf
    rw [hLW.out] at hlo htk hlle
    rw [hHW.out] at hhi
    obtain ⟨p,hpl⟩:∃ p,Hid (LW.length=p):=⟨_,rfl⟩
    rw [hpl.out] at hPt htk hlle
    obtain ⟨nk,hnk⟩:∃ p,Hid (n-k=p):=⟨_,rfl⟩
    rw [hnk.out] at hhi hcnt hpf
    have enk:IntKind.i64.wrap ((n:Int)-(k:Int))=(nk:Int):=by have:=hnk.out;rw [IntWalk.i64_in _ ⟨by omega,by omega⟩];omega
    have hnk1:1≤nk∧nk≤d∧nk≤1000000∧nk+k=n:=by have:=hnk.out;omega
    obtain ⟨a1,a2,a3⟩:=up_drop k k LW L P (Nat.le_refl _) k3 hlo.1 hlo.2 (by omega) (by omega) sL sP
    obtain ⟨x1,L1,P1,hu1⟩:∃ x1 L1 P1,Hid (upF nodeF k LW L P=(x1,L1,P1)):=⟨_,_,_,jd rfl⟩
    rw [hu1.out] at a1 a2 a3 hpf
    dsimp only at a1 a2 a3 hpf
    have sL1:∀ s∈L1,s.size=32:=fun s h=>sL s (by rw [a2] at h;exact List.mem_of_mem_drop h)
    have sP1:∀ s∈P1,s.size=32:=fun s h=>sP s (by rw [a3] at h;exact List.mem_of_mem_drop h)
    have hL1:HW.length≤L1.length:=by rw [a2,List.length_drop];omega
    have hP1:Jw nk HW≤P1.length:=by rw [a3,List.length_drop];omega
    obtain ⟨b1,-,-⟩:=up_drop nk nk HW L1 P1 (Nat.le_refl _) hnk1.1 hhi.1 hhi.2 hL1 hP1 sL1 sP1
    obtain ⟨x2,L2,P2,hu2⟩:∃ x2 L2 P2,Hid (upF nodeF nk HW L1 P1=(x2,L2,P2)):=⟨_,_,_,jd rfl⟩
    rw [hu2.out] at b1 hpf
    dsimp only at b1 hpf
    obtain ⟨N,hN⟩:∃ N,Hid (nodeF x1 x2=N):=⟨_,rfl⟩
    rw [hN.out] at hpf
    rw [hpf]
    dsimp only
    have HN:Hid (∀ w1 qs,Own w0 w1 qs→Calls Tryz.prog 32 #[.int .i64 32,.string x1,.string x2] w1 (fun e w2=>e=.returned (.string N)∧Own w0 w2 qs)):=jd fun w1 qs h=>by
     rw [← hN.out]
     exact (mknode_any x1 x2 (by omega) (by omega) w1).mono fun e w2 g2=>⟨g2.1,h.join g2.2⟩
    have HA:Hid (∀ w' ps',Own w w' []→Own w0 w' (blk g (.cells (cbv lv pv) 136)::ps')→Calls Tryz.prog 72 #[.pointer (some ⟨g,0,none⟩),.int .i64 k,.slice (some ⟨b,o,none⟩) p uc] w' (Ret fun r w2=>r=.string x1∧∃ lv' pv',Rd w0 1 lv' L1.length (txs L1)∧Rd w0 1 pv' P1.length (txs P1)∧Own w0 w2 (blk g (.cells (cbv lv' pv') 136)::ps'))):=jd fun w' ps' h h3=>by
     have hr2:=(hru.old h).take (k:=p) (by omega)
     rw [Nat.mul_one,nts,← List.map_take,htk] at hr2
     have:=ih w0 w' ps' g _ lv pv k p LW L P (by omega) (by omega) (by omega) hr2 hlo.1 hlo.2 (by omega) (by omega) sL sP hrl hrp h3
     rw [hu1.out] at this
     exact this
    have HB:Hid (∀ w' ps' v lv' pv',Rd w' 1 v HW.length (nts HW)→Rd w0 1 lv' L1.length (txs L1)→Rd w0 1 pv' P1.length (txs P1)→Own w0 w' (blk g (.cells (cbv lv' pv') 136)::ps')→Calls Tryz.prog 72 #[.pointer (some ⟨g,0,none⟩),.int .i64 nk,v] w' (Ret fun r w2=>r=.string x2∧∃ lv' pv',Rd w0 1 lv' L2.length (txs L2)∧Rd w0 1 pv' P2.length (txs P2)∧Own w0 w2 (blk g (.cells (cbv lv' pv') 136)::ps'))):=jd fun w' ps' v lv' pv' h2 h3 h4 h5=>by
     have:=ih w0 w' ps' g v lv' pv' nk HW.length HW L1 P1 hnk1.2.1 hnk1.1 hnk1.2.2.1 h2 hhi.1 hhi.2 hL1 hP1 sL1 sP1 h3 h4 h5
     rw [hu2.out] at this
     exact this
    clear ih hp hb hpf hk hlo hhi htk hlle hLW hHW hpl hul hwne hcnt hslen a1 a2 a3 b1 sL1 sP1 hL1 hP1 hu1 hu2 hN sL sP hL hP hru hrl hrp
    go_enter Tryz.func72,Tryz.ntmps72
    go_wp2_with fail
    refine (hC.out _).mono ?_
    rintro e w1 ⟨rfl,hw1⟩
    obtain rfl:w=w1:=hw1.symm
    go_wp2_with fail
    refine hPt.out.mono ?_
    rintro e w2 ⟨_,rfl,u,rfl,H2⟩
    have H3:=(H.join H2).swap
    go_wp2_with fail
    refine (HA.out _ _ H2.bare H3).mono ?_
    rintro e w3 ⟨_,rfl,rfl,lv1,pv1,r1,r2,H4⟩
    obtain ⟨uu,uuc,rfl,-,-⟩:=(H4.front 1 rfl).rd.shape
    go_upto_region 8 with (fail)
    refine Trk.wp_region_new (fun σ w1=>∃ lv pv,Own w0 w1 (blk g (.cells (cbv lv pv) 136)::slc 3 1 (.slice uu HW.length uuc) HW.length (nts HW)::ps)∧(σ 10=none→Rd w0 1 lv L1.length (txs L1)∧Rd w0 1 pv P1.length (txs P1))∧(σ 10≠none→Rd w0 1 lv L2.length (txs L2)∧Rd w0 1 pv P2.length (txs P2))) 12 [] [10] (by decide) (by kernel_rfl) (by kernel_rfl) ⟨lv1,pv1,H4.drew,fun _=>⟨r1,r2⟩,fun h=>absurd rfl h⟩ ?_
    simp only [List.take_succ_cons,List.take_zero,List.drop_succ_cons,List.drop_zero]
    repeat
     first
     | (refine Trk.calm_value (v:=?_) (by decide) (by decide) rfl (fun σ w1 hS=>?_) ?_
        rotate_left
        ·have c0:w1.cell? ⟨g,0,none⟩=some (.int .i64 32):=(by obtain ⟨lv,pv,h,-⟩:=hS;rw [h.cells];rfl)
         first | (go_simp;rfl) | rfl
        simp only [Act.put,putC])
     | (refine Trk.calm_skip (by decide) rfl ?_
        simp only [Act.put,putC])
    refine kcalm_call (v:=.string x2) (by decide) (by decide) rfl (fun w1=>(by go_simp;exact ⟨rfl,rfl⟩)) (fun σ w1 hS hn=>?_) ?_
    ·obtain ⟨lv2,pv2,h,q3,-⟩:=hS
     obtain ⟨q4,q5⟩:=q3 hn
     refine (HB.out w1 _ _ lv2 pv2 (h.front 1 rfl).rd q4 q5 h).mono ?_
     rintro e w5 ⟨_,rfl,rfl,lv3,pv3,q6,q7,q8⟩
     exact ⟨rfl,lv3,pv3,q8,fun h=>by simp [Sig.upd] at h,fun _=>⟨q6,q7⟩⟩
    simp only [Act.put,putC]
    refine ucallT (v:=.string N) (by decide) (by decide) rfl (fun w1=>(by go_simp;first | exact ⟨rfl,rfl⟩ | rfl)) (fun σ w1 hS=>?_) ?_
    ·obtain ⟨lv2,pv2,h,q3,q4⟩:=hS
     refine (HN.out w1 _ h).mono ?_
     rintro e w5 ⟨rfl,h5⟩
     exact ⟨rfl,lv2,pv2,h5,q3,q4⟩
    simp only [Act.put,putC]
    refine Trk.calm_nil ?_
    intro σ wd _ hσ HD
    obtain ⟨lv2,pv2,h,-,q4⟩:=HD
    obtain ⟨q5,q6⟩:=q4 (by intro e;have:=hσ 10 (by decide);rw [e] at this;cases this)
    simp only [Jx,List.foldl_nil]
    go_wp2
    go_ret
    exact ⟨_,rfl,rfl,lv2,pv2,q5,q6,(h.front 1 rfl).drop⟩
set_option maxRecDepth 100000 in
set_option maxHeartbeats 12800000 in
theorem muRoot_any{w:World}{u lv pv:Value}{n:Nat}{want:List Nat}{L P:List ByteArray}{x:ByteArray}(h1:1≤n)(h9:n≤1000000)(hw:want≠[])(hp:want.Pairwise (· < ·))(hb:∀ x∈want,x<n)(hL:L.length=want.length)(hP:P.length=Jw n want)(sL:∀ s∈L,s.size=32)(sP:∀ s∈P,s.size=32)
 (hru:Rd w 1 u want.length (nts want)) (hrl:Rd w 1 lv L.length (txs L)) (hrp:Rd w 1 pv P.length (txs P)) (hx:(upF nodeF n want L P).1=x) :
 Calls Tryz.prog 38 #[.int .i64 32,.int .i64 n,u,lv,pv] w (fun e w'=>e=.returned (.tuple #[.string x,.int .i64 0])∧Own w w' []):=by
 have hm1:1≤want.length:=List.length_pos_iff.2 hw
 have hm9:want.length≤1000000:=by have:=want_len hp hb;omega
 have hcP:=count_le n n want (Nat.le_refl _) h1
 have HA:=jd fun w' (h:Own w w' [])=>mucount_any n w' u n want.length want (Nat.le_refl _) h1 h9 (hru.old h) hp hb
 rw [← hP] at HA
 have HU:=jd fun w1 w' ps g (h:Own w w1 []) (H:Own w1 w' (blk g (.cells (cbv lv pv) 136)::ps))=>muup_any n w1 w' ps g u lv pv n want.length want L P (Nat.le_refl _) h1 h9 (hru.old (h.join H.bare)) hp hb (by omega) (by omega) sL sP (hrl.old h) (hrp.old h) H
 rw [hx] at HU
 obtain ⟨b,o,c,rfl,-⟩:=Rd.some hru (by rw [Zj];omega)
 have HR:=jd fun w' (h:Own w w' [])=>murises_any (hru.old h) hm9 hm1 hp hb h9
 obtain ⟨la,lc,rfl,hlc1,hlc2⟩:=hrl.shape
 obtain ⟨pa,pc,rfl,hpc1,hpc2⟩:=hrp.shape
 have H:=(Own.start w).alloc (.cells #[.int .i64 32] 3)
 obtain ⟨m,hm⟩:∃ m,Hid (want.length=m):=⟨_,rfl⟩
 obtain ⟨q,hq⟩:∃ q,Hid (P.length=q):=⟨_,rfl⟩
 rw [hL,hm.out] at HU hrl
 rw [hL,hm.out]
 rw [hm.out] at HR HA
 rw [hq.out] at HA HU hrp ⊢
 have nm:((m:Int) != (m:Int))=false:=by simp
 have nq:((q:Int) != (q:Int))=false:=by simp
 rw [hm.out] at hL
 go_enter Tryz.func38,Tryz.ntmps38
 go_upto_region 1 with (fail)
 generalize w.alloc _=w1 at *
 generalize w.heap.size=g at *
 have HL:=jd fun w' (h:Own w w' []) (c0:w'.cell? ⟨g,0,none⟩=some (.int .i64 32))=>hasshort_any 70 (.inr rfl) (hrl.old h) sL c0
 have HP:=jd fun w' (h:Own w w' []) (c0:w'.cell? ⟨g,0,none⟩=some (.int .i64 32))=>hasshort_any 70 (.inr rfl) (hrp.old h) sP c0
 clear hru hrl hrp hp hb hx hP sL sP hw hcP
 go_wp2_with fail
 refine (HR.out _ H.bare).mono ?_
 rintro e w2 ⟨rfl,hw2⟩
 obtain rfl:w1=w2:=hw2.symm
 go_wp2_with fail
 refine (HA.out _ H.bare).mono ?_
 rintro e w2 ⟨rfl,H2⟩
 have H3:=H.join H2
 go_wp2_with fail
 have c0:w2.cell? ⟨g,0,none⟩=some (.int .i64 32):=by rw [H3.cells];rfl
 refine (HL.out _ H3.bare c0).mono ?_
 rintro e w3 ⟨rfl,hw3⟩
 obtain rfl:w2=w3:=hw3.symm
 go_wp2_with fail
 refine (HP.out _ H3.bare c0).mono ?_
 rintro e w3 ⟨rfl,hw3⟩
 obtain rfl:w2=w3:=hw3.symm
 clear H H2
 go_upto_region 7 with (fail)
 have H4:=(Own.start w2).alloc (.cells (cbv (.slice la m lc) (.slice pa q pc)) 136)
 dsimp only [cbv] at H4
 generalize w2.alloc _=w4 at *
 generalize w2.heap.size=g2 at *
 go_wp2_with fail
 refine (HU.out w2 w4 [] g2 H3.bare H4).mono ?_
 rintro e w5 ⟨_,rfl,rfl,lv',pv',-,-,H5⟩
 go_wp2
 go_ret2
 exact ⟨rfl,(H3.join H5).bare⟩
theorem prove_32:∀ (d:Nat) (want:List Nat) (l:List ByteArray),l.length≤d→1≤l.length→(∀ s∈l,s.size=32)→∀ s∈Zr want l,s.size=32:=by
 intro d
 induction d with
 | zero=>intro want l h h1;omega
 | succ d ih=>
  intro want l h h1 hs s hm
  rw [Zr,Kn] at hm
  by_cases hw:want=[]
  ·rw [if_pos hw,List.mem_singleton] at hm
   rw [hm]
   exact root_32 l h1 hs
  ·rw [if_neg hw] at hm
   by_cases h2:l.length<2
   ·rw [dif_pos h2] at hm
    simp at hm
   ·rw [dif_neg h2,List.mem_append] at hm
    have hbd:=Jo l.length (by omega)
    rcases hm with hm | hm
    ·exact ih _ _ (by rw [List.length_take];omega) (by rw [List.length_take];omega) (fun s h=>hs s (List.mem_of_mem_take h)) s hm
    ·exact ih _ _ (by rw [List.length_drop];omega) (by rw [List.length_drop];omega) (fun s h=>hs s (List.mem_of_mem_drop h)) s hm
set_option maxRecDepth 100000 in
set_option maxHeartbeats 3200000 in
theorem mucheck_any{w:World}{u lv pv:Value}{n:Nat}{want:List Nat}{l:List ByteArray}(h1:1≤n)(h9:n≤1000000)(hln:l.length=n)(hw:want≠[])(hp:want.Pairwise (· < ·))(hb:∀ x∈want,x<n)(hls:∀ s∈l,s.size=32)
 (hru:Rd w 1 u want.length (nts want)) (hrl:Rd w 1 lv want.length (txs (want.map fun i=>l.getD i ByteArray.empty))) (hrp:Rd w 1 pv (Zr want l).length (txs (Zr want l))) :
 Calls Tryz.prog 15 #[.int .i64 32,.string (mroot l),.int .i64 n,u,lv,pv] w (fun e w'=>e=.returned (.int .i64 0)∧Own w w' []):=by
 have hup:=up_prove (H:=noneF) (nd:=nodeF) l.length want l [] [] (Nat.le_refl _) (by omega) hp (by rw [hln];exact hb)
 rw [List.append_nil,List.append_nil,hln] at hup
 have hx:(upF nodeF n want (want.map fun i=>l.getD i ByteArray.empty) (Zr want l)).1=mroot l:=by rw [hup]
 have hR:=muRoot_any h1 h9 hw hp hb (by rw [List.length_map]) (by rw [Zr,prove_count _ _ _ (Nat.le_refl _),hln]) (fun s h=>by
  obtain ⟨i,hi,rfl⟩:=List.mem_map.1 h
  have:=hb i hi
  rw [List.getD_eq_getElem?_getD,List.getElem?_eq_getElem (show i<l.length by omega),Option.getD_some]
  exact hls _ (List.getElem_mem _)) (prove_32 _ _ _ (Nat.le_refl _) (by omega) hls) hru (by rw [List.length_map];exact hrl) hrp hx
 obtain ⟨A,hA⟩:∃ A,Hid (mroot l=A):=⟨_,rfl⟩
 rw [hA.out] at hR ⊢
 replace hR:=jd hR
 clear hru hrl hrp hup hx hls hA
 go_enter Tryz.func15,Tryz.ntmps15
 go_wp2_with fail
 refine hR.out.mono ?_
 rintro e w2 ⟨rfl,H2⟩
 go_wp2
 go_ret
 exact ⟨rfl,H2⟩
end Go.Proofs.YthekdeikodppkaaGreatDoor
namespace Go.Proofs.YthekdeikodppkaaGreatDoor
open Go.RowKit Go.ChangeShapes Go.WideShapes Go.Deep
set_option maxRecDepth 100000 in
theorem open_file{H:Type}{enc:TypeId × Value→H}{w:World}{m:Nat}{cs:List Value}{x:DataW H × List MemPlace}
 (h:DataW.trod enc Tryz.prog w 0 (fun _=>true) true m 47 cs=some x):∃ t:FileP,cs=fe t∧t.path.size≤9223372036854775807∧t.data.size≤9223372036854775807:=by
 obtain ⟨y0,y1,n,_,hl,g0,g1⟩:=trod_struct2 Tryz.underlying47 h
 have hC:Tryz.prog.cellsOf 47=2:=by kernel_rfl
 have hi:Tryz.prog.cellsOf 9=1:=by kernel_rfl
 rw [hC] at hl
 match cs,hl with
 | [u0,u1],_=>
  simp only [hi] at g0 g1
  obtain ⟨a,ha,_,wa⟩:=DataW.trod_string Tryz.underlying9 (by simpa using g0)
  obtain ⟨b,hb,_,wb⟩:=DataW.trod_string Tryz.underlying9 (by simpa using g1)
  simp at ha hb
  subst ha hb
  exact ⟨⟨a,b⟩,rfl,by simpa [maxLen] using wa,by simpa [maxLen] using wb⟩
instance:Inhabited FileP:=⟨⟨ByteArray.empty,ByteArray.empty⟩⟩
theorem open_files{H:Type}{enc:TypeId × Value→H}{W:World}{a:Option Addr}{len cap:Nat}{d:DataW H}{p:List MemPlace}
 (h:DataW.Trod enc Tryz.prog W 0 (fun _=>true) true 22 (.slice a len cap) d p) :
 ∃ ds:List FileP,ds.length=len∧Rd W 2 (.slice a len cap) ds.length (rows fe ds)∧∀ x∈ds,x.path.size≤9223372036854775807∧x.data.size≤9223372036854775807:=by
 obtain ⟨E,hr,hE,_⟩:=rd_open 2 Tryz.underlying22 (by kernel_rfl) rfl h
 obtain ⟨f,hf⟩:=choose_lt (α:=FileP) (p:=fun i x=>E i=fe x∧x.path.size≤9223372036854775807∧x.data.size≤9223372036854775807) (fun i hi=>by
  obtain ⟨_,m,x,hx⟩:=hE i hi
  exact open_file hx)
 refine ⟨(List.range len).map f,by simp,?_,?_⟩
 ·have e:rows fe ((List.range len).map f)=(List.range len).flatMap E:=by
   unfold rows
   rw [List.flatMap_map]
   exact flatMap_congr_range fun i hi=>(hf i hi).1.symm
  rw [e];simpa using hr
 ·intro x hx
  obtain ⟨i,hi,rfl⟩:=List.mem_map.1 hx
  exact (hf i (List.mem_range.1 hi)).2
end Go.Proofs.YthekdeikodppkaaGreatDoor
namespace Go.Proofs.YthekdeikodppkaaGreatDoor
open Go.RowKit
def IsB(r:Value):Prop:=∃ b,r=.bool b
set_option maxRecDepth 100000 in
set_option maxHeartbeats 3200000 in
theorem hasprefix1_any(s p:ByteArray)(w:World) :
 Calls Tryz.prog 134 #[.string s,.string p] w (Ret fun r w'=>IsB r∧w'=w):=by
 obtain ⟨Z,hZ⟩:∃ Z,s.size=Z:=⟨_,rfl⟩
 obtain ⟨P,hP⟩:∃ Z,p.size=Z:=⟨_,rfl⟩
 by_cases h:P≤Z
 ·have hI:(P:Int)≤(Z:Int):=by omega
  go_enter Tryz.func134,Tryz.ntmps134
  go_wp2_with fail
  all_goals go_ret
  all_goals exact ⟨_,rfl,⟨_,rfl⟩,rfl⟩
 ·have hI:¬ (P:Int)≤(Z:Int):=by omega
  go_enter Tryz.func134,Tryz.ntmps134
  go_wp2_with fail
  all_goals go_ret
  exact ⟨_,rfl,⟨_,rfl⟩,rfl⟩
set_option maxRecDepth 100000 in
set_option maxHeartbeats 3200000 in
theorem hasprefix_any(s p:ByteArray)(w:World) :
 Calls Tryz.prog 82 #[.string s,.string p] w (Ret fun r w'=>IsB r∧w'=w):=by
 have H:=jd (hasprefix1_any s p w)
 go_enter Tryz.func82,Tryz.ntmps82
 go_wp2_with fail
 refine H.out.mono ?_
 rintro e w2 ⟨_,rfl,⟨b,rfl⟩,hw2⟩
 obtain rfl:w=w2:=hw2.symm
 go_wp2
 go_ret
 exact ⟨_,rfl,⟨_,rfl⟩,rfl⟩
set_option maxRecDepth 100000 in
set_option maxHeartbeats 3200000 in
theorem under_any(s p:ByteArray)(w:World) :
 Calls Tryz.prog 185 #[.string s,.string p] w (Ret fun r w'=>IsB r∧w'=w):=by
 have H:=jd (hasprefix_any s p w)
 obtain ⟨Z,hZ⟩:∃ Z,s.size=Z:=⟨_,rfl⟩
 obtain ⟨P,hP⟩:∃ Z,p.size=Z:=⟨_,rfl⟩
 by_cases h:P<Z
 ·have hI:(P:Int)<(Z:Int):=by omega
  have hat:=@str_at s P (by omega)
  obtain ⟨c,hc⟩:∃ c,Hid ((bn s).getD P 0=c):=⟨_,rfl⟩
  rw [hc.out] at hat
  go_enter Tryz.func185,Tryz.ntmps185
  by_cases h47:c=47
  ·subst h47
   go_wp2_with fail
   refine H.out.mono ?_
   rintro e w2 ⟨_,rfl,⟨b,rfl⟩,hw2⟩
   obtain rfl:w=w2:=hw2.symm
   go_wp2
   go_ret
   exact ⟨_,rfl,⟨_,rfl⟩,rfl⟩
  ·have h47I:(c==47)=false:=by simp [h47]
   go_wp2_with fail
   go_ret
   exact ⟨_,rfl,⟨_,rfl⟩,rfl⟩
 ·have hI:¬ (P:Int)<(Z:Int):=by omega
  go_enter Tryz.func185,Tryz.ntmps185
  go_wp2_with fail
  go_ret
  exact ⟨_,rfl,⟨_,rfl⟩,rfl⟩
set_option maxRecDepth 100000 in
set_option maxHeartbeats 3200000 in
theorem clash_any(x y:FileP)(w:World) :
 Calls Tryz.prog 119 #[fval x,fval y] w (Ret fun r w'=>IsB r∧Own w w' []):=by
 obtain ⟨xp,xd⟩:=x
 obtain ⟨yp,yd⟩:=y
 have H:=((Own.start w).alloc (.cells #[.string xp,.string xd] 47)).alloc (.cells #[.string yp,.string yd] 47)
 have HU:=jd (under_any yp xp)
 have hs:(w.alloc (.cells #[.string xp,.string xd] 47)).heap.size=w.heap.size+1:=Array.size_push _
 rw [hs] at H
 clear hs
 dsimp only [fval]
 go_enter Tryz.func119,Tryz.ntmps119
 go_upto_region 1 with (fail)
 generalize w.alloc _=w1 at *
 generalize w.heap.size=g at *
 generalize w1.alloc _=w2 at *
 have c0:w2.cell? ⟨g,0,none⟩=some (.string xp):=by rw [H.swap.cells];rfl
 have c1:w2.cell? ⟨g+1,0,none⟩=some (.string yp):=by rw [H.cells];rfl
 by_cases he:xp.toList=yp.toList
 ·have heI:(xp.toList==yp.toList)=true:=by simp [he]
  go_wp2_with fail
  go_ret
  exact ⟨_,rfl,⟨_,rfl⟩,H.drop.drop⟩
 ·have heI:(xp.toList==yp.toList)=false:=by simp [he]
  go_wp2_with fail
  refine (HU.out _).mono ?_
  rintro e w3 ⟨_,rfl,⟨b,rfl⟩,hw3⟩
  obtain rfl:w2=w3:=hw3.symm
  go_wp2
  go_ret
  exact ⟨_,rfl,⟨_,rfl⟩,H.drop.drop⟩
def smf(x:FileP):Prop:=x.path.size≤3000000∧x.data.size≤3000000
theorem take_smf{l:List FileP}{k:Nat}{x:FileP}(hx:l[k]?=some x)(h:∀ y∈l.take k,smf y)(h2:smf x):∀ y∈l.take (k+1),smf y:=by
 intro y hy
 rw [List.take_add_one,hx,List.mem_append] at hy
 rcases hy with hy | hy
 ·exact h y hy
 ·simp at hy;rw [hy];exact h2
set_option maxRecDepth 100000 in
set_option maxHeartbeats 6400000 in
theorem few_any{w:World}{a:Option Addr}{n c:Nat}{l:List FileP}(hr:Rd w 2 (.slice a n c) n (rows fe l))(hs:∀ x∈l,x.path.size≤9223372036854775807∧x.data.size≤9223372036854775807) :
 Calls Tryz.prog 16 #[.slice a n c] w (Ret fun r w'=>∃ k,k≤n∧k≤70∧r=.slice a k c∧Own w w' []∧∀ x∈l.take k,smf x):=by
 have hl:l.length=n:=by have:=hr.len;rw [Qp fe (k:=2) SF.e_length] at this;omega
 have hX:Hid (∀ w' qs,Own w w' qs→∀ k x,l[k]?=some x→∃ b o,a=some ⟨b,o,none⟩∧w'.cell? ⟨b,o+k*2,none⟩=some (.string x.path)∧w'.cell? ⟨b,o+k*2+1,none⟩=some (.string x.data)):=jd fun w' qs h k x hx=>by
  have hkn:=(gJ hx).1
  obtain ⟨b,o,c',e,-⟩:=Rd.some hr (by rw [Qp fe (k:=2) SF.e_length];omega)
  cases e
  have h0:=Rd.cell (hr.old h.bare) (j:=k*2) (u:=.string x.path) (by have:=Jt fe SF.e_length hx 0 (by omega);rw [Nat.add_zero] at this;rw [this];rfl)
  have h1:=Rd.cell (hr.old h.bare) (j:=k*2+1) (u:=.string x.data) (by rw [Jt fe SF.e_length hx 1 (by omega)];rfl)
  exact ⟨b,o,rfl,h0,h1⟩
 obtain ⟨a',c',e,hc1,hc2⟩:=hr.shape
 injection e with e1 e2 e3
 subst e1
 subst e3
 have H:=Own.start w
 go_enter Tryz.func16,Tryz.ntmps16
 go_upto_block 0 with (fail)
 go_wp2_with fail
 go_loopw [3,4] (fun v3 v4 wx=>∃ (k t:Nat),v3=.int .i64 t∧v4=.int .i64 k∧k≤n∧k≤70∧t≤3000000∧Hid (∀ x∈l.take k,smf x)∧Own w wx []) (fun _ v4 _=>n-(intOf v4).toNat)
 case atStart=>exact ⟨0,0,rfl,rfl,by omega,by omega,by omega,jd (by simp),H⟩
 case round=>
  clear H
  obtain ⟨k,t,rfl,rfl,hk,hk70,ht,hsm,H⟩:=hrel
  by_cases hkn:k<n
  ·have hI:(k:Int)<(n:Int):=by omega
   have hk0:(0:Int)≤(k:Int):=by omega
   obtain ⟨x,hx⟩:∃ x,l[k]?=some x:=Ql (by omega)
   obtain ⟨b,o,rfl,-,-⟩:=hX.out _ _ H k x hx
   have hxs:=hs x (List.mem_of_getElem? hx)
   have HC:=jd fun w' (h:Own w w' [])=>(hX.out w' _ h k x hx)
   have hS2:=jd fun h=>take_smf hx hsm.out h
   obtain ⟨p,d⟩:=x
   dsimp only at HC hxs
   obtain ⟨P,hP⟩:∃ Z,p.size=Z:=⟨_,rfl⟩
   obtain ⟨D,hD⟩:∃ Z,d.size=Z:=⟨_,rfl⟩
   obtain ⟨mp,hmp⟩:∃ m,Hid (min P 4194304=m):=⟨_,rfl⟩
   obtain ⟨md,hmd⟩:∃ m,Hid (min D 4194304=m):=⟨_,rfl⟩
   have hmpb:mp≤4194304:=by have:=hmp.out;omega
   have hmdb:md≤4194304:=by have:=hmd.out;omega
   have hmpI:min (P:Int) 4194304=(mp:Int):=by have:=hmp.out;omega
   have hmdI:min (D:Int) 4194304=(md:Int):=by have:=hmd.out;omega
   go_upto_region 5 with (fail)
   refine Qa (fun w1=>Own w w1 []) 17 (by kernel_rfl) (by kernel_rfl) H.drew ?_
   simp only [List.take_succ_cons,List.take_zero,List.drop_succ_cons,List.drop_zero]
   repeat
    first
    | (refine calm_value (v:=?_) (by decide) rfl (fun σ w1 hS=>?_) ?_
       rotate_left
       ·obtain ⟨b',o',e,c0,c1⟩:=HC.out _ hS;cases e
        first | (go_simp;rfl) | rfl
       simp only [Act.put,putC])
    | (refine calm_skip (by decide) rfl ?_
       simp only [Act.put,putC])
   refine calm_nil ?_
   intro wd HD
   clear hX hr hs H HC hx
   have hkc:(k:Int)≤(c:Int):=by omega
   by_cases h3:3000000<t+mp+md
   ·have h3I:(3000000:Int)<(t:Int)+(mp:Int)+(md:Int):=by omega
    go_wp2_with fail
    all_goals go_ret
    exact ⟨_,rfl,k,hk,hk70,rfl,HD,hsm.out⟩
   ·have h3I:¬ (3000000:Int)<(t:Int)+(mp:Int)+(md:Int):=by omega
    by_cases h70:70≤k
    ·have hkI:(70:Int)≤(k:Int):=by omega
     go_wp2_with fail
     all_goals go_ret
     exact ⟨_,rfl,k,hk,hk70,rfl,HD,hsm.out⟩
    ·have hkI:¬ (70:Int)≤(k:Int):=by omega
     have hS3:=jd (hS2.out ⟨by show p.size≤_;have:=hmp.out;omega,by show d.size≤_;have:=hmd.out;omega⟩)
     clear hS2
     go_wp2_with fail
     go_roundw
     case rel=>exact ⟨k+1,t+mp+md,by go_num,by go_num,by omega,by omega,by omega,hS3,HD⟩
     case measure=>simp [intOf];omega
  ·obtain rfl:k=n:=by omega
   have hI:¬ (k:Int)<(k:Int):=by omega
   clear hX hr
   go_wp2
   go_ret
   exact ⟨_,rfl,k,by omega,hk70,rfl,H,hsm.out⟩
end Go.Proofs.YthekdeikodppkaaGreatDoor
