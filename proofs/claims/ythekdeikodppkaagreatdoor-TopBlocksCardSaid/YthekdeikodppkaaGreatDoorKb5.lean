/-
  Texts of this claim, one behind the other: The stable sort, whatever the elements; The stable sort of slices of ints; The stable sort, whatever the elements; The stable sort of slices of ints; The stable sort, whatever the elements; The stable sort of slices of ints; The stable sort of slices of coins; The stable sort of slices of coins; The stable sort of slices of coins; The stable sort of slices of coins; The stable sort of slices of coins; The stable sort of slices of coins; The stable sort of slices of coins; huff; huff; The stable sort of slices of files; The stable sort of slices of files; The stable sort of slices of files; The stable sort of slices of files; The stable sort of slices of files; The stable sort of slices of files; The stable sort of slices of files; The stable sort of slices of files; Bits; Bits; huff; Bits; Bits; slices.Repeat; huff; huff; huff; huff; Bits; Bits; Bits; Bits; sha; sha; strings.Trim of zeros, known of its own accord (by the shelf's contract, laid at this program).
-/
import Derived.Test.YthekdeikodppkaaGreatDoorKb4
import Derived.Carry
import Derived.Deep.DeepCutAuto
import Derived.Deep.CutBlock
import Derived.Deep.LoopGhost
import Derived.WalkLawsBesides
import Derived.WalkSpells
import Derived.BigQuiet
import Derived.Deep.QuietTactic
import Derived.Test.YthekdeikodppkaaGreatDoorRows
import Derived.Laws.ResultCell
import Derived.Lib.BufferMore
import Derived.Shelf.Strings.Trim
import Derived.Ground.NamesProg
import Derived.KernelRfl
set_option linter.unusedVariables false
namespace Go.Proofs.YthekdeikodppkaaGreatDoor
open Go.RowKit
set_option maxRecDepth 1000000
def T_tail3(A:Type)(eC:A→List Value)(EL:TypeId)(SZ:Nat)(G_symMergeCmpFunc:Func)(cf:Nat→Value)(SymAt:World→List Piece→(A→Prop)→(A→Int)→Nat→Nat→Nat→Nat→Nat→Prop)(symTail:Nat→Code):Prop:=∀ ⦃w0:World⦄ ⦃ps:List Piece⦄ ⦃ok:A→Prop⦄ ⦃key:A→Int⦄ ⦃B:Nat⦄ ⦃g c N f:Nat⦄ ⦃p q x y X1 X2 Y1 Y2:List A⦄ ⦃a m b s en mid:Nat⦄ ⦃M1:List A⦄ (wr:World) (hNb:N≤1000000) (IH:Hid (SymAt w0 ps ok key B g c N f)) (HFINAL:Hid (∀ z1 z2,Mrg key X1 Y1 z1→Mrg key X2 Y2 z2→Mrg key x y (z1++z2))) (HOX1:Hid (∀ v∈X1,ok v)) (HOX2:Hid (∀ v∈X2,ok v)) (HOY1:Hid (∀ v∈Y1,ok v)) (HOY2:Hid (∀ v∈Y2,ok v)) (HSX1:Hid (Srt key X1)) (HSX2:Hid (Srt key X2)) (HSY1:Hid (Srt key Y1)) (HSY2:Hid (Srt key Y2)) (HNL:Hid (N=(p++X1++X2++Y1++Y2++q).length)) (HMID2:Hid (mid+mid≤a+b∧a+b≤mid+mid+1)) (ham:a+2≤m) (hmb:m+2≤b) (hbN:b≤N) (hlens:Hid (a=p.length∧s=a+X1.length∧m=s+X2.length∧en=m+Y1.length∧b=en+Y2.length∧mid=s+Y1.length∧en=mid+X2.length∧X1.length+X2.length+(Y1.length+Y2.length)≤f+1∧0<X1.length+X2.length∧0<Y1.length+Y2.length)) (hensN1:en≤N) (hensN2:s≤N) (hmN1:mid≤N) (hM1:Hid (Mrg key X1 Y1 M1)) (z5 z6 z7 z8 z9 z10 z11 z12 z13 z14 z15 z16 z17 z19 z21 z22 z23 z25 z26 z27 z28 z29 z30 z31 z32 z33 z34 z35 z36 z37 z38 z39 z40 z41 z42 z43 z44 z45 z46 z47 z48 z49 z50 z51 z52 z53 z54 z55 z56 z57 z58 z59 z60 z61 z62 z63 z64 z65 z66 z67 z68 z69 z70 z71 z72 z73 z74 z75 z76 z77 z78 z79 z80 z81 z82 z83 z84 z85 z86 z87 z88 z89 z90 z91 z92 z93 z94 z95 z96 z97 z98 z99 z100 z101 z102 z103 z104 z105 z106 z107 z108 z109 z110 z111 z112 z113 z114 z115 z116 z117 z118 z119 z120 z121 z122 z123 z124 z125 z126 z127 z128 z129 z130 z131 z132 z133 z134 z135 z136 z137 z138 z139 z140 z141 z142 z143 z144 z145 z146 z147 z148 z149 z150 z151 z152 z153 z154 z155 z156 z157 z158 z159 z160 z161 z162 z163 z164 z165 z166 z167 z168 z169 z170 z171 z172 z173 z174 z175 z176 z177 z178 z179 z180 z181 z182 z183 z184 z185 z186 z187 z188 z189 z190 z191 z192 z193 z194 z195 z196 z197 z198 z199 z200 z201 z202 z203 z204 z205 z206 z207 z208 z209 z210 z211 z212 z213 z214 z215 z216 z217 z218 z219:Value) (H:Own w0 wr (slc EL SZ (.slice (some ⟨g,0,none⟩) N c) N (rows eC (p++M1++X2++Y2++q))::ps)),Code.wp Tryz.prog (symTail 43) (bodyPost Tryz.prog G_symMergeCmpFunc (Ret fun _ w'=>∃ z,Mrg key x y z∧Own w0 w' (slc EL SZ (.slice (some ⟨g,0,none⟩) N c) N (rows eC (p++z++q))::ps))) ⟨#[.slice (some ⟨g,0,none⟩) N c,.int .i64 a,.int .i64 m,.int .i64 b,cf B,z5,z6,z7,z8,z9,z10,z11,z12,z13,z14,z15,z16,z17,.int .i64 mid,z19,.int .i64 s,z21,z22,z23,.int .i64 en,z25,z26,z27,z28,z29,z30,z31,z32,z33,z34,z35,z36,z37,z38,z39,z40,z41,z42,z43,z44,z45,z46,z47,z48,z49,z50,z51,z52,z53,z54,z55,z56,z57,z58,z59,z60,z61,z62,z63,z64,z65,z66,z67,z68,z69,z70,z71,z72,z73,z74,z75,z76,z77,z78,z79,z80,z81,z82,z83,z84,z85,z86,z87,z88,z89,z90,z91,z92,z93,z94,z95,z96,z97,z98,z99,z100,z101,z102,z103,z104,z105,z106,z107,z108,z109,z110,z111,z112,z113,z114,z115,z116,z117,z118,z119,z120,z121,z122,z123,z124,z125,z126,z127,z128,z129,z130,z131,z132,z133,z134,z135,z136,z137,z138,z139,z140,z141,z142,z143,z144,z145,z146,z147,z148,z149,z150,z151,z152,z153,z154,z155,z156,z157,z158,z159,z160,z161,z162,z163,z164,z165,z166,z167,z168,z169,z170,z171,z172,z173,z174,z175,z176,z177,z178,z179,z180,z181,z182,z183,z184,z185,z186,z187,z188,z189,z190,z191,z192,z193,z194,z195,z196,z197,z198,z199,z200,z201,z202,z203,z204,z205,z206,z207,z208,z209,z210,z211,z212,z213,z214,z215,z216,z217,z218,z219],[]⟩ wr
theorem mk_tail3(A:Type)(eC:A→List Value)(EL:TypeId)(SZ:Nat)(G_symMergeCmpFunc:Func)(cf:Nat→Value)(SymAt:World→List Piece→(A→Prop)→(A→Int)→Nat→Nat→Nat→Nat→Nat→Prop)(symTail:Nat→Code)(h:T_tail3 A eC EL SZ G_symMergeCmpFunc cf SymAt symTail:=by
 unfold T_tail3
 intro w0 ps ok key B g c N f p q x y X1 X2 Y1 Y2 a m b s en mid M1 wr hNb IH HFINAL HOX1 HOX2 HOY1 HOY2 HSX1 HSX2 HSY1 HSY2 HNL HMID2 ham hmb hbN hlens hensN1 hensN2 hmN1 hM1 z5 z6 z7 z8 z9 z10 z11 z12 z13 z14 z15 z16 z17 z19 z21 z22 z23 z25 z26 z27 z28 z29 z30 z31 z32 z33 z34 z35 z36 z37 z38 z39 z40 z41 z42 z43 z44 z45 z46 z47 z48 z49 z50 z51 z52 z53 z54 z55 z56 z57 z58 z59 z60 z61 z62 z63 z64 z65 z66 z67 z68 z69 z70 z71 z72 z73 z74 z75 z76 z77 z78 z79 z80 z81 z82 z83 z84 z85 z86 z87 z88 z89 z90 z91 z92 z93 z94 z95 z96 z97 z98 z99 z100 z101 z102 z103 z104 z105 z106 z107 z108 z109 z110 z111 z112 z113 z114 z115 z116 z117 z118 z119 z120 z121 z122 z123 z124 z125 z126 z127 z128 z129 z130 z131 z132 z133 z134 z135 z136 z137 z138 z139 z140 z141 z142 z143 z144 z145 z146 z147 z148 z149 z150 z151 z152 z153 z154 z155 z156 z157 z158 z159 z160 z161 z162 z163 z164 z165 z166 z167 z168 z169 z170 z171 z172 z173 z174 z175 z176 z177 z178 z179 z180 z181 z182 z183 z184 z185 z186 z187 z188 z189 z190 z191 z192 z193 z194 z195 z196 z197 z198 z199 z200 z201 z202 z203 z204 z205 z206 z207 z208 z209 z210 z211 z212 z213 z214 z215 z216 z217 z218 z219 H
 conv=>arg 2;whnf
 dsimp only
 have hM1l:Hid (M1.length=X1.length+Y1.length):=jd (by rw [← hM1.out.2.length,lJ])
 have hNL3:Hid (N=(p++M1++X2++Y2++q).length):=jd (by rw [HNL.out];have:=hM1l.out;simp only [lJ];omega)
 obtain ⟨t3,ht3⟩:∃ t,Hid ((decide (mid<en)&&decide (en<b))=t):=⟨_,jd rfl⟩
 go_upto_region 43 with (fail)
 go_cut [213] (fun s1 wx=>s1=.bool t3∧Own w0 wx ((sL g N c (p++M1++X2++Y2++q))::ps))
 case first=>
  by_cases h1:mid<en
  ·by_cases h2:en<b
   ·have e:Hid (t3=true):=jd (by rw [← ht3.out];simp [h1,h2])
    go_wp2
    go_meet
    exact ⟨by rw [e.out],H⟩
   ·have e:Hid (t3=false):=jd (by rw [← ht3.out];simp [h2])
    go_wp2
    go_meet
    exact ⟨by rw [e.out],H⟩
  ·have e:Hid (t3=false):=jd (by rw [← ht3.out];simp [h1])
   go_wp2
   go_meet
   exact ⟨by rw [e.out],H⟩
 case rest=>
 clear H
 obtain ⟨rfl,H⟩:=hcut
 obtain ⟨l1,l2,l3,l4,l5,l6,l7,l8,l9,l10⟩:=hlens.out
 have hM1l':=hM1l.out
 have hm2:=HMID2.out
 cases t3 with
 | true=>
  have h:=ht3.out
  simp only [Bool.and_eq_true,decide_eq_true_eq] at h
  have e1:p++M1++X2++Y2++q=(p++M1)++X2++Y2++q:=by simp
  have hr:=IH.out wc (p++M1) X2 Y2 q mid en b (by omega) HOX2.out HOY2.out HSX2.out HSY2.out (by rw [lJ];omega) l7 l5 (by omega) (by omega) (by rw [← e1];exact hNL3.out) (by rw [← e1];exact H)
  have HR:=jd hr
  clear hr l1 l2 l3 l4 l5 l6 l7 l8 l9 l10 h e1 hM1l' hm2
  go_wp2_with fail
  refine HR.out.mono ?_
  rintro e w3 ⟨_,rfl,z,hz,H3⟩
  clear HR H
  go_wp2
  go_end0
  exact ⟨_,rfl,M1++z,HFINAL.out _ _ hM1.out hz,by simpa using H3⟩
 | false=>
  have h:=ht3.out
  simp only [Bool.and_eq_false_iff,decide_eq_false_iff_not] at h
  have e1:Hid (Mrg key X2 Y2 (X2++Y2)):=jd (by
   rcases h with h | h
   ·have:X2=[]:=eJ (by omega)
    rw [this];exact Mrg.right HSY2.out
   ·have:Y2=[]:=eJ (by omega)
    rw [this,List.append_nil];exact Mrg.left HSX2.out)
  clear l1 l2 l3 l4 l5 l6 l7 l8 l9 l10 h hM1l' hm2
  go_wp2
  go_end0
  exact ⟨_,rfl,M1++(X2++Y2),HFINAL.out _ _ hM1.out e1.out,by simpa using H⟩):T_tail3 A eC EL SZ G_symMergeCmpFunc cf SymAt symTail:=h
def T_tail2(A:Type)(eC:A→List Value)(EL:TypeId)(SZ:Nat)(G_symMergeCmpFunc:Func)(cf:Nat→Value)(SymAt:World→List Piece→(A→Prop)→(A→Int)→Nat→Nat→Nat→Nat→Nat→Prop)(symTail:Nat→Code):Prop:=∀ ⦃w0:World⦄ ⦃ps:List Piece⦄ ⦃ok:A→Prop⦄ ⦃key:A→Int⦄ ⦃B:Nat⦄ ⦃g c N f:Nat⦄ ⦃p q x y X1 X2 Y1 Y2:List A⦄ ⦃a m b s en mid:Nat⦄ (wr:World) (hNb:N≤1000000) (IH:Hid (SymAt w0 ps ok key B g c N f)) (HFINAL:Hid (∀ z1 z2,Mrg key X1 Y1 z1→Mrg key X2 Y2 z2→Mrg key x y (z1++z2))) (HOX1:Hid (∀ v∈X1,ok v)) (HOX2:Hid (∀ v∈X2,ok v)) (HOY1:Hid (∀ v∈Y1,ok v)) (HOY2:Hid (∀ v∈Y2,ok v)) (HSX1:Hid (Srt key X1)) (HSX2:Hid (Srt key X2)) (HSY1:Hid (Srt key Y1)) (HSY2:Hid (Srt key Y2)) (HNL:Hid (N=(p++X1++X2++Y1++Y2++q).length)) (HMID2:Hid (mid+mid≤a+b∧a+b≤mid+mid+1)) (ham:a+2≤m) (hmb:m+2≤b) (hbN:b≤N) (hlens:Hid (a=p.length∧s=a+X1.length∧m=s+X2.length∧en=m+Y1.length∧b=en+Y2.length∧mid=s+Y1.length∧en=mid+X2.length∧X1.length+X2.length+(Y1.length+Y2.length)≤f+1∧0<X1.length+X2.length∧0<Y1.length+Y2.length)) (hensN1:en≤N) (hensN2:s≤N) (hmN1:mid≤N) (z5 z6 z7 z8 z9 z10 z11 z12 z13 z14 z15 z16 z17 z19 z21 z22 z23 z25 z26 z27 z28 z29 z30 z31 z32 z33 z34 z35 z36 z37 z38 z39 z40 z41 z42 z43 z44 z45 z46 z47 z48 z49 z50 z51 z52 z53 z54 z55 z56 z57 z58 z59 z60 z61 z62 z63 z64 z65 z66 z67 z68 z69 z70 z71 z72 z73 z74 z75 z76 z77 z78 z79 z80 z81 z82 z83 z84 z85 z86 z87 z88 z89 z90 z91 z92 z93 z94 z95 z96 z97 z98 z99 z100 z101 z102 z103 z104 z105 z106 z107 z108 z109 z110 z111 z112 z113 z114 z115 z116 z117 z118 z119 z120 z121 z122 z123 z124 z125 z126 z127 z128 z129 z130 z131 z132 z133 z134 z135 z136 z137 z138 z139 z140 z141 z142 z143 z144 z145 z146 z147 z148 z149 z150 z151 z152 z153 z154 z155 z156 z157 z158 z159 z160 z161 z162 z163 z164 z165 z166 z167 z168 z169 z170 z171 z172 z173 z174 z175 z176 z177 z178 z179 z180 z181 z182 z183 z184 z185 z186 z187 z188 z189 z190 z191 z192 z193 z194 z195 z196 z197 z198 z199 z200 z201 z202 z203 z204 z205 z206 z207 z208 z209 z210 z211 z212 z213 z214 z215 z216 z217 z218 z219:Value) (H:Own w0 wr (slc EL SZ (.slice (some ⟨g,0,none⟩) N c) N (rows eC (p++X1++Y1++X2++Y2++q))::ps)),Code.wp Tryz.prog (symTail 41) (bodyPost Tryz.prog G_symMergeCmpFunc (Ret fun _ w'=>∃ z,Mrg key x y z∧Own w0 w' (slc EL SZ (.slice (some ⟨g,0,none⟩) N c) N (rows eC (p++z++q))::ps))) ⟨#[.slice (some ⟨g,0,none⟩) N c,.int .i64 a,.int .i64 m,.int .i64 b,cf B,z5,z6,z7,z8,z9,z10,z11,z12,z13,z14,z15,z16,z17,.int .i64 mid,z19,.int .i64 s,z21,z22,z23,.int .i64 en,z25,z26,z27,z28,z29,z30,z31,z32,z33,z34,z35,z36,z37,z38,z39,z40,z41,z42,z43,z44,z45,z46,z47,z48,z49,z50,z51,z52,z53,z54,z55,z56,z57,z58,z59,z60,z61,z62,z63,z64,z65,z66,z67,z68,z69,z70,z71,z72,z73,z74,z75,z76,z77,z78,z79,z80,z81,z82,z83,z84,z85,z86,z87,z88,z89,z90,z91,z92,z93,z94,z95,z96,z97,z98,z99,z100,z101,z102,z103,z104,z105,z106,z107,z108,z109,z110,z111,z112,z113,z114,z115,z116,z117,z118,z119,z120,z121,z122,z123,z124,z125,z126,z127,z128,z129,z130,z131,z132,z133,z134,z135,z136,z137,z138,z139,z140,z141,z142,z143,z144,z145,z146,z147,z148,z149,z150,z151,z152,z153,z154,z155,z156,z157,z158,z159,z160,z161,z162,z163,z164,z165,z166,z167,z168,z169,z170,z171,z172,z173,z174,z175,z176,z177,z178,z179,z180,z181,z182,z183,z184,z185,z186,z187,z188,z189,z190,z191,z192,z193,z194,z195,z196,z197,z198,z199,z200,z201,z202,z203,z204,z205,z206,z207,z208,z209,z210,z211,z212,z213,z214,z215,z216,z217,z218,z219],[]⟩ wr
theorem mk_tail2(A:Type)(eC:A→List Value)(EL:TypeId)(SZ:Nat)(G_symMergeCmpFunc:Func)(cf:Nat→Value)(SymAt:World→List Piece→(A→Prop)→(A→Int)→Nat→Nat→Nat→Nat→Nat→Prop)(symTail:Nat→Code)(h:T_tail2 A eC EL SZ G_symMergeCmpFunc cf SymAt symTail:=by
 unfold T_tail2
 intro w0 ps ok key B g c N f p q x y X1 X2 Y1 Y2 a m b s en mid wr hNb IH HFINAL HOX1 HOX2 HOY1 HOY2 HSX1 HSX2 HSY1 HSY2 HNL HMID2 ham hmb hbN hlens hensN1 hensN2 hmN1 z5 z6 z7 z8 z9 z10 z11 z12 z13 z14 z15 z16 z17 z19 z21 z22 z23 z25 z26 z27 z28 z29 z30 z31 z32 z33 z34 z35 z36 z37 z38 z39 z40 z41 z42 z43 z44 z45 z46 z47 z48 z49 z50 z51 z52 z53 z54 z55 z56 z57 z58 z59 z60 z61 z62 z63 z64 z65 z66 z67 z68 z69 z70 z71 z72 z73 z74 z75 z76 z77 z78 z79 z80 z81 z82 z83 z84 z85 z86 z87 z88 z89 z90 z91 z92 z93 z94 z95 z96 z97 z98 z99 z100 z101 z102 z103 z104 z105 z106 z107 z108 z109 z110 z111 z112 z113 z114 z115 z116 z117 z118 z119 z120 z121 z122 z123 z124 z125 z126 z127 z128 z129 z130 z131 z132 z133 z134 z135 z136 z137 z138 z139 z140 z141 z142 z143 z144 z145 z146 z147 z148 z149 z150 z151 z152 z153 z154 z155 z156 z157 z158 z159 z160 z161 z162 z163 z164 z165 z166 z167 z168 z169 z170 z171 z172 z173 z174 z175 z176 z177 z178 z179 z180 z181 z182 z183 z184 z185 z186 z187 z188 z189 z190 z191 z192 z193 z194 z195 z196 z197 z198 z199 z200 z201 z202 z203 z204 z205 z206 z207 z208 z209 z210 z211 z212 z213 z214 z215 z216 z217 z218 z219 H
 conv=>arg 2;whnf
 dsimp only
 have hNL2:Hid (N=(p++X1++Y1++X2++Y2++q).length):=jd (by rw [HNL.out];simp only [lJ];omega)
 obtain ⟨t2,ht2⟩:∃ t,Hid ((decide (a<s)&&decide (s<mid))=t):=⟨_,jd rfl⟩
 go_upto_region 41 with (fail)
 go_cut [199] (fun s1 wx=>s1=.bool t2∧Own w0 wx ((sL g N c (p++X1++Y1++X2++Y2++q))::ps))
 case first=>
  by_cases h1:a<s
  ·by_cases h2:s<mid
   ·have e:Hid (t2=true):=jd (by rw [← ht2.out];simp [h1,h2])
    go_wp2
    go_meet
    exact ⟨by rw [e.out],H⟩
   ·have e:Hid (t2=false):=jd (by rw [← ht2.out];simp [h2])
    go_wp2
    go_meet
    exact ⟨by rw [e.out],H⟩
  ·have e:Hid (t2=false):=jd (by rw [← ht2.out];simp [h1])
   go_wp2
   go_meet
   exact ⟨by rw [e.out],H⟩
 case rest=>
 clear H
 obtain ⟨rfl,H⟩:=hcut
 go_upto_if 199 with (fail)
 go_cut [] (fun wx=>∃ M1,Hid (Mrg key X1 Y1 M1)∧Own w0 wx ((sL g N c (p++M1++X2++Y2++q))::ps))
 case first=>
  obtain ⟨l1,l2,l3,l4,l5,l6,l7,l8,l9,l10⟩:=hlens.out
  have hm2:=HMID2.out
  cases t2 with
  | true=>
   have h:=ht2.out
   simp only [Bool.and_eq_true,decide_eq_true_eq] at h
   have e1:p++X1++Y1++X2++Y2++q=p++X1++Y1++(X2++Y2++q):=by simp
   have hr:=IH.out wc p X1 Y1 (X2++Y2++q) a s mid (by omega) HOX1.out HOY1.out HSX1.out HSY1.out l1 l2 l6 (by omega) (by omega) (by rw [← e1];exact hNL2.out) (by rw [← e1];exact H)
   have HR:=jd hr
   clear hr l1 l2 l3 l4 l5 l6 l7 l8 l9 l10 h e1 hm2
   go_wp2_with fail
   refine HR.out.mono ?_
   rintro e w3 ⟨_,rfl,z,hz,H3⟩
   clear HR H
   go_wp2
   go_meet
   exact ⟨z,jd hz,by simpa using H3⟩
  | false=>
   have h:=ht2.out
   simp only [Bool.and_eq_false_iff,decide_eq_false_iff_not] at h
   have e1:Hid (Mrg key X1 Y1 (X1++Y1)):=jd (by
    rcases h with h | h
    ·have:X1=[]:=eJ (by omega)
     rw [this];exact Mrg.right HSY1.out
    ·have:Y1=[]:=eJ (by omega)
     rw [this,List.append_nil];exact Mrg.left HSX1.out)
   clear l1 l2 l3 l4 l5 l6 l7 l8 l9 l10 h hm2
   go_wp2
   go_meet
   exact ⟨X1++Y1,e1,by simpa using H⟩
 case rest=>
 clear H
 obtain ⟨M1,hM1,H⟩:=hcut
 apply_assumption
 exact tail3 (p:=p) (q:=q) (x:=x) (y:=y) (X1:=X1) (X2:=X2) (Y1:=Y1) (Y2:=Y2) (a:=a) (m:=m) (b:=b) (s:=s) (en:=en) (mid:=mid) (M1:=M1) wc hNb IH HFINAL HOX1 HOX2 HOY1 HOY2 HSX1 HSX2 HSY1 HSY2 HNL HMID2 ham hmb hbN hlens hensN1 hensN2 hmN1 hM1 _ _ _ _ _ _ _ _ _ _ _ _ _ _ _ _ _ _ _ _ _ _ _ _ _ _ _ _ _ _ _ _ _ _ _ _ _ _ _ _ _ _ _ _ _ _ _ _ _ _ _ _ _ _ _ _ _ _ _ _ _ _ _ _ _ _ _ _ _ _ _ _ _ _ _ _ _ _ _ _ _ _ _ _ _ _ _ _ _ _ _ _ _ _ _ _ _ _ _ _ _ _ _ _ _ _ _ _ _ _ _ _ _ _ _ _ _ _ _ _ _ _ _ _ _ _ _ _ _ _ _ _ _ _ _ _ _ _ _ _ _ _ _ _ _ _ _ _ _ _ _ _ _ _ _ _ _ _ _ _ _ _ _ _ _ _ _ _ _ _ _ _ _ _ _ _ _ _ _ _ _ _ _ _ _ _ _ _ _ _ _ _ _ _ _ _ _ _ _ _ _ _ _ _ _ _ _ _ _ _ _ _ H):T_tail2 A eC EL SZ G_symMergeCmpFunc cf SymAt symTail:=h
def T_tail_any(A:Type)(eC:A→List Value)(EL:TypeId)(SZ:Nat)(G_symMergeCmpFunc:Func)(cf:Nat→Value)(SymAt:World→List Piece→(A→Prop)→(A→Int)→Nat→Nat→Nat→Nat→Nat→Prop)(symTail:Nat→Code):Prop:=∀ ⦃w0:World⦄ ⦃ps:List Piece⦄ ⦃ok:A→Prop⦄ ⦃key:A→Int⦄ ⦃B:Nat⦄ ⦃g c N f:Nat⦄ ⦃p q x y X1 X2 Y1 Y2:List A⦄ ⦃a m b s en mid:Nat⦄ ⦃n:Nat⦄ (wr:World) (hNb:N≤1000000) (IH:Hid (SymAt w0 ps ok key B g c N f)) (HFINAL:Hid (∀ z1 z2,Mrg key X1 Y1 z1→Mrg key X2 Y2 z2→Mrg key x y (z1++z2))) (HOX1:Hid (∀ v∈X1,ok v)) (HOX2:Hid (∀ v∈X2,ok v)) (HOY1:Hid (∀ v∈Y1,ok v)) (HOY2:Hid (∀ v∈Y2,ok v)) (HSX1:Hid (Srt key X1)) (HSX2:Hid (Srt key X2)) (HSY1:Hid (Srt key Y1)) (HSY2:Hid (Srt key Y2)) (HNL:Hid (N=(p++X1++X2++Y1++Y2++q).length)) (HMID2:Hid (mid+mid≤a+b∧a+b≤mid+mid+1)) (ham:a+2≤m) (hmb:m+2≤b) (hbN:b≤N) (hlens:Hid (a=p.length∧s=a+X1.length∧m=s+X2.length∧en=m+Y1.length∧b=en+Y2.length∧mid=s+Y1.length∧en=mid+X2.length∧X1.length+X2.length+(Y1.length+Y2.length)≤f+1∧0<X1.length+X2.length∧0<Y1.length+Y2.length)) (hensN1:en≤N) (hensN2:s≤N) (hmN1:mid≤N) (henI:((n:Int)-(s:Int))=(en:Int)) (hsn:s≤n) (hmN2:n≤2*N) (z5 z6 z7 z8 z9 z10 z11 z12 z13 z14 z15 z16 z17 z21 z22 z23 z24 z25 z26 z27 z28 z29 z30 z31 z32 z33 z34 z35 z36 z37 z38 z39 z40 z41 z42 z43 z44 z45 z46 z47 z48 z49 z50 z51 z52 z53 z54 z55 z56 z57 z58 z59 z60 z61 z62 z63 z64 z65 z66 z67 z68 z69 z70 z71 z72 z73 z74 z75 z76 z77 z78 z79 z80 z81 z82 z83 z84 z85 z86 z87 z88 z89 z90 z91 z92 z93 z94 z95 z96 z97 z98 z99 z100 z101 z102 z103 z104 z105 z106 z107 z108 z109 z110 z111 z112 z113 z114 z115 z116 z117 z118 z119 z120 z121 z122 z123 z124 z125 z126 z127 z128 z129 z130 z131 z132 z133 z134 z135 z136 z137 z138 z139 z140 z141 z142 z143 z144 z145 z146 z147 z148 z149 z150 z151 z152 z153 z154 z155 z156 z157 z158 z159 z160 z161 z162 z163 z164 z165 z166 z167 z168 z169 z170 z171 z172 z173 z174 z175 z176 z177 z178 z179 z180 z181 z182 z183 z184 z185 z186 z187 z188 z189 z190 z191 z192 z193 z194 z195 z196 z197 z198 z199 z200 z201 z202 z203 z204 z205 z206 z207 z208 z209 z210 z211 z212 z213 z214 z215 z216 z217 z218 z219:Value) (H:Own w0 wr (slc EL SZ (.slice (some ⟨g,0,none⟩) N c) N (rows eC (p++X1++X2++Y1++Y2++q))::ps)),Code.wp Tryz.prog (symTail 38) (bodyPost Tryz.prog G_symMergeCmpFunc (Ret fun _ w'=>∃ z,Mrg key x y z∧Own w0 w' (slc EL SZ (.slice (some ⟨g,0,none⟩) N c) N (rows eC (p++z++q))::ps))) ⟨#[.slice (some ⟨g,0,none⟩) N c,.int .i64 a,.int .i64 m,.int .i64 b,cf B,z5,z6,z7,z8,z9,z10,z11,z12,z13,z14,z15,z16,z17,.int .i64 mid,.int .i64 n,.int .i64 s,z21,z22,z23,z24,z25,z26,z27,z28,z29,z30,z31,z32,z33,z34,z35,z36,z37,z38,z39,z40,z41,z42,z43,z44,z45,z46,z47,z48,z49,z50,z51,z52,z53,z54,z55,z56,z57,z58,z59,z60,z61,z62,z63,z64,z65,z66,z67,z68,z69,z70,z71,z72,z73,z74,z75,z76,z77,z78,z79,z80,z81,z82,z83,z84,z85,z86,z87,z88,z89,z90,z91,z92,z93,z94,z95,z96,z97,z98,z99,z100,z101,z102,z103,z104,z105,z106,z107,z108,z109,z110,z111,z112,z113,z114,z115,z116,z117,z118,z119,z120,z121,z122,z123,z124,z125,z126,z127,z128,z129,z130,z131,z132,z133,z134,z135,z136,z137,z138,z139,z140,z141,z142,z143,z144,z145,z146,z147,z148,z149,z150,z151,z152,z153,z154,z155,z156,z157,z158,z159,z160,z161,z162,z163,z164,z165,z166,z167,z168,z169,z170,z171,z172,z173,z174,z175,z176,z177,z178,z179,z180,z181,z182,z183,z184,z185,z186,z187,z188,z189,z190,z191,z192,z193,z194,z195,z196,z197,z198,z199,z200,z201,z202,z203,z204,z205,z206,z207,z208,z209,z210,z211,z212,z213,z214,z215,z216,z217,z218,z219],[]⟩ wr
theorem mk_tail_any(A:Type)(eC:A→List Value)(EL:TypeId)(SZ:Nat)(G_symMergeCmpFunc:Func)(cf:Nat→Value)(SymAt:World→List Piece→(A→Prop)→(A→Int)→Nat→Nat→Nat→Nat→Nat→Prop)(symTail:Nat→Code)(h:T_tail_any A eC EL SZ G_symMergeCmpFunc cf SymAt symTail:=by
 unfold T_tail_any
 intro w0 ps ok key B g c N f p q x y X1 X2 Y1 Y2 a m b s en mid n wr hNb IH HFINAL HOX1 HOX2 HOY1 HOY2 HSX1 HSX2 HSY1 HSY2 HNL HMID2 ham hmb hbN hlens hensN1 hensN2 hmN1 henI hsn hmN2 z5 z6 z7 z8 z9 z10 z11 z12 z13 z14 z15 z16 z17 z21 z22 z23 z24 z25 z26 z27 z28 z29 z30 z31 z32 z33 z34 z35 z36 z37 z38 z39 z40 z41 z42 z43 z44 z45 z46 z47 z48 z49 z50 z51 z52 z53 z54 z55 z56 z57 z58 z59 z60 z61 z62 z63 z64 z65 z66 z67 z68 z69 z70 z71 z72 z73 z74 z75 z76 z77 z78 z79 z80 z81 z82 z83 z84 z85 z86 z87 z88 z89 z90 z91 z92 z93 z94 z95 z96 z97 z98 z99 z100 z101 z102 z103 z104 z105 z106 z107 z108 z109 z110 z111 z112 z113 z114 z115 z116 z117 z118 z119 z120 z121 z122 z123 z124 z125 z126 z127 z128 z129 z130 z131 z132 z133 z134 z135 z136 z137 z138 z139 z140 z141 z142 z143 z144 z145 z146 z147 z148 z149 z150 z151 z152 z153 z154 z155 z156 z157 z158 z159 z160 z161 z162 z163 z164 z165 z166 z167 z168 z169 z170 z171 z172 z173 z174 z175 z176 z177 z178 z179 z180 z181 z182 z183 z184 z185 z186 z187 z188 z189 z190 z191 z192 z193 z194 z195 z196 z197 z198 z199 z200 z201 z202 z203 z204 z205 z206 z207 z208 z209 z210 z211 z212 z213 z214 z215 z216 z217 z218 z219 H
 conv=>arg 2;whnf
 dsimp only
 obtain ⟨t1,ht1⟩:∃ t,Hid ((decide (s<m)&&decide (m<en))=t):=⟨_,jd rfl⟩
 go_upto_region 39 with (fail)
 go_cut [185] (fun s1 wx=>s1=.bool t1∧Own w0 wx ((sL g N c (p++X1++X2++Y1++Y2++q))::ps))
 case first=>
  by_cases h1:s<m
  ·by_cases h2:m<en
   ·have e:Hid (t1=true):=jd (by rw [← ht1.out];simp [h1,h2])
    go_wp2
    go_meet
    exact ⟨by rw [e.out],H⟩
   ·have e:Hid (t1=false):=jd (by rw [← ht1.out];simp [h2])
    go_wp2
    go_meet
    exact ⟨by rw [e.out],H⟩
  ·have e:Hid (t1=false):=jd (by rw [← ht1.out];simp [h1])
   go_wp2
   go_meet
   exact ⟨by rw [e.out],H⟩
 case rest=>
 clear H
 obtain ⟨rfl,H⟩:=hcut
 go_upto_if 185 with (fail)
 go_cut [] (fun wx=>Own w0 wx ((sL g N c (p++X1++Y1++X2++Y2++q))::ps))
 case first=>
  obtain ⟨l1,l2,l3,l4,l5,l6,l7,l8,l9,l10⟩:=hlens.out
  cases t1 with
  | true=>
   have h:=ht1.out
   simp only [Bool.and_eq_true,decide_eq_true_eq] at h
   have e1:p++X1++X2++Y1++Y2++q=(p++X1)++X2++Y1++(Y2++q):=by simp
   have hr:=rotate_any (w0:=w0) (w:=wc) (ps:=ps) (g:=g) (c:=c) (N:=N) (p:=p++X1) (x:=X2) (y:=Y1) (q:=Y2++q) (a:=s) (m:=m) (b:=en) (cf B) (by rw [lJ];omega) l3 l4 (by omega) (by omega) (by rw [← e1];exact HNL.out) hNb (by rw [← e1];exact H)
   have HR:=jd hr
   clear hr l1 l2 l3 l4 l5 l6 l7 l8 l9 l10 h e1
   go_wp2_with fail
   refine HR.out.mono ?_
   rintro e w3 ⟨_,rfl,H3⟩
   clear HR H
   go_wp2
   go_meet
   simpa using H3
  | false=>
   have h:=ht1.out
   simp only [Bool.and_eq_false_iff,decide_eq_false_iff_not] at h
   have e1:p++X1++X2++Y1++Y2++q=p++X1++Y1++X2++Y2++q:=by
    rcases h with h | h
    ·have:X2=[]:=eJ (by omega)
     rw [this];simp
    ·have:Y1=[]:=eJ (by omega)
     rw [this];simp
   rw [e1] at H
   clear l1 l2 l3 l4 l5 l6 l7 l8 l9 l10 h e1
   go_wp2
   go_meet
   exact H
 case rest=>
 clear H
 have H:=hcut
 clear hcut
 apply_assumption
 exact tail2 (p:=p) (q:=q) (x:=x) (y:=y) (X1:=X1) (X2:=X2) (Y1:=Y1) (Y2:=Y2) (a:=a) (m:=m) (b:=b) (s:=s) (en:=en) (mid:=mid) wc hNb IH HFINAL HOX1 HOX2 HOY1 HOY2 HSX1 HSX2 HSY1 HSY2 HNL HMID2 ham hmb hbN hlens hensN1 hensN2 hmN1 _ _ _ _ _ _ _ _ _ _ _ _ _ _ _ _ _ _ _ _ _ _ _ _ _ _ _ _ _ _ _ _ _ _ _ _ _ _ _ _ _ _ _ _ _ _ _ _ _ _ _ _ _ _ _ _ _ _ _ _ _ _ _ _ _ _ _ _ _ _ _ _ _ _ _ _ _ _ _ _ _ _ _ _ _ _ _ _ _ _ _ _ _ _ _ _ _ _ _ _ _ _ _ _ _ _ _ _ _ _ _ _ _ _ _ _ _ _ _ _ _ _ _ _ _ _ _ _ _ _ _ _ _ _ _ _ _ _ _ _ _ _ _ _ _ _ _ _ _ _ _ _ _ _ _ _ _ _ _ _ _ _ _ _ _ _ _ _ _ _ _ _ _ _ _ _ _ _ _ _ _ _ _ _ _ _ _ _ _ _ _ _ _ _ _ _ _ _ _ _ _ _ _ _ _ _ _ _ _ _ _ _ H):T_tail_any A eC EL SZ G_symMergeCmpFunc cf SymAt symTail:=h
end Go.Proofs.YthekdeikodppkaaGreatDoor
namespace Go.Proofs.YthekdeikodppkaaGreatDoor
open Go.RowKit
namespace SI
noncomputable def symTail(r:Nat):Code:=((Tryz.f379.body.bind (fromR r)).getD .skip)
def SymAt(w0:World)(ps:List Piece)(ok:Int→Prop)(key:Int→Int)(B g c N f:Nat):Prop:=
 ∀ (w:World) (p x y q:List Int) (a m b:Nat),x.length+y.length≤f→(∀ v∈x,ok v)→(∀ v∈y,ok v)→Srt key x→Srt key y→a=p.length→m=a+x.length→b=m+y.length→0<x.length→0<y.length→N=(p++x++y++q).length →
  Own w0 w (slc 3 1 (.slice (some ⟨g,0,none⟩) N c) N (rows ie (p++x++y++q))::ps) →
  Calls Tryz.prog 379 #[.slice (some ⟨g,0,none⟩) N c,.int .i64 a,.int .i64 m,.int .i64 b,cf B] w (Ret fun _ w'=>∃ z,Mrg key x y z∧Own w0 w' (slc 3 1 (.slice (some ⟨g,0,none⟩) N c) N (rows ie (p++z++q))::ps))
open Go.Proofs.YthekdeikodppkaaGreatDoor.SI renaming ie → eC
section
variable {w0:World} {ps:List Piece} {ok:Int→Prop} {key:Int→Int} {B:Nat}
set_option maxRecDepth 1000000 in
set_option maxHeartbeats 12800000 in
def tail3:=mk_tail3 Int ie 3 1 Tryz.f379 cf SymAt symTail
set_option maxRecDepth 1000000 in
set_option maxHeartbeats 12800000 in
def tail2:=mk_tail2 Int ie 3 1 Tryz.f379 cf SymAt symTail
set_option maxRecDepth 1000000 in
set_option maxHeartbeats 12800000 in
def tail_any:=mk_tail_any Int ie 3 1 Tryz.f379 cf SymAt symTail
end
end SI
end Go.Proofs.YthekdeikodppkaaGreatDoor
namespace Go.Proofs.YthekdeikodppkaaGreatDoor
open Go.RowKit
set_option maxRecDepth 1000000
def T_sym_any(A:Type)(eC:A→List Value)(EL:TypeId)(SZ:Nat)(Cmps:World→List Piece→Nat→(A→Prop)→(A→Int)→Prop)(SymAt:World→List Piece→(A→Prop)→(A→Int)→Nat→Nat→Nat→Nat→Nat→Prop):Prop:=∀ ⦃w0:World⦄ ⦃ps:List Piece⦄ ⦃ok:A→Prop⦄ ⦃key:A→Int⦄ ⦃B:Nat⦄ ⦃g c N:Nat⦄ (hcmp:Cmps w0 ps B ok key) (hNb:N≤1000000),∀ (f:Nat),SymAt w0 ps ok key B g c N f
theorem mk_sym_any(A:Type)(eC:A→List Value)(EL:TypeId)(SZ:Nat)(Cmps:World→List Piece→Nat→(A→Prop)→(A→Int)→Prop)(SymAt:World→List Piece→(A→Prop)→(A→Int)→Nat→Nat→Nat→Nat→Nat→Prop)(h:T_sym_any A eC EL SZ Cmps SymAt:=by
 unfold T_sym_any
 intro w0 ps ok key B g c N hcmp hNb
 intro f
 induction f with
 | zero=>intro w p x y q a m b hf _ _ _ _ _ _ _ h1 _ _ _;omega
 | succ f ih=>
 intro w p x y q a m b hf hokx hoky hsx hsy ha hm hb hx0 hy0 hN H
 by_cases hx1:x.length=1
 ·obtain ⟨u,rfl⟩:=List.length_eq_one_iff.1 hx1
  exact symL_any hcmp (hokx u (by simp)) hoky hsy ha (by simpa using hm) hb hN hNb H
 by_cases hy1:y.length=1
 ·obtain ⟨u,rfl⟩:=List.length_eq_one_iff.1 hy1
  exact symR_any hcmp (hoky u (by simp)) hokx hsx (by omega) ha hm (by simpa using hb) hN hNb H
 have hbN:b≤N:=by rw [hN];simp only [lJ];omega
 have hNc:N≤c:=by obtain ⟨_,_,e,h1,_⟩:=H.rd.shape;cases e;exact h1
 have hc2:c≤9223372036854775807:=by obtain ⟨_,_,e,_,h1⟩:=H.rd.shape;cases e;exact h1
 have hgx:∀ (t:Nat) v,x[t]?=some v→(p++x++y++q)[a+t]?=some v:=by
  intro t v hv
  have:p++x++y++q=p++(x++(y++q)):=by simp
  rw [this,List.getElem?_append_right (by omega),List.getElem?_append_left (by have:=(gJ hv).1;omega)]
  rw [show a+t-p.length=t by omega]
  exact hv
 have hgy:∀ (t:Nat) v,y[t]?=some v→(p++x++y++q)[m+t]?=some v:=by
  intro t v hv
  have:p++x++y++q=(p++x)++(y++q):=by simp
  rw [this,List.getElem?_append_right (by rw [lJ];omega),List.getElem?_append_left (by have:=(gJ hv).1;rw [lJ];omega)]
  rw [show m+t-(p++x).length=t by rw [lJ];omega]
  exact hv
 have HGX:=jd hgx
 have HGY:=jd hgy
 have HP:=jd ha
 have HM:=jd hm
 have HB:=jd hb
 have HN:=jd hN
 have HC:=jd hcmp
 have HOX:=jd hokx
 have HOY:=jd hoky
 have HSX:=jd hsx
 have HSY:=jd hsy
 have HF:=jd hf
 have IH:Hid (SymAt w0 ps ok key B g c N f):=jd ih
 obtain ⟨L,hL⟩:∃ L,Hid (p++x++y++q=L):=⟨_,jd rfl⟩
 rw [hL.out] at H HGX HGY
 have ham:a+2≤m:=by omega
 have hmb:m+2≤b:=by omega
 have hma:(((m:Int)-(a:Int))==1)=false:=by simp;omega
 have hbm:(((b:Int)-(m:Int))==1)=false:=by simp;omega
 obtain ⟨mid,hmid⟩:∃ h,Hid ((a+b)/2=h):=⟨_,rfl⟩
 have hsI:(((a:Int)+(b:Int))/2)=(mid:Int):=by have:=hmid.out;omega
 have hsU:IntKind.u64.wrap ((a:Int)+(b:Int))=(a:Int)+(b:Int):=by simp [IntKind.wrap,IntKind.bits,IntKind.signed];omega
 obtain ⟨n,hn⟩:∃ n,Hid (mid+m=n):=⟨_,rfl⟩
 have hnI:((mid:Int)+(m:Int))=(n:Int):=by have:=hn.out;omega
 have hmid2:mid+mid≤a+b∧a+b≤mid+mid+1:=by rw [← hmid.out];omega
 have hmN:mid≤N∧n≤2*N:=by have:=hn.out;omega
 obtain ⟨hmN1,hmN2⟩:=hmN
 have hn1:1≤n:=by have:=hn.out;omega
 have HMID2:=jd hmid2
 clear hmid2 ih hf hokx hoky hsx hsy ha hm hb hx0 hy0 hN hgx hgy hcmp hx1 hy1
 go_enter fusymMergeCmpFunc,ntsymMergeCmpFunc
 go_upto_if 140 with (fail)
 go_cut [20,21] (fun s20 s21 wx=>wx=w∧∃ lo hi:Nat,s20=.int .i64 lo∧s21=.int .i64 hi∧Hid (a≤lo∧lo≤hi∧hi≤m∧(lo=a∨n=lo+b)∧(hi=m∨hi+m=n)∧(n≤lo+b∧m+hi≤n)∧∀ c,lo≤c→c<hi→m+c+1≤n∧n≤b+c))
 case first=>
  have hm2:=HMID2.out
  have hn2:=hn.out
  by_cases hmm:mid<m
  ·have hmmI:(mid:Int)<(m:Int):=by omega
   obtain ⟨lo,hlo⟩:∃ lo,n=lo+b:=⟨n-b,by omega⟩
   have hloI:((n:Int)-(b:Int))=(lo:Int):=by omega
   have hfacts:a≤lo∧lo≤mid∧mid≤m∧(lo=a∨n=lo+b)∧(mid=m∨mid+m=n)∧(n≤lo+b∧m+mid≤n)∧∀ c,lo≤c→c<mid→m+c+1≤n∧n≤b+c:=⟨by omega,by omega,by omega,.inr hlo,.inr hn2,⟨by omega,by omega⟩,fun c h1 h2=>⟨by omega,by omega⟩⟩
   have HFA:=jd hfacts
   clear hfacts hlo hn2 hm2
   go_wp2_with fail
   go_meet
   exact ⟨rfl,lo,mid,by go_num,rfl,HFA⟩
  ·have hmmI:¬ ((mid:Int)<(m:Int)):=by omega
   have hfacts:a≤a∧a≤m∧m≤m∧(a=a∨n=a+b)∧(m=m∨m+m=n)∧(n≤a+b∧m+m≤n)∧∀ c,a≤c→c<m→m+c+1≤n∧n≤b+c:=⟨by omega,by omega,by omega,.inl rfl,.inl rfl,⟨by omega,by omega⟩,fun c h1 h2=>⟨by omega,by omega⟩⟩
   clear hfacts hn2 hm2
   go_wp2_with fail
   go_meet
   refine ⟨rfl,a,m,rfl,rfl,jd ?_⟩
   have hm2:=HMID2.out
   have hn2:=hn.out
   exact ⟨by omega,by omega,by omega,.inl rfl,.inl rfl,⟨by omega,by omega⟩,fun c h1 h2=>⟨by omega,by omega⟩⟩
 case rest=>
  obtain ⟨rfl,lo,hi,rfl,rfl,HFA⟩:=hcut
  obtain ⟨pp,hpp⟩:∃ pp,n=pp+1:=⟨n-1,by omega⟩
  have hppI:((n:Int)-1)=(pp:Int):=by omega
  have HPP:=jd hpp
  have hppN:pp≤2*N:=by omega
  clear hpp
  go_upto_block 8 with (fail)
  go_cut [20] (fun s20 wx=>∃ s:Nat,s20=.int .i64 s∧lo≤s∧s≤hi∧Hid (s=lo∨∃ u v,x[s-1-a]?=some u∧y[n-s-m]?=some v∧key u≤key v)∧Hid (s=hi∨∃ u v,x[s-a]?=some u∧y[n-1-s-m]?=some v∧key v<key u)∧Own w0 wx ((sL g N c L)::ps))
  case first=>
   go_wp2_with fail
   go_loopw [20,21] (fun s20 s21 wx=>∃ (s r:Nat),s20=.int .i64 s∧s21=.int .i64 r∧lo≤s∧s≤r∧r≤hi∧Hid (s=lo∨∃ u v,x[s-1-a]?=some u∧y[n-s-m]?=some v∧key u≤key v)∧Hid (r=hi∨∃ u v,x[r-a]?=some u∧y[n-1-r-m]?=some v∧key v<key u)∧Own w0 wx ((sL g N c L)::ps)) (fun s20 s21 _=>(intOf s21).toNat-(intOf s20).toNat)
   case atStart=>exact ⟨lo,hi,rfl,by go_num,Nat.le_refl _,HFA.out.2.1,Nat.le_refl _,jd (.inl rfl),jd (.inl rfl),H⟩
   case round=>
    clear H hppI
    obtain ⟨s,r,rfl,rfl,hls,hsr,hrh,hlo,hhi,H⟩:=hrel
    by_cases hlt:s<r
    ·obtain ⟨h,hh⟩:∃ h,Hid ((s+r)/2=h):=⟨_,rfl⟩
     have hsh:s≤h:=by rw [← hh.out];omega
     have hhr:h<r:=by rw [← hh.out];omega
     have hsI2:(((s:Int)+(r:Int))/2)=(h:Int):=by have:=hh.out;omega
     have hrm:r≤N:=by have:=HFA.out.2.2.1;omega
     have hsU2:IntKind.u64.wrap ((s:Int)+(r:Int))=(s:Int)+(r:Int):=by simp [IntKind.wrap,IntKind.bits,IntKind.signed];omega
     obtain ⟨hf1,hf2⟩:=HFA.out.2.2.2.2.2.2 h (by omega) (by omega)
     obtain ⟨t,ht⟩:∃ t,h=a+t:=⟨h-a,by have:=HFA.out.1;omega⟩
     obtain ⟨u,hu⟩:=Ql (l:=x) (k:=t) (by have:=HM.out;have:=HFA.out.2.2.1;omega)
     obtain ⟨pc,hpc⟩:∃ pc,n=pc+1+h:=⟨n-1-h,by omega⟩
     obtain ⟨t2,ht2⟩:∃ t2,pc=m+t2:=⟨pc-m,by omega⟩
     obtain ⟨v,hv⟩:=Ql (l:=y) (k:=t2) (by have:=HB.out;omega)
     have hg1:=HGX.out t u hu
     have hg2:=HGY.out t2 v hv
     rw [← ht] at hg1
     rw [← ht2] at hg2
     have HG1:=jd hg1
     have HG2:=jd hg2
     have hoku:ok u:=HOX.out u (List.mem_of_getElem? hu)
     have hokv:ok v:=HOY.out v (List.mem_of_getElem? hv)
     have hpcI:((pp:Int)-(h:Int))=(pc:Int):=by have:=HPP.out;omega
     have hpcN:(pc:Int)<(N:Int):=by omega
     have hhN:(h:Int)<(N:Int):=by omega
     have hcall:=fun (wz:World) (h:Own w0 wz ((sL g N c L)::ps))=>HC.out wz _ h v u hokv hoku
     have hcl:=cmpI_lt (key v) (key u)
     obtain ⟨cv,hcv⟩:∃ cv,Hid (cmpI (key v) (key u)=cv):=⟨_,rfl⟩
     simp only [hcv.out] at hcall hcl
     have HCALL:=jd hcall
     have hlo2:¬ key v<key u→Hid (h+1=lo∨∃ u v,x[h+1-1-a]?=some u∧y[n-(h+1)-m]?=some v∧key u≤key v):=fun hk=>jd (.inr ⟨u,v,by rw [show h+1-1-a=t by omega];exact hu,by rw [show n-(h+1)-m=t2 by omega];exact hv,by omega⟩)
     have hhi2:key v<key u→Hid (h=hi∨∃ u v,x[h-a]?=some u∧y[n-1-h-m]?=some v∧key v<key u):=fun hk=>jd (.inr ⟨u,v,by rw [show h-a=t by omega];exact hu,by rw [show n-1-h-m=t2 by omega];exact hv,hk⟩)
     have HLO2:=jd hlo2
     have HHI2:=jd hhi2
     clear hlo2 hhi2 hg1 hg2 hu hv ht ht2 hcall hf1 hf2 hpc
     go_upto_region 35 with (fail)
     refine Qa (fun w1=>Own w0 w1 ((sL g N c L)::ps)) 12 (by kernel_rfl) (by kernel_rfl) H.drew ?_
     simp only [List.take_succ_cons,List.take_zero,List.drop_succ_cons,List.drop_zero]
     have hpw:IntKind.i64.wrap (pc:Int)=(pc:Int):=IntWalk.i64_in _ ⟨by omega,by omega⟩
     repeat
      first
      | (refine calm_value (v:=?_) (by decide) rfl (fun σ w1 hS=>?_) ?_
         rotate_left
         ·obtain ⟨c1,c1'⟩:=el hS.rd HG1.out;obtain ⟨c2,c2'⟩:=el hS.rd HG2.out
          first | (go_simp;rfl) | rfl
         simp only [Act.put,putC])
      | (refine calm_skip (by decide) rfl ?_
         simp only [Act.put,putC])
     refine calm_call (v:=.int .i64 cv) (by decide) rfl (fun w1=>(by go_simp;first | exact ⟨rfl,rfl⟩ | rfl)) (fun σ w1 hS=>?_) ?_
     ·refine (HCALL.out w1 hS).mono ?_
      rintro e w2 ⟨_,rfl,rfl,h2⟩
      exact ⟨rfl,hS.join h2⟩
     simp only [Act.put,putC]
     refine calm_nil ?_
     intro wd HD
     clear H
     by_cases hk:key v<key u
     ·have hk2:decide (cv<0)=true:=by rw [hcl];simp [hk]
      have hn':=HHI2.out hk
      clear hk hcl HLO2
      go_wp2
      go_roundw
      case rel=>exact ⟨s,h,rfl,by go_num,by omega,by omega,by omega,hlo,hn',HD⟩
      case measure=>simp [intOf];omega
     ·have hk2:decide (cv<0)=false:=by rw [hcl];simp [hk]
      have hn':=HLO2.out hk
      clear hk hcl HHI2
      go_wp2
      go_roundw
      case rel=>exact ⟨h+1,r,by go_num,rfl,by omega,by omega,by omega,hn',hhi,HD⟩
      case measure=>simp [intOf];omega
    ·have hsr2:s=r:=by omega
     subst hsr2
     clear hlt
     go_wp2
     go_meet
     exact ⟨s,rfl,hls,hrh,hlo,hhi,H⟩
  case rest=>
   clear H hppI
   obtain ⟨s,rfl,hls,hrh,hlo,hhi,H⟩:=hcut
   obtain ⟨q1,q2,q3,q4,q5,q7,q6⟩:=HFA.out
   have hm2:=HMID2.out
   have hn2:=hn.out
   have hMl:=HM.out
   have hBl:=HB.out
   obtain ⟨en,hen⟩:∃ en,n=en+s:=⟨n-s,by omega⟩
   have henb:en≤b:=by omega
   have hmen:m≤en:=by omega
   obtain ⟨X1,X2,hxs,hX1⟩:=split_at x (s-a) (by omega)
   obtain ⟨Y1,Y2,hys,hY1⟩:=split_at y (en-m) (by omega)
   have hX2l:s+X2.length=m:=by rw [hxs,lJ] at hMl;omega
   have hY2l:en+Y2.length=b:=by rw [hys,lJ] at hBl;omega
   have hA:∀ d∈X2,∀ e∈Y1,key e<key d:=by
    intro d hd e he
    rcases hhi.out with h | ⟨u,v,hu,hv,huv⟩
    ·rcases q5 with h2 | h2
     ·have:X2=[]:=eJ (by omega)
      rw [this] at hd;simp at hd
     ·have:Y1=[]:=eJ (by omega)
      rw [this] at he;simp at he
    ·obtain ⟨i',hi',rfl⟩:=List.getElem_of_mem hd
     obtain ⟨j',hj',rfl⟩:=List.getElem_of_mem he
     have h1:x[X1.length+i']?=some X2[i']:=by rw [hxs,List.getElem?_append_right (by omega),Nat.add_sub_cancel_left,List.getElem?_eq_getElem hi']
     have h2:y[j']?=some Y1[j']:=by rw [hys,List.getElem?_append_left hj',List.getElem?_eq_getElem hj']
     have h3:=srt_le HSX.out hu h1 (by omega)
     have h4:=srt_le HSY.out h2 hv (by omega)
     omega
   have hB':∀ d∈X1,∀ e∈Y2,key d≤key e:=by
    intro d hd e he
    rcases hlo.out with h | ⟨u,v,hu,hv,huv⟩
    ·rcases q4 with h2 | h2
     ·have:X1=[]:=eJ (by omega)
      rw [this] at hd;simp at hd
     ·have:Y2=[]:=eJ (by omega)
      rw [this] at he;simp at he
    ·obtain ⟨i',hi',rfl⟩:=List.getElem_of_mem hd
     obtain ⟨j',hj',rfl⟩:=List.getElem_of_mem he
     have h1:x[i']?=some X1[i']:=by rw [hxs,List.getElem?_append_left hi',List.getElem?_eq_getElem hi']
     have h2:y[Y1.length+j']?=some Y2[j']:=by rw [hys,List.getElem?_append_right (by omega),Nat.add_sub_cancel_left,List.getElem?_eq_getElem hj']
     have h3:=srt_le HSX.out h1 hu (by omega)
     have h4:=srt_le HSY.out hv h2 (by omega)
     omega
   have hfinal:∀ z1 z2,Mrg key X1 Y1 z1→Mrg key X2 Y2 z2→Mrg key x y (z1++z2):=fun z1 z2 h1 h2=>by
    rw [hxs,hys]
    exact Mrg.two h1 h2 (by rw [← hxs];exact HSX.out) (by rw [← hys];exact HSY.out) hA hB'
   have HFINAL:=jd hfinal
   have HOX1:Hid (∀ v∈X1,ok v):=jd fun v hv=>HOX.out v (by rw [hxs];simp [hv])
   have HOX2:Hid (∀ v∈X2,ok v):=jd fun v hv=>HOX.out v (by rw [hxs];simp [hv])
   have HOY1:Hid (∀ v∈Y1,ok v):=jd fun v hv=>HOY.out v (by rw [hys];simp [hv])
   have HOY2:Hid (∀ v∈Y2,ok v):=jd fun v hv=>HOY.out v (by rw [hys];simp [hv])
   have HSX1:Hid (Srt key X1):=jd (by have:=HSX.out;rw [hxs] at this;exact this.left)
   have HSX2:Hid (Srt key X2):=jd (by have:=HSX.out;rw [hxs] at this;exact this.right)
   have HSY1:Hid (Srt key Y1):=jd (by have:=HSY.out;rw [hys] at this;exact this.left)
   have HSY2:Hid (Srt key Y2):=jd (by have:=HSY.out;rw [hys] at this;exact this.right)
   have HL2:Hid (L=p++X1++X2++Y1++Y2++q):=jd (by rw [← hL.out,hxs,hys];simp)
   have HNL:Hid (N=(p++X1++X2++Y1++Y2++q).length):=jd (by rw [← HL2.out,← hL.out];exact HN.out)
   have hlens:Hid (a=p.length∧s=a+X1.length∧m=s+X2.length∧en=m+Y1.length∧b=en+Y2.length∧mid=s+Y1.length∧en=mid+X2.length∧X1.length+X2.length+(Y1.length+Y2.length)≤f+1∧0<X1.length+X2.length∧0<Y1.length+Y2.length):=jd (by
    have h1:=HP.out
    have h2:=HF.out
    rw [hxs,hys,lJ,lJ] at h2
    rw [hxs,lJ] at hMl
    rw [hys,lJ] at hBl
    refine ⟨h1,by omega,by omega,by omega,by omega,by omega,by omega,by omega,by omega,by omega⟩)
   have henI:((n:Int)-(s:Int))=(en:Int):=by omega
   have hensN:en≤N∧s≤N:=⟨by omega,by omega⟩
   obtain ⟨hensN1,hensN2⟩:=hensN
   have hsn:s≤n:=by omega
   rw [HL2.out] at H
   clear q1 q2 q3 q4 q5 q6 q7 hm2 hn2 hMl hBl hen henb hmen hxs hys hX1 hY1 hX2l hY2l hA hB' hfinal hlo hhi hL hsI hnI
   apply_assumption
   exact tail_any (p:=p) (q:=q) (x:=x) (y:=y) (X1:=X1) (X2:=X2) (Y1:=Y1) (Y2:=Y2) (a:=a) (m:=m) (b:=b) (s:=s) (en:=en) (mid:=mid) (n:=n) wc hNb IH HFINAL HOX1 HOX2 HOY1 HOY2 HSX1 HSX2 HSY1 HSY2 HNL HMID2 ham hmb hbN hlens hensN1 hensN2 hmN1 henI hsn hmN2 _ _ _ _ _ _ _ _ _ _ _ _ _ _ _ _ _ _ _ _ _ _ _ _ _ _ _ _ _ _ _ _ _ _ _ _ _ _ _ _ _ _ _ _ _ _ _ _ _ _ _ _ _ _ _ _ _ _ _ _ _ _ _ _ _ _ _ _ _ _ _ _ _ _ _ _ _ _ _ _ _ _ _ _ _ _ _ _ _ _ _ _ _ _ _ _ _ _ _ _ _ _ _ _ _ _ _ _ _ _ _ _ _ _ _ _ _ _ _ _ _ _ _ _ _ _ _ _ _ _ _ _ _ _ _ _ _ _ _ _ _ _ _ _ _ _ _ _ _ _ _ _ _ _ _ _ _ _ _ _ _ _ _ _ _ _ _ _ _ _ _ _ _ _ _ _ _ _ _ _ _ _ _ _ _ _ _ _ _ _ _ _ _ _ _ _ _ _ _ _ _ _ _ _ _ _ _ _ _ _ _ _ H):T_sym_any A eC EL SZ Cmps SymAt:=h
end Go.Proofs.YthekdeikodppkaaGreatDoor
namespace Go.Proofs.YthekdeikodppkaaGreatDoor
open Go.RowKit
namespace SI
theorem srt_le{α:Type}{key:α→Int}{l:List α}(h:Srt key l){i j:Nat}{u v:α}(hu:l[i]?=some u)(hv:l[j]?=some v)(hij:i≤j):key u≤key v:=by
 obtain ⟨h1,rfl⟩:=gJ hu
 obtain ⟨h2,rfl⟩:=gJ hv
 rcases Nat.lt_or_eq_of_le hij with h3 | h3
 ·exact List.pairwise_iff_getElem.1 h i j h1 h2 h3
 ·subst h3;exact Int.le_refl _
open Go.Proofs.Tryz renaming func379 → fusymMergeCmpFunc, ntmps379 → ntsymMergeCmpFunc
open Go.Proofs.YthekdeikodppkaaGreatDoor.SI renaming ie → eC
section
variable {w0:World} {ps:List Piece} {ok:Int→Prop} {key:Int→Int} {B:Nat}
set_option maxRecDepth 100000 in
set_option maxHeartbeats 12800000 in
def sym_any:=mk_sym_any Int ie 3 1 Cmps SymAt
end
end SI
end Go.Proofs.YthekdeikodppkaaGreatDoor
namespace Go.Proofs.YthekdeikodppkaaGreatDoor
open Go.RowKit
set_option maxRecDepth 1000000
def T_stable_any(A:Type)(eC:A→List Value)(EL:TypeId)(SZ:Nat)(F_stableCmpFunc:FuncId)(cf:Nat→Value)(Cmps:World→List Piece→Nat→(A→Prop)→(A→Int)→Prop):Prop:=∀ ⦃w0:World⦄ ⦃w:World⦄ ⦃ps:List Piece⦄ ⦃ok:A→Prop⦄ ⦃key:A→Int⦄ ⦃B:Nat⦄ ⦃g c N:Nat⦄ ⦃l:List A⦄ (hcmp:Cmps w0 ps B ok key) (hok:∀ x∈l,ok x) (hN:N=l.length) (hNb:N≤1000000) (H:Own w0 w (slc EL SZ (.slice (some ⟨g,0,none⟩) N c) N (rows eC l)::ps)),Calls Tryz.prog F_stableCmpFunc #[.slice (some ⟨g,0,none⟩) N c,.int .i64 N,cf B] w (Ret fun _ w'=>Own w0 w' (slc EL SZ (.slice (some ⟨g,0,none⟩) N c) N (rows eC (sortF key l))::ps))
theorem mk_stable_any(A:Type)(eC:A→List Value)(EL:TypeId)(SZ:Nat)(F_stableCmpFunc:FuncId)(cf:Nat→Value)(Cmps:World→List Piece→Nat→(A→Prop)→(A→Int)→Prop)(h:T_stable_any A eC EL SZ F_stableCmpFunc cf Cmps:=by
 unfold T_stable_any
 intro w0 w ps ok key B g c N l hcmp hok hN hNb H
 have HN:=jd hN
 have HC:=jd hcmp
 have HOK:=jd hok
 clear hN hcmp hok
 go_enter fustableCmpFunc,ntstableCmpFunc
 go_upto_block 0 with (fail)
 go_cut [7] (fun s7 wx=>∃ (a:Nat) (P R:List A),s7=.int .i64 a∧a≤N∧N<a+20∧Hid (P.length=a)∧Hid (StEq key l (P++R))∧Hid (FullC key 20 P)∧Own w0 wx ((sL g N c (P++R))::ps))
 case first=>
  go_wp2_with fail
  go_loopw [7,8] (fun s7 s8 wx=>∃ (a:Nat) (P R:List A),s7=.int .i64 a∧s8=.int .i64 ((a:Int)+20)∧a≤N∧Hid (P.length=a)∧Hid (StEq key l (P++R))∧Hid (FullC key 20 P)∧Own w0 wx ((sL g N c (P++R))::ps)) (fun s7 _ _=>N-(intOf s7).toNat)
  case atStart=>exact ⟨0,[],l,rfl,by go_num,by omega,jd rfl,jd (StEq.refl _),jd .nil,by simpa using H⟩
  case round=>
   clear H
   obtain ⟨a,P,R,rfl,rfl,ha,hP,hl,hF,H⟩:=hrel
   have hlen:Hid (P.length+R.length=N):=jd (by have:=hl.out.length;rw [lJ] at this;have:=HN.out;omega)
   by_cases hab:a+20≤N
   ·obtain ⟨S,R2,hRs,hS⟩:=split_at R 20 (by have:=hlen.out;have:=hP.out;omega)
    subst hRs
    have e1:P++(S++R2)=P++S++R2:=by simp
    rw [e1] at H
    obtain ⟨bn,hbn⟩:∃ bn,bn=a+20:=⟨_,rfl⟩
    have hbI:((a:Int)+20)=(bn:Int):=by omega
    have hbN:(bn:Int)≤(N:Int):=by omega
    have hNl:N=(P++S++R2).length:=by rw [← e1,lJ];exact hlen.out.symm
    have hi:=insert_any (p:=P) (s:=S) (q:=R2) (a:=a) (b:=bn) HC.out (fun v hv=>HOK.out v (hl.out.symm.mem (by simp [hv]))) hP.out.symm (by omega) hNl hNb H
    have HI:=jd hi
    have hbn2:Hid (bn=a+20):=jd hbn
    have hb20:a+20≤bn:=by omega
    have hbN2:bn≤N:=by omega
    have HS:=jd hS
    clear hi hbn hNl e1 hab hlen hS
    go_wp2_with fail
    refine HI.out.mono ?_
    rintro e w3 ⟨_,rfl,s',hs',he',H3⟩
    have hsl:s'.length=20:=by rw [← he'.length];exact HS.out
    have hl2:Hid (StEq key l ((P++s')++R2)):=jd (hl.out.trans (by
     have:=((StEq.refl (key:=key) P).app he').app (StEq.refl R2)
     simpa using this))
    have hF2:Hid (FullC key 20 (P++s')):=jd (hF.out.snoc hsl hs')
    have hP2:Hid ((P++s').length=bn):=jd (by rw [lJ,hsl,hP.out];exact hbn2.out.symm)
    clear HI H he' hs' hsl
    go_wp2
    go_roundw
    case rel=>exact ⟨bn,P++s',R2,by go_num,by go_num,by omega,hP2,hl2,hF2,H3⟩
    case measure=>simp [intOf];omega
   ·have hnb:¬ ((a:Int)+20≤(N:Int)):=by omega
    go_wp2
    go_meet
    exact ⟨a,P,R,rfl,ha,by omega,hP,hl,hF,H⟩
 case rest=>
  clear H
  obtain ⟨a,P,R,rfl,ha,ha2,hP,hl,hF,H⟩:=hcut
  have hlen:Hid (P.length+R.length=N):=jd (by have:=hl.out.length;rw [lJ] at this;have:=HN.out;omega)
  have e1:P++R=P++R++[]:=by simp
  rw [e1] at H
  have hNl:N=(P++R++[]).length:=by rw [← e1,lJ];exact hlen.out.symm
  have hi:=insert_any (p:=P) (s:=R) (q:=[]) (a:=a) (b:=N) HC.out (fun v hv=>HOK.out v (hl.out.symm.mem (by simp [hv]))) hP.out.symm (by have:=hlen.out;have:=hP.out;omega) hNl hNb H
  have HI:=jd hi
  clear hi hNl e1
  go_upto_region 6 with (fail)
  go_wp2_with fail
  refine HI.out.mono ?_
  rintro e w3 ⟨_,rfl,R',hs',he',H3⟩
  have hRl:Hid (R'.length+a=N):=jd (by rw [← he'.length];have:=hlen.out;have:=hP.out;omega)
  have hl2:Hid (StEq key l (P++R')):=jd (hl.out.trans ((StEq.refl (key:=key) P).app he'))
  rw [List.append_nil] at H3
  have HS':=jd hs'
  clear HI H he' hs' hlen hl
  go_wp2_with fail
  go_loopw [6] (fun s6 wx=>∃ (bs:Nat) (P R:List A),s6=.int .i64 bs∧20≤bs∧bs≤2*N+20∧Hid (StEq key l (P++R))∧Hid (FullC key bs P)∧Hid (Srt key R)∧Hid (R.length<bs)∧Own w0 wx ((sL g N c (P++R))::ps)) (fun s6 _=>2*N+21-(intOf s6).toNat)
  case atStart=>exact ⟨20,P,R',by go_num,by omega,by omega,hl2,hF,HS',jd (by have:=hRl.out;omega),H3⟩
  case round=>
   clear H3 hl2 hF HS' hRl hP ha ha2
   obtain ⟨bs,P,R,rfl,hb1,hb2,hl,hF,hS,hRb,H⟩:=hrel
   have hlen:Hid (P.length+R.length=N):=jd (by have:=hl.out.length;rw [lJ] at this;have:=HN.out;omega)
   by_cases hbN:bs<N
   ·have hbNI:(bs:Int)<(N:Int):=by omega
    obtain ⟨b2,hb2'⟩:∃ b2,b2=2*bs:=⟨_,rfl⟩
    have hb2I:(2*(bs:Int))=(b2:Int):=by omega
    have hb2J:((bs:Int)*2)=(b2:Int):=by omega
    have HB2:=jd hb2'
    have hb2b:bs+bs≤b2∧b2≤bs+bs:=⟨by omega,by omega⟩
    obtain ⟨hb2b1,hb2b2⟩:=hb2b
    clear hb2'
    go_upto_block 4 with (fail)
    go_cut [7] (fun s7 wx=>∃ (a:Nat) (P2 P1:List A),s7=.int .i64 a∧a≤N∧N<a+b2∧Hid (P2.length=a)∧Hid (StEq key l (P2++P1++R))∧Hid (FullC key b2 P2)∧Hid (FullC key bs P1)∧Own w0 wx ((sL g N c (P2++P1++R))::ps))
    case first=>
     go_wp2_with fail
     go_loopw [7,8] (fun s7 s8 wx=>∃ (a:Nat) (P2 P1:List A),s7=.int .i64 a∧s8=.int .i64 ((a:Int)+b2)∧a≤N∧Hid (P2.length=a)∧Hid (StEq key l (P2++P1++R))∧Hid (FullC key b2 P2)∧Hid (FullC key bs P1)∧Own w0 wx ((sL g N c (P2++P1++R))::ps)) (fun s7 _ _=>N-(intOf s7).toNat)
     case atStart=>exact ⟨0,[],P,by go_num,by go_num,by omega,jd rfl,jd (by simpa using hl.out),jd .nil,hF,by simpa using H⟩
     case round=>
      clear H hl hF
      obtain ⟨a,P2,P1,rfl,rfl,ha,hP2,hl,hF2,hF1,H⟩:=hrel
      have hlen2:Hid (P2.length+P1.length+R.length=N):=jd (by have:=hl.out.length;rw [lJ,lJ] at this;have:=HN.out;omega)
      by_cases hab:a+b2≤N
      ·obtain ⟨x,y,r,hP1,hx,hy,hsx,hsy,hFr⟩:=hF1.out.two (by have:=hlen2.out;have:=hP2.out;have:=hRb.out;omega)
       subst hP1
       have e1:P2++(x++y++r)++R=P2++x++y++(r++R):=by simp
       rw [e1] at H
       obtain ⟨mn,hmn⟩:∃ mn,mn=a+bs:=⟨_,rfl⟩
       obtain ⟨bn,hbn⟩:∃ bn,bn=a+b2:=⟨_,rfl⟩
       have hmI:((a:Int)+(bs:Int))=(mn:Int):=by omega
       have hbI:((a:Int)+(b2:Int))=(bn:Int):=by omega
       have hbnN:(bn:Int)≤(N:Int):=by omega
       have hNl:N=(P2++x++y++(r++R)).length:=by rw [← e1];have:=hl.out.length;rw [← this];exact HN.out
       have hokx:∀ v∈x,ok v:=fun v hv=>HOK.out v (hl.out.symm.mem (by simp [hv]))
       have hoky:∀ v∈y,ok v:=fun v hv=>HOK.out v (hl.out.symm.mem (by simp [hv]))
       have hi:=sym_any HC.out hNb (x.length+y.length) wr P2 x y (r++R) a mn bn (Nat.le_refl _) hokx hoky hsx hsy hP2.out.symm (by omega) (by omega) (by omega) (by omega) hNl H
       have HI:=jd hi
       have HX:=jd (And.intro hx hy)
       have HFr:=jd hFr
       have hbn2:Hid (bn=a+b2):=jd hbn
       have hbnN2:bn≤N:=by omega
       have habn:a+b2≤bn:=by omega
       clear hi hmn hbn hNl e1 hab hokx hoky hsx hsy hx hy hFr hlen2
       go_wp2_with fail
       refine HI.out.mono ?_
       rintro e w4 ⟨_,rfl,z,hz,H4⟩
       have hzl:z.length=b2:=by rw [← hz.2.length,lJ,HX.out.1,HX.out.2];omega
       have hl3:Hid (StEq key l ((P2++z)++r++R)):=jd (hl.out.trans (by
        have:=((StEq.refl (key:=key) P2).app hz.2).app (StEq.refl (r++R))
        simpa using this))
       have hF3:Hid (FullC key b2 (P2++z)):=jd (hF2.out.snoc hzl hz.1)
       have hP3:Hid ((P2++z).length=bn):=jd (by rw [lJ,hzl,hP2.out];exact hbn2.out.symm)
       clear HI H hz hzl
       go_wp2
       go_roundw
       case rel=>exact ⟨bn,P2++z,r,by go_num,by go_num,by omega,hP3,hl3,hF3,HFr,by simpa using H4⟩
       case measure=>simp [intOf];omega
      ·have hnb:¬ ((a:Int)+(b2:Int)≤(N:Int)):=by omega
       go_wp2
       go_meet
       exact ⟨a,P2,P1,rfl,ha,by omega,hP2,hl,hF2,hF1,H⟩
    case rest=>
     clear H hl hF
     obtain ⟨a,P2,P1,rfl,ha,hab,hP2,hl,hF2,hF1,H⟩:=hcut
     have hlen2:Hid (P2.length+P1.length+R.length=N):=jd (by have:=hl.out.length;rw [lJ,lJ] at this;have:=HN.out;omega)
     obtain ⟨mn,hmn⟩:∃ mn,mn=a+bs:=⟨_,rfl⟩
     have hmI:((a:Int)+(bs:Int))=(mn:Int):=by omega
     have HMN:=jd hmn
     have hmn2:mn≤4*N+40:=by omega
     clear hmn
     by_cases hmN:mn<N
     ·have hmNI:(mn:Int)<(N:Int):=by omega
      obtain ⟨x,r,hP1,hx,hsx,hFr⟩:=hF1.out.front (by have:=hlen2.out;have:=hP2.out;have:=hRb.out;have:=HMN.out;omega)
      have hr0:r=[]:=by
       obtain ⟨q,hq⟩:=hFr.len
       have h1:=hlen2.out;have h2:=hP2.out
       rw [hP1,lJ] at h1
       rcases Nat.eq_zero_or_pos q with h | h
       ·subst h;exact eJ (by omega)
       ·have:=Nat.mul_le_mul_right bs h;omega
      subst hr0
      rw [List.append_nil] at hP1
      subst hP1
      have e1:P2++P1++R=P2++P1++R++[]:=by simp
      rw [e1] at H
      have hNl:N=(P2++P1++R++[]).length:=by rw [← e1];have:=hl.out.length;rw [← this];exact HN.out
      have hi:=sym_any HC.out hNb (P1.length+R.length) wc P2 P1 R [] a mn N (Nat.le_refl _) (fun v hv=>HOK.out v (hl.out.symm.mem (by simp [hv]))) (fun v hv=>HOK.out v (hl.out.symm.mem (by simp [hv]))) hsx hS.out hP2.out.symm (by have:=HMN.out;omega) (by have:=hlen2.out;have:=hP2.out;have:=HMN.out;omega) (by omega) (by have:=hlen2.out;have:=hP2.out;have:=HMN.out;omega) hNl H
      have HI:=jd hi
      clear hi hNl e1 hsx hFr
      go_wp2_with fail
      refine HI.out.mono ?_
      rintro e w4 ⟨_,rfl,z,hz,H4⟩
      have hzl:Hid (z.length<b2):=jd (by rw [← hz.2.length,lJ,hx];have:=hRb.out;omega)
      have hl3:Hid (StEq key l (P2++z)):=jd (hl.out.trans (by
       have:=(StEq.refl (key:=key) P2).app hz.2
       simpa using this))
      have hzs:Hid (Srt key z):=jd hz.1
      rw [List.append_nil] at H4
      clear HI H hz hx
      go_wp2
      go_roundw
      case rel=>exact ⟨b2,P2,z,by go_num,by omega,by omega,hl3,hF2,hzs,hzl,H4⟩
      case measure=>simp [intOf];omega
     ·have hmNI:¬ ((mn:Int)<(N:Int)):=by omega
      have hsrt:Hid (Srt key (P1++R)):=jd (by
       rcases hF1.out.one (by have:=hlen2.out;have:=hP2.out;have:=HMN.out;omega) (by omega) with h | ⟨h,hs⟩
       ·rw [h];exact hS.out
       ·have:R=[]:=eJ (by have:=hlen2.out;have:=hP2.out;have:=HMN.out;omega)
        rw [this,List.append_nil];exact hs)
      have hl3:Hid (StEq key l (P2++(P1++R))):=jd (by simpa using hl.out)
      have hzl:Hid ((P1++R).length<b2):=jd (by rw [lJ];have:=hlen2.out;have:=hP2.out;omega)
      rw [List.append_assoc] at H
      clear hmN
      go_wp2
      go_roundw
      case rel=>exact ⟨b2,P2,P1++R,by go_num,by omega,by omega,hl3,hF2,hsrt,hzl,H⟩
      case measure=>simp [intOf];omega
   ·have hsrt:Hid (P++R=sortF key l):=jd (by
     refine sortF_unique ?_ hl.out
     rcases hF.out.one (by have:=hlen.out;omega) (by omega) with h | ⟨h,hs⟩
     ·rw [h];exact hS.out
     ·have:R=[]:=eJ (by have:=hlen.out;omega)
      rw [this,List.append_nil];exact hs)
    have hnb:¬ ((bs:Int)<(N:Int)):=by omega
    clear hbN
    go_wp2
    go_end0
    exact ⟨_,rfl,by rw [← hsrt.out];exact H⟩):T_stable_any A eC EL SZ F_stableCmpFunc cf Cmps:=h
end Go.Proofs.YthekdeikodppkaaGreatDoor
namespace Go.Proofs.YthekdeikodppkaaGreatDoor
open Go.RowKit
namespace SI
open Go.Proofs.Tryz renaming func358 → fustableCmpFunc, ntmps358 → ntstableCmpFunc
open Go.Proofs.YthekdeikodppkaaGreatDoor.SI renaming ie → eC
section
variable {w0 w:World} {ps:List Piece} {ok:Int→Prop} {key:Int→Int} {B:Nat}
set_option maxRecDepth 100000 in
set_option maxHeartbeats 6400000 in
def stable_any:=mk_stable_any Int ie 3 1 358 cf Cmps
end
end SI
namespace SC
theorem split_at{α:Type}(l:List α)(n:Nat)(h:n≤l.length):∃ a b,l=a++b∧a.length=n:=⟨l.take n,l.drop n,(List.take_append_drop n l).symm,by simp;omega⟩
open Go.Proofs.Tryz renaming func392 → furotateCmpFunc, ntmps392 → ntrotateCmpFunc
open Go.Proofs.YthekdeikodppkaaGreatDoor renaming ce → eC
section
variable {w0 w:World} {ps:List Piece}
set_option maxRecDepth 100000 in
set_option maxHeartbeats 3200000 in
def rotate_any:=mk_rotate_any Coin ce 431 2 392
end
end SC
namespace SC
abbrev cf(_B:Nat):Value:=.func (.func 361) #[] #[]
abbrev ca(_B:Nat)(x y:Coin):Array Value:=#[cval x,cval y]
abbrev cg:Nat:=361
def Cmps(w0:World)(ps:List Piece)(B:Nat)(ok:Coin→Prop)(key:Coin→Int):Prop:=
 ∀ (wz:World) (row:Piece),Own w0 wz (row::ps)→∀ x y,ok x→ok y→Calls Tryz.prog cg (ca B x y) wz (Ret fun v w'=>v=.int .i64 (cmpI (key x) (key y))∧Own wz w' [])
open Go.Proofs.Tryz renaming func388 → fuinsertionSortCmpFunc, ntmps388 → ntinsertionSortCmpFunc
open Go.Proofs.YthekdeikodppkaaGreatDoor renaming ce → eC
section
variable {w0 w:World} {ps:List Piece} {ok:Coin→Prop} {key:Coin→Int} {B:Nat}
set_option maxRecDepth 100000 in
set_option maxHeartbeats 3200000 in
def insert_any:=mk_insert_any Coin ce 431 2 388 cf Cmps
end
end SC
namespace SC
open Go.Proofs.Tryz renaming func389 → fusymMergeCmpFunc, ntmps389 → ntsymMergeCmpFunc
open Go.Proofs.YthekdeikodppkaaGreatDoor renaming ce → eC
section
variable {w0 w:World} {ps:List Piece} {ok:Coin→Prop} {key:Coin→Int} {B:Nat}
set_option maxRecDepth 100000 in
set_option maxHeartbeats 6400000 in
def symL_any:=mk_symL_any Coin ce 431 2 389 cf Cmps
end
end SC
namespace SC
open Go.Proofs.Tryz renaming func389 → fusymMergeCmpFunc, ntmps389 → ntsymMergeCmpFunc
open Go.Proofs.YthekdeikodppkaaGreatDoor renaming ce → eC
section
variable {w0 w:World} {ps:List Piece} {ok:Coin→Prop} {key:Coin→Int} {B:Nat}
set_option maxRecDepth 100000 in
set_option maxHeartbeats 6400000 in
def symR_any:=mk_symR_any Coin ce 431 2 389 cf Cmps
end
end SC
namespace SC
noncomputable def symTail(r:Nat):Code:=((Tryz.f389.body.bind (fromR r)).getD .skip)
def SymAt(w0:World)(ps:List Piece)(ok:Coin→Prop)(key:Coin→Int)(B g c N f:Nat):Prop:=
 ∀ (w:World) (p x y q:List Coin) (a m b:Nat),x.length+y.length≤f→(∀ v∈x,ok v)→(∀ v∈y,ok v)→Srt key x→Srt key y→a=p.length→m=a+x.length→b=m+y.length→0<x.length→0<y.length→N=(p++x++y++q).length →
  Own w0 w (slc 431 2 (.slice (some ⟨g,0,none⟩) N c) N (rows ce (p++x++y++q))::ps) →
  Calls Tryz.prog 389 #[.slice (some ⟨g,0,none⟩) N c,.int .i64 a,.int .i64 m,.int .i64 b,cf B] w (Ret fun _ w'=>∃ z,Mrg key x y z∧Own w0 w' (slc 431 2 (.slice (some ⟨g,0,none⟩) N c) N (rows ce (p++z++q))::ps))
open Go.Proofs.YthekdeikodppkaaGreatDoor renaming ce → eC
section
variable {w0:World} {ps:List Piece} {ok:Coin→Prop} {key:Coin→Int} {B:Nat}
set_option maxRecDepth 1000000 in
set_option maxHeartbeats 12800000 in
def tail3:=mk_tail3 Coin ce 431 2 Tryz.f389 cf SymAt symTail
set_option maxRecDepth 1000000 in
set_option maxHeartbeats 12800000 in
def tail2:=mk_tail2 Coin ce 431 2 Tryz.f389 cf SymAt symTail
set_option maxRecDepth 1000000 in
set_option maxHeartbeats 12800000 in
def tail_any:=mk_tail_any Coin ce 431 2 Tryz.f389 cf SymAt symTail
end
end SC
namespace SC
theorem srt_le{α:Type}{key:α→Int}{l:List α}(h:Srt key l){i j:Nat}{u v:α}(hu:l[i]?=some u)(hv:l[j]?=some v)(hij:i≤j):key u≤key v:=by
 obtain ⟨h1,rfl⟩:=gJ hu
 obtain ⟨h2,rfl⟩:=gJ hv
 rcases Nat.lt_or_eq_of_le hij with h3 | h3
 ·exact List.pairwise_iff_getElem.1 h i j h1 h2 h3
 ·subst h3;exact Int.le_refl _
open Go.Proofs.Tryz renaming func389 → fusymMergeCmpFunc, ntmps389 → ntsymMergeCmpFunc
open Go.Proofs.YthekdeikodppkaaGreatDoor renaming ce → eC
section
variable {w0:World} {ps:List Piece} {ok:Coin→Prop} {key:Coin→Int} {B:Nat}
set_option maxRecDepth 100000 in
set_option maxHeartbeats 12800000 in
def sym_any:=mk_sym_any Coin ce 431 2 Cmps SymAt
end
end SC
namespace SC
open Go.Proofs.Tryz renaming func380 → fustableCmpFunc, ntmps380 → ntstableCmpFunc
open Go.Proofs.YthekdeikodppkaaGreatDoor renaming ce → eC
section
variable {w0 w:World} {ps:List Piece} {ok:Coin→Prop} {key:Coin→Int} {B:Nat}
set_option maxRecDepth 100000 in
set_option maxHeartbeats 6400000 in
def stable_any:=mk_stable_any Coin ce 431 2 380 cf Cmps
end
end SC
theorem nan_any(a:Int)(w:World):Calls Tryz.prog 257 #[.int .i64 a] w fun e w'=>e=.returned (.bool false)∧w'=w:=by
 go_enter Tryz.func257,Tryz.ntmps257
 go_wp2
 go_ret
 exact ⟨by simp,rfl⟩
theorem compare_any(a b:Int)(w:World):Calls Tryz.prog 330 #[.int .i64 a,.int .i64 b] w fun e w'=>e=.returned (.int .i64 (cmpI a b))∧w'=w:=by
 go_enter Tryz.func330,Tryz.ntmps330
 go_wp2_with fail
 refine (nan_any a w).mono ?_
 rintro e w1 ⟨rfl,rfl⟩
 go_wp2_with fail
 refine (nan_any b _).mono ?_
 rintro e w1 ⟨rfl,rfl⟩
 by_cases h1:a<b
 ·have e:Hid (cmpI a b = -1):=jd (by simp [cmpI,h1])
  go_wp2
  go_ret
  exact ⟨by rw [e.out];rfl,rfl⟩
 ·by_cases h2:b<a
  ·have e:Hid (cmpI a b=1):=jd (by simp [cmpI,h1,h2])
   go_wp2
   go_ret
   exact ⟨by rw [e.out];rfl,rfl⟩
  ·have e:Hid (cmpI a b=0):=jd (by simp [cmpI,h1,h2])
   go_wp2
   go_ret
   exact ⟨by rw [e.out];rfl,rfl⟩
theorem lighter_any(w0:World)(ps:List Piece)(B:Nat):SC.Cmps w0 ps B (fun _=>True) Coin.w:=by
 intro wz row _ x y _ _
 unfold SC.cg SC.ca
 obtain ⟨c,hc⟩:∃ c,Hid (cmpI x.w y.w=c):=⟨_,rfl⟩
 rw [hc.out]
 have H:=(Own.start wz).alloc2 (.cells #[.int .i64 x.w,.bool x.pair] 431) (.cells #[.int .i64 y.w,.bool y.pair] 431)
 unfold cval
 go_enter Tryz.func361,Tryz.ntmps361
 go_wp2_with fail
 refine (compare_any x.w y.w _).mono ?_
 rintro e w1 ⟨rfl,rfl⟩
 rw [hc.out]
 go_wp2
 go_ret
 exact ⟨_,rfl,rfl,H.bare⟩
theorem byfreq_any{w0:World}{ps:List Piece}{B n:Nat}{F:List Int}{v:Value}(hr:Rd w0 1 v n (nums F))(hn:n≤1000000):SI.Cmps w0 (blk B (.cells #[v] 34)::ps) B (fun x=>0≤x∧x<F.length) (frq F):=by
 intro wz row H x y hx hy
 unfold SI.cg SI.ca
 obtain ⟨hx0,hx1⟩:=hx
 obtain ⟨hy0,hy1⟩:=hy
 obtain ⟨i,rfl⟩:∃ i:Nat,x=i:=⟨x.toNat,by omega⟩
 obtain ⟨j,rfl⟩:∃ j:Nat,y=j:=⟨y.toNat,by omega⟩
 have hl:F.length=n:=by have:=hr.len;rw [Qg] at this;omega
 obtain ⟨b,o,cp,rfl,hc1,hc2⟩:=hr.some (by rw [Qg];omega)
 have hz:=hr.old H
 have gi:F[i]?=some (frq F i):=by
  unfold frq
  rw [List.getElem?_eq_getElem (by omega)]
  simp [List.getD,show i<F.length by omega]
 have gj:F[j]?=some (frq F j):=by
  unfold frq
  rw [List.getElem?_eq_getElem (by omega)]
  simp [List.getD,show j<F.length by omega]
 have r0:=hz.cell (Jj gi)
 have r1:=hz.cell (Jj gj)
 generalize frq F i=fi at *
 generalize frq F j=fj at *
 obtain ⟨c,hc⟩:∃ c,Hid (cmpI fi fj=c):=⟨_,rfl⟩
 rw [hc.out]
 have hiI:(i:Int)<(n:Int):=by omega
 have hjI:(j:Int)<(n:Int):=by omega
 have hR:∀ (ps':List Piece) (w':World),Own wz w' ps'→w'.cell? ⟨b,o+i,none⟩=some (.int .i64 fi)∧w'.cell? ⟨b,o+j,none⟩=some (.int .i64 fj):=fun _ w' h=>⟨(hz.old h).cell (Jj gi),(hz.old h).cell (Jj gj)⟩
 have cB:=(H.front 1 rfl).cells
 have hB:∀ (ps':List Piece) (w':World),Own wz w' ps'→w'.cell? ⟨B,0,none⟩=some (.slice (some ⟨b,o,none⟩) n cp):=fun _ w' h=>by
  rw [h.oldCell (cell_lt (by rw [cB];rfl)),cB];rfl
 have HR:=jd hR
 have HB:=jd hB
 clear hR hB
 have H1:=Own.start wz
 clear r0 r1 gi gj hr hl hx1 hy1 cB
 go_enter Tryz.func329,Tryz.ntmps329
 go_upto_region 1 with (fail)
 refine Qa (fun w1=>Own wz w1 []) 8 (by kernel_rfl) (by kernel_rfl) H1.drew ?_
 simp only [List.take_succ_cons,List.take_zero,List.drop_succ_cons,List.drop_zero]
 repeat
  first
  | (refine calm_value (v:=?_) (by decide) rfl (fun σ w1 hS=>?_) ?_
     rotate_left
     ·have c0:=HB.out _ _ hS;obtain ⟨c1,c2⟩:=HR.out _ _ hS
      first | (go_simp;rfl) | rfl
     simp only [Act.put,putC])
  | (refine calm_skip (by decide) rfl ?_
     simp only [Act.put,putC])
 refine calm_nil ?_
 intro wd HD
 go_wp2_with fail
 refine (compare_any fi fj _).mono ?_
 rintro e w1 ⟨rfl,rfl⟩
 rw [hc.out]
 go_wp2
 go_ret
 exact ⟨_,rfl,rfl,HD⟩
structure FileP where
 path:ByteArray
 data:ByteArray
deriving DecidableEq,Inhabited
def fe(x:FileP):List Value:=[.string x.path,.string x.data]
def fval(x:FileP):Value:=.agg #[.string x.path,.string x.data]
namespace SF
theorem e_length(x:FileP):(fe x).length=2:=rfl
theorem e_one(x:FileP):∀ u∈fe x,u.oneCell'=true:=by intro u hu;simp [fe] at hu;rcases hu with rfl | rfl <;> rfl
abbrev Sl(v:Value)(l:List FileP):Piece:=slc 47 2 v l.length (rows fe l)
theorem el{w:World}{b c i n:Nat}{l:List FileP}{x:FileP}(h:Rd w 2 (.slice (some ⟨b,0,none⟩) n c) n (rows fe l))(hx:l[i]?=some x) :
 w.cell? ⟨b,i*2,none⟩=some (.string x.path)∧w.cell? ⟨b,i*2+1,none⟩=some (.string x.data):=by
 have h0:=h.cell ((Jt fe e_length hx 0 (by omega)).trans rfl)
 have h1:=h.cell ((Jt fe e_length hx 1 (by omega)).trans rfl)
 rw [Nat.zero_add] at h0 h1
 exact ⟨h0,h1⟩
theorem set_rows{l:List FileP}{i:Nat}(hi:i<l.length)(y:FileP):(rows fe l).take (i*2)++fe y++(rows fe l).drop (i*2+2)=rows fe (l.set i y):=(rows_set fe e_length hi y).symm
theorem set_swap{α:Type}(u v w:List α)(x y:α){i j:Nat}(hi:i=u.length)(hj:j=u.length+1+v.length) :
 ((u++x::(v++y::w)).set i y).set j x=u++y::(v++x::w):=by
 subst hi hj
 rw [List.set_append_right _ _ (Nat.le_refl _),Nat.sub_self,List.set_cons_zero,List.set_append_right _ _ (by omega),show u.length+1+v.length-u.length=v.length+1 by omega,List.set_cons_succ,List.set_append_right _ _ (Nat.le_refl _),Nat.sub_self,List.set_cons_zero]
theorem get_mid{α:Type}(u w:List α)(x:α){i:Nat}(hi:i=u.length):(u++x::w)[i]?=some x:=by
 subst hi
 rw [List.getElem?_append_right (Nat.le_refl _),Nat.sub_self];rfl
abbrev A:=FileP
abbrev sL(g N c:Nat)(l:List FileP):Piece:=slc 47 2 (.slice (some ⟨g,0,none⟩) N c) N (rows fe l)
open Go.Proofs.Tryz renaming func356 → fuswapRangeCmpFunc, ntmps356 → ntswapRangeCmpFunc
open Go.Proofs.YthekdeikodppkaaGreatDoor renaming fe → eC
section
variable {w0 w:World} {ps:List Piece}
set_option maxRecDepth 100000 in
set_option maxHeartbeats 3200000 in
def swap_any:=mk_swap_any FileP fe 47 2 356
end
end SF
namespace SF
theorem split_at{α:Type}(l:List α)(n:Nat)(h:n≤l.length):∃ a b,l=a++b∧a.length=n:=⟨l.take n,l.drop n,(List.take_append_drop n l).symm,by simp;omega⟩
open Go.Proofs.Tryz renaming func319 → furotateCmpFunc, ntmps319 → ntrotateCmpFunc
open Go.Proofs.YthekdeikodppkaaGreatDoor renaming fe → eC
section
variable {w0 w:World} {ps:List Piece}
set_option maxRecDepth 100000 in
set_option maxHeartbeats 3200000 in
def rotate_any:=mk_rotate_any FileP fe 47 2 319
end
end SF
namespace SF
abbrev cf(_B:Nat):Value:=.func (.func 123) #[] #[]
abbrev ca(_B:Nat)(x y:FileP):Array Value:=#[fval x,fval y]
abbrev cg:Nat:=123
def Cmps(w0:World)(ps:List Piece)(B:Nat)(ok:FileP→Prop)(key:FileP→Int):Prop:=
 ∀ (wz:World) (row:Piece),Own w0 wz (row::ps)→∀ x y,ok x→ok y→Calls Tryz.prog cg (ca B x y) wz (Ret fun v w'=>v=.int .i64 (cmpI (key x) (key y))∧Own wz w' [])
open Go.Proofs.Tryz renaming func261 → fuinsertionSortCmpFunc, ntmps261 → ntinsertionSortCmpFunc
open Go.Proofs.YthekdeikodppkaaGreatDoor renaming fe → eC
section
variable {w0 w:World} {ps:List Piece} {ok:FileP→Prop} {key:FileP→Int} {B:Nat}
set_option maxRecDepth 100000 in
set_option maxHeartbeats 3200000 in
def insert_any:=mk_insert_any FileP fe 47 2 261 cf Cmps
end
end SF
namespace SF
open Go.Proofs.Tryz renaming func262 → fusymMergeCmpFunc, ntmps262 → ntsymMergeCmpFunc
open Go.Proofs.YthekdeikodppkaaGreatDoor renaming fe → eC
section
variable {w0 w:World} {ps:List Piece} {ok:FileP→Prop} {key:FileP→Int} {B:Nat}
set_option maxRecDepth 100000 in
set_option maxHeartbeats 6400000 in
def symL_any:=mk_symL_any FileP fe 47 2 262 cf Cmps
end
end SF
namespace SF
open Go.Proofs.Tryz renaming func262 → fusymMergeCmpFunc, ntmps262 → ntsymMergeCmpFunc
open Go.Proofs.YthekdeikodppkaaGreatDoor renaming fe → eC
section
variable {w0 w:World} {ps:List Piece} {ok:FileP→Prop} {key:FileP→Int} {B:Nat}
set_option maxRecDepth 100000 in
set_option maxHeartbeats 6400000 in
def symR_any:=mk_symR_any FileP fe 47 2 262 cf Cmps
end
end SF
namespace SF
noncomputable def symTail(r:Nat):Code:=((Tryz.f262.body.bind (fromR r)).getD .skip)
def SymAt(w0:World)(ps:List Piece)(ok:FileP→Prop)(key:FileP→Int)(B g c N f:Nat):Prop:=
 ∀ (w:World) (p x y q:List FileP) (a m b:Nat),x.length+y.length≤f→(∀ v∈x,ok v)→(∀ v∈y,ok v)→Srt key x→Srt key y→a=p.length→m=a+x.length→b=m+y.length→0<x.length→0<y.length→N=(p++x++y++q).length →
  Own w0 w (slc 47 2 (.slice (some ⟨g,0,none⟩) N c) N (rows fe (p++x++y++q))::ps) →
  Calls Tryz.prog 262 #[.slice (some ⟨g,0,none⟩) N c,.int .i64 a,.int .i64 m,.int .i64 b,cf B] w (Ret fun _ w'=>∃ z,Mrg key x y z∧Own w0 w' (slc 47 2 (.slice (some ⟨g,0,none⟩) N c) N (rows fe (p++z++q))::ps))
open Go.Proofs.YthekdeikodppkaaGreatDoor renaming fe → eC
section
variable {w0:World} {ps:List Piece} {ok:FileP→Prop} {key:FileP→Int} {B:Nat}
set_option maxRecDepth 1000000 in
set_option maxHeartbeats 12800000 in
def tail3:=mk_tail3 FileP fe 47 2 Tryz.f262 cf SymAt symTail
set_option maxRecDepth 1000000 in
set_option maxHeartbeats 12800000 in
def tail2:=mk_tail2 FileP fe 47 2 Tryz.f262 cf SymAt symTail
set_option maxRecDepth 1000000 in
set_option maxHeartbeats 12800000 in
def tail_any:=mk_tail_any FileP fe 47 2 Tryz.f262 cf SymAt symTail
end
end SF
namespace SF
theorem srt_le{α:Type}{key:α→Int}{l:List α}(h:Srt key l){i j:Nat}{u v:α}(hu:l[i]?=some u)(hv:l[j]?=some v)(hij:i≤j):key u≤key v:=by
 obtain ⟨h1,rfl⟩:=gJ hu
 obtain ⟨h2,rfl⟩:=gJ hv
 rcases Nat.lt_or_eq_of_le hij with h3 | h3
 ·exact List.pairwise_iff_getElem.1 h i j h1 h2 h3
 ·subst h3;exact Int.le_refl _
open Go.Proofs.Tryz renaming func262 → fusymMergeCmpFunc, ntmps262 → ntsymMergeCmpFunc
open Go.Proofs.YthekdeikodppkaaGreatDoor renaming fe → eC
section
variable {w0:World} {ps:List Piece} {ok:FileP→Prop} {key:FileP→Int} {B:Nat}
set_option maxRecDepth 100000 in
set_option maxHeartbeats 12800000 in
def sym_any:=mk_sym_any FileP fe 47 2 Cmps SymAt
end
end SF
namespace SF
open Go.Proofs.Tryz renaming func186 → fustableCmpFunc, ntmps186 → ntstableCmpFunc
open Go.Proofs.YthekdeikodppkaaGreatDoor renaming fe → eC
section
variable {w0 w:World} {ps:List Piece} {ok:FileP→Prop} {key:FileP→Int} {B:Nat}
set_option maxRecDepth 100000 in
set_option maxHeartbeats 6400000 in
def stable_any:=mk_stable_any FileP fe 47 2 186 cf Cmps
end
end SF
def u8s(xs:List Int):List Value:=xs.map (.int .u8)
def Wtr(g:Nat)(bs:List Bool):Piece:=ex fun v=>star (blk g (.cells #[v,.int .i64 bs.length] 221)) (slc 5 1 v (Qq bs.length) (u8s (Jg bs)))
theorem Own.wtr{w0 w:World}{ps:List Piece}{g:Nat}{bs:List Bool}(H:Own w0 w (Wtr g bs::ps)) :
 ∃ a c,Qq bs.length≤c∧c≤9223372036854775807∧Own w0 w (blk g (.cells #[.slice a (Qq bs.length) c,.int .i64 bs.length] 221)::slc 5 1 (.slice a (Qq bs.length) c) (Qq bs.length) (u8s (Jg bs))::ps):=by
 obtain ⟨v,H⟩:=H.ex
 replace H:=H.star
 obtain ⟨a,c,rfl,h1,h2⟩:=(H.front 1 rfl).rd.shape
 exact ⟨a,c,h1,h2,H⟩
theorem Own.unwtr{w0 w:World}{ps:List Piece}{g:Nat}{bs:List Bool}{v:Value}{n m:Nat}{xs:List Value}(H:Own w0 w (blk g (.cells #[v,.int .i64 n] 221)::slc 5 1 v m xs::ps))(hn:n=bs.length)(hm:m=Qq bs.length)(hx:xs=u8s (Jg bs)):Own w0 w (Wtr g bs::ps):=by
 subst hn hm hx
 exact H.unstar.unex v
set_option maxHeartbeats 400000 in
theorem bit_any{w0 w:World}{ps:List Piece}{g:Nat}{bs:List Bool}(b:Bool)(H:Own w0 w (Wtr g bs::ps))(hl:bs.length≤35184372088832) :
 Calls Tryz.prog 188 #[.pointer (some ⟨g,0,none⟩),.int .i64 (bi b)] w (Ret fun _ w'=>Own w0 w' (Wtr g (bs++[b])::ps)):=by
 have hb:=bi_bd b
 obtain ⟨c,hcc⟩:∃ c,Hid (bi b=c):=⟨_,rfl⟩
 rw [hcc.out] at hb ⊢
 obtain ⟨hb0,hb1⟩:=hb
 obtain ⟨m,hm⟩:∃ m,Hid (bs.length=m):=⟨_,rfl⟩
 have hlm:=hl
 rw [hm.out] at hlm
 obtain ⟨a,cp,hc1,hc2,H⟩:=H.wtr
 rw [hm.out] at H hc1
 have c0:=H.cells
 go_enter Tryz.func188,Tryz.ntmps188
 obtain ⟨r,hr⟩:∃ r,Hid (r=m%8):=⟨_,jd rfl⟩
 obtain ⟨q,hq⟩:∃ q,Hid (q=m/8):=⟨_,jd rfl⟩
 have hrt:(m:Int).tmod 8=(r:Int):=by have:=hr.out;rw [Int.tmod_eq_emod_of_nonneg (by omega)];omega
 have hqt:(m:Int).tdiv 8=(q:Int):=by have:=hq.out;rw [Int.tdiv_eq_ediv_of_nonneg (by omega)];omega
 have hrt':(m:Int)%8=(r:Int):=by have:=hr.out;omega
 have hqt':(m:Int)/8=(q:Int):=by have:=hq.out;omega
 have hr8:r<8:=by have:=hr.out;omega
 have hsn:=jd (bytesOf_snoc bs b)
 go_upto_if 9 with (fail)
 go_cut [] (fun wx=>∃ a c N L,N=Qq (m+1)∧N≤c∧c≤9223372036854775807∧Hid (L=if bs.length%8=0 then Jg bs++[0] else Jg bs)∧Own w0 wx (blk g (.cells #[.slice a N c,.int .i64 m] 221)::slc 5 1 (.slice a N c) N (u8s L)::ps))
 case first=>
  by_cases h0:r=0
  ·subst h0
   go_wp2_with (first
    | (at_builtin;refine Qf rfl _ _ rfl Tryz.underlying58 u8Info rfl (by decide) rfl H.swap rfl rfl rfl (by simp [Value.oneCell']) (by unfold Qq;omega) (by unfold Qq;omega) ?_;clear H c0;intro v' w' H;replace H:=H.swap)
    | (obtain ⟨a',c',rfl,h1',h2'⟩:=(H.front 1 rfl).rd.shape;refine Jd rfl _ _ rfl rfl H rfl (by kernel_rfl) (by simp) ?_;clear H;intro w2 H))
   go_meet
   exact ⟨a',c',Qq m+1,Jg bs++[0],by have:=hr.out;unfold Qq;omega,h1',h2',jd (by rw [if_pos (by have:=hr.out;rw [hm.out];omega)]),by simpa [u8s] using H⟩
  ·have h0':((r:Int)==0)=false:=by simpa using h0
   go_wp2
   go_meet
   exact ⟨a,cp,Qq m,Jg bs,by have:=hr.out;unfold Qq;omega,hc1,hc2,jd (by rw [if_neg (by have:=hr.out;rw [hm.out];omega)]),H⟩
 case rest=>
  clear H c0
  obtain ⟨a,cp,N,L,hN,hc1,hc2,hL,H⟩:=hcut
  obtain ⟨k1,k2,k3⟩:=hsn.out L hL.out
  rw [hm.out] at k1 k2 k3
  rw [← hq.out] at k2 k3
  rw [← hr.out] at k3
  have hqN:q<N:=by have:=hq.out;unfold Qq at hN;omega
  have hqN':(q:Int)<(N:Int):=by omega
  replace hN:=jd hN
  have hwq:IntKind.i64.wrap (q:Int)=q:=IntWalk.i64_in _ ⟨by omega,by omega⟩
  have hwr:IntKind.i64.wrap (r:Int)=r:=IntWalk.i64_in _ ⟨by omega,by omega⟩
  have hx0:=(byteAt_bd bs q).1
  have hx1:=byteAt_bd' bs
  rw [hm.out,← hq.out,← hr.out] at hx1
  obtain ⟨x,hx⟩:∃ x,Hid (Zk bs q=x):=⟨_,rfl⟩
  rw [hx.out] at hx0 hx1 k2 k3
  have hlen:0<(u8s L).length:=by have:=hN.out;simp [u8s];omega
  obtain ⟨g2,c',e,_,_,_,_,_,_⟩:=(H.front 1 rfl).at hlen
  cases e
  have hu:Hid ((u8s L)[q]?=some (.int .u8 x)):=jd (by simp [u8s,k2])
  have hor:=or8 hr8 hx0 hx1 hb0 hb1
  obtain ⟨y,hy⟩:∃ y,Hid (x+2^r*c=y):=⟨_,rfl⟩
  rw [hy.out] at hor
  go_upto_region 2 with (fail)
  refine Qa (fun w1=>Own w0 w1 (blk g (.cells #[.slice (some ⟨g2,0,none⟩) N cp,.int .i64 m] 221)::slc 5 1 (.slice (some ⟨g2,0,none⟩) N cp) N (u8s L)::ps)) 20 (by kernel_rfl) (by kernel_rfl) H.drew ?_
  simp only [List.take_succ_cons,List.take_zero,List.drop_succ_cons,List.drop_zero]
  repeat
   refine calm_value (v:=?_) (by decide) rfl (fun σ w1 hS=>?_) ?_;rotate_left
   ·have c0:=hS.cells
    obtain ⟨_,_,e,_,_,_,_,c1,_⟩:=(hS.front 1 rfl).at hlen
    cases e
    replace c1:=c1 q _ hu.out
    first | (go_simp;rfl) | rfl
   simp only [Act.put,putC]
  refine calm_nil ?_
  intro wd HD
  clear H
  go_wp2_with (first
   | (refine Ja rfl _ _ rfl rfl HD.swap (.int .u8 y) rfl (by kernel_rfl) hqN rfl ?_;clear HD;intro w2 HD;replace HD:=HD.swap;have c0:=HD.cells)
   | (refine Qh rfl _ _ rfl rfl HD rfl (by kernel_rfl) (by simp) ?_;clear HD c0;intro w3 HD))
  go_end0
  refine ⟨_,rfl,HD.unwtr (n:=m+1) ?_ ?_ ?_⟩
  ·simp [hm.out]
  ·have:=hN.out;simp [hm.out];exact this
  ·rw [k3,hcc.out,hy.out];simp [u8s]
def cut(n:Int):Nat:=(min (max n 0) 62).toNat
theorem codeBits_take(v:Int)(m k:Nat)(hk:k<m):(Qj v m).reverse.take (k+1)=(Qj v m).reverse.take k++[bitOf v (m-1-k)]:=by
 rw [List.take_succ_eq_append_getElem (by simpa [Qd] using hk)]
 simp [Qj]
def byteNums(s:ByteArray):List Int:=s.data.toList.map fun b=>(b.toNat:Int)
theorem byteCells_nums(s:ByteArray):byteCells s=u8s (byteNums s):=by simp [byteCells,u8s,byteNums]
theorem byteNums_length(s:ByteArray):(byteNums s).length=s.size:=by simp [byteNums]
theorem byteNums_bd(s:ByteArray):∀ x∈byteNums s,0≤x∧x<256:=by
 intro x hx
 obtain ⟨b,_,rfl⟩:=List.mem_map.1 hx
 have:=b.toNat_lt
 omega
def Zw(ns:List Int):List Bool:=ns.flatMap (Qj · 8)
theorem bitsOfNums_length(ns:List Int):(Zw ns).length=8*ns.length:=by
 induction ns with
 | nil=>rfl
 | cons n ns ih=>
  simp only [Zw,List.flatMap_cons,lJ,Qd,List.length_cons] at ih ⊢
  omega
theorem byteAt_append(bs cs:List Bool)(h:bs.length%8=0)(k:Nat)(hk:k<bs.length/8):Zk (bs++cs) k=Zk bs k:=by
 unfold Zk
 rw [List.drop_append_of_le_length (by omega),List.take_append_of_le_length (by simp;omega)]
theorem byteAt_append'(bs cs:List Bool)(h:bs.length%8=0)(k:Nat):Zk (bs++cs) (bs.length/8+k)=Zk cs k:=by
 unfold Zk
 rw [List.drop_append,List.drop_eq_nil_of_le (by omega),List.nil_append]
 congr 3
 omega
theorem bytesOf_byte(b8 cs:List Bool)(h:b8.length=8):Jg (b8++cs)=valOf b8::Jg cs:=by
 unfold Jg
 rw [show Qq (b8++cs).length=Qq cs.length+1 by simp [Qq];omega,List.range_succ_eq_map,List.map_cons,List.map_map]
 congr 1
 ·unfold Zk
  simp [List.take_append_of_le_length (show 8≤b8.length by omega),List.take_of_length_le (show b8.length≤8 by omega)]
 ·refine List.map_congr_left fun k _=>?_
  have:=byteAt_append' b8 cs (by omega) k
  rw [show b8.length/8=1 by omega] at this
  show Zk _ (k+1)=_
  rw [Nat.add_comm]
  exact this
theorem bytesOf_nums(ns:List Int)(hb:∀ x∈ns,0≤x∧x<256):Jg (Zw ns)=ns:=by
 induction ns with
 | nil=>rfl
 | cons n ns ih=>
  show Jg (Qj n 8++Zw ns)=_
  rw [bytesOf_byte _ _ (Qd n 8),ih fun x hx=>hb x (List.mem_cons_of_mem _ hx),valOf_bitsOf]
  have:=hb n List.mem_cons_self
  congr 1
  omega
theorem bytesOf_append(bs cs:List Bool)(h:bs.length%8=0):Jg (bs++cs)=Jg bs++Jg cs:=by
 unfold Jg
 rw [show Qq (bs++cs).length=bs.length/8+Qq cs.length by simp [Qq];omega,show Qq bs.length=bs.length/8 by unfold Qq;omega,List.range_add,List.map_append,List.map_map]
 congr 1
 ·exact List.map_congr_left fun k hk=>byteAt_append bs cs h k (List.mem_range.1 hk)
 ·exact List.map_congr_left fun k _=>byteAt_append' bs cs h k
def Zy(s:ByteArray):List Bool:=Zw (byteNums s)
theorem textBits_length(s:ByteArray):(Zy s).length=8*s.size:=by rw [Zy,bitsOfNums_length,byteNums_length]
def textOf(bs:List Bool):ByteArray:=strOfNums (Jg bs)
theorem bitsOfNums_get(ns:List Int):∀ (q r:Nat),r<8→(Zw ns)[8*q+r]?=(ns[q]?).map (bitOf · r):=by
 induction ns with
 | nil=>intro q r _;simp [Zw]
 | cons n ns ih=>
  intro q r hr
  show (Qj n 8++Zw ns)[8*q+r]?=_
  cases q with
  | zero=>
   rw [List.getElem?_append_left (by rw [Qd];omega)]
   simp [Qj,hr]
  | succ q=>
   rw [List.getElem?_append_right (by rw [Qd];omega),Qd,show 8*(q+1)+r-8=8*q+r by omega,ih q r hr]
   rfl
theorem byteNums_strOfNums(ns:List Int)(h:∀ x∈ns,0≤x∧x<256):byteNums (strOfNums ns)=ns:=by
 unfold byteNums strOfNums
 simp only [List.map_map]
 conv=>rhs;rw [← List.map_id ns]
 refine List.map_congr_left fun x hx=>?_
 have:=h x hx
 simp only [Function.comp,id]
 rw [UInt8.toNat_ofNat']
 omega
theorem aligned_get(bs:List Bool)(i:Nat)(hi:i<8*Qq bs.length):(Jv bs)[i]?=some (bs.getD i false):=by
 unfold Jv
 by_cases h:i<bs.length
 ·rw [List.getElem?_append_left h,List.getElem?_eq_getElem h]
  simp [List.getD,h]
 ·rw [List.getElem?_append_right (by omega),List.getElem?_replicate_of_lt (by unfold padN;unfold Qq at hi;omega)]
  simp [List.getD,List.getElem?_eq_none (show bs.length≤i by omega)]
theorem bitsOfNums_bytesOf(bs:List Bool):Zw (Jg bs)=Jv bs:=by
 apply List.ext_getElem?
 intro i
 by_cases hi:i<8*Qq bs.length
 ·rw [aligned_get bs i hi]
  obtain ⟨q,hq⟩:∃ q,q=i/8:=⟨_,rfl⟩
  obtain ⟨r,hr⟩:∃ r,r=i%8:=⟨_,rfl⟩
  have e:i=8*q+r:=by omega
  have hr8:r<8:=by omega
  rw [e,bitsOfNums_get _ q r hr8,bytesOf_get bs (by omega)]
  simp only [Option.map_some,Option.some.injEq]
  rw [Zk,bitOf_valOf]
  simp only [List.getD,List.getElem?_take,hr8,if_true,List.getElem?_drop]
 ·rw [List.getElem?_eq_none (by rw [bitsOfNums_length,bytesOf_length];omega),List.getElem?_eq_none (by rw [Jh];omega)]
theorem textBits_textOf(bs:List Bool):Zy (textOf bs)=Jv bs:=by
 unfold Zy textOf
 rw [byteNums_strOfNums _ (bytesOf_bd bs),bitsOfNums_bytesOf]
theorem textOf_size(bs:List Bool):(textOf bs).size=Qq bs.length:=by
 have:=textBits_length (textOf bs)
 rw [textBits_textOf,Jh] at this
 omega
theorem results_cell2{P:Program}{fn:Func}{p u:Tmp}{ty:TypeId}(h:fn.results=#[.cell p ty,.tmp u])(tmps:Array Value)(w:World)(g:Nat)(t:TypeId)(cs:Array Value)(fr:Nat × Nat)(d:TypeDesc)
 (hp:tmps.getD p undef=.pointer (some ⟨g,0,none⟩)) (hg:w.heap[g]?=some (.cells cs t fr))
 (hu:P.underlying ty=some d) (hd:(match d with | .struct _ | .array _ _=>true | _=>false)=true) (hi:(P.info? ty).map (·.size)=some cs.size) :
 (results fn tmps).run P w=.ok (.tuple #[.agg cs,tmps.getD u undef]) w:=by
 rw [results_cell_tmp h,hp]
 simp [asAddr,run_loadVar_row w g t ty cs fr d hg hu hd hi,Result.andThen]
theorem arrInfo(cs:List Int)(h:cs.length=16):(Tryz.prog.info? 423).map (·.size)=some (nums cs).toArray.size:=by
 rw [List.size_toArray,Qg,h]
 kernel_rfl
section
variable {w0 w:World} {ps:List Piece} {ops:Array Oper} {rest:List Oper} {o:Oper} {a:Act} {Q:Exit→Act→World→Prop}
theorem wpList_load16(hgd:o.guard=none)(x:Operand)(ho:o.op=.load 423 x){g:Nat}(hx:a.eval x=.pointer (some ⟨g,0,none⟩)){cs:List Int}(hl:cs.length=16)(H:Own w0 w (blk g (.cells (nums cs).toArray 423)::ps))
 (h:wpList Tryz.prog ops Q rest (a.put o.dst (.agg (nums cs).toArray)) w):wpList Tryz.prog ops Q (o::rest) a w:=
 wpList_load_row hgd 423 x ho g hx 423 (nums cs).toArray (0,0) _ H.block.1 Tryz.underlying423 rfl (arrInfo cs hl) h
theorem wpList_store16(hgd:o.guard=none)(x y:Operand)(ho:o.op=.store 423 x y){g:Nat}(hx:a.eval x=.pointer (some ⟨g,0,none⟩)){cs ds:List Int}(hl:cs.length=16)(hd:ds.length=16)
 (H:Own w0 w (blk g (.cells (nums cs).toArray 423)::ps)) (hv:a.eval y=.agg (nums ds).toArray)
 (h:∀ w',Own w0 w' (blk g (.cells (nums ds).toArray 423)::ps)→wpList Tryz.prog ops Q rest (a.put o.dst undef) w'):wpList Tryz.prog ops Q (o::rest) a w:=
 Qe hgd x y ho hx H hv (by have:=arrInfo ds hd;rw [List.size_toArray] at this;exact this) (by rw [List.size_toArray,Qg,Qg,hl,hd];omega) (nums_one ds) (store_whole _ _ (by rw [Qg,Qg,hl,hd])) h
end
set_option maxHeartbeats 3200000 in
theorem counts_any{w:World}{v:Value}{n:Nat}{F:List Int}(hr:Rd w 1 v n (nums F))(hn:n≤1000000) :
 Calls Tryz.prog 324 #[v] w (Ret fun r w'=>(∃ cs:List Int,cs.length=16∧r=.tuple #[.agg (nums cs).toArray,.bool (mayF F)]∧(mayF F=true→cs=Zf F))∧Own w w' []):=by
 have hl:=jd (rd_len hr)
 obtain ⟨a,c,rfl,hc1,hc2⟩:=hr.shape
 have HR:=jd hr
 obtain ⟨Z,hZ⟩:∃ Z,Hid (mayF F=Z):=⟨_,rfl⟩
 rw [hZ.out]
 clear hr
 have H:=(Own.start w).alloc2 (.cells (nums (Qm 16)).toArray 423) (.cells (nums (Qm 16)).toArray 423)
 rw [arr_zero] at H
 go_enter Tryz.func324,Tryz.ntmps324
 go_upto_region 2 with (fail)
 generalize (w.alloc _).alloc _=wa at *
 rw [← arr_zero] at H
 obtain ⟨cb,hcb⟩:∃ g,w.heap.size+1=g:=⟨_,rfl⟩
 rw [hcb] at H ⊢
 generalize w.heap.size=rb at *
 clear hcb
 have hzl:(Qm 16).length=16:=by simp [Qm]
 by_cases h320:320<n
 ·have e:Hid (Z=false):=jd (by
   rw [← hZ.out];unfold mayF
   have:=hl.out
   rw [decide_eq_false (by omega),Bool.false_and])
  have hI:(320:Int)<(n:Int):=by omega
  go_wp2_with (first
   | (refine wpList_load16 rfl _ rfl rfl hzl H ?_)
   | (refine wpList_store16 rfl _ _ rfl rfl hzl hzl H.swap rfl ?_;clear H;intro w2 H))
  refine bodyPost_ret (results_cell2 rfl _ _ rb _ _ _ _ rfl H.block.1 Tryz.underlying423 rfl (arrInfo _ hzl)) rfl ?_
  exact ⟨_,rfl,⟨_,hzl,by rw [e.out];rfl,fun h=>by rw [e.out] at h;cases h⟩,H.bare⟩
 ·have hI:¬ (320:Int)<(n:Int):=by omega
  go_wp2_with fail
  go_loopw [13] (fun s13 wx=>∃ i:Nat,s13=.int .i64 i∧i≤n∧Hid ((F.take i).all okLen=true)∧Own w wx [blk cb (.cells (nums (bumpF (Qm 16) (F.take i))).toArray 423),blk rb (.cells (nums (Qm 16)).toArray 423)]) (fun s13 _=>n-(intOf s13).toNat)
  case atStart=>exact ⟨0,by go_num,by omega,jd rfl,by simpa [bumpF] using H⟩
  case round=>
   clear H
   obtain ⟨i,rfl,hi,hal,H⟩:=hrel
   have hbl:(bumpF (Qm 16) (F.take i)).length=16:=by rw [Jl];exact hzl
   by_cases hlt:i<n
   ·have hI2:(i:Int)<(n:Int):=by omega
    have hs:=all_take_succ (p:=okLen) (F:=F) (i:=i) (by have:=hl.out;omega)
    have hbt:bumpF (Qm 16) (F.take (i+1))=bump1 (bumpF (Qm 16) (F.take i)) (F.getD i 0):=bump_take (Za (by have:=hl.out;omega))
    have hbb:=fun j=>bump_bound (F.take i) (Qm 16) j 0 (fun j=>by rw [zeros_get];omega)
    have hll:(F.take i).length≤1000000:=by rw [List.length_take];omega
    obtain ⟨b,o,rfl,c1⟩:=rd_at HR.out H hlt
    have hbad:okLen (F.getD i 0)=false→Hid (Z=false):=fun h=>jd (by
     rw [← hZ.out]
     unfold mayF
     have:F.all okLen=false:=by
      rw [List.all_eq_false]
      refine ⟨F.getD i 0,?_,by rw [h];simp⟩
      rw [List.getD_eq_getElem?_getD,List.getElem?_eq_getElem (by have:=hl.out;omega)]
      exact List.getElem_mem _
     rw [this,Bool.and_false])
    rw [hal.out,Bool.true_and] at hs
    generalize F.getD i 0=x at *
    generalize hcs:bumpF (Qm 16) (F.take i)=cs at *
    by_cases h0:x<0
    ·have e:=hbad (by simp [okLen];omega)
     clear hs hbad hbt hbb
     go_wp2_with (first
      | (refine wpList_load16 rfl _ rfl rfl hbl H ?_)
      | (refine wpList_store16 rfl _ _ rfl rfl hzl hbl H.swap rfl ?_;clear H;intro w2 H))
     refine bodyPost_ret (results_cell2 rfl _ _ rb _ _ _ _ rfl H.block.1 Tryz.underlying423 rfl (arrInfo _ hbl)) rfl ?_
     exact ⟨_,rfl,⟨_,hbl,by rw [e.out];rfl,fun h=>by rw [e.out] at h;cases h⟩,H.bare⟩
    ·by_cases h15:15<x
     ·have e:=hbad (by simp [okLen];omega)
      clear hs hbad hbt hbb
      go_wp2_with (first
       | (refine wpList_load16 rfl _ rfl rfl hbl H ?_)
       | (refine wpList_store16 rfl _ _ rfl rfl hzl hbl H.swap rfl ?_;clear H;intro w2 H))
      refine bodyPost_ret (results_cell2 rfl _ _ rb _ _ _ _ rfl H.block.1 Tryz.underlying423 rfl (arrInfo _ hbl)) rfl ?_
      exact ⟨_,rfl,⟨_,hbl,by rw [e.out];rfl,fun h=>by rw [e.out] at h;cases h⟩,H.bare⟩
     ·have e:Hid ((F.take (i+1)).all okLen=true):=jd (by rw [hs];simp [okLen];omega)
      obtain ⟨m,rfl⟩:∃ m:Nat,x=m:=⟨x.toNat,by omega⟩
      have hb1:=hbb m
      have c0:=H.cells m
      rw [arr_get (by omega)] at c0
      have hst:(nums cs).toArray.setIfInBounds m (.int .i64 (cs.getD m 0+1))=(nums (bump1 cs m)).toArray:=arr_set _ _ _
      obtain ⟨y,hy⟩:∃ y,Hid (cs.getD m 0=y):=⟨_,rfl⟩
      rw [hy.out] at c0 hst hb1
      have hyw:IntKind.i64.wrap (y+1)=y+1:=IntWalk.i64_in _ ⟨by omega,by omega⟩
      have hmI:(m:Int)<16:=by omega
      have HST:=jd hst
      have HBT:=jd hbt
      have hfit:m<(nums cs).toArray.size:=by rw [List.size_toArray,Qg];omega
      clear hs hbad hbt hbb hst hb1
      go_wp2_with (refine Qh rfl _ _ rfl rfl H rfl (by kernel_rfl) hfit ?_;clear H c0;intro w2 H;rw [HST.out] at H)
      go_roundw
      case rel=>exact ⟨i+1,by go_num,by omega,e,by rw [HBT.out];exact H⟩
      case measure=>simp [intOf];omega
   ·obtain rfl:i=n:=by omega
    have hI2:¬ (i:Int)<(i:Int):=by omega
    have e:Hid (Z=true):=jd (by
     rw [← hZ.out];unfold mayF
     have h1:=hal.out
     rw [List.take_of_length_le (by have:=hl.out;omega)] at h1
     rw [h1,Bool.and_true,hl.out]
     simp;omega)
    have hst:(nums (bumpF (Qm 16) (F.take i))).toArray.setIfInBounds 0 (.int .i64 0)=(nums (Zf F)).toArray:=by
     rw [arr_set,List.take_of_length_le (by have:=hl.out;omega)];rfl
    have hcl:(Zf F).length=16:=by unfold Zf;rw [List.length_set,Jl];exact hzl
    have HST:=jd hst
    have hfit:0<(nums (bumpF (Qm 16) (F.take i))).toArray.size:=by rw [List.size_toArray,Qg];omega
    clear hst
    go_wp2_with (first
     | (refine wpList_load16 rfl _ rfl rfl hcl H ?_)
     | (refine Qh rfl _ _ rfl rfl H rfl (by kernel_rfl) hfit ?_;clear H;intro w2 H;rw [HST.out] at H)
     | (refine wpList_store16 rfl _ _ rfl rfl hzl hcl H.swap rfl ?_;clear H;intro w2 H))
    refine bodyPost_ret (results_cell2 rfl _ _ rb _ _ _ _ rfl H.block.1 Tryz.underlying423 rfl (arrInfo _ hcl)) rfl ?_
    exact ⟨_,rfl,⟨_,hcl,by rw [e.out];rfl,fun _=>rfl⟩,H.bare⟩
set_option maxHeartbeats 1600000 in
theorem left_any{w:World}{cs:List Int}(hl:cs.length=16)(hb:∀ k,0≤cs.getD k 0∧cs.getD k 0≤1000000) :
 Calls Tryz.prog 325 #[.agg (nums cs).toArray] w (Ret fun r w'=>r=.int .i64 (leftF cs)∧Own w w' []):=by
 obtain ⟨Z,hZ⟩:∃ Z,Hid (leftF cs=Z):=⟨_,rfl⟩
 rw [hZ.out]
 have HB:=jd hb
 have H:=(Own.start w).alloc (.cells (nums cs).toArray 423)
 clear hb
 go_enter Tryz.func325,Tryz.ntmps325
 go_upto_region 2 with (fail)
 generalize w.alloc (.cells (nums cs).toArray 423)=wa at *
 generalize w.heap.size=b at *
 go_wp2_with fail
 go_loopw [3,8] (fun s3 s8 wx=>∃ (j:Nat) (n:Int),s8=.int .i64 j∧j≤15∧s3=.int .i64 n∧0≤n∧Hid (n≤((2^j:Nat):Int))∧Hid (leftL n (cs.drop (1+j))=Z)∧Own w wx [blk b (.cells (nums cs).toArray 423)]) (fun _ s8 _=>15-(intOf s8).toNat)
 case atStart=>exact ⟨0,1,by go_num,by omega,by go_num,by omega,jd (by simp),jd hZ.out,H⟩
 case round=>
  clear H
  obtain ⟨j,n,rfl,hj,rfl,hn,hn2,hlf,H⟩:=hrel
  have hn3:n≤32768:=by
   have h1:=hn2.out
   have h2:(2^j:Nat)≤2^15:=Nat.pow_le_pow_right (by omega) hj
   omega
  by_cases hlt:j<15
  ·have hI:(j:Int)<15:=by omega
   have c0:=H.cells (1+j)
   rw [arr_get (by omega)] at c0
   have hk:=HB.out (1+j)
   have hd:cs.drop (1+j)=cs.getD (1+j) 0::cs.drop (1+(j+1)):=by
    rw [List.drop_eq_getElem_cons (by omega),List.getD_eq_getElem?_getD,List.getElem?_eq_getElem (by omega)]
    rfl
   have hlf2:=hlf.out
   rw [hd,leftL] at hlf2
   generalize cs.getD (1+j) 0=k at *
   have hw1:IntKind.i64.wrap (2*n)=2*n:=IntWalk.i64_in _ ⟨by omega,by omega⟩
   have hw2:IntKind.i64.wrap (2*n-k)=2*n-k:=IntWalk.i64_in _ ⟨by omega,by omega⟩
   by_cases hneg:2*n-k<0
   ·rw [if_pos hneg] at hlf2
    have e:=jd hlf2.symm
    clear hlf2 hd hlf
    go_wp2_with fail
    go_ret
    exact ⟨_,rfl,by rw [e.out];rfl,H.bare⟩
   ·rw [if_neg hneg] at hlf2
    have e:=jd hlf2
    have hp:Hid (2*n-k≤((2^(j+1):Nat):Int)):=jd (by
     have:=hn2.out
     rw [Nat.pow_succ]
     omega)
    clear hlf2 hd hlf hn2
    go_wp2_with fail
    go_roundw
    case rel=>exact ⟨j+1,2*n-k,by go_num,by omega,by go_num,by omega,hp,e,H⟩
    case measure=>simp [intOf];omega
  ·obtain rfl:j=15:=by omega
   have e:Hid (n=Z):=jd (by
    have:=hlf.out
    rw [List.drop_eq_nil_of_le (by omega)] at this
    exact this)
   clear hlf
   go_wp2_with fail
   go_ret
   exact ⟨_,rfl,by rw [← e.out];rfl,H.bare⟩
set_option maxHeartbeats 400000 in
theorem put_any{w0 w:World}{ps:List Piece}{g:Nat}{bs:List Bool}(v n:Int)(hv:-9223372036854775808≤v∧v≤9223372036854775807)(hn:-9223372036854775808≤n∧n≤9223372036854775807)(H:Own w0 w (Wtr g bs::ps))(hl:bs.length≤35184372088000) :
 Calls Tryz.prog 127 #[.pointer (some ⟨g,0,none⟩),.int .i64 v,.int .i64 n] w (Ret fun _ w'=>Own w0 w' (Wtr g (bs++Qj v (cut n))::ps)):=by
 obtain ⟨hv1,hv2⟩:=hv
 obtain ⟨hn1,hn2⟩:=hn
 obtain ⟨m,hm,hm62⟩:∃ m:Nat,Hid (cut n=m)∧m≤62:=⟨_,jd rfl,by unfold cut;omega⟩
 have hmn:Hid (min (max n 0) 62=(m:Int)):=jd (by rw [← hm.out];unfold cut;omega)
 go_enter Tryz.func127,Tryz.ntmps127
 go_upto_region 1 with (fail)
 go_cut [11,12] (fun s11 s12 wx=>wx=w∧s11=.int .i64 m∧s12=.int .i64 0)
 case first=>
  go_wp2
  all_goals go_meet
  all_goals exact ⟨rfl,val_int (by have:=hmn.out;omega),rfl⟩
 case rest=>
  obtain ⟨rfl,rfl,rfl⟩:=hcut
  go_wp2_with fail
  go_loopw [12] (fun i wx=>∃ k:Nat,k≤m∧i=.int .i64 k∧Own w0 wx (Wtr g (bs++Qj v k)::ps)) (fun i _=>m-(intOf i).toNat)
  case atStart=>exact ⟨0,Nat.zero_le _,rfl,by simpa [Qj] using H⟩
  case round=>
   clear H
   obtain ⟨k,hk,rfl,H⟩:=hrel
   by_cases hlt:k<m
   ·obtain ⟨b,hbb⟩:∃ b,Hid (bitOf v k=b):=⟨_,rfl⟩
    have hbit:bits .and .i64 (v/2^k) 1=bi b:=by rw [i64_and1,← hbb.out,bi_bitOf]
    go_wp2_with fail
    refine (bit_any b H (by simp [Qd];omega)).mono ?_
    rintro e w2 ⟨_,rfl,h2⟩
    replace H:Own w0 w2 (Wtr g (bs++Qj v (k+1))::ps):=by rw [bitsOf_succ,← List.append_assoc,hbb.out];exact h2
    clear h2
    go_wp2
    go_roundw
    case rel=>exact ⟨k+1,by omega,by go_num,H⟩
    case measure=>simp [intOf];omega
   ·obtain rfl:k=m:=by omega
    go_wp2
    go_end0
    rw [hm.out]
    exact ⟨_,rfl,H⟩
set_option maxHeartbeats 400000 in
theorem code_any{w0 w:World}{ps:List Piece}{g:Nat}{bs:List Bool}(v n:Int)(hv:-9223372036854775808≤v∧v≤9223372036854775807)(hn:-9223372036854775808≤n∧n≤9223372036854775807)(H:Own w0 w (Wtr g bs::ps))(hl:bs.length≤35184372088000) :
 Calls Tryz.prog 322 #[.pointer (some ⟨g,0,none⟩),.int .i64 v,.int .i64 n] w (Ret fun _ w'=>Own w0 w' (Wtr g (bs++(Qj v (cut n)).reverse)::ps)):=by
 obtain ⟨hv1,hv2⟩:=hv
 obtain ⟨hn1,hn2⟩:=hn
 obtain ⟨m,hm,hm62⟩:∃ m:Nat,Hid (cut n=m)∧m≤62:=⟨_,jd rfl,by unfold cut;omega⟩
 have hmn:Hid (min (max n 0) 62=(m:Int)):=jd (by rw [← hm.out];unfold cut;omega)
 go_enter Tryz.func322,Tryz.ntmps322
 go_upto_region 1 with (fail)
 go_cut [6] (fun s6 wx=>wx=w∧s6=.int .i64 ((m:Int)-1))
 case first=>
  go_wp2
  all_goals go_meet
  all_goals exact ⟨rfl,val_int (by have:=hmn.out;omega)⟩
 case rest=>
  obtain ⟨rfl,rfl⟩:=hcut
  go_wp2_with fail
  go_loopw [6] (fun i wx=>∃ k:Nat,∃ d:Int,k≤m∧i=.int .i64 d∧Hid (d=(m:Int)-1-k)∧Own w0 wx (Wtr g (bs++(Qj v m).reverse.take k)::ps)) (fun i _=>(intOf i+1).toNat)
  case atStart=>exact ⟨0,_,Nat.zero_le _,rfl,jd (by omega),by simpa using H⟩
  case round=>
   clear H
   obtain ⟨k,d,hk,rfl,hd,H⟩:=hrel
   by_cases hlt:k<m
   ·obtain ⟨j,hj⟩:∃ j,Hid (m-1-k=j):=⟨_,rfl⟩
    obtain rfl:d=(j:Int):=by have:=hd.out;have:=hj.out;omega
    have hj62:j<62:=by have:=hj.out;omega
    obtain ⟨b,hbb⟩:∃ b,Hid (bitOf v j=b):=⟨_,rfl⟩
    have hbit:bits .and .i64 (v/2^j) 1=bi b:=by rw [i64_and1,← hbb.out,bi_bitOf]
    go_wp2_with fail
    refine (bit_any b H (by simp [Qd];omega)).mono ?_
    rintro e w2 ⟨_,rfl,h2⟩
    replace H:Own w0 w2 (Wtr g (bs++(Qj v m).reverse.take (k+1))::ps):=by rw [codeBits_take v m k hlt,← List.append_assoc,hj.out,hbb.out];exact h2
    clear h2
    go_wp2
    go_roundw
    case rel=>exact ⟨k+1,_,by omega,rfl,jd (by have:=hd.out;omega),H⟩
    case measure=>simp [intOf]
   ·have hd0:d<0:=by have:=hd.out;omega
    obtain rfl:k=m:=by omega
    rw [List.take_of_length_le (by simp [Qd])] at H
    go_wp2
    go_end0
    rw [hm.out]
    exact ⟨_,rfl,H⟩
theorem u64_mask(k:Nat)(h:k≤1000000):bits .and .u64 (k:Int) 4294967295=(k:Int):=by
 have key:IntKind.u64.wrap ((BitVec.ofInt 64 (k:Int) &&& BitVec.ofInt 64 ((4294967295:Nat):Int)).toNat:Int)=(k:Int):=by
  rw [BitVec.ofInt_natCast,BitVec.ofInt_natCast,BitVec.toNat_and,BitVec.toNat_ofNat,BitVec.toNat_ofNat,Nat.mod_eq_of_lt (by omega),Nat.mod_eq_of_lt (by omega)]
  have:=Nat.and_two_pow_sub_one_eq_mod k 32
  rw [show 2^32-1=4294967295 by decide] at this
  rw [this,Nat.mod_eq_of_lt (by omega)]
  exact IntWalk.u64_in _ ⟨by omega,by omega⟩
 exact key
set_option maxRecDepth 100000 in
theorem mul64_any(k:Nat)(h:k≤1000000)(w:World) :
 Calls Tryz.prog 133 #[.int .u64 1,.int .u64 k] w (Ret fun r w'=>r=.tuple #[.int .u64 0,.int .u64 k]∧Own w w' []):=by
 have H:=Own.start w
 have h1:=u64_mask k h
 have h2:bits .and .u64 1 4294967295=1:=by decide
 have h3:(k:Int)/4294967296=0:=by omega
 go_enter Tryz.func133,Tryz.ntmps133
 go_wp2_with fail
 go_ret2
 exact ⟨_,rfl,rfl,H⟩
theorem mul_any(k:Nat)(h:k≤1000000)(w:World) :
 Calls Tryz.prog 81 #[.int .u64 1,.int .u64 k] w (Ret fun r w'=>r=.tuple #[.int .u64 0,.int .u64 k]∧Own w w' []):=by
 have H:=Own.start w
 have h2:=mul64_any k h
 go_enter Tryz.func81,Tryz.ntmps81
 go_wp2_with fail
 refine (h2 _).mono ?_
 rintro e w2 ⟨_,rfl,rfl,H2⟩
 have H:=H.join H2
 go_wp2_with fail
 go_ret2
 exact ⟨_,rfl,rfl,H⟩
theorem coinInfo:(Tryz.prog.info? 431).map (fun i=>(i.zero,i.size,i.bytes))=some (some (.agg #[.int .i64 0,.bool false]),2,16):=by kernel_rfl
theorem rows_ie(l:List Int):rows SI.ie l=nums l:=by
 induction l with
 | nil=>rfl
 | cons x t ih=>rw [rows_cons,ih];rfl
theorem insert_nil(cmp:Value)(w:World):Calls Tryz.prog 378 #[.slice none 0 0,.int .i64 0,.int .i64 0,cmp] w (Ret fun _ w'=>Own w w' []):=by
 have H:=Own.start w
 go_enter Tryz.func378,Tryz.ntmps378
 go_wp2_with fail
 go_loop [8] (fun s8=>s8=.int .i64 1) (fun _=>0)
 case atStart=>go_num
 case round=>
  obtain rfl:=hrel
  go_wp2
  go_end0
  exact ⟨_,rfl,H⟩
theorem stable_nil(cmp:Value)(w:World):Calls Tryz.prog 358 #[.slice none 0 0,.int .i64 0,cmp] w (Ret fun _ w'=>Own w w' []):=by
 have H:=Own.start w
 go_enter Tryz.func358,Tryz.ntmps358
 go_wp2_with fail
 go_loop [7,8] (fun s7 s8=>s7=.int .i64 0∧s8=.int .i64 20) (fun _ _=>0)
 case atStart=>exact ⟨by go_num,by go_num⟩
 case round=>
  obtain ⟨rfl,rfl⟩:=hrel
  go_wp2_with fail
  refine (insert_nil cmp _).mono ?_
  rintro e w1 ⟨_,rfl,H1⟩
  go_wp2_with fail
  go_loop [6] (fun s6=>s6=.int .i64 20) (fun _=>0)
  case atStart=>go_num
  case round=>
   obtain rfl:=hrel
   go_wp2
   go_end0
   exact ⟨_,rfl,H1⟩
theorem sortnil_any(cmp:Value)(w:World):Calls Tryz.prog 328 #[.slice none 0 0,cmp] w (Ret fun _ w'=>Own w w' []):=by
 go_enter Tryz.func328,Tryz.ntmps328
 go_wp2_with fail
 refine (stable_nil cmp w).mono ?_
 rintro e w1 ⟨_,rfl,H1⟩
 go_wp2
 go_end0
 exact ⟨_,rfl,H1⟩
theorem sortI_any{w0 w:World}{ps:List Piece}{g c N B n:Nat}{l F:List Int}{v:Value}(hr:Rd w0 1 v n (nums F))(hn:n≤1000000)(hok:∀ x∈l,0≤x∧x<F.length)(hN:N=l.length)(hNb:N≤1000000)
 (H:Own w0 w (slc 3 1 (.slice (some ⟨g,0,none⟩) N c) N (rows SI.ie l)::blk B (.cells #[v] 34)::ps)) :
 Calls Tryz.prog 328 #[.slice (some ⟨g,0,none⟩) N c,SI.cf B] w (Ret fun _ w'=>Own w0 w' (slc 3 1 (.slice (some ⟨g,0,none⟩) N c) N (rows SI.ie (sortF (frq F) l))::blk B (.cells #[v] 34)::ps)):=by
 have HS:=jd (SI.stable_any (byfreq_any hr hn) hok hN hNb H)
 clear hr hok H hN
 go_enter Tryz.func328,Tryz.ntmps328
 go_wp2_with fail
 refine HS.out.mono ?_
 rintro e w1 ⟨_,rfl,H1⟩
 go_wp2
 go_end0
 exact ⟨_,rfl,H1⟩
theorem sortC_any{w0 w:World}{ps:List Piece}{g c N:Nat}{l:List Coin}(hN:N=l.length)(hNb:N≤1000000)
 (H:Own w0 w (slc 431 2 (.slice (some ⟨g,0,none⟩) N c) N (rows ce l)::ps)) :
 Calls Tryz.prog 360 #[.slice (some ⟨g,0,none⟩) N c,SC.cf 0] w (Ret fun _ w'=>Own w0 w' (slc 431 2 (.slice (some ⟨g,0,none⟩) N c) N (rows ce (sortF Coin.w l))::ps)):=by
 have HS:=jd (SC.stable_any (B:=0) (lighter_any w0 ps 0) (fun _ _=>trivial) hN hNb H)
 clear H hN
 go_enter Tryz.func360,Tryz.ntmps360
 go_wp2_with fail
 refine HS.out.mono ?_
 rintro e w1 ⟨_,rfl,H1⟩
 go_wp2
 go_end0
 exact ⟨_,rfl,H1⟩
theorem rows_ce_one(l:List Coin):∀ u∈rows ce l,u.oneCell'=true:=by
 intro u hu
 obtain ⟨x,_,hx⟩:=List.mem_flatMap.1 hu
 exact SC.e_one x u hx
theorem clone_any{w:World}{v:Value}{n:Nat}{l:List Coin}(hr:Rd w 2 v n (rows ce l))(hl:0<l.length)(hn:n≤1000000) :
 Calls Tryz.prog 359 #[v] w (Ret fun r w'=>Own w w' [slc 431 2 r n (rows ce l)]):=by
 have hlen:0<(rows ce l).length:=by rw [Qp ce SC.e_length];omega
 obtain ⟨b,o,c,rfl,hc1,hc2⟩:=hr.some hlen
 have H:=(Own.start w).made [] 431 2 0 (by simp) (by simp [maxLen])
 have hr2:=hr.old H
 have h1:=rows_ce_one l
 generalize rows ce l=xs at *
 have HR:=jd hr2
 have H1:=jd h1
 clear hr hr2 h1 hlen
 have hnil:∀ W,(binOp .eql 429 (.slice (some ⟨b,o,none⟩) n c) (.slice none 0 0)).run Tryz.prog W=.ok (.bool false) W:=fun W=>Lib.run_eql_slice_some_nil W _ _ _ Tryz.underlying429
 go_enter Tryz.func359,Tryz.ntmps359
 go_wp2_with (at_builtin;refine Qn rfl _ _ rfl Tryz.underlying429 coinInfo rfl (by decide) rfl H HR.out H1.out (by omega) (by omega) ?_;clear H;intro v' w' H)
 go_ret
 refine ⟨_,rfl,?_⟩
 simpa using H
theorem rows_pair_cells(a b:Coin)(t:List Coin):rows ce (a::b::t)=[.int .i64 a.w,.bool a.pair,.int .i64 b.w,.bool b.pair]++rows ce t:=rfl
theorem rd_tail2{w:World}{b o cap n:Nat}{c1 c2:Coin}{t:List Coin}(h:Rd w 2 (.slice (some ⟨b,o,none⟩) (n+2) cap) (n+2) (rows ce (c1::c2::t))) :
 Rd w 2 (.slice (if cap=2 then some ⟨b,o,none⟩ else some ⟨b,o+4,none⟩) n (cap-2)) n (rows ce t):=by
 have h1:=h.tail (k:=2) (by omega)
 by_cases hc:cap=2
 ·subst hc
  obtain ⟨hl,a,c,e,hle,_⟩:=h
  cases e
  have hn:n=0:=by omega
  subst hn
  have hx:rows ce t=[]:=by
   refine eJ ?_
   rw [rows_pair_cells,lJ] at hl
   simp at hl
   simpa using hl
  rw [hx]
  exact ⟨by simp,_,_,rfl,by omega,by simp [maxLen],by simp,fun ad _ j u hu=>by simp at hu⟩
 ·have e:(rows ce (c1::c2::t)).drop (2*2)=rows ce t:=by rw [rows_drop ce SC.e_length];rfl
  rw [e] at h1
  simpa [hc,Addr.add] using h1
set_option maxRecDepth 100000 in
set_option maxHeartbeats 1600000 in
theorem row_any{w:World}{v u:Value}{n m:Nat}{base A:List Coin}(hr:Rd w 2 v n (rows ce base))(hu:Rd w 2 u m (rows ce A))(hl:0<base.length)(hn:n≤1000)(hm:m≤1000)
 (hA:∀ c∈A,0≤c.w∧c.w≤1000000000000000000) :
 Calls Tryz.prog 331 #[v,u] w (Ret fun r w'=>Own w w' [slc 431 2 r (rowF base A).length (rows ce (rowF base A))]):=by
 have HC:=jd (clone_any hr hl (by omega))
 have hbn:Hid (base.length=n):=jd (by have:=hr.len;rw [Qp ce SC.e_length] at this;omega)
 have hlm:A.length=m:=by have:=hu.len;rw [Qp ce SC.e_length] at this;omega
 clear hr
 have HL:=jd hl
 clear hl
 go_enter Tryz.func331,Tryz.ntmps331
 go_wp2_with fail
 refine HC.out.mono ?_
 rintro e w1 ⟨r,rfl,H⟩
 clear HC
 have HU:=jd hu
 have HA:=jd hA
 obtain ⟨M,hP⟩:∃ M,Hid (base++Ji A=M):=⟨_,rfl⟩
 have hPM:=hP
 have hn2:n+m/2≤2000:=by omega
 go_wp2_with fail
 clear hu hA
 go_loopw [1,5] (fun s1 s5 wx=>∃ (k q:Nat) (B P:List Coin),Hid (Rd w 2 s1 k (rows ce B))∧Hid (B.length=k)∧k≤1000∧q+k/2≤2000∧Hid (P++Ji B=M)∧Hid (∀ c∈B,0≤c.w∧c.w≤1000000000000000000)∧Hid (P.length=q)∧Own w wx [slc 431 2 s5 q (rows ce P)]) (fun s1 _ _=>Jr s1)
 case atStart=>exact ⟨m,n,A,base,HU,jd hlm,hm,hn2,hP,HA,hbn,H⟩
 case round=>
  clear H HU HA hP hn2 hn hm hlm hbn
  obtain ⟨k,q,B,P,HU,hB,hk,hq,hP,HA,hPl,H⟩:=hrel
  by_cases h2:2≤k
  ·obtain ⟨c1,c2,t,rfl⟩:∃ (c1 c2:Coin) (t:List Coin),B=c1::c2::t:=by
    match B,hB.out with
    | [],h=>simp at h;omega
    | [_],h=>simp at h;omega
    | c1::c2::t,_=>exact ⟨c1,c2,t,rfl⟩
   obtain ⟨k,rfl⟩:∃ k',k=k'+2:=⟨k-2,by omega⟩
   have hu:=HU.out
   obtain ⟨b,o,c,rfl,hc1,hc2⟩:=hu.some (by rw [Qp ce SC.e_length];simp)
   have g1:∀ (ps':List Piece) (w':World),Own w w' ps'→w'.cell? ⟨b,o,none⟩=some (.int .i64 c1.w)∧w'.cell? ⟨b,o+2,none⟩=some (.int .i64 c2.w):=fun _ w' h=>by
    have h:=hu.old h
    exact And.intro (h.cell (j:=0) rfl) (h.cell (j:=2) rfl)
   have G1:=jd g1
   have HU2:=jd (rd_tail2 hu)
   have hB2:Hid (t.length=k):=jd (by have:=hB.out;simp at this;omega)
   have HA2:Hid (∀ c∈t,0≤c.w∧c.w≤1000000000000000000):=jd (fun c hc=>HA.out c (by simp [hc]))
   have hP2:Hid ((P++[(⟨c1.w+c2.w,true⟩:Coin)])++Ji t=M):=jd (by rw [← hP.out,Ji,List.append_assoc];rfl)
   have hPl2:Hid ((P++[(⟨c1.w+c2.w,true⟩:Coin)]).length=q+1):=jd (by rw [lJ,hPl.out];rfl)
   have b1:=HA.out c1 (by simp)
   have b2:=HA.out c2 (by simp)
   have hrow0:rows ce P++ce ⟨c1.w+c2.w,true⟩=rows ce (P++[⟨c1.w+c2.w,true⟩]):=by rw [Ze,rows_one]
   have HR0:=jd hrow0
   clear hu g1 HU hB HA hP hPl hrow0
   generalize c1.w=x1 at *
   generalize c2.w=x2 at *
   obtain ⟨s,hs⟩:∃ s,Hid (x1+x2=s):=⟨_,rfl⟩
   have hsw:IntKind.i64.wrap (x1+x2)=s:=by rw [← hs.out];exact IntWalk.i64_in _ ⟨by omega,by omega⟩
   rw [hs.out] at hP2 hPl2 HR0
   have hcc:((k:Int)+2≤(c:Int)):=by omega
   have hk0:(0:Int)<(k:Int)+2:=by omega
   have hk1:(1:Int)<(k:Int)+2:=by omega
   go_upto_region 4 with (fail)
   refine wp_region_new (fun σ w1=>Own w w1 (newR (.cells #[.int .i64 s,.bool true] 431) 1 (σ 11)++(slc 431 2 u5 q (rows ce P)::[]))) 12 [11] (by kernel_rfl) (by kernel_rfl) H.drew ?_
   simp only [List.take_succ_cons,List.take_zero,List.drop_succ_cons,List.drop_zero]
   repeat
    first
    | (refine calm_value (v:=?_) (by decide) rfl (fun σ w1 hS=>?_) ?_
       rotate_left
       ·obtain ⟨c0,c1⟩:=G1.out _ _ hS
        first | (go_simp;rfl) | rfl
       simp only [Act.put,putC])
    | (refine calm_skip (by decide) rfl ?_
       simp only [Act.put,putC])
   refine calm_row (by decide) (fun w1=>(by go_simp)) ?_
   refine calm_nil ?_
   intro σ wd hσ HD
   obtain ⟨vn,hvn⟩:=Option.isSome_iff_exists.1 (hσ 11 (by decide))
   rw [hvn] at HD
   obtain ⟨g2,rfl,HN⟩:=HD.newr
   clear HD H
   simp only [Jx,List.foldl_cons,List.foldl_nil,hvn]
   simp only [Act.put,List.setIfInBounds_toArray,List.set_cons_zero,List.set_cons_succ,List.getElem?_cons_succ,List.getElem?_cons_zero,Option.bind_some,Option.getD_some]
   have hrow:=(HN.slc_mk (xs:=ce ⟨s,true⟩) (n:=1) (size:=2) rfl (Nat.le_refl _) (by decide) rfl rfl).rd
   have H:=HN.drop
   clear HN
   go_wp2_with (at_builtin;refine Qn rfl _ _ rfl Tryz.underlying429 coinInfo rfl (by decide) rfl H hrow (SC.e_one _) (by omega) (by omega) ?_;clear H hrow;intro v' w' H;rw [HR0.out] at H)
   go_roundw
   case rel=>exact ⟨k,q+1,t,P++[⟨s,true⟩],HU2,hB2,by omega,by omega,hP2,HA2,hPl2,H⟩
   case measure=>simp [Jr]
  ·have hB0:Ji B=[]:=eJ (by rw [pairsF_length,hB.out];omega)
   have hPM2:P=M:=by rw [← hP.out,hB0,List.append_nil]
   subst hPM2
   have hq1:0<q:=by rw [← hPl.out,← hPM.out,lJ];have:=HL.out;omega
   obtain ⟨a,cp,rfl,hc1,hc2⟩:=HU.out.shape
   obtain ⟨g,c,rfl,hd1,hd2,_⟩:=H.at (by rw [Qp ce SC.e_length,hPl.out];omega)
   have HS:=jd (sortC_any hPl.out.symm (by omega) H)
   have hkI:¬ (2:Int)≤(k:Int):=by omega
   have hR:Hid (sortF Coin.w P=rowF base A):=jd (by rw [← hPM.out];rfl)
   have hRl:Hid ((rowF base A).length=q):=jd (by rw [← hR.out,← (Zo P).2.length,hPl.out])
   clear HU hB hB0 hP HA hPl H HL hPM h2
   go_wp2_with fail
   refine HS.out.mono ?_
   rintro e w2 ⟨_,rfl,H2⟩
   rw [hR.out] at H2
   go_wp2
   go_ret
   exact ⟨_,rfl,by rw [hRl.out];exact H2⟩
set_option maxHeartbeats 800000 in
theorem counted_any{w:World}{v:Value}{n k:Nat}{l:List Coin}(hr:Rd w 2 v n (rows ce l))(hn:n≤1000000)(hk:k≤n) :
 Calls Tryz.prog 332 #[v,.int .i64 k] w (Ret fun r w'=>r=.tuple #[.int .i64 ((k-npF l k:Nat):Int),.int .i64 (npF l k)]∧Own w w' []):=by
 have hln:l.length=n:=by have:=hr.len;rw [Qp ce SC.e_length] at this;omega
 have hle:=npF_le l k
 obtain ⟨Z,hZ⟩:∃ Z,Hid (npF l k=Z):=⟨_,rfl⟩
 rw [hZ.out] at hle ⊢
 obtain ⟨a,c,rfl,hc1,hc2⟩:=hr.shape
 have HR:=jd hr
 have hl:=jd hln
 have H:=Own.start w
 clear hr hln
 go_enter Tryz.func332,Tryz.ntmps332
 go_wp2_with fail
 go_loopw [6,13] (fun s6 s13 wx=>∃ i:Nat,s13=.int .i64 i∧i≤k∧s6=.int .i64 (npF l i)∧Own w wx []) (fun _ s13 _=>k-(intOf s13).toNat)
 case atStart=>exact ⟨0,by go_num,by omega,by simp [npF],H⟩
 case round=>
  clear H
  obtain ⟨i,rfl,hi,rfl,H⟩:=hrel
  have hpl:=npF_le l i
  by_cases hlt:i<k
  ·obtain ⟨x,hx⟩:=Ql (l:=l) (k:=i) (by have:=hl.out;omega)
   have hp:npF l (i+1)=npF l i+if x.pair then 1 else 0:=by
    unfold npF
    rw [List.take_add_one,hx,List.countP_append]
    simp
   obtain ⟨y,hy⟩:∃ y,Hid (npF l i=y):=⟨_,rfl⟩
   have HP:=jd hp
   have hr:=HR.out
   obtain ⟨b,o,c',he,_⟩:=hr.some (by rw [Qp ce SC.e_length];have:=hl.out;omega)
   cases he
   have hr2:=(HR.out.old H)
   have g0:wr.cell? ⟨b,o+i*2,none⟩=some (.int .i64 x.w):=by
    have:=hr2.cell ((Jt ce SC.e_length hx 0 (by omega)).trans rfl)
    simpa using this
   have g1:wr.cell? ⟨b,o+(i*2+1),none⟩=some (.bool x.pair):=hr2.cell ((Jt ce SC.e_length hx 1 (by omega)).trans rfl)
   have g2:wr.cell? ⟨b,o+i*2+1,none⟩=some (.bool x.pair):=g1
   have hI:(i:Int)<(k:Int):=by omega
   clear hp hr hr2 hx
   obtain ⟨xw,xp⟩:=x
   simp only at g0 g1 g2 HP
   obtain ⟨gc,hgc⟩:∃ gc,Hid (wr.heap.size=gc):=⟨_,rfl⟩
   rw [hy.out] at HP hpl ⊢
   cases xp
   all_goals
    go_wp2_with (refine Qe rfl _ _ rfl rfl (H.alloc _) rfl (by kernel_rfl) (by simp) (by simp;exact ⟨rfl,rfl⟩) rfl ?_;clear H;intro w5 H;rw [hgc.out] at H ⊢;have c0:=H.cells)
    go_roundw
    case rel=>exact ⟨i+1,by go_num,by omega,by rw [HP.out];simp,H.bare⟩
    case measure=>simp [intOf];omega
  ·obtain rfl:i=k:=by omega
   have hz:=hZ.out
   rw [hz] at hpl ⊢
   have hw:IntKind.i64.wrap ((i:Int)-(Z:Int))=((i-Z:Nat):Int):=by rw [IntWalk.i64_in _ ⟨by omega,by omega⟩];omega
   clear hz
   go_wp2
   go_ret2
   exact ⟨_,rfl,rfl,H⟩
theorem bad_any(f:Int)(w:World):Calls Tryz.prog 326 #[.int .i64 f] w fun e w'=>e=.returned (.bool (badF f))∧w'=w:=by
 obtain ⟨b,hb⟩:∃ b,Hid (badF f=b):=⟨_,rfl⟩
 rw [hb.out]
 go_enter Tryz.func326,Tryz.ntmps326
 by_cases h1:f<0
 ·have e:Hid (b=true):=jd (by rw [← hb.out];simp [badF,h1])
  go_wp2
  go_ret
  exact ⟨by rw [e.out];rfl,rfl⟩
 ·by_cases h2:4294967296<f
  ·have e:Hid (b=true):=jd (by rw [← hb.out];simp [badF,h2])
   go_wp2
   go_ret
   exact ⟨by rw [e.out];rfl,rfl⟩
  ·have e:Hid (b=false):=jd (by rw [← hb.out];simp [badF];omega)
   go_wp2
   go_ret
   exact ⟨by rw [e.out];rfl,rfl⟩
theorem index_any{w:World}{v:Value}{n:Nat}{F:List Int}(hr:Rd w 1 v n (nums F))(hn:n≤1000000) :
 Calls Tryz.prog 357 #[v,.func (.func 326) #[] #[]] w (Ret fun r w'=>(∃ x:Int,r=.int .i64 x∧(0≤x↔anyBad F=true) ∧ -1≤x∧x≤1000000)∧Own w w' []):=by
 have hl:F.length=n:=by have:=hr.len;rw [Qg] at this;omega
 obtain ⟨a,c,rfl,hc1,hc2⟩:=hr.shape
 have HR:=jd hr
 have HL:=jd hl
 have H:=Own.start w
 clear hr hl
 go_enter Tryz.func357,Tryz.ntmps357
 go_wp2_with fail
 go_loopw [8] (fun s8 wx=>∃ i:Nat,s8=.int .i64 i∧i≤n∧Hid (∀ j,j<i→badF (F.getD j 0)=false)∧Own w wx []) (fun s8 _=>n-(intOf s8).toNat)
 case atStart=>exact ⟨0,by go_num,by omega,jd (fun j h=>by omega),H⟩
 case round=>
  clear H
  obtain ⟨i,rfl,hi,hno,H⟩:=hrel
  by_cases hlt:i<n
  ·obtain ⟨b,o,rfl,c0⟩:=rd_num HR.out H (by have:=HL.out;omega:i<F.length) rfl
   obtain ⟨x,hx⟩:∃ x,Hid (F.getD i 0=x):=⟨_,rfl⟩
   rw [hx.out] at c0
   have hI:(i:Int)<(n:Int):=by omega
   obtain ⟨bx,hbx⟩:∃ bx,Hid (badF x=bx):=⟨_,rfl⟩
   go_wp2_with fail
   refine (bad_any x _).mono ?_
   rintro e w1 ⟨rfl,rfl⟩
   rw [hbx.out]
   cases bx with
   | true=>
    go_wp2
    go_ret
    refine ⟨_,rfl,⟨_,rfl,?_,by omega,by omega⟩,H⟩
    constructor
    ·intro _
     unfold anyBad
     rw [List.any_eq_true]
     refine ⟨x,?_,hbx.out⟩
     have hl:=HL.out
     rw [← hx.out,List.getD_eq_getElem?_getD,List.getElem?_eq_getElem (by omega)]
     exact List.getElem_mem _
    ·intro _;omega
   | false=>
    go_wp2_with fail
    go_roundw
    case rel=>exact ⟨i+1,by go_num,by omega,jd (fun j h=>by
     rcases Nat.lt_or_ge j i with h1 | h1
     ·exact hno.out j h1
     ·have:j=i:=by omega
      subst this;rw [hx.out];exact hbx.out),H⟩
    case measure=>simp [intOf];omega
  ·have hI:¬ (i:Int)<(n:Int):=by omega
   go_wp2
   go_ret
   refine ⟨_,rfl,⟨_,rfl,?_,by omega,by omega⟩,H⟩
   constructor
   ·intro h;omega
   ·intro h
    exfalso
    unfold anyBad at h
    rw [List.any_eq_true] at h
    obtain ⟨x,hx,hb⟩:=h
    obtain ⟨j,hj,rfl⟩:=List.getElem_of_mem hx
    have hl:=HL.out
    have:=hno.out j (by omega)
    rw [List.getD_eq_getElem?_getD,List.getElem?_eq_getElem hj] at this
    simp only [Option.getD_some] at this
    rw [this] at hb
    cases hb
theorem contains_any{w:World}{v:Value}{n:Nat}{F:List Int}(hr:Rd w 1 v n (nums F))(hn:n≤1000000) :
 Calls Tryz.prog 327 #[v,.func (.func 326) #[] #[]] w (Ret fun r w'=>r=.bool (anyBad F)∧Own w w' []):=by
 have HI:=jd (index_any hr hn)
 obtain ⟨b,hb⟩:∃ b,Hid (anyBad F=b):=⟨_,rfl⟩
 rw [hb.out]
 clear hr
 go_enter Tryz.func327,Tryz.ntmps327
 go_wp2_with fail
 refine HI.out.mono ?_
 rintro e w1 ⟨_,rfl,⟨x,rfl,hx,hx1,hx2⟩,H1⟩
 rw [hb.out] at hx
 by_cases h0:0≤x
 ·have e:=hx.1 h0
  subst e
  clear hx
  go_wp2
  go_ret
  exact ⟨_,rfl,rfl,H1⟩
 ·have e:b=false:=by cases b <;> simp_all
  subst e
  have e2:Hid (decide (0≤x)=false):=jd (by simp;omega)
  clear hx
  go_wp2
  go_ret
  exact ⟨_,rfl,by show Value.bool (decide (0≤x))=_;rw [e2.out],H1⟩
noncomputable def lenTail(r:Nat):Code:=((Tryz.f271.body.bind (fromR r)).getD .skip)
def rowPs(base:List Coin)(f:Nat→Value):Nat→List Piece
 | 0=>[]
 | k+1=>slc 431 2 (f k) (rowsF base k).length (rows ce (rowsF base k))::rowPs base f k
theorem rowPs_get(base:List Coin)(f:Nat→Value):∀ k j,j<k→(rowPs base f k)[k-1-j]?=some (slc 431 2 (f j) (rowsF base j).length (rows ce (rowsF base j)))
 | 0,j,h=>by omega
 | k+1,j,h=>by
  rw [rowPs]
  rcases Nat.lt_or_ge j k with h1 | h1
  ·rw [show k+1-1-j=(k-1-j)+1 by omega,List.getElem?_cons_succ]
   exact rowPs_get base f k j h1
  ·have:j=k:=by omega
   subst this
   rw [show j+1-1-j=0 by omega]
   rfl
theorem rowPs_congr(base:List Coin)(f g:Nat→Value):∀ k,(∀ j,j<k→f j=g j)→rowPs base f k=rowPs base g k
 | 0,_=>rfl
 | k+1,h=>by rw [rowPs,rowPs,h k (by omega),rowPs_congr base f g k fun j hj=>h j (by omega)]
def cntM(base:List Coin):Nat→Nat→List Nat
 | 0,_=>[]
 | m+1,n=>(n-npF (rowsF base m) n)::cntM base m (2*npF (rowsF base m) n)
theorem cntM_eq(base:List Coin):∀ i n,cntM base (i+1) n=cntF base i n:=by
 intro i
 induction i with
 | zero=>intro n;rfl
 | succ i ih=>intro n;rw [cntM,ih,cntF]
theorem rowsF_len_le(base:List Coin)(i:Nat):(rowsF base i).length≤2*base.length:=by
 induction i with
 | zero=>simp [rowsF];omega
 | succ i ih=>rw [rowsF_length];omega
theorem bump_bounds{o:List Int}{syms:List Int}(hnd:syms.Nodup)(hin:∀ x∈syms,∃ s:Nat,x=s∧s<o.length)(j s:Nat):o.getD s 0≤(bumpF o (syms.take j)).getD s 0∧(bumpF o (syms.take j)).getD s 0≤o.getD s 0+1:=by
 rw [bumpF_get _ _ _ (fun x hx=>hin x (List.mem_of_mem_take hx)),count_nodup (hnd.sublist (List.take_sublist _ _))]
 split <;> omega
set_option maxRecDepth 100000 in
set_option maxHeartbeats 12800000 in
theorem len_tail33{w wr:World}{base:List Coin}{f:Nat→Value}{syms o R:List Int}{L N n rg rc og oc sg sc:Nat}{er:Int}(hb:Hid (Base base))(hN:Hid (base.length=N))(h2:2≤N)(hN3:N≤320)(hL1:1≤L)(hL2:L≤15)(hn:n≤320)(ho:Hid (o.length=n))(hz:Hid (∀ s,o.getD s 0=0))
 (hsl:Hid (syms.length=N)) (hnd:Hid syms.Nodup) (hin:Hid (∀ x∈syms,∃ s:Nat,x=s∧s<n)) (hpow:Hid (N≤2^L)) (he:er=0) (hR:Hid (outF syms (cntF base (L-1) (2*N-2)) o=R)) (hbv:∃ a c,f 0=.slice a N c)
 (z0 z2 z3 z4 z5 z6 z8 z9 z11 z12 z14 z15 z17 z18 z19 z20 z21 z22 z23 z24 z25 z26 z27 z28 z29 z30 z31 z32 z33 z34 z35 z36 z37 z38 z39 z40 z41 z42 z43 z44 z45 z46 z47 z48 z49 z50 z51 z52 z53 z54 z55 z56 z57 z58 z59 z60 z61 z62 z63 z64 z65 z66 z67 z68 z69 z70 z71 z72 z73 z74 z75 z76 z77 z78 z79 z80 z81 z82 z83 z84 z85 z86 z87 z88 z89 z90 z91 z92 z93 z94 z95 z96 z97 z98 z99 z100 z101 z102 z103 z104 z105 z106 z107 z108 z109 z110 z111 z112 z113 z114 z115 z116 z117 z118 z119 z120 z121 z122 z123 z124 z125 z126 z127 z128 z129 z130 z131 z132 z133 z134 z135 z136 z137 z138 z139 z140 z141 z142 z143 z144 z145 z146 z147 z148:Value)
 (H:Own w wr (slc 429 1 (.slice (some ⟨rg,0,none⟩) L rc) L ((List.range L).map f)::slc 3 1 (.slice (some ⟨og,0,none⟩) n oc) n (nums o)::slc 3 1 (.slice (some ⟨sg,0,none⟩) N sc) N (nums syms)::rowPs base f L)) :
 Code.wp Tryz.prog (lenTail 33) (bodyPost Tryz.prog Tryz.f271 (Ret fun r w'=>∃ ov,r=.tuple #[ov,.int .i64 er]∧Own w w' [slc 3 1 ov n (nums R)]))
  ⟨#[z0,.int .i64 L,z2,z3,z4,z5,z6,.slice (some ⟨sg,0,none⟩) N sc,z8,z9,.slice (some ⟨og,0,none⟩) n oc,z11,z12,f 0,z14,z15,.slice (some ⟨rg,0,none⟩) L rc,z17,z18,z19,z20,z21,z22,z23,z24,z25,z26,z27,z28,z29,z30,z31,z32,z33,z34,z35,z36,z37,z38,z39,z40,z41,z42,z43,z44,z45,z46,z47,z48,z49,z50,z51,z52,z53,z54,z55,z56,z57,z58,z59,z60,z61,z62,z63,z64,z65,z66,z67,z68,z69,z70,z71,z72,z73,z74,z75,z76,z77,z78,z79,z80,z81,z82,z83,z84,z85,z86,z87,z88,z89,z90,z91,z92,z93,z94,z95,z96,z97,z98,z99,z100,z101,z102,z103,z104,z105,z106,z107,z108,z109,z110,z111,z112,z113,z114,z115,z116,z117,z118,z119,z120,z121,z122,z123,z124,z125,z126,z127,z128,z129,z130,z131,z132,z133,z134,z135,z136,z137,z138,z139,z140,z141,z142,z143,z144,z145,z146,z147,z148],[]⟩ wr:=by
 conv=>arg 2;whnf
 dsimp only
 subst he
 obtain ⟨ba,bc,hbv⟩:=hbv
 rw [hbv]
 have hwN:IntKind.i64.wrap (2*(N:Int))=2*(N:Int):=IntWalk.i64_in _ ⟨by omega,by omega⟩
 have hwN2:IntKind.i64.wrap (2*(N:Int)-2)=((2*N-2:Nat):Int):=by rw [IntWalk.i64_in _ ⟨by omega,by omega⟩];omega
 have hwL:IntKind.i64.wrap ((L:Int)-1)=(L:Int)-1:=IntWalk.i64_in _ ⟨by omega,by omega⟩
 have hnn:2*N-2≤(rowsF base (L-1)).length:=by
  have:=rowsF_enough (base:=base) (L-1) (by rw [hN.out,show L-1+1=L by omega];exact hpow.out)
  have:=hN.out
  omega
 have hnn2:2*N-2≤640:=by omega
 have hRM:Hid (outF syms (cntM base L (2*N-2)) o=R):=jd (by
  have e:=cntM_eq base (L-1) (2*N-2)
  rw [show L-1+1=L by omega] at e
  rw [e];exact hR.out)
 obtain ⟨nn,hnnE⟩:∃ nn,Hid (2*N-2=nn):=⟨_,rfl⟩
 rw [hnnE.out] at hwN2 hnn hRM hnn2
 have HNN:=jd hnn
 have hNc:N≤sc:=by obtain ⟨_,_,e,h1,_⟩:=(H.front 2 rfl).rd.shape;cases e;exact h1
 have hsc:sc≤9223372036854775807:=by obtain ⟨_,_,e,_,h1⟩:=(H.front 2 rfl).rd.shape;cases e;exact h1
 clear hnn hR hpow hbv h2
 go_wp2_with fail
 go_loopw [17,18] (fun s17 s18 wx=>∃ (m k:Nat) (q:List Int) (t:Nat),s17=.int .i64 k∧s18=.int .i64 ((m:Int)-1)∧m≤L∧k≤640∧t+m≤15∧Hid (0<m→k≤(rowsF base (m-1)).length)∧Hid (q.length=n)∧Hid (∀ s,0≤q.getD s 0∧q.getD s 0≤t)∧Hid (outF syms (cntM base m k) q=R)∧Own w wx (slc 429 1 (.slice (some ⟨rg,0,none⟩) L rc) L ((List.range L).map f)::slc 3 1 (.slice (some ⟨og,0,none⟩) n oc) n (nums q)::slc 3 1 (.slice (some ⟨sg,0,none⟩) N sc) N (nums syms)::rowPs base f L)) (fun _ s18 _=>(intOf s18+1).toNat)
 case atStart=>exact ⟨L,nn,o,0,by go_num,by go_num,Nat.le_refl _,hnn2,by omega,jd (fun _=>HNN.out),ho,jd (fun s=>by rw [hz.out s];omega),hRM,H⟩
 case round=>
  clear H hRM HNN hwN hwN2 hz ho
  obtain ⟨m,k,q,t,rfl,rfl,hm,hk,ht,hkl,hq,hqb,hqR,H⟩:=hrel
  rcases Nat.eq_zero_or_pos m with h0 | h0
  ·subst h0
   have e:Hid (q=R):=jd hqR.out
   have hm1:¬ (0:Int)≤((0:Nat):Int)-1:=by omega
   clear hqR hkl
   go_wp2
   go_ret2
   refine ⟨_,rfl,_,rfl,?_⟩
   rw [← e.out]
   obtain ⟨r,hr⟩:∃ r,rowPs base f L=r:=⟨_,rfl⟩
   have H2:=(H.front 1 rfl)
   refine ⟨H2.below,?_⟩
   obtain ⟨_,h,g1,g2,g3,_⟩:=H2
   exact ⟨h,g1,g2,g3,trivial⟩
  ·obtain ⟨i,rfl⟩:∃ i,m=i+1:=⟨m-1,by omega⟩
   have hiE:((i+1:Nat):Int)-1=(i:Int):=by omega
   rw [hiE]
   have hrd:Rd wr 2 (f i) (rowsF base i).length (rows ce (rowsF base i)):=(H.front (3+(L-1-i)) (by
    rw [Nat.add_comm 3]
    simp only [List.getElem?_cons_succ]
    exact rowPs_get base f L i (by omega))).rd
   have hkl2:k≤(rowsF base i).length:=by have:=hkl.out (by omega);simpa using this
   have hrl:=rowsF_len_le base i
   rw [hN.out] at hrl
   have hs:=(ns_singles hb.out i k hkl2).1
   rw [hN.out] at hs
   have hp:=npF_le (rowsF base i) k
   have hnext:0<i→2*npF (rowsF base i) k≤(rowsF base (i-1)).length:=fun h=>by
    obtain ⟨j,rfl⟩:∃ j,i=j+1:=⟨i-1,by omega⟩
    exact np_two hb.out j k
   have hqR2:=hqR.out
   rw [cntM] at hqR2
   have hc:=counted_any hrd (by omega) hkl2
   obtain ⟨P,hP⟩:∃ P,Hid (npF (rowsF base i) k=P):=⟨_,rfl⟩
   rw [hP.out] at hs hp hnext hqR2 hc
   obtain ⟨S,hS⟩:∃ S,Hid (k-P=S):=⟨_,rfl⟩
   rw [hS.out] at hs hqR2 hc
   obtain ⟨fa,fc,hfi,hf1,hf2⟩:=hrd.shape
   have c0:wr.cell? ⟨rg,i,none⟩=some (f i):=by
    have:=H.rd.cell (j:=i) (u:=f i) (by simp [show i<L by omega])
    simpa using this
   rw [hfi] at c0 hc
   have HC:=jd hc
   have HR2:Hid (outF syms (cntM base i (2*P)) (bumpF q (syms.take S))=R):=jd hqR2
   have HNX:=jd hnext
   have hiL:(i:Int)<(L:Int):=by omega
   have hLc:L≤rc:=by obtain ⟨_,_,e,h1,_⟩:=H.rd.shape;cases e;exact h1
   obtain ⟨ln,hln⟩:∃ ln,(rowsF base i).length=ln:=⟨_,rfl⟩
   rw [hln] at hrl c0 HC
   clear hc hqR2 hqR hnext hkl hkl2 hrd hfi hln hiE hm h0 hf1 hf2
   go_wp2_with fail
   refine HC.out.mono ?_
   rintro e w1 ⟨_,rfl,rfl,H1⟩
   have H:=H.join H1
   clear H1 c0 HC
   have hSN:(S:Int)≤(N:Int):=by omega
   have hSc:(S:Int)≤(sc:Int):=by omega
   go_wp2_with fail
   go_loopw [135] (fun s135 wx=>∃ j:Nat,s135=.int .i64 j∧j≤S∧Own w wx (slc 429 1 (.slice (some ⟨rg,0,none⟩) L rc) L ((List.range L).map f)::slc 3 1 (.slice (some ⟨og,0,none⟩) n oc) n (nums (bumpF q (syms.take j)))::slc 3 1 (.slice (some ⟨sg,0,none⟩) N sc) N (nums syms)::rowPs base f L)) (fun s135 _=>S-(intOf s135).toNat)
   case atStart=>exact ⟨0,by go_num,by omega,by simpa [bumpF] using H⟩
   case round=>
    clear H
    obtain ⟨j,rfl,hj,H⟩:=hrel
    by_cases hlt:j<S
    ·obtain ⟨x,hx⟩:=Ql (l:=syms) (k:=j) (by have:=hsl.out;omega)
     obtain ⟨z,rfl,hz2⟩:=hin.out x (List.mem_of_getElem? hx)
     have hql:(bumpF q (syms.take j)).length=n:=by rw [Jl];exact hq.out
     have hbd:=bump_bounds (o:=q) hnd.out (fun x hx=>by rw [hq.out];exact hin.out x hx) j z
     have hqz:=hqb.out z
     have hst:(nums (bumpF q (syms.take j))).set z (.int .i64 ((bumpF q (syms.take j)).getD z 0+1))=nums (bumpF q (syms.take (j+1))):=by
      rw [nums_set,bump_take hx];rfl
     have c2:=(H.front 2 rfl).rd.cell (Jj hx)
     have c1:=(H.front 1 rfl).rd.cell (j:=z) (Jj (List.getElem?_eq_getElem (by omega)))
     rw [show (bumpF q (syms.take j))[z]'(by omega)=(bumpF q (syms.take j)).getD z 0 by rw [List.getD_eq_getElem?_getD,List.getElem?_eq_getElem (by omega)];rfl] at c1
     rw [Nat.zero_add] at c1 c2
     have HST:=jd hst
     obtain ⟨y,hy⟩:∃ y,Hid ((bumpF q (syms.take j)).getD z 0=y):=⟨_,rfl⟩
     rw [hy.out] at hbd c1 HST
     have hfr:=(H.front 1 rfl).at (by rw [Qg,hql];omega)
     obtain ⟨_,_,he,ho1,ho2,_⟩:=hfr
     cases he
     have hyw:IntKind.i64.wrap (y+1)=y+1:=IntWalk.i64_in _ ⟨by omega,by omega⟩
     have hjI:(j:Int)<(S:Int):=by omega
     have hzI:(z:Int)<(n:Int):=by omega
     clear hst hql hx hbd hqz
     go_wp2_with (refine Ja rfl _ _ rfl rfl (H.front 1 rfl) (.int .i64 (y+1)) rfl (by kernel_rfl) (by omega) rfl ?_;clear H c1 c2;intro w2 H;rw [HST.out] at H;replace H:=H.swap)
     go_roundw
     case rel=>exact ⟨j+1,by go_num,by omega,H⟩
     case measure=>simp [intOf];omega
    ·obtain rfl:j=S:=by omega
     have hjI:¬ (j:Int)<(j:Int):=by omega
     have hql:Hid ((bumpF q (syms.take j)).length=n):=jd (by rw [Jl];exact hq.out)
     have hqb2:Hid (∀ s,0≤(bumpF q (syms.take j)).getD s 0∧(bumpF q (syms.take j)).getD s 0≤((t+1:Nat):Int)):=jd (fun s=>by
      have hbd:=bump_bounds (o:=q) hnd.out (fun x hx=>by rw [hq.out];exact hin.out x hx) j s
      have hqz:=hqb.out s
      omega)
     have hPw:IntKind.i64.wrap (2*(P:Int))=((2*P:Nat):Int):=by rw [IntWalk.i64_in _ ⟨by omega,by omega⟩];omega
     have hiw:IntKind.i64.wrap ((i:Int)-1)=(i:Int)-1:=IntWalk.i64_in _ ⟨by omega,by omega⟩
     have hP2:2*P≤640:=by
      rcases Nat.eq_zero_or_pos i with h | h
      ·have h2:=hP.out
       rw [h,rowsF_zero_np hb.out] at h2
       omega
      ·have h2:=HNX.out h
       have h3:=rowsF_len_le base (i-1)
       have h4:=hN.out
       omega
     generalize bumpF q (syms.take j)=q2 at *
     clear hqb hq
     go_wp2
     go_roundw
     case rel=>exact ⟨i,2*P,q2,t+1,by go_num,by go_num,by omega,hP2,by omega,HNX,hql,hqb2,HR2,H⟩
     case measure=>simp [intOf]
theorem crowInfo:(Tryz.prog.info? 429).map (fun i=>(i.zero,i.size,i.bytes))=some (some (.slice none 0 0),1,24):=by kernel_rfl
theorem rows_map_one(F:List Int)(z:Nat):ce (coinOf F z)=[.int .i64 (F.getD z 0),.bool false]:=rfl
set_option maxRecDepth 100000 in
set_option maxHeartbeats 12800000 in
theorem len_tail22{w wr:World}{base:List Coin}{v:Value}{F syms o R:List Int}{L N n B og oc sg sc:Nat}{er:Int}(hb:Hid (Base base))(hbe:Hid (syms.map (coinOf F)=base))(hN:Hid (base.length=N))(h2:2≤N)(hN3:N≤320)(hL1:1≤L)(hL2:L≤15)(hn:n≤320)(ho:Hid (o.length=n))(hz:Hid (∀ s,o.getD s 0=0))
 (hsl:Hid (syms.length=N)) (hnd:Hid syms.Nodup) (hin:Hid (∀ x∈syms,∃ s:Nat,x=s∧s<n)) (hpow:Hid (N≤2^L)) (he:er=0) (hR:Hid (outF syms (cntF base (L-1) (2*N-2)) o=R)) (hr:Hid (Rd w 1 v n (nums F))) (hF:Hid (∀ c∈base,c.w≤4294967296))
 (z0 z3 z4 z5 z6 z8 z9 z11 z12 z13 z14 z15 z16 z17 z18 z19 z20 z21 z22 z23 z24 z25 z26 z27 z28 z29 z30 z31 z32 z33 z34 z35 z36 z37 z38 z39 z40 z41 z42 z43 z44 z45 z46 z47 z48 z49 z50 z51 z52 z53 z54 z55 z56 z57 z58 z59 z60 z61 z62 z63 z64 z65 z66 z67 z68 z69 z70 z71 z72 z73 z74 z75 z76 z77 z78 z79 z80 z81 z82 z83 z84 z85 z86 z87 z88 z89 z90 z91 z92 z93 z94 z95 z96 z97 z98 z99 z100 z101 z102 z103 z104 z105 z106 z107 z108 z109 z110 z111 z112 z113 z114 z115 z116 z117 z118 z119 z120 z121 z122 z123 z124 z125 z126 z127 z128 z129 z130 z131 z132 z133 z134 z135 z136 z137 z138 z139 z140 z141 z142 z143 z144 z145 z146 z147 z148:Value)
 (H:Own w wr (slc 3 1 (.slice (some ⟨og,0,none⟩) n oc) n (nums o)::slc 3 1 (.slice (some ⟨sg,0,none⟩) N sc) N (nums syms)::blk B (.cells #[v] 34)::[])) :
 Code.wp Tryz.prog (lenTail 22) (bodyPost Tryz.prog Tryz.f271 (Ret fun r w'=>∃ ov,r=.tuple #[ov,.int .i64 er]∧Own w w' [slc 3 1 ov n (nums R)]))
  ⟨#[z0,.int .i64 L,.pointer (some ⟨B,0,none⟩),z3,z4,z5,z6,.slice (some ⟨sg,0,none⟩) N sc,z8,z9,.slice (some ⟨og,0,none⟩) n oc,z11,z12,z13,z14,z15,z16,z17,z18,z19,z20,z21,z22,z23,z24,z25,z26,z27,z28,z29,z30,z31,z32,z33,z34,z35,z36,z37,z38,z39,z40,z41,z42,z43,z44,z45,z46,z47,z48,z49,z50,z51,z52,z53,z54,z55,z56,z57,z58,z59,z60,z61,z62,z63,z64,z65,z66,z67,z68,z69,z70,z71,z72,z73,z74,z75,z76,z77,z78,z79,z80,z81,z82,z83,z84,z85,z86,z87,z88,z89,z90,z91,z92,z93,z94,z95,z96,z97,z98,z99,z100,z101,z102,z103,z104,z105,z106,z107,z108,z109,z110,z111,z112,z113,z114,z115,z116,z117,z118,z119,z120,z121,z122,z123,z124,z125,z126,z127,z128,z129,z130,z131,z132,z133,z134,z135,z136,z137,z138,z139,z140,z141,z142,z143,z144,z145,z146,z147,z148],[]⟩ wr:=by
 conv=>arg 2;whnf
 dsimp only
 have hFl:Hid (F.length=n):=jd (by have:=hr.out.len;rw [Qg] at this;omega)
 obtain ⟨x0,hx0⟩:=Ql (l:=syms) (k:=0) (by have:=hsl.out;omega)
 obtain ⟨z0',_,hz0'⟩:=hin.out x0 (List.mem_of_getElem? hx0)
 obtain ⟨fb,fo,fc,rfl,hc1,hc2⟩:=hr.out.some (by rw [Qg];have:=hFl.out;omega)
 clear hx0
 have H:=(H.nil 431 2)
 have hwL:IntKind.i64.wrap ((L:Int)-1)=(L:Int)-1:=IntWalk.i64_in _ ⟨by omega,by omega⟩
 go_wp2_with fail
 go_loopw [13,80] (fun s13 s80 wx=>∃ k:Nat,s80=.int .i64 k∧k≤N∧Own w wx (slc 431 2 s13 k (rows ce ((syms.take k).map (coinOf F)))::slc 3 1 (.slice (some ⟨og,0,none⟩) n oc) n (nums o)::slc 3 1 (.slice (some ⟨sg,0,none⟩) N sc) N (nums syms)::blk B (.cells #[.slice (some ⟨fb,fo,none⟩) n fc] 34)::[])) (fun _ s80 _=>N-(intOf s80).toNat)
 case atStart=>exact ⟨0,by go_num,by omega,by simpa [rows] using H⟩
 case round=>
  clear H
  obtain ⟨k,rfl,hk,H⟩:=hrel
  by_cases hlt:k<N
  ·obtain ⟨x,hx⟩:=Ql (l:=syms) (k:=k) (by have:=hsl.out;omega)
   obtain ⟨z,rfl,hz2⟩:=hin.out x (List.mem_of_getElem? hx)
   have hst:rows ce ((syms.take k).map (coinOf F))++ce (coinOf F z)=rows ce ((syms.take (k+1)).map (coinOf F)):=by
    rw [List.take_add_one,hx,List.map_append,Ze];rfl
   have c2:=(H.front 2 rfl).rd.cell (Jj hx)
   have c3:=(H.front 3 rfl).cells
   have c1:=(hr.out.old H).cell (j:=z) (Jj (List.getElem?_eq_getElem (by have:=hFl.out;omega)))
   rw [show F[z]'(by have:=hFl.out;omega)=F.getD z 0 by rw [List.getD_eq_getElem?_getD,List.getElem?_eq_getElem (by have:=hFl.out;omega)];rfl] at c1
   rw [Nat.zero_add] at c2
   rw [rows_map_one] at hst
   have HST:=jd hst
   obtain ⟨y,hy⟩:∃ y,Hid (F.getD z 0=y):=⟨_,rfl⟩
   rw [hy.out] at c1 HST
   have hkI:(k:Int)<(N:Int):=by omega
   have hzI:(z:Int)<(n:Int):=by omega
   clear hst hx
   go_wp2_with (at_builtin;refine Qf rfl _ _ rfl Tryz.underlying429 coinInfo rfl (by decide) rfl H (news:=[.int .i64 y,.bool false]) rfl rfl rfl (by simp [Value.oneCell']) (by omega) (by omega) ?_;clear H c1 c2 c3;intro v' w' H;rw [HST.out] at H)
   go_roundw
   case rel=>exact ⟨k+1,by go_num,by omega,H⟩
   case measure=>simp [intOf];omega
  ·obtain rfl:k=N:=by omega
   rw [List.take_of_length_le (by have:=hsl.out;omega),hbe.out] at H
   obtain ⟨bg,bc,rfl,hd1,hd2,-⟩:=H.at (by rw [Qp ce SC.e_length,hN.out];omega)
   obtain ⟨bv,hbv⟩:∃ bv,Hid (Value.slice (some ⟨bg,0,none⟩) k bc=bv):=⟨_,rfl⟩
   have hkI:¬ (k:Int)<(k:Int):=by omega
   go_upto_region 29 with (fail)
   replace H:=(H.alloc (.cells #[.slice (some ⟨bg,0,none⟩) k bc] 429)).slc_mk (xs:=[.slice (some ⟨bg,0,none⟩) k bc]) (n:=1) (size:=1) rfl (Nat.le_refl _) (by decide) rfl rfl
   generalize wr.alloc (.cells #[.slice (some ⟨bg,0,none⟩) k bc] 429)=w0 at *
   generalize wr.heap.size=rg0 at *
   have H:Own w w0 (slc 429 1 (.slice (some ⟨rg0,0,none⟩) (0+1) 1) (0+1) ((List.range (0+1)).map (fun _=>Value.slice (some ⟨bg,0,none⟩) k bc))::slc 3 1 (.slice (some ⟨og,0,none⟩) n oc) n (nums o)::slc 3 1 (.slice (some ⟨sg,0,none⟩) k sc) k (nums syms)::rowPs base (fun _=>Value.slice (some ⟨bg,0,none⟩) k bc) (0+1)):=by
    have e:slc 431 2 (.slice (some ⟨bg,0,none⟩) k bc) k (rows ce base)=slc 431 2 (.slice (some ⟨bg,0,none⟩) k bc) (rowsF base 0).length (rows ce (rowsF base 0)):=by
     show _=slc 431 2 _ base.length _
     rw [hN.out];rfl
    rw [e] at H
    exact (((((H.front 3 rfl).front 3 rfl).front 2 rfl).front 4 rfl).drop)
   go_upto_block 6 with (fail)
   go_cut [16] (fun s16 wx=>∃ (rg rc:Nat) (f:Nat→Value),s16=.slice (some ⟨rg,0,none⟩) L rc∧Hid (f 0=.slice (some ⟨bg,0,none⟩) k bc)∧Own w wx (slc 429 1 (.slice (some ⟨rg,0,none⟩) L rc) L ((List.range L).map f)::slc 3 1 (.slice (some ⟨og,0,none⟩) n oc) n (nums o)::slc 3 1 (.slice (some ⟨sg,0,none⟩) k sc) k (nums syms)::rowPs base f L))
   case first=>
    go_wp2_with fail
    go_loopw [16,97] (fun s16 s97 wx=>∃ (i rg rc:Nat) (f:Nat→Value),s97=.int .i64 i∧i+1≤L∧s16=.slice (some ⟨rg,0,none⟩) (i+1) rc∧Hid (f 0=.slice (some ⟨bg,0,none⟩) k bc)∧Own w wx (slc 429 1 (.slice (some ⟨rg,0,none⟩) (i+1) rc) (i+1) ((List.range (i+1)).map f)::slc 3 1 (.slice (some ⟨og,0,none⟩) n oc) n (nums o)::slc 3 1 (.slice (some ⟨sg,0,none⟩) k sc) k (nums syms)::rowPs base f (i+1))) (fun _ s97 _=>L-(intOf s97).toNat)
    case atStart=>exact ⟨0,rg0,1,_,by go_num,hL1,rfl,jd rfl,H⟩
    case round=>
     clear H
     obtain ⟨i,rg,rc,f,rfl,hi,rfl,hf0,H⟩:=hrel
     by_cases hlt:i+1<L
     ·have hbase:Rd wr 2 (f 0) (rowsF base 0).length (rows ce (rowsF base 0)):=(H.front (3+(i+1-1-0)) (by
       rw [Nat.add_comm 3]
       simp only [List.getElem?_cons_succ]
       exact rowPs_get base f (i+1) 0 (by omega))).rd
      have hlast:Rd wr 2 (f i) (rowsF base i).length (rows ce (rowsF base i)):=(H.front 3 rfl).rd
      have hbl:(rowsF base 0).length=k:=hN.out
      have hll:(rowsF base i).length≤1000:=by have:=rowsF_len_le base i;have:=hN.out;omega
      have hbw:∀ c∈rowsF base i,0≤c.w∧c.w≤1000000000000000000:=fun c hc=>by
       have h1:=rowsF_pos hb.out i c hc
       have h2:=rowsF_le i 4294967296 (by omega) hF.out c hc
       have h3:(2:Int)^i≤2^14:=by
        have:(2:Nat)^i≤2^14:=Nat.pow_le_pow_right (by omega) (by omega)
        exact_mod_cast this
       have h4:=Int.mul_le_mul_of_nonneg_right h3 (show (0:Int)≤4294967296 by omega)
       omega
      obtain ⟨fa,fcp,hfi,hf1,hf2⟩:=hlast.shape
      have hc:=row_any hbase hlast (by rw [hbl];omega) (by rw [hbl];omega) hll hbw
      have e1:rowF (rowsF base 0) (rowsF base i)=rowsF base (i+1):=rfl
      rw [e1] at hc
      obtain ⟨_,_,he,hr1,hr2,-⟩:=H.at (by simp)
      cases he
      have c0:wr.cell? ⟨rg,i,none⟩=some (f i):=by
       have:=H.rd.cell (j:=i) (u:=f i) (by simp)
       simpa using this
      rw [hf0.out] at hc
      rw [hfi] at c0 hc
      have HC:=jd hc
      obtain ⟨ln,hln⟩:∃ ln,(rowsF base i).length=ln:=⟨_,rfl⟩
      rw [hln] at c0 HC
      have hiI:(i:Int)<((L:Int)-1):=by omega
      clear hc hbase hlast hbl hll hbw e1 hfi hln hf1 hf2
      go_wp2_with fail
      refine HC.out.mono ?_
      rintro e w1 ⟨r,rfl,H1⟩
      obtain ⟨ra,rcp,rfl,-⟩:=H1.rd.shape
      have H:=(H.join H1).swap
      clear HC H1 c0
      obtain ⟨rv,hrv⟩:∃ rv,Hid (Value.slice ra (rowsF base (i+1)).length rcp=rv):=⟨_,rfl⟩
      obtain ⟨rl,hrl⟩:∃ rl,Hid ((rowsF base (i+1)).length=rl):=⟨_,rfl⟩
      rw [hrl.out] at hrv H ⊢
      go_wp2_with (at_builtin;refine Qf rfl _ _ rfl Tryz.underlying432 crowInfo rfl (by decide) rfl H (news:=[.slice ra rl rcp]) rfl rfl rfl (by simp [Value.oneCell']) (by omega) (by omega) ?_;clear H;intro v' w' H;obtain ⟨rg2,rc2,rfl,-⟩:=H.at (by simp))
      rw [hrv.out] at H
      go_roundw
      case rel=>
       refine ⟨i+1,rg2,rc2,fun j=>if j=i+1 then rv else f j,by go_num,by omega,rfl,jd (by show (if 0=i+1 then rv else f 0)=_;rw [if_neg (by omega)];exact hf0.out),?_⟩
       have e1:(List.range (i+1)).map f++[rv]=(List.range (i+1+1)).map (fun j=>if j=i+1 then rv else f j):=by
        rw [List.range_succ (n:=i+1),List.map_append]
        congr 1
        ·refine List.map_congr_left fun j hj=>?_
         rw [if_neg (by have:=List.mem_range.1 hj;omega)]
        ·simp
       have e2:rowPs base (fun j=>if j=i+1 then rv else f j) (i+1+1)=slc 431 2 rv (rowsF base (i+1)).length (rows ce (rowsF base (i+1)))::rowPs base f (i+1):=by
        rw [rowPs,if_pos rfl,rowPs_congr base _ f (i+1) fun j hj=>by rw [if_neg (by omega)]]
       rw [← e1,e2]
       rw [hrl.out]
       exact ((((H.front 3 rfl).front 3 rfl).front 2 rfl))
      case measure=>simp [intOf];omega
     ·have hLi:i+1=L:=by omega
      rw [hLi] at H ⊢
      have hiI:¬ (i:Int)<(L:Int)-1:=by omega
      clear hLi hi hlt
      go_wp2_with fail
      go_meet
      exact ⟨rg,rc,f,rfl,hf0,H⟩
   case rest=>
    clear H
    obtain ⟨rg,rc,f,rfl,hf0,H⟩:=hcut
    apply_assumption
    have hb0:=hf0.out
    rw [← hb0]
    exact len_tail33 (n:=n) hb hN h2 hN3 hL1 hL2 hn ho hz hsl hnd hin hpow he hR ⟨_,_,hb0⟩ _ _ _ _ _ _ _ _ _ _ _ _ _ _ _ _ _ _ _ _ _ _ _ _ _ _ _ _ _ _ _ _ _ _ _ _ _ _ _ _ _ _ _ _ _ _ _ _ _ _ _ _ _ _ _ _ _ _ _ _ _ _ _ _ _ _ _ _ _ _ _ _ _ _ _ _ _ _ _ _ _ _ _ _ _ _ _ _ _ _ _ _ _ _ _ _ _ _ _ _ _ _ _ _ _ _ _ _ _ _ _ _ _ _ _ _ _ _ _ _ _ _ _ _ _ _ _ _ _ _ _ _ _ _ _ _ _ _ _ _ _ _ _ _ H
theorem Own.newWtr{w0 w:World}{ps:List Piece}(H:Own w0 w ps):Own w0 (w.alloc (.cells #[.slice none 0 0,.int .i64 0] 221)) (Wtr w.heap.size []::ps):=by
 have h:=(H.alloc (.cells #[.slice none 0 0,.int .i64 0] 221)).nil 5 1
 exact Own.unwtr (n:=0) h.swap rfl rfl rfl
theorem bytes_any{w0 w:World}{ps:List Piece}{g:Nat}{bs:List Bool}(H:Own w0 w (Wtr g bs::ps)) :
 Calls Tryz.prog 129 #[.pointer (some ⟨g,0,none⟩)] w fun e w'=>e=.returned (.string (textOf bs))∧w'=w:=by
 obtain ⟨a,cp,hc1,hc2,H⟩:=H.wtr
 have c0:=H.cells
 have hs:=Js (P:=Tryz.prog) 58 9 Tryz.underlying58 Tryz.underlying5 Tryz.underlying9 (H.front 1 rfl).rd
 rw [show strOfNums (Jg bs)=textOf bs from rfl] at hs
 obtain ⟨n,hn⟩:∃ n,n=Qq bs.length:=⟨_,rfl⟩
 simp only [← hn] at hs c0
 clear hn
 go_enter Tryz.func129,Tryz.ntmps129
 go_wp2
 go_ret
 exact ⟨rfl,rfl⟩
set_option maxHeartbeats 400000 in
theorem align_gen{w0 w:World}{ps:List Piece}{g:Nat}{a:Option Addr}{N cp m:Nat}{xs:List Value}(H:Own w0 w (blk g (.cells #[.slice a N cp,.int .i64 m] 221)::ps))(hN1:N≤35184372088832)(hc1:N≤cp)(hc2:cp≤9223372036854775807) :
 Calls Tryz.prog 126 #[.pointer (some ⟨g,0,none⟩)] w (Ret fun _ w'=>Own w0 w' (blk g (.cells #[.slice a N cp,.int .i64 (8*N:Nat)] 221)::ps)):=by
 have c0:=H.cells
 go_enter Tryz.func126,Tryz.ntmps126
 go_wp2_with (refine Qh rfl _ _ rfl rfl H rfl (by kernel_rfl) (by simp) ?_;clear H c0;intro w3 H)
 go_end0
 refine ⟨_,rfl,?_⟩
 simpa using H
theorem align_any{w0 w:World}{ps:List Piece}{g:Nat}{bs:List Bool}(H:Own w0 w (Wtr g bs::ps))(hl:bs.length≤35184372088832) :
 Calls Tryz.prog 126 #[.pointer (some ⟨g,0,none⟩)] w (Ret fun _ w'=>Own w0 w' (Wtr g (Jv bs)::ps)):=by
 obtain ⟨a,cp,hc1,hc2,H⟩:=H.wtr
 refine (align_gen (xs:=[]) H (by unfold Qq;omega) hc1 hc2).mono ?_
 rintro e w3 ⟨v,rfl,H⟩
 refine ⟨_,rfl,H.unwtr ?_ ?_ ?_⟩
 ·rw [Jh]
 ·rw [Jh];unfold Qq;omega
 ·rw [bytesOf_aligned]
set_option maxHeartbeats 400000 in
theorem text_any{w0 w:World}{ps:List Piece}{g:Nat}{bs:List Bool}(s:ByteArray)(H:Own w0 w (Wtr g bs::ps))(hl:bs.length+s.size≤35184372088000) :
 Calls Tryz.prog 128 #[.pointer (some ⟨g,0,none⟩),.string s] w (Ret fun _ w'=>Own w0 w' (Wtr g (Jv bs++Zy s)::ps)):=by
 go_enter Tryz.func128,Tryz.ntmps128
 go_wp2_with fail
 refine (align_any H (by omega)).mono ?_
 rintro e w1 ⟨_,rfl,H1⟩
 clear H
 obtain ⟨m,hm⟩:∃ m,Hid ((Jv bs).length=m):=⟨_,rfl⟩
 obtain ⟨N,hN⟩:∃ N,Hid (Qq m=N):=⟨_,rfl⟩
 have hmN:m=8*N∧N≤Qq bs.length:=by have h1:=hm.out;have h2:=hN.out;rw [Jh] at h1;unfold Qq at *;omega
 obtain ⟨hmN,hN2⟩:=hmN
 have hN3:N+s.size≤35184372088800:=by unfold Qq at hN2;omega
 obtain ⟨a,cp,hc1,hc2,H⟩:=H1.wtr
 clear H1
 rw [hm.out] at H hc1
 rw [hN.out] at H hc1
 have c0:=H.cells
 go_wp2_with (first
  | (at_builtin;refine wpList_append_str rfl _ _ rfl Tryz.underlying58 Tryz.underlying9 u8Info rfl rfl H.swap rfl (by omega) ?_;clear H c0;intro v' w' H;replace H:=H.swap;obtain ⟨a',c',rfl,h1',h2'⟩:=(H.front 1 rfl).rd.shape)
  | (refine Jd rfl _ _ rfl rfl H rfl (by kernel_rfl) (by simp) ?_;clear H;intro w2 H))
 refine (align_gen (xs:=[]) (m:=m) (by simpa using H) (by omega) h1' h2').mono ?_
 rintro e w3 ⟨_,rfl,H3⟩
 go_wp2
 go_end0
 have hlen:(Jv bs++Zy s).length=8*(N+s.size):=by rw [lJ,hm.out,textBits_length];omega
 refine ⟨_,rfl,H3.unwtr ?_ ?_ ?_⟩
 ·rw [hlen]
 ·rw [hlen];unfold Qq;omega
 ·rw [bytesOf_append _ _ (by rw [hm.out];omega),Zy,bytesOf_nums _ (byteNums_bd s),byteCells_nums]
  simp [u8s]
theorem res_cell1{P:Program}{fn:Func}{p:Tmp}{ty:TypeId}(h:fn.results=#[.cell p ty])(tmps:Array Value)(w:World)(g:Nat)(v:Value)
 (hp:tmps.getD p undef=.pointer (some ⟨g,0,none⟩)) (hl:(loadVar ty ⟨g,0,none⟩).run P w=.ok v w):(results fn tmps).run P w=.ok v w:=by
 have hp':tmps[p]?.getD undef=.pointer (some ⟨g,0,none⟩):=by simpa using hp
 simp only [results,h]
 simp [hp',asAddr,hl]
theorem shstore_whole(a b:List Value)(h:b.length=a.length):(a.toArray.toList.take 0++b++a.toArray.toList.drop (0+b.length)).toArray=b.toArray:=by
 simp [h]
theorem w64Info(cs:List Int)(h:cs.length=64):(Tryz.prog.info? 314).map (·.size)=some (wds cs).toArray.size:=by
 rw [List.size_toArray,Qi,h]
 kernel_rfl
section
variable {w0 w:World} {ps:List Piece} {ops:Array Oper} {rest:List Oper} {o:Oper} {a:Act} {Q:Exit→Act→World→Prop}
theorem wpList_load64(hgd:o.guard=none)(x:Operand)(ho:o.op=.load 314 x){g:Nat}(hx:a.eval x=.pointer (some ⟨g,0,none⟩)){cs:List Int}(hl:cs.length=64)(H:Own w0 w (blk g (.cells (wds cs).toArray 314)::ps))
 (h:wpList Tryz.prog ops Q rest (a.put o.dst (.agg (wds cs).toArray)) w):wpList Tryz.prog ops Q (o::rest) a w:=
 wpList_load_row hgd 314 x ho g hx 314 (wds cs).toArray (0,0) _ H.block.1 Tryz.underlying314 rfl (w64Info cs hl) h
theorem wpList_store64(hgd:o.guard=none)(x y:Operand)(ho:o.op=.store 314 x y){g:Nat}(hx:a.eval x=.pointer (some ⟨g,0,none⟩)){cs ds:List Int}(hl:cs.length=64)(hd:ds.length=64)
 (H:Own w0 w (blk g (.cells (wds cs).toArray 314)::ps)) (hv:a.eval y=.agg (wds ds).toArray)
 (h:∀ w',Own w0 w' (blk g (.cells (wds ds).toArray 314)::ps)→wpList Tryz.prog ops Q rest (a.put o.dst undef) w'):wpList Tryz.prog ops Q (o::rest) a w:=
 Qe hgd x y ho hx H hv (by have:=w64Info ds hd;rw [List.size_toArray] at this;exact this) (by rw [List.size_toArray,Qi,Qi,hl,hd];omega) (wds_one ds) (shstore_whole _ _ (by rw [Qi,Qi,hl,hd])) h
end
def wordB(b:List Int)(i:Nat):Int:=bits .or .u32 (bits .or .u32 (bits .or .u32 (IntKind.u32.wrap (IntKind.u32.wrap (b.getD (4*i) 0)*16777216)) (IntKind.u32.wrap (IntKind.u32.wrap (b.getD (4*i+1) 0)*65536))) (IntKind.u32.wrap (IntKind.u32.wrap (b.getD (4*i+2) 0)*256))) (IntKind.u32.wrap (b.getD (4*i+3) 0))
def w1F(b:List Int):Nat→List Int
 | 0=>List.replicate 64 0
 | k+1=>(w1F b k).set k (wordB b k)
theorem w1F_length(b:List Int):∀ k,(w1F b k).length=64:=by
 intro k
 induction k with
 | zero=>simp [w1F]
 | succ k ih=>rw [w1F,List.length_set,ih]
def nextA(x:Int):Int:=bits .xor .u32 (bits .xor .u32 (turnF x 7) (turnF x 18)) (x/8)
def nextB(x:Int):Int:=bits .xor .u32 (bits .xor .u32 (turnF x 17) (turnF x 19)) (x/1024)
def nextW(l:List Int)(i:Nat):Int:=IntKind.u32.wrap (IntKind.u32.wrap (IntKind.u32.wrap (l.getD (i-16) 0+nextA (l.getD (i-15) 0))+l.getD (i-7) 0)+nextB (l.getD (i-2) 0))
def w2F(b:List Int):Nat→List Int
 | 0=>w1F b 16
 | k+1=>(w2F b k).set (16+k) (nextW (w2F b k) (16+k))
theorem w2F_length(b:List Int):∀ k,(w2F b k).length=64:=by
 intro k
 induction k with
 | zero=>exact w1F_length b 16
 | succ k ih=>rw [w2F,List.length_set,ih]
def wordsF(b:List Int):List Int:=w2F b 48
set_option maxRecDepth 100000 in
set_option maxHeartbeats 25600000 in
theorem shwords_any{w:World}{sv:Value}{b:List Int}(hb:b.length=64)(hr:Rd w 1 sv 64 (b.map (.int .u8))):Calls Tryz.prog 199 #[sv] w (fun r w'=>r=.returned (.agg (wds (wordsF b)).toArray)∧Own w w' []):=by
 obtain ⟨W,hW⟩:∃ W,Hid (wordsF b=W):=⟨_,rfl⟩
 rw [hW.out]
 obtain ⟨sa,sc,rfl,hsc1,hsc2⟩:=hr.shape
 have HC:Hid (∃ bg bo,sa=some ⟨bg,bo,none⟩∧∀ (w':World) (qs:List Piece),Own w w' qs→∀ i,i<64→w'.cell? ⟨bg,bo+i,none⟩=some (.int .u8 (b.getD i 0))):=jd (by
  have hget:∀ i,i<64→(b.map (Value.int .u8))[i]?=some (.int .u8 (b.getD i 0)):=fun i hi=>by
   rw [List.getElem?_map,List.getD_eq_getElem?_getD,List.getElem?_eq_getElem (by omega)];rfl
  obtain ⟨bg,bo,c',e,-⟩:=Rd.some hr (by rw [List.length_map];omega)
  cases e
  exact ⟨bg,bo,rfl,fun w' qs h i hi=>(hr.old h.bare).cell (hget i hi)⟩)
 obtain ⟨bg,bo,rfl,HB⟩:=HC.out
 replace HB:=jd HB
 clear HC hr
 have H:=(Own.start w).alloc2 (.cells #[.int .u32 0,.int .u32 0,.int .u32 0,.int .u32 0,.int .u32 0,.int .u32 0,.int .u32 0,.int .u32 0,.int .u32 0,.int .u32 0,.int .u32 0,.int .u32 0,.int .u32 0,.int .u32 0,.int .u32 0,.int .u32 0,.int .u32 0,.int .u32 0,.int .u32 0,.int .u32 0,.int .u32 0,.int .u32 0,.int .u32 0,.int .u32 0,.int .u32 0,.int .u32 0,.int .u32 0,.int .u32 0,.int .u32 0,.int .u32 0,.int .u32 0,.int .u32 0,.int .u32 0,.int .u32 0,.int .u32 0,.int .u32 0,.int .u32 0,.int .u32 0,.int .u32 0,.int .u32 0,.int .u32 0,.int .u32 0,.int .u32 0,.int .u32 0,.int .u32 0,.int .u32 0,.int .u32 0,.int .u32 0,.int .u32 0,.int .u32 0,.int .u32 0,.int .u32 0,.int .u32 0,.int .u32 0,.int .u32 0,.int .u32 0,.int .u32 0,.int .u32 0,.int .u32 0,.int .u32 0,.int .u32 0,.int .u32 0,.int .u32 0,.int .u32 0] 314) (.cells #[.int .u32 0,.int .u32 0,.int .u32 0,.int .u32 0,.int .u32 0,.int .u32 0,.int .u32 0,.int .u32 0,.int .u32 0,.int .u32 0,.int .u32 0,.int .u32 0,.int .u32 0,.int .u32 0,.int .u32 0,.int .u32 0,.int .u32 0,.int .u32 0,.int .u32 0,.int .u32 0,.int .u32 0,.int .u32 0,.int .u32 0,.int .u32 0,.int .u32 0,.int .u32 0,.int .u32 0,.int .u32 0,.int .u32 0,.int .u32 0,.int .u32 0,.int .u32 0,.int .u32 0,.int .u32 0,.int .u32 0,.int .u32 0,.int .u32 0,.int .u32 0,.int .u32 0,.int .u32 0,.int .u32 0,.int .u32 0,.int .u32 0,.int .u32 0,.int .u32 0,.int .u32 0,.int .u32 0,.int .u32 0,.int .u32 0,.int .u32 0,.int .u32 0,.int .u32 0,.int .u32 0,.int .u32 0,.int .u32 0,.int .u32 0,.int .u32 0,.int .u32 0,.int .u32 0,.int .u32 0,.int .u32 0,.int .u32 0,.int .u32 0,.int .u32 0] 314)
 go_enter Tryz.func199,Tryz.ntmps199
 go_upto_region 2 with (fail)
 generalize (w.alloc _).alloc _=w1 at *
 obtain ⟨gw,hgw⟩:∃ g,w.heap.size+1=g:=⟨_,rfl⟩
 rw [hgw] at H ⊢
 generalize w.heap.size=gr at *
 clear hgw
 replace H:Own w w1 (blk gw (.cells (wds (List.replicate 64 0)).toArray 314)::blk gr (.cells (wds (List.replicate 64 0)).toArray 314)::[]):=H
 go_wp2_with fail
 go_loopw [4,8] (fun _ v8 wx=>∃ (i:Nat),v8=.int .i64 i∧i≤16∧Own w wx (blk gw (.cells (wds (w1F b i)).toArray 314)::blk gr (.cells (wds (List.replicate 64 0)).toArray 314)::[])) (fun _ v8 _=>16-(intOf v8).toNat)
 case atStart=>exact ⟨0,by go_num,by omega,H⟩
 case round=>
  clear H
  obtain ⟨i,rfl,hi,H⟩:=hrel
  obtain ⟨l,hl⟩:∃ l,Hid (w1F b i=l):=⟨_,rfl⟩
  have hll:Hid (l.length=64):=jd (by rw [← hl.out,w1F_length])
  rw [hl.out] at H
  by_cases hi16:i<16
  ·have hiI:(i:Int)<16:=by omega
   have hi64:(i:Int)<64:=by omega
   have hi64':i<64:=by omega
   have w0:IntKind.i64.wrap (4*(i:Int))=4*(i:Int):=IntWalk.i64_in _ ⟨by omega,by omega⟩
   have w1:IntKind.i64.wrap (4*(i:Int)+1)=4*(i:Int)+1:=IntWalk.i64_in _ ⟨by omega,by omega⟩
   have w2:IntKind.i64.wrap (4*(i:Int)+2)=4*(i:Int)+2:=IntWalk.i64_in _ ⟨by omega,by omega⟩
   have w3:IntKind.i64.wrap (4*(i:Int)+3)=4*(i:Int)+3:=IntWalk.i64_in _ ⟨by omega,by omega⟩
   go_upto_region 5 with (fail)
   have x0:(4:Int)*(i:Int)<64:=by omega
   have x1:(4:Int)*(i:Int)+1<64:=by omega
   have x2:(4:Int)*(i:Int)+2<64:=by omega
   have x3:(4:Int)*(i:Int)+3<64:=by omega
   have y0:(0:Int)≤(4:Int)*(i:Int):=by omega
   have y1:(0:Int)≤(4:Int)*(i:Int)+1:=by omega
   have y2:(0:Int)≤(4:Int)*(i:Int)+2:=by omega
   have y3:(0:Int)≤(4:Int)*(i:Int)+3:=by omega
   have t0:((4:Int)*(i:Int)).toNat=4*i:=by omega
   have t1:((4:Int)*(i:Int)+1).toNat=4*i+1:=by omega
   have t2:((4:Int)*(i:Int)+2).toNat=4*i+2:=by omega
   have t3:((4:Int)*(i:Int)+3).toNat=4*i+3:=by omega
   refine Qa (fun wx=>Own w wx (blk gw (.cells (wds l).toArray 314)::blk gr (.cells (wds (List.replicate 64 0)).toArray 314)::[])) 35 (by kernel_rfl) (by kernel_rfl) H.drew ?_
   simp only [List.take_succ_cons,List.take_zero,List.drop_succ_cons,List.drop_zero]
   repeat
    first
    | (refine calm_value (v:=?_) (by decide) rfl (fun σ w1 hS=>?_) ?_
       rotate_left
       ·have c0:=HB.out _ _ hS (4*i) (by omega);have c1:=HB.out _ _ hS (4*i+1) (by omega);have c2:=HB.out _ _ hS (4*i+2) (by omega);have c3:=HB.out _ _ hS (4*i+3) (by omega)
        first | (go_simp;rfl) | rfl
       simp only [Act.put,putC])
    | (refine calm_skip (by decide) rfl ?_
       simp only [Act.put,putC])
   refine calm_nil ?_
   intro wd HD
   clear H
   obtain ⟨y,hy⟩:∃ y,Hid (wordB b i=y):=⟨_,rfl⟩
   have hy2:=hy.out
   unfold wordB at hy2
   simp only [List.getD_eq_getElem?_getD] at hy2
   have hnx:Hid (w1F b (i+1)=l.set i y):=jd (by rw [w1F,hl.out,hy.out])
   go_wp2_with (refine Qh rfl _ _ rfl rfl HD rfl (by kernel_rfl) (by simp [wds,hll.out];omega) ?_;clear HD;intro w7 HD;rw [wds_set] at HD)
   go_roundw
   case rel=>exact ⟨i+1,by go_num,by omega,by rw [hnx.out,← hy2];exact HD⟩
   case measure=>simp [intOf];omega
  ·obtain rfl:i=16:=by omega
   rw [← hl.out] at H
   have hnI:¬ ((16:Nat):Int)<16:=by omega
   replace H:Own w wr (blk gw (.cells (wds (w2F b 0)).toArray 314)::blk gr (.cells (wds (List.replicate 64 0)).toArray 314)::[]):=H
   clear hi hi16
   go_wp2_with fail
   go_loopw [5,6,7] (fun v5 _ _ wx=>∃ (j k:Nat),v5=.int .i64 j∧16≤j∧j≤64∧Hid (j=16+k)∧Own w wx (blk gw (.cells (wds (w2F b k)).toArray 314)::blk gr (.cells (wds (List.replicate 64 0)).toArray 314)::[])) (fun v5 _ _ _=>64-(intOf v5).toNat)
   case atStart=>exact ⟨16,0,by go_num,by omega,by omega,jd rfl,H⟩
   case round=>
    clear H
    obtain ⟨j,k,rfl,hj1,hj2,hjk,H⟩:=hrel
    by_cases hj:j<64
    ·have hjI:(j:Int)<64:=by omega
     obtain ⟨l,hl⟩:∃ l,Hid (w2F b k=l):=⟨_,rfl⟩
     have hll:Hid (l.length=64):=jd (by rw [← hl.out,w2F_length])
     rw [hl.out] at H
     have hidx:∀ m:Nat,m≤16→IntKind.i64.wrap ((j:Int)-m)=((j-m:Nat):Int):=fun m hm=>by
      rw [show (j:Int)-m=((j-m:Nat):Int) by omega];exact IntWalk.i64_in _ ⟨by omega,by omega⟩
     have d15:IntKind.i64.wrap ((j:Int)-15)=((j-15:Nat):Int):=hidx 15 (by omega)
     have d2:IntKind.i64.wrap ((j:Int)-2)=((j-2:Nat):Int):=hidx 2 (by omega)
     have d16:IntKind.i64.wrap ((j:Int)-16)=((j-16:Nat):Int):=hidx 16 (by omega)
     have d7:IntKind.i64.wrap ((j:Int)-7)=((j-7:Nat):Int):=hidx 7 (by omega)
     obtain ⟨j15,e15⟩:∃ m,Hid (j-15=m):=⟨_,rfl⟩
     obtain ⟨j2,e2⟩:∃ m,Hid (j-2=m):=⟨_,rfl⟩
     obtain ⟨j16,e16⟩:∃ m,Hid (j-16=m):=⟨_,rfl⟩
     obtain ⟨j7,e7⟩:∃ m,Hid (j-7=m):=⟨_,rfl⟩
     rw [e15.out] at d15
     rw [e2.out] at d2
     rw [e16.out] at d16
     rw [e7.out] at d7
     have b15:j15<64:=by have:=e15.out;omega
     have b2:j2<64:=by have:=e2.out;omega
     have b16:j16<64:=by have:=e16.out;omega
     have b7:j7<64:=by have:=e7.out;omega
     have i15:(j15:Int)<64:=by omega
     have i2:(j2:Int)<64:=by omega
     have i16:(j16:Int)<64:=by omega
     have i7:(j7:Int)<64:=by omega
     clear hidx
     have HX:Hid (∀ m:Nat,m<64→∀ (w':World) (qs:List Piece),Own w w' (blk gw (.cells (wds l).toArray 314)::qs)→w'.cell? ⟨gw,m,none⟩=some (.int .u32 (l.getD m 0))):=jd fun m hm w' qs h=>by rw [h.cells];exact wds_get (by rw [hll.out];exact hm)
     have HC:Hid (∀ (w':World) (qs:List Piece),Own w w' (blk gw (.cells (wds l).toArray 314)::qs)→w'.cell? ⟨gw,j15,none⟩=some (.int .u32 (l.getD j15 0))∧w'.cell? ⟨gw,j2,none⟩=some (.int .u32 (l.getD j2 0))∧w'.cell? ⟨gw,j16,none⟩=some (.int .u32 (l.getD j16 0))∧w'.cell? ⟨gw,j7,none⟩=some (.int .u32 (l.getD j7 0))):=jd fun w' qs h=>⟨HX.out j15 b15 _ _ h,HX.out j2 b2 _ _ h,HX.out j16 b16 _ _ h,HX.out j7 b7 _ _ h⟩
     have hnx0:Hid (w2F b (k+1)=l.set j (IntKind.u32.wrap (IntKind.u32.wrap (IntKind.u32.wrap (l.getD j16 0+nextA (l.getD j15 0))+l.getD j7 0)+nextB (l.getD j2 0)))):=jd (by
      rw [w2F,hl.out,← hjk.out,← e16.out,← e15.out,← e7.out,← e2.out];rfl)
     obtain ⟨x15,f15⟩:∃ x,Hid (l.getD j15 0=x):=⟨_,rfl⟩
     obtain ⟨x2,f2⟩:∃ x,Hid (l.getD j2 0=x):=⟨_,rfl⟩
     obtain ⟨x16,f16⟩:∃ x,Hid (l.getD j16 0=x):=⟨_,rfl⟩
     obtain ⟨x7,f7⟩:∃ x,Hid (l.getD j7 0=x):=⟨_,rfl⟩
     rw [f15.out,f2.out,f16.out,f7.out] at HC hnx0
     clear HX f15 f2 f16 f7 e15 e2 e16 e7
     have T:Hid (∀ (m:Nat) (x:Int) (wx:World) (qs:List Piece),1≤m∧m≤31→Own w wx qs→Calls Tryz.prog 200 #[.int .u32 x,.int .i64 m] wx (fun r w'=>r=.returned (.int .u32 (turnF x m))∧Own w w' qs)):=jd fun m x wx qs hm h=>(shturn_any x m hm wx).mono fun e w' h2=>⟨h2.1,h.join h2.2⟩
     go_upto_region 10 with (fail)
     refine Qa (fun wx=>Own w wx (blk gw (.cells (wds l).toArray 314)::blk gr (.cells (wds (List.replicate 64 0)).toArray 314)::[])) 17 (by kernel_rfl) (by kernel_rfl) H.drew ?_
     simp only [List.take_succ_cons,List.take_zero,List.drop_succ_cons,List.drop_zero]
     repeat
      first
      | (refine calm_value (v:=?_) (by decide) rfl (fun σ w1 hS=>?_) ?_
         rotate_left
         ·obtain ⟨c15,c2,c16,c7⟩:=HC.out _ _ hS
          first | (go_simp;rfl) | rfl
         simp only [Act.put,putC])
      | (refine calm_skip (by decide) rfl ?_
         simp only [Act.put,putC])
     refine calm_call (v:=.int .u32 (turnF x15 7)) (by decide) rfl (fun w1=>(by go_simp)) (fun σ w1 hS=>T.out 7 x15 w1 _ (by omega) hS) ?_
     simp only [Act.put,putC]
     repeat
      first
      | (refine calm_value (v:=?_) (by decide) rfl (fun σ w1 hS=>?_) ?_
         rotate_left
         ·obtain ⟨c15,c2,c16,c7⟩:=HC.out _ _ hS
          first | (go_simp;rfl) | rfl
         simp only [Act.put,putC])
      | (refine calm_skip (by decide) rfl ?_
         simp only [Act.put,putC])
     refine calm_call (v:=.int .u32 (turnF x15 18)) (by decide) rfl (fun w1=>(by go_simp)) (fun σ w1 hS=>T.out 18 x15 w1 _ (by omega) hS) ?_
     simp only [Act.put,putC]
     repeat
      first
      | (refine calm_value (v:=?_) (by decide) rfl (fun σ w1 hS=>?_) ?_
         rotate_left
         ·obtain ⟨c15,c2,c16,c7⟩:=HC.out _ _ hS
          first | (go_simp;rfl) | rfl
         simp only [Act.put,putC])
      | (refine calm_skip (by decide) rfl ?_
         simp only [Act.put,putC])
     refine calm_nil ?_
     intro wd HD
     clear H
     go_upto_region 11 with (fail)
     refine Qa (fun wx=>Own w wx (blk gw (.cells (wds l).toArray 314)::blk gr (.cells (wds (List.replicate 64 0)).toArray 314)::[])) 17 (by kernel_rfl) (by kernel_rfl) HD.drew ?_
     simp only [List.take_succ_cons,List.take_zero,List.drop_succ_cons,List.drop_zero]
     repeat
      first
      | (refine calm_value (v:=?_) (by decide) rfl (fun σ w1 hS=>?_) ?_
         rotate_left
         ·obtain ⟨c15,c2,c16,c7⟩:=HC.out _ _ hS
          first | (go_simp;rfl) | rfl
         simp only [Act.put,putC])
      | (refine calm_skip (by decide) rfl ?_
         simp only [Act.put,putC])
     refine calm_call (v:=.int .u32 (turnF x2 17)) (by decide) rfl (fun w1=>(by go_simp)) (fun σ w1 hS=>T.out 17 x2 w1 _ (by omega) hS) ?_
     simp only [Act.put,putC]
     repeat
      first
      | (refine calm_value (v:=?_) (by decide) rfl (fun σ w1 hS=>?_) ?_
         rotate_left
         ·obtain ⟨c15,c2,c16,c7⟩:=HC.out _ _ hS
          first | (go_simp;rfl) | rfl
         simp only [Act.put,putC])
      | (refine calm_skip (by decide) rfl ?_
         simp only [Act.put,putC])
     refine calm_call (v:=.int .u32 (turnF x2 19)) (by decide) rfl (fun w1=>(by go_simp)) (fun σ w1 hS=>T.out 19 x2 w1 _ (by omega) hS) ?_
     simp only [Act.put,putC]
     repeat
      first
      | (refine calm_value (v:=?_) (by decide) rfl (fun σ w1 hS=>?_) ?_
         rotate_left
         ·obtain ⟨c15,c2,c16,c7⟩:=HC.out _ _ hS
          first | (go_simp;rfl) | rfl
         simp only [Act.put,putC])
      | (refine calm_skip (by decide) rfl ?_
         simp only [Act.put,putC])
     refine calm_nil ?_
     intro we HE
     clear HD
     go_upto_region 12 with (fail)
     refine Qa (fun wx=>Own w wx (blk gw (.cells (wds l).toArray 314)::blk gr (.cells (wds (List.replicate 64 0)).toArray 314)::[])) 15 (by kernel_rfl) (by kernel_rfl) HE.drew ?_
     simp only [List.take_succ_cons,List.take_zero,List.drop_succ_cons,List.drop_zero]
     repeat
      first
      | (refine calm_value (v:=?_) (by decide) rfl (fun σ w1 hS=>?_) ?_
         rotate_left
         ·obtain ⟨c15,c2,c16,c7⟩:=HC.out _ _ hS
          first | (go_simp;rfl) | rfl
         simp only [Act.put,putC])
      | (refine calm_skip (by decide) rfl ?_
         simp only [Act.put,putC])
     refine calm_nil ?_
     intro wf HF
     clear HE
     go_wp2_with (refine Qh rfl _ _ rfl rfl HF rfl (by kernel_rfl) (by simp [wds,hll.out];omega) ?_;clear HF;intro w7 HF;rw [wds_set] at HF)
     go_roundw
     case rel=>exact ⟨j+1,k+1,by go_num,by omega,by omega,jd (by have:=hjk.out;omega),by rw [hnx0.out];exact HF⟩
     case measure=>simp [intOf];omega
    ·obtain rfl:j=64:=by omega
     have hnI:¬ ((64:Nat):Int)<64:=by omega
     obtain rfl:k=48:=by have:=hjk.out;omega
     have hl:Hid (W.length=64):=jd (by rw [← hW.out];exact w2F_length b 48)
     rw [show w2F b 48=W from hW.out] at H
     clear hjk hj hj1 hj2
     obtain ⟨z,hz⟩:∃ z,Hid (List.replicate 64 (0:Int)=z):=⟨_,rfl⟩
     have hzl:z.length=64:=by rw [← hz.out,List.length_replicate]
     rw [hz.out] at H
     replace hz:=hl
     have hl:=hl.out
     clear hz
     go_upto_region 13 with (fail)
     refine wp_region_list ?_
     refine wpList_load64 rfl _ rfl rfl hl H ?_
     simp only [Act.put,putC]
     refine wpList_store64 rfl _ _ rfl rfl hzl hl H.swap rfl ?_
     clear H
     intro w9 H
     refine wpList_nil ?_
     simp only [Act.put]
     refine (show ∀ (a:Act) (w:World),Code.wp Tryz.prog Code.ret _ a w→_ by assumption) _ _ ?_
     refine wp_ret ?_
     have hl9:(loadVar 314 ⟨gr,0,none⟩).run Tryz.prog w9=.ok (.agg (wds W).toArray) w9:=run_loadVar_row w9 gr _ _ _ _ _ H.block.1 Tryz.underlying314 rfl (w64Info W hl)
     refine bodyPost_ret (v:=.agg (wds W).toArray) (res_cell1 (p:=2) (ty:=314) rfl _ _ gr _ rfl hl9) rfl ?_
     exact ⟨rfl,H.bare⟩
end Go.Proofs.YthekdeikodppkaaGreatDoor
namespace Go.Proofs
open Go.Shelf Go.RowKit
def Tryz.layTrim_ren:Go.Shelf.Ren:=⟨fun | 160=>204 | 232=>280 | 231=>279 | 227=>281 | 234=>283 | 233=>282 | 236=>285 | 235=>284 | 228=>333 | 271=>336 | 151=>335 | 197=>334 | 120=>364 | 152=>363 | 260=>362 | 137=>381 | 119=>382 | 224=>354 | 225=>353 | 217=>352 | 266=>376 | n=>n,fun | 9=>9 | 4=>4 | 3=>3 | 5=>5 | 117=>398 | 116=>397 | 0=>0 | 124=>401 | 21=>21 | 105=>436 | 46=>81 | 119=>471 | 139=>474 | 138=>473 | n=>n,fun | 3=>1 | 4=>2 | n=>n⟩
theorem Tryz.layTrim:Go.Proofs.Lays.n160 Tryz.prog Tryz.layTrim_ren:={
 mixed:=by kernel_rfl
 f119:=Tryz.func382.trans (congrArg some (by kernel_rfl))
 f120:=Tryz.func364.trans (congrArg some (by kernel_rfl))
 f137:=Tryz.func381.trans (congrArg some (by kernel_rfl))
 f151:=Tryz.func335.trans (congrArg some (by kernel_rfl))
 f152:=Tryz.func363.trans (congrArg some (by kernel_rfl))
 f160:=Tryz.func204.trans (congrArg some (by kernel_rfl))
 f197:=Tryz.func334.trans (congrArg some (by kernel_rfl))
 f217:=Tryz.func352.trans (congrArg some (by kernel_rfl))
 f224:=Tryz.func354.trans (congrArg some (by kernel_rfl))
 f225:=Tryz.func353.trans (congrArg some (by kernel_rfl))
 f227:=Tryz.func281.trans (congrArg some (by kernel_rfl))
 f228:=Tryz.func333.trans (congrArg some (by kernel_rfl))
 f231:=Tryz.func279.trans (congrArg some (by kernel_rfl))
 f232:=Tryz.func280.trans (congrArg some (by kernel_rfl))
 f233:=Tryz.func282.trans (congrArg some (by kernel_rfl))
 f234:=Tryz.func283.trans (congrArg some (by kernel_rfl))
 f235:=Tryz.func284.trans (congrArg some (by kernel_rfl))
 f236:=Tryz.func285.trans (congrArg some (by kernel_rfl))
 f260:=Tryz.func362.trans (congrArg some (by kernel_rfl))
 f266:=Tryz.func376.trans (congrArg some (by kernel_rfl))
 f271:=Tryz.func336.trans (congrArg some (by kernel_rfl))
 t0:=Tryz.underlying0
 a0:=Tryz.isAgg0
 z0:=Tryz.sizeOf0
 v0:=Tryz.zeroValue0
 t3:=Tryz.underlying3
 a3:=Tryz.isAgg3
 z3:=Tryz.sizeOf3
 v3:=Tryz.zeroValue3
 t4:=Tryz.underlying4
 a4:=Tryz.isAgg4
 z4:=Tryz.sizeOf4
 v4:=Tryz.zeroValue4
 t5:=Tryz.underlying5
 a5:=Tryz.isAgg5
 z5:=Tryz.sizeOf5
 v5:=Tryz.zeroValue5
 t9:=Tryz.underlying9
 a9:=Tryz.isAgg9
 z9:=Tryz.sizeOf9
 v9:=Tryz.zeroValue9
 t21:=Tryz.underlying21
 a21:=Tryz.isAgg21
 z21:=Tryz.sizeOf21
 v21:=Tryz.zeroValue21
 t46:=Tryz.underlying81
 a46:=Tryz.isAgg81
 z46:=Tryz.sizeOf81
 v46:=Tryz.zeroValue81
 t105:=Tryz.underlying436
 a105:=Tryz.isAgg436
 z105:=Tryz.sizeOf436
 v105:=Tryz.zeroValue436
 t116:=Tryz.underlying397
 a116:=Tryz.isAgg397
 z116:=Tryz.sizeOf397
 t117:=Tryz.underlying398
 a117:=Tryz.isAgg398
 z117:=Tryz.sizeOf398
 v117:=Tryz.zeroValue398
 t119:=Tryz.underlying471
 a119:=Tryz.isAgg471
 z119:=Tryz.sizeOf471
 t124:=Tryz.underlying401
 a124:=Tryz.isAgg401
 z124:=Tryz.sizeOf401
 v124:=Tryz.zeroValue401
 t138:=Tryz.underlying473
 a138:=Tryz.isAgg473
 z138:=Tryz.sizeOf473
 v138:=Tryz.zeroValue473
 t139:=Tryz.underlying474
 a139:=Tryz.isAgg474
 z139:=Tryz.sizeOf474
 v139:=Tryz.zeroValue474
 g3:=by kernel_rfl
 g4:=by kernel_rfl }
end Go.Proofs
namespace Go.Proofs.YthekdeikodppkaaGreatDoor
open Go.RowKit
noncomputable section
theorem trimB_zero(n:Nat):Lib.trimB (List.replicate n (0:UInt8)) 0=[]:=by
 have h:∀ m:Nat,(List.replicate m (0:UInt8)).dropWhile (· == 0)=[]:=by
  intro m
  induction m with
  | zero=>rfl
  | succ m ih=>rw [List.replicate_succ,List.dropWhile_cons];simpa using ih
 unfold Lib.trimB Lib.trimLeftB Lib.trimRightB
 rw [List.reverse_replicate,h];rfl
def prTrim:Prims:=onPr 204 fun args h=>match args with
 | [.txt [.zr n],.txt [.by [0]]]=>if Nat.ble n 100000 then some (.ok (.txt [],h)) else none
 | _=>none
theorem prTrim_ok{F:Funs}:Qc F Tryz.prog prTrim:=by
 refine Qc.on fun args h v h' hr e w0 w vs H hv=>?_
 split at hr
 rotate_left
 ·cases hr
 rename_i n
 split at hr
 rotate_left
 ·cases hr
 rename_i hn
 cases hr
 obtain ⟨v1,l1,hl1,g1,v2,l2,hl2,g2,g3⟩:=hv
 have e2:=g2.2
 have e1:=g1.2
 have e3:l2=[]:=g3
 subst e3;subst hl2
 have hvs:vs=#[v1,v2]:=by apply Array.ext';exact hl1
 subst hvs
 have hs:v1=.string (Qb (List.replicate n 0)):=by rw [e1];simp [den,Ck.den]
 have hs2:v2=.string ⟨#[0]⟩:=by rw [e2];rfl
 subst hs;subst hs2
 have hn':n≤100000:=by simpa using hn
 have:=Any.strings_Trim_one (P:=Tryz.prog) Tryz.layTrim (Qb (List.replicate n 0)) 0 (by decide) w (by simp [Qb,ByteArray.size];omega)
 refine this.mono ?_
 rintro en w' ⟨rfl,hb⟩
 refine ⟨_,rfl,e,Env.le_refl _,⟨trivial,?_⟩,?_⟩
 ·have:(Qb (List.replicate n (0:UInt8))).data.toList=List.replicate n 0:=by simp [Qb]
  rw [this,trimB_zero]
  simp [den,Qb]
 ·rcases hb with rfl | rfl
  ·exact H
  ·exact H.same rfl rfl rfl rfl
end
end Go.Proofs.YthekdeikodppkaaGreatDoor
