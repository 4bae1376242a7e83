/-
  Texts of this claim, one behind the other: The stable sort, whatever the elements; The stable sort of slices of ints; The stable sort of slices of coins; The stable sort of slices of coins; The stable sort of slices of coins; The stable sort of slices of coins; The stable sort of slices of coins; The stable sort of slices of coins; The stable sort of slices of coins; huff; huff; The stable sort of slices of files; The stable sort of slices of files; The stable sort of slices of files; The stable sort of slices of files; The stable sort of slices of files; The stable sort of slices of files; The stable sort of slices of files; The stable sort of slices of files; Bits; Bits; huff; Bits; Bits; slices.Repeat.
-/
import Derived.Test.YthekdeikodppkaaGreatDoorKb10
import Derived.Carry
import Derived.Deep.DeepCutAuto
import Derived.Deep.CutBlock
import Derived.Deep.LoopGhost
import Derived.WalkLawsBesides
import Derived.WalkSpells
import Derived.BigQuiet
import Derived.Deep.QuietTactic
import Derived.Test.YthekdeikodppkaaGreatDoorRows
import Derived.Laws.ResultCell
set_option linter.unusedVariables false
namespace Go.Proofs.YthekdeikodppkaaGreatDoor
open Go.RowKit
set_option maxRecDepth 1000000
def T_stable_any(A:Type)(eC:A→List Value)(EL:TypeId)(SZ:Nat)(F_stableCmpFunc:FuncId)(cf:Nat→Value)(Cmps:World→List Piece→Nat→(A→Prop)→(A→Int)→Prop):Prop:=∀ ⦃w0:World⦄ ⦃w:World⦄ ⦃ps:List Piece⦄ ⦃ok:A→Prop⦄ ⦃key:A→Int⦄ ⦃B:Nat⦄ ⦃g c N:Nat⦄ ⦃l:List A⦄ (hcmp:Cmps w0 ps B ok key) (hok:∀ x∈l,ok x) (hN:N=l.length) (hNb:N≤1000000) (H:Own w0 w (slc EL SZ (.slice (some ⟨g,0,none⟩) N c) N (rows eC l)::ps)),Calls Tryz.prog F_stableCmpFunc #[.slice (some ⟨g,0,none⟩) N c,.int .i64 N,cf B] w (Ret fun _ w'=>Own w0 w' (slc EL SZ (.slice (some ⟨g,0,none⟩) N c) N (rows eC (sortF key l))::ps))
theorem mk_stable_any(A:Type)(eC:A→List Value)(EL:TypeId)(SZ:Nat)(F_stableCmpFunc:FuncId)(cf:Nat→Value)(Cmps:World→List Piece→Nat→(A→Prop)→(A→Int)→Prop)(h:T_stable_any A eC EL SZ F_stableCmpFunc cf Cmps:=by
 unfold T_stable_any
 intro w0 w ps ok key B g c N l hcmp hok hN hNb H
 have HN:=jd hN
 have HC:=jd hcmp
 have HOK:=jd hok
 clear hN hcmp hok
 go_enter fustableCmpFunc,ntstableCmpFunc
 go_upto_block 0 with (fail)
 go_cut [7] (fun s7 wx=>∃ (a:Nat) (P R:List A),s7=.int .i64 a∧a≤N∧N<a+20∧Hid (P.length=a)∧Hid (StEq key l (P++R))∧Hid (FullC key 20 P)∧Own w0 wx ((sL g N c (P++R))::ps))
 case first=>
  go_wp2_with fail
  go_loopw [7,8] (fun s7 s8 wx=>∃ (a:Nat) (P R:List A),s7=.int .i64 a∧s8=.int .i64 ((a:Int)+20)∧a≤N∧Hid (P.length=a)∧Hid (StEq key l (P++R))∧Hid (FullC key 20 P)∧Own w0 wx ((sL g N c (P++R))::ps)) (fun s7 _ _=>N-(intOf s7).toNat)
  case atStart=>exact ⟨0,[],l,rfl,by go_num,by omega,jd rfl,jd (StEq.refl _),jd .nil,by simpa using H⟩
  case round=>
   clear H
   obtain ⟨a,P,R,rfl,rfl,ha,hP,hl,hF,H⟩:=hrel
   have hlen:Hid (P.length+R.length=N):=jd (by have:=hl.out.length;rw [lJ] at this;have:=HN.out;omega)
   by_cases hab:a+20≤N
   ·obtain ⟨S,R2,hRs,hS⟩:=split_at R 20 (by have:=hlen.out;have:=hP.out;omega)
    subst hRs
    have e1:P++(S++R2)=P++S++R2:=by simp
    rw [e1] at H
    obtain ⟨bn,hbn⟩:∃ bn,bn=a+20:=⟨_,rfl⟩
    have hbI:((a:Int)+20)=(bn:Int):=by omega
    have hbN:(bn:Int)≤(N:Int):=by omega
    have hNl:N=(P++S++R2).length:=by rw [← e1,lJ];exact hlen.out.symm
    have hi:=insert_any (p:=P) (s:=S) (q:=R2) (a:=a) (b:=bn) HC.out (fun v hv=>HOK.out v (hl.out.symm.mem (by simp [hv]))) hP.out.symm (by omega) hNl hNb H
    have HI:=jd hi
    have hbn2:Hid (bn=a+20):=jd hbn
    have hb20:a+20≤bn:=by omega
    have hbN2:bn≤N:=by omega
    have HS:=jd hS
    clear hi hbn hNl e1 hab hlen hS
    go_wp2_with fail
    refine HI.out.mono ?_
    rintro e w3 ⟨_,rfl,s',hs',he',H3⟩
    have hsl:s'.length=20:=by rw [← he'.length];exact HS.out
    have hl2:Hid (StEq key l ((P++s')++R2)):=jd (hl.out.trans (by
     have:=((StEq.refl (key:=key) P).app he').app (StEq.refl R2)
     simpa using this))
    have hF2:Hid (FullC key 20 (P++s')):=jd (hF.out.snoc hsl hs')
    have hP2:Hid ((P++s').length=bn):=jd (by rw [lJ,hsl,hP.out];exact hbn2.out.symm)
    clear HI H he' hs' hsl
    go_wp2
    go_roundw
    case rel=>exact ⟨bn,P++s',R2,by go_num,by go_num,by omega,hP2,hl2,hF2,H3⟩
    case measure=>simp [intOf];omega
   ·have hnb:¬ ((a:Int)+20≤(N:Int)):=by omega
    go_wp2
    go_meet
    exact ⟨a,P,R,rfl,ha,by omega,hP,hl,hF,H⟩
 case rest=>
  clear H
  obtain ⟨a,P,R,rfl,ha,ha2,hP,hl,hF,H⟩:=hcut
  have hlen:Hid (P.length+R.length=N):=jd (by have:=hl.out.length;rw [lJ] at this;have:=HN.out;omega)
  have e1:P++R=P++R++[]:=by simp
  rw [e1] at H
  have hNl:N=(P++R++[]).length:=by rw [← e1,lJ];exact hlen.out.symm
  have hi:=insert_any (p:=P) (s:=R) (q:=[]) (a:=a) (b:=N) HC.out (fun v hv=>HOK.out v (hl.out.symm.mem (by simp [hv]))) hP.out.symm (by have:=hlen.out;have:=hP.out;omega) hNl hNb H
  have HI:=jd hi
  clear hi hNl e1
  go_upto_region 6 with (fail)
  go_wp2_with fail
  refine HI.out.mono ?_
  rintro e w3 ⟨_,rfl,R',hs',he',H3⟩
  have hRl:Hid (R'.length+a=N):=jd (by rw [← he'.length];have:=hlen.out;have:=hP.out;omega)
  have hl2:Hid (StEq key l (P++R')):=jd (hl.out.trans ((StEq.refl (key:=key) P).app he'))
  rw [List.append_nil] at H3
  have HS':=jd hs'
  clear HI H he' hs' hlen hl
  go_wp2_with fail
  go_loopw [6] (fun s6 wx=>∃ (bs:Nat) (P R:List A),s6=.int .i64 bs∧20≤bs∧bs≤2*N+20∧Hid (StEq key l (P++R))∧Hid (FullC key bs P)∧Hid (Srt key R)∧Hid (R.length<bs)∧Own w0 wx ((sL g N c (P++R))::ps)) (fun s6 _=>2*N+21-(intOf s6).toNat)
  case atStart=>exact ⟨20,P,R',by go_num,by omega,by omega,hl2,hF,HS',jd (by have:=hRl.out;omega),H3⟩
  case round=>
   clear H3 hl2 hF HS' hRl hP ha ha2
   obtain ⟨bs,P,R,rfl,hb1,hb2,hl,hF,hS,hRb,H⟩:=hrel
   have hlen:Hid (P.length+R.length=N):=jd (by have:=hl.out.length;rw [lJ] at this;have:=HN.out;omega)
   by_cases hbN:bs<N
   ·have hbNI:(bs:Int)<(N:Int):=by omega
    obtain ⟨b2,hb2'⟩:∃ b2,b2=2*bs:=⟨_,rfl⟩
    have hb2I:(2*(bs:Int))=(b2:Int):=by omega
    have hb2J:((bs:Int)*2)=(b2:Int):=by omega
    have HB2:=jd hb2'
    have hb2b:bs+bs≤b2∧b2≤bs+bs:=⟨by omega,by omega⟩
    obtain ⟨hb2b1,hb2b2⟩:=hb2b
    clear hb2'
    go_upto_block 4 with (fail)
    go_cut [7] (fun s7 wx=>∃ (a:Nat) (P2 P1:List A),s7=.int .i64 a∧a≤N∧N<a+b2∧Hid (P2.length=a)∧Hid (StEq key l (P2++P1++R))∧Hid (FullC key b2 P2)∧Hid (FullC key bs P1)∧Own w0 wx ((sL g N c (P2++P1++R))::ps))
    case first=>
     go_wp2_with fail
     go_loopw [7,8] (fun s7 s8 wx=>∃ (a:Nat) (P2 P1:List A),s7=.int .i64 a∧s8=.int .i64 ((a:Int)+b2)∧a≤N∧Hid (P2.length=a)∧Hid (StEq key l (P2++P1++R))∧Hid (FullC key b2 P2)∧Hid (FullC key bs P1)∧Own w0 wx ((sL g N c (P2++P1++R))::ps)) (fun s7 _ _=>N-(intOf s7).toNat)
     case atStart=>exact ⟨0,[],P,by go_num,by go_num,by omega,jd rfl,jd (by simpa using hl.out),jd .nil,hF,by simpa using H⟩
     case round=>
      clear H hl hF
      obtain ⟨a,P2,P1,rfl,rfl,ha,hP2,hl,hF2,hF1,H⟩:=hrel
      have hlen2:Hid (P2.length+P1.length+R.length=N):=jd (by have:=hl.out.length;rw [lJ,lJ] at this;have:=HN.out;omega)
      by_cases hab:a+b2≤N
      ·obtain ⟨x,y,r,hP1,hx,hy,hsx,hsy,hFr⟩:=hF1.out.two (by have:=hlen2.out;have:=hP2.out;have:=hRb.out;omega)
       subst hP1
       have e1:P2++(x++y++r)++R=P2++x++y++(r++R):=by simp
       rw [e1] at H
       obtain ⟨mn,hmn⟩:∃ mn,mn=a+bs:=⟨_,rfl⟩
       obtain ⟨bn,hbn⟩:∃ bn,bn=a+b2:=⟨_,rfl⟩
       have hmI:((a:Int)+(bs:Int))=(mn:Int):=by omega
       have hbI:((a:Int)+(b2:Int))=(bn:Int):=by omega
       have hbnN:(bn:Int)≤(N:Int):=by omega
       have hNl:N=(P2++x++y++(r++R)).length:=by rw [← e1];have:=hl.out.length;rw [← this];exact HN.out
       have hokx:∀ v∈x,ok v:=fun v hv=>HOK.out v (hl.out.symm.mem (by simp [hv]))
       have hoky:∀ v∈y,ok v:=fun v hv=>HOK.out v (hl.out.symm.mem (by simp [hv]))
       have hi:=sym_any HC.out hNb (x.length+y.length) wr P2 x y (r++R) a mn bn (Nat.le_refl _) hokx hoky hsx hsy hP2.out.symm (by omega) (by omega) (by omega) (by omega) hNl H
       have HI:=jd hi
       have HX:=jd (And.intro hx hy)
       have HFr:=jd hFr
       have hbn2:Hid (bn=a+b2):=jd hbn
       have hbnN2:bn≤N:=by omega
       have habn:a+b2≤bn:=by omega
       clear hi hmn hbn hNl e1 hab hokx hoky hsx hsy hx hy hFr hlen2
       go_wp2_with fail
       refine HI.out.mono ?_
       rintro e w4 ⟨_,rfl,z,hz,H4⟩
       have hzl:z.length=b2:=by rw [← hz.2.length,lJ,HX.out.1,HX.out.2];omega
       have hl3:Hid (StEq key l ((P2++z)++r++R)):=jd (hl.out.trans (by
        have:=((StEq.refl (key:=key) P2).app hz.2).app (StEq.refl (r++R))
        simpa using this))
       have hF3:Hid (FullC key b2 (P2++z)):=jd (hF2.out.snoc hzl hz.1)
       have hP3:Hid ((P2++z).length=bn):=jd (by rw [lJ,hzl,hP2.out];exact hbn2.out.symm)
       clear HI H hz hzl
       go_wp2
       go_roundw
       case rel=>exact ⟨bn,P2++z,r,by go_num,by go_num,by omega,hP3,hl3,hF3,HFr,by simpa using H4⟩
       case measure=>simp [intOf];omega
      ·have hnb:¬ ((a:Int)+(b2:Int)≤(N:Int)):=by omega
       go_wp2
       go_meet
       exact ⟨a,P2,P1,rfl,ha,by omega,hP2,hl,hF2,hF1,H⟩
    case rest=>
     clear H hl hF
     obtain ⟨a,P2,P1,rfl,ha,hab,hP2,hl,hF2,hF1,H⟩:=hcut
     have hlen2:Hid (P2.length+P1.length+R.length=N):=jd (by have:=hl.out.length;rw [lJ,lJ] at this;have:=HN.out;omega)
     obtain ⟨mn,hmn⟩:∃ mn,mn=a+bs:=⟨_,rfl⟩
     have hmI:((a:Int)+(bs:Int))=(mn:Int):=by omega
     have HMN:=jd hmn
     have hmn2:mn≤4*N+40:=by omega
     clear hmn
     by_cases hmN:mn<N
     ·have hmNI:(mn:Int)<(N:Int):=by omega
      obtain ⟨x,r,hP1,hx,hsx,hFr⟩:=hF1.out.front (by have:=hlen2.out;have:=hP2.out;have:=hRb.out;have:=HMN.out;omega)
      have hr0:r=[]:=by
       obtain ⟨q,hq⟩:=hFr.len
       have h1:=hlen2.out;have h2:=hP2.out
       rw [hP1,lJ] at h1
       rcases Nat.eq_zero_or_pos q with h | h
       ·subst h;exact eJ (by omega)
       ·have:=Nat.mul_le_mul_right bs h;omega
      subst hr0
      rw [List.append_nil] at hP1
      subst hP1
      have e1:P2++P1++R=P2++P1++R++[]:=by simp
      rw [e1] at H
      have hNl:N=(P2++P1++R++[]).length:=by rw [← e1];have:=hl.out.length;rw [← this];exact HN.out
      have hi:=sym_any HC.out hNb (P1.length+R.length) wc P2 P1 R [] a mn N (Nat.le_refl _) (fun v hv=>HOK.out v (hl.out.symm.mem (by simp [hv]))) (fun v hv=>HOK.out v (hl.out.symm.mem (by simp [hv]))) hsx hS.out hP2.out.symm (by have:=HMN.out;omega) (by have:=hlen2.out;have:=hP2.out;have:=HMN.out;omega) (by omega) (by have:=hlen2.out;have:=hP2.out;have:=HMN.out;omega) hNl H
      have HI:=jd hi
      clear hi hNl e1 hsx hFr
      go_wp2_with fail
      refine HI.out.mono ?_
      rintro e w4 ⟨_,rfl,z,hz,H4⟩
      have hzl:Hid (z.length<b2):=jd (by rw [← hz.2.length,lJ,hx];have:=hRb.out;omega)
      have hl3:Hid (StEq key l (P2++z)):=jd (hl.out.trans (by
       have:=(StEq.refl (key:=key) P2).app hz.2
       simpa using this))
      have hzs:Hid (Srt key z):=jd hz.1
      rw [List.append_nil] at H4
      clear HI H hz hx
      go_wp2
      go_roundw
      case rel=>exact ⟨b2,P2,z,by go_num,by omega,by omega,hl3,hF2,hzs,hzl,H4⟩
      case measure=>simp [intOf];omega
     ·have hmNI:¬ ((mn:Int)<(N:Int)):=by omega
      have hsrt:Hid (Srt key (P1++R)):=jd (by
       rcases hF1.out.one (by have:=hlen2.out;have:=hP2.out;have:=HMN.out;omega) (by omega) with h | ⟨h,hs⟩
       ·rw [h];exact hS.out
       ·have:R=[]:=eJ (by have:=hlen2.out;have:=hP2.out;have:=HMN.out;omega)
        rw [this,List.append_nil];exact hs)
      have hl3:Hid (StEq key l (P2++(P1++R))):=jd (by simpa using hl.out)
      have hzl:Hid ((P1++R).length<b2):=jd (by rw [lJ];have:=hlen2.out;have:=hP2.out;omega)
      rw [List.append_assoc] at H
      clear hmN
      go_wp2
      go_roundw
      case rel=>exact ⟨b2,P2,P1++R,by go_num,by omega,by omega,hl3,hF2,hsrt,hzl,H⟩
      case measure=>simp [intOf];omega
   ·have hsrt:Hid (P++R=sortF key l):=jd (by
     refine sortF_unique ?_ hl.out
     rcases hF.out.one (by have:=hlen.out;omega) (by omega) with h | ⟨h,hs⟩
     ·rw [h];exact hS.out
     ·have:R=[]:=eJ (by have:=hlen.out;omega)
      rw [this,List.append_nil];exact hs)
    have hnb:¬ ((bs:Int)<(N:Int)):=by omega
    clear hbN
    go_wp2
    go_end0
    exact ⟨_,rfl,by rw [← hsrt.out];exact H⟩):T_stable_any A eC EL SZ F_stableCmpFunc cf Cmps:=h
end Go.Proofs.YthekdeikodppkaaGreatDoor
namespace Go.Proofs.YthekdeikodppkaaGreatDoor
open Go.RowKit
namespace SI
open Go.Proofs.Tryz renaming func358 → fustableCmpFunc, ntmps358 → ntstableCmpFunc
open Go.Proofs.YthekdeikodppkaaGreatDoor.SI renaming ie → eC
section
variable {w0 w:World} {ps:List Piece} {ok:Int→Prop} {key:Int→Int} {B:Nat}
set_option maxRecDepth 100000 in
set_option maxHeartbeats 6400000 in
theorem stable_any:T_stable_any Int ie 3 1 358 cf Cmps:=mk_stable_any _ _ _ _ _ _ _
end
end SI
namespace SC
theorem split_at{α:Type}(l:List α)(n:Nat)(h:n≤l.length):∃ a b,l=a++b∧a.length=n:=⟨l.take n,l.drop n,(List.take_append_drop n l).symm,by simp;omega⟩
open Go.Proofs.Tryz renaming func392 → furotateCmpFunc, ntmps392 → ntrotateCmpFunc
open Go.Proofs.YthekdeikodppkaaGreatDoor renaming ce → eC
section
variable {w0 w:World} {ps:List Piece}
set_option maxRecDepth 100000 in
set_option maxHeartbeats 3200000 in
theorem rotate_any:T_rotate_any Coin ce 431 2 392:=mk_rotate_any _ _ _ _ _
end
end SC
namespace SC
abbrev cf(_B:Nat):Value:=.func (.func 361) #[] #[]
abbrev ca(_B:Nat)(x y:Coin):Array Value:=#[cval x,cval y]
abbrev cg:Nat:=361
def Cmps(w0:World)(ps:List Piece)(B:Nat)(ok:Coin→Prop)(key:Coin→Int):Prop:=
 ∀ (wz:World) (row:Piece),Own w0 wz (row::ps)→∀ x y,ok x→ok y→Calls Tryz.prog cg (ca B x y) wz (Ret fun v w'=>v=.int .i64 (cmpI (key x) (key y))∧Own wz w' [])
open Go.Proofs.Tryz renaming func388 → fuinsertionSortCmpFunc, ntmps388 → ntinsertionSortCmpFunc
open Go.Proofs.YthekdeikodppkaaGreatDoor renaming ce → eC
section
variable {w0 w:World} {ps:List Piece} {ok:Coin→Prop} {key:Coin→Int} {B:Nat}
set_option maxRecDepth 100000 in
set_option maxHeartbeats 3200000 in
theorem insert_any:T_insert_any Coin ce 431 2 388 cf Cmps:=mk_insert_any _ _ _ _ _ _ _
end
end SC
namespace SC
open Go.Proofs.Tryz renaming func389 → fusymMergeCmpFunc, ntmps389 → ntsymMergeCmpFunc
open Go.Proofs.YthekdeikodppkaaGreatDoor renaming ce → eC
section
variable {w0 w:World} {ps:List Piece} {ok:Coin→Prop} {key:Coin→Int} {B:Nat}
set_option maxRecDepth 100000 in
set_option maxHeartbeats 6400000 in
theorem symL_any:T_symL_any Coin ce 431 2 389 cf Cmps:=mk_symL_any _ _ _ _ _ _ _
end
end SC
namespace SC
open Go.Proofs.Tryz renaming func389 → fusymMergeCmpFunc, ntmps389 → ntsymMergeCmpFunc
open Go.Proofs.YthekdeikodppkaaGreatDoor renaming ce → eC
section
variable {w0 w:World} {ps:List Piece} {ok:Coin→Prop} {key:Coin→Int} {B:Nat}
set_option maxRecDepth 100000 in
set_option maxHeartbeats 6400000 in
theorem symR_any:T_symR_any Coin ce 431 2 389 cf Cmps:=mk_symR_any _ _ _ _ _ _ _
end
end SC
namespace SC
noncomputable def symTail(r:Nat):Code:=((Tryz.f389.body.bind (fromR r)).getD .skip)
def SymAt(w0:World)(ps:List Piece)(ok:Coin→Prop)(key:Coin→Int)(B g c N f:Nat):Prop:=
 ∀ (w:World) (p x y q:List Coin) (a m b:Nat),x.length+y.length≤f→(∀ v∈x,ok v)→(∀ v∈y,ok v)→Srt key x→Srt key y→a=p.length→m=a+x.length→b=m+y.length→0<x.length→0<y.length→N=(p++x++y++q).length →
  Own w0 w (slc 431 2 (.slice (some ⟨g,0,none⟩) N c) N (rows ce (p++x++y++q))::ps) →
  Calls Tryz.prog 389 #[.slice (some ⟨g,0,none⟩) N c,.int .i64 a,.int .i64 m,.int .i64 b,cf B] w (Ret fun _ w'=>∃ z,Mrg key x y z∧Own w0 w' (slc 431 2 (.slice (some ⟨g,0,none⟩) N c) N (rows ce (p++z++q))::ps))
open Go.Proofs.YthekdeikodppkaaGreatDoor renaming ce → eC
section
variable {w0:World} {ps:List Piece} {ok:Coin→Prop} {key:Coin→Int} {B:Nat}
set_option maxRecDepth 1000000 in
set_option maxHeartbeats 12800000 in
theorem tail3:T_tail3 Coin ce 431 2 Tryz.f389 cf SymAt symTail:=mk_tail3 _ _ _ _ _ _ _ _
set_option maxRecDepth 1000000 in
set_option maxHeartbeats 12800000 in
theorem tail2:T_tail2 Coin ce 431 2 Tryz.f389 cf SymAt symTail:=mk_tail2 _ _ _ _ _ _ _ _
set_option maxRecDepth 1000000 in
set_option maxHeartbeats 12800000 in
theorem tail_any:T_tail_any Coin ce 431 2 Tryz.f389 cf SymAt symTail:=mk_tail_any _ _ _ _ _ _ _ _
end
end SC
namespace SC
theorem srt_le{α:Type}{key:α→Int}{l:List α}(h:Srt key l){i j:Nat}{u v:α}(hu:l[i]?=some u)(hv:l[j]?=some v)(hij:i≤j):key u≤key v:=by
 obtain ⟨h1,rfl⟩:=gJ hu
 obtain ⟨h2,rfl⟩:=gJ hv
 rcases Nat.lt_or_eq_of_le hij with h3 | h3
 ·exact List.pairwise_iff_getElem.1 h i j h1 h2 h3
 ·subst h3;exact Int.le_refl _
open Go.Proofs.Tryz renaming func389 → fusymMergeCmpFunc, ntmps389 → ntsymMergeCmpFunc
open Go.Proofs.YthekdeikodppkaaGreatDoor renaming ce → eC
section
variable {w0:World} {ps:List Piece} {ok:Coin→Prop} {key:Coin→Int} {B:Nat}
set_option maxRecDepth 100000 in
set_option maxHeartbeats 12800000 in
theorem sym_any:T_sym_any Coin ce 431 2 Cmps SymAt:=mk_sym_any _ _ _ _ _ _
end
end SC
namespace SC
open Go.Proofs.Tryz renaming func380 → fustableCmpFunc, ntmps380 → ntstableCmpFunc
open Go.Proofs.YthekdeikodppkaaGreatDoor renaming ce → eC
section
variable {w0 w:World} {ps:List Piece} {ok:Coin→Prop} {key:Coin→Int} {B:Nat}
set_option maxRecDepth 100000 in
set_option maxHeartbeats 6400000 in
theorem stable_any:T_stable_any Coin ce 431 2 380 cf Cmps:=mk_stable_any _ _ _ _ _ _ _
end
end SC
theorem nan_any(a:Int)(w:World):Calls Tryz.prog 257 #[.int .i64 a] w fun e w'=>e=.returned (.bool false)∧w'=w:=by
 go_enter Tryz.func257,Tryz.ntmps257
 go_wp2
 go_ret
 exact ⟨by simp,rfl⟩
theorem compare_any(a b:Int)(w:World):Calls Tryz.prog 330 #[.int .i64 a,.int .i64 b] w fun e w'=>e=.returned (.int .i64 (cmpI a b))∧w'=w:=by
 go_enter Tryz.func330,Tryz.ntmps330
 go_wp2_with fail
 refine (nan_any a w).mono ?_
 rintro e w1 ⟨rfl,rfl⟩
 go_wp2_with fail
 refine (nan_any b _).mono ?_
 rintro e w1 ⟨rfl,rfl⟩
 by_cases h1:a<b
 ·have e:Hid (cmpI a b = -1):=jd (by simp [cmpI,h1])
  go_wp2
  go_ret
  exact ⟨by rw [e.out];rfl,rfl⟩
 ·by_cases h2:b<a
  ·have e:Hid (cmpI a b=1):=jd (by simp [cmpI,h1,h2])
   go_wp2
   go_ret
   exact ⟨by rw [e.out];rfl,rfl⟩
  ·have e:Hid (cmpI a b=0):=jd (by simp [cmpI,h1,h2])
   go_wp2
   go_ret
   exact ⟨by rw [e.out];rfl,rfl⟩
theorem lighter_any(w0:World)(ps:List Piece)(B:Nat):SC.Cmps w0 ps B (fun _=>True) Coin.w:=by
 intro wz row _ x y _ _
 unfold SC.cg SC.ca
 obtain ⟨c,hc⟩:∃ c,Hid (cmpI x.w y.w=c):=⟨_,rfl⟩
 rw [hc.out]
 have H:=(Own.start wz).alloc2 (.cells #[.int .i64 x.w,.bool x.pair] 431) (.cells #[.int .i64 y.w,.bool y.pair] 431)
 unfold cval
 go_enter Tryz.func361,Tryz.ntmps361
 go_wp2_with fail
 refine (compare_any x.w y.w _).mono ?_
 rintro e w1 ⟨rfl,rfl⟩
 rw [hc.out]
 go_wp2
 go_ret
 exact ⟨_,rfl,rfl,H.bare⟩
theorem byfreq_any{w0:World}{ps:List Piece}{B n:Nat}{F:List Int}{v:Value}(hr:Rd w0 1 v n (nums F))(hn:n≤1000000):SI.Cmps w0 (blk B (.cells #[v] 34)::ps) B (fun x=>0≤x∧x<F.length) (frq F):=by
 intro wz row H x y hx hy
 unfold SI.cg SI.ca
 obtain ⟨hx0,hx1⟩:=hx
 obtain ⟨hy0,hy1⟩:=hy
 obtain ⟨i,rfl⟩:∃ i:Nat,x=i:=⟨x.toNat,by omega⟩
 obtain ⟨j,rfl⟩:∃ j:Nat,y=j:=⟨y.toNat,by omega⟩
 have hl:F.length=n:=by have:=hr.len;rw [Qg] at this;omega
 obtain ⟨b,o,cp,rfl,hc1,hc2⟩:=hr.some (by rw [Qg];omega)
 have hz:=hr.old H
 have gi:F[i]?=some (frq F i):=by
  unfold frq
  rw [List.getElem?_eq_getElem (by omega)]
  simp [List.getD,show i<F.length by omega]
 have gj:F[j]?=some (frq F j):=by
  unfold frq
  rw [List.getElem?_eq_getElem (by omega)]
  simp [List.getD,show j<F.length by omega]
 have r0:=hz.cell (Jj gi)
 have r1:=hz.cell (Jj gj)
 generalize frq F i=fi at *
 generalize frq F j=fj at *
 obtain ⟨c,hc⟩:∃ c,Hid (cmpI fi fj=c):=⟨_,rfl⟩
 rw [hc.out]
 have hiI:(i:Int)<(n:Int):=by omega
 have hjI:(j:Int)<(n:Int):=by omega
 have hR:∀ (ps':List Piece) (w':World),Own wz w' ps'→w'.cell? ⟨b,o+i,none⟩=some (.int .i64 fi)∧w'.cell? ⟨b,o+j,none⟩=some (.int .i64 fj):=fun _ w' h=>⟨(hz.old h).cell (Jj gi),(hz.old h).cell (Jj gj)⟩
 have cB:=(H.front 1 rfl).cells
 have hB:∀ (ps':List Piece) (w':World),Own wz w' ps'→w'.cell? ⟨B,0,none⟩=some (.slice (some ⟨b,o,none⟩) n cp):=fun _ w' h=>by
  rw [h.oldCell (cell_lt (by rw [cB];rfl)),cB];rfl
 have HR:=jd hR
 have HB:=jd hB
 clear hR hB
 have H1:=Own.start wz
 clear r0 r1 gi gj hr hl hx1 hy1 cB
 go_enter Tryz.func329,Tryz.ntmps329
 go_upto_region 1 with (fail)
 refine Qa (fun w1=>Own wz w1 []) 8 (by kernel_rfl) (by kernel_rfl) H1.drew ?_
 simp only [List.take_succ_cons,List.take_zero,List.drop_succ_cons,List.drop_zero]
 repeat
  first
  | (refine calm_value (v:=?_) (by decide) rfl (fun σ w1 hS=>?_) ?_
     rotate_left
     ·have c0:=HB.out _ _ hS;obtain ⟨c1,c2⟩:=HR.out _ _ hS
      first | (go_simp;rfl) | rfl
     simp only [Act.put,putC])
  | (refine calm_skip (by decide) rfl ?_
     simp only [Act.put,putC])
 refine calm_nil ?_
 intro wd HD
 go_wp2_with fail
 refine (compare_any fi fj _).mono ?_
 rintro e w1 ⟨rfl,rfl⟩
 rw [hc.out]
 go_wp2
 go_ret
 exact ⟨_,rfl,rfl,HD⟩
structure FileP where
 path:ByteArray
 data:ByteArray
deriving DecidableEq,Inhabited
def fe(x:FileP):List Value:=[.string x.path,.string x.data]
def fval(x:FileP):Value:=.agg #[.string x.path,.string x.data]
namespace SF
theorem e_length(x:FileP):(fe x).length=2:=rfl
theorem e_one(x:FileP):∀ u∈fe x,u.oneCell'=true:=by intro u hu;simp [fe] at hu;rcases hu with rfl | rfl <;> rfl
abbrev Sl(v:Value)(l:List FileP):Piece:=slc 47 2 v l.length (rows fe l)
theorem el{w:World}{b c i n:Nat}{l:List FileP}{x:FileP}(h:Rd w 2 (.slice (some ⟨b,0,none⟩) n c) n (rows fe l))(hx:l[i]?=some x) :
 w.cell? ⟨b,i*2,none⟩=some (.string x.path)∧w.cell? ⟨b,i*2+1,none⟩=some (.string x.data):=by
 have h0:=h.cell ((Jt fe e_length hx 0 (by omega)).trans rfl)
 have h1:=h.cell ((Jt fe e_length hx 1 (by omega)).trans rfl)
 rw [Nat.zero_add] at h0 h1
 exact ⟨h0,h1⟩
theorem set_rows{l:List FileP}{i:Nat}(hi:i<l.length)(y:FileP):(rows fe l).take (i*2)++fe y++(rows fe l).drop (i*2+2)=rows fe (l.set i y):=(rows_set fe e_length hi y).symm
theorem set_swap{α:Type}(u v w:List α)(x y:α){i j:Nat}(hi:i=u.length)(hj:j=u.length+1+v.length) :
 ((u++x::(v++y::w)).set i y).set j x=u++y::(v++x::w):=by
 subst hi hj
 rw [List.set_append_right _ _ (Nat.le_refl _),Nat.sub_self,List.set_cons_zero,List.set_append_right _ _ (by omega),show u.length+1+v.length-u.length=v.length+1 by omega,List.set_cons_succ,List.set_append_right _ _ (Nat.le_refl _),Nat.sub_self,List.set_cons_zero]
theorem get_mid{α:Type}(u w:List α)(x:α){i:Nat}(hi:i=u.length):(u++x::w)[i]?=some x:=by
 subst hi
 rw [List.getElem?_append_right (Nat.le_refl _),Nat.sub_self];rfl
abbrev A:=FileP
abbrev sL(g N c:Nat)(l:List FileP):Piece:=slc 47 2 (.slice (some ⟨g,0,none⟩) N c) N (rows fe l)
open Go.Proofs.Tryz renaming func356 → fuswapRangeCmpFunc, ntmps356 → ntswapRangeCmpFunc
open Go.Proofs.YthekdeikodppkaaGreatDoor renaming fe → eC
section
variable {w0 w:World} {ps:List Piece}
set_option maxRecDepth 100000 in
set_option maxHeartbeats 3200000 in
theorem swap_any:T_swap_any FileP fe 47 2 356:=mk_swap_any _ _ _ _ _
end
end SF
namespace SF
theorem split_at{α:Type}(l:List α)(n:Nat)(h:n≤l.length):∃ a b,l=a++b∧a.length=n:=⟨l.take n,l.drop n,(List.take_append_drop n l).symm,by simp;omega⟩
open Go.Proofs.Tryz renaming func319 → furotateCmpFunc, ntmps319 → ntrotateCmpFunc
open Go.Proofs.YthekdeikodppkaaGreatDoor renaming fe → eC
section
variable {w0 w:World} {ps:List Piece}
set_option maxRecDepth 100000 in
set_option maxHeartbeats 3200000 in
theorem rotate_any:T_rotate_any FileP fe 47 2 319:=mk_rotate_any _ _ _ _ _
end
end SF
namespace SF
abbrev cf(_B:Nat):Value:=.func (.func 123) #[] #[]
abbrev ca(_B:Nat)(x y:FileP):Array Value:=#[fval x,fval y]
abbrev cg:Nat:=123
def Cmps(w0:World)(ps:List Piece)(B:Nat)(ok:FileP→Prop)(key:FileP→Int):Prop:=
 ∀ (wz:World) (row:Piece),Own w0 wz (row::ps)→∀ x y,ok x→ok y→Calls Tryz.prog cg (ca B x y) wz (Ret fun v w'=>v=.int .i64 (cmpI (key x) (key y))∧Own wz w' [])
open Go.Proofs.Tryz renaming func261 → fuinsertionSortCmpFunc, ntmps261 → ntinsertionSortCmpFunc
open Go.Proofs.YthekdeikodppkaaGreatDoor renaming fe → eC
section
variable {w0 w:World} {ps:List Piece} {ok:FileP→Prop} {key:FileP→Int} {B:Nat}
set_option maxRecDepth 100000 in
set_option maxHeartbeats 3200000 in
theorem insert_any:T_insert_any FileP fe 47 2 261 cf Cmps:=mk_insert_any _ _ _ _ _ _ _
end
end SF
namespace SF
open Go.Proofs.Tryz renaming func262 → fusymMergeCmpFunc, ntmps262 → ntsymMergeCmpFunc
open Go.Proofs.YthekdeikodppkaaGreatDoor renaming fe → eC
section
variable {w0 w:World} {ps:List Piece} {ok:FileP→Prop} {key:FileP→Int} {B:Nat}
set_option maxRecDepth 100000 in
set_option maxHeartbeats 6400000 in
theorem symL_any:T_symL_any FileP fe 47 2 262 cf Cmps:=mk_symL_any _ _ _ _ _ _ _
end
end SF
namespace SF
open Go.Proofs.Tryz renaming func262 → fusymMergeCmpFunc, ntmps262 → ntsymMergeCmpFunc
open Go.Proofs.YthekdeikodppkaaGreatDoor renaming fe → eC
section
variable {w0 w:World} {ps:List Piece} {ok:FileP→Prop} {key:FileP→Int} {B:Nat}
set_option maxRecDepth 100000 in
set_option maxHeartbeats 6400000 in
theorem symR_any:T_symR_any FileP fe 47 2 262 cf Cmps:=mk_symR_any _ _ _ _ _ _ _
end
end SF
namespace SF
noncomputable def symTail(r:Nat):Code:=((Tryz.f262.body.bind (fromR r)).getD .skip)
def SymAt(w0:World)(ps:List Piece)(ok:FileP→Prop)(key:FileP→Int)(B g c N f:Nat):Prop:=
 ∀ (w:World) (p x y q:List FileP) (a m b:Nat),x.length+y.length≤f→(∀ v∈x,ok v)→(∀ v∈y,ok v)→Srt key x→Srt key y→a=p.length→m=a+x.length→b=m+y.length→0<x.length→0<y.length→N=(p++x++y++q).length →
  Own w0 w (slc 47 2 (.slice (some ⟨g,0,none⟩) N c) N (rows fe (p++x++y++q))::ps) →
  Calls Tryz.prog 262 #[.slice (some ⟨g,0,none⟩) N c,.int .i64 a,.int .i64 m,.int .i64 b,cf B] w (Ret fun _ w'=>∃ z,Mrg key x y z∧Own w0 w' (slc 47 2 (.slice (some ⟨g,0,none⟩) N c) N (rows fe (p++z++q))::ps))
open Go.Proofs.YthekdeikodppkaaGreatDoor renaming fe → eC
section
variable {w0:World} {ps:List Piece} {ok:FileP→Prop} {key:FileP→Int} {B:Nat}
set_option maxRecDepth 1000000 in
set_option maxHeartbeats 12800000 in
theorem tail3:T_tail3 FileP fe 47 2 Tryz.f262 cf SymAt symTail:=mk_tail3 _ _ _ _ _ _ _ _
set_option maxRecDepth 1000000 in
set_option maxHeartbeats 12800000 in
theorem tail2:T_tail2 FileP fe 47 2 Tryz.f262 cf SymAt symTail:=mk_tail2 _ _ _ _ _ _ _ _
set_option maxRecDepth 1000000 in
set_option maxHeartbeats 12800000 in
theorem tail_any:T_tail_any FileP fe 47 2 Tryz.f262 cf SymAt symTail:=mk_tail_any _ _ _ _ _ _ _ _
end
end SF
namespace SF
theorem srt_le{α:Type}{key:α→Int}{l:List α}(h:Srt key l){i j:Nat}{u v:α}(hu:l[i]?=some u)(hv:l[j]?=some v)(hij:i≤j):key u≤key v:=by
 obtain ⟨h1,rfl⟩:=gJ hu
 obtain ⟨h2,rfl⟩:=gJ hv
 rcases Nat.lt_or_eq_of_le hij with h3 | h3
 ·exact List.pairwise_iff_getElem.1 h i j h1 h2 h3
 ·subst h3;exact Int.le_refl _
open Go.Proofs.Tryz renaming func262 → fusymMergeCmpFunc, ntmps262 → ntsymMergeCmpFunc
open Go.Proofs.YthekdeikodppkaaGreatDoor renaming fe → eC
section
variable {w0:World} {ps:List Piece} {ok:FileP→Prop} {key:FileP→Int} {B:Nat}
set_option maxRecDepth 100000 in
set_option maxHeartbeats 12800000 in
theorem sym_any:T_sym_any FileP fe 47 2 Cmps SymAt:=mk_sym_any _ _ _ _ _ _
end
end SF
namespace SF
open Go.Proofs.Tryz renaming func186 → fustableCmpFunc, ntmps186 → ntstableCmpFunc
open Go.Proofs.YthekdeikodppkaaGreatDoor renaming fe → eC
section
variable {w0 w:World} {ps:List Piece} {ok:FileP→Prop} {key:FileP→Int} {B:Nat}
set_option maxRecDepth 100000 in
set_option maxHeartbeats 6400000 in
theorem stable_any:T_stable_any FileP fe 47 2 186 cf Cmps:=mk_stable_any _ _ _ _ _ _ _
end
end SF
def u8s(xs:List Int):List Value:=xs.map (.int .u8)
def Wtr(g:Nat)(bs:List Bool):Piece:=ex fun v=>star (blk g (.cells #[v,.int .i64 bs.length] 221)) (slc 5 1 v (Qq bs.length) (u8s (Jg bs)))
theorem Own.wtr{w0 w:World}{ps:List Piece}{g:Nat}{bs:List Bool}(H:Own w0 w (Wtr g bs::ps)) :
 ∃ a c,Qq bs.length≤c∧c≤9223372036854775807∧Own w0 w (blk g (.cells #[.slice a (Qq bs.length) c,.int .i64 bs.length] 221)::slc 5 1 (.slice a (Qq bs.length) c) (Qq bs.length) (u8s (Jg bs))::ps):=by
 obtain ⟨v,H⟩:=H.ex
 replace H:=H.star
 obtain ⟨a,c,rfl,h1,h2⟩:=(H.front 1 rfl).rd.shape
 exact ⟨a,c,h1,h2,H⟩
theorem Own.unwtr{w0 w:World}{ps:List Piece}{g:Nat}{bs:List Bool}{v:Value}{n m:Nat}{xs:List Value}(H:Own w0 w (blk g (.cells #[v,.int .i64 n] 221)::slc 5 1 v m xs::ps))(hn:n=bs.length)(hm:m=Qq bs.length)(hx:xs=u8s (Jg bs)):Own w0 w (Wtr g bs::ps):=by
 subst hn hm hx
 exact H.unstar.unex v
set_option maxHeartbeats 400000 in
theorem bit_any{w0 w:World}{ps:List Piece}{g:Nat}{bs:List Bool}(b:Bool)(H:Own w0 w (Wtr g bs::ps))(hl:bs.length≤35184372088832) :
 Calls Tryz.prog 188 #[.pointer (some ⟨g,0,none⟩),.int .i64 (bi b)] w (Ret fun _ w'=>Own w0 w' (Wtr g (bs++[b])::ps)):=by
 have hb:=bi_bd b
 obtain ⟨c,hcc⟩:∃ c,Hid (bi b=c):=⟨_,rfl⟩
 rw [hcc.out] at hb ⊢
 obtain ⟨hb0,hb1⟩:=hb
 obtain ⟨m,hm⟩:∃ m,Hid (bs.length=m):=⟨_,rfl⟩
 have hlm:=hl
 rw [hm.out] at hlm
 obtain ⟨a,cp,hc1,hc2,H⟩:=H.wtr
 rw [hm.out] at H hc1
 have c0:=H.cells
 go_enter Tryz.func188,Tryz.ntmps188
 obtain ⟨r,hr⟩:∃ r,Hid (r=m%8):=⟨_,jd rfl⟩
 obtain ⟨q,hq⟩:∃ q,Hid (q=m/8):=⟨_,jd rfl⟩
 have hrt:(m:Int).tmod 8=(r:Int):=by have:=hr.out;rw [Int.tmod_eq_emod_of_nonneg (by omega)];omega
 have hqt:(m:Int).tdiv 8=(q:Int):=by have:=hq.out;rw [Int.tdiv_eq_ediv_of_nonneg (by omega)];omega
 have hrt':(m:Int)%8=(r:Int):=by have:=hr.out;omega
 have hqt':(m:Int)/8=(q:Int):=by have:=hq.out;omega
 have hr8:r<8:=by have:=hr.out;omega
 have hsn:=jd (bytesOf_snoc bs b)
 go_upto_if 9 with (fail)
 go_cut [] (fun wx=>∃ a c N L,N=Qq (m+1)∧N≤c∧c≤9223372036854775807∧Hid (L=if bs.length%8=0 then Jg bs++[0] else Jg bs)∧Own w0 wx (blk g (.cells #[.slice a N c,.int .i64 m] 221)::slc 5 1 (.slice a N c) N (u8s L)::ps))
 case first=>
  by_cases h0:r=0
  ·subst h0
   go_wp2_with (first
    | (at_builtin;refine Qf rfl _ _ rfl Tryz.underlying58 Vw rfl (by decide) rfl H.swap rfl rfl rfl (by simp [Value.oneCell']) (by unfold Qq;omega) (by unfold Qq;omega) ?_;clear H c0;intro v' w' H;replace H:=H.swap)
    | (obtain ⟨a',c',rfl,h1',h2'⟩:=(H.front 1 rfl).rd.shape;refine Jd rfl _ _ rfl rfl H rfl (by kernel_rfl) (by simp) ?_;clear H;intro w2 H))
   go_meet
   exact ⟨a',c',Qq m+1,Jg bs++[0],by have:=hr.out;unfold Qq;omega,h1',h2',jd (by rw [if_pos (by have:=hr.out;rw [hm.out];omega)]),by simpa [u8s] using H⟩
  ·have h0':((r:Int)==0)=false:=by simpa using h0
   go_wp2
   go_meet
   exact ⟨a,cp,Qq m,Jg bs,by have:=hr.out;unfold Qq;omega,hc1,hc2,jd (by rw [if_neg (by have:=hr.out;rw [hm.out];omega)]),H⟩
 case rest=>
  clear H c0
  obtain ⟨a,cp,N,L,hN,hc1,hc2,hL,H⟩:=hcut
  obtain ⟨k1,k2,k3⟩:=hsn.out L hL.out
  rw [hm.out] at k1 k2 k3
  rw [← hq.out] at k2 k3
  rw [← hr.out] at k3
  have hqN:q<N:=by have:=hq.out;unfold Qq at hN;omega
  have hqN':(q:Int)<(N:Int):=by omega
  replace hN:=jd hN
  have hwq:IntKind.i64.wrap (q:Int)=q:=IntWalk.i64_in _ ⟨by omega,by omega⟩
  have hwr:IntKind.i64.wrap (r:Int)=r:=IntWalk.i64_in _ ⟨by omega,by omega⟩
  have hx0:=(byteAt_bd bs q).1
  have hx1:=byteAt_bd' bs
  rw [hm.out,← hq.out,← hr.out] at hx1
  obtain ⟨x,hx⟩:∃ x,Hid (Zk bs q=x):=⟨_,rfl⟩
  rw [hx.out] at hx0 hx1 k2 k3
  have hlen:0<(u8s L).length:=by have:=hN.out;simp [u8s];omega
  obtain ⟨g2,c',e,_,_,_,_,_,_⟩:=(H.front 1 rfl).at hlen
  cases e
  have hu:Hid ((u8s L)[q]?=some (.int .u8 x)):=jd (by simp [u8s,k2])
  have hor:=or8 hr8 hx0 hx1 hb0 hb1
  obtain ⟨y,hy⟩:∃ y,Hid (x+2^r*c=y):=⟨_,rfl⟩
  rw [hy.out] at hor
  go_upto_region 2 with (fail)
  refine Qa (fun w1=>Own w0 w1 (blk g (.cells #[.slice (some ⟨g2,0,none⟩) N cp,.int .i64 m] 221)::slc 5 1 (.slice (some ⟨g2,0,none⟩) N cp) N (u8s L)::ps)) 20 (by kernel_rfl) (by kernel_rfl) H.drew ?_
  simp only [List.take_succ_cons,List.take_zero,List.drop_succ_cons,List.drop_zero]
  repeat
   refine calm_value (v:=?_) (by decide) rfl (fun σ w1 hS=>?_) ?_;rotate_left
   ·have c0:=hS.cells
    obtain ⟨_,_,e,_,_,_,_,c1,_⟩:=(hS.front 1 rfl).at hlen
    cases e
    replace c1:=c1 q _ hu.out
    first | (go_simp;rfl) | rfl
   simp only [Act.put,putC]
  refine calm_nil ?_
  intro wd HD
  clear H
  go_wp2_with (first
   | (refine Ja rfl _ _ rfl rfl HD.swap (.int .u8 y) rfl (by kernel_rfl) hqN rfl ?_;clear HD;intro w2 HD;replace HD:=HD.swap;have c0:=HD.cells)
   | (refine Qh rfl _ _ rfl rfl HD rfl (by kernel_rfl) (by simp) ?_;clear HD c0;intro w3 HD))
  go_end0
  refine ⟨_,rfl,HD.unwtr (n:=m+1) ?_ ?_ ?_⟩
  ·simp [hm.out]
  ·have:=hN.out;simp [hm.out];exact this
  ·rw [k3,hcc.out,hy.out];simp [u8s]
def cut(n:Int):Nat:=(min (max n 0) 62).toNat
theorem codeBits_take(v:Int)(m k:Nat)(hk:k<m):(Qj v m).reverse.take (k+1)=(Qj v m).reverse.take k++[bitOf v (m-1-k)]:=by
 rw [List.take_succ_eq_append_getElem (by simpa [Qd] using hk)]
 simp [Qj]
def Kk(s:ByteArray):List Int:=s.data.toList.map fun b=>(b.toNat:Int)
theorem byteCells_nums(s:ByteArray):byteCells s=u8s (Kk s):=by simp [byteCells,u8s,Kk]
theorem byteNums_length(s:ByteArray):(Kk s).length=s.size:=by simp [Kk]
theorem byteNums_bd(s:ByteArray):∀ x∈Kk s,0≤x∧x<256:=by
 intro x hx
 obtain ⟨b,_,rfl⟩:=List.mem_map.1 hx
 have:=b.toNat_lt
 omega
def Zw(ns:List Int):List Bool:=ns.flatMap (Qj · 8)
theorem bitsOfNums_length(ns:List Int):(Zw ns).length=8*ns.length:=by
 induction ns with
 | nil=>rfl
 | cons n ns ih=>
  simp only [Zw,List.flatMap_cons,lJ,Qd,List.length_cons] at ih ⊢
  omega
theorem byteAt_append(bs cs:List Bool)(h:bs.length%8=0)(k:Nat)(hk:k<bs.length/8):Zk (bs++cs) k=Zk bs k:=by
 unfold Zk
 rw [List.drop_append_of_le_length (by omega),List.take_append_of_le_length (by simp;omega)]
theorem byteAt_append'(bs cs:List Bool)(h:bs.length%8=0)(k:Nat):Zk (bs++cs) (bs.length/8+k)=Zk cs k:=by
 unfold Zk
 rw [List.drop_append,List.drop_eq_nil_of_le (by omega),List.nil_append]
 congr 3
 omega
theorem bytesOf_byte(b8 cs:List Bool)(h:b8.length=8):Jg (b8++cs)=valOf b8::Jg cs:=by
 unfold Jg
 rw [show Qq (b8++cs).length=Qq cs.length+1 by simp [Qq];omega,List.range_succ_eq_map,List.map_cons,List.map_map]
 congr 1
 ·unfold Zk
  simp [List.take_append_of_le_length (show 8≤b8.length by omega),List.take_of_length_le (show b8.length≤8 by omega)]
 ·refine List.map_congr_left fun k _=>?_
  have:=byteAt_append' b8 cs (by omega) k
  rw [show b8.length/8=1 by omega] at this
  show Zk _ (k+1)=_
  rw [Nat.add_comm]
  exact this
theorem bytesOf_nums(ns:List Int)(hb:∀ x∈ns,0≤x∧x<256):Jg (Zw ns)=ns:=by
 induction ns with
 | nil=>rfl
 | cons n ns ih=>
  show Jg (Qj n 8++Zw ns)=_
  rw [bytesOf_byte _ _ (Qd n 8),ih fun x hx=>hb x (List.mem_cons_of_mem _ hx),valOf_bitsOf]
  have:=hb n List.mem_cons_self
  congr 1
  omega
theorem bytesOf_append(bs cs:List Bool)(h:bs.length%8=0):Jg (bs++cs)=Jg bs++Jg cs:=by
 unfold Jg
 rw [show Qq (bs++cs).length=bs.length/8+Qq cs.length by simp [Qq];omega,show Qq bs.length=bs.length/8 by unfold Qq;omega,List.range_add,List.map_append,List.map_map]
 congr 1
 ·exact List.map_congr_left fun k hk=>byteAt_append bs cs h k (List.mem_range.1 hk)
 ·exact List.map_congr_left fun k _=>byteAt_append' bs cs h k
def Zy(s:ByteArray):List Bool:=Zw (Kk s)
theorem textBits_length(s:ByteArray):(Zy s).length=8*s.size:=by rw [Zy,bitsOfNums_length,byteNums_length]
def textOf(bs:List Bool):ByteArray:=strOfNums (Jg bs)
theorem bitsOfNums_get(ns:List Int):∀ (q r:Nat),r<8→(Zw ns)[8*q+r]?=(ns[q]?).map (bitOf · r):=by
 induction ns with
 | nil=>intro q r _;simp [Zw]
 | cons n ns ih=>
  intro q r hr
  show (Qj n 8++Zw ns)[8*q+r]?=_
  cases q with
  | zero=>
   rw [List.getElem?_append_left (by rw [Qd];omega)]
   simp [Qj,hr]
  | succ q=>
   rw [List.getElem?_append_right (by rw [Qd];omega),Qd,show 8*(q+1)+r-8=8*q+r by omega,ih q r hr]
   rfl
theorem byteNums_strOfNums(ns:List Int)(h:∀ x∈ns,0≤x∧x<256):Kk (strOfNums ns)=ns:=by
 unfold Kk strOfNums
 simp only [List.map_map]
 conv=>rhs;rw [← List.map_id ns]
 refine List.map_congr_left fun x hx=>?_
 have:=h x hx
 simp only [Function.comp,id]
 rw [UInt8.toNat_ofNat']
 omega
theorem aligned_get(bs:List Bool)(i:Nat)(hi:i<8*Qq bs.length):(Jv bs)[i]?=some (bs.getD i false):=by
 unfold Jv
 by_cases h:i<bs.length
 ·rw [List.getElem?_append_left h,List.getElem?_eq_getElem h]
  simp [List.getD,h]
 ·rw [List.getElem?_append_right (by omega),List.getElem?_replicate_of_lt (by unfold padN;unfold Qq at hi;omega)]
  simp [List.getD,List.getElem?_eq_none (show bs.length≤i by omega)]
theorem bitsOfNums_bytesOf(bs:List Bool):Zw (Jg bs)=Jv bs:=by
 apply List.ext_getElem?
 intro i
 by_cases hi:i<8*Qq bs.length
 ·rw [aligned_get bs i hi]
  obtain ⟨q,hq⟩:∃ q,q=i/8:=⟨_,rfl⟩
  obtain ⟨r,hr⟩:∃ r,r=i%8:=⟨_,rfl⟩
  have e:i=8*q+r:=by omega
  have hr8:r<8:=by omega
  rw [e,bitsOfNums_get _ q r hr8,bytesOf_get bs (by omega)]
  simp only [Option.map_some,Option.some.injEq]
  rw [Zk,bitOf_valOf]
  simp only [List.getD,List.getElem?_take,hr8,if_true,List.getElem?_drop]
 ·rw [List.getElem?_eq_none (by rw [bitsOfNums_length,bytesOf_length];omega),List.getElem?_eq_none (by rw [Jh];omega)]
theorem textBits_textOf(bs:List Bool):Zy (textOf bs)=Jv bs:=by
 unfold Zy textOf
 rw [byteNums_strOfNums _ (bytesOf_bd bs),bitsOfNums_bytesOf]
theorem textOf_size(bs:List Bool):(textOf bs).size=Qq bs.length:=by
 have:=textBits_length (textOf bs)
 rw [textBits_textOf,Jh] at this
 omega
theorem results_cell2{P:Program}{fn:Func}{p u:Tmp}{ty:TypeId}(h:fn.results=#[.cell p ty,.tmp u])(tmps:Array Value)(w:World)(g:Nat)(t:TypeId)(cs:Array Value)(fr:Nat × Nat)(d:TypeDesc)
 (hp:tmps.getD p undef=.pointer (some ⟨g,0,none⟩)) (hg:w.heap[g]?=some (.cells cs t fr))
 (hu:P.underlying ty=some d) (hd:(match d with | .struct _ | .array _ _=>true | _=>false)=true) (hi:(P.info? ty).map (·.size)=some cs.size) :
 (results fn tmps).run P w=.ok (.tuple #[.agg cs,tmps.getD u undef]) w:=by
 rw [results_cell_tmp h,hp]
 simp [asAddr,run_loadVar_row w g t ty cs fr d hg hu hd hi,Result.andThen]
theorem arrInfo(cs:List Int)(h:cs.length=16):(Tryz.prog.info? 423).map (·.size)=some (nums cs).toArray.size:=by
 rw [List.size_toArray,Qg,h]
 kernel_rfl
section
variable {w0 w:World} {ps:List Piece} {ops:Array Oper} {rest:List Oper} {o:Oper} {a:Act} {Q:Exit→Act→World→Prop}
theorem wpList_load16(hgd:o.guard=none)(x:Operand)(ho:o.op=.load 423 x){g:Nat}(hx:a.eval x=.pointer (some ⟨g,0,none⟩)){cs:List Int}(hl:cs.length=16)(H:Own w0 w (blk g (.cells (nums cs).toArray 423)::ps))
 (h:wpList Tryz.prog ops Q rest (a.put o.dst (.agg (nums cs).toArray)) w):wpList Tryz.prog ops Q (o::rest) a w:=
 wpList_load_row hgd 423 x ho g hx 423 (nums cs).toArray (0,0) _ H.block.1 Tryz.underlying423 rfl (arrInfo cs hl) h
theorem wpList_store16(hgd:o.guard=none)(x y:Operand)(ho:o.op=.store 423 x y){g:Nat}(hx:a.eval x=.pointer (some ⟨g,0,none⟩)){cs ds:List Int}(hl:cs.length=16)(hd:ds.length=16)
 (H:Own w0 w (blk g (.cells (nums cs).toArray 423)::ps)) (hv:a.eval y=.agg (nums ds).toArray)
 (h:∀ w',Own w0 w' (blk g (.cells (nums ds).toArray 423)::ps)→wpList Tryz.prog ops Q rest (a.put o.dst undef) w'):wpList Tryz.prog ops Q (o::rest) a w:=
 Qe hgd x y ho hx H hv (by have:=arrInfo ds hd;rw [List.size_toArray] at this;exact this) (by rw [List.size_toArray,Qg,Qg,hl,hd];omega) (nums_one ds) (store_whole _ _ (by rw [Qg,Qg,hl,hd])) h
end
set_option maxHeartbeats 3200000 in
theorem counts_any{w:World}{v:Value}{n:Nat}{F:List Int}(hr:Rd w 1 v n (nums F))(hn:n≤1000000) :
 Calls Tryz.prog 324 #[v] w (Ret fun r w'=>(∃ cs:List Int,cs.length=16∧r=.tuple #[.agg (nums cs).toArray,.bool (mayF F)]∧(mayF F=true→cs=Zf F))∧Own w w' []):=by
 have hl:=jd (rd_len hr)
 obtain ⟨a,c,rfl,hc1,hc2⟩:=hr.shape
 have HR:=jd hr
 obtain ⟨Z,hZ⟩:∃ Z,Hid (mayF F=Z):=⟨_,rfl⟩
 rw [hZ.out]
 clear hr
 have H:=(Own.start w).alloc2 (.cells (nums (Qm 16)).toArray 423) (.cells (nums (Qm 16)).toArray 423)
 rw [arr_zero] at H
 go_enter Tryz.func324,Tryz.ntmps324
 go_upto_region 2 with (fail)
 generalize (w.alloc _).alloc _=wa at *
 rw [← arr_zero] at H
 obtain ⟨cb,hcb⟩:∃ g,w.heap.size+1=g:=⟨_,rfl⟩
 rw [hcb] at H ⊢
 generalize w.heap.size=rb at *
 clear hcb
 have hzl:(Qm 16).length=16:=by simp [Qm]
 by_cases h320:320<n
 ·have e:Hid (Z=false):=jd (by
   rw [← hZ.out];unfold mayF
   have:=hl.out
   rw [decide_eq_false (by omega),Bool.false_and])
  have hI:(320:Int)<(n:Int):=by omega
  go_wp2_with (first
   | (refine wpList_load16 rfl _ rfl rfl hzl H ?_)
   | (refine wpList_store16 rfl _ _ rfl rfl hzl hzl H.swap rfl ?_;clear H;intro w2 H))
  refine bodyPost_ret (results_cell2 rfl _ _ rb _ _ _ _ rfl H.block.1 Tryz.underlying423 rfl (arrInfo _ hzl)) rfl ?_
  exact ⟨_,rfl,⟨_,hzl,by rw [e.out];rfl,fun h=>by rw [e.out] at h;cases h⟩,H.bare⟩
 ·have hI:¬ (320:Int)<(n:Int):=by omega
  go_wp2_with fail
  go_loopw [13] (fun s13 wx=>∃ i:Nat,s13=.int .i64 i∧i≤n∧Hid ((F.take i).all okLen=true)∧Own w wx [blk cb (.cells (nums (bumpF (Qm 16) (F.take i))).toArray 423),blk rb (.cells (nums (Qm 16)).toArray 423)]) (fun s13 _=>n-(intOf s13).toNat)
  case atStart=>exact ⟨0,by go_num,by omega,jd rfl,by simpa [bumpF] using H⟩
  case round=>
   clear H
   obtain ⟨i,rfl,hi,hal,H⟩:=hrel
   have hbl:(bumpF (Qm 16) (F.take i)).length=16:=by rw [Jl];exact hzl
   by_cases hlt:i<n
   ·have hI2:(i:Int)<(n:Int):=by omega
    have hs:=all_take_succ (p:=okLen) (F:=F) (i:=i) (by have:=hl.out;omega)
    have hbt:bumpF (Qm 16) (F.take (i+1))=bump1 (bumpF (Qm 16) (F.take i)) (F.getD i 0):=bump_take (Za (by have:=hl.out;omega))
    have hbb:=fun j=>bump_bound (F.take i) (Qm 16) j 0 (fun j=>by rw [Vg];omega)
    have hll:(F.take i).length≤1000000:=by rw [List.length_take];omega
    obtain ⟨b,o,rfl,c1⟩:=rd_at HR.out H hlt
    have hbad:okLen (F.getD i 0)=false→Hid (Z=false):=fun h=>jd (by
     rw [← hZ.out]
     unfold mayF
     have:F.all okLen=false:=by
      rw [List.all_eq_false]
      refine ⟨F.getD i 0,?_,by rw [h];simp⟩
      rw [List.getD_eq_getElem?_getD,List.getElem?_eq_getElem (by have:=hl.out;omega)]
      exact List.getElem_mem _
     rw [this,Bool.and_false])
    rw [hal.out,Bool.true_and] at hs
    generalize F.getD i 0=x at *
    generalize hcs:bumpF (Qm 16) (F.take i)=cs at *
    by_cases h0:x<0
    ·have e:=hbad (by simp [okLen];omega)
     clear hs hbad hbt hbb
     go_wp2_with (first
      | (refine wpList_load16 rfl _ rfl rfl hbl H ?_)
      | (refine wpList_store16 rfl _ _ rfl rfl hzl hbl H.swap rfl ?_;clear H;intro w2 H))
     refine bodyPost_ret (results_cell2 rfl _ _ rb _ _ _ _ rfl H.block.1 Tryz.underlying423 rfl (arrInfo _ hbl)) rfl ?_
     exact ⟨_,rfl,⟨_,hbl,by rw [e.out];rfl,fun h=>by rw [e.out] at h;cases h⟩,H.bare⟩
    ·by_cases h15:15<x
     ·have e:=hbad (by simp [okLen];omega)
      clear hs hbad hbt hbb
      go_wp2_with (first
       | (refine wpList_load16 rfl _ rfl rfl hbl H ?_)
       | (refine wpList_store16 rfl _ _ rfl rfl hzl hbl H.swap rfl ?_;clear H;intro w2 H))
      refine bodyPost_ret (results_cell2 rfl _ _ rb _ _ _ _ rfl H.block.1 Tryz.underlying423 rfl (arrInfo _ hbl)) rfl ?_
      exact ⟨_,rfl,⟨_,hbl,by rw [e.out];rfl,fun h=>by rw [e.out] at h;cases h⟩,H.bare⟩
     ·have e:Hid ((F.take (i+1)).all okLen=true):=jd (by rw [hs];simp [okLen];omega)
      obtain ⟨m,rfl⟩:∃ m:Nat,x=m:=⟨x.toNat,by omega⟩
      have hb1:=hbb m
      have c0:=H.cells m
      rw [arr_get (by omega)] at c0
      have hst:(nums cs).toArray.setIfInBounds m (.int .i64 (cs.getD m 0+1))=(nums (bump1 cs m)).toArray:=arr_set _ _ _
      obtain ⟨y,hy⟩:∃ y,Hid (cs.getD m 0=y):=⟨_,rfl⟩
      rw [hy.out] at c0 hst hb1
      have hyw:IntKind.i64.wrap (y+1)=y+1:=IntWalk.i64_in _ ⟨by omega,by omega⟩
      have hmI:(m:Int)<16:=by omega
      have HST:=jd hst
      have HBT:=jd hbt
      have hfit:m<(nums cs).toArray.size:=by rw [List.size_toArray,Qg];omega
      clear hs hbad hbt hbb hst hb1
      go_wp2_with (refine Qh rfl _ _ rfl rfl H rfl (by kernel_rfl) hfit ?_;clear H c0;intro w2 H;rw [HST.out] at H)
      go_roundw
      case rel=>exact ⟨i+1,by go_num,by omega,e,by rw [HBT.out];exact H⟩
      case measure=>simp [intOf];omega
   ·obtain rfl:i=n:=by omega
    have hI2:¬ (i:Int)<(i:Int):=by omega
    have e:Hid (Z=true):=jd (by
     rw [← hZ.out];unfold mayF
     have h1:=hal.out
     rw [List.take_of_length_le (by have:=hl.out;omega)] at h1
     rw [h1,Bool.and_true,hl.out]
     simp;omega)
    have hst:(nums (bumpF (Qm 16) (F.take i))).toArray.setIfInBounds 0 (.int .i64 0)=(nums (Zf F)).toArray:=by
     rw [arr_set,List.take_of_length_le (by have:=hl.out;omega)];rfl
    have hcl:(Zf F).length=16:=by unfold Zf;rw [List.length_set,Jl];exact hzl
    have HST:=jd hst
    have hfit:0<(nums (bumpF (Qm 16) (F.take i))).toArray.size:=by rw [List.size_toArray,Qg];omega
    clear hst
    go_wp2_with (first
     | (refine wpList_load16 rfl _ rfl rfl hcl H ?_)
     | (refine Qh rfl _ _ rfl rfl H rfl (by kernel_rfl) hfit ?_;clear H;intro w2 H;rw [HST.out] at H)
     | (refine wpList_store16 rfl _ _ rfl rfl hzl hcl H.swap rfl ?_;clear H;intro w2 H))
    refine bodyPost_ret (results_cell2 rfl _ _ rb _ _ _ _ rfl H.block.1 Tryz.underlying423 rfl (arrInfo _ hcl)) rfl ?_
    exact ⟨_,rfl,⟨_,hcl,by rw [e.out];rfl,fun _=>rfl⟩,H.bare⟩
set_option maxHeartbeats 1600000 in
theorem left_any{w:World}{cs:List Int}(hl:cs.length=16)(hb:∀ k,0≤cs.getD k 0∧cs.getD k 0≤1000000) :
 Calls Tryz.prog 325 #[.agg (nums cs).toArray] w (Ret fun r w'=>r=.int .i64 (leftF cs)∧Own w w' []):=by
 obtain ⟨Z,hZ⟩:∃ Z,Hid (leftF cs=Z):=⟨_,rfl⟩
 rw [hZ.out]
 have HB:=jd hb
 have H:=(Own.start w).alloc (.cells (nums cs).toArray 423)
 clear hb
 go_enter Tryz.func325,Tryz.ntmps325
 go_upto_region 2 with (fail)
 generalize w.alloc (.cells (nums cs).toArray 423)=wa at *
 generalize w.heap.size=b at *
 go_wp2_with fail
 go_loopw [3,8] (fun s3 s8 wx=>∃ (j:Nat) (n:Int),s8=.int .i64 j∧j≤15∧s3=.int .i64 n∧0≤n∧Hid (n≤((2^j:Nat):Int))∧Hid (leftL n (cs.drop (1+j))=Z)∧Own w wx [blk b (.cells (nums cs).toArray 423)]) (fun _ s8 _=>15-(intOf s8).toNat)
 case atStart=>exact ⟨0,1,by go_num,by omega,by go_num,by omega,jd (by simp),jd hZ.out,H⟩
 case round=>
  clear H
  obtain ⟨j,n,rfl,hj,rfl,hn,hn2,hlf,H⟩:=hrel
  have hn3:n≤32768:=by
   have h1:=hn2.out
   have h2:(2^j:Nat)≤2^15:=Nat.pow_le_pow_right (by omega) hj
   omega
  by_cases hlt:j<15
  ·have hI:(j:Int)<15:=by omega
   have c0:=H.cells (1+j)
   rw [arr_get (by omega)] at c0
   have hk:=HB.out (1+j)
   have hd:cs.drop (1+j)=cs.getD (1+j) 0::cs.drop (1+(j+1)):=by
    rw [List.drop_eq_getElem_cons (by omega),List.getD_eq_getElem?_getD,List.getElem?_eq_getElem (by omega)]
    rfl
   have hlf2:=hlf.out
   rw [hd,leftL] at hlf2
   generalize cs.getD (1+j) 0=k at *
   have hw1:IntKind.i64.wrap (2*n)=2*n:=IntWalk.i64_in _ ⟨by omega,by omega⟩
   have hw2:IntKind.i64.wrap (2*n-k)=2*n-k:=IntWalk.i64_in _ ⟨by omega,by omega⟩
   by_cases hneg:2*n-k<0
   ·rw [if_pos hneg] at hlf2
    have e:=jd hlf2.symm
    clear hlf2 hd hlf
    go_wp2_with fail
    go_ret
    exact ⟨_,rfl,by rw [e.out];rfl,H.bare⟩
   ·rw [if_neg hneg] at hlf2
    have e:=jd hlf2
    have hp:Hid (2*n-k≤((2^(j+1):Nat):Int)):=jd (by
     have:=hn2.out
     rw [Nat.pow_succ]
     omega)
    clear hlf2 hd hlf hn2
    go_wp2_with fail
    go_roundw
    case rel=>exact ⟨j+1,2*n-k,by go_num,by omega,by go_num,by omega,hp,e,H⟩
    case measure=>simp [intOf];omega
  ·obtain rfl:j=15:=by omega
   have e:Hid (n=Z):=jd (by
    have:=hlf.out
    rw [List.drop_eq_nil_of_le (by omega)] at this
    exact this)
   clear hlf
   go_wp2_with fail
   go_ret
   exact ⟨_,rfl,by rw [← e.out];rfl,H.bare⟩
set_option maxHeartbeats 400000 in
theorem Vn{w0 w:World}{ps:List Piece}{g:Nat}{bs:List Bool}(v n:Int)(hv:-9223372036854775808≤v∧v≤9223372036854775807)(hn:-9223372036854775808≤n∧n≤9223372036854775807)(H:Own w0 w (Wtr g bs::ps))(hl:bs.length≤35184372088000) :
 Calls Tryz.prog 127 #[.pointer (some ⟨g,0,none⟩),.int .i64 v,.int .i64 n] w (Ret fun _ w'=>Own w0 w' (Wtr g (bs++Qj v (cut n))::ps)):=by
 obtain ⟨hv1,hv2⟩:=hv
 obtain ⟨hn1,hn2⟩:=hn
 obtain ⟨m,hm,hm62⟩:∃ m:Nat,Hid (cut n=m)∧m≤62:=⟨_,jd rfl,by unfold cut;omega⟩
 have hmn:Hid (min (max n 0) 62=(m:Int)):=jd (by rw [← hm.out];unfold cut;omega)
 go_enter Tryz.func127,Tryz.ntmps127
 go_upto_region 1 with (fail)
 go_cut [11,12] (fun s11 s12 wx=>wx=w∧s11=.int .i64 m∧s12=.int .i64 0)
 case first=>
  go_wp2
  all_goals go_meet
  all_goals exact ⟨rfl,val_int (by have:=hmn.out;omega),rfl⟩
 case rest=>
  obtain ⟨rfl,rfl,rfl⟩:=hcut
  go_wp2_with fail
  go_loopw [12] (fun i wx=>∃ k:Nat,k≤m∧i=.int .i64 k∧Own w0 wx (Wtr g (bs++Qj v k)::ps)) (fun i _=>m-(intOf i).toNat)
  case atStart=>exact ⟨0,Nat.zero_le _,rfl,by simpa [Qj] using H⟩
  case round=>
   clear H
   obtain ⟨k,hk,rfl,H⟩:=hrel
   by_cases hlt:k<m
   ·obtain ⟨b,hbb⟩:∃ b,Hid (bitOf v k=b):=⟨_,rfl⟩
    have hbit:bits .and .i64 (v/2^k) 1=bi b:=by rw [i64_and1,← hbb.out,bi_bitOf]
    go_wp2_with fail
    refine (bit_any b H (by simp [Qd];omega)).mono ?_
    rintro e w2 ⟨_,rfl,h2⟩
    replace H:Own w0 w2 (Wtr g (bs++Qj v (k+1))::ps):=by rw [bitsOf_succ,← List.append_assoc,hbb.out];exact h2
    clear h2
    go_wp2
    go_roundw
    case rel=>exact ⟨k+1,by omega,by go_num,H⟩
    case measure=>simp [intOf];omega
   ·obtain rfl:k=m:=by omega
    go_wp2
    go_end0
    rw [hm.out]
    exact ⟨_,rfl,H⟩
set_option maxHeartbeats 400000 in
theorem code_any{w0 w:World}{ps:List Piece}{g:Nat}{bs:List Bool}(v n:Int)(hv:-9223372036854775808≤v∧v≤9223372036854775807)(hn:-9223372036854775808≤n∧n≤9223372036854775807)(H:Own w0 w (Wtr g bs::ps))(hl:bs.length≤35184372088000) :
 Calls Tryz.prog 322 #[.pointer (some ⟨g,0,none⟩),.int .i64 v,.int .i64 n] w (Ret fun _ w'=>Own w0 w' (Wtr g (bs++(Qj v (cut n)).reverse)::ps)):=by
 obtain ⟨hv1,hv2⟩:=hv
 obtain ⟨hn1,hn2⟩:=hn
 obtain ⟨m,hm,hm62⟩:∃ m:Nat,Hid (cut n=m)∧m≤62:=⟨_,jd rfl,by unfold cut;omega⟩
 have hmn:Hid (min (max n 0) 62=(m:Int)):=jd (by rw [← hm.out];unfold cut;omega)
 go_enter Tryz.func322,Tryz.ntmps322
 go_upto_region 1 with (fail)
 go_cut [6] (fun s6 wx=>wx=w∧s6=.int .i64 ((m:Int)-1))
 case first=>
  go_wp2
  all_goals go_meet
  all_goals exact ⟨rfl,val_int (by have:=hmn.out;omega)⟩
 case rest=>
  obtain ⟨rfl,rfl⟩:=hcut
  go_wp2_with fail
  go_loopw [6] (fun i wx=>∃ k:Nat,∃ d:Int,k≤m∧i=.int .i64 d∧Hid (d=(m:Int)-1-k)∧Own w0 wx (Wtr g (bs++(Qj v m).reverse.take k)::ps)) (fun i _=>(intOf i+1).toNat)
  case atStart=>exact ⟨0,_,Nat.zero_le _,rfl,jd (by omega),by simpa using H⟩
  case round=>
   clear H
   obtain ⟨k,d,hk,rfl,hd,H⟩:=hrel
   by_cases hlt:k<m
   ·obtain ⟨j,hj⟩:∃ j,Hid (m-1-k=j):=⟨_,rfl⟩
    obtain rfl:d=(j:Int):=by have:=hd.out;have:=hj.out;omega
    have hj62:j<62:=by have:=hj.out;omega
    obtain ⟨b,hbb⟩:∃ b,Hid (bitOf v j=b):=⟨_,rfl⟩
    have hbit:bits .and .i64 (v/2^j) 1=bi b:=by rw [i64_and1,← hbb.out,bi_bitOf]
    go_wp2_with fail
    refine (bit_any b H (by simp [Qd];omega)).mono ?_
    rintro e w2 ⟨_,rfl,h2⟩
    replace H:Own w0 w2 (Wtr g (bs++(Qj v m).reverse.take (k+1))::ps):=by rw [codeBits_take v m k hlt,← List.append_assoc,hj.out,hbb.out];exact h2
    clear h2
    go_wp2
    go_roundw
    case rel=>exact ⟨k+1,_,by omega,rfl,jd (by have:=hd.out;omega),H⟩
    case measure=>simp [intOf]
   ·have hd0:d<0:=by have:=hd.out;omega
    obtain rfl:k=m:=by omega
    rw [List.take_of_length_le (by simp [Qd])] at H
    go_wp2
    go_end0
    rw [hm.out]
    exact ⟨_,rfl,H⟩
theorem u64_mask(k:Nat)(h:k≤1000000):bits .and .u64 (k:Int) 4294967295=(k:Int):=by
 have key:IntKind.u64.wrap ((BitVec.ofInt 64 (k:Int) &&& BitVec.ofInt 64 ((4294967295:Nat):Int)).toNat:Int)=(k:Int):=by
  rw [BitVec.ofInt_natCast,BitVec.ofInt_natCast,BitVec.toNat_and,BitVec.toNat_ofNat,BitVec.toNat_ofNat,Nat.mod_eq_of_lt (by omega),Nat.mod_eq_of_lt (by omega)]
  have:=Nat.and_two_pow_sub_one_eq_mod k 32
  rw [show 2^32-1=4294967295 by decide] at this
  rw [this,Nat.mod_eq_of_lt (by omega)]
  exact IntWalk.u64_in _ ⟨by omega,by omega⟩
 exact key
set_option maxRecDepth 100000 in
theorem mul64_any(k:Nat)(h:k≤1000000)(w:World) :
 Calls Tryz.prog 133 #[.int .u64 1,.int .u64 k] w (Ret fun r w'=>r=.tuple #[.int .u64 0,.int .u64 k]∧Own w w' []):=by
 have H:=Own.start w
 have h1:=u64_mask k h
 have h2:bits .and .u64 1 4294967295=1:=by decide
 have h3:(k:Int)/4294967296=0:=by omega
 go_enter Tryz.func133,Tryz.ntmps133
 go_wp2_with fail
 go_ret2
 exact ⟨_,rfl,rfl,H⟩
theorem mul_any(k:Nat)(h:k≤1000000)(w:World) :
 Calls Tryz.prog 81 #[.int .u64 1,.int .u64 k] w (Ret fun r w'=>r=.tuple #[.int .u64 0,.int .u64 k]∧Own w w' []):=by
 have H:=Own.start w
 have h2:=mul64_any k h
 go_enter Tryz.func81,Tryz.ntmps81
 go_wp2_with fail
 refine (h2 _).mono ?_
 rintro e w2 ⟨_,rfl,rfl,H2⟩
 have H:=H.join H2
 go_wp2_with fail
 go_ret2
 exact ⟨_,rfl,rfl,H⟩
end Go.Proofs.YthekdeikodppkaaGreatDoor
