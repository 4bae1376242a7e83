/-
  Texts of this claim, one behind the other: lz; lz; multi; multi; multi; multi; flate; flate; slices.Grow of nil, slices.Concat; flate; lz; What comes in; flate; flate; flate; path.Under, filemap.clash; Few, Files; sledgelaw19.Files; flate; flate.
-/
import Derived.Test.YthekdeikodppkaaGreatDoorKb7
import Derived.Shelf.Slices.SearchI
import Derived.Ground.NamesProg
import Derived.KernelRfl
import Derived.Laws.ResultCell
import Derived.Lib.AppendZeros
import Derived.Carry
import Derived.Test.YthekdeikodppkaaGreatDoorRows
import Derived.Deep.OwnRows
import Derived.RegionTactic
set_option linter.unusedVariables false
namespace Go.Proofs.YthekdeikodppkaaGreatDoor
open Go.RowKit Go.Maps
def gOf(s:ByteArray)(i:Nat):UInt8 × UInt8 × UInt8→Int:=fun k=>(prev s k i:Int)
set_option maxRecDepth 100000 in
theorem gOf_zero(s:ByteArray):gOf s 0=fun _=>0:=rfl
set_option maxRecDepth 100000 in
theorem gOf_put{s:ByteArray}{i:Nat}(h:i+3≤s.size):gOf s (i+1)=fun x=>if x=key3 s i then (i:Int)+1 else gOf s i x:=by
 funext x
 unfold gOf
 rw [prev]
 by_cases hx:x=key3 s i
 ·subst hx
  rw [if_pos ⟨h,rfl⟩,if_pos rfl]
  omega
 ·rw [if_neg (fun hh=>hx hh.2.symm),if_neg hx]
set_option maxRecDepth 100000 in
theorem gOf_skip{s:ByteArray}{i:Nat}(h:¬ i+3≤s.size):gOf s (i+1)=gOf s i:=by
 funext x
 unfold gOf
 rw [prev,if_neg (fun hh=>h hh.1)]
structure Backs (s:ByteArray) (i:Nat) (xs:List Int):Prop where
 len:xs.length=s.size
 get:∀ q,q<i→q+3≤s.size→xs[q]?=some (prev s (key3 s q) q:Int)
set_option maxRecDepth 100000 in
theorem Backs.put{s:ByteArray}{i:Nat}{xs:List Int}(h:Backs s i xs)(hi:i+3≤s.size):Backs s (i+1) (xs.set i (prev s (key3 s i) i:Int)):=by
 refine ⟨by simpa using h.len,fun q h1 h2=>?_⟩
 have hl:=h.len
 rw [List.getElem?_set]
 by_cases hq:i=q
 ·subst hq
  rw [if_pos rfl,if_pos (by omega)]
 ·rw [if_neg hq]
  exact h.get q (by omega) h2
set_option maxRecDepth 100000 in
theorem Backs.skip{s:ByteArray}{i:Nat}{xs:List Int}(h:Backs s i xs)(hi:¬ i+3≤s.size):Backs s (i+1) xs:=
 ⟨h.len,fun q h1 h2=>h.get q (by omega) h2⟩
def Fnd(g:Nat)(s:ByteArray)(i:Nat):Piece:=ex fun p:Nat × Value × List Int=>
 star (blk g (.cells #[.string s,.map (some p.1),p.2.1] 304)) (star (mpi Tryz.prog 393 3 k3 p.1 i (gOf s i)) (star (slc 3 1 p.2.1 s.size (nums p.2.2)) (fact (Backs s i p.2.2))))
section
variable {w0 w:World} {ps:List Piece} {g b i:Nat} {s:ByteArray} {xs:List Int} {v:Value}
set_option maxRecDepth 100000 in
theorem fnd_open(h:Own w0 w (Fnd g s i::ps)):∃ b v xs,Backs s i xs∧Own w0 w (blk g (.cells #[.string s,.map (some b),v] 304)::mpi Tryz.prog 393 3 k3 b i (gOf s i)::slc 3 1 v s.size (nums xs)::ps):=by
 obtain ⟨⟨b,v,xs⟩,h⟩:=h.ex
 have h:=h.star.swap.star.swap.star.swap.fact
 exact ⟨b,v,xs,h.1,(h.2.swap.front 2 rfl)⟩
set_option maxRecDepth 100000 in
theorem fnd_shut(hb:Backs s i xs)(h:Own w0 w (blk g (.cells #[.string s,.map (some b),v] 304)::mpi Tryz.prog 393 3 k3 b i (gOf s i)::slc 3 1 v s.size (nums xs)::ps)):Own w0 w (Fnd g s i::ps):=
 Own.unex (f:=fun p:Nat × Value × List Int=>Go.Proofs.YthekdeikodppkaaGreatDoor.star (blk g (.cells #[.string s,.map (some p.1),p.2.1] 304)) (Go.Proofs.YthekdeikodppkaaGreatDoor.star (mpi Tryz.prog 393 3 k3 p.1 i (gOf s i)) (Go.Proofs.YthekdeikodppkaaGreatDoor.star (slc 3 1 p.2.1 s.size (nums p.2.2)) (Go.Proofs.YthekdeikodppkaaGreatDoor.fact (Backs s i p.2.2))))) (b,v,xs)
  ((((h.front 2 rfl).unfact hb).swap.unstar.front 2 rfl).unstar.swap.unstar)
end
set_option maxRecDepth 100000 in
theorem intZero:∀ w,(zeroValue 3).run Tryz.prog w=.ok (.int .i64 0) w:=fun w=>by kernel_rfl
set_option maxRecDepth 100000 in
set_option maxHeartbeats 1600000 in
theorem fput_any{w0 w:World}{ps:List Piece}{g i:Nat}{s:ByteArray}(H:Own w0 w (Fnd g s i::ps))(hi:i<s.size)(hs:s.size≤1000000) :
 Calls Tryz.prog 194 #[.pointer (some ⟨g,0,none⟩),.int .i64 i] w (Ret fun _ w'=>Own w0 w' (Fnd g s (i+1)::ps)):=by
 obtain ⟨b,v,xs,hb,H⟩:=fnd_open H
 have c0:=H.cells
 obtain ⟨z,hz⟩:∃ z,Hid (s.size=z):=⟨_,rfl⟩
 by_cases h3:i+3≤s.size
 ·have h3I:(i:Int)+3≤(s.size:Int):=by omega
  have HB:=jd (hb.put h3)
  clear hb
  obtain ⟨kl,hkl⟩:=k3_key w (key3 s i)
  have HK:=jd hkl
  clear hkl
  obtain ⟨rb,c,rfl,hc1,hc2,_⟩:=(H.front 2 rfl).at (by rw [Qg];have:=HB.out.len;simp at this;omega)
  go_enter Tryz.func194,Tryz.ntmps194
  go_wp2_with fail
  refine (fkey_any H h3 hs).mono ?_
  rintro e w1 ⟨_,rfl,rfl,H1⟩
  clear H c0
  obtain ⟨x0,x1,x2,hk⟩:∃ x0 x1 x2:Int,Hid (k3 (key3 s i)=.agg #[.int .u8 x0,.int .u8 x1,.int .u8 x2]):=⟨_,_,_,jd rfl⟩
  rw [hk.out]
  have hupd:=jd (gOf_put h3)
  have hlk:Hid (gOf s i (key3 s i)=(prev s (key3 s i) i:Int)):=jd rfl
  obtain ⟨pv,hpv⟩:∃ pv,Hid (prev s (key3 s i) i=pv):=⟨_,rfl⟩
  rw [hpv.out] at HB hlk
  obtain ⟨G,hG⟩:∃ G,Hid (gOf s i=G):=⟨_,rfl⟩
  have hG':=hG.out
  rw [hG'] at H1 hupd hlk
  clear hG'
  have c0:=H1.cells
  go_upto_region 2 with (refine Qe rfl _ _ rfl rfl (H1.alloc _) rfl (by kernel_rfl) (by simp) (by simp;exact ⟨rfl,rfl,rfl⟩) rfl ?_;clear H1 c0;intro w5 H)
  generalize w1.heap.size=kb at *
  refine Qa (fun w1=>Own w0 w1 (blk kb (.cells #[.int .u8 x0,.int .u8 x1,.int .u8 x2] 393)::blk g (.cells #[.string s,.map (some b),.slice (some ⟨rb,0,none⟩) s.size c] 304)::mpi Tryz.prog 393 3 k3 b i G::slc 3 1 (.slice (some ⟨rb,0,none⟩) s.size c) s.size (nums xs)::ps)) 12 (by kernel_rfl) (by kernel_rfl) H.drew ?_
  simp only [List.take_succ_cons,List.take_zero,List.drop_succ_cons,List.drop_zero]
  repeat
   first
   | (refine calm_value (v:=?_) (by decide) rfl (fun σ w1 hS=>?_) ?_
      rotate_left
      ·have c0:=hS.swap.cells;have c1:=hS.cells
       first | (go_simp;rfl) | rfl
      simp only [Act.put,putC])
   | (refine calm_skip (by decide) rfl ?_
      simp only [Act.put,putC])
  refine calm_lookup (b:=b) (n:=i) (g:=G) (w0:=w0) (k:=key3 s i) _ _ (by decide) rfl rfl rfl ?_ (fun σ w hS=>⟨_,(hS.front 2 rfl)⟩) k3_law Tryz.underlying302 Tryz.underlying3 intZero HK.out ?_
  ·exact hk.out.symm
  repeat
   first
   | (refine calm_value (v:=?_) (by decide) rfl (fun σ w1 hS=>?_) ?_
      rotate_left
      ·have c0:=hS.swap.cells;have c1:=hS.cells
       first | (go_simp;rfl) | rfl
      simp only [Act.put,putC])
   | (refine calm_skip (by decide) rfl ?_
      simp only [Act.put,putC])
  refine calm_nil ?_
  intro wd HD
  clear H
  rw [hlk.out]
  go_upto_region 3 with (refine Ja rfl _ _ rfl (j:=i) rfl (HD.front 3 rfl) (.int .i64 pv) rfl (by kernel_rfl) (by omega) rfl ?_;clear HD;intro w6 H)
  have hw1:IntKind.i64.wrap ((i:Int)+1)=(i:Int)+1:=IntWalk.i64_in _ ⟨by omega,by omega⟩
  have hset:(nums xs).set i (.int .i64 (pv:Int))=nums (xs.set i (pv:Int)):=by simp [nums,List.map_set]
  rw [hset] at H
  have H:Own w0 w6 (blk kb (.cells #[.int .u8 x0,.int .u8 x1,.int .u8 x2] 393)::blk g (.cells #[.string s,.map (some b),.slice (some ⟨rb,0,none⟩) s.size c] 304)::mpi Tryz.prog 393 3 k3 b i G::slc 3 1 (.slice (some ⟨rb,0,none⟩) s.size c) s.size (nums (xs.set i (pv:Int)))::ps):=(((((H.front 3 rfl).front 3 rfl).front 3 rfl)))
  refine Qa (fun w1=>Own w0 w1 (blk kb (.cells #[.int .u8 x0,.int .u8 x1,.int .u8 x2] 393)::blk g (.cells #[.string s,.map (some b),.slice (some ⟨rb,0,none⟩) s.size c] 304)::mpi Tryz.prog 393 3 k3 b i G::slc 3 1 (.slice (some ⟨rb,0,none⟩) s.size c) s.size (nums (xs.set i (pv:Int)))::ps)) 7 (by kernel_rfl) (by kernel_rfl) H.drew ?_
  simp only [List.take_succ_cons,List.take_zero,List.drop_succ_cons,List.drop_zero]
  repeat
   first
   | (refine calm_value (v:=?_) (by decide) rfl (fun σ w1 hS=>?_) ?_
      rotate_left
      ·have c0:=hS.swap.cells;have c1:=hS.cells
       first | (go_simp;rfl) | rfl
      simp only [Act.put,putC])
   | (refine calm_skip (by decide) rfl ?_
      simp only [Act.put,putC])
  refine calm_nil ?_
  intro wd2 HD
  clear H
  refine wpList_update_mpi (K:=393) (E:=3) (enc:=k3) rfl _ _ _ rfl (HD.front 2 rfl) k3_law Tryz.underlying302 Tryz.underlying3 (by omega) k3_inj rfl (a:=key3 s i) hk.out.symm HK.out (c:=(i:Int)+1) rfl (by omega) ?_
  clear HD
  intro w7 H
  rw [← hupd.out] at H
  go_wp2
  go_end0
  exact ⟨_,rfl,fnd_shut (b:=b) (v:=.slice (some ⟨rb,0,none⟩) s.size c) HB.out ((((H.front 2 rfl).front 2 rfl).drop))⟩
 ·have h3I:¬ (i:Int)+3≤(s.size:Int):=by omega
  have HB:=jd (hb.skip h3)
  clear hb
  go_enter Tryz.func194,Tryz.ntmps194
  go_wp2
  go_end0
  refine ⟨_,rfl,fnd_shut (b:=b) (v:=v) HB.out ?_⟩
  rw [gOf_skip h3]
  exact (H.swap.mpi_mono (Nat.le_succ i)).swap
end Go.Proofs.YthekdeikodppkaaGreatDoor
namespace Go.Proofs.YthekdeikodppkaaGreatDoor
open Go.RowKit Go.Maps
set_option maxRecDepth 100000 in
set_option maxHeartbeats 3200000 in
theorem lzfind_any{w0 w:World}{ps:List Piece}{g i:Nat}{s:ByteArray}(H:Own w0 w (Fnd g s i::ps))(hi:i<s.size)(hs:s.size≤1000000) :
 Calls Tryz.prog 193 #[.pointer (some ⟨g,0,none⟩),.int .i64 i] w (Ret fun r w'=>r=.tuple #[.int .i64 (found s i).1,.int .i64 (found s i).2]∧Own w0 w' (Fnd g s i::ps)):=by
 have H0:=H
 obtain ⟨b,v,xs,hb,H⟩:=fnd_open H
 have hw3:IntKind.i64.wrap ((i:Int)+3)=(i:Int)+3:=IntWalk.i64_in _ ⟨by omega,by omega⟩
 by_cases h3:i+3≤s.size
 ·have h3I:¬ (s.size:Int)<(i:Int)+3:=by omega
  have HB:=jd hb
  clear hb H0
  obtain ⟨kl,hkl⟩:=k3_key w (key3 s i)
  have HK:=jd hkl
  clear hkl
  obtain ⟨rb,c,rfl,hc1,hc2,_⟩:=(H.front 2 rfl).at (by rw [Qg];have:=HB.out.len;omega)
  obtain ⟨F,hF⟩:∃ F,Hid (found s i=F):=⟨_,rfl⟩
  rw [hF.out]
  obtain ⟨k0,hk0⟩:∃ k0,Hid (k3 (key3 s i)=k0):=⟨_,rfl⟩
  have hlk:Hid (gOf s i (key3 s i)=(prev s (key3 s i) i:Int)):=jd rfl
  obtain ⟨pv,hpv⟩:∃ pv,Hid (prev s (key3 s i) i=pv):=⟨_,rfl⟩
  rw [hpv.out] at hlk
  obtain ⟨G,hG⟩:∃ G,Hid (gOf s i=G):=⟨_,rfl⟩
  have hG':=hG.out
  rw [hG'] at H hlk
  clear hG'
  obtain ⟨X,hX⟩:∃ X,Hid (nums xs=X):=⟨_,rfl⟩
  rw [hX.out] at H
  have c0:=H.cells
  go_enter Tryz.func193,Tryz.ntmps193
  go_upto_region 4 with (fail)
  clear c0
  refine Qa (fun w1=>Own w0 w1 (blk g (.cells #[.string s,.map (some b),.slice (some ⟨rb,0,none⟩) s.size c] 304)::mpi Tryz.prog 393 3 k3 b i G::slc 3 1 (.slice (some ⟨rb,0,none⟩) s.size c) s.size X::ps)) 9 (by kernel_rfl) (by kernel_rfl) H.drew ?_
  simp only [List.take_succ_cons,List.take_zero,List.drop_succ_cons,List.drop_zero]
  repeat
   first
   | (refine calm_value (v:=?_) (by decide) rfl (fun σ w1 hS=>?_) ?_
      rotate_left
      ·have c0:=hS.cells
       first | (go_simp;rfl) | rfl
      simp only [Act.put,putC])
   | (refine calm_skip (by decide) rfl ?_
      simp only [Act.put,putC])
  refine calm_call (v:=k0) (by decide) rfl (fun w1=>(by go_simp;first | exact ⟨rfl,rfl⟩ | rfl)) (fun σ w1 hS=>?_) ?_
  ·refine (fkey_any hS h3 hs).mono ?_
   rintro e w2 ⟨_,rfl,rfl,h2⟩
   exact ⟨by rw [hk0.out],h2⟩
  simp only [Act.put,putC]
  refine calm_lookup (b:=b) (n:=i) (g:=G) (w0:=w0) (k:=key3 s i) _ _ (by decide) rfl rfl rfl ?_ (fun σ w hS=>⟨_,(hS.front 1 rfl)⟩) k3_law Tryz.underlying302 Tryz.underlying3 intZero HK.out ?_
  ·exact hk0.out.symm
  rw [hlk.out]
  repeat
   first
   | (refine calm_value (v:=?_) (by decide) rfl (fun σ w1 hS=>?_) ?_
      rotate_left
      ·have c0:=hS.cells
       first | (go_simp;rfl) | rfl
      simp only [Act.put,putC])
   | (refine calm_skip (by decide) rfl ?_
      simp only [Act.put,putC])
  refine calm_nil ?_
  intro wd HD
  clear H
  have hseen:Hid (seen s i pv=(0,0)):=jd (by rw [← hpv.out,seen_skip (Nat.le_refl i),seen_start])
  have hpvi:pv≤i:=by rw [← hpv.out];exact prev_le ..
  have hpvk:Hid (0<pv→key3 s (pv-1)=key3 s i):=jd (fun h=>by rw [← hpv.out] at h ⊢;exact (prev_key i h).1)
  obtain ⟨Z,hZ⟩:∃ Z,Hid (s.size=Z):=⟨_,rfl⟩
  clear hpv hlk
  go_wp2_with fail
  go_loopw [6,7,8] (fun s6 s7 s8 wr=>∃ l d p:Nat,s6=.int .i64 l∧s7=.int .i64 d∧s8=.int .i64 p∧p≤i∧Hid (seen s i p=(l,d))∧Hid (0<p→key3 s (p-1)=key3 s i)∧Own w0 wr (blk g (.cells #[.string s,.map (some b),.slice (some ⟨rb,0,none⟩) s.size c] 304)::mpi Tryz.prog 393 3 k3 b i G::slc 3 1 (.slice (some ⟨rb,0,none⟩) s.size c) s.size X::ps)) (fun _ _ s8 _=>(intOf s8).toNat)
  case atStart=>exact ⟨0,0,pv,by simp,by simp,by simp,hpvi,hseen,hpvk,HD⟩
  case round=>
   clear HD hpvi hpvk hseen
   obtain ⟨l,d,p,rfl,rfl,rfl,hpi,hsn,hpk,H⟩:=hrel
   by_cases hp0:p=0
   ·subst hp0
    have hend:Hid (F=(l,d)):=jd (by rw [← hsn.out,← hF.out];exact (seen_end hpi (.inl rfl)).symm)
    clear hpk hsn
    go_wp2
    go_ret2
    refine ⟨_,rfl,by rw [hend.out];rfl,fnd_shut (b:=b) (v:=.slice (some ⟨rb,0,none⟩) s.size c) HB.out ?_⟩
    rw [hG.out,hX.out]
    exact H
   ·obtain ⟨q,rfl⟩:∃ q,p=q+1:=⟨p-1,by omega⟩
    clear hp0
    have hpc:((q+1:Nat):Int)=(q:Int)+1:=by omega
    rw [hpc]
    have hk:=jd (hpk.out (Nat.succ_pos q))
    have e1:q+1-1=q:=rfl
    have hk':=hk.out
    rw [e1] at hk'
    clear hk hpk
    by_cases hwin:i-q≤4096
    ·have hwI:(i:Int)-(q:Int)≤4096:=by omega
     have hhit:=seen_hit (s:=s) (p:=q+1) (Nat.succ_pos q) hpi (by rw [e1];exact hwin) (by rw [e1];exact hk') h3
     rw [e1,hsn.out] at hhit
     have hcm:=comm_le s q i
     obtain ⟨n,hn⟩:∃ n,Hid (comm s q i=n):=⟨_,rfl⟩
     rw [hn.out] at hhit hcm
     have hnx:=seen_skip (s:=s) (at_:=i) (m:=q) (by omega)
     have hpl:=prev_le s (key3 s i) q
     have hpq:0<prev s (key3 s i) q→key3 s (prev s (key3 s i) q-1)=key3 s i:=fun h=>(prev_key q h).1
     have hXq:X[q]?=some (.int .i64 (prev s (key3 s i) q:Nat)):=by
      rw [← hX.out]
      refine Jj ?_
      rw [← hk']
      exact HB.out.get q (by omega) (by omega)
     rw [hhit] at hnx
     obtain ⟨p2,hp2⟩:∃ p2,Hid (prev s (key3 s i) q=p2):=⟨_,rfl⟩
     rw [hp2.out] at hnx hpl hpq hXq
     have HX:=jd hXq
     have HN:=jd hnx
     have HP:=jd hpq
     clear hXq hnx hpq hhit hsn hk' e1
     have c0:=H.cells
     have hqi:q<i:=by omega
     by_cases hln:l<n
     ·have HN':Hid (seen s i p2=(n,i-q)):=jd (by rw [HN.out,if_pos hln])
      have hlnI:(l:Int)<(n:Int):=by omega
      go_wp2_with fail
      refine (fsame_any H (show q≤i by omega) (by omega) hs).mono ?_
      rintro e w1 ⟨_,rfl,rfl,H1⟩
      rw [hn.out]
      clear H c0
      have c0:=H1.cells
      have c1:=(H1.front 2 rfl).rd.cell HX.out
      rw [Nat.zero_add] at c1
      go_wp2_with fail
      go_roundw
      case rel=>exact ⟨n,i-q,p2,by go_num,by simp;omega,by go_num,by omega,HN',HP,H1⟩
      case measure=>simp [intOf];omega
     ·have HN':Hid (seen s i p2=(l,d)):=jd (by rw [HN.out,if_neg hln])
      have hlnI:¬ (l:Int)<(n:Int):=by omega
      go_wp2_with fail
      refine (fsame_any H (show q≤i by omega) (by omega) hs).mono ?_
      rintro e w1 ⟨_,rfl,rfl,H1⟩
      rw [hn.out]
      clear H c0
      have c0:=H1.cells
      have c1:=(H1.front 2 rfl).rd.cell HX.out
      rw [Nat.zero_add] at c1
      go_wp2_with fail
      go_roundw
      case rel=>exact ⟨l,d,p2,by go_num,by go_num,by go_num,by omega,HN',HP,H1⟩
      case measure=>simp [intOf];omega
    ·have hwI:¬ (i:Int)-(q:Int)≤4096:=by omega
     have hend:Hid (F=(l,d)):=jd (by rw [← hsn.out,← hF.out];exact (seen_end hpi (.inr (by omega))).symm)
     clear hsn hk' e1
     go_wp2
     go_ret2
     refine ⟨_,rfl,by rw [hend.out];rfl,fnd_shut (b:=b) (v:=.slice (some ⟨rb,0,none⟩) s.size c) HB.out ?_⟩
     rw [hG.out,hX.out]
     exact H
 ·have h3I:(s.size:Int)<(i:Int)+3:=by omega
  have hf:=jd (found_none (s:=s) (at_:=i) (by omega))
  have c0:=H.cells
  go_enter Tryz.func193,Tryz.ntmps193
  go_wp2
  go_ret2
  exact ⟨_,rfl,by rw [hf.out];rfl,H0⟩
end Go.Proofs.YthekdeikodppkaaGreatDoor
namespace Go.Proofs
open Go.Shelf Go.RowKit
def Tryz.laySearch_ren:Go.Shelf.Ren:=⟨fun | 25=>116 | 31=>181 | 32=>182 | 37=>257 | n=>n,fun | 22=>34 | 3=>3 | 4=>4 | 40=>81 | 0=>0 | n=>n,fun | n=>n⟩
theorem Tryz.laySearch:Go.Proofs.Lays2.n25 Tryz.prog Tryz.laySearch_ren:={
 mixed:=by kernel_rfl
 f25:=Tryz.func116.trans (congrArg some (by kernel_rfl))
 f31:=Tryz.func181.trans (congrArg some (by kernel_rfl))
 f32:=Tryz.func182.trans (congrArg some (by kernel_rfl))
 f37:=Tryz.func257.trans (congrArg some (by kernel_rfl))
 t0:=Tryz.underlying0
 a0:=Tryz.isAgg0
 z0:=Tryz.sizeOf0
 v0:=Tryz.zeroValue0
 t3:=Tryz.underlying3
 a3:=Tryz.isAgg3
 z3:=Tryz.sizeOf3
 v3:=Tryz.zeroValue3
 t4:=Tryz.underlying4
 a4:=Tryz.isAgg4
 z4:=Tryz.sizeOf4
 v4:=Tryz.zeroValue4
 t22:=Tryz.underlying34
 a22:=Tryz.isAgg34
 z22:=Tryz.sizeOf34
 v22:=Tryz.zeroValue34
 t40:=Tryz.underlying81
 a40:=Tryz.isAgg81
 z40:=Tryz.sizeOf81
 v40:=Tryz.zeroValue81 }
end Go.Proofs
namespace Go.Proofs.YthekdeikodppkaaGreatDoor
open Go.RowKit
def nts(l:List Nat):List Value:=l.map fun (n:Nat)=>Value.int .i64 (n:Int)
theorem Zj(l:List Nat):(nts l).length=l.length:=List.length_map _
theorem nts_append(a b:List Nat):nts (a++b)=nts a++nts b:=List.map_append
theorem nts_get{l:List Nat}{i x:Nat}(h:l[i]?=some x):(nts l)[i]?=some (.int .i64 x):=by rw [nts,List.getElem?_map,h];rfl
theorem low_take{want:List Nat}(k:Nat)(h:want.Pairwise (· < ·)):want.take (Jb want k).length=Jb want k∧(want.drop (Jb want k).length).map (· - k)=highF want k∧∀ x∈want.drop (Jb want k).length,k≤x:=by
 have h1:=split_want k h
 have e1:want.take (Jb want k).length=Jb want k:=by
  conv=>lhs;rw [h1]
  rw [show (Jb (Jb want k++(highF want k).map (· + k)) k)=Jb want k by rw [← h1]]
  exact List.take_left
 have e2:want.drop (Jb want k).length=(highF want k).map (· + k):=by
  conv=>lhs;rw [h1]
  rw [show (Jb (Jb want k++(highF want k).map (· + k)) k)=Jb want k by rw [← h1]]
  exact List.drop_left
 refine ⟨e1,?_,?_⟩
 ·rw [e2,List.map_map]
  conv=>rhs;rw [← List.map_id (highF want k)]
  refine List.map_congr_left fun x _=>?_
  simp
 ·rw [e2]
  intro x hx
  obtain ⟨y,-,rfl⟩:=List.mem_map.1 hx
  omega
theorem mkLow_le(want:List Nat)(k:Nat):(Jb want k).length≤want.length:=List.length_filter_le _ _
set_option maxRecDepth 100000 in
set_option maxHeartbeats 6400000 in
theorem mupart_any{w:World}{b o c n:Nat}{want:List Nat}(k:Nat)(hr:Rd w 1 (.slice (some ⟨b,o,none⟩) n c) n (nts want))(hn:n≤1000000)(hk:k≤1000000)(hp:want.Pairwise (· < ·))(hb:∀ x∈want,x<1000000) :
 Calls Tryz.prog 69 #[.slice (some ⟨b,o,none⟩) n c,.int .i64 k] w (Ret fun r w'=>∃ u,r=.tuple #[.slice (some ⟨b,o,none⟩) (Jb want k).length c,u]∧Own w w' (slc 3 1 u (highF want k).length (nts (highF want k))::[])):=by
 have hl:want.length=n:=by have:=hr.len;rw [Zj] at this;omega
 have hnc:n≤c∧c≤9223372036854775807:=by obtain ⟨_,_,e,g1,g2⟩:=hr.shape;cases e;exact ⟨g1,g2⟩
 obtain ⟨hc1,hc2⟩:=hnc
 obtain ⟨t1,t2,t3⟩:=low_take k hp
 have t4:=mkLow_le want k
 obtain ⟨p,hpp⟩:∃ p,Hid ((Jb want k).length=p):=⟨_,rfl⟩
 rw [hpp.out] at t1 t2 t3 t4 ⊢
 obtain ⟨D,hD⟩:∃ D,Hid (want.drop p=D):=⟨_,rfl⟩
 rw [hD.out] at t2 t3
 rw [← t2]
 have hDl:D.length=n-p:=by rw [← hD.out,List.length_drop,hl]
 have hB:=Any.slices_BinarySearch_int (P:=Tryz.prog) Tryz.laySearch b o n c (want.map fun (x:Nat)=>(x:Int)) k w (by rw [List.length_map,hl];exact Nat.le_refl _) (by omega) (fun j hj=>by
  rw [List.length_map] at hj
  have:=Rd.cell hr (j:=j) (u:=.int .i64 (want[j]:Nat)) (nts_get (List.getElem?_eq_getElem hj))
  rw [this,List.getD_eq_getElem?_getD,List.getElem?_map,List.getElem?_eq_getElem hj]
  rfl) (by
  rw [List.take_of_length_le (by rw [List.length_map,hl];exact Nat.le_refl _),List.pairwise_map]
  exact hp.imp fun h=>by omega)
 rw [List.take_of_length_le (by rw [List.length_map,hl];exact Nat.le_refl _)] at hB
 have hcount:(want.map fun (x:Nat)=>(x:Int)).countP (· < (k:Int))=p:=by
  rw [List.countP_map,← hpp.out,Jb,← List.countP_eq_length_filter]
  refine List.countP_congr fun x _=>?_
  simp
 rw [hcount] at hB
 obtain ⟨cb,hcb⟩:∃ cb,Hid ((want.map fun (x:Nat)=>(x:Int)).contains (k:Int)=cb):=⟨_,rfl⟩
 rw [hcb.out] at hB
 replace hB:=jd hB
 obtain ⟨tv,htv⟩:∃ v,Hid (sliced (some ⟨b,o,none⟩) p n c 1=v):=⟨_,rfl⟩
 have hsl:∀ w,(Instr.sliceAt 34 (.slice (some ⟨b,o,none⟩) n c) (some (.int .i64 (p:Int))) none none).run Tryz.prog w=.ok tv w:=fun w=>slc_low (by kernel_rfl) (fun _=>by kernel_rfl) (by omega) htv.out w
 have hrd:Hid (∀ w' qs,Own w w' qs→Rd w' 1 tv (n-p) (nts D)):=jd fun w' qs h=>by
  have hr2:=(hr.old h).cutOf (k:=p) (m:=n) (by omega) (Nat.le_refl _)
  rw [htv.out,Nat.mul_one,Nat.mul_one,nts,List.take_of_length_le (by rw [List.length_map];omega),← List.map_drop,hD.out] at hr2
  exact hr2
 have H0:=Own.start w
 obtain ⟨ta,tc,rfl⟩:∃ ta tc,tv=.slice ta (n-p) tc:=⟨_,_,htv.out.symm⟩
 obtain ⟨m,hm⟩:∃ m,Hid (n-p=m):=⟨_,rfl⟩
 rw [hm.out] at hrd hsl hDl
 have hm9:m≤1000000:=by have:=hm.out;omega
 have hpc:p≤c:=by omega
 have hpcI:(p:Int)≤(c:Int):=by omega
 have hDs:Hid (∀ x∈D,k≤x∧x<1000000):=jd fun x hx=>⟨t3 x hx,hb x (by rw [← hD.out] at hx;exact List.mem_of_mem_drop hx)⟩
 clear hr hp hb t1 t2 t3 hcount htv hD hcb hpp hl
 go_enter Tryz.func69,Tryz.ntmps69
 go_wp2_with fail
 refine hB.out.mono ?_
 rintro e w1 ⟨rfl,q,rfl⟩
 have H:=(H0.drewN q).nil 3 1
 clear H0
 generalize w.drewN q=w1 at *
 replace H:Own w w1 (slc 3 1 (.slice none 0 0) 0 (nts ((D.take 0).map (· - k)))::[]):=H
 go_wp2_with fail
 go_loopw [8,10,21] (fun v8 _ v21 wx=>∃ i:Nat,v21=.int .i64 i∧i≤m∧Own w wx (slc 3 1 v8 i (nts ((D.take i).map (· - k)))::[])) (fun _ _ v21 _=>m-(intOf v21).toNat)
 case atStart=>exact ⟨0,by go_num,by omega,H⟩
 case round=>
  clear H
  obtain ⟨i,rfl,hi,H⟩:=hrel
  obtain ⟨a8,c8,rfl,g1,g2⟩:=H.rd.shape
  by_cases him:i<m
  ·have hiI:(i:Int)<(m:Int):=by omega
   obtain ⟨x,hx⟩:=Ql (l:=D) (k:=i) (by omega)
   have hxk:=hDs.out x (List.mem_of_getElem? hx)
   obtain ⟨hxk1,hxk2⟩:=hxk
   have hrd1:=hrd.out _ _ H
   obtain ⟨b2,o2,c2,e,-⟩:=Rd.some hrd1 (by rw [Zj];omega)
   cases e
   have hcell:=hrd1.cell (nts_get hx)
   obtain ⟨y,hy⟩:∃ y,Hid (x-k=y):=⟨_,rfl⟩
   have ey:IntKind.i64.wrap ((x:Int)-(k:Int))=(y:Int):=by have:=hy.out;rw [IntWalk.i64_in _ ⟨by omega,by omega⟩];omega
   have hst:Hid ((D.take (i+1)).map (· - k)=(D.take i).map (· - k)++[y]):=jd (by rw [List.take_add_one,hx];simp [hy.out])
   replace hx:=jd hx
   clear hrd1
   go_wp2_with (at_builtin;refine Qf (news:=nts [y]) rfl _ _ rfl Tryz.underlying34 intInfo rfl (by decide) rfl H rfl rfl rfl (by simp [nts,Value.oneCell']) (by omega) (by omega) ?_;clear H g1 g2 hcell;intro v9 w9 H)
   rw [← nts_append,← hst.out] at H
   obtain ⟨a9,c9,rfl,g1,g2⟩:=H.rd.shape
   go_roundw
   case rel=>exact ⟨i+1,by go_num,by omega,H⟩
   case measure=>simp [intOf];omega
  ·obtain rfl:i=m:=by omega
   have hnI:¬ (i:Int)<(i:Int):=by omega
   rw [List.take_of_length_le (by omega)] at H
   go_wp2
   go_ret2
   exact ⟨_,rfl,_,rfl,by first | exact H | (rw [List.length_map,hDl];exact H)⟩
set_option maxRecDepth 100000 in
set_option maxHeartbeats 6400000 in
theorem murises_any{w:World}{b o c n N:Nat}{want:List Nat}(hr:Rd w 1 (.slice (some ⟨b,o,none⟩) n c) n (nts want))(hn:n≤1000000)(h1:1≤n)(hp:want.Pairwise (· < ·))(hb:∀ x∈want,x<N)(hN:N≤1000000) :
 Calls Tryz.prog 36 #[.slice (some ⟨b,o,none⟩) n c,.int .i64 N] w (fun e w'=>e=.returned (.bool true)∧w'=w):=by
 have hl:want.length=n:=by have:=hr.len;rw [Zj] at this;omega
 have h1I:(0:Int)<(n:Int):=by omega
 have HE:Hid (∀ (i x:Nat),want[i]?=some x→w.cell? ⟨b,o+i,none⟩=some (.int .i64 x)∧x<N):=jd fun i x h=>⟨Rd.cell hr (nts_get h),hb x (List.mem_of_getElem? h)⟩
 have HP:Hid (∀ (i x y:Nat),want[i]?=some x→want[i+1]?=some y→x<y):=jd fun i x y hx hy=>by
  have g1:=gJ hx
  have g2:=gJ hy
  obtain ⟨k1,e1⟩:=g1
  obtain ⟨k2,e2⟩:=g2
  have:=List.pairwise_iff_getElem.1 hp i (i+1) k1 k2 (by omega)
  rw [e1,e2] at this
  exact this
 clear hr hp hb
 go_enter Tryz.func36,Tryz.ntmps36
 go_wp2_with fail
 go_loopw [5,6,9] (fun _ _ v9 wx=>∃ i:Nat,v9=.int .i64 i∧i≤n∧wx=w) (fun _ _ v9 _=>n-(intOf v9).toNat)
 case atStart=>exact ⟨0,by go_num,by omega,rfl⟩
 case round=>
  obtain ⟨i,rfl,hi,rfl⟩:=hrel
  by_cases hin:i<n
  ·have hiI:(i:Int)<(n:Int):=by omega
   obtain ⟨x,hx⟩:=Ql (l:=want) (k:=i) (by omega)
   obtain ⟨c0,hxN⟩:=HE.out i x hx
   have hx0:¬ (x:Int)<0:=by omega
   have hxI:¬ (N:Int)≤(x:Int):=by omega
   by_cases h0:i=0
   ·subst h0
    rw [Nat.add_zero] at c0
    replace hx:=jd hx
    go_wp2_with fail
    go_roundw
    case rel=>exact ⟨1,by go_num,by omega,(by first | rfl | trivial)⟩
    case measure=>simp [intOf];omega
   ·obtain ⟨j,rfl⟩:∃ j,i=j+1:=⟨i-1,by omega⟩
    obtain ⟨y,hy⟩:=Ql (l:=want) (k:=j) (by omega)
    obtain ⟨c1,-⟩:=HE.out j y hy
    have hyx:=HP.out j y x hy hx
    have hyxI:¬ (x:Int)≤(y:Int):=by omega
    have hj0:(0:Int)<((j+1:Nat):Int):=by omega
    have ej:IntKind.i64.wrap (((j+1:Nat):Int)-1)=(j:Int):=by rw [IntWalk.i64_in _ ⟨by omega,by omega⟩];omega
    have hjn:(j:Int)<(n:Int):=by omega
    obtain ⟨i,hi9⟩:∃ i,Hid (j+1=i):=⟨_,rfl⟩
    rw [hi9.out] at c0 hj0 ej hiI hin ⊢
    replace hx:=jd hx
    replace hy:=jd hy
    go_wp2_with fail
    go_roundw
    case rel=>exact ⟨i+1,by go_num,by omega,(by first | rfl | trivial)⟩
    case measure=>simp [intOf];omega
  ·obtain rfl:i=n:=by omega
   have hnI:¬ (i:Int)<(i:Int):=by omega
   have h1N:0<i:=by omega
   go_wp2
   go_ret
   exact ⟨rfl,rfl⟩
end Go.Proofs.YthekdeikodppkaaGreatDoor
namespace Go.Proofs.YthekdeikodppkaaGreatDoor
open Go.RowKit
section
variable {w0:World} {P:Program} {ops:Array Oper} {nw:List Nat} {R:Act→Prop} {a:Act} {o:Oper} {rest:List Oper} {i:Nat}
theorem calm_callB{f:FuncId}{args:Array Value}{l:List ByteArray}{X:Sig→List Piece}(hX:∀ σ v,X (σ.upd i v)=X σ)(hi:i∈nw)(hr:∀ w,(execOp a.eval o).run P w=.ok (.enter f args) w)
 (hc:∀ w,Own w0 w []→Calls P f args w (Ret fun v w'=>Own w w' (slc 9 1 v l.length (txs l)::[])))
 (h:calm P ops (fun σ w=>Own w0 w (X σ++newS l (σ i))) nw R (i+1) rest a):calm P ops (fun σ w=>Own w0 w (X σ++newS l (σ i))) nw R i (o::rest) a:=
 ncalm_call hi hr (fun σ w hS=>by
  refine (hc w hS.bare).mono ?_
  rintro e w' ⟨v,rfl,h2⟩
  refine ⟨v,rfl,?_⟩
  have h3:Own w0 w (X σ):=Own.tailOf _ (hS.perm (List.perm_append_comm (l₁:=X σ) (l₂:=newS l (σ i))))
  have h4:=(h3.join h2).perm (List.perm_append_comm (l₁:=[slc 9 1 v l.length (txs l)]) (l₂:=X σ))
  have e2:(σ.upd i v) i=some v:=by simp [Sig.upd]
  show Own w0 w' (X (σ.upd i v)++newS l ((σ.upd i v) i))
  rw [hX,e2]
  exact h4) h
theorem calm_callF{f:FuncId}{args:Array Value}{l:List ByteArray}{X:Sig→List Piece}(hX:∀ σ v,X (σ.upd i v)=X σ)(hi:i∈nw)(hr:∀ w,(execOp a.eval o).run P w=.ok (.enter f args) w)
 (hc:∀ w,Own w0 w []→Calls P f args w (Ret fun v w'=>Own w w' (slc 9 1 v l.length (txs l)::[])))
 (h:calm P ops (fun σ w=>Own w0 w (newS l (σ i)++X σ)) nw R (i+1) rest a):calm P ops (fun σ w=>Own w0 w (newS l (σ i)++X σ)) nw R i (o::rest) a:=
 ncalm_call hi hr (fun σ w hS=>by
  refine (hc w hS.bare).mono ?_
  rintro e w' ⟨v,rfl,h2⟩
  refine ⟨v,rfl,?_⟩
  have h3:Own w0 w (X σ):=Own.tailOf _ hS
  have e2:(σ.upd i v) i=some v:=by simp [Sig.upd]
  show Own w0 w' (newS l ((σ.upd i v) i)++X (σ.upd i v))
  rw [hX,e2]
  exact h3.join h2) h
end
abbrev Zr(want:List Nat)(l:List ByteArray):List ByteArray:=proveF noneF nodeF want l
theorem want_len_from{n:Nat}:∀ (l:List Nat) (a:Nat),l.Pairwise (· < ·)→(∀ x∈l,a≤x∧x<n)→l=[]∨a+l.length≤n
 | [],_,_,_=>.inl rfl
 | x::r,a,h1,h2=>by
  right
  have hx:=h2 x (by simp)
  rw [List.pairwise_cons] at h1
  rcases want_len_from r (a+1) h1.2 (fun y hy=>⟨by have:=h1.1 y hy;omega,(h2 y (by simp [hy])).2⟩) with h | h
  ·rw [h,List.length_singleton];omega
  ·rw [List.length_cons];omega
theorem want_len{n:Nat}{l:List Nat}(h1:l.Pairwise (· < ·))(h2:∀ x∈l,x<n):l.length≤n:=by
 rcases want_len_from l 0 h1 (fun x hx=>⟨by omega,h2 x hx⟩) with h | h
 ·rw [h];exact Nat.zero_le _
 ·omega
theorem count_le:∀ (d n:Nat) (want:List Nat),n≤d→1≤n→Jw n want≤n:=by
 intro d
 induction d with
 | zero=>intro n want h h1;omega
 | succ d ih=>
  intro n want h h1
  rw [Jw]
  split
  ·omega
  ·split
   ·omega
   ·have hbd:=Jo n (by omega)
    have a1:=ih (cutN n) (Jb want (cutN n)) (by omega) (by omega)
    have a2:=ih (n-cutN n) (highF want (cutN n)) (by omega) (by omega)
    omega
set_option maxRecDepth 100000 in
set_option maxHeartbeats 12800000 in
theorem muprove_any:∀ (d:Nat) (w:World) (v u:Value) (n m:Nat) (l:List ByteArray) (want:List Nat),n≤d→1≤n→n≤1000000→Rd w 1 v n (txs l)→Rd w 1 u m (nts want)→(∀ s∈l,s.size≤1000000)→want.Pairwise (· < ·)→(∀ x∈want,x<n) →
 Calls Tryz.prog 37 #[.int .i64 32,u,v] w (Ret fun r w'=>Own w w' (slc 9 1 r (Zr want l).length (txs (Zr want l))::[])):=by
 intro d
 induction d with
 | zero=>intro w v u n m l want hd hn1;omega
 | succ d ih=>
  intro w v u n m l want hd hn1 h9 hr hru hs hp hb
  obtain ⟨a,c,rfl,hc1,hc2⟩:=hr.shape
  obtain ⟨ua,uc,rfl,huc1,huc2⟩:=hru.shape
  have hl:l.length=n:=by have:=hr.len;rw [Qr] at this;omega
  have hul:want.length=m:=by have:=hru.len;rw [Zj] at this;omega
  have H:=Own.start w
  by_cases hm0:m=0
  ·subst hm0
   obtain rfl:=eJ hul
   have hpf:Zr [] l=[mroot l]:=by rw [Zr,proveF];simp
   have hR:=mkroot_any n w _ n l (Nat.le_refl _) (by omega) hr hs
   rw [hpf]
   obtain ⟨R,hRR⟩:∃ R,Hid (mroot l=R):=⟨_,rfl⟩
   rw [hRR.out] at hR ⊢
   replace hR:=jd hR
   clear hr hru hs ih hp hb hpf hRR
   go_enter Tryz.func37,Tryz.ntmps37
   go_wp2_with fail
   refine hR.out.mono ?_
   rintro e w1 ⟨rfl,H1⟩
   have H2:=H1.made [.string R] 9 1 1 rfl (by decide)
   go_wp2
   go_ret
   exact ⟨_,rfl,H2⟩
  ·have hm0I:((m:Int)==0)=false:=by simp;omega
   by_cases hn:n=1
   ·subst hn
    have hpf:Zr want l=[]:=by rw [Zr,proveF,if_neg (by intro e;rw [e] at hul;exact hm0 hul.symm),dif_pos (by omega)]
    rw [hpf]
    clear hr hru hs ih hp hb hpf
    go_enter Tryz.func37,Tryz.ntmps37
    go_wp2
    go_ret
    exact ⟨_,rfl,H.nil 9 1⟩
   ·have h2:2≤n:=by omega
    obtain ⟨k,hk⟩:∃ k,Hid (cutN n=k):=⟨_,rfl⟩
    have hbd:=Jo n h2
    rw [hk.out] at hbd
    obtain ⟨k1,k2,k3⟩:=hbd
    have hC:=jd (mkcut_any n (by omega))
    rw [hk.out] at hC
    have hpf:Zr want l=Zr (Jb want k) (l.take k)++Zr (highF want k) (l.drop k):=by
     rw [Zr,proveF,if_neg (by intro e;rw [e] at hul;exact hm0 hul.symm),dif_neg (by omega),hl,hk.out]
    have hlen:(Zr want l).length≤n:=by rw [Zr,prove_count _ _ _ (Nat.le_refl _),hl];exact count_le n n want (Nat.le_refl _) hn1
    rw [hpf] at hlen ⊢
    have n1I:((n:Int)==1)=false:=by simp;omega
    obtain ⟨b,o,c',e,-⟩:=Rd.some hru (by rw [Zj];omega)
    cases e
    have hm9:m≤1000000:=by have:=want_len hp hb;omega
    have hP:=jd (mupart_any k hru hm9 (by omega) hp (fun x hx=>by have:=hb x hx;omega))
    obtain ⟨tv,htv⟩:∃ v,Hid (sliced a k n c 1=v):=⟨_,rfl⟩
    have hsl:∀ w,(Instr.sliceAt 26 (.slice a n c) (some (.int .i64 k)) none none).run Tryz.prog w=.ok tv w:=fun w=>slc_low (by kernel_rfl) (fun _=>by kernel_rfl) (by omega) htv.out w
    obtain ⟨LW,hLW⟩:∃ x,Hid (Jb want k=x):=⟨_,rfl⟩
    obtain ⟨HW,hHW⟩:∃ x,Hid (highF want k=x):=⟨_,rfl⟩
    have hlo:=low_ok (k:=k) hp
    have hhi:=high_ok (k:=k) (n:=n) hp hb
    have htk:=(low_take k hp).1
    have hlle:=mkLow_le want k
    rw [hLW.out,hHW.out] at hP hlen ⊢
    rw [hLW.out] at hlo htk hlle
    rw [hHW.out] at hhi
    obtain ⟨A,hA⟩:∃ A,Hid (Zr LW (l.take k)=A):=⟨_,rfl⟩
    obtain ⟨B,hB⟩:∃ A,Hid (Zr HW (l.drop k)=A):=⟨_,rfl⟩
    rw [hA.out,hB.out] at hlen ⊢
    obtain ⟨p,hpl⟩:∃ p,Hid (LW.length=p):=⟨_,rfl⟩
    rw [hpl.out] at hP htk hlle
    have hkc:k≤c:=by omega
    have hkcI:(k:Int)≤(c:Int):=by omega
    rw [lJ] at hlen
    have HL:Hid (∀ w',Own w w' []→Rd w' 1 (.slice (some ⟨b,o,none⟩) p uc) p (nts LW)):=jd fun w' h=>by
     have hr2:=(hru.old h).take (k:=p) (by omega)
     rw [Nat.mul_one,nts,← List.map_take,htk] at hr2
     exact hr2
    have HA0:Hid (∀ w',Own w w' []→Calls Tryz.prog 37 #[.int .i64 32,.slice (some ⟨b,o,none⟩) p uc,.slice a k c] w' (Ret fun v w2=>Own w' w2 (slc 9 1 v A.length (txs A)::[]))):=jd fun w' h=>by
     have hr2:=(hr.old h).take (k:=k) (by omega)
     rw [Nat.mul_one,txs,← List.map_take] at hr2
     rw [← hA.out]
     exact ih w' _ _ k p (l.take k) LW (by omega) (by omega) (by omega) hr2 (HL.out w' h) (fun s h=>hs s (List.mem_of_mem_take h)) hlo.1 hlo.2
    have HB0:Hid (∀ w' v,Own w w' []→Rd w' 1 v HW.length (nts HW)→Calls Tryz.prog 37 #[.int .i64 32,v,tv] w' (Ret fun v w2=>Own w' w2 (slc 9 1 v B.length (txs B)::[]))):=jd fun w' v h h2=>by
     have hr2:=(hr.old h).cutOf (k:=k) (m:=n) (by omega) (Nat.le_refl _)
     rw [htv.out,Nat.mul_one,Nat.mul_one,txs,List.take_of_length_le (by rw [List.length_map];omega),← List.map_drop] at hr2
     rw [← hB.out]
     exact ih w' _ _ (n-k) HW.length (l.drop k) HW (by omega) (by omega) (by omega) hr2 h2 (fun s h=>hs s (List.mem_of_mem_drop h)) hhi.1 hhi.2
    obtain ⟨na,hna⟩:∃ na,Hid (A.length=na):=⟨_,rfl⟩
    obtain ⟨nb,hnb⟩:∃ na,Hid (B.length=na):=⟨_,rfl⟩
    have hab:na+nb≤1000000:=by rw [← hna.out,← hnb.out];omega
    clear hr hru hs ih hp hb hpf hA hB hk hlo hhi htk hlle hLW hHW hpl hlen HL hul hl htv
    go_enter Tryz.func37,Tryz.ntmps37
    go_wp2_with fail
    refine (hC.out _).mono ?_
    rintro e w1 ⟨rfl,hw1⟩
    obtain rfl:w=w1:=hw1.symm
    go_wp2_with fail
    refine hP.out.mono ?_
    rintro e w2 ⟨_,rfl,u,rfl,H2⟩
    obtain ⟨ua2,uc2,rfl,q1,q2⟩:=H2.rd.shape
    have HBu:Hid (∀ w',Own w2 w' []→Calls Tryz.prog 37 #[.int .i64 32,.slice ua2 HW.length uc2,tv] w' (Ret fun v w3=>Own w' w3 (slc 9 1 v B.length (txs B)::[]))):=jd fun w' h=>HB0.out w' _ (H2.join h).bare (H2.rd.old h)
    have HAu:Hid (∀ w',Own w2 w' []→Calls Tryz.prog 37 #[.int .i64 32,.slice (some ⟨b,o,none⟩) p uc,.slice a k c] w' (Ret fun v w3=>Own w' w3 (slc 9 1 v A.length (txs A)::[]))):=jd fun w' h=>HA0.out w' (H2.join h).bare
    have H3:=Own.start w2
    go_upto_region 7 with (fail)
    refine wp_region_new (fun σ w1=>Own w2 w1 (newS B (σ 11)++newS A (σ 5))) 12 [5,11] (by kernel_rfl) (by kernel_rfl) (by simpa [Sig.no,newS] using H3.drew) ?_
    simp only [List.take_succ_cons,List.take_zero,List.drop_succ_cons,List.drop_zero]
    repeat
     first
     | (refine calm_value (v:=?_) (by decide) rfl (fun σ w1 hS=>?_) ?_
        rotate_left
        ·skip
         first | (go_simp;rfl) | rfl
        simp only [Act.put,putC])
     | (refine calm_skip (by decide) rfl ?_
        simp only [Act.put,putC])
    refine calm_callB (X:=fun σ=>newS B (σ 11)) (fun σ v=>(by simp [Sig.upd])) (by decide) (fun w1=>(by go_simp)) (fun w1 h=>HAu.out w1 h) ?_
    repeat
     first
     | (refine calm_value (v:=?_) (by decide) rfl (fun σ w1 hS=>?_) ?_
        rotate_left
        ·skip
         first | (go_simp;rfl) | rfl
        simp only [Act.put,putC])
     | (refine calm_skip (by decide) rfl ?_
        simp only [Act.put,putC])
    refine calm_callF (X:=fun σ=>newS A (σ 5)) (fun σ v=>(by simp [Sig.upd])) (by decide) (fun w1=>(by go_simp)) (fun w1 h=>HBu.out w1 h) ?_
    refine calm_nil ?_
    intro σ wd hσ HD
    obtain ⟨v1,hv1⟩:=Option.isSome_iff_exists.1 (hσ 5 (by decide))
    obtain ⟨v2,hv2⟩:=Option.isSome_iff_exists.1 (hσ 11 (by decide))
    rw [hv1,hv2] at HD
    replace HD:Own w2 wd (slc 9 1 v2 B.length (txs B)::slc 9 1 v1 A.length (txs A)::[]):=HD
    clear H3
    simp only [Jx,List.foldl_cons,List.foldl_nil,hv1,hv2]
    simp only [Act.put,List.setIfInBounds_toArray,List.set_cons_zero,List.set_cons_succ,List.getElem?_cons_succ,List.getElem?_cons_zero,Option.bind_some,Option.getD_some]
    have hrow:=HD.rd
    rw [hnb.out] at hrow
    have H4:=HD.swap
    rw [hna.out] at H4
    go_wp2_with (at_builtin;refine Qn rfl _ _ rfl Tryz.underlying26 strInfo rfl (by decide) rfl H4 hrow (txs_one _) (by omega) (by omega) ?_;clear H4 hrow HD;intro v9 w9 H4)
    go_ret
    refine ⟨_,rfl,?_⟩
    rw [lJ,hna.out,hnb.out,Zi]
    have H5:Own w2 w9 (slc 9 1 v9 (na+nb) (txs A++txs B)::[]):=(H4.front 1 rfl).drop
    exact (((H2.join H5).front 1 rfl).drop)
set_option maxRecDepth 100000 in
set_option maxHeartbeats 3200000 in
theorem muProve_any{w:World}{v u:Value}{n m:Nat}{l:List ByteArray}{want:List Nat}(h1:1≤n)(h9:n≤1000000)(hm:1≤m)(hr:Rd w 1 v n (txs l))(hru:Rd w 1 u m (nts want))(hs:∀ s∈l,s.size≤1000000)(hp:want.Pairwise (· < ·))(hb:∀ x∈want,x<n)(hm9:m≤1000000) :
 Calls Tryz.prog 14 #[.int .i64 32,u,v] w (Ret fun r w'=>∃ q,r=.tuple #[q,.int .i64 0]∧Own w w' (slc 9 1 q (Zr want l).length (txs (Zr want l))::[])):=by
 have hP:=jd (muprove_any n w v u n m l want (Nat.le_refl _) h1 h9 hr hru hs hp hb)
 obtain ⟨a,c,rfl,hc1,hc2⟩:=hr.shape
 obtain ⟨b,o,c',rfl,-⟩:=Rd.some hru (by have:=hru.len;rw [Zj] at this ⊢;omega)
 have hR:=jd (murises_any (N:=n) hru hm9 hm hp hb h9)
 obtain ⟨A,hA⟩:∃ A,Hid (Zr want l=A):=⟨_,rfl⟩
 rw [hA.out] at hP ⊢
 clear hr hru hs hp hb
 go_enter Tryz.func14,Tryz.ntmps14
 go_wp2_with fail
 refine hR.out.mono ?_
 rintro e w1 ⟨rfl,hw1⟩
 obtain rfl:w=w1:=hw1.symm
 go_wp2_with fail
 refine hP.out.mono ?_
 rintro e w1 ⟨q,rfl,H1⟩
 go_wp2
 go_ret2
 exact ⟨_,rfl,q,rfl,H1⟩
theorem split_len{want:List Nat}(k:Nat)(h:want.Pairwise (· < ·)):want.length=(Jb want k).length+(highF want k).length:=by
 have:=congrArg List.length (split_want k h)
 rw [lJ,List.length_map] at this
 exact this
theorem up_drop:∀ (d n:Nat) (want:List Nat) (L P:List ByteArray),n≤d→1≤n→want.Pairwise (· < ·)→(∀ x∈want,x<n)→want.length≤L.length→Jw n want≤P.length→(∀ s∈L,s.size=32)→(∀ s∈P,s.size=32) →
 (upF nodeF n want L P).1.size=32∧(upF nodeF n want L P).2.1=L.drop want.length∧(upF nodeF n want L P).2.2=P.drop (Jw n want):=by
 intro d
 induction d with
 | zero=>intro n want L P h h1;omega
 | succ d ih=>
  intro n want L P h h1 hp hb hL hP sL sP
  rw [Jw] at hP ⊢
  rw [upF]
  by_cases hw:want=[]
  ·rw [if_pos hw] at hP ⊢
   rw [if_pos hw,hw]
   match P,hP with
   | x::r,_=>exact ⟨sP x (by simp),rfl,rfl⟩
  ·rw [if_neg hw] at hP ⊢
   rw [if_neg hw]
   by_cases hn:n<2
   ·rw [dif_pos hn] at hP ⊢
    rw [dif_pos hn]
    have hwl:want.length=1:=by
     have h2:=want_len hp hb
     have h3:=List.length_pos_iff.2 hw
     omega
    rw [hwl] at hL ⊢
    match L,hL with
    | x::r,_=>exact ⟨sL x (by simp),rfl,rfl⟩
   ·rw [dif_neg hn] at hP ⊢
    rw [dif_neg hn]
    have hbd:=Jo n (by omega)
    have hs:=split_len (cutN n) hp
    have hlo:=low_ok (k:=cutN n) hp
    have hhi:=high_ok (k:=cutN n) (n:=n) hp hb
    obtain ⟨a1,a2,a3⟩:=ih (cutN n) (Jb want (cutN n)) L P (by omega) (by omega) hlo.1 hlo.2 (by omega) (by omega) sL sP
    rw [a2,a3]
    obtain ⟨b1,b2,b3⟩:=ih (n-cutN n) (highF want (cutN n)) (L.drop (Jb want (cutN n)).length) (P.drop (Jw (cutN n) (Jb want (cutN n)))) (by omega) (by omega) hhi.1 hhi.2 (by rw [List.length_drop];omega) (by rw [List.length_drop];omega) (fun s h=>sL s (List.mem_of_mem_drop h)) (fun s h=>sP s (List.mem_of_mem_drop h))
    refine ⟨node_size _ _,?_,?_⟩
    ·show (upF nodeF (n-cutN n) (highF want (cutN n)) _ _).2.1=_
     rw [b2,List.drop_drop,← hs]
    ·show (upF nodeF (n-cutN n) (highF want (cutN n)) _ _).2.2=_
     rw [b3,List.drop_drop]
set_option maxRecDepth 100000 in
set_option maxHeartbeats 6400000 in
theorem mucount_any:∀ (d:Nat) (w:World) (u:Value) (n m:Nat) (want:List Nat),n≤d→1≤n→n≤1000000→Rd w 1 u m (nts want)→want.Pairwise (· < ·)→(∀ x∈want,x<n) →
 Calls Tryz.prog 71 #[.int .i64 n,u] w (fun e w'=>e=.returned (.int .i64 (Jw n want:Nat))∧Own w w' []):=by
 intro d
 induction d with
 | zero=>intro w u n m want hd hn1;omega
 | succ d ih=>
  intro w u n m want hd hn1 h9 hru hp hb
  obtain ⟨ua,uc,rfl,huc1,huc2⟩:=hru.shape
  have hul:want.length=m:=by have:=hru.len;rw [Zj] at this;omega
  have H:=Own.start w
  have n0:¬ (n:Int)<1:=by omega
  by_cases hm0:m=0
  ·subst hm0
   obtain rfl:=eJ hul
   have hpf:Jw n []=1:=by rw [Jw];simp
   rw [hpf]
   clear hru ih hp hb hpf
   go_enter Tryz.func71,Tryz.ntmps71
   go_wp2
   go_ret
   exact ⟨rfl,H⟩
  ·have hm0I:((m:Int)==0)=false:=by simp;omega
   have hwne:want≠[]:=by intro e;rw [e] at hul;exact hm0 hul.symm
   by_cases hn:n=1
   ·subst hn
    have hpf:Jw 1 want=0:=by rw [Jw,if_neg hwne,dif_pos (by omega)]
    rw [hpf]
    clear hru ih hp hb hpf
    go_enter Tryz.func71,Tryz.ntmps71
    go_wp2
    go_ret
    exact ⟨rfl,H⟩
   ·have h2:2≤n:=by omega
    obtain ⟨k,hk⟩:∃ k,Hid (cutN n=k):=⟨_,rfl⟩
    have hbd:=Jo n h2
    rw [hk.out] at hbd
    obtain ⟨k1,k2,k3⟩:=hbd
    have hC:=jd (mkcut_any n (by omega))
    rw [hk.out] at hC
    have hpf:Jw n want=Jw k (Jb want k)+Jw (n-k) (highF want k):=by
     rw [Jw,if_neg hwne,dif_neg (by omega),hk.out]
    rw [hpf]
    have n1I:((n:Int)==1)=false:=by simp;omega
    obtain ⟨b,o,c',e,-⟩:=Rd.some hru (by rw [Zj];omega)
    cases e
    have hm9:m≤1000000:=by have:=want_len hp hb;omega
    have hP:=jd (mupart_any k hru hm9 (by omega) hp (fun x hx=>by have:=hb x hx;omega))
    obtain ⟨LW,hLW⟩:∃ x,Hid (Jb want k=x):=⟨_,rfl⟩
    obtain ⟨HW,hHW⟩:∃ x,Hid (highF want k=x):=⟨_,rfl⟩
    have hlo:=low_ok (k:=k) hp
    have hhi:=high_ok (k:=k) (n:=n) hp hb
    have htk:=(low_take k hp).1
    have hlle:=mkLow_le want k
    rw [hLW.out,hHW.out] at hP ⊢
    rw [hLW.out] at hlo htk hlle
    rw [hHW.out] at hhi
    obtain ⟨p,hpl⟩:∃ p,Hid (LW.length=p):=⟨_,rfl⟩
    rw [hpl.out] at hP htk hlle
    obtain ⟨nk,hnk⟩:∃ p,Hid (n-k=p):=⟨_,rfl⟩
    rw [hnk.out] at hhi ⊢
    have enk:IntKind.i64.wrap ((n:Int)-(k:Int))=(nk:Int):=by have:=hnk.out;rw [IntWalk.i64_in _ ⟨by omega,by omega⟩];omega
    have hnk1:1≤nk∧nk≤d∧nk≤1000000∧nk+k=n:=by have:=hnk.out;omega
    have cA:=count_le k k LW (Nat.le_refl _) k3
    have cB:=count_le nk nk HW (Nat.le_refl _) hnk1.1
    have HA:Hid (∀ w',Own w w' []→Calls Tryz.prog 71 #[.int .i64 k,.slice (some ⟨b,o,none⟩) p uc] w' (fun e w2=>e=.returned (.int .i64 (Jw k LW:Nat))∧Own w' w2 [])):=jd fun w' h=>by
     have hr2:=(hru.old h).take (k:=p) (by omega)
     rw [Nat.mul_one,nts,← List.map_take,htk] at hr2
     exact ih w' _ k p LW (by omega) (by omega) (by omega) hr2 hlo.1 hlo.2
    have HB:Hid (∀ w' v,Rd w' 1 v HW.length (nts HW)→Calls Tryz.prog 71 #[.int .i64 nk,v] w' (fun e w2=>e=.returned (.int .i64 (Jw nk HW:Nat))∧Own w' w2 [])):=jd fun w' v h2=>ih w' _ nk HW.length HW hnk1.2.1 hnk1.1 hnk1.2.2.1 h2 hhi.1 hhi.2
    obtain ⟨ca,hca⟩:∃ p,Hid (Jw k LW=p):=⟨_,rfl⟩
    obtain ⟨cb,hcb⟩:∃ p,Hid (Jw nk HW=p):=⟨_,rfl⟩
    rw [hca.out] at HA cA ⊢
    rw [hcb.out] at HB cB ⊢
    have esum:IntKind.i64.wrap ((ca:Int)+(cb:Int))=((ca+cb:Nat):Int):=by rw [IntWalk.i64_in _ ⟨by omega,by omega⟩];omega
    clear hru ih hp hb hpf hk hlo hhi htk hlle hLW hHW hpl hul hwne
    go_enter Tryz.func71,Tryz.ntmps71
    go_wp2_with fail
    refine (hC.out _).mono ?_
    rintro e w1 ⟨rfl,hw1⟩
    obtain rfl:w=w1:=hw1.symm
    go_wp2_with fail
    refine hP.out.mono ?_
    rintro e w2 ⟨_,rfl,u,rfl,H2⟩
    go_wp2_with fail
    refine (HA.out _ H2.bare).mono ?_
    rintro e w3 ⟨rfl,H3⟩
    have H4:=H2.join H3
    go_wp2_with fail
    refine (HB.out w3 u H4.rd).mono ?_
    rintro e w4 ⟨rfl,H5⟩
    go_wp2
    go_ret
    exact ⟨rfl,(H4.join H5).bare⟩
set_option maxHeartbeats 1600000 in
theorem munext_any{w0 w:World}{ps:List Piece}{g off n:Nat}{cs:Array Value}{e:TypeId}{v:Value}{x:ByteArray}{L:List ByteArray}(hcs:cs[off]?=some v)(H:Own w0 w (blk g (.cells cs e)::ps))(hr:Rd w0 1 v n (txs (x::L))) :
 Calls Tryz.prog 117 #[.pointer (some ⟨g,off,none⟩)] w (Ret fun r w'=>r=.string x∧∃ tv,Rd w0 1 tv (n-1) (txs L)∧Own w0 w' (blk g (.cells (cs.setIfInBounds off tv) e)::ps)):=by
 obtain ⟨b,o,c,rfl,hnc,hc2⟩:=Rd.some hr (by simp [txs])
 have hl:n=L.length+1:=by have:=hr.len;rw [Qr] at this;simp at this;omega
 have hoff:off<cs.size:=(Array.getElem?_eq_some_iff.1 hcs).1
 have hcell:Hid (∀ w' qs,Own w0 w' qs→w'.cell? ⟨b,o,none⟩=some (.string x)):=jd fun w' qs h=>by
  have:=Rd.cell (hr.old h) (j:=0) (u:=.string x) (by simp [txs])
  rw [Nat.add_zero] at this
  exact this
 obtain ⟨tv,htv⟩:∃ v,Hid (sliced (some ⟨b,o,none⟩) 1 n c 1=v):=⟨_,rfl⟩
 have hrt:Rd w0 1 tv (n-1) (txs L):=by
  have h2:=hr.cutOf (k:=1) (m:=n) (by omega) (Nat.le_refl _)
  rw [htv.out,List.take_of_length_le (by rw [Qr];simp;omega)] at h2
  exact h2
 have hrt2:Rd w0 1 (.slice (if c=1 then some ⟨b,o,none⟩ else some ⟨b,o+1,none⟩) L.length (c-1)) (n-1) (txs L):=by
  have h:=hrt
  rw [← htv.out] at h
  unfold sliced at h
  have e1:n-1=L.length:=by omega
  rw [e1] at h ⊢
  simpa [Addr.add_lit] using h
 have c0:=hcell.out _ _ H
 have c1:w.cell? ⟨g,off,none⟩=some (.slice (some ⟨b,o,none⟩) n c):=by rw [H.cells,hcs]
 have hn0:(0:Int)<(n:Int):=by omega
 have hn1:(1:Int)≤(n:Int):=by omega
 clear hr hcs hcell hrt htv
 go_enter Tryz.func117,Tryz.ntmps117
 go_wp2_with (refine Jd rfl _ _ rfl rfl H rfl (by kernel_rfl) hoff ?_;clear H c0 c1;intro w7 H)
 all_goals
  have e1:n-1=L.length:=by omega
  rw [e1] at hrt2
  go_ret
  exact ⟨_,rfl,rfl,_,hrt2,H⟩
theorem ucallT{P:Program}{ops:Array Oper}{S:Sig→World→Prop}{nw tw:List Nat}{R:Act→Prop}{a:Act}{o:Oper}{rest:List Oper}{i:Nat}{v:Value}{f:FuncId}{args:Array Value}(hi:i ∉ nw)(hit:i ∉ tw)(hw:Region.wanted o (yielded ops a.tmps)=true)(hr:∀ w,(execOp a.eval o).run P w=.ok (.enter f args) w)
 (hc:∀ σ w,S σ w→Calls P f args w fun e w'=>e=.returned v∧S σ w') (h:Trk.calm P ops S nw tw R (i+1) rest (a.put o.dst v)):Trk.calm P ops S nw tw R i (o::rest) a:=
 Trk.calm_step v hi hw (fun σ w hS hf K Q hK=>by
  unfold Oper.wp
  rw [hr w]
  refine (hc σ w hS).mono ?_
  rintro e w' ⟨rfl,hS'⟩
  exact hK w' (by rw [Trk.trk,if_neg hit];exact hS')) h
def cbv(lv pv:Value):Array Value:=#[.int .i64 32,lv,pv]
set_option maxRecDepth 100000 in
set_option maxHeartbeats 12800000 in
theorem muup_any:∀ (d:Nat) (w0 w:World) (ps:List Piece) (g:Nat) (u lv pv:Value) (n m:Nat) (want:List Nat) (L P:List ByteArray),n≤d→1≤n→n≤1000000→Rd w 1 u m (nts want)→want.Pairwise (· < ·)→(∀ x∈want,x<n)→want.length≤L.length→Jw n want≤P.length→(∀ s∈L,s.size=32)→(∀ s∈P,s.size=32) →
 Rd w0 1 lv L.length (txs L)→Rd w0 1 pv P.length (txs P)→Own w0 w (blk g (.cells (cbv lv pv) 136)::ps) →
 Calls Tryz.prog 72 #[.pointer (some ⟨g,0,none⟩),.int .i64 n,u] w (Ret fun r w'=>r=.string (upF nodeF n want L P).1∧∃ lv' pv',Rd w0 1 lv' (upF nodeF n want L P).2.1.length (txs (upF nodeF n want L P).2.1)∧Rd w0 1 pv' (upF nodeF n want L P).2.2.length (txs (upF nodeF n want L P).2.2)∧Own w0 w' (blk g (.cells (cbv lv' pv') 136)::ps)):=by
 intro d
 induction d with
 | zero=>intro w0 w ps g u lv pv n m want L P hd hn1;omega
 | succ d ih=>
  intro w0 w ps g u lv pv n m want L P hd hn1 h9 hru hp hb hL hP sL sP hrl hrp H
  obtain ⟨ua,uc,rfl,huc1,huc2⟩:=hru.shape
  have hul:want.length=m:=by have:=hru.len;rw [Zj] at this;omega
  by_cases hm0:m=0
  ·subst hm0
   obtain rfl:=eJ hul
   rw [Jw,if_pos rfl] at hP
   obtain ⟨x,r,rfl⟩:∃ x r,P=x::r:=by
    match P,hP with
    | x::r,_=>exact ⟨x,r,rfl⟩
   have hpf:upF nodeF n [] L (x::r)=(x,L,r):=by rw [upF,if_pos rfl];rfl
   rw [hpf]
   have hN:=jd (munext_any (off:=2) rfl H hrp)
   clear hru ih hp hb hpf H hrp
   go_enter Tryz.func72,Tryz.ntmps72
   go_wp2_with fail
   refine hN.out.mono ?_
   rintro e w1 ⟨_,rfl,rfl,tv,hrt,H1⟩
   go_wp2
   go_ret
   exact ⟨_,rfl,rfl,_,tv,hrl,by simpa using hrt,H1⟩
  ·have hm0I:((m:Int)==0)=false:=by simp;omega
   have hwne:want≠[]:=by intro e;rw [e] at hul;exact hm0 hul.symm
   by_cases hn:n=1
   ·subst hn
    obtain ⟨x,r,rfl⟩:∃ x r,L=x::r:=by
     have:=List.length_pos_iff.2 hwne
     match L,hL with
     | x::r,_=>exact ⟨x,r,rfl⟩
     | [],h=>exact absurd (eJ (by simpa using h)) hwne
    have hpf:upF nodeF 1 want (x::r) P=(x,r,P):=by rw [upF,if_neg hwne,dif_pos (by omega)];rfl
    rw [hpf]
    have hN:=jd (munext_any (off:=1) rfl H hrl)
    clear hru ih hp hb hpf H hrl
    go_enter Tryz.func72,Tryz.ntmps72
    go_wp2_with fail
    refine hN.out.mono ?_
    rintro e w1 ⟨_,rfl,rfl,tv,hrt,H1⟩
    go_wp2
    go_ret
    exact ⟨_,rfl,rfl,tv,_,by simpa using hrt,hrp,H1⟩
   ·have h2:2≤n:=by omega
    obtain ⟨k,hk⟩:∃ k,Hid (cutN n=k):=⟨_,rfl⟩
    have hbd:=Jo n h2
    rw [hk.out] at hbd
    obtain ⟨k1,k2,k3⟩:=hbd
    have hC:=jd (mkcut_any n (by omega))
    rw [hk.out] at hC
    have n1I:((n:Int)==1)=false:=by simp;omega
    obtain ⟨b,o,c',e,-⟩:=Rd.some hru (by rw [Zj];omega)
    cases e
    have hm9:m≤1000000:=by have:=want_len hp hb;omega
    have hPt:=jd (mupart_any k hru hm9 (by omega) hp (fun x hx=>by have:=hb x hx;omega))
    have hcnt:Jw n want=Jw k (Jb want k)+Jw (n-k) (highF want k):=by
     rw [Jw,if_neg hwne,dif_neg (by omega),hk.out]
    have hslen:=split_len k hp
    have hpf:upF nodeF n want L P=(nodeF (upF nodeF k (Jb want k) L P).1 (upF nodeF (n-k) (highF want k) (upF nodeF k (Jb want k) L P).2.1 (upF nodeF k (Jb want k) L P).2.2).1,(upF nodeF (n-k) (highF want k) (upF nodeF k (Jb want k) L P).2.1 (upF nodeF k (Jb want k) L P).2.2).2):=by
     rw [upF,if_neg hwne,dif_neg (by omega),hk.out]
    obtain ⟨LW,hLW⟩:∃ x,Hid (Jb want k=x):=⟨_,rfl⟩
    obtain ⟨HW,hHW⟩:∃ x,Hid (highF want k=x):=⟨_,rfl⟩
    have hlo:=low_ok (k:=k) hp
    have hhi:=high_ok (k:=k) (n:=n) hp hb
    have htk:=(low_take k hp).1
    have hlle:=mkLow_le want k
    rw [hLW.out,hHW.out] at hPt hcnt hslen hpf
    rw [hLW.out] at hlo htk hlle
    rw [hHW.out] at hhi
    obtain ⟨p,hpl⟩:∃ p,Hid (LW.length=p):=⟨_,rfl⟩
    rw [hpl.out] at hPt htk hlle
    obtain ⟨nk,hnk⟩:∃ p,Hid (n-k=p):=⟨_,rfl⟩
    rw [hnk.out] at hhi hcnt hpf
    have enk:IntKind.i64.wrap ((n:Int)-(k:Int))=(nk:Int):=by have:=hnk.out;rw [IntWalk.i64_in _ ⟨by omega,by omega⟩];omega
    have hnk1:1≤nk∧nk≤d∧nk≤1000000∧nk+k=n:=by have:=hnk.out;omega
    obtain ⟨a1,a2,a3⟩:=up_drop k k LW L P (Nat.le_refl _) k3 hlo.1 hlo.2 (by omega) (by omega) sL sP
    obtain ⟨x1,L1,P1,hu1⟩:∃ x1 L1 P1,Hid (upF nodeF k LW L P=(x1,L1,P1)):=⟨_,_,_,jd rfl⟩
    rw [hu1.out] at a1 a2 a3 hpf
    dsimp only at a1 a2 a3 hpf
    have sL1:∀ s∈L1,s.size=32:=fun s h=>sL s (by rw [a2] at h;exact List.mem_of_mem_drop h)
    have sP1:∀ s∈P1,s.size=32:=fun s h=>sP s (by rw [a3] at h;exact List.mem_of_mem_drop h)
    have hL1:HW.length≤L1.length:=by rw [a2,List.length_drop];omega
    have hP1:Jw nk HW≤P1.length:=by rw [a3,List.length_drop];omega
    obtain ⟨b1,-,-⟩:=up_drop nk nk HW L1 P1 (Nat.le_refl _) hnk1.1 hhi.1 hhi.2 hL1 hP1 sL1 sP1
    obtain ⟨x2,L2,P2,hu2⟩:∃ x2 L2 P2,Hid (upF nodeF nk HW L1 P1=(x2,L2,P2)):=⟨_,_,_,jd rfl⟩
    rw [hu2.out] at b1 hpf
    dsimp only at b1 hpf
    obtain ⟨N,hN⟩:∃ N,Hid (nodeF x1 x2=N):=⟨_,rfl⟩
    rw [hN.out] at hpf
    rw [hpf]
    dsimp only
    have HN:Hid (∀ w1 qs,Own w0 w1 qs→Calls Tryz.prog 32 #[.int .i64 32,.string x1,.string x2] w1 (fun e w2=>e=.returned (.string N)∧Own w0 w2 qs)):=jd fun w1 qs h=>by
     rw [← hN.out]
     exact (mknode_any x1 x2 (by omega) (by omega) w1).mono fun e w2 g2=>⟨g2.1,h.join g2.2⟩
    have HA:Hid (∀ w' ps',Own w w' []→Own w0 w' (blk g (.cells (cbv lv pv) 136)::ps')→Calls Tryz.prog 72 #[.pointer (some ⟨g,0,none⟩),.int .i64 k,.slice (some ⟨b,o,none⟩) p uc] w' (Ret fun r w2=>r=.string x1∧∃ lv' pv',Rd w0 1 lv' L1.length (txs L1)∧Rd w0 1 pv' P1.length (txs P1)∧Own w0 w2 (blk g (.cells (cbv lv' pv') 136)::ps'))):=jd fun w' ps' h h3=>by
     have hr2:=(hru.old h).take (k:=p) (by omega)
     rw [Nat.mul_one,nts,← List.map_take,htk] at hr2
     have:=ih w0 w' ps' g _ lv pv k p LW L P (by omega) (by omega) (by omega) hr2 hlo.1 hlo.2 (by omega) (by omega) sL sP hrl hrp h3
     rw [hu1.out] at this
     exact this
    have HB:Hid (∀ w' ps' v lv' pv',Rd w' 1 v HW.length (nts HW)→Rd w0 1 lv' L1.length (txs L1)→Rd w0 1 pv' P1.length (txs P1)→Own w0 w' (blk g (.cells (cbv lv' pv') 136)::ps')→Calls Tryz.prog 72 #[.pointer (some ⟨g,0,none⟩),.int .i64 nk,v] w' (Ret fun r w2=>r=.string x2∧∃ lv' pv',Rd w0 1 lv' L2.length (txs L2)∧Rd w0 1 pv' P2.length (txs P2)∧Own w0 w2 (blk g (.cells (cbv lv' pv') 136)::ps'))):=jd fun w' ps' v lv' pv' h2 h3 h4 h5=>by
     have:=ih w0 w' ps' g v lv' pv' nk HW.length HW L1 P1 hnk1.2.1 hnk1.1 hnk1.2.2.1 h2 hhi.1 hhi.2 hL1 hP1 sL1 sP1 h3 h4 h5
     rw [hu2.out] at this
     exact this
    clear ih hp hb hpf hk hlo hhi htk hlle hLW hHW hpl hul hwne hcnt hslen a1 a2 a3 b1 sL1 sP1 hL1 hP1 hu1 hu2 hN sL sP hL hP hru hrl hrp
    go_enter Tryz.func72,Tryz.ntmps72
    go_wp2_with fail
    refine (hC.out _).mono ?_
    rintro e w1 ⟨rfl,hw1⟩
    obtain rfl:w=w1:=hw1.symm
    go_wp2_with fail
    refine hPt.out.mono ?_
    rintro e w2 ⟨_,rfl,u,rfl,H2⟩
    have H3:=(H.join H2).swap
    go_wp2_with fail
    refine (HA.out _ _ H2.bare H3).mono ?_
    rintro e w3 ⟨_,rfl,rfl,lv1,pv1,r1,r2,H4⟩
    obtain ⟨uu,uuc,rfl,-,-⟩:=(H4.front 1 rfl).rd.shape
    go_upto_region 8 with (fail)
    refine Trk.wp_region_new (fun σ w1=>∃ lv pv,Own w0 w1 (blk g (.cells (cbv lv pv) 136)::slc 3 1 (.slice uu HW.length uuc) HW.length (nts HW)::ps)∧(σ 10=none→Rd w0 1 lv L1.length (txs L1)∧Rd w0 1 pv P1.length (txs P1))∧(σ 10≠none→Rd w0 1 lv L2.length (txs L2)∧Rd w0 1 pv P2.length (txs P2))) 12 [] [10] (by decide) (by kernel_rfl) (by kernel_rfl) ⟨lv1,pv1,H4.drew,fun _=>⟨r1,r2⟩,fun h=>absurd rfl h⟩ ?_
    simp only [List.take_succ_cons,List.take_zero,List.drop_succ_cons,List.drop_zero]
    repeat
     first
     | (refine Trk.calm_value (v:=?_) (by decide) (by decide) rfl (fun σ w1 hS=>?_) ?_
        rotate_left
        ·have c0:w1.cell? ⟨g,0,none⟩=some (.int .i64 32):=(by obtain ⟨lv,pv,h,-⟩:=hS;rw [h.cells];rfl)
         first | (go_simp;rfl) | rfl
        simp only [Act.put,putC])
     | (refine Trk.calm_skip (by decide) rfl ?_
        simp only [Act.put,putC])
    refine kcalm_call (v:=.string x2) (by decide) (by decide) rfl (fun w1=>(by go_simp;exact ⟨rfl,rfl⟩)) (fun σ w1 hS hn=>?_) ?_
    ·obtain ⟨lv2,pv2,h,q3,-⟩:=hS
     obtain ⟨q4,q5⟩:=q3 hn
     refine (HB.out w1 _ _ lv2 pv2 (h.front 1 rfl).rd q4 q5 h).mono ?_
     rintro e w5 ⟨_,rfl,rfl,lv3,pv3,q6,q7,q8⟩
     exact ⟨rfl,lv3,pv3,q8,fun h=>by simp [Sig.upd] at h,fun _=>⟨q6,q7⟩⟩
    simp only [Act.put,putC]
    refine ucallT (v:=.string N) (by decide) (by decide) rfl (fun w1=>(by go_simp;first | exact ⟨rfl,rfl⟩ | rfl)) (fun σ w1 hS=>?_) ?_
    ·obtain ⟨lv2,pv2,h,q3,q4⟩:=hS
     refine (HN.out w1 _ h).mono ?_
     rintro e w5 ⟨rfl,h5⟩
     exact ⟨rfl,lv2,pv2,h5,q3,q4⟩
    simp only [Act.put,putC]
    refine Trk.calm_nil ?_
    intro σ wd _ hσ HD
    obtain ⟨lv2,pv2,h,-,q4⟩:=HD
    obtain ⟨q5,q6⟩:=q4 (by intro e;have:=hσ 10 (by decide);rw [e] at this;cases this)
    simp only [Jx,List.foldl_nil]
    go_wp2
    go_ret
    exact ⟨_,rfl,rfl,lv2,pv2,q5,q6,(h.front 1 rfl).drop⟩
set_option maxRecDepth 100000 in
set_option maxHeartbeats 12800000 in
theorem muRoot_any{w:World}{u lv pv:Value}{n:Nat}{want:List Nat}{L P:List ByteArray}{x:ByteArray}(h1:1≤n)(h9:n≤1000000)(hw:want≠[])(hp:want.Pairwise (· < ·))(hb:∀ x∈want,x<n)(hL:L.length=want.length)(hP:P.length=Jw n want)(sL:∀ s∈L,s.size=32)(sP:∀ s∈P,s.size=32)
 (hru:Rd w 1 u want.length (nts want)) (hrl:Rd w 1 lv L.length (txs L)) (hrp:Rd w 1 pv P.length (txs P)) (hx:(upF nodeF n want L P).1=x) :
 Calls Tryz.prog 38 #[.int .i64 32,.int .i64 n,u,lv,pv] w (fun e w'=>e=.returned (.tuple #[.string x,.int .i64 0])∧Own w w' []):=by
 have hm1:1≤want.length:=List.length_pos_iff.2 hw
 have hm9:want.length≤1000000:=by have:=want_len hp hb;omega
 have hcP:=count_le n n want (Nat.le_refl _) h1
 have HA:=jd fun w' (h:Own w w' [])=>mucount_any n w' u n want.length want (Nat.le_refl _) h1 h9 (hru.old h) hp hb
 rw [← hP] at HA
 have HU:=jd fun w1 w' ps g (h:Own w w1 []) (H:Own w1 w' (blk g (.cells (cbv lv pv) 136)::ps))=>muup_any n w1 w' ps g u lv pv n want.length want L P (Nat.le_refl _) h1 h9 (hru.old (h.join H.bare)) hp hb (by omega) (by omega) sL sP (hrl.old h) (hrp.old h) H
 rw [hx] at HU
 obtain ⟨b,o,c,rfl,-⟩:=Rd.some hru (by rw [Zj];omega)
 have HR:=jd fun w' (h:Own w w' [])=>murises_any (hru.old h) hm9 hm1 hp hb h9
 obtain ⟨la,lc,rfl,hlc1,hlc2⟩:=hrl.shape
 obtain ⟨pa,pc,rfl,hpc1,hpc2⟩:=hrp.shape
 have H:=(Own.start w).alloc (.cells #[.int .i64 32] 3)
 obtain ⟨m,hm⟩:∃ m,Hid (want.length=m):=⟨_,rfl⟩
 obtain ⟨q,hq⟩:∃ q,Hid (P.length=q):=⟨_,rfl⟩
 rw [hL,hm.out] at HU hrl
 rw [hL,hm.out]
 rw [hm.out] at HR HA
 rw [hq.out] at HA HU hrp ⊢
 have nm:((m:Int) != (m:Int))=false:=by simp
 have nq:((q:Int) != (q:Int))=false:=by simp
 rw [hm.out] at hL
 go_enter Tryz.func38,Tryz.ntmps38
 go_upto_region 1 with (fail)
 generalize w.alloc _=w1 at *
 generalize w.heap.size=g at *
 have HL:=jd fun w' (h:Own w w' []) (c0:w'.cell? ⟨g,0,none⟩=some (.int .i64 32))=>hasshort_any 70 (.inr rfl) (hrl.old h) sL c0
 have HP:=jd fun w' (h:Own w w' []) (c0:w'.cell? ⟨g,0,none⟩=some (.int .i64 32))=>hasshort_any 70 (.inr rfl) (hrp.old h) sP c0
 clear hru hrl hrp hp hb hx hP sL sP hw hcP
 go_wp2_with fail
 refine (HR.out _ H.bare).mono ?_
 rintro e w2 ⟨rfl,hw2⟩
 obtain rfl:w1=w2:=hw2.symm
 go_wp2_with fail
 refine (HA.out _ H.bare).mono ?_
 rintro e w2 ⟨rfl,H2⟩
 have H3:=H.join H2
 go_wp2_with fail
 have c0:w2.cell? ⟨g,0,none⟩=some (.int .i64 32):=by rw [H3.cells];rfl
 refine (HL.out _ H3.bare c0).mono ?_
 rintro e w3 ⟨rfl,hw3⟩
 obtain rfl:w2=w3:=hw3.symm
 go_wp2_with fail
 refine (HP.out _ H3.bare c0).mono ?_
 rintro e w3 ⟨rfl,hw3⟩
 obtain rfl:w2=w3:=hw3.symm
 clear H H2
 go_upto_region 7 with (fail)
 have H4:=(Own.start w2).alloc (.cells (cbv (.slice la m lc) (.slice pa q pc)) 136)
 dsimp only [cbv] at H4
 generalize w2.alloc _=w4 at *
 generalize w2.heap.size=g2 at *
 go_wp2_with fail
 refine (HU.out w2 w4 [] g2 H3.bare H4).mono ?_
 rintro e w5 ⟨_,rfl,rfl,lv',pv',-,-,H5⟩
 go_wp2
 go_ret2
 exact ⟨rfl,(H3.join H5).bare⟩
theorem prove_32:∀ (d:Nat) (want:List Nat) (l:List ByteArray),l.length≤d→1≤l.length→(∀ s∈l,s.size=32)→∀ s∈Zr want l,s.size=32:=by
 intro d
 induction d with
 | zero=>intro want l h h1;omega
 | succ d ih=>
  intro want l h h1 hs s hm
  rw [Zr,proveF] at hm
  by_cases hw:want=[]
  ·rw [if_pos hw,List.mem_singleton] at hm
   rw [hm]
   exact root_32 l h1 hs
  ·rw [if_neg hw] at hm
   by_cases h2:l.length<2
   ·rw [dif_pos h2] at hm
    simp at hm
   ·rw [dif_neg h2,List.mem_append] at hm
    have hbd:=Jo l.length (by omega)
    rcases hm with hm | hm
    ·exact ih _ _ (by rw [List.length_take];omega) (by rw [List.length_take];omega) (fun s h=>hs s (List.mem_of_mem_take h)) s hm
    ·exact ih _ _ (by rw [List.length_drop];omega) (by rw [List.length_drop];omega) (fun s h=>hs s (List.mem_of_mem_drop h)) s hm
set_option maxRecDepth 100000 in
set_option maxHeartbeats 3200000 in
theorem mucheck_any{w:World}{u lv pv:Value}{n:Nat}{want:List Nat}{l:List ByteArray}(h1:1≤n)(h9:n≤1000000)(hln:l.length=n)(hw:want≠[])(hp:want.Pairwise (· < ·))(hb:∀ x∈want,x<n)(hls:∀ s∈l,s.size=32)
 (hru:Rd w 1 u want.length (nts want)) (hrl:Rd w 1 lv want.length (txs (want.map fun i=>l.getD i ByteArray.empty))) (hrp:Rd w 1 pv (Zr want l).length (txs (Zr want l))) :
 Calls Tryz.prog 15 #[.int .i64 32,.string (mroot l),.int .i64 n,u,lv,pv] w (fun e w'=>e=.returned (.int .i64 0)∧Own w w' []):=by
 have hup:=up_prove (H:=noneF) (nd:=nodeF) l.length want l [] [] (Nat.le_refl _) (by omega) hp (by rw [hln];exact hb)
 rw [List.append_nil,List.append_nil,hln] at hup
 have hx:(upF nodeF n want (want.map fun i=>l.getD i ByteArray.empty) (Zr want l)).1=mroot l:=by rw [hup]
 have hR:=muRoot_any h1 h9 hw hp hb (by rw [List.length_map]) (by rw [Zr,prove_count _ _ _ (Nat.le_refl _),hln]) (fun s h=>by
  obtain ⟨i,hi,rfl⟩:=List.mem_map.1 h
  have:=hb i hi
  rw [List.getD_eq_getElem?_getD,List.getElem?_eq_getElem (show i<l.length by omega),Option.getD_some]
  exact hls _ (List.getElem_mem _)) (prove_32 _ _ _ (Nat.le_refl _) (by omega) hls) hru (by rw [List.length_map];exact hrl) hrp hx
 obtain ⟨A,hA⟩:∃ A,Hid (mroot l=A):=⟨_,rfl⟩
 rw [hA.out] at hR ⊢
 replace hR:=jd hR
 clear hru hrl hrp hup hx hls hA
 go_enter Tryz.func15,Tryz.ntmps15
 go_wp2_with fail
 refine hR.out.mono ?_
 rintro e w2 ⟨rfl,H2⟩
 go_wp2
 go_ret
 exact ⟨rfl,H2⟩
def Reads(w0:World)(ps:List Piece)(size:Nat)(v:Value)(n:Nat)(xs:List Value):Prop:=∀ w',Own w0 w' ps→Rd w' size v n xs
theorem Reads.mono{w0:World}{ps qs:List Piece}{size n:Nat}{v:Value}{xs:List Value}(h:Reads w0 ps size v n xs)(hk:∀ w',Own w0 w' qs→Own w0 w' ps):Reads w0 qs size v n xs:=fun w' h'=>h w' (hk w' h')
structure CodOk (w0:World) (ps:List Piece) (v u:Value) (L:List Int):Prop where
 len:Reads w0 ps 1 v L.length (nums L)
 cod:Reads w0 ps 1 u L.length (nums (Zc L))
 all:∀ x∈L,0≤x∧x≤15
 wt:sumF wtF L≤2^15
 few:L.length≤320
theorem CodOk.mono{w0:World}{ps qs:List Piece}{v u:Value}{L:List Int}(h:CodOk w0 ps v u L)(hk:∀ w',Own w0 w' qs→Own w0 w' ps):CodOk w0 qs v u L:=⟨h.len.mono hk,h.cod.mono hk,h.all,h.wt,h.few⟩
theorem cut_eq{x:Int}(h0:0≤x)(h1:x≤62):cut x=x.toNat:=by unfold cut;omega
theorem CodOk.bd{w0:World}{ps:List Piece}{v u:Value}{L:List Int}(h:CodOk w0 ps v u L){s:Nat}(hs:s<L.length):0≤L.getD s 0∧L.getD s 0≤15∧0≤codeF L s∧codeF L s≤32768:=by
 have h1:=h.all _ (mem_getD2 hs)
 have h2:=code_nonneg (l:=L) s
 refine ⟨h1.1,h1.2,h2,?_⟩
 by_cases h0:0<L.getD s 0
 ·have h3:=code_fits h.all h.wt hs h0
  obtain ⟨p,hp,h4,h5⟩:=pow_pos_nat (L.getD s 0).toNat (by omega)
  rw [hp] at h3
  omega
 ·unfold codeF;rw [if_neg h0];omega
theorem head_any{w0 w:World}{ps:List Piece}{g:Nat}{bs:List Bool}(last:Bool)(kind:Int)(hk:0≤kind∧kind≤3)(H:Own w0 w (Wtr g bs::ps))(hl:bs.length≤35184372087000) :
 Calls Tryz.prog 125 #[.pointer (some ⟨g,0,none⟩),.bool last,.int .i64 kind] w (Ret fun _ w'=>Own w0 w' (Wtr g (bs++headB last kind)::ps)):=by
 have h1:∀ (b:Bool),Qj (bi b) (cut 1)=[b]:=by intro b;cases b <;> decide
 have h2:=put_any (w:=w) (bi last) 1 (by cases last <;> decide) (by omega) H (by omega)
 rw [h1] at h2
 have h3:=fun w1 (H:Own w0 w1 (Wtr g (bs++[last])::ps))=>put_any kind 2 (by omega) (by omega) H (by rw [lJ];simp;omega)
 rw [show cut 2=2 from rfl,List.append_assoc] at h3
 have H2:=jd h2
 have H3:=jd h3
 clear h1 h2 h3 H
 cases last
 all_goals
  simp only [bi,if_true,if_false,Bool.false_eq_true] at H2
  go_enter Tryz.func125,Tryz.ntmps125
  go_wp2_with fail
  refine H2.out.mono ?_
  rintro e w1 ⟨_,rfl,H⟩
  go_wp2_with fail
  refine (H3.out _ H).mono ?_
  rintro e w2 ⟨_,rfl,H⟩
  go_wp2_with fail
  go_end0
  exact ⟨_,rfl,H⟩
theorem Zm{P:Program}{fn:Func}{p:Tmp}{ty:TypeId}(h:fn.results=#[.cell p ty])(tmps:Array Value)(w:World)(g:Nat)(v:Value)
 (hp:tmps.getD p undef=.pointer (some ⟨g,0,none⟩)) (hl:(loadVar ty ⟨g,0,none⟩).run P w=.ok v w):(results fn tmps).run P w=.ok v w:=by
 have hp':tmps[p]?.getD undef=.pointer (some ⟨g,0,none⟩):=by simpa using hp
 simp only [results,h]
 simp [hp',asAddr,hl]
set_option maxRecDepth 100000 in
theorem made_any{w:World}{v:Value}{n:Nat}{L:List Int}(hr:Rd w 1 v n (nums L))(hn:n≤1000000)(hc:cerrF L=0) :
 Calls Tryz.prog 191 #[v] w (Ret fun r w'=>∃ u,r=.agg #[v,u]∧Own w w' [slc 3 1 u L.length (nums (Zc L))]):=by
 have hl:=jd (rd_len hr)
 rw [hl.out]
 obtain ⟨a,c,rfl,hc1,hc2⟩:=hr.shape
 have H:=(Own.start w).alloc (.cells #[.slice none 0 0,.slice none 0 0] 298)
 have hcd:=codes_any (hr.old H) hn
 have hcr:cresF L=Zc L:=by unfold cresF;rw [if_pos hc]
 rw [hc,hcr,codesF_length,hl.out] at hcd
 have HC:=jd hcd
 clear hr hc hcd hcr
 go_enter Tryz.func191,Tryz.ntmps191
 go_wp2_with fail
 generalize w.alloc _=w1 at *
 generalize w.heap.size=g at *
 refine HC.out.mono ?_
 rintro e w2 ⟨_,rfl,u,rfl,H2⟩
 have H:=(H.join H2).swap
 obtain ⟨a2,c2,rfl,-⟩:=(H.front 1 rfl).rd.shape
 clear H2
 have H:Own w w2 (blk g (.cells #[.slice none 0 0,.slice none 0 0] 298)::[slc 3 1 (.slice a2 n c2) n (nums (Zc L))]):=H
 go_wp2_with (refine Qe (vs:=[.slice a n c,.slice a2 n c2]) rfl _ _ rfl rfl H rfl (by kernel_rfl) (by simp) (by simp [Value.oneCell']) rfl ?_;clear H;intro w5 H)
 have c0:=H.cells
 have hld:(loadVar 298 ⟨g,0,none⟩).run Tryz.prog w5=.ok (.agg #[.slice a n c,.slice a2 n c2]) w5:=by
  clear HC
  go_simp
 refine bodyPost_ret (Zm rfl _ _ g _ rfl hld) rfl ?_
 exact ⟨_,rfl,_,rfl,H.drop⟩
set_option maxRecDepth 100000 in
set_option maxHeartbeats 1600000 in
theorem cput_any{w0 w:World}{ps:List Piece}{g s:Nat}{bs:List Bool}{v u:Value}{L:List Int}(hc:CodOk w0 ps v u L)(hs:s<L.length)(H:Own w0 w (Wtr g bs::ps))(hl:bs.length≤35184372087000) :
 Calls Tryz.prog 266 #[.agg #[v,u],.pointer (some ⟨g,0,none⟩),.int .i64 s] w (Ret fun _ w'=>Own w0 w' (Wtr g (bs++cbits L s)::ps)):=by
 obtain ⟨b1,o1,c1,rfl,hc1,hc2⟩:=(hc.len w H.drop).some (by rw [Qg];omega)
 obtain ⟨b2,o2,c2,rfl,hc3,hc4⟩:=(hc.cod w H.drop).some (by rw [Qg,codesF_length];omega)
 have hb:=hc.bd hs
 have hw:=fun w1 (h:Own w0 w1 (Wtr g bs::ps))=>code_any (codeF L s) (L.getD s 0) (by omega) (by omega) h (by omega)
 have hcb:(Qj (codeF L s) (cut (L.getD s 0))).reverse=cbits L s:=by unfold cbits;rw [cut_eq hb.1 (by omega)]
 rw [hcb] at hw
 have hcell:∀ w1,Own w0 w1 ps→w1.cell? ⟨b1,o1+s,none⟩=some (.int .i64 (L.getD s 0))∧w1.cell? ⟨b2,o2+s,none⟩=some (.int .i64 (codeF L s)):=fun w1 h=>by
  refine ⟨(hc.len w1 h).cell (Jj (Za hs)),(hc.cod w1 h).cell (Jj ?_)⟩
  rw [Za (by rw [codesF_length];exact hs),codesF_get hs]
 have hfew:=hc.few
 obtain ⟨n,hn⟩:∃ n,Hid (L.length=n):=⟨_,rfl⟩
 rw [hn.out] at hs hc1 hc3 hfew ⊢
 generalize L.getD s 0=x at *
 generalize codeF L s=y at *
 have HW:=jd hw
 have HC:=jd hcell
 have hsI:(s:Int)<(n:Int):=by omega
 have hnil:s<n:=hs
 clear hw hcell hc hcb hb
 have H:=(H.alloc (.cells #[.slice (some ⟨b1,o1,none⟩) n c1,.slice (some ⟨b2,o2,none⟩) n c2] 298)).swap
 go_enter Tryz.func266,Tryz.ntmps266
 go_upto_region 1 with (fail)
 generalize w.alloc _=w1 at *
 generalize w.heap.size=g2 at *
 refine Qa (fun w1=>Own w0 w1 (Wtr g bs::blk g2 (.cells #[.slice (some ⟨b1,o1,none⟩) n c1,.slice (some ⟨b2,o2,none⟩) n c2] 298)::ps)) 11 (by kernel_rfl) (by kernel_rfl) H.drew ?_
 simp only [List.take_succ_cons,List.take_zero,List.drop_succ_cons,List.drop_zero]
 repeat
  first
  | (refine calm_value (v:=?_) (by decide) rfl (fun σ w1 hS=>?_) ?_
     rotate_left
     ·have c0:=(hS.front 1 rfl).cells;obtain ⟨c1,c2⟩:=HC.out _ hS.drop.drop
      first | (go_simp;rfl) | rfl
     simp only [Act.put,putC])
  | (refine calm_skip (by decide) rfl ?_
     simp only [Act.put,putC])
 refine calm_nil ?_
 intro wd HD
 clear H
 go_wp2_with fail
 refine (HW.out _ (HD.front 1 rfl).drop).mono ?_
 rintro e w3 ⟨_,rfl,H⟩
 go_wp2_with fail
 go_end0
 exact ⟨_,rfl,H⟩
def SymOk(L D:List Int)(t:Tok):Prop:=TokOk t∧(t.len=0→t.lit.toNat<L.length)∧(t.len≠0→(Jy t.len.toNat).1<L.length∧(Jk t.dist.toNat).1<D.length)
theorem toksB_succ{L D:List Int}{l:List Tok}{k:Nat}{t:Tok}(h:l[k]?=some t):toksB L D (l.take (k+1))=toksB L D (l.take k)++tbits L D t:=by
 unfold toksB
 rw [List.take_add_one,h,List.flatMap_append]
 simp
theorem toksB_take_le{L D:List Int}(hL:∀ x∈L,0≤x∧x≤15)(hD:∀ x∈D,0≤x∧x≤15){l:List Tok}(ht:∀ t∈l,TokOk t)(k:Nat):(toksB L D (l.take k)).length≤48*l.length:=by
 have:=toksB_le hL hD (l:=l.take k) (fun t h=>ht t (List.mem_of_mem_take h))
 rw [List.length_take] at this
 omega
set_option maxRecDepth 100000 in
set_option maxHeartbeats 6400000 in
theorem body_any{w0 w:World}{ps:List Piece}{g:Nat}{bs:List Bool}{v u v2 u2 tv:Value}{L D:List Int}{l:List Tok}(hc:CodOk w0 ps v u L)(hd:CodOk w0 ps v2 u2 D)(ht:Reads w0 ps 3 tv l.length (rows tcell l))(hs:∀ t∈l,SymOk L D t)(he:256<L.length)(H:Own w0 w (Wtr g bs::ps))(hl:bs.length+48*l.length≤35184372080000) :
 Calls Tryz.prog 190 #[.pointer (some ⟨g,0,none⟩),tv,.agg #[v,u],.agg #[v2,u2]] w (Ret fun _ w'=>Own w0 w' (Wtr g (bs++bodyB L D l)::ps)):=by
 obtain ⟨ta,tc,rfl,ht1,ht2⟩:=(ht w H.drop).shape
 obtain ⟨a1,c1,rfl,-⟩:=(hc.len w H.drop).shape
 obtain ⟨a2,c2,rfl,-⟩:=(hc.cod w H.drop).shape
 obtain ⟨a3,c3,rfl,-⟩:=(hd.len w H.drop).shape
 obtain ⟨a4,c4,rfl,-⟩:=(hd.cod w H.drop).shape
 have hall:=hc.all
 have hdall:=hd.all
 obtain ⟨n,hn⟩:∃ n,Hid (L.length=n):=⟨_,rfl⟩
 obtain ⟨m,hm⟩:∃ m,Hid (D.length=m):=⟨_,rfl⟩
 obtain ⟨N,hN⟩:∃ N,Hid (l.length=N):=⟨_,rfl⟩
 have HL:=jd (fun k=>toksB_take_le hall hdall (fun t h=>(hs t h).1) (l:=l) k)
 rw [hn.out] at hc he ⊢
 rw [hm.out] at hd ⊢
 rw [hN.out] at ht ht1 hl HL ⊢
 have HC:=jd hc
 have HD:=jd hd
 have HT:=jd ht
 have HS:=jd hs
 clear hc hd ht hs hall hdall
 have H:=(H.alloc2 (.cells #[.slice a1 n c1,.slice a2 n c2] 298) (.cells #[.slice a3 m c3,.slice a4 m c4] 298))
 go_enter Tryz.func190,Tryz.ntmps190
 go_upto_region 1 with (fail)
 generalize (w.alloc _).alloc _=w1 at *
 generalize w.heap.size+1=g2 at *
 generalize w.heap.size=g1 at *
 have H:Own w0 w1 (Wtr g bs::blk g1 (.cells #[.slice a1 n c1,.slice a2 n c2] 298)::blk g2 (.cells #[.slice a3 m c3,.slice a4 m c4] 298)::ps):=(H.front 1 rfl).front 2 rfl
 have HC2:=jd (fun (qs:List Piece)=>HC.out.mono (qs:=qs++blk g1 (.cells #[.slice a1 n c1,.slice a2 n c2] 298)::blk g2 (.cells #[.slice a3 m c3,.slice a4 m c4] 298)::ps) fun w' h=>h.skip.drop.drop)
 have HD2:=jd (fun (qs:List Piece)=>HD.out.mono (qs:=qs++blk g1 (.cells #[.slice a1 n c1,.slice a2 n c2] 298)::blk g2 (.cells #[.slice a3 m c3,.slice a4 m c4] 298)::ps) fun w' h=>h.skip.drop.drop)
 clear HC HD
 go_wp2_with fail
 go_loopw [15] (fun s15 wx=>∃ k:Nat,s15=.int .i64 k∧k≤N∧Own w0 wx (Wtr g (bs++toksB L D (l.take k))::blk g1 (.cells #[.slice a1 n c1,.slice a2 n c2] 298)::blk g2 (.cells #[.slice a3 m c3,.slice a4 m c4] 298)::ps)) (fun s15 _=>N-(intOf s15).toNat)
 case atStart=>exact ⟨0,by go_num,by omega,by simpa [toksB] using H⟩
 case round=>
  clear H
  obtain ⟨k,rfl,hk,H⟩:=hrel
  have hlk:=HL.out k
  obtain ⟨B,hB⟩:∃ B,Hid (bs++toksB L D (l.take k)=B):=⟨_,rfl⟩
  have hBl:B.length≤35184372081000:=by rw [← hB.out,lJ];omega
  rw [hB.out] at H
  by_cases hlt:k<N
  ·have hI:(k:Int)<(N:Int):=by omega
   obtain ⟨t,htk⟩:=Ql (l:=l) (k:=k) (by rw [hN.out];exact hlt)
   have hso:=HS.out t (List.mem_of_getElem? htk)
   have hB2:Hid (bs++toksB L D (l.take (k+1))=B++tbits L D t):=jd (by rw [toksB_succ htk,← List.append_assoc,hB.out])
   obtain ⟨b,o,_,he2,-⟩:=(HT.out _ H.drop.drop.drop).some (by rw [Qp tcell tcell_length,hN.out];omega)
   cases he2
   obtain ⟨c0,cc1,cc2⟩:=tok_cells (HT.out _ H.drop.drop.drop) htk
   obtain ⟨x,y,z⟩:=t
   simp only at c0 cc1 cc2
   clear htk hlk
   go_upto_region 4 with (refine Qe (vs:=[.int .i64 x,.int .i64 y,.int .i64 z]) rfl _ _ rfl rfl (H.alloc _) rfl (by kernel_rfl) (by simp) (by simp;exact ⟨rfl,rfl,rfl⟩) rfl ?_;clear H;intro w5 H)
   generalize wr.heap.size=tb at *
   have H:Own w0 w5 (Wtr g B::blk tb (.cells #[.int .i64 x,.int .i64 y,.int .i64 z] 306)::blk g1 (.cells #[.slice a1 n c1,.slice a2 n c2] 298)::blk g2 (.cells #[.slice a3 m c3,.slice a4 m c4] 298)::ps):=H.swap
   clear c0 cc1 cc2
   have hok:=hso.1
   by_cases hx:x=0
   ·subst hx
    have hz:0≤z∧z<256:=by rcases hok with h | h <;> simp only at h <;> omega
    obtain ⟨s,rfl⟩:∃ s:Nat,z=s:=⟨z.toNat,by omega⟩
    have hsl:s<L.length:=by have:=hso.2.1 rfl;simpa using this
    have htb:tbits L D ⟨0,y,(s:Int)⟩=cbits L s:=by unfold tbits;rw [if_pos rfl,Int.toNat_natCast]
    rw [htb] at hB2
    have hp:=fun w1 h=>cput_any (w:=w1) (HC2.out [blk tb (.cells #[.int .i64 0,.int .i64 y,.int .i64 (s:Int)] 306)]) hsl h (bs:=B) (g:=g) (by omega)
    have HP:=jd hp
    clear hp hso hok htb
    have c0:=(H.front 1 rfl).cells
    have cg1:=(H.front 2 rfl).cells
    go_wp2_with fail
    refine (HP.out _ H).mono ?_
    rintro e w6 ⟨_,rfl,H6⟩
    clear H c0 cg1
    have H:Own w0 w6 (Wtr g (B++cbits L s)::blk g1 (.cells #[.slice a1 n c1,.slice a2 n c2] 298)::blk g2 (.cells #[.slice a3 m c3,.slice a4 m c4] 298)::ps):=(H6.front 1 rfl).drop
    rw [← hB2.out] at H
    clear H6
    go_wp2_with fail
    go_roundw
    case rel=>exact ⟨k+1,by go_num,by omega,H⟩
    case measure=>simp [intOf];omega
   ·have hxb:(x==0)=false:=by simpa using hx
    have hb:3≤x∧x≤258∧1≤y∧y≤32768:=by rcases hok with h | h <;> simp only at h <;> omega
    obtain ⟨p,rfl⟩:∃ p:Nat,x=p:=⟨x.toNat,by omega⟩
    obtain ⟨q,rfl⟩:∃ q:Nat,y=q:=⟨y.toNat,by omega⟩
    obtain ⟨hs1,hs2⟩:=hso.2.2 hx
    simp only [Int.toNat_natCast] at hs1 hs2
    have hlb:=lenSym_bd (n:=p) (by omega)
    have hdb:=distSym_bd (n:=q) (by omega)
    have hln:=length_any p (by omega) (by omega)
    have hdn:=dist_any q (by omega) (by omega)
    have htb:tbits L D ⟨(p:Int),(q:Int),z⟩=cbits L (Jy p).1++(Qj (Jy p).2.2 (Jy p).2.1++(cbits D (Jk q).1++Qj (Jk q).2.2 (Jk q).2.1)):=by unfold tbits;rw [if_neg hx];rfl
    rw [htb] at hB2
    obtain ⟨l1,l2,l3,hl1⟩:∃ l1 l2 l3,Hid (Jy p=(l1,l2,l3)):=⟨_,_,_,rfl⟩
    obtain ⟨d1,d2,d3,hd1⟩:∃ d1 d2 d3,Hid (Jk q=(d1,d2,d3)):=⟨_,_,_,rfl⟩
    rw [hl1.out] at hs1 hlb hln hB2
    rw [hd1.out] at hs2 hdb hdn hB2
    simp only at hs1 hlb hln hB2 hs2 hdb hdn
    obtain ⟨-,-,hl2,hl3⟩:=hlb
    obtain ⟨-,hd2,hd3⟩:=hdb
    have hl3b:l3<32:=Nat.lt_of_lt_of_le hl3 (Nat.pow_le_pow_right (n:=2) (by omega) hl2)
    have hd3b:d3<8192:=Nat.lt_of_lt_of_le hd3 (Nat.pow_le_pow_right (n:=2) (by omega) hd2)
    have HB2:=hB2
    clear hl3 hd3 htb hl1 hd1 hso hok
    have k1:=fun w1 h=>cput_any (w:=w1) (HC2.out [blk tb (.cells #[.int .i64 (p:Int),.int .i64 (q:Int),.int .i64 z] 306)]) hs1 h (bs:=B) (g:=g) (by omega)
    have bd1:=cbits_le (HC2.out []).all l1
    have k2:=fun w1 (h:Own w0 w1 (Wtr g (B++cbits L l1)::blk tb (.cells #[.int .i64 (p:Int),.int .i64 (q:Int),.int .i64 z] 306)::blk g1 (.cells #[.slice a1 n c1,.slice a2 n c2] 298)::blk g2 (.cells #[.slice a3 m c3,.slice a4 m c4] 298)::ps))=>put_any (l3:Int) (l2:Int) (by omega) (by omega) h (by rw [lJ];omega)
    rw [cut_eq (by omega) (by omega),Int.toNat_natCast] at k2
    have k3:=fun w1 h=>cput_any (w:=w1) (HD2.out [blk tb (.cells #[.int .i64 (p:Int),.int .i64 (q:Int),.int .i64 z] 306)]) hs2 h (bs:=B++cbits L l1++Qj l3 l2) (g:=g) (by rw [lJ,lJ,Qd];omega)
    have bd2:=cbits_le (HD2.out []).all d1
    have k4:=fun w1 (h:Own w0 w1 (Wtr g (B++cbits L l1++Qj l3 l2++cbits D d1)::blk tb (.cells #[.int .i64 (p:Int),.int .i64 (q:Int),.int .i64 z] 306)::blk g1 (.cells #[.slice a1 n c1,.slice a2 n c2] 298)::blk g2 (.cells #[.slice a3 m c3,.slice a4 m c4] 298)::ps))=>put_any (d3:Int) (d2:Int) (by omega) (by omega) h (by rw [lJ,lJ,lJ,Qd];omega)
    rw [cut_eq (by omega) (by omega),Int.toNat_natCast] at k4
    have K1:=jd k1
    have K2:=jd k2
    have K3:=jd k3
    have K4:=jd k4
    have LN:=jd hln
    have DN:=jd hdn
    clear k1 k2 k3 k4 hln hdn bd1 bd2 hs1 hs2
    have c0:=(H.front 1 rfl).cells
    have cg1:=(H.front 2 rfl).cells
    go_wp2_with fail
    refine (LN.out _).mono ?_
    rintro e w6 ⟨_,rfl,rfl,H6⟩
    replace H:=H.join H6
    clear H6 c0 cg1
    have c0:=(H.front 1 rfl).cells
    have cg1:=(H.front 2 rfl).cells
    go_wp2_with fail
    refine (K1.out _ H).mono ?_
    rintro e w7 ⟨_,rfl,H7⟩
    clear H c0 cg1
    go_wp2_with fail
    refine (K2.out _ H7).mono ?_
    rintro e w8 ⟨_,rfl,H⟩
    clear H7
    have c0:=(H.front 1 rfl).cells
    go_wp2_with fail
    refine (DN.out _).mono ?_
    rintro e w9 ⟨_,rfl,rfl,H6⟩
    replace H:=H.join H6
    clear H6 c0
    have cg2:=(H.front 3 rfl).cells
    go_wp2_with fail
    refine (K3.out _ H).mono ?_
    rintro e w10 ⟨_,rfl,H10⟩
    clear H cg2
    go_wp2_with fail
    refine (K4.out _ H10).mono ?_
    rintro e w11 ⟨_,rfl,H11⟩
    have H:Own w0 w11 (Wtr g (B++cbits L l1++Qj l3 l2++cbits D d1++Qj d3 d2)::blk g1 (.cells #[.slice a1 n c1,.slice a2 n c2] 298)::blk g2 (.cells #[.slice a3 m c3,.slice a4 m c4] 298)::ps):=(H11.front 1 rfl).drop
    simp only [List.append_assoc] at H
    rw [← HB2.out] at H
    clear H10 H11
    go_wp2_with fail
    go_roundw
    case rel=>exact ⟨k+1,by go_num,by omega,H⟩
    case measure=>simp [intOf];omega
  ·have hI:¬ (k:Int)<(N:Int):=by omega
   have hlall:l.take k=l:=List.take_of_length_le (by rw [hN.out];omega)
   rw [hlall] at hB
   have hfin:Hid (bs++bodyB L D l=B++cbits L 256):=jd (by unfold bodyB;rw [← List.append_assoc,hB.out])
   have hp:=fun w1 h=>cput_any (w:=w1) (HC2.out []) (s:=256) (by rw [hn.out];exact he) h (bs:=B) (g:=g) (by omega)
   have HP:=jd hp
   clear hp hlk
   have cg1:=(H.front 1 rfl).cells
   go_wp2_with fail
   refine (HP.out _ H).mono ?_
   rintro e w6 ⟨_,rfl,H6⟩
   go_wp2_with fail
   go_end0
   rw [hfin.out]
   exact ⟨_,rfl,(H6.front 1 rfl).drop.front 1 rfl |>.drop⟩
set_option maxRecDepth 100000 in
theorem grow_any(n:Nat)(hn:n≤1000000)(w:World) :
 Calls Tryz.prog 321 #[.slice none 0 0,.int .i64 n] w (Ret fun r w'=>Own w w' [slc 3 1 r 0 []]):=by
 have H:=Own.start w
 by_cases h0:n=0
 ·subst h0
  have H:=H.nil 3 1
  go_enter Tryz.func321,Tryz.ntmps321
  go_wp2_with fail
  go_ret
  exact ⟨_,rfl,H⟩
 ·have hI:(n:Int)>0:=by omega
  obtain ⟨i,hi,hz,hsize,hby⟩:=info_parts intInfo
  have hap:∀ (w:World) (ty:TypeId) (t2:TypeId),Tryz.prog.underlying t2=some (.int .i64)→(Builtin.append_ #[34,t2] ty #[.slice none 0 0,.int .i64 n]).run Tryz.prog w=.ok (.slice (some ⟨w.heap.size,0,none⟩) n (grownCap w n 0 3)) (w.drew.alloc (.cells (Builtin.zeroCells (Value.int .i64 0).cells n++Builtin.zeroCells (Value.int .i64 0).cells (grownCap w n 0 3-n)) 3)):=fun w ty t2 ht2=>
   Lib.run_append_nil_zeros w 34 t2 ty 3 i (.int .i64 0) .i64 .i64 Tryz.underlying34 ht2 hi hz n (by omega) (by omega) (by omega) (by rw [hby];omega)
  have HA:=jd hap
  have hge:=grownCap_ge w n 0 3
  have hle:=grownCap_le_maxLen w n 0 3 (by simp [maxLen];omega)
  have H2:Own w (w.drew.alloc (.cells (Builtin.zeroCells (Value.int .i64 0).cells n++Builtin.zeroCells (Value.int .i64 0).cells (grownCap w n 0 3-n)) 3)) [slc 3 1 (.slice (some ⟨w.heap.size,0,none⟩) 0 (grownCap w n 0 3)) 0 []]:=by
   have h1:=H.drew.alloc (.cells (Builtin.zeroCells (Value.int .i64 0).cells n++Builtin.zeroCells (Value.int .i64 0).cells (grownCap w n 0 3-n)) 3)
   exact h1.slc_mk (by simp) (Nat.zero_le _) hle (by simp [size_zeroCells,Value.cells];omega) (by simp)
  clear hap
  go_enter Tryz.func321,Tryz.ntmps321
  go_wp2_with (at_builtin;refine Lib.wpList_append_run _ rfl _ _ _ _ rfl _ _ rfl rfl _ _ (HA.out _ _ _ (by kernel_rfl)) ?_;clear H;generalize w.drew.alloc _=w2 at *;generalize grownCap w n 0 3=gc at *)
  go_ret
  exact ⟨_,rfl,H2⟩
def flatN(Ls:List (List Int))(k:Nat):List Int:=(Ls.take k).flatten
theorem flatN_succ{Ls:List (List Int)}{k:Nat}{L:List Int}(h:Ls[k]?=some L):flatN Ls (k+1)=flatN Ls k++L:=by
 unfold flatN
 rw [List.take_add_one,h,List.flatten_append]
 simp
theorem flatN_le(Ls:List (List Int))(k:Nat):(flatN Ls k).length≤Ls.flatten.length:=by
 unfold flatN
 conv=>rhs;rw [← List.take_append_drop k Ls,List.flatten_append,lJ]
 omega
set_option maxRecDepth 100000 in
set_option maxHeartbeats 1600000 in
theorem concat_any{w:World}{v:Value}{m:Nat}(Ls:List (List Int))(vs:List Value)(hr:Rd w 1 v m vs)(hl:vs.length=m)(hLl:Ls.length=m)(hm:m≤1000)
 (hall:∀ (k:Nat) (u:Value) (L:List Int),vs[k]?=some u→Ls[k]?=some L→Rd w 1 u L.length (nums L)) (hN:Ls.flatten.length≤100000) :
 Calls Tryz.prog 264 #[v] w (Ret fun r w'=>Own w w' [slc 3 1 r Ls.flatten.length (nums Ls.flatten)]):=by
 have H:=Own.start w
 obtain ⟨a,c,rfl,hc1,hc2⟩:=hr.shape
 have HR:=jd hr
 have HALL:=jd hall
 have HL:=jd hl
 have HLL:=jd hLl
 clear hr hall hl hLl
 have hg:∀ (n:Nat),n≤1000000→∀ w,Calls Tryz.prog 321 #[.slice none 0 0,.int .i64 n] w (Ret fun r w'=>Own w w' [slc 3 1 r 0 []]):=fun n hn w=>grow_any n hn w
 have HG:=jd hg
 clear hg
 obtain ⟨N,hNN⟩:∃ N,Hid (Ls.flatten.length=N):=⟨_,rfl⟩
 rw [hNN.out] at hN ⊢
 obtain ⟨FL,hFL⟩:∃ FL,Hid (Ls.flatten=FL):=⟨_,rfl⟩
 rw [hFL.out]
 go_enter Tryz.func264,Tryz.ntmps264
 go_wp2_with fail
 go_loopw [3,11] (fun s3 s11 wx=>∃ k q:Nat,s11=.int .i64 k∧k≤m∧s3=.int .i64 q∧Hid ((flatN Ls k).length=q)∧q≤100000∧Own w wx []) (fun _ s11 _=>m-(intOf s11).toNat)
 case atStart=>exact ⟨0,0,by go_num,by omega,by go_num,jd (by simp [flatN]),by omega,H⟩
 case round=>
  clear H
  obtain ⟨k,q,rfl,hk,rfl,hq,hqN,H⟩:=hrel
  by_cases hlt:k<m
  ·have hI:(k:Int)<(m:Int):=by omega
   obtain ⟨u,hu⟩:=Ql (l:=vs) (k:=k) (by have:=HL.out;omega)
   obtain ⟨L,hL⟩:=Ql (l:=Ls) (k:=k) (by have:=HLL.out;omega)
   obtain ⟨b,o,_,he,-⟩:=HR.out.some (by have:=HL.out;omega)
   cases he
   have c0:=(HR.out.old H).cell hu
   have hu2:=HALL.out k u L hu hL
   obtain ⟨ua,uc,rfl,huc1,huc2⟩:=hu2.shape
   have hs:=flatN_succ hL
   have hle:=flatN_le Ls (k+1)
   rw [hNN.out] at hle
   have hq2:Hid ((flatN Ls (k+1)).length=q+L.length):=jd (by rw [hs,lJ,hq.out])
   have hb:q+L.length≤100000:=by have:=hq2.out;omega
   obtain ⟨x,hx⟩:∃ x,Hid (L.length=x):=⟨_,rfl⟩
   rw [hx.out] at hb hq2 huc1 c0
   have hw:IntKind.i64.wrap ((q:Int)+(x:Int))=(q:Int)+(x:Int):=IntWalk.i64_in _ ⟨by omega,by omega⟩
   have hnn:¬ ((q:Int)+(x:Int)<0):=by omega
   clear hu hL hu2 hs hle
   go_wp2_with fail
   go_roundw
   case rel=>exact ⟨k+1,q+x,by go_num,by omega,by go_num,hq2,hb,H⟩
   case measure=>simp [intOf];omega
  ·have hI:¬ (k:Int)<(m:Int):=by omega
   go_wp2_with fail
   refine (HG.out q (by omega) _).mono ?_
   rintro e w2 ⟨v6,rfl,H2⟩
   have H:=H.join H2
   clear H2
   obtain ⟨a6,c6,rfl,-⟩:=H.rd.shape
   go_wp2_with fail
   go_loopw [6,27] (fun s6 s27 wx=>∃ k q:Nat,s27=.int .i64 k∧k≤m∧Hid ((flatN Ls k).length=q)∧q≤100000∧Own w wx [slc 3 1 s6 q (nums (flatN Ls k))]) (fun _ s27 _=>m-(intOf s27).toNat)
   case atStart=>exact ⟨0,0,by go_num,by omega,jd (by simp [flatN]),by omega,H⟩
   case round=>
    clear H hq hqN
    obtain ⟨k,q,rfl,hk,hq,hqN,H⟩:=hrel
    rename_i v6 _
    obtain ⟨a6,c6,rfl,-⟩:=H.rd.shape
    by_cases hlt:k<m
    ·have hI:(k:Int)<(m:Int):=by omega
     obtain ⟨u,hu⟩:=Ql (l:=vs) (k:=k) (by have:=HL.out;omega)
     obtain ⟨L,hL⟩:=Ql (l:=Ls) (k:=k) (by have:=HLL.out;omega)
     obtain ⟨b,o,_,he,-⟩:=HR.out.some (by have:=HL.out;omega)
     cases he
     have c0:=(HR.out.old H).cell hu
     have hu2:=HALL.out k u L hu hL
     obtain ⟨ua,uc,rfl,huc1,huc2⟩:=hu2.shape
     have hs:=flatN_succ hL
     have hle:=flatN_le Ls (k+1)
     rw [hNN.out] at hle
     obtain ⟨x,hx⟩:∃ x,Hid (L.length=x):=⟨_,rfl⟩
     have hq2:Hid ((flatN Ls (k+1)).length=q+x):=jd (by rw [hs,lJ,hq.out,hx.out])
     have hb:q+x≤100000:=by have:=hq2.out;omega
     have hold:=hu2.old H
     rw [hx.out] at huc1 c0 hold
     have HS:=jd (show nums (flatN Ls k)++nums L=nums (flatN Ls (k+1)) by rw [hs];simp [nums])
     have HO:=jd hold
     have H1:Hid (∀ v∈nums L,v.oneCell'=true):=jd (fun v hv=>by unfold nums at hv;obtain ⟨x,_,rfl⟩:=List.mem_map.1 hv;rfl)
     clear hu hL hu2 hs hle hold
     go_wp2_with (at_builtin;refine Qn rfl _ _ rfl Tryz.underlying34 intInfo rfl (by decide) rfl H HO.out H1.out (by omega) (by omega) ?_;clear H c0;intro v' w' H;rw [HS.out] at H;obtain ⟨a8,c8,rfl,-⟩:=H.rd.shape)
     go_roundw
     case rel=>exact ⟨k+1,q+x,by go_num,by omega,hq2,hb,H⟩
     case measure=>simp [intOf];omega
    ·have hI:¬ (k:Int)<(m:Int):=by omega
     have hfl:flatN Ls k=Ls.flatten:=by unfold flatN;rw [List.take_of_length_le (by have:=HLL.out;omega)]
     have hqq:q=N:=by rw [← hq.out,hfl,hNN.out]
     subst hqq
     rw [hfl,hFL.out] at H
     clear hfl hq
     go_wp2_with fail
     go_ret
     exact ⟨_,rfl,H⟩
theorem fixL_flat:[List.replicate 144 (8:Int),List.replicate 112 9,List.replicate 24 7,List.replicate 8 8].flatten=fixL:=by
 simp only [List.flatten_cons,List.flatten_nil,List.append_nil];unfold fixL;simp only [List.append_assoc]
theorem one_row{w:World}{g:Nat}{a:Int}(h:w.heap[g]?=some (.cells #[.int .i64 a] 3)):Rd w 1 (.slice (some ⟨g,0,none⟩) 1 1) 1 (nums [a]):=by
 refine ⟨rfl,_,_,rfl,Nat.le_refl _,by decide,by simp,fun ad had j u hu=>?_⟩
 obtain rfl:=Option.some.inj had
 rw [Addr.add_lit,Nat.zero_add,cell_of_block h]
 have:j=0:=by have:=(gJ hu).1;simpa [nums] using this
 subst this
 exact hu
set_option maxRecDepth 100000 in
set_option maxHeartbeats 3200000 in
theorem fixed_any(w:World):Calls Tryz.prog 189 #[] w (Ret fun r w'=>∃ v u,r=.tuple #[v,u]∧Own w w' [slc 3 1 u 32 (nums fixD),slc 3 1 v 288 (nums fixL)]):=by
 have H:=Own.start w
 go_enter Tryz.func189,Tryz.ntmps189
 go_wp2_with fail
 refine (repeat_any 144 (one_row (H.alloc (.cells #[.int .i64 8] 3)).block.1) (by omega)).mono ?_
 rintro e w1 ⟨v1,rfl,H1⟩
 have H:=(H.alloc (.cells #[.int .i64 8] 3)).drop.join H1
 obtain ⟨a1,c1,rfl,-⟩:=H.rd.shape
 clear H1
 go_wp2_with fail
 refine (repeat_any 112 (one_row (H.alloc (.cells #[.int .i64 9] 3)).block.1) (by omega)).mono ?_
 rintro e w2 ⟨v2,rfl,H2⟩
 have H:=(H.alloc (.cells #[.int .i64 9] 3)).drop.join H2
 obtain ⟨a2,c2,rfl,-⟩:=H.rd.shape
 clear H2
 go_wp2_with fail
 refine (repeat_any 24 (one_row (H.alloc (.cells #[.int .i64 7] 3)).block.1) (by omega)).mono ?_
 rintro e w3 ⟨v3,rfl,H3⟩
 have H:=(H.alloc (.cells #[.int .i64 7] 3)).drop.join H3
 obtain ⟨a3,c3,rfl,-⟩:=H.rd.shape
 clear H3
 go_wp2_with fail
 refine (repeat_any 8 (one_row (H.alloc (.cells #[.int .i64 8] 3)).block.1) (by omega)).mono ?_
 rintro e w4 ⟨v4,rfl,H4⟩
 have H:=(H.alloc (.cells #[.int .i64 8] 3)).drop.join H4
 obtain ⟨a4,c4,rfl,-⟩:=H.rd.shape
 clear H4
 go_wp2_with fail
 have H5:=H.alloc (.cells #[.slice a1 144 c1,.slice a2 112 c2,.slice a3 24 c3,.slice a4 8 c4] 34)
 have hrow:Rd (w4.alloc (.cells #[.slice a1 144 c1,.slice a2 112 c2,.slice a3 24 c3,.slice a4 8 c4] 34)) 1 (.slice (some ⟨w4.heap.size,0,none⟩) 4 4) 4 [.slice a1 144 c1,.slice a2 112 c2,.slice a3 24 c3,.slice a4 8 c4]:=by
  refine ⟨rfl,_,_,rfl,Nat.le_refl _,by decide,by simp,fun ad had j u hu=>?_⟩
  obtain rfl:=Option.some.inj had
  rw [Addr.add_lit,Nat.zero_add,H5.cell]
  simpa using hu
 have h8:=(H5.front 1 rfl).rd
 have h24:=(H5.front 2 rfl).rd
 have h112:=(H5.front 3 rfl).rd
 have h144:=(H5.front 4 rfl).rd
 have hcc:=concat_any [List.replicate 144 (8:Int),List.replicate 112 9,List.replicate 24 7,List.replicate 8 8] [.slice a1 144 c1,.slice a2 112 c2,.slice a3 24 c3,.slice a4 8 c4] hrow rfl rfl (by omega) (fun k u L hu hL=>by
  match k with
  | 0=>cases hu;cases hL;exact h144
  | 1=>cases hu;cases hL;exact h112
  | 2=>cases hu;cases hL;exact h24
  | 3=>cases hu;cases hL;exact h8
  | k+4=>cases hu) (by rw [fixL_flat,fixL_ok.1];omega)
 rw [fixL_flat,fixL_ok.1] at hcc
 refine hcc.mono ?_
 rintro e w5 ⟨v5,rfl,H6⟩
 have H:=H5.bare.join H6
 obtain ⟨a5,c5,rfl,-⟩:=H.rd.shape
 clear H6 H5 hcc hrow h8 h24 h112 h144
 go_wp2_with fail
 refine (repeat_any 32 (one_row (H.alloc (.cells #[.int .i64 5] 3)).block.1) (by omega)).mono ?_
 rintro e w6 ⟨v6,rfl,H6⟩
 have H:=(H.alloc (.cells #[.int .i64 5] 3)).drop.join H6
 obtain ⟨a6,c6,rfl,-⟩:=H.rd.shape
 clear H6
 go_wp2_with fail
 go_ret2
 exact ⟨_,rfl,_,_,rfl,H⟩
end Go.Proofs.YthekdeikodppkaaGreatDoor
namespace Go.Proofs.YthekdeikodppkaaGreatDoor
open Go.RowKit Go.Maps
set_option maxRecDepth 100000 in
theorem tokInfo:(Tryz.prog.info? 306).map (fun i=>(i.zero,i.size,i.bytes))=some (some (tval ⟨0,0,0⟩),3,24):=by kernel_rfl
set_option maxRecDepth 100000 in
set_option maxHeartbeats 3200000 in
theorem lzparse_any{w0 w:World}{ps:List Piece}{s:ByteArray}(H:Own w0 w ps)(hs:s.size≤1000000) :
 Calls Tryz.prog 131 #[.string s] w (Ret fun v w'=>Own w0 w' (slc 306 3 v (parse s).length (rows tcell (parse s))::ps)):=by
 have hmk:∀ w:World,(Instr.makeSlice 34 (.int .i64 s.size) (.int .i64 s.size)).run Tryz.prog w=.ok (.slice (some ⟨w.heap.size,0,none⟩) s.size s.size) (w.alloc (.cells (madeCells #[.int .i64 0] s.size) 3)):=run_make_row' _ _ _ 8 Tryz.underlying34 intInfo rfl .i64 .i64 s.size (by omega) (by omega)
 have hmm:=fun w=>run_makeMap (P:=Tryz.prog) 302 w
 have hnew:Own w0 (((w.alloc (.map #[] 0)).alloc (.cells (madeCells #[.int .i64 0] s.size) 3)).alloc (.cells #[.string s,.map (some w.heap.size),.slice (some ⟨w.heap.size+1,0,none⟩) s.size s.size] 304)) (Fnd (w.heap.size+1+1) s 0::ps):=by
  have h1:=(H.mpi_new (P:=Tryz.prog) (K:=393) (E:=3) (enc:=k3)).alloc2 (.cells (madeCells #[.int .i64 0] s.size) 3) (.cells #[.string s,.map (some w.heap.size),.slice (some ⟨w.heap.size+1,0,none⟩) s.size s.size] 304)
  have e:(w.alloc (.map #[] 0)).heap.size=w.heap.size+1:=by simp
  rw [e] at h1
  have h2:=h1.swap.slc_mk (xs:=nums (List.replicate s.size 0)) (n:=s.size) (size:=1) (by simp [nums]) (Nat.le_refl _) (by simp [maxLen];omega) (by simp [size_madeCells]) (by rw [toList_madeCells_one];simp [nums])
  refine fnd_shut (b:=w.heap.size) (v:=.slice (some ⟨w.heap.size+1,0,none⟩) s.size s.size) (xs:=List.replicate s.size 0) ⟨by simp,fun q h=>by omega⟩ ?_
  rw [gOf_zero]
  exact (h2.swap.front 2 rfl).swap
 have HN:=jd hnew
 clear hnew
 obtain ⟨W,hW⟩:∃ W,Hid (parseN s s.size 0=W):=⟨_,rfl⟩
 have hp:Hid (parse s=W):=jd hW.out
 rw [hp.out]
 go_enter Tryz.func131,Tryz.ntmps131
 go_upto_region 2 with (fail)
 have H1:=HN.out
 clear HN H
 generalize ((w.alloc (.map #[] 0)).alloc (.cells (madeCells #[.int .i64 0] s.size) 3)).alloc (.cells #[.string s,.map (some w.heap.size),.slice (some ⟨w.heap.size+1,0,none⟩) s.size s.size] 304)=wx at *
 generalize w.heap.size+1+1=g at *
 have H:=(H1.nil 306 3).swap
 clear H1
 go_wp2_with fail
 go_loopw [4,5] (fun s4 s5 wr=>∃ (i f:Nat) (l:List Tok),s5=.int .i64 i∧i≤s.size∧s.size≤i+f∧Hid (l++parseN s f i=W)∧l.length≤i∧Own w0 wr (Fnd g s i::slc 306 3 s4 l.length (rows tcell l)::ps)) (fun _ s5 _=>s.size-(intOf s5).toNat)
 case atStart=>exact ⟨0,s.size,[],by simp,by omega,by omega,hW,by simp,H⟩
 case round=>
  clear H
  obtain ⟨i,f,l,rfl,hi,hf,hl,hll,H⟩:=hrel
  by_cases hlt:i<s.size
  ·have hltI:(i:Int)<(s.size:Int):=by omega
   obtain ⟨f,rfl⟩:∃ f',f=f'+1:=⟨f-1,by omega⟩
   have hpn:parseN s (f+1) i=tokAt s i::parseN s f (i+stepAt s i):=by rw [parseN,if_pos hlt]
   have hsl:=stepAt_le hlt
   have hsp:=stepAt_pos s i
   have hst:stepAt s i=if 3≤(found s i).1 then (found s i).1 else 1:=rfl
   have htk:tokAt s i=if 3≤(found s i).1 then ⟨(found s i).1,(found s i).2,0⟩ else ⟨0,0,(byt s i).toNat⟩:=rfl
   obtain ⟨m,hm⟩:∃ m,Hid (stepAt s i=m):=⟨_,rfl⟩
   obtain ⟨t,ht⟩:∃ t,Hid (tokAt s i=t):=⟨_,rfl⟩
   rw [hm.out] at hst hpn hsl hsp
   rw [ht.out] at htk hpn
   have hl2:Hid ((l++[t])++parseN s f (i+m)=W):=jd (by rw [← hl.out,hpn];simp)
   clear hl hpn
   obtain ⟨n,d,hF⟩:∃ n d,Hid (found s i=(n,d)):=⟨_,_,rfl⟩
   rw [hF.out] at hst htk
   go_upto_region 5 with (fail)
   go_wp2_with fail
   refine (lzfind_any H hlt hs).mono ?_
   rintro e w1 ⟨_,rfl,rfl,H1⟩
   rw [hF.out]
   clear H
   have e0:=byt_is hlt
   have hx8:=(byt s i).toNat_lt
   have hwx:wrap64 (((byt s i).toNat:Nat):Int)=(((byt s i).toNat:Nat):Int):=IntWalk.wrap64_in _ ⟨by omega,by omega⟩
   obtain ⟨cv,hcv⟩:∃ cv,Hid (w1.heap.size=cv):=⟨_,rfl⟩
   by_cases h3:3≤n
   case pos=>
    have h3I:¬ (n:Int)<3:=by omega
    rw [if_pos h3] at hst htk
    subst hst
    have HT:=jd htk
    clear htk hwx e0 hx8
    go_upto_region 10 with (refine Qe rfl _ _ rfl rfl (H1.alloc _) rfl (by kernel_rfl) (by simp) (by simp;exact ⟨rfl,rfl,rfl⟩) rfl ?_;clear H1;intro w5 H;rw [hcv.out] at H ⊢)
    have H:Own w0 w5 (blk cv (.cells #[.int .i64 t.len,.int .i64 t.dist,.int .i64 t.lit] 306)::Fnd g s i::slc 306 3 u4 l.length (rows tcell l)::ps):=by rw [HT.out];exact H
    clear h3 h3I hF
    go_wp2_with fail
    go_loopw [5,37] (fun s5 s37 wr=>∃ k:Nat,s5=.int .i64 ((i+k:Nat):Int)∧s37=.int .i64 k∧k≤m∧Own w0 wr (blk cv (.cells #[.int .i64 t.len,.int .i64 t.dist,.int .i64 t.lit] 306)::Fnd g s (i+k)::slc 306 3 u4 l.length (rows tcell l)::ps)) (fun _ s37 _=>m-(intOf s37).toNat)
    case atStart=>exact ⟨0,by simp,by simp,by omega,H⟩
    case round=>
     clear H
     obtain ⟨k,rfl,rfl,hk,H⟩:=hrel
     by_cases hkm:k<m
     ·have hkI:(k:Int)<(m:Int):=by omega
      obtain ⟨j,hj⟩:∃ j,Hid (i+k=j):=⟨_,rfl⟩
      have hjs:j<s.size:=by have:=hj.out;omega
      rw [hj.out] at H ⊢
      go_wp2_with fail
      refine (fput_any H.swap hjs hs).mono ?_
      rintro e w6 ⟨_,rfl,H6⟩
      clear H
      go_wp2_with fail
      go_roundw
      case rel=>exact ⟨k+1,by have:=hj.out;go_num;try omega,by go_num,by omega,(by rw [← Nat.add_assoc,hj.out];exact H6.swap)⟩
      case measure=>simp [intOf];omega
     ·have hkI:¬ (k:Int)<(m:Int):=by omega
      have hke:m=k:=by omega
      rw [hke] at hl2 hsl hsp
      have c0:=H.cells
      obtain ⟨a',c',rfl,h1',h2'⟩:=(H.front 2 rfl).rd.shape
      go_wp2_with (at_builtin;refine Qf rfl _ _ rfl Tryz.underlying226 tokInfo rfl (by decide) rfl (H.front 2 rfl) (news:=tcell t) rfl rfl rfl (tcell_one t) (by omega) (by omega) ?_;clear H c0;intro v' w7 H)
      go_roundw
      case rel=>
       refine ⟨i+k,f,l++[t],by go_num,by omega,by omega,hl2,by simp;omega,?_⟩
       rw [Ze,rows_one,lJ]
       exact ((((H.front 2 rfl).front 2 rfl).drop))
      case measure=>simp [intOf];omega
   case neg=>
    have h3I:(n:Int)<3:=by omega
    rw [if_neg h3] at hst htk
    subst hst
    have HT:=jd htk
    clear htk
    go_upto_region 10 with (first
     | (refine Qe rfl _ _ rfl rfl (H1.alloc _) rfl (by kernel_rfl) (by simp) (by simp;exact ⟨rfl,rfl,rfl⟩) rfl ?_;clear H1;intro w4 H4;rw [hcv.out] at H4 ⊢)
     | (refine Qe (vs:=tcell ⟨0,0,(byt s i).toNat⟩) rfl _ _ rfl rfl H4 (by first | rfl | (go_simp;done)) (by kernel_rfl) (by simp [tcell]) (tcell_one _) rfl ?_;clear H4;intro w5 H))
    have H:Own w0 w5 (blk cv (.cells #[.int .i64 t.len,.int .i64 t.dist,.int .i64 t.lit] 306)::Fnd g s i::slc 306 3 u4 l.length (rows tcell l)::ps):=by rw [HT.out];exact H
    clear hwx e0 hx8
    clear h3 h3I hF
    go_wp2_with fail
    go_loopw [5,37] (fun s5 s37 wr=>∃ k:Nat,s5=.int .i64 ((i+k:Nat):Int)∧s37=.int .i64 k∧k≤1∧Own w0 wr (blk cv (.cells #[.int .i64 t.len,.int .i64 t.dist,.int .i64 t.lit] 306)::Fnd g s (i+k)::slc 306 3 u4 l.length (rows tcell l)::ps)) (fun _ s37 _=>1-(intOf s37).toNat)
    case atStart=>exact ⟨0,by simp,by simp,by omega,H⟩
    case round=>
     clear H
     obtain ⟨k,rfl,rfl,hk,H⟩:=hrel
     by_cases hkm:k<1
     ·have hkI:(k:Int)<1:=by omega
      obtain ⟨j,hj⟩:∃ j,Hid (i+k=j):=⟨_,rfl⟩
      have hjs:j<s.size:=by have:=hj.out;omega
      rw [hj.out] at H ⊢
      go_wp2_with fail
      refine (fput_any H.swap hjs hs).mono ?_
      rintro e w6 ⟨_,rfl,H6⟩
      clear H
      go_wp2_with fail
      go_roundw
      case rel=>exact ⟨k+1,by have:=hj.out;go_num;try omega,by go_num,by omega,(by rw [← Nat.add_assoc,hj.out];exact H6.swap)⟩
      case measure=>simp [intOf];omega
     ·have hkI:¬ (k:Int)<1:=by omega
      obtain rfl:k=1:=by omega
      have c0:=H.cells
      obtain ⟨a',c',rfl,h1',h2'⟩:=(H.front 2 rfl).rd.shape
      go_wp2_with (at_builtin;refine Qf rfl _ _ rfl Tryz.underlying226 tokInfo rfl (by decide) rfl (H.front 2 rfl) (news:=tcell t) rfl rfl rfl (tcell_one t) (by omega) (by omega) ?_;clear H c0;intro v' w7 H)
      go_roundw
      case rel=>
       refine ⟨i+1,f,l++[t],by go_num,by omega,by omega,hl2,by simp;omega,?_⟩
       rw [Ze,rows_one,lJ]
       exact ((((H.front 2 rfl).front 2 rfl).drop))
      case measure=>simp [intOf];omega
  ·have hltI:¬ (i:Int)<(s.size:Int):=by omega
   have hfin:Hid (l=W):=jd (by rw [← hl.out,parseN_end (by omega)];simp)
   clear hl
   go_wp2
   go_ret
   refine ⟨_,rfl,?_⟩
   rw [← hfin.out]
   exact H.drop
end Go.Proofs.YthekdeikodppkaaGreatDoor
namespace Go.Proofs.YthekdeikodppkaaGreatDoor
open Go.RowKit Go.ChangeShapes Go.WideShapes Go.Deep
set_option maxRecDepth 100000 in
theorem open_file{H:Type}{enc:TypeId × Value→H}{w:World}{m:Nat}{cs:List Value}{x:DataW H × List MemPlace}
 (h:DataW.trod enc Tryz.prog w 0 (fun _=>true) true m 47 cs=some x):∃ t:FileP,cs=fe t∧t.path.size≤9223372036854775807∧t.data.size≤9223372036854775807:=by
 obtain ⟨y0,y1,n,_,hl,g0,g1⟩:=trod_struct2 Tryz.underlying47 h
 have hC:Tryz.prog.cellsOf 47=2:=by kernel_rfl
 have hi:Tryz.prog.cellsOf 9=1:=by kernel_rfl
 rw [hC] at hl
 match cs,hl with
 | [u0,u1],_=>
  simp only [hi] at g0 g1
  obtain ⟨a,ha,_,wa⟩:=DataW.trod_string Tryz.underlying9 (by simpa using g0)
  obtain ⟨b,hb,_,wb⟩:=DataW.trod_string Tryz.underlying9 (by simpa using g1)
  simp at ha hb
  subst ha hb
  exact ⟨⟨a,b⟩,rfl,by simpa [maxLen] using wa,by simpa [maxLen] using wb⟩
instance:Inhabited FileP:=⟨⟨ByteArray.empty,ByteArray.empty⟩⟩
theorem open_files{H:Type}{enc:TypeId × Value→H}{W:World}{a:Option Addr}{len cap:Nat}{d:DataW H}{p:List MemPlace}
 (h:DataW.Trod enc Tryz.prog W 0 (fun _=>true) true 22 (.slice a len cap) d p) :
 ∃ ds:List FileP,ds.length=len∧Rd W 2 (.slice a len cap) ds.length (rows fe ds)∧∀ x∈ds,x.path.size≤9223372036854775807∧x.data.size≤9223372036854775807:=by
 obtain ⟨E,hr,hE,_⟩:=rd_open 2 Tryz.underlying22 (by kernel_rfl) rfl h
 obtain ⟨f,hf⟩:=choose_lt (α:=FileP) (p:=fun i x=>E i=fe x∧x.path.size≤9223372036854775807∧x.data.size≤9223372036854775807) (fun i hi=>by
  obtain ⟨_,m,x,hx⟩:=hE i hi
  exact open_file hx)
 refine ⟨(List.range len).map f,by simp,?_,?_⟩
 ·have e:rows fe ((List.range len).map f)=(List.range len).flatMap E:=by
   unfold rows
   rw [List.flatMap_map]
   exact flatMap_congr_range fun i hi=>(hf i hi).1.symm
  rw [e];simpa using hr
 ·intro x hx
  obtain ⟨i,hi,rfl⟩:=List.mem_map.1 hx
  exact (hf i (List.mem_range.1 hi)).2
end Go.Proofs.YthekdeikodppkaaGreatDoor
namespace Go.Proofs.YthekdeikodppkaaGreatDoor
open Go.RowKit
set_option maxRecDepth 100000 in
set_option maxHeartbeats 1600000 in
theorem trim_any{w:World}{a:Option Addr}{n c:Nat}{L:List Int}(least:Nat)(hr:Rd w 1 (.slice a n c) n (nums L))(hn:n≤1000000)(hl:least≤1000000) :
 Calls Tryz.prog 272 #[.slice a n c,.int .i64 least] w (Ret fun r w'=>r=.slice a (trimK L least n) c∧Own w w' []):=by
 have H:=Own.start w
 obtain ⟨_,_,he,hc1,hc2⟩:=hr.shape
 cases he
 have hLn:=rd_len hr
 obtain ⟨K,hK⟩:∃ K,Hid (trimK L least n=K):=⟨_,jd rfl⟩
 rw [hK.out]
 have HR:=jd hr
 have HLN:=jd hLn
 clear hr hLn
 go_enter Tryz.func272,Tryz.ntmps272
 go_wp2_with fail
 go_loopw [0] (fun s0 wx=>∃ k:Nat,s0=.slice a k c∧k≤n∧Hid (trimK L least k=K)∧Own w wx []) (fun s0 _=>Jr s0)
 case atStart=>exact ⟨n,rfl,Nat.le_refl _,hK,H⟩
 case round=>
  clear H hK
  obtain ⟨k,rfl,hk,hK,H⟩:=hrel
  have fin:trimK L least k=k→Hid (k=K):=fun h=>jd (by rw [← hK.out,h])
  by_cases h1:least<k
  ·have h1I:(least:Int)<(k:Int):=by omega
   obtain ⟨j,rfl⟩:∃ j,k=j+1:=⟨k-1,by omega⟩
   obtain ⟨b,o,rfl,c0⟩:=rd_at HR.out H (i:=j) (by omega)
   have hst:trimK L least (j+1)=if least<j+1∧L.getD j 0=0 then trimK L least j else j+1:=rfl
   obtain ⟨x,hx⟩:∃ x,L.getD j 0=x:=⟨_,rfl⟩
   rw [hx] at hst c0
   clear hx
   have hjw:IntKind.i64.wrap (((j+1:Nat):Int)-1)=(j:Int):=by rw [show ((j+1:Nat):Int)-1=(j:Int) by omega];exact IntWalk.i64_in _ ⟨by omega,by omega⟩
   have hjw2:IntKind.i64.wrap ((j:Int)+1-1)=(j:Int):=by rw [show (j:Int)+1-1=(j:Int) by omega];exact IntWalk.i64_in _ ⟨by omega,by omega⟩
   have hjc:(j:Int)≤(c:Int):=by omega
   by_cases hx0:x=0
   ·subst hx0
    rw [if_pos ⟨h1,rfl⟩,hK.out] at hst
    have HST:=jd hst.symm
    clear hst fin
    go_wp2_with fail
    go_roundw
    case rel=>exact ⟨j,rfl,by omega,HST,H⟩
    case measure=>simp [Jr]
   ·have hxb:(x==0)=false:=by simpa using hx0
    rw [if_neg (fun h=>hx0 h.2)] at hst
    have hfk:=fin hst
    clear hst fin
    go_wp2_with fail
    go_ret
    exact ⟨_,rfl,by rw [← hfk.out];rfl,H⟩
  ·have h1I:¬ (least:Int)<(k:Int):=by omega
   have hst:trimK L least k=k:=by
    cases k with
    | zero=>rfl
    | succ k=>rw [trimK,if_neg (fun h=>h1 h.1)]
   have hfk:=fin hst
   clear hst fin
   go_wp2_with fail
   go_ret
   exact ⟨_,rfl,by rw [← hfk.out];rfl,H⟩
theorem Own.getc{w0 w:World}{ps:List Piece}{e:TypeId}{size n g c j:Nat}{xs:List Value}{u:Value}(h:Own w0 w (slc e size (.slice (some ⟨g,0,none⟩) n c) n xs::ps))(hu:xs[j]?=some u):w.cell? ⟨g,j,none⟩=some u:=by
 have:=h.rd.cell hu
 rwa [Nat.zero_add] at this
theorem bumpF_snoc(o l:List Int)(x:Int):bumpF o (l++[x])=bump1 (bumpF o l) x:=by simp [bumpF]
def litN(l:List Tok)(k:Nat):List Int:=litFq (l.take k)
def distN(l:List Tok)(k:Nat):List Int:=distFq (l.take k)
theorem litN_succ{l:List Tok}{k:Nat}{t:Tok}(h:l[k]?=some t):litN l (k+1)=bump1 (litN l k) (litS t):=by
 unfold litN litFq
 rw [List.take_add_one,h,List.map_append]
 exact bumpF_snoc _ _ _
theorem distN_succ{l:List Tok}{k:Nat}{t:Tok}(h:l[k]?=some t):distN l (k+1)=if t.len=0 then distN l k else bump1 (distN l k) (distS t):=by
 unfold distN distFq
 rw [List.take_add_one,h,List.filter_append,List.map_append]
 split
 ·next h0=>
  have e:List.filter (fun t:Tok=>decide (t.len≠0)) (some t).toList=[]:=by
   show List.filter (fun t:Tok=>decide (t.len≠0)) [t]=[]
   rw [List.filter_cons,if_neg (by simpa using h0),List.filter_nil]
  rw [e,List.map_nil,List.append_nil]
 ·next h0=>
  have e:List.filter (fun t:Tok=>decide (t.len≠0)) (some t).toList=[t]:=by
   show List.filter (fun t:Tok=>decide (t.len≠0)) [t]=[t]
   rw [List.filter_cons,if_pos (by simpa using h0),List.filter_nil]
  rw [e]
  exact bumpF_snoc _ _ _
theorem litN_len(l:List Tok)(k:Nat):(litN l k).length=286:=by unfold litN litFq;rw [Jl,List.length_set];exact List.length_replicate
theorem distN_len(l:List Tok)(k:Nat):(distN l k).length=30:=by unfold distN distFq;rw [Jl];exact List.length_replicate
theorem litN_bd(l:List Tok)(k j:Nat):0≤(litN l k).getD j 0∧(litN l k).getD j 0≤1+l.length:=by
 have h0:∀ j,0≤((Qm 286).set 256 1).getD j 0∧((Qm 286).set 256 1).getD j 0≤1:=by
  intro j
  rw [List.getD_eq_getElem?_getD,List.getElem?_set]
  split
  ·split <;> simp
  ·have:=zeros_get 286 j
   rw [List.getD_eq_getElem?_getD] at this
   rw [this];omega
 have:=bump_bound ((l.take k).map litS) ((Qm 286).set 256 1) j 1 h0
 rw [List.length_map,List.length_take] at this
 unfold litN litFq
 omega
theorem distN_bd(l:List Tok)(k j:Nat):0≤(distN l k).getD j 0∧(distN l k).getD j 0≤1+l.length:=by
 have h0:∀ j,0≤(Qm 30).getD j 0∧(Qm 30).getD j 0≤0:=by intro j;rw [zeros_get];omega
 have:=bump_bound (((l.take k).filter fun t=>decide (t.len≠0)).map distS) (Qm 30) j 0 h0
 have h2:=List.length_filter_le (fun t:Tok=>decide (t.len≠0)) (l.take k)
 rw [List.length_map] at this
 rw [List.length_take] at h2
 unfold distN distFq
 omega
theorem nums_bump(F:List Int)(s:Nat):(nums F).set s (.int .i64 (F.getD s 0+1))=nums (bump1 F (s:Int)):=by
 rw [nums_set];rfl
set_option maxRecDepth 100000 in
set_option maxHeartbeats 6400000 in
theorem counted2_any{w:World}{tv:Value}{l:List Tok}(ht:Rd w 3 tv l.length (rows tcell l))(hs:∀ t∈l,TokOk t)(hl:l.length≤1000000) :
 Calls Tryz.prog 270 #[tv] w (Ret fun r w'=>∃ v u,r=.tuple #[v,u]∧Own w w' [slc 3 1 v 286 (nums (litFq l)),slc 3 1 u 30 (nums (distFq l))]):=by
 obtain ⟨ta,tc,rfl,ht1,ht2⟩:=ht.shape
 have H:=Own.start w
 obtain ⟨N,hN⟩:∃ N,Hid (l.length=N):=⟨_,jd rfl⟩
 rw [hN.out] at ht ht1 hl ⊢
 have HT:=jd ht
 have HS:=jd hs
 have hmk1:∀ w:World,(Instr.makeSlice 34 (.int .i64 286) (.int .i64 286)).run Tryz.prog w=.ok (.slice (some ⟨w.heap.size,0,none⟩) 286 286) (w.alloc (.cells (madeCells #[.int .i64 0] 286) 3)):=run_make_row' _ _ _ 8 Tryz.underlying34 intInfo rfl .i64 .i64 286 (by omega) (by omega)
 have hmk2:∀ w:World,(Instr.makeSlice 34 (.int .i64 30) (.int .i64 30)).run Tryz.prog w=.ok (.slice (some ⟨w.heap.size,0,none⟩) 30 30) (w.alloc (.cells (madeCells #[.int .i64 0] 30) 3)):=run_make_row' _ _ _ 8 Tryz.underlying34 intInfo rfl .i64 .i64 30 (by omega) (by omega)
 clear ht hs
 go_enter Tryz.func270,Tryz.ntmps270
 go_upto_region 1 with (fail)
 have mk:∀ (w1:World) (qs:List Piece) (g n:Nat),n≤1000000→Own w w1 (blk g (.cells (madeCells #[.int .i64 0] n) 3)::qs)→Own w w1 (slc 3 1 (.slice (some ⟨g,0,none⟩) n n) n (nums (List.replicate n 0))::qs):=fun w1 qs g n hn h=>
  h.slc_mk (by simp [nums]) (Nat.le_refl _) (by simp [maxLen];omega) (by simp [size_madeCells]) (by rw [toList_madeCells_one];simp [nums])
 go_cut [4,5,11,12] (fun s4 s5 _ _ wx=>∃ g1 g2,s4=.slice (some ⟨g1,0,none⟩) 286 286∧s5=.slice (some ⟨g2,0,none⟩) 30 30∧Own w wx [slc 3 1 (.slice (some ⟨g1,0,none⟩) 286 286) 286 (nums (List.replicate 286 0)),slc 3 1 (.slice (some ⟨g2,0,none⟩) 30 30) 30 (nums (List.replicate 30 0))])
 case first=>
  go_region
  all_goals go_wp2
  all_goals go_meet
  ·have h:=(H.alloc2 (.cells (madeCells #[.int .i64 0] 286) 3) (.cells (madeCells #[.int .i64 0] 30) 3)).drew
   exact ⟨_,_,rfl,rfl,mk _ _ _ _ (by omega) (mk _ _ _ _ (by omega) h).swap⟩
  ·have h:=(H.alloc2 (.cells (madeCells #[.int .i64 0] 30) 3) (.cells (madeCells #[.int .i64 0] 286) 3)).drew
   exact ⟨_,_,rfl,rfl,(mk _ _ _ _ (by omega) (mk _ _ _ _ (by omega) h).swap).swap⟩
 case rest=>
 obtain ⟨g1,g2,rfl,rfl,H⟩:=hcut
 have hst0:(nums (List.replicate 286 0)).set 256 (.int .i64 1)=nums (litN l 0):=by rw [nums_set];rfl
 have HST0:=jd hst0
 clear hst0
 go_wp2_with (refine Ja rfl _ _ rfl rfl H (.int .i64 1) rfl (by kernel_rfl) (by omega) rfl ?_;clear H;intro w2 H;rw [HST0.out] at H)
 go_loopw [17] (fun s17 wx=>∃ k:Nat,s17=.int .i64 k∧k≤N∧Own w wx [slc 3 1 (.slice (some ⟨g1,0,none⟩) 286 286) 286 (nums (litN l k)),slc 3 1 (.slice (some ⟨g2,0,none⟩) 30 30) 30 (nums (distN l k))]) (fun s17 _=>N-(intOf s17).toNat)
 case atStart=>exact ⟨0,by go_num,by omega,H⟩
 case round=>
  clear H
  obtain ⟨k,rfl,hk,H⟩:=hrel
  by_cases hlt:k<N
  ·have hI:(k:Int)<(N:Int):=by omega
   obtain ⟨t,htk⟩:=Ql (l:=l) (k:=k) (by rw [hN.out];exact hlt)
   have hok:=HS.out t (List.mem_of_getElem? htk)
   have hls:=litN_succ htk
   have hds:=distN_succ htk
   obtain ⟨b,o,_,he2,-⟩:=HT.out.some (by rw [Qp tcell tcell_length,hN.out];omega)
   cases he2
   obtain ⟨c0,cc1,cc2⟩:=tok_cells (HT.out.old H) htk
   obtain ⟨x,y,z⟩:=t
   simp only at c0 cc1 cc2 hds
   clear htk
   have HLS:=jd hls
   have HDS:=jd hds
   clear hls hds
   go_upto_region 6 with (refine Qe (vs:=[.int .i64 x,.int .i64 y,.int .i64 z]) rfl _ _ rfl rfl (H.alloc _) rfl (by kernel_rfl) (by simp) (by simp;exact ⟨rfl,rfl,rfl⟩) rfl ?_;clear H;intro w5 H)
   generalize wr.heap.size=tb at *
   have H:Own w w5 (blk tb (.cells #[.int .i64 x,.int .i64 y,.int .i64 z] 306)::slc 3 1 (.slice (some ⟨g1,0,none⟩) 286 286) 286 (nums (litN l k))::slc 3 1 (.slice (some ⟨g2,0,none⟩) 30 30) 30 (nums (distN l k))::[]):=H
   clear c0 cc1 cc2
   have hlen1:=litN_len l k
   have hlen2:=distN_len l k
   have c0:=H.cells
   by_cases hx:x=0
   ·subst hx
    have hz:0≤z∧z<256:=by rcases hok with h | h <;> simp only at h <;> omega
    obtain ⟨s,rfl⟩:∃ s:Nat,z=s:=⟨z.toNat,by omega⟩
    have hb:=litN_bd l k s
    rw [hN.out] at hb
    have c1:=(H.front 1 rfl).getc (Jj (Za (F:=litN l k) (i:=s) (by omega)))
    have hst:=nums_bump (litN l k) s
    have hds2:Hid (distN l (k+1)=distN l k):=jd (by have:=HDS.out;rw [if_pos rfl] at this;exact this)
    have hls2:Hid (litN l (k+1)=bump1 (litN l k) (s:Int)):=jd (by have:=HLS.out;unfold litS at this;rw [if_pos rfl] at this;exact this)
    obtain ⟨v,hv⟩:∃ v,(litN l k).getD s 0=v:=⟨_,rfl⟩
    rw [hv] at hb c1 hst
    have hw:IntKind.i64.wrap (v+1)=v+1:=IntWalk.i64_in _ ⟨by omega,by omega⟩
    have hsI:(s:Int)<286:=by omega
    have HST:=jd hst
    clear hv hst hlen1 hlen2 hok HDS HLS
    go_wp2_with (refine Ja rfl _ _ rfl rfl (H.front 1 rfl) (.int .i64 (v+1)) rfl (by kernel_rfl) (by omega) rfl ?_;clear H c1 c0;intro w6 H;rw [HST.out,← hls2.out] at H)
    go_roundw
    case rel=>exact ⟨k+1,by go_num,by omega,by rw [hds2.out];exact ((H.front 1 rfl).drop)⟩
    case measure=>simp [intOf];omega
   ·have hxb:(x==0)=false:=by simpa using hx
    have hb:3≤x∧x≤258∧1≤y∧y≤32768:=by rcases hok with h | h <;> simp only at h <;> omega
    obtain ⟨p,rfl⟩:∃ p:Nat,x=p:=⟨x.toNat,by omega⟩
    obtain ⟨q,rfl⟩:∃ q:Nat,y=q:=⟨y.toNat,by omega⟩
    have hlb:=lenSym_bd (n:=p) (by omega)
    have hdb:=distSym_bd (n:=q) (by omega)
    have hln:=length_any p (by omega) (by omega)
    have hdn:=dist_any q (by omega) (by omega)
    have hds2:distN l (k+1)=bump1 (distN l k) ((Jk q).1:Int):=by have:=HDS.out;rw [if_neg hx] at this;unfold distS at this;simpa using this
    have hls2:litN l (k+1)=bump1 (litN l k) ((Jy p).1:Int):=by have:=HLS.out;unfold litS at this;rw [if_neg hx] at this;simpa using this
    obtain ⟨l1,l2,l3,hl1⟩:∃ l1 l2 l3,Jy p=(l1,l2,l3):=⟨_,_,_,rfl⟩
    obtain ⟨d1,d2,d3,hd1⟩:∃ d1 d2 d3,Jk q=(d1,d2,d3):=⟨_,_,_,rfl⟩
    rw [hl1] at hlb hln hls2
    rw [hd1] at hdb hdn hds2
    simp only at hlb hdb hln hdn hls2 hds2
    have c1:=(H.front 1 rfl).getc (Jj (Za (F:=litN l k) (i:=l1) (by omega)))
    have c2:=(H.front 2 rfl).getc (Jj (Za (F:=distN l k) (i:=d1) (by omega)))
    have hst:=nums_bump (litN l k) l1
    have hst2:=nums_bump (distN l k) d1
    have hb1:=litN_bd l k l1
    have hb2:=distN_bd l k d1
    rw [hN.out] at hb1 hb2
    rw [← hls2] at hst
    rw [← hds2] at hst2
    have hd29:=hdb.1
    obtain ⟨v,hv⟩:∃ v,(litN l k).getD l1 0=v:=⟨_,rfl⟩
    obtain ⟨u,hu⟩:∃ u,(distN l k).getD d1 0=u:=⟨_,rfl⟩
    rw [hv] at hb1 c1 hst
    rw [hu] at hb2 c2 hst2
    have hw:IntKind.i64.wrap (v+1)=v+1:=IntWalk.i64_in _ ⟨by omega,by omega⟩
    have hw2:IntKind.i64.wrap (u+1)=u+1:=IntWalk.i64_in _ ⟨by omega,by omega⟩
    have hsI:(l1:Int)<286:=by omega
    have hdI:(d1:Int)<30:=by omega
    have HST:=jd hst
    have HST2:=jd hst2
    have LN:=jd hln
    have DN:=jd hdn
    have hl286:l1<286:=by omega
    have hd30:d1<30:=by omega
    have HU:=jd (show (nums (distN l k))[d1]?=some (.int .i64 u) by rw [← hu];exact Jj (Za (by omega)))
    clear hv hu hst hst2 hlen1 hlen2 hok HDS HLS hlb hdb hln hdn hls2 hds2 hl1 hd1
    have CELLS:=jd (fun (w':World) (h:Own w5 w' [])=>And.intro ((h.oldCell (World.block_lt_of_cell? _ _ c1)).trans c1) ((h.oldCell (World.block_lt_of_cell? _ _ c2)).trans c2))
    clear c1 c2
    go_wp2_with fail
    refine (LN.out _).mono ?_
    rintro e w6 ⟨_,rfl,rfl,H6⟩
    obtain ⟨c1,c2⟩:=CELLS.out _ H6
    replace H:=H.join H6
    clear H6 c0
    have H:Own w w6 (blk tb (.cells #[.int .i64 (p:Int),.int .i64 (q:Int),.int .i64 z] 306)::slc 3 1 (.slice (some ⟨g1,0,none⟩) 286 286) 286 (nums (litN l k))::slc 3 1 (.slice (some ⟨g2,0,none⟩) 30 30) 30 (nums (distN l k))::[]):=H
    have c0:=H.cells
    go_wp2_with (refine Ja rfl _ _ rfl rfl (H.front 1 rfl) (.int .i64 (v+1)) rfl (by kernel_rfl) hl286 rfl ?_;clear H c1 c0;intro w7 H;rw [HST.out] at H;replace H:=H.swap;have c0:=H.cells)
    refine (DN.out _).mono ?_
    rintro e w8 ⟨_,rfl,rfl,H6⟩
    replace H:=H.join H6
    clear H6 c0
    have H:Own w w8 (blk tb (.cells #[.int .i64 (p:Int),.int .i64 (q:Int),.int .i64 z] 306)::slc 3 1 (.slice (some ⟨g1,0,none⟩) 286 286) 286 (nums (litN l (k+1)))::slc 3 1 (.slice (some ⟨g2,0,none⟩) 30 30) 30 (nums (distN l k))::[]):=H
    have c2':=(H.front 2 rfl).getc HU.out
    clear c2
    go_wp2_with (refine Ja rfl _ _ rfl rfl (H.front 2 rfl) (.int .i64 (u+1)) rfl (by kernel_rfl) hd30 rfl ?_;clear H c2';intro w9 H;rw [HST2.out] at H)
    go_roundw
    case rel=>exact ⟨k+1,by go_num,by omega,(((H.front 2 rfl).front 2 rfl).drop)⟩
    case measure=>simp [intOf];omega
  ·obtain rfl:k=N:=by omega
   have hI:¬ (k:Int)<(k:Int):=by omega
   have h1:litN l k=litFq l:=by unfold litN;rw [List.take_of_length_le (by rw [hN.out];exact Nat.le_refl _)]
   have h2:distN l k=distFq l:=by unfold distN;rw [List.take_of_length_le (by rw [hN.out];exact Nat.le_refl _)]
   rw [h1,h2] at H
   clear h1 h2
   go_wp2_with fail
   go_ret2
   exact ⟨_,rfl,_,_,rfl,H⟩
def rcell(r:Run):List Value:=[.int .i64 r.sym,.int .i64 r.n,.int .i64 r.v]
theorem rcell_length(r:Run):(rcell r).length=3:=rfl
theorem runInfo:(Tryz.prog.info? 390).map (fun i=>(i.zero,i.size,i.bytes))=some (some (.agg #[.int .i64 0,.int .i64 0,.int .i64 0]),3,24):=by kernel_rfl
theorem rd_tailK{w:World}{b o cap n k:Nat}{F:List Int}(h:Rd w 1 (.slice (some ⟨b,o,none⟩) n cap) n (nums F))(hk:k≤n) :
 Rd w 1 (.slice (if cap=k then some ⟨b,o,none⟩ else some ⟨b,o+k,none⟩) (n-k) (cap-k)) (n-k) (nums (F.drop k)):=by
 have h1:=h.tail (k:=k) hk
 have e:(nums F).drop (k*1)=nums (F.drop k):=by rw [Nat.mul_one];simp [nums,List.map_drop]
 rw [e] at h1
 by_cases hc:cap=k
 ·subst hc
  obtain ⟨hl,a,c,e,hle,_⟩:=h
  cases e
  have hn:n=cap:=by omega
  subst hn
  rw [if_pos rfl,Nat.sub_self]
  have hx:F.drop n=[]:=List.drop_eq_nil_of_le (by rw [Qg] at hl;omega)
  rw [hx]
  exact ⟨by simp [nums],_,_,rfl,by omega,by simp [maxLen],by simp,fun ad _ j u hu=>by simp [nums] at hu⟩
 ·rw [if_neg hc]
  have e2:(⟨b,o,none⟩:Addr).add (k*1)=⟨b,o+k,none⟩:=by rw [Addr.add_lit,Nat.mul_one]
  rw [e2] at h1
  exact h1
theorem sameK_le(x:Int):∀ t,sameK x t≤t.length
 | []=>by simp [sameK]
 | y::t=>by
  rw [sameK]
  have:=sameK_le x t
  split <;> simp <;> omega
theorem sameK_get{x:Int}:∀ (t:List Int) (j:Nat),j<sameK x t→t.getD j 0=x
 | [],j,h=>by simp [sameK] at h
 | y::t,j,h=>by
  rw [sameK] at h
  split at h
  ·next he=>
   cases j with
   | zero=>simpa using he
   | succ j=>simpa using sameK_get t j (by omega)
  ·omega
theorem sameK_end{x:Int}:∀ (t:List Int),sameK x t<t.length→t.getD (sameK x t) 0≠x
 | [],h=>by simp at h
 | y::t,h=>by
  rw [sameK] at h ⊢
  split
  ·next he=>
   rw [if_pos he] at h
   have:=sameK_end t (by simpa using h)
   simpa using this
  ·next he=>simpa using he
theorem runs_fuel:∀ (f g:Nat) (X:List Int),X.length≤f→X.length≤g→runsN f X=runsN g X:=by
 intro f
 induction f with
 | zero=>
  intro g X hf hg
  have:X=[]:=eJ (by omega)
  subst this
  cases g <;> rfl
 | succ f ih=>
  intro g X hf hg
  cases X with
  | nil=>cases g <;> rfl
  | cons x t=>
   obtain ⟨g,rfl⟩:∃ g',g=g'+1:=⟨g-1,by simp at hg;omega⟩
   simp only [List.length_cons] at hf hg
   have hd:∀ j,1≤j→runsN f ((x::t).drop j)=runsN g ((x::t).drop j):=fun j hj=>ih g _ (by rw [List.length_drop,List.length_cons];omega) (by rw [List.length_drop,List.length_cons];omega)
   rw [runsN,runsN,hd _ (by omega),hd _ (by omega),hd _ (by omega),ih g t (by omega) (by omega)]
theorem runs_rest{f n k:Nat}{X:List Int}(h:X.length=n)(hk:1≤k)(hf:n≤f+1):runsN f (X.drop k)=runsN (n-k) (X.drop k):=
 runs_fuel _ _ _ (by rw [List.length_drop];omega) (by rw [List.length_drop];omega)
section
variable {w0 w:World} {ps:List Piece} {e:TypeId} {size n:Nat} {v:Value} {xs:List Value} {P:Program} {t:TypeId} {z:Value} {bytes:Nat}
theorem wpList_append_many{ops:Array Oper}{rest:List Oper}{o:Oper}{a:Act}{Q:Exit→Act→World→Prop}(hgd:o.guard=none)(s x:Operand)
 (ho:o.op=.call { callee:=.builtin .append,args:=#[s,x],argTypes:=#[t,t] })
 (ht:P.underlying t=some (.slice e)) (hinfo:(P.info? e).map (fun i=>(i.zero,i.size,i.bytes))=some (some z,size,bytes)) (hzs:z.cells.size=size) (hsz:0<size)
 (hs:a.eval s=v) (H:Own w0 w (slc e size v n xs::ps))
 {news:List Value} {m c:Nat} (hx:a.eval x=.slice (some ⟨w.heap.size,0,none⟩) m c) (hc:c=m) (hm:m≤1000) (hl:news.length=m*size) (h1:∀ u∈news,u.oneCell'=true)
 (h63:n+m≤9223372036854775807) (hbytes:(n+m)*bytes≤140737488355328)
 (h:∀ v' w',Own w0 w' (slc e size v' (n+m) (xs++news)::ps)→wpList P ops Q rest (a.put o.dst v') w'):wpList P ops Q (o::rest) a (w.alloc (.cells news.toArray e)):=by
 subst hc
 refine Qn hgd s x ho ht hinfo hzs hsz hs (H.alloc' _) (m:=c) (news:=news) ?_ h1 h63 hbytes h
 rw [hx]
 exact ((H.made news e size c hl (by simp [maxLen];omega)).rd)
end
set_option maxRecDepth 100000 in
set_option maxHeartbeats 12800000 in
theorem runs_any{w:World}{v:Value}{m:Nat}{L:List Int}(hr:Rd w 1 v m (nums L))(hm:m≤1000) :
 Calls Tryz.prog 273 #[v] w (Ret fun r w'=>Own w w' [slc 390 3 r (runsF L).length (rows rcell (runsF L))]):=by
 have H:=(Own.start w).nil 390 3
 have hLn:=rd_len hr
 obtain ⟨R,hR⟩:∃ R,Hid (runsF L=R):=⟨_,jd rfl⟩
 rw [hR.out]
 have hR0:Hid ([]++runsN m L=R):=jd (by rw [List.nil_append,← hR.out,← hLn];rfl)
 have HR:=jd hr
 have HLN:=jd hLn
 obtain ⟨a0,c0,rfl,-⟩:=hr.shape
 clear hr hLn hR
 go_enter Tryz.func273,Tryz.ntmps273
 go_wp2_with fail
 go_loopw [0,3] (fun s0 s3 wx=>∃ (X:List Int) (n q:Nat) (rs:List Run),Hid (Rd w 1 s0 n (nums X))∧Hid (X.length=n)∧n≤1000∧q+2*n≤2000∧Hid (rs++runsN n X=R)∧Hid (rs.length=q)∧Own w wx [slc 390 3 s3 q (rows rcell rs)]) (fun s0 _ _=>Jr s0)
 case atStart=>exact ⟨L,m,0,[],HR,HLN,hm,by omega,hR0,jd rfl,H⟩
 case round=>
  clear H HR HLN hR0
  obtain ⟨X,n,q,rs,HU,hXl,hn,hq,hRs,hql,H⟩:=hrel
  obtain ⟨sa,sc,rfl,hsc1,hsc2⟩:=HU.out.shape
  obtain ⟨ra,rc,rfl,hrc1,hrc2⟩:=H.rd.shape
  by_cases h0:0<n
  ·have h0I:(0:Int)<(n:Int):=by omega
   obtain ⟨x,t,rfl⟩:∃ x t,X=x::t:=by
    cases X with
    | nil=>have:=hXl.out;simp at this;omega
    | cons x t=>exact ⟨x,t,rfl⟩
   have htl:t.length=n-1:=by have:=hXl.out;simp at this;omega
   obtain ⟨b,o,_,he,-⟩:=HU.out.some (by rw [Qg,hXl.out];exact h0)
   cases he
   obtain ⟨K,hK⟩:∃ K,Hid (sameK x t+1=K):=⟨_,jd rfl⟩
   have hKn:K≤n:=by rw [← hK.out];have:=sameK_le x t;omega
   have hK1:1≤K:=by rw [← hK.out];omega
   have g:∀ (w':World) (ps':List Piece),Own w w' ps'→∀ j,j<n→w'.cell? ⟨b,o+j,none⟩=some (.int .i64 ((x::t).getD j 0)):=fun w' ps' h j hj=>by
    have h2:=rd_at HU.out h hj
    obtain ⟨_,_,e,h3⟩:=h2
    cases e
    exact h3
   have hg0:Hid (∀ j,j<K→(x::t).getD j 0=x):=jd (fun j hj=>by
    cases j with
    | zero=>rfl
    | succ j=>simpa using sameK_get t j (by rw [← hK.out] at hj;omega))
   have hgK:Hid (K<n→(x::t).getD K 0≠x):=jd (fun h=>by
    rw [← hK.out] at h ⊢
    have:=sameK_end (x:=x) t (by omega)
    simpa using this)
   have G:=jd g
   clear g htl
   go_wp2_with fail
   go_loopw [4] (fun s4 wx=>∃ k:Nat,s4=.int .i64 k∧1≤k∧k≤K∧Own w wx [slc 390 3 (.slice ra q rc) q (rows rcell rs)]) (fun s4 _=>1000-(intOf s4).toNat)
   case atStart=>exact ⟨1,by go_num,by omega,hK1,H⟩
   case round=>
    clear H
    obtain ⟨k,rfl,hk1,hkK,H⟩:=hrel
    have hcase:k<K∨k=K∧K<n∨k=K∧Hid (K=n):=by
     rcases Nat.lt_or_ge k K with h | h
     ·exact .inl h
     ·rcases Nat.lt_or_ge K n with h2 | h2
      ·exact .inr (.inl ⟨by omega,h2⟩)
      ·exact .inr (.inr ⟨by omega,jd (by omega)⟩)
    rcases hcase with hlt | ⟨rfl,hlt⟩ | ⟨rfl,hlt⟩
    ·have hkI:(k:Int)<(n:Int):=by omega
     have hkn:k<n:=by omega
     have G2:=jd (fun w1 (h:Own w w1 [slc 390 3 (.slice ra q rc) q (rows rcell rs)])=>And.intro (G.out w1 _ h 0 h0) (G.out w1 _ h k hkn))
     rw [hg0.out 0 (by omega),hg0.out k hlt,Nat.add_zero] at G2
     go_upto_region 4 with (fail)
     refine Qa (fun w1=>Own w w1 [slc 390 3 (.slice ra q rc) q (rows rcell rs)]) 13 (by kernel_rfl) (by kernel_rfl) H.drew ?_
     simp only [List.take_succ_cons,List.take_zero,List.drop_succ_cons,List.drop_zero]
     repeat
      first
      | (refine calm_value (v:=?_) (by decide) rfl (fun σ w1 hS=>?_) ?_
         rotate_left
         ·obtain ⟨c1,c2⟩:=G2.out _ hS
          first | (go_simp;rfl) | rfl
         simp only [Act.put,putC])
      | (refine calm_skip (by decide) rfl ?_
         simp only [Act.put,putC])
     refine calm_nil ?_
     intro wd HD
     clear H
     go_wp2_with fail
     go_roundw
     case rel=>exact ⟨k+1,by go_num,by omega,by omega,HD⟩
     case measure=>simp [intOf];omega
    case' inr.inl=>
     have hkI:(k:Int)<(n:Int):=by omega
     obtain ⟨y,hy⟩:∃ y,Hid ((x::t).getD k 0=y):=⟨_,jd rfl⟩
     have hyx:(y==x)=false:=by have:=hgK.out hlt;rw [hy.out] at this;simpa using this
     have G2:=jd (fun w1 (h:Own w w1 [slc 390 3 (.slice ra q rc) q (rows rcell rs)])=>And.intro (G.out w1 _ h 0 h0) (G.out w1 _ h k hlt))
     rw [hg0.out 0 (by omega),hy.out,Nat.add_zero] at G2
     go_upto_region 4 with (fail)
     refine Qa (fun w1=>Own w w1 [slc 390 3 (.slice ra q rc) q (rows rcell rs)]) 13 (by kernel_rfl) (by kernel_rfl) H.drew ?_
     simp only [List.take_succ_cons,List.take_zero,List.drop_succ_cons,List.drop_zero]
     repeat
      first
      | (refine calm_value (v:=?_) (by decide) rfl (fun σ w1 hS=>?_) ?_
         rotate_left
         ·obtain ⟨c1,c2⟩:=G2.out _ hS
          first | (go_simp;rfl) | rfl
         simp only [Act.put,putC])
      | (refine calm_skip (by decide) rfl ?_
         simp only [Act.put,putC])
     refine calm_nil ?_
     intro wd HD
     clear H hyx hy G2
    case' inr.inr=>
     have hkI:¬ (k:Int)<(n:Int):=by have:=hlt.out;omega
     go_upto_region 4 with (fail)
     refine Qa (fun w1=>Own w w1 [slc 390 3 (.slice ra q rc) q (rows rcell rs)]) 13 (by kernel_rfl) (by kernel_rfl) H.drew ?_
     simp only [List.take_succ_cons,List.take_zero,List.drop_succ_cons,List.drop_zero]
     repeat
      first
      | (refine calm_value (v:=?_) (by decide) rfl (fun σ w1 hS=>?_) ?_
         rotate_left
         ·skip
          first | (go_simp;rfl) | rfl
         simp only [Act.put,putC])
      | (refine calm_skip (by decide) rfl ?_
         simp only [Act.put,putC])
     refine calm_nil ?_
     intro wd HD
     clear H
    all_goals
     clear hkI hlt
     obtain ⟨n,rfl⟩:∃ n',n=n'+1:=⟨n-1,by omega⟩
     have H:=HD
     clear HD
     have c1:=G.out wd _ H 0 (by omega)
     rw [hg0.out 0 (by omega),Nat.add_zero] at c1
     have hRs2:=hRs.out
     rw [runsN,hK.out] at hRs2
     have hrest:=fun j (hj:1≤j)=>runs_rest (f:=n) (k:=j) hXl.out hj (Nat.le_refl _)
     have hcI:((n+1:Nat):Int)≤(sc:Int):=by omega
     have hkn2:(k:Int)≤((n+1:Nat):Int):=by omega
     clear G hg0 hgK hK hRs
     by_cases hA:x=0∧10<k
     ·rw [if_pos hA,hrest _ (by omega)] at hRs2
      obtain ⟨rfl,hk10⟩:=hA
      have hk10I:(10:Int)<(k:Int):=by omega
      obtain ⟨kk,hkk⟩:∃ kk,Hid (min k 138=kk):=⟨_,jd rfl⟩
      rw [hkk.out] at hRs2
      have hkk1:11≤kk:=by rw [← hkk.out];omega
      have hkk2:kk≤n+1:=by rw [← hkk.out];omega
      have hkc:(kk:Int)≤(sc:Int):=by omega
      have hkn3:(kk:Int)≤((n+1:Nat):Int):=by omega
      have hkb:kk≤1000:=by omega
      have hw:IntKind.i64.wrap ((kk:Int)-11)=(kk:Int)-11:=IntWalk.i64_in _ ⟨by omega,by omega⟩
      go_upto_region 9 with (fail)
      go_cut [4,40,41] (fun s4 _ _ wx=>wx=wd∧s4=.int .i64 kk)
      case first=>
       have:=hkk.out
       go_wp2
       all_goals go_meet
       all_goals exact ⟨rfl,val_int (by omega)⟩
      case rest=>
      obtain ⟨rfl,rfl⟩:=hcut
      have hrow:rows rcell rs++[.int .i64 (18),.int .i64 (7),.int .i64 ((kk:Int)-11)]=rows rcell (rs++[(⟨18,7,(kk:Int)-11⟩:Run)]):=by rw [Ze];rfl
      have hfin:(rs++[(⟨18,7,(kk:Int)-11⟩:Run)])++runsN (n+1-(kk)) ((0::t).drop (kk))=R:=by rw [← hRs2];exact List.append_assoc _ _ _
      have hql2:Hid ((rs++[(⟨18,7,(kk:Int)-11⟩:Run)]).length=q+1):=jd (by rw [lJ,hql.out];rfl)
      have htail:=rd_tailK HU.out (k:=kk) (by omega)
      have HROW:=jd hrow
      have HFIN:=jd hfin
      have HTAIL:=jd htail
      have hXl2:Hid (((0::t).drop (kk)).length=n+1-(kk)):=jd (by rw [List.length_drop,hXl.out])
      clear hrow hfin htail hRs2
      go_wp2_with (at_builtin;refine Qf rfl _ _ rfl Tryz.underlying387 runInfo rfl (by decide) rfl H (news:=[.int .i64 (18),.int .i64 (7),.int .i64 ((kk:Int)-11)]) rfl rfl rfl (by simp [Value.oneCell']) (by omega) (by omega) ?_;clear H c1;intro v' w' H;rw [HROW.out] at H;obtain ⟨ra2,rc2,rfl,-⟩:=H.rd.shape)
      go_roundw
      case rel=>exact ⟨_,_,_,_,HTAIL,hXl2,by omega,by omega,HFIN,hql2,H⟩
      case measure=>simp [Jr] <;> omega
     ·rw [if_neg hA] at hRs2
      by_cases hB:x=0∧2<k
      ·rw [if_pos hB,hrest _ (by omega)] at hRs2
       obtain ⟨rfl,hk2⟩:=hB
       have hk10I:¬ (10:Int)<(k:Int):=by omega
       have hk2I:(2:Int)<(k:Int):=by omega
       have hw:IntKind.i64.wrap ((k:Int)-3)=(k:Int)-3:=IntWalk.i64_in _ ⟨by omega,by omega⟩
       clear hA
       have hrow:rows rcell rs++[.int .i64 (17),.int .i64 (3),.int .i64 ((k:Int)-3)]=rows rcell (rs++[(⟨17,3,(k:Int)-3⟩:Run)]):=by rw [Ze];rfl
       have hfin:(rs++[(⟨17,3,(k:Int)-3⟩:Run)])++runsN (n+1-(k)) ((0::t).drop (k))=R:=by rw [← hRs2];exact List.append_assoc _ _ _
       have hql2:Hid ((rs++[(⟨17,3,(k:Int)-3⟩:Run)]).length=q+1):=jd (by rw [lJ,hql.out];rfl)
       have htail:=rd_tailK HU.out (k:=k) (by omega)
       have HROW:=jd hrow
       have HFIN:=jd hfin
       have HTAIL:=jd htail
       have hXl2:Hid (((0::t).drop (k)).length=n+1-(k)):=jd (by rw [List.length_drop,hXl.out])
       clear hrow hfin htail hRs2
       go_wp2_with (at_builtin;refine Qf rfl _ _ rfl Tryz.underlying387 runInfo rfl (by decide) rfl H (news:=[.int .i64 (17),.int .i64 (3),.int .i64 ((k:Int)-3)]) rfl rfl rfl (by simp [Value.oneCell']) (by omega) (by omega) ?_;clear H c1;intro v' w' H;rw [HROW.out] at H;obtain ⟨ra2,rc2,rfl,-⟩:=H.rd.shape)
       go_roundw
       case rel=>exact ⟨_,_,_,_,HTAIL,hXl2,by omega,by omega,HFIN,hql2,H⟩
       case measure=>simp [Jr] <;> omega
      ·rw [if_neg hB] at hRs2
       by_cases hC:3<k
       ·rw [if_pos hC,hrest _ (by omega)] at hRs2
        have hx0:(x==0)=false:=by simp;omega
        have hCI:(3:Int)<(k:Int):=by omega
        clear hA hB
        obtain ⟨kk,hkk⟩:∃ kk,Hid (min k 7=kk):=⟨_,jd rfl⟩
        rw [hkk.out] at hRs2
        have hkk1:4≤kk:=by rw [← hkk.out];omega
        have hkk2:kk≤n+1:=by rw [← hkk.out];omega
        have hkc:(kk:Int)≤(sc:Int):=by omega
        have hkn3:(kk:Int)≤((n+1:Nat):Int):=by omega
        have hkb:kk≤1000:=by omega
        have hw:IntKind.i64.wrap ((kk:Int)-4)=(kk:Int)-4:=IntWalk.i64_in _ ⟨by omega,by omega⟩
        go_upto_region 14 with (fail)
        go_cut [4,66,67] (fun s4 _ _ wx=>wx=wd∧s4=.int .i64 kk)
        case first=>
         have:=hkk.out
         go_wp2
         all_goals go_meet
         all_goals exact ⟨rfl,val_int (by omega)⟩
        case rest=>
        obtain ⟨rfl,rfl⟩:=hcut
        have hrow:rows rcell rs++[.int .i64 (x),.int .i64 (0),.int .i64 (0),.int .i64 (16),.int .i64 (2),.int .i64 ((kk:Int)-4)]=rows rcell (rs++[(⟨x,0,0⟩:Run),(⟨16,2,(kk:Int)-4⟩:Run)]):=by rw [Ze];rfl
        have hfin:(rs++[(⟨x,0,0⟩:Run),(⟨16,2,(kk:Int)-4⟩:Run)])++runsN (n+1-(kk)) ((x::t).drop (kk))=R:=by rw [← hRs2];exact List.append_assoc _ _ _
        have hql2:Hid ((rs++[(⟨x,0,0⟩:Run),(⟨16,2,(kk:Int)-4⟩:Run)]).length=q+2):=jd (by rw [lJ,hql.out];rfl)
        have htail:=rd_tailK HU.out (k:=kk) (by omega)
        have HROW:=jd hrow
        have HFIN:=jd hfin
        have HTAIL:=jd htail
        have hXl2:Hid (((x::t).drop (kk)).length=n+1-(kk)):=jd (by rw [List.length_drop,hXl.out])
        clear hrow hfin htail hRs2
        go_wp2_with (at_builtin;refine wpList_append_many rfl _ _ rfl Tryz.underlying387 runInfo rfl (by decide) rfl H (news:=[.int .i64 (x),.int .i64 (0),.int .i64 (0),.int .i64 (16),.int .i64 (2),.int .i64 ((kk:Int)-4)]) rfl rfl (Nat.le_of_ble_eq_true rfl) rfl (by simp [Value.oneCell']) (by omega) (by omega) ?_;clear H c1;intro v' w' H;rw [HROW.out] at H;obtain ⟨ra2,rc2,rfl,-⟩:=H.rd.shape)
        go_roundw
        case rel=>exact ⟨_,_,_,_,HTAIL,hXl2,by omega,by omega,HFIN,hql2,H⟩
        case measure=>simp [Jr] <;> omega
       ·rw [if_neg hC] at hRs2
        rw [show runsN n t=runsN n ((x::t).drop 1) from rfl,hrest 1 (by omega)] at hRs2
        have hCI:¬ (3:Int)<(k:Int):=by omega
        have h10:¬ (10:Int)<(k:Int):=by omega
        by_cases hx:x=0
        ·subst hx
         have h2:¬ (2:Int)<(k:Int):=by omega
         clear hA hB
         have hrow:rows rcell rs++[.int .i64 (0),.int .i64 (0),.int .i64 (0)]=rows rcell (rs++[(⟨0,0,0⟩:Run)]):=by rw [Ze];rfl
         have hfin:(rs++[(⟨0,0,0⟩:Run)])++runsN (n+1-(1)) ((0::t).drop (1))=R:=by rw [← hRs2];exact List.append_assoc _ _ _
         have hql2:Hid ((rs++[(⟨0,0,0⟩:Run)]).length=q+1):=jd (by rw [lJ,hql.out];rfl)
         have htail:=rd_tailK HU.out (k:=1) (by omega)
         have HROW:=jd hrow
         have HFIN:=jd hfin
         have HTAIL:=jd htail
         have hXl2:Hid (((0::t).drop (1)).length=n+1-(1)):=jd (by rw [List.length_drop,hXl.out])
         clear hrow hfin htail hRs2
         go_wp2_with (at_builtin;refine Qf rfl _ _ rfl Tryz.underlying387 runInfo rfl (by decide) rfl H (news:=[.int .i64 (0),.int .i64 (0),.int .i64 (0)]) rfl rfl rfl (by simp [Value.oneCell']) (by omega) (by omega) ?_;clear H c1;intro v' w' H;rw [HROW.out] at H;obtain ⟨ra2,rc2,rfl,-⟩:=H.rd.shape)
         go_roundw
         case rel=>exact ⟨_,_,_,_,HTAIL,hXl2,by omega,by omega,HFIN,hql2,H⟩
         case measure=>simp [Jr] <;> omega
        ·have hxb:(x==0)=false:=by simpa using hx
         clear hA hB
         have hrow:rows rcell rs++[.int .i64 (x),.int .i64 (0),.int .i64 (0)]=rows rcell (rs++[(⟨x,0,0⟩:Run)]):=by rw [Ze];rfl
         have hfin:(rs++[(⟨x,0,0⟩:Run)])++runsN (n+1-(1)) ((x::t).drop (1))=R:=by rw [← hRs2];exact List.append_assoc _ _ _
         have hql2:Hid ((rs++[(⟨x,0,0⟩:Run)]).length=q+1):=jd (by rw [lJ,hql.out];rfl)
         have htail:=rd_tailK HU.out (k:=1) (by omega)
         have HROW:=jd hrow
         have HFIN:=jd hfin
         have HTAIL:=jd htail
         have hXl2:Hid (((x::t).drop (1)).length=n+1-(1)):=jd (by rw [List.length_drop,hXl.out])
         clear hrow hfin htail hRs2
         go_wp2_with (at_builtin;refine Qf rfl _ _ rfl Tryz.underlying387 runInfo rfl (by decide) rfl H (news:=[.int .i64 (x),.int .i64 (0),.int .i64 (0)]) rfl rfl rfl (by simp [Value.oneCell']) (by omega) (by omega) ?_;clear H c1;intro v' w' H;rw [HROW.out] at H;obtain ⟨ra2,rc2,rfl,-⟩:=H.rd.shape)
         go_roundw
         case rel=>exact ⟨_,_,_,_,HTAIL,hXl2,by omega,by omega,HFIN,hql2,H⟩
         case measure=>simp [Jr] <;> omega
  ·have hn0:n=0:=by omega
   subst hn0
   have hRR:rs=R:=by
    rw [← hRs.out];simp [runsN]
   subst hRR
   have h0I:¬ (0:Int)<((0:Nat):Int):=by omega
   go_wp2_with fail
   go_ret
   exact ⟨_,rfl,by rw [hql.out];exact H⟩
theorem Own.trimmed{w0 w:World}{ps:List Piece}{g n c:Nat}{F:List Int}(least:Nat)(h:Own w0 w (slc 3 1 (.slice (some ⟨g,0,none⟩) n c) n (nums F)::ps))(hF:F.length=n) :
 Own w0 w (slc 3 1 (.slice (some ⟨g,0,none⟩) (trimF F least).length c) (trimF F least).length (nums (trimF F least))::ps):=by
 have hk:=trimK_le' F least n
 have h1:=h.slc_take hk
 have e:(nums F).take (trimK F least n*1)=nums (trimF F least):=by
  unfold trimF nums
  rw [Nat.mul_one,List.map_take,hF]
 rw [e] at h1
 rw [trimF_len,hF]
 exact h1
theorem trim_own{w0 w:World}{ps:List Piece}{g n c:Nat}{F:List Int}(least:Nat)(h:Own w0 w (slc 3 1 (.slice (some ⟨g,0,none⟩) n c) n (nums F)::ps))(hF:F.length=n)(hn:n≤1000000)(hl:least≤1000000) :
 Calls Tryz.prog 272 #[.slice (some ⟨g,0,none⟩) n c,.int .i64 least] w (Ret fun r w'=>r=.slice (some ⟨g,0,none⟩) (trimF F least).length c∧Own w0 w' (slc 3 1 (.slice (some ⟨g,0,none⟩) (trimF F least).length c) (trimF F least).length (nums (trimF F least))::ps)):=by
 refine (trim_any least h.rd hn hl).mono ?_
 rintro e w' ⟨v,rfl,rfl,h1⟩
 exact ⟨_,rfl,by rw [trimF_len,hF],(h.join h1).trimmed least hF⟩
theorem order_any(w:World):Calls Tryz.prog 274 #[] w (Ret fun r w'=>r=.agg (nums (ordF.map Int.ofNat)).toArray∧Own w w' []):=by
 have H:=(Own.start w).alloc (.cells #[.int .i64 0,.int .i64 0,.int .i64 0,.int .i64 0,.int .i64 0,.int .i64 0,.int .i64 0,.int .i64 0,.int .i64 0,.int .i64 0,.int .i64 0,.int .i64 0,.int .i64 0,.int .i64 0,.int .i64 0,.int .i64 0,.int .i64 0,.int .i64 0,.int .i64 0] 391)
 go_enter Tryz.func274,Tryz.ntmps274
 go_upto_region 1 with (fail)
 generalize w.alloc _=w1 at *
 generalize w.heap.size=g at *
 go_wp2_with (refine Qe (vs:=nums (ordF.map Int.ofNat)) (cur':=(nums (ordF.map Int.ofNat)).toArray) rfl _ _ rfl rfl H rfl (by kernel_rfl) (by simp [nums,ordF]) (by simp [nums,ordF,Value.oneCell']) rfl ?_;clear H;intro w5 H)
 refine bodyPost_ret (Zm rfl _ _ g _ rfl (run_loadVar_row w5 g _ _ _ _ _ H.block.1 Tryz.underlying391 rfl (by kernel_rfl))) rfl ?_
 exact ⟨_,rfl,rfl,H.bare⟩
theorem made_freq(rs:List Run)(k:Nat)(r:Run)(h:rs[k]?=some r):runFq (rs.take (k+1))=bump1 (runFq (rs.take k)) r.sym:=by
 unfold runFq
 rw [List.take_add_one,h,List.map_append]
 exact bumpF_snoc _ _ _
theorem runB_succ{ls:List Int}{rs:List Run}{k:Nat}{r:Run}(h:rs[k]?=some r):runsB ls (rs.take (k+1))=runsB ls (rs.take k)++runB ls r:=by
 unfold runsB
 rw [List.take_add_one,h,List.flatMap_append]
 simp
theorem lensB_succ{l:List Int}{k:Nat}(h:k<l.length):lensB (l.take (k+1))=lensB (l.take k)++Qj (l.getD k 0) 3:=by
 unfold lensB
 rw [List.take_add_one,Za h,List.flatMap_append]
 simp
theorem run_cells{w:World}{b o c i n:Nat}{l:List Run}{r:Run}(h:Rd w 3 (.slice (some ⟨b,o,none⟩) n c) n (rows rcell l))(ht:l[i]?=some r) :
 w.cell? ⟨b,o+i*3,none⟩=some (.int .i64 r.sym)∧w.cell? ⟨b,o+i*3+1,none⟩=some (.int .i64 r.n)∧w.cell? ⟨b,o+i*3+2,none⟩=some (.int .i64 r.v):=by
 have h0:=h.cell ((Jt rcell rcell_length ht 0 (by omega)).trans rfl)
 have h1:=h.cell ((Jt rcell rcell_length ht 1 (by omega)).trans rfl)
 have h2:=h.cell ((Jt rcell rcell_length ht 2 (by omega)).trans rfl)
 exact ⟨h0,h1,h2⟩
def IsB(r:Value):Prop:=∃ b,r=.bool b
set_option maxRecDepth 100000 in
set_option maxHeartbeats 3200000 in
theorem hasprefix1_any(s p:ByteArray)(w:World) :
 Calls Tryz.prog 134 #[.string s,.string p] w (Ret fun r w'=>IsB r∧w'=w):=by
 obtain ⟨Z,hZ⟩:∃ Z,s.size=Z:=⟨_,rfl⟩
 obtain ⟨P,hP⟩:∃ Z,p.size=Z:=⟨_,rfl⟩
 by_cases h:P≤Z
 ·have hI:(P:Int)≤(Z:Int):=by omega
  go_enter Tryz.func134,Tryz.ntmps134
  go_wp2_with fail
  all_goals go_ret
  all_goals exact ⟨_,rfl,⟨_,rfl⟩,rfl⟩
 ·have hI:¬ (P:Int)≤(Z:Int):=by omega
  go_enter Tryz.func134,Tryz.ntmps134
  go_wp2_with fail
  all_goals go_ret
  exact ⟨_,rfl,⟨_,rfl⟩,rfl⟩
set_option maxRecDepth 100000 in
set_option maxHeartbeats 3200000 in
theorem hasprefix_any(s p:ByteArray)(w:World) :
 Calls Tryz.prog 82 #[.string s,.string p] w (Ret fun r w'=>IsB r∧w'=w):=by
 have H:=jd (hasprefix1_any s p w)
 go_enter Tryz.func82,Tryz.ntmps82
 go_wp2_with fail
 refine H.out.mono ?_
 rintro e w2 ⟨_,rfl,⟨b,rfl⟩,hw2⟩
 obtain rfl:w=w2:=hw2.symm
 go_wp2
 go_ret
 exact ⟨_,rfl,⟨_,rfl⟩,rfl⟩
set_option maxRecDepth 100000 in
set_option maxHeartbeats 3200000 in
theorem under_any(s p:ByteArray)(w:World) :
 Calls Tryz.prog 185 #[.string s,.string p] w (Ret fun r w'=>IsB r∧w'=w):=by
 have H:=jd (hasprefix_any s p w)
 obtain ⟨Z,hZ⟩:∃ Z,s.size=Z:=⟨_,rfl⟩
 obtain ⟨P,hP⟩:∃ Z,p.size=Z:=⟨_,rfl⟩
 by_cases h:P<Z
 ·have hI:(P:Int)<(Z:Int):=by omega
  have hat:=@str_at s P (by omega)
  obtain ⟨c,hc⟩:∃ c,Hid ((bn s).getD P 0=c):=⟨_,rfl⟩
  rw [hc.out] at hat
  go_enter Tryz.func185,Tryz.ntmps185
  by_cases h47:c=47
  ·subst h47
   go_wp2_with fail
   refine H.out.mono ?_
   rintro e w2 ⟨_,rfl,⟨b,rfl⟩,hw2⟩
   obtain rfl:w=w2:=hw2.symm
   go_wp2
   go_ret
   exact ⟨_,rfl,⟨_,rfl⟩,rfl⟩
  ·have h47I:(c==47)=false:=by simp [h47]
   go_wp2_with fail
   go_ret
   exact ⟨_,rfl,⟨_,rfl⟩,rfl⟩
 ·have hI:¬ (P:Int)<(Z:Int):=by omega
  go_enter Tryz.func185,Tryz.ntmps185
  go_wp2_with fail
  go_ret
  exact ⟨_,rfl,⟨_,rfl⟩,rfl⟩
set_option maxRecDepth 100000 in
set_option maxHeartbeats 3200000 in
theorem clash_any(x y:FileP)(w:World) :
 Calls Tryz.prog 119 #[fval x,fval y] w (Ret fun r w'=>IsB r∧Own w w' []):=by
 obtain ⟨xp,xd⟩:=x
 obtain ⟨yp,yd⟩:=y
 have H:=((Own.start w).alloc (.cells #[.string xp,.string xd] 47)).alloc (.cells #[.string yp,.string yd] 47)
 have HU:=jd (under_any yp xp)
 have hs:(w.alloc (.cells #[.string xp,.string xd] 47)).heap.size=w.heap.size+1:=Array.size_push _
 rw [hs] at H
 clear hs
 dsimp only [fval]
 go_enter Tryz.func119,Tryz.ntmps119
 go_upto_region 1 with (fail)
 generalize w.alloc _=w1 at *
 generalize w.heap.size=g at *
 generalize w1.alloc _=w2 at *
 have c0:w2.cell? ⟨g,0,none⟩=some (.string xp):=by rw [H.swap.cells];rfl
 have c1:w2.cell? ⟨g+1,0,none⟩=some (.string yp):=by rw [H.cells];rfl
 by_cases he:xp.toList=yp.toList
 ·have heI:(xp.toList==yp.toList)=true:=by simp [he]
  go_wp2_with fail
  go_ret
  exact ⟨_,rfl,⟨_,rfl⟩,H.drop.drop⟩
 ·have heI:(xp.toList==yp.toList)=false:=by simp [he]
  go_wp2_with fail
  refine (HU.out _).mono ?_
  rintro e w3 ⟨_,rfl,⟨b,rfl⟩,hw3⟩
  obtain rfl:w2=w3:=hw3.symm
  go_wp2
  go_ret
  exact ⟨_,rfl,⟨_,rfl⟩,H.drop.drop⟩
def smf(x:FileP):Prop:=x.path.size≤3000000∧x.data.size≤3000000
theorem take_smf{l:List FileP}{k:Nat}{x:FileP}(hx:l[k]?=some x)(h:∀ y∈l.take k,smf y)(h2:smf x):∀ y∈l.take (k+1),smf y:=by
 intro y hy
 rw [List.take_add_one,hx,List.mem_append] at hy
 rcases hy with hy | hy
 ·exact h y hy
 ·simp at hy;rw [hy];exact h2
set_option maxRecDepth 100000 in
set_option maxHeartbeats 6400000 in
theorem few_any{w:World}{a:Option Addr}{n c:Nat}{l:List FileP}(hr:Rd w 2 (.slice a n c) n (rows fe l))(hs:∀ x∈l,x.path.size≤9223372036854775807∧x.data.size≤9223372036854775807) :
 Calls Tryz.prog 16 #[.slice a n c] w (Ret fun r w'=>∃ k,k≤n∧k≤70∧r=.slice a k c∧Own w w' []∧∀ x∈l.take k,smf x):=by
 have hl:l.length=n:=by have:=hr.len;rw [Qp fe (k:=2) SF.e_length] at this;omega
 have hX:Hid (∀ w' qs,Own w w' qs→∀ k x,l[k]?=some x→∃ b o,a=some ⟨b,o,none⟩∧w'.cell? ⟨b,o+k*2,none⟩=some (.string x.path)∧w'.cell? ⟨b,o+k*2+1,none⟩=some (.string x.data)):=jd fun w' qs h k x hx=>by
  have hkn:=(gJ hx).1
  obtain ⟨b,o,c',e,-⟩:=Rd.some hr (by rw [Qp fe (k:=2) SF.e_length];omega)
  cases e
  have h0:=Rd.cell (hr.old h.bare) (j:=k*2) (u:=.string x.path) (by have:=Jt fe SF.e_length hx 0 (by omega);rw [Nat.add_zero] at this;rw [this];rfl)
  have h1:=Rd.cell (hr.old h.bare) (j:=k*2+1) (u:=.string x.data) (by rw [Jt fe SF.e_length hx 1 (by omega)];rfl)
  exact ⟨b,o,rfl,h0,h1⟩
 obtain ⟨a',c',e,hc1,hc2⟩:=hr.shape
 injection e with e1 e2 e3
 subst e1
 subst e3
 have H:=Own.start w
 go_enter Tryz.func16,Tryz.ntmps16
 go_upto_block 0 with (fail)
 go_wp2_with fail
 go_loopw [3,4] (fun v3 v4 wx=>∃ (k t:Nat),v3=.int .i64 t∧v4=.int .i64 k∧k≤n∧k≤70∧t≤3000000∧Hid (∀ x∈l.take k,smf x)∧Own w wx []) (fun _ v4 _=>n-(intOf v4).toNat)
 case atStart=>exact ⟨0,0,rfl,rfl,by omega,by omega,by omega,jd (by simp),H⟩
 case round=>
  clear H
  obtain ⟨k,t,rfl,rfl,hk,hk70,ht,hsm,H⟩:=hrel
  by_cases hkn:k<n
  ·have hI:(k:Int)<(n:Int):=by omega
   have hk0:(0:Int)≤(k:Int):=by omega
   obtain ⟨x,hx⟩:∃ x,l[k]?=some x:=Ql (by omega)
   obtain ⟨b,o,rfl,-,-⟩:=hX.out _ _ H k x hx
   have hxs:=hs x (List.mem_of_getElem? hx)
   have HC:=jd fun w' (h:Own w w' [])=>(hX.out w' _ h k x hx)
   have hS2:=jd fun h=>take_smf hx hsm.out h
   obtain ⟨p,d⟩:=x
   dsimp only at HC hxs
   obtain ⟨P,hP⟩:∃ Z,p.size=Z:=⟨_,rfl⟩
   obtain ⟨D,hD⟩:∃ Z,d.size=Z:=⟨_,rfl⟩
   obtain ⟨mp,hmp⟩:∃ m,Hid (min P 4194304=m):=⟨_,rfl⟩
   obtain ⟨md,hmd⟩:∃ m,Hid (min D 4194304=m):=⟨_,rfl⟩
   have hmpb:mp≤4194304:=by have:=hmp.out;omega
   have hmdb:md≤4194304:=by have:=hmd.out;omega
   have hmpI:min (P:Int) 4194304=(mp:Int):=by have:=hmp.out;omega
   have hmdI:min (D:Int) 4194304=(md:Int):=by have:=hmd.out;omega
   go_upto_region 5 with (fail)
   refine Qa (fun w1=>Own w w1 []) 17 (by kernel_rfl) (by kernel_rfl) H.drew ?_
   simp only [List.take_succ_cons,List.take_zero,List.drop_succ_cons,List.drop_zero]
   repeat
    first
    | (refine calm_value (v:=?_) (by decide) rfl (fun σ w1 hS=>?_) ?_
       rotate_left
       ·obtain ⟨b',o',e,c0,c1⟩:=HC.out _ hS;cases e
        first | (go_simp;rfl) | rfl
       simp only [Act.put,putC])
    | (refine calm_skip (by decide) rfl ?_
       simp only [Act.put,putC])
   refine calm_nil ?_
   intro wd HD
   clear hX hr hs H HC hx
   have hkc:(k:Int)≤(c:Int):=by omega
   by_cases h3:3000000<t+mp+md
   ·have h3I:(3000000:Int)<(t:Int)+(mp:Int)+(md:Int):=by omega
    go_wp2_with fail
    all_goals go_ret
    exact ⟨_,rfl,k,hk,hk70,rfl,HD,hsm.out⟩
   ·have h3I:¬ (3000000:Int)<(t:Int)+(mp:Int)+(md:Int):=by omega
    by_cases h70:70≤k
    ·have hkI:(70:Int)≤(k:Int):=by omega
     go_wp2_with fail
     all_goals go_ret
     exact ⟨_,rfl,k,hk,hk70,rfl,HD,hsm.out⟩
    ·have hkI:¬ (70:Int)≤(k:Int):=by omega
     have hS3:=jd (hS2.out ⟨by show p.size≤_;have:=hmp.out;omega,by show d.size≤_;have:=hmd.out;omega⟩)
     clear hS2
     go_wp2_with fail
     go_roundw
     case rel=>exact ⟨k+1,t+mp+md,by go_num,by go_num,by omega,by omega,by omega,hS3,HD⟩
     case measure=>simp [intOf];omega
  ·obtain rfl:k=n:=by omega
   have hI:¬ (k:Int)<(k:Int):=by omega
   clear hX hr
   go_wp2
   go_ret
   exact ⟨_,rfl,k,by omega,hk70,rfl,H,hsm.out⟩
def flSumF(l:List FileP):Nat:=(l.map fun x=>x.path.size+x.data.size).sum
theorem sumF_take{l:List FileP}{k:Nat}{x:FileP}(hx:l[k]?=some x):flSumF (l.take (k+1))=flSumF (l.take k)+(x.path.size+x.data.size):=by
 rw [flSumF,flSumF,List.take_add_one,hx,List.map_append,List.sum_append]
 rfl
set_option maxRecDepth 100000 in
set_option maxHeartbeats 6400000 in
theorem files_any{w:World}{a:Option Addr}{n c:Nat}{l:List FileP}(hr:Rd w 2 (.slice a n c) n (rows fe l))(hs:∀ x∈l,x.path.size≤9223372036854775807∧x.data.size≤9223372036854775807) :
 Calls Tryz.prog 4 #[.slice a n c] w (Ret fun r w'=>∃ k,k≤n∧k≤70∧r=.slice a k c∧Own w w' []∧flSumF (l.take k)≤2500):=by
 have hF:=jd (few_any hr hs)
 have hl:l.length=n:=by have:=hr.len;rw [Qp fe (k:=2) SF.e_length] at this;omega
 have hX:Hid (∀ w' qs,Own w w' qs→∀ k x,l[k]?=some x→∃ b o,a=some ⟨b,o,none⟩∧w'.cell? ⟨b,o+k*2,none⟩=some (.string x.path)∧w'.cell? ⟨b,o+k*2+1,none⟩=some (.string x.data)):=jd fun w' qs h k x hx=>by
  have hkn:=(gJ hx).1
  obtain ⟨b,o,c',e,-⟩:=Rd.some hr (by rw [Qp fe (k:=2) SF.e_length];omega)
  cases e
  have h0:=Rd.cell (hr.old h.bare) (j:=k*2) (u:=.string x.path) (by have:=Jt fe SF.e_length hx 0 (by omega);rw [Nat.add_zero] at this;rw [this];rfl)
  have h1:=Rd.cell (hr.old h.bare) (j:=k*2+1) (u:=.string x.data) (by rw [Jt fe SF.e_length hx 1 (by omega)];rfl)
  exact ⟨b,o,rfl,h0,h1⟩
 obtain ⟨a',c',e,hc1,hc2⟩:=hr.shape
 injection e with e1 e2 e3
 subst e1
 subst e3
 clear hr hs
 go_enter Tryz.func4,Tryz.ntmps4
 go_wp2_with fail
 refine hF.out.mono ?_
 rintro e w1 ⟨_,rfl,m,hmn,hm70,rfl,H,hsmf⟩
 replace hsmf:=jd hsmf
 clear hF
 go_upto_block 0 with (fail)
 go_wp2_with fail
 go_loopw [3,4] (fun v3 v4 wx=>∃ (k:Nat),v3=.int .i64 (flSumF (l.take k):Nat)∧v4=.int .i64 k∧k≤m∧flSumF (l.take k)≤2500∧Own w wx []) (fun _ v4 _=>m-(intOf v4).toNat)
 case atStart=>exact ⟨0,rfl,rfl,by omega,by simp [flSumF],H⟩
 case round=>
  clear H
  obtain ⟨k,rfl,rfl,hk,ht,H⟩:=hrel
  obtain ⟨t,htt⟩:∃ t,Hid (flSumF (l.take k)=t):=⟨_,rfl⟩
  rw [htt.out] at ht ⊢
  by_cases hkn:k<m
  ·have hI:(k:Int)<(m:Int):=by omega
   have hk0:(0:Int)≤(k:Int):=by omega
   obtain ⟨x,hx⟩:∃ x,l[k]?=some x:=Ql (by omega)
   obtain ⟨b,o,rfl,-,-⟩:=hX.out _ _ H k x hx
   have hxs:smf x:=hsmf.out x (List.mem_iff_getElem?.2 ⟨k,by rw [List.getElem?_take_of_lt hkn];exact hx⟩)
   obtain ⟨hxs1,hxs2⟩:=hxs
   have HC:=jd fun w' (h:Own w w' [])=>(hX.out w' _ h k x hx)
   have hS2:=sumF_take hx
   rw [htt.out] at hS2
   obtain ⟨p,d⟩:=x
   dsimp only at HC hxs1 hxs2 hS2
   obtain ⟨P,hP⟩:∃ Z,p.size=Z:=⟨_,rfl⟩
   obtain ⟨D,hD⟩:∃ Z,d.size=Z:=⟨_,rfl⟩
   rw [hP] at hxs1
   rw [hD] at hxs2
   rw [hP,hD] at hS2
   replace hS2:=jd hS2
   go_upto_region 6 with (fail)
   refine Qa (fun w1=>Own w w1 []) 15 (by kernel_rfl) (by kernel_rfl) H.drew ?_
   simp only [List.take_succ_cons,List.take_zero,List.drop_succ_cons,List.drop_zero]
   repeat
    first
    | (refine calm_value (v:=?_) (by decide) rfl (fun σ w1 hS=>?_) ?_
       rotate_left
       ·obtain ⟨b',o',e,c0,c1⟩:=HC.out _ hS;cases e
        first | (go_simp;rfl) | rfl
       simp only [Act.put,putC])
    | (refine calm_skip (by decide) rfl ?_
       simp only [Act.put,putC])
   refine calm_nil ?_
   intro wd HD
   clear hX H HC hx
   have hkc:(k:Int)≤(c:Int):=by omega
   by_cases h3:2500<t+P+D
   ·have h3I:(2500:Int)<(t:Int)+(P:Int)+(D:Int):=by omega
    go_wp2_with fail
    all_goals go_ret
    exact ⟨_,rfl,k,by omega,by omega,rfl,HD,by rw [htt.out];exact ht⟩
   ·have h3I:¬ (2500:Int)<(t:Int)+(P:Int)+(D:Int):=by omega
    go_wp2_with fail
    go_roundw
    case rel=>exact ⟨k+1,by rw [hS2.out];congr 1;first | (rw [IntWalk.i64_in ((t:Int)+(P:Int)) ⟨by omega,by omega⟩,IntWalk.i64_in _ ⟨by omega,by omega⟩];omega) | omega,by go_num,by omega,by rw [hS2.out];omega,HD⟩
    case measure=>simp [intOf];omega
  ·obtain rfl:k=m:=by omega
   have hI:¬ (k:Int)<(k:Int):=by omega
   clear hX
   go_wp2
   go_ret
   exact ⟨_,rfl,k,by omega,hm70,rfl,H,by rw [htt.out];exact ht⟩
theorem fix_sym{t:Tok}(h:TokOk t):SymOk fixL fixD t:=by
 refine ⟨h,fun h0=>?_,fun h0=>?_⟩
 ·rw [fixL_ok.1];rcases h with h | h <;> omega
 ·have h1:3≤t.len∧t.len≤258∧1≤t.dist∧t.dist≤32768:=by rcases h with h | h <;> omega
  have h2:=lenSym_bd (n:=t.len.toNat) (by omega)
  have h3:=distSym_bd (n:=t.dist.toNat) (by omega)
  rw [fixL_ok.1,fixD_ok.1]
  omega
theorem fixL_wt:sumF wtF fixL≤2^15:=(table_ok fixL_ok.2.2).2.2
theorem fixD_wt:sumF wtF fixD≤2^15:=(table_ok fixD_ok.2.2).2.2
theorem parse_ok(s:ByteArray):∀ t∈parse s,TokOk t:=by
 have key:∀ f i,∀ t∈parseN s f i,TokOk t:=by
  intro f
  induction f with
  | zero=>intro i t h;simp [parseN] at h
  | succ f ih=>
   intro i t h
   rw [parseN] at h
   split at h
   ·rcases List.mem_cons.1 h with rfl | h
    ·exact may_ok (n:=i) tokAt_may
    ·exact ih _ t h
   ·simp at h
 exact key _ _
theorem parse_len(s:ByteArray):(parse s).length≤s.size:=by
 have key:∀ f i,(parseN s f i).length≤f:=by
  intro f
  induction f with
  | zero=>intro i;simp [parseN]
  | succ f ih=>
   intro i
   rw [parseN]
   split
   ·have:=ih (i+stepAt s i);simp;omega
   ·simp
 exact key _ _
set_option maxRecDepth 100000 in
set_option maxHeartbeats 3200000 in
theorem block1_any{w0 w:World}{ps:List Piece}{g:Nat}{bs:List Bool}{tv:Value}{l:List Tok}(last:Bool)(ht:Reads w0 ps 3 tv l.length (rows tcell l))(hs:∀ t∈l,TokOk t)(H:Own w0 w (Wtr g bs::ps))(hl:bs.length+48*l.length≤35184372070000) :
 Calls Tryz.prog 130 #[.pointer (some ⟨g,0,none⟩),tv,.int .i64 1,.bool last] w (Ret fun _ w'=>Own w0 w' (Wtr g (bs++blockB l 1 last)::ps)):=by
 obtain ⟨ta,tc,rfl,ht1,ht2⟩:=(ht w H.drop).shape
 have h1:=head_any last 1 (by omega) H (by omega)
 have hB:Hid (bs++blockB l 1 last=bs++headB last 1++bodyB fixL fixD l):=jd (by unfold blockB;rw [if_pos rfl,List.append_assoc])
 have hBl:(bs++headB last 1).length≤bs.length+3:=by rw [lJ];simp [headB,Qd]
 rw [hB.out]
 obtain ⟨B,hB2⟩:∃ B,Hid (bs++headB last 1=B):=⟨_,rfl⟩
 rw [hB2.out] at h1 hBl ⊢
 obtain ⟨N,hN⟩:∃ N,Hid (l.length=N):=⟨_,rfl⟩
 have HS:=jd hs
 have H1:=jd h1
 have HT:=jd ht
 rw [hN.out] at hl ht1 HT ⊢
 clear h1 hs ht
 go_enter Tryz.func130,Tryz.ntmps130
 go_wp2_with fail
 refine H1.out.mono ?_
 rintro e w1 ⟨_,rfl,H2⟩
 clear H
 go_wp2_with fail
 refine (fixed_any _).mono ?_
 rintro e w2 ⟨_,rfl,v,u,rfl,H3⟩
 have H:=H2.join H3
 clear H2 H3
 obtain ⟨av,cv,rfl,-⟩:=(H.front 1 rfl).rd.shape
 obtain ⟨au,cu,rfl,-⟩:=(H.front 0 rfl).rd.shape
 go_wp2_with fail
 refine (made_any (H.front 1 rfl).rd (by omega) fixL_ok.2.1).mono ?_
 rintro e w3 ⟨_,rfl,vc,rfl,H3⟩
 replace H:=H.join H3
 clear H3
 obtain ⟨a5,c5,rfl,-⟩:=(H.front 0 rfl).rd.shape
 go_wp2_with fail
 refine (made_any (H.front 1 rfl).rd (by omega) fixD_ok.2.1).mono ?_
 rintro e w4 ⟨_,rfl,uc,rfl,H3⟩
 replace H:=H.join H3
 clear H3
 obtain ⟨a6,c6,rfl,-⟩:=(H.front 0 rfl).rd.shape
 rw [fixL_ok.1,fixD_ok.1] at H
 have H:Own w0 w4 (Wtr g B::slc 3 1 (.slice a6 32 c6) 32 (nums (Zc fixD))::slc 3 1 (.slice a5 288 c5) 288 (nums (Zc fixL))::slc 3 1 (.slice au 32 cu) 32 (nums fixD)::slc 3 1 (.slice av 288 cv) 288 (nums fixL)::ps):=H.front 4 rfl
 have hL:CodOk w0 (slc 3 1 (.slice a6 32 c6) 32 (nums (Zc fixD))::slc 3 1 (.slice a5 288 c5) 288 (nums (Zc fixL))::slc 3 1 (.slice au 32 cu) 32 (nums fixD)::slc 3 1 (.slice av 288 cv) 288 (nums fixL)::ps) (.slice av 288 cv) (.slice a5 288 c5) fixL:=⟨fun w' h=>by rw [fixL_ok.1];exact (h.front 3 rfl).rd,fun w' h=>by rw [fixL_ok.1];exact (h.front 1 rfl).rd,fixL_bd,fixL_wt,by rw [fixL_ok.1];omega⟩
 have hD:CodOk w0 (slc 3 1 (.slice a6 32 c6) 32 (nums (Zc fixD))::slc 3 1 (.slice a5 288 c5) 288 (nums (Zc fixL))::slc 3 1 (.slice au 32 cu) 32 (nums fixD)::slc 3 1 (.slice av 288 cv) 288 (nums fixL)::ps) (.slice au 32 cu) (.slice a6 32 c6) fixD:=⟨fun w' h=>by rw [fixD_ok.1];exact (h.front 2 rfl).rd,fun w' h=>by rw [fixD_ok.1];exact h.rd,fixD_bd,fixD_wt,by rw [fixD_ok.1];omega⟩
 have hb:=body_any hL hD (l:=l) (tv:=.slice ta N tc) (by rw [hN.out];exact HT.out.mono fun w' h=>h.drop.drop.drop.drop) (fun t h=>fix_sym (HS.out t h)) (by rw [fixL_ok.1];omega) H (by rw [hN.out];omega)
 have HB:=jd hb
 clear hb hL hD
 go_wp2_with fail
 refine HB.out.mono ?_
 rintro e w5 ⟨_,rfl,H5⟩
 go_wp2_with fail
 go_end0
 exact ⟨_,rfl,(((((H5.front 4 rfl).front 4 rfl).front 4 rfl).front 4 rfl).drop.drop.drop.drop)⟩
def simpleF(s:ByteArray):ByteArray:=textOf (blockB (parse s) 1 true)
set_option maxRecDepth 100000 in
theorem simple_any{w:World}(s:ByteArray)(hs:s.size≤1000000) :
 Calls Tryz.prog 78 #[.string s] w (Ret fun r w'=>r=.string (simpleF s)∧Own w w' []):=by
 have H:=(Own.start w).newWtr
 obtain ⟨T,hT⟩:∃ T,Hid (parse s=T):=⟨_,rfl⟩
 have hok:=parse_ok s
 have hlen:=parse_len s
 unfold simpleF
 rw [hT.out] at hok hlen ⊢
 have HOK:=jd hok
 clear hok
 go_enter Tryz.func78,Tryz.ntmps78
 go_wp2_with fail
 generalize w.alloc _=w1 at *
 generalize w.heap.size=g at *
 refine (lzparse_any H hs).mono ?_
 rintro e w2 ⟨v,rfl,H2⟩
 rw [hT.out] at H2
 clear H
 obtain ⟨a,c,rfl,-⟩:=H2.rd.shape
 have hb:=block1_any (l:=T) true (fun w' h=>h.rd) HOK.out H2.swap (by simp;omega)
 rw [List.nil_append] at hb
 have HB:=jd hb
 clear hb
 obtain ⟨N,hN⟩:∃ N,Hid (T.length=N):=⟨_,rfl⟩
 rw [hN.out] at HB ⊢
 go_wp2_with fail
 refine HB.out.mono ?_
 rintro e w3 ⟨_,rfl,H3⟩
 clear H2
 go_wp2_with fail
 refine (bytes_any H3).mono ?_
 rintro e w4 ⟨rfl,rfl⟩
 go_wp2_with fail
 go_ret
 exact ⟨_,rfl,rfl,H3.bare⟩
theorem xor16{n:Nat}(h:n≤65535):bits .xor .i64 (n:Int) 65535=65535-(n:Int):=by
 have h1:n ^^^ 65535=65535-n:=by
  have e1:(BitVec.ofNat 16 n ^^^ BitVec.allOnes 16).toNat=65535-n:=by
   rw [BitVec.xor_allOnes,BitVec.toNat_not,BitVec.toNat_ofNat,Nat.mod_eq_of_lt (by omega)]
  rw [BitVec.toNat_xor,BitVec.toNat_ofNat,Nat.mod_eq_of_lt (by omega)] at e1
  exact e1
 have key:IntKind.i64.wrap ((BitVec.ofInt 64 (n:Int) ^^^ BitVec.ofInt 64 ((65535:Nat):Int)).toNat:Int)=65535-(n:Int):=by
  rw [BitVec.ofInt_natCast,BitVec.ofInt_natCast,BitVec.toNat_xor,BitVec.toNat_ofNat,BitVec.toNat_ofNat,Nat.mod_eq_of_lt (by omega),Nat.mod_eq_of_lt (by omega),h1,IntKind.wrap_i64]
  omega
 exact key
theorem aligned_id{bs:List Bool}(h:bs.length%8=0):Jv bs=bs:=by
 unfold Jv padN
 rw [h]
 simp
theorem aligned_mod(bs:List Bool):(Jv bs).length%8=0:=by rw [Jh];omega
def strLen:Value→Nat | .string t=>t.size | _=>0
def boolNum:Value→Nat | .bool true=>1 | _=>0
def chunkB(last:Bool)(t:ByteArray)(bs:List Bool):List Bool:=Jv (bs++headB last 0)++(Qj (t.size:Int) 16++(Qj (65535-(t.size:Int)) 16++Zy t))
theorem chunk_len(last:Bool)(t:ByteArray)(bs:List Bool):(chunkB last t bs).length≤bs.length+8*t.size+48:=by
 unfold chunkB
 rw [lJ,lJ,lJ,Qd,Qd,textBits_length,Jh,lJ]
 simp [headB,Qd,Qq]
 omega
theorem storeB_more{f:Nat}{t:ByteArray}{bs:List Bool}(h:¬ t.size≤65535):storeB (f+1) t bs=storeB f (t.extract 65535 t.size) (chunkB false (t.extract 0 65535) bs):=by
 rw [storeB,if_neg h]
 unfold chunkB
 rw [show (t.extract 0 65535).size=65535 by rw [ByteArray.size_extract];omega]
 rfl
theorem storeB_last{f:Nat}{t:ByteArray}{bs:List Bool}(h:t.size≤65535):storeB (f+1) t bs=chunkB true t bs:=by
 rw [storeB,if_pos h];rfl
theorem tl_empty(t:ByteArray):t.toList.isEmpty=decide (t.size=0):=by
 rw [str_data]
 cases h:t.data.toList with
 | nil=>
  have:t.data.size=0:=by rw [← Array.length_toList,h];rfl
  have:t.size=0:=this
  rw [this];rfl
 | cons a l=>
  have:t.data.size=l.length+1:=by rw [← Array.length_toList,h];rfl
  have:t.size=l.length+1:=this
  rw [this];rfl
set_option maxRecDepth 100000 in
set_option maxHeartbeats 3200000 in
theorem store_any{w:World}(s:ByteArray)(hs:s.size≤1000000) :
 Calls Tryz.prog 77 #[.string s] w (Ret fun r w'=>r=.string (textOf (storeF s))∧Own w w' []):=by
 have H:=(Own.start w).newWtr
 obtain ⟨R,hR⟩:∃ R,Hid (storeF s=R):=⟨_,jd rfl⟩
 rw [hR.out]
 have hR2:Hid (storeB (s.size+1) s []=R):=jd hR.out
 clear hR
 go_enter Tryz.func77,Tryz.ntmps77
 go_wp2_with fail
 generalize w.alloc _=w1 at *
 generalize w.heap.size=g at *
 go_loopw [0,4] (fun s0 s4 wx=>∃ (t:ByteArray) (b:Bool) (f:Nat) (B:List Bool),s0=.string t∧s4=.bool b∧t.size≤1000000∧t.size<f+1∧(Hid (B.length≤10*(1000000-t.size)+48)∧(b=true∨0<t.size)∧Hid (storeB (f+1) t B=R)∨b=false∧t.size=0∧Hid (B=R))∧Own w wx [Wtr g B]) (fun s0 s4 _=>2*strLen s0+boolNum s4)
 case atStart=>exact ⟨s,true,s.size,[],rfl,rfl,hs,by omega,.inl ⟨jd (by simp),.inl rfl,hR2⟩,H⟩
 case round=>
  clear H hR2
  obtain ⟨t,b,f,B,rfl,rfl,ht,hf,hc,H⟩:=hrel
  rcases hc with ⟨hBl,hc,hst⟩ | ⟨rfl,ht0,hBR⟩
  ·have hte:b=true∨t.toList.isEmpty=false:=by
    rcases hc with h1 | h1
    ·exact .inl h1
    ·right;rw [tl_empty,decide_eq_false_iff_not];omega
   obtain ⟨N,hN⟩:∃ N,t.size=N:=⟨_,rfl⟩
   rw [hN] at hf ht hc hBl
   by_cases h16:N≤65535
   ·have hfin:=hst.out
    rw [storeB_last (by rw [hN];exact h16)] at hfin
    have HFIN:=jd hfin
    have hx1:=xor16 h16
    have hex0:t.extract 0 N=t:=by rw [← hN];exact ByteArray.extract_zero_size
    have ht2s:Hid (ByteArray.empty.size=0):=jd rfl
    have hms:Hid (0<2*N+boolNum (.bool b)):=jd (by
     rcases hc with h1 | h1
     ·subst h1;simp [boolNum]
     ·omega)
    clear hc hst hfin
    rcases hte with rfl | hte
    case' inr=>cases b
    all_goals
     go_upto_region 5 with (fail)
     go_cut [5,11,12,13] (fun s5 _ _ _ wx=>wx=wr∧s5=.int .i64 N)
     case first=>
      go_wp2
      all_goals go_meet
      all_goals exact ⟨rfl,val_int (by omega)⟩
     case rest=>
     obtain ⟨rfl,rfl⟩:=hcut
     have k1:=fun w1 (h:Own w w1 [Wtr g B])=>head_any true 0 (by omega) h (by have:=hBl.out;omega)
     have k2:=fun w1 (h:Own w w1 [Wtr g (B++headB true 0)])=>align_any h (by rw [lJ];simp [headB,Qd];have:=hBl.out;omega)
     have hal:(Jv (B++headB true 0)).length≤11000000:=by rw [Jh,lJ];simp [headB,Qd,Qq];have:=hBl.out;omega
     have ham:=aligned_mod (B++headB true 0)
     obtain ⟨A,hA⟩:∃ A,Hid (Jv (B++headB true 0)=A):=⟨_,jd rfl⟩
     rw [hA.out] at k2 hal ham
     have k3:=fun w1 (h:Own w w1 [Wtr g A])=>put_any ((N:Int)) 16 (by omega) (by omega) h (by omega)
     have k4:=fun w1 (h:Own w w1 [Wtr g (A++Qj ((N:Int)) 16)])=>put_any (65535-((N:Int))) 16 (by omega) (by omega) h (by rw [lJ,Qd];omega)
     rw [show cut 16=16 from rfl] at k3 k4
     have hal2:Jv (A++Qj ((N:Int)) 16++Qj (65535-((N:Int))) 16)=A++Qj ((N:Int)) 16++Qj (65535-((N:Int))) 16:=aligned_id (by rw [lJ,lJ,Qd,Qd];omega)
     have k5:=fun w1 (h:Own w w1 [Wtr g (A++Qj ((N:Int)) 16++Qj (65535-((N:Int))) 16)])=>text_any (t) h (by rw [lJ,lJ,Qd,Qd];omega)
     rw [hal2] at k5
     have hch:Hid (A++Qj ((N:Int)) 16++Qj (65535-((N:Int))) 16++Zy (t)=chunkB true (t) B):=jd (by unfold chunkB;rw [hA.out,hN];simp only [List.append_assoc])
     have K1:=jd k1
     have K2:=jd k2
     have K3:=jd k3
     have K4:=jd k4
     have K5:=jd k5
     have hcl:=chunk_len true (t) B
     have HCL:=jd hcl
     clear k1 k2 k3 k4 k5 hal ham hal2 hcl
     go_wp2_with fail
     refine (K1.out _ H).mono ?_
     rintro e w3 ⟨_,rfl,H3⟩
     clear H
     go_wp2_with fail
     refine (K2.out _ H3).mono ?_
     rintro e w4 ⟨_,rfl,H⟩
     clear H3
     go_wp2_with fail
     refine (K3.out _ H).mono ?_
     rintro e w5 ⟨_,rfl,H5⟩
     clear H
     go_wp2_with fail
     refine (K4.out _ H5).mono ?_
     rintro e w6 ⟨_,rfl,H⟩
     clear H5
     go_wp2_with fail
     refine (K5.out _ H).mono ?_
     rintro e w7 ⟨_,rfl,H7⟩
     clear H
     rw [hch.out] at H7
     go_wp2_with fail
     go_roundw
     case rel=>exact ⟨ByteArray.empty,false,f,_,rfl,rfl,by rw [ht2s.out];omega,by rw [ht2s.out];omega,.inr ⟨rfl,ht2s.out,HFIN⟩,H7⟩
     case measure=>simp only [strLen,ht2s.out,hN];exact hms.out
   ·have hfin:=hst.out
    obtain ⟨f,rfl⟩:∃ f',f=f'+1:=⟨f-1,by omega⟩
    obtain ⟨t3,ht3⟩:∃ t3,t.extract 0 65535=t3:=⟨_,rfl⟩
    obtain ⟨t2,ht2⟩:∃ t2,t.extract 65535 N=t2:=⟨_,rfl⟩
    have ht2s:Hid (t2.size=N-65535):=jd (by rw [← ht2,ByteArray.size_extract];omega)
    have ht3s:t3.size=65535:=by rw [← ht3,ByteArray.size_extract];omega
    rw [storeB_more (by rw [hN];exact h16),hN,ht2,ht3] at hfin
    have HFIN:=jd hfin
    clear hc hst hfin
    have hNI:((65535:Int)==(N:Int))=false:=by simp;omega
    have hcI:(65535:Int)≤(N:Int):=by omega
    rcases hte with rfl | hte
    case' inr=>cases b
    all_goals
     go_upto_region 5 with (fail)
     go_cut [5,11,12,13] (fun s5 _ _ _ wx=>wx=wr∧s5=.int .i64 65535)
     case first=>
      go_wp2
      all_goals go_meet
      all_goals exact ⟨rfl,val_int (by omega)⟩
     case rest=>
     obtain ⟨rfl,rfl⟩:=hcut
     have k1:=fun w1 (h:Own w w1 [Wtr g B])=>head_any false 0 (by omega) h (by have:=hBl.out;omega)
     have k2:=fun w1 (h:Own w w1 [Wtr g (B++headB false 0)])=>align_any h (by rw [lJ];simp [headB,Qd];have:=hBl.out;omega)
     have hal:(Jv (B++headB false 0)).length≤11000000:=by rw [Jh,lJ];simp [headB,Qd,Qq];have:=hBl.out;omega
     have ham:=aligned_mod (B++headB false 0)
     obtain ⟨A,hA⟩:∃ A,Hid (Jv (B++headB false 0)=A):=⟨_,jd rfl⟩
     rw [hA.out] at k2 hal ham
     have k3:=fun w1 (h:Own w w1 [Wtr g A])=>put_any (65535) 16 (by omega) (by omega) h (by omega)
     have k4:=fun w1 (h:Own w w1 [Wtr g (A++Qj (65535) 16)])=>put_any (65535-(65535)) 16 (by omega) (by omega) h (by rw [lJ,Qd];omega)
     rw [show cut 16=16 from rfl] at k3 k4
     have hal2:Jv (A++Qj (65535) 16++Qj (65535-(65535)) 16)=A++Qj (65535) 16++Qj (65535-(65535)) 16:=aligned_id (by rw [lJ,lJ,Qd,Qd];omega)
     have k5:=fun w1 (h:Own w w1 [Wtr g (A++Qj (65535) 16++Qj (65535-(65535)) 16)])=>text_any (t3) h (by rw [lJ,lJ,Qd,Qd];omega)
     rw [hal2] at k5
     have hch:Hid (A++Qj (65535) 16++Qj (65535-(65535)) 16++Zy (t3)=chunkB false (t3) B):=jd (by unfold chunkB;rw [hA.out,ht3s];simp only [List.append_assoc];rfl)
     have K1:=jd k1
     have K2:=jd k2
     have K3:=jd k3
     have K4:=jd k4
     have K5:=jd k5
     have hcl:=chunk_len false (t3) B
     rw [ht3s] at hcl
     have HCL:=jd hcl
     clear k1 k2 k3 k4 k5 hal ham hal2 hcl
     go_wp2_with fail
     refine (K1.out _ H).mono ?_
     rintro e w3 ⟨_,rfl,H3⟩
     clear H
     go_wp2_with fail
     refine (K2.out _ H3).mono ?_
     rintro e w4 ⟨_,rfl,H⟩
     clear H3
     go_wp2_with fail
     refine (K3.out _ H).mono ?_
     rintro e w5 ⟨_,rfl,H5⟩
     clear H
     go_wp2_with fail
     refine (K4.out _ H5).mono ?_
     rintro e w6 ⟨_,rfl,H⟩
     clear H5
     go_wp2_with fail
     refine (K5.out _ H).mono ?_
     rintro e w7 ⟨_,rfl,H7⟩
     clear H
     rw [hch.out] at H7
     go_wp2_with fail
     go_roundw
     case rel=>exact ⟨t2,false,f,_,rfl,rfl,by rw [ht2s.out];omega,by rw [ht2s.out];omega,.inl ⟨jd (by have:=HCL.out;have:=hBl.out;rw [ht2s.out];omega),.inr (by rw [ht2s.out];omega),HFIN⟩,H7⟩
     case measure=>simp only [strLen,ht2s.out,hN];simp [boolNum];omega
  ·have hte:t.toList.isEmpty=true:=by rw [tl_empty,ht0];rfl
   have HT0:=jd ht0
   clear ht0 hf
   go_wp2_with fail
   refine (bytes_any H).mono ?_
   rintro e w4 ⟨rfl,rfl⟩
   rw [hBR.out]
   go_wp2_with fail
   go_ret
   exact ⟨_,rfl,rfl,H.bare⟩
end Go.Proofs.YthekdeikodppkaaGreatDoor
