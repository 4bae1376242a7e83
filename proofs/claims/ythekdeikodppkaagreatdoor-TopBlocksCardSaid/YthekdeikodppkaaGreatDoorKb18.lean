/-
  Texts of this claim, one behind the other: lz; lz; flate; flate; slices.Grow of nil, slices.Concat; flate; lz; flate.
-/
import Derived.Test.YthekdeikodppkaaGreatDoorKb17
import Derived.Laws.ResultCell
import Derived.Lib.AppendZeros
import Derived.Carry
import Derived.Deep.OwnRows
import Derived.RegionTactic
set_option linter.unusedVariables false
namespace Go.Proofs.YthekdeikodppkaaGreatDoor
open Go.RowKit Go.Maps
def gOf(s:ByteArray)(i:Nat):UInt8 × UInt8 × UInt8→Int:=fun k=>(prev s k i:Int)
set_option maxRecDepth 100000 in
theorem gOf_zero(s:ByteArray):gOf s 0=fun _=>0:=rfl
set_option maxRecDepth 100000 in
theorem gOf_put{s:ByteArray}{i:Nat}(h:i+3≤s.size):gOf s (i+1)=fun x=>if x=key3 s i then (i:Int)+1 else gOf s i x:=by
 funext x
 unfold gOf
 rw [prev]
 by_cases hx:x=key3 s i
 ·subst hx
  rw [if_pos ⟨h,rfl⟩,if_pos rfl]
  omega
 ·rw [if_neg (fun hh=>hx hh.2.symm),if_neg hx]
set_option maxRecDepth 100000 in
theorem gOf_skip{s:ByteArray}{i:Nat}(h:¬ i+3≤s.size):gOf s (i+1)=gOf s i:=by
 funext x
 unfold gOf
 rw [prev,if_neg (fun hh=>h hh.1)]
structure Backs (s:ByteArray) (i:Nat) (xs:List Int):Prop where
 len:xs.length=s.size
 get:∀ q,q<i→q+3≤s.size→xs[q]?=some (prev s (key3 s q) q:Int)
set_option maxRecDepth 100000 in
theorem Backs.put{s:ByteArray}{i:Nat}{xs:List Int}(h:Backs s i xs)(hi:i+3≤s.size):Backs s (i+1) (xs.set i (prev s (key3 s i) i:Int)):=by
 refine ⟨by simpa using h.len,fun q h1 h2=>?_⟩
 have hl:=h.len
 rw [List.getElem?_set]
 by_cases hq:i=q
 ·subst hq
  rw [if_pos rfl,if_pos (by omega)]
 ·rw [if_neg hq]
  exact h.get q (by omega) h2
set_option maxRecDepth 100000 in
theorem Backs.skip{s:ByteArray}{i:Nat}{xs:List Int}(h:Backs s i xs)(hi:¬ i+3≤s.size):Backs s (i+1) xs:=
 ⟨h.len,fun q h1 h2=>h.get q (by omega) h2⟩
def Fnd(g:Nat)(s:ByteArray)(i:Nat):Piece:=ex fun p:Nat × Value × List Int=>
 star (blk g (.cells #[.string s,.map (some p.1),p.2.1] 304)) (star (mpi Tryz.prog 393 3 k3 p.1 i (gOf s i)) (star (slc 3 1 p.2.1 s.size (nums p.2.2)) (fact (Backs s i p.2.2))))
section
variable {w0 w:World} {ps:List Piece} {g b i:Nat} {s:ByteArray} {xs:List Int} {v:Value}
set_option maxRecDepth 100000 in
theorem fnd_open(h:Own w0 w (Fnd g s i::ps)):∃ b v xs,Backs s i xs∧Own w0 w (blk g (.cells #[.string s,.map (some b),v] 304)::mpi Tryz.prog 393 3 k3 b i (gOf s i)::slc 3 1 v s.size (nums xs)::ps):=by
 obtain ⟨⟨b,v,xs⟩,h⟩:=h.ex
 have h:=h.star.swap.star.swap.star.swap.fact
 exact ⟨b,v,xs,h.1,(h.2.swap.front 2 rfl)⟩
set_option maxRecDepth 100000 in
theorem fnd_shut(hb:Backs s i xs)(h:Own w0 w (blk g (.cells #[.string s,.map (some b),v] 304)::mpi Tryz.prog 393 3 k3 b i (gOf s i)::slc 3 1 v s.size (nums xs)::ps)):Own w0 w (Fnd g s i::ps):=
 Own.unex (f:=fun p:Nat × Value × List Int=>Go.Proofs.YthekdeikodppkaaGreatDoor.star (blk g (.cells #[.string s,.map (some p.1),p.2.1] 304)) (Go.Proofs.YthekdeikodppkaaGreatDoor.star (mpi Tryz.prog 393 3 k3 p.1 i (gOf s i)) (Go.Proofs.YthekdeikodppkaaGreatDoor.star (slc 3 1 p.2.1 s.size (nums p.2.2)) (Go.Proofs.YthekdeikodppkaaGreatDoor.fact (Backs s i p.2.2))))) (b,v,xs)
  ((((h.front 2 rfl).unfact hb).swap.unstar.front 2 rfl).unstar.swap.unstar)
end
set_option maxRecDepth 100000 in
theorem intZero:∀ w,(zeroValue 3).run Tryz.prog w=.ok (.int .i64 0) w:=fun w=>by kernel_rfl
set_option maxRecDepth 100000 in
set_option maxHeartbeats 1600000 in
theorem fput_any{w0 w:World}{ps:List Piece}{g i:Nat}{s:ByteArray}(H:Own w0 w (Fnd g s i::ps))(hi:i<s.size)(hs:s.size≤1000000) :
 Calls Tryz.prog 194 #[.pointer (some ⟨g,0,none⟩),.int .i64 i] w (Ret fun _ w'=>Own w0 w' (Fnd g s (i+1)::ps)):=by
 obtain ⟨b,v,xs,hb,H⟩:=fnd_open H
 have c0:=H.cells
 obtain ⟨z,hz⟩:∃ z,Hid (s.size=z):=⟨_,rfl⟩
 by_cases h3:i+3≤s.size
 ·have h3I:(i:Int)+3≤(s.size:Int):=by omega
  have HB:=jd (hb.put h3)
  clear hb
  obtain ⟨kl,hkl⟩:=k3_key w (key3 s i)
  have HK:=jd hkl
  clear hkl
  obtain ⟨rb,c,rfl,hc1,hc2,_⟩:=(H.front 2 rfl).at (by rw [Qg];have:=HB.out.len;simp at this;omega)
  go_enter Tryz.func194,Tryz.ntmps194
  go_wp2_with fail
  refine (fkey_any H h3 hs).mono ?_
  rintro e w1 ⟨_,rfl,rfl,H1⟩
  clear H c0
  obtain ⟨x0,x1,x2,hk⟩:∃ x0 x1 x2:Int,Hid (k3 (key3 s i)=.agg #[.int .u8 x0,.int .u8 x1,.int .u8 x2]):=⟨_,_,_,jd rfl⟩
  rw [hk.out]
  have hupd:=jd (gOf_put h3)
  have hlk:Hid (gOf s i (key3 s i)=(prev s (key3 s i) i:Int)):=jd rfl
  obtain ⟨pv,hpv⟩:∃ pv,Hid (prev s (key3 s i) i=pv):=⟨_,rfl⟩
  rw [hpv.out] at HB hlk
  obtain ⟨G,hG⟩:∃ G,Hid (gOf s i=G):=⟨_,rfl⟩
  have hG':=hG.out
  rw [hG'] at H1 hupd hlk
  clear hG'
  have c0:=H1.cells
  go_upto_region 2 with (refine Qe rfl _ _ rfl rfl (H1.alloc _) rfl (by kernel_rfl) (by simp) (by simp;exact ⟨rfl,rfl,rfl⟩) rfl ?_;clear H1 c0;intro w5 H)
  generalize w1.heap.size=kb at *
  refine Qa (fun w1=>Own w0 w1 (blk kb (.cells #[.int .u8 x0,.int .u8 x1,.int .u8 x2] 393)::blk g (.cells #[.string s,.map (some b),.slice (some ⟨rb,0,none⟩) s.size c] 304)::mpi Tryz.prog 393 3 k3 b i G::slc 3 1 (.slice (some ⟨rb,0,none⟩) s.size c) s.size (nums xs)::ps)) 12 (by kernel_rfl) (by kernel_rfl) H.drew ?_
  simp only [List.take_succ_cons,List.take_zero,List.drop_succ_cons,List.drop_zero]
  repeat
   first
   | (refine calm_value (v:=?_) (by decide) rfl (fun σ w1 hS=>?_) ?_
      rotate_left
      ·have c0:=hS.swap.cells;have c1:=hS.cells
       first | (go_simp;rfl) | rfl
      simp only [Act.put,putC])
   | (refine calm_skip (by decide) rfl ?_
      simp only [Act.put,putC])
  refine calm_lookup (b:=b) (n:=i) (g:=G) (w0:=w0) (k:=key3 s i) _ _ (by decide) rfl rfl rfl ?_ (fun σ w hS=>⟨_,(hS.front 2 rfl)⟩) k3_law Tryz.underlying302 Tryz.underlying3 intZero HK.out ?_
  ·exact hk.out.symm
  repeat
   first
   | (refine calm_value (v:=?_) (by decide) rfl (fun σ w1 hS=>?_) ?_
      rotate_left
      ·have c0:=hS.swap.cells;have c1:=hS.cells
       first | (go_simp;rfl) | rfl
      simp only [Act.put,putC])
   | (refine calm_skip (by decide) rfl ?_
      simp only [Act.put,putC])
  refine calm_nil ?_
  intro wd HD
  clear H
  rw [hlk.out]
  go_upto_region 3 with (refine Ja rfl _ _ rfl (j:=i) rfl (HD.front 3 rfl) (.int .i64 pv) rfl (by kernel_rfl) (by omega) rfl ?_;clear HD;intro w6 H)
  have hw1:IntKind.i64.wrap ((i:Int)+1)=(i:Int)+1:=IntWalk.i64_in _ ⟨by omega,by omega⟩
  have hset:(nums xs).set i (.int .i64 (pv:Int))=nums (xs.set i (pv:Int)):=by simp [nums,List.map_set]
  rw [hset] at H
  have H:Own w0 w6 (blk kb (.cells #[.int .u8 x0,.int .u8 x1,.int .u8 x2] 393)::blk g (.cells #[.string s,.map (some b),.slice (some ⟨rb,0,none⟩) s.size c] 304)::mpi Tryz.prog 393 3 k3 b i G::slc 3 1 (.slice (some ⟨rb,0,none⟩) s.size c) s.size (nums (xs.set i (pv:Int)))::ps):=(((((H.front 3 rfl).front 3 rfl).front 3 rfl)))
  refine Qa (fun w1=>Own w0 w1 (blk kb (.cells #[.int .u8 x0,.int .u8 x1,.int .u8 x2] 393)::blk g (.cells #[.string s,.map (some b),.slice (some ⟨rb,0,none⟩) s.size c] 304)::mpi Tryz.prog 393 3 k3 b i G::slc 3 1 (.slice (some ⟨rb,0,none⟩) s.size c) s.size (nums (xs.set i (pv:Int)))::ps)) 7 (by kernel_rfl) (by kernel_rfl) H.drew ?_
  simp only [List.take_succ_cons,List.take_zero,List.drop_succ_cons,List.drop_zero]
  repeat
   first
   | (refine calm_value (v:=?_) (by decide) rfl (fun σ w1 hS=>?_) ?_
      rotate_left
      ·have c0:=hS.swap.cells;have c1:=hS.cells
       first | (go_simp;rfl) | rfl
      simp only [Act.put,putC])
   | (refine calm_skip (by decide) rfl ?_
      simp only [Act.put,putC])
  refine calm_nil ?_
  intro wd2 HD
  clear H
  refine wpList_update_mpi (K:=393) (E:=3) (enc:=k3) rfl _ _ _ rfl (HD.front 2 rfl) k3_law Tryz.underlying302 Tryz.underlying3 (by omega) k3_inj rfl (a:=key3 s i) hk.out.symm HK.out (c:=(i:Int)+1) rfl (by omega) ?_
  clear HD
  intro w7 H
  rw [← hupd.out] at H
  go_wp2
  go_end0
  exact ⟨_,rfl,fnd_shut (b:=b) (v:=.slice (some ⟨rb,0,none⟩) s.size c) HB.out ((((H.front 2 rfl).front 2 rfl).drop))⟩
 ·have h3I:¬ (i:Int)+3≤(s.size:Int):=by omega
  have HB:=jd (hb.skip h3)
  clear hb
  go_enter Tryz.func194,Tryz.ntmps194
  go_wp2
  go_end0
  refine ⟨_,rfl,fnd_shut (b:=b) (v:=v) HB.out ?_⟩
  rw [gOf_skip h3]
  exact (H.swap.mpi_mono (Nat.le_succ i)).swap
end Go.Proofs.YthekdeikodppkaaGreatDoor
namespace Go.Proofs.YthekdeikodppkaaGreatDoor
open Go.RowKit Go.Maps
set_option maxRecDepth 100000 in
set_option maxHeartbeats 3200000 in
theorem lzfind_any{w0 w:World}{ps:List Piece}{g i:Nat}{s:ByteArray}(H:Own w0 w (Fnd g s i::ps))(hi:i<s.size)(hs:s.size≤1000000) :
 Calls Tryz.prog 193 #[.pointer (some ⟨g,0,none⟩),.int .i64 i] w (Ret fun r w'=>r=.tuple #[.int .i64 (found s i).1,.int .i64 (found s i).2]∧Own w0 w' (Fnd g s i::ps)):=by
 have H0:=H
 obtain ⟨b,v,xs,hb,H⟩:=fnd_open H
 have hw3:IntKind.i64.wrap ((i:Int)+3)=(i:Int)+3:=IntWalk.i64_in _ ⟨by omega,by omega⟩
 by_cases h3:i+3≤s.size
 ·have h3I:¬ (s.size:Int)<(i:Int)+3:=by omega
  have HB:=jd hb
  clear hb H0
  obtain ⟨kl,hkl⟩:=k3_key w (key3 s i)
  have HK:=jd hkl
  clear hkl
  obtain ⟨rb,c,rfl,hc1,hc2,_⟩:=(H.front 2 rfl).at (by rw [Qg];have:=HB.out.len;omega)
  obtain ⟨F,hF⟩:∃ F,Hid (found s i=F):=⟨_,rfl⟩
  rw [hF.out]
  obtain ⟨k0,hk0⟩:∃ k0,Hid (k3 (key3 s i)=k0):=⟨_,rfl⟩
  have hlk:Hid (gOf s i (key3 s i)=(prev s (key3 s i) i:Int)):=jd rfl
  obtain ⟨pv,hpv⟩:∃ pv,Hid (prev s (key3 s i) i=pv):=⟨_,rfl⟩
  rw [hpv.out] at hlk
  obtain ⟨G,hG⟩:∃ G,Hid (gOf s i=G):=⟨_,rfl⟩
  have hG':=hG.out
  rw [hG'] at H hlk
  clear hG'
  obtain ⟨X,hX⟩:∃ X,Hid (nums xs=X):=⟨_,rfl⟩
  rw [hX.out] at H
  have c0:=H.cells
  go_enter Tryz.func193,Tryz.ntmps193
  go_upto_region 4 with (fail)
  clear c0
  refine Qa (fun w1=>Own w0 w1 (blk g (.cells #[.string s,.map (some b),.slice (some ⟨rb,0,none⟩) s.size c] 304)::mpi Tryz.prog 393 3 k3 b i G::slc 3 1 (.slice (some ⟨rb,0,none⟩) s.size c) s.size X::ps)) 9 (by kernel_rfl) (by kernel_rfl) H.drew ?_
  simp only [List.take_succ_cons,List.take_zero,List.drop_succ_cons,List.drop_zero]
  repeat
   first
   | (refine calm_value (v:=?_) (by decide) rfl (fun σ w1 hS=>?_) ?_
      rotate_left
      ·have c0:=hS.cells
       first | (go_simp;rfl) | rfl
      simp only [Act.put,putC])
   | (refine calm_skip (by decide) rfl ?_
      simp only [Act.put,putC])
  refine calm_call (v:=k0) (by decide) rfl (fun w1=>(by go_simp;first | exact ⟨rfl,rfl⟩ | rfl)) (fun σ w1 hS=>?_) ?_
  ·refine (fkey_any hS h3 hs).mono ?_
   rintro e w2 ⟨_,rfl,rfl,h2⟩
   exact ⟨by rw [hk0.out],h2⟩
  simp only [Act.put,putC]
  refine calm_lookup (b:=b) (n:=i) (g:=G) (w0:=w0) (k:=key3 s i) _ _ (by decide) rfl rfl rfl ?_ (fun σ w hS=>⟨_,(hS.front 1 rfl)⟩) k3_law Tryz.underlying302 Tryz.underlying3 intZero HK.out ?_
  ·exact hk0.out.symm
  rw [hlk.out]
  repeat
   first
   | (refine calm_value (v:=?_) (by decide) rfl (fun σ w1 hS=>?_) ?_
      rotate_left
      ·have c0:=hS.cells
       first | (go_simp;rfl) | rfl
      simp only [Act.put,putC])
   | (refine calm_skip (by decide) rfl ?_
      simp only [Act.put,putC])
  refine calm_nil ?_
  intro wd HD
  clear H
  have hseen:Hid (seen s i pv=(0,0)):=jd (by rw [← hpv.out,seen_skip (Nat.le_refl i),seen_start])
  have hpvi:pv≤i:=by rw [← hpv.out];exact prev_le ..
  have hpvk:Hid (0<pv→key3 s (pv-1)=key3 s i):=jd (fun h=>by rw [← hpv.out] at h ⊢;exact (prev_key i h).1)
  obtain ⟨Z,hZ⟩:∃ Z,Hid (s.size=Z):=⟨_,rfl⟩
  clear hpv hlk
  go_wp2_with fail
  go_loopw [6,7,8] (fun s6 s7 s8 wr=>∃ l d p:Nat,s6=.int .i64 l∧s7=.int .i64 d∧s8=.int .i64 p∧p≤i∧Hid (seen s i p=(l,d))∧Hid (0<p→key3 s (p-1)=key3 s i)∧Own w0 wr (blk g (.cells #[.string s,.map (some b),.slice (some ⟨rb,0,none⟩) s.size c] 304)::mpi Tryz.prog 393 3 k3 b i G::slc 3 1 (.slice (some ⟨rb,0,none⟩) s.size c) s.size X::ps)) (fun _ _ s8 _=>(intOf s8).toNat)
  case atStart=>exact ⟨0,0,pv,by simp,by simp,by simp,hpvi,hseen,hpvk,HD⟩
  case round=>
   clear HD hpvi hpvk hseen
   obtain ⟨l,d,p,rfl,rfl,rfl,hpi,hsn,hpk,H⟩:=hrel
   by_cases hp0:p=0
   ·subst hp0
    have hend:Hid (F=(l,d)):=jd (by rw [← hsn.out,← hF.out];exact (seen_end hpi (.inl rfl)).symm)
    clear hpk hsn
    go_wp2
    go_ret2
    refine ⟨_,rfl,by rw [hend.out];rfl,fnd_shut (b:=b) (v:=.slice (some ⟨rb,0,none⟩) s.size c) HB.out ?_⟩
    rw [hG.out,hX.out]
    exact H
   ·obtain ⟨q,rfl⟩:∃ q,p=q+1:=⟨p-1,by omega⟩
    clear hp0
    have hpc:((q+1:Nat):Int)=(q:Int)+1:=by omega
    rw [hpc]
    have hk:=jd (hpk.out (Nat.succ_pos q))
    have e1:q+1-1=q:=rfl
    have hk':=hk.out
    rw [e1] at hk'
    clear hk hpk
    by_cases hwin:i-q≤4096
    ·have hwI:(i:Int)-(q:Int)≤4096:=by omega
     have hhit:=seen_hit (s:=s) (p:=q+1) (Nat.succ_pos q) hpi (by rw [e1];exact hwin) (by rw [e1];exact hk') h3
     rw [e1,hsn.out] at hhit
     have hcm:=comm_le s q i
     obtain ⟨n,hn⟩:∃ n,Hid (comm s q i=n):=⟨_,rfl⟩
     rw [hn.out] at hhit hcm
     have hnx:=seen_skip (s:=s) (at_:=i) (m:=q) (by omega)
     have hpl:=prev_le s (key3 s i) q
     have hpq:0<prev s (key3 s i) q→key3 s (prev s (key3 s i) q-1)=key3 s i:=fun h=>(prev_key q h).1
     have hXq:X[q]?=some (.int .i64 (prev s (key3 s i) q:Nat)):=by
      rw [← hX.out]
      refine Jj ?_
      rw [← hk']
      exact HB.out.get q (by omega) (by omega)
     rw [hhit] at hnx
     obtain ⟨p2,hp2⟩:∃ p2,Hid (prev s (key3 s i) q=p2):=⟨_,rfl⟩
     rw [hp2.out] at hnx hpl hpq hXq
     have HX:=jd hXq
     have HN:=jd hnx
     have HP:=jd hpq
     clear hXq hnx hpq hhit hsn hk' e1
     have c0:=H.cells
     have hqi:q<i:=by omega
     by_cases hln:l<n
     ·have HN':Hid (seen s i p2=(n,i-q)):=jd (by rw [HN.out,if_pos hln])
      have hlnI:(l:Int)<(n:Int):=by omega
      go_wp2_with fail
      refine (fsame_any H (show q≤i by omega) (by omega) hs).mono ?_
      rintro e w1 ⟨_,rfl,rfl,H1⟩
      rw [hn.out]
      clear H c0
      have c0:=H1.cells
      have c1:=(H1.front 2 rfl).rd.cell HX.out
      rw [Nat.zero_add] at c1
      go_wp2_with fail
      go_roundw
      case rel=>exact ⟨n,i-q,p2,by go_num,by simp;omega,by go_num,by omega,HN',HP,H1⟩
      case measure=>simp [intOf];omega
     ·have HN':Hid (seen s i p2=(l,d)):=jd (by rw [HN.out,if_neg hln])
      have hlnI:¬ (l:Int)<(n:Int):=by omega
      go_wp2_with fail
      refine (fsame_any H (show q≤i by omega) (by omega) hs).mono ?_
      rintro e w1 ⟨_,rfl,rfl,H1⟩
      rw [hn.out]
      clear H c0
      have c0:=H1.cells
      have c1:=(H1.front 2 rfl).rd.cell HX.out
      rw [Nat.zero_add] at c1
      go_wp2_with fail
      go_roundw
      case rel=>exact ⟨l,d,p2,by go_num,by go_num,by go_num,by omega,HN',HP,H1⟩
      case measure=>simp [intOf];omega
    ·have hwI:¬ (i:Int)-(q:Int)≤4096:=by omega
     have hend:Hid (F=(l,d)):=jd (by rw [← hsn.out,← hF.out];exact (seen_end hpi (.inr (by omega))).symm)
     clear hsn hk' e1
     go_wp2
     go_ret2
     refine ⟨_,rfl,by rw [hend.out];rfl,fnd_shut (b:=b) (v:=.slice (some ⟨rb,0,none⟩) s.size c) HB.out ?_⟩
     rw [hG.out,hX.out]
     exact H
 ·have h3I:(s.size:Int)<(i:Int)+3:=by omega
  have hf:=jd (found_none (s:=s) (at_:=i) (by omega))
  have c0:=H.cells
  go_enter Tryz.func193,Tryz.ntmps193
  go_wp2
  go_ret2
  exact ⟨_,rfl,by rw [hf.out];rfl,H0⟩
end Go.Proofs.YthekdeikodppkaaGreatDoor
namespace Go.Proofs.YthekdeikodppkaaGreatDoor
open Go.RowKit
def Reads(w0:World)(ps:List Piece)(size:Nat)(v:Value)(n:Nat)(xs:List Value):Prop:=∀ w',Own w0 w' ps→Rd w' size v n xs
theorem Reads.mono{w0:World}{ps qs:List Piece}{size n:Nat}{v:Value}{xs:List Value}(h:Reads w0 ps size v n xs)(hk:∀ w',Own w0 w' qs→Own w0 w' ps):Reads w0 qs size v n xs:=fun w' h'=>h w' (hk w' h')
structure CodOk (w0:World) (ps:List Piece) (v u:Value) (L:List Int):Prop where
 len:Reads w0 ps 1 v L.length (nums L)
 cod:Reads w0 ps 1 u L.length (nums (Zc L))
 all:∀ x∈L,0≤x∧x≤15
 wt:sumF wtF L≤2^15
 few:L.length≤320
theorem CodOk.mono{w0:World}{ps qs:List Piece}{v u:Value}{L:List Int}(h:CodOk w0 ps v u L)(hk:∀ w',Own w0 w' qs→Own w0 w' ps):CodOk w0 qs v u L:=⟨h.len.mono hk,h.cod.mono hk,h.all,h.wt,h.few⟩
theorem cut_eq{x:Int}(h0:0≤x)(h1:x≤62):cut x=x.toNat:=by unfold cut;omega
theorem CodOk.bd{w0:World}{ps:List Piece}{v u:Value}{L:List Int}(h:CodOk w0 ps v u L){s:Nat}(hs:s<L.length):0≤L.getD s 0∧L.getD s 0≤15∧0≤codeF L s∧codeF L s≤32768:=by
 have h1:=h.all _ (mem_getD2 hs)
 have h2:=code_nonneg (l:=L) s
 refine ⟨h1.1,h1.2,h2,?_⟩
 by_cases h0:0<L.getD s 0
 ·have h3:=code_fits h.all h.wt hs h0
  obtain ⟨p,hp,h4,h5⟩:=pow_pos_nat (L.getD s 0).toNat (by omega)
  rw [hp] at h3
  omega
 ·unfold codeF;rw [if_neg h0];omega
theorem head_any{w0 w:World}{ps:List Piece}{g:Nat}{bs:List Bool}(last:Bool)(kind:Int)(hk:0≤kind∧kind≤3)(H:Own w0 w (Wtr g bs::ps))(hl:bs.length≤35184372087000) :
 Calls Tryz.prog 125 #[.pointer (some ⟨g,0,none⟩),.bool last,.int .i64 kind] w (Ret fun _ w'=>Own w0 w' (Wtr g (bs++headB last kind)::ps)):=by
 have h1:∀ (b:Bool),Qj (bi b) (cut 1)=[b]:=by intro b;cases b <;> decide
 have h2:=Vn (w:=w) (bi last) 1 (by cases last <;> decide) (by omega) H (by omega)
 rw [h1] at h2
 have h3:=fun w1 (H:Own w0 w1 (Wtr g (bs++[last])::ps))=>Vn kind 2 (by omega) (by omega) H (by rw [lJ];simp;omega)
 rw [show cut 2=2 from rfl,List.append_assoc] at h3
 have H2:=jd h2
 have H3:=jd h3
 clear h1 h2 h3 H
 cases last
 all_goals
  simp only [bi,if_true,if_false,Bool.false_eq_true] at H2
  go_enter Tryz.func125,Tryz.ntmps125
  go_wp2_with fail
  refine H2.out.mono ?_
  rintro e w1 ⟨_,rfl,H⟩
  go_wp2_with fail
  refine (H3.out _ H).mono ?_
  rintro e w2 ⟨_,rfl,H⟩
  go_wp2_with fail
  go_end0
  exact ⟨_,rfl,H⟩
theorem Zm{P:Program}{fn:Func}{p:Tmp}{ty:TypeId}(h:fn.results=#[.cell p ty])(tmps:Array Value)(w:World)(g:Nat)(v:Value)
 (hp:tmps.getD p undef=.pointer (some ⟨g,0,none⟩)) (hl:(loadVar ty ⟨g,0,none⟩).run P w=.ok v w):(results fn tmps).run P w=.ok v w:=by
 have hp':tmps[p]?.getD undef=.pointer (some ⟨g,0,none⟩):=by simpa using hp
 simp only [results,h]
 simp [hp',asAddr,hl]
set_option maxRecDepth 100000 in
theorem made_any{w:World}{v:Value}{n:Nat}{L:List Int}(hr:Rd w 1 v n (nums L))(hn:n≤1000000)(hc:cerrF L=0) :
 Calls Tryz.prog 191 #[v] w (Ret fun r w'=>∃ u,r=.agg #[v,u]∧Own w w' [slc 3 1 u L.length (nums (Zc L))]):=by
 have hl:=jd (rd_len hr)
 rw [hl.out]
 obtain ⟨a,c,rfl,hc1,hc2⟩:=hr.shape
 have H:=(Own.start w).alloc (.cells #[.slice none 0 0,.slice none 0 0] 298)
 have hcd:=codes_any (hr.old H) hn
 have hcr:cresF L=Zc L:=by unfold cresF;rw [if_pos hc]
 rw [hc,hcr,codesF_length,hl.out] at hcd
 have HC:=jd hcd
 clear hr hc hcd hcr
 go_enter Tryz.func191,Tryz.ntmps191
 go_wp2_with fail
 generalize w.alloc _=w1 at *
 generalize w.heap.size=g at *
 refine HC.out.mono ?_
 rintro e w2 ⟨_,rfl,u,rfl,H2⟩
 have H:=(H.join H2).swap
 obtain ⟨a2,c2,rfl,-⟩:=(H.front 1 rfl).rd.shape
 clear H2
 have H:Own w w2 (blk g (.cells #[.slice none 0 0,.slice none 0 0] 298)::[slc 3 1 (.slice a2 n c2) n (nums (Zc L))]):=H
 go_wp2_with (refine Qe (vs:=[.slice a n c,.slice a2 n c2]) rfl _ _ rfl rfl H rfl (by kernel_rfl) (by simp) (by simp [Value.oneCell']) rfl ?_;clear H;intro w5 H)
 have c0:=H.cells
 have hld:(loadVar 298 ⟨g,0,none⟩).run Tryz.prog w5=.ok (.agg #[.slice a n c,.slice a2 n c2]) w5:=by
  clear HC
  go_simp
 refine bodyPost_ret (Zm rfl _ _ g _ rfl hld) rfl ?_
 exact ⟨_,rfl,_,rfl,H.drop⟩
set_option maxRecDepth 100000 in
set_option maxHeartbeats 1600000 in
theorem cput_any{w0 w:World}{ps:List Piece}{g s:Nat}{bs:List Bool}{v u:Value}{L:List Int}(hc:CodOk w0 ps v u L)(hs:s<L.length)(H:Own w0 w (Wtr g bs::ps))(hl:bs.length≤35184372087000) :
 Calls Tryz.prog 266 #[.agg #[v,u],.pointer (some ⟨g,0,none⟩),.int .i64 s] w (Ret fun _ w'=>Own w0 w' (Wtr g (bs++cbits L s)::ps)):=by
 obtain ⟨b1,o1,c1,rfl,hc1,hc2⟩:=(hc.len w H.drop).some (by rw [Qg];omega)
 obtain ⟨b2,o2,c2,rfl,hc3,hc4⟩:=(hc.cod w H.drop).some (by rw [Qg,codesF_length];omega)
 have hb:=hc.bd hs
 have hw:=fun w1 (h:Own w0 w1 (Wtr g bs::ps))=>code_any (codeF L s) (L.getD s 0) (by omega) (by omega) h (by omega)
 have hcb:(Qj (codeF L s) (cut (L.getD s 0))).reverse=cbits L s:=by unfold cbits;rw [cut_eq hb.1 (by omega)]
 rw [hcb] at hw
 have hcell:∀ w1,Own w0 w1 ps→w1.cell? ⟨b1,o1+s,none⟩=some (.int .i64 (L.getD s 0))∧w1.cell? ⟨b2,o2+s,none⟩=some (.int .i64 (codeF L s)):=fun w1 h=>by
  refine ⟨(hc.len w1 h).cell (Jj (Za hs)),(hc.cod w1 h).cell (Jj ?_)⟩
  rw [Za (by rw [codesF_length];exact hs),codesF_get hs]
 have hfew:=hc.few
 obtain ⟨n,hn⟩:∃ n,Hid (L.length=n):=⟨_,rfl⟩
 rw [hn.out] at hs hc1 hc3 hfew ⊢
 generalize L.getD s 0=x at *
 generalize codeF L s=y at *
 have HW:=jd hw
 have HC:=jd hcell
 have hsI:(s:Int)<(n:Int):=by omega
 have hnil:s<n:=hs
 clear hw hcell hc hcb hb
 have H:=(H.alloc (.cells #[.slice (some ⟨b1,o1,none⟩) n c1,.slice (some ⟨b2,o2,none⟩) n c2] 298)).swap
 go_enter Tryz.func266,Tryz.ntmps266
 go_upto_region 1 with (fail)
 generalize w.alloc _=w1 at *
 generalize w.heap.size=g2 at *
 refine Qa (fun w1=>Own w0 w1 (Wtr g bs::blk g2 (.cells #[.slice (some ⟨b1,o1,none⟩) n c1,.slice (some ⟨b2,o2,none⟩) n c2] 298)::ps)) 11 (by kernel_rfl) (by kernel_rfl) H.drew ?_
 simp only [List.take_succ_cons,List.take_zero,List.drop_succ_cons,List.drop_zero]
 repeat
  first
  | (refine calm_value (v:=?_) (by decide) rfl (fun σ w1 hS=>?_) ?_
     rotate_left
     ·have c0:=(hS.front 1 rfl).cells;obtain ⟨c1,c2⟩:=HC.out _ hS.drop.drop
      first | (go_simp;rfl) | rfl
     simp only [Act.put,putC])
  | (refine calm_skip (by decide) rfl ?_
     simp only [Act.put,putC])
 refine calm_nil ?_
 intro wd HD
 clear H
 go_wp2_with fail
 refine (HW.out _ (HD.front 1 rfl).drop).mono ?_
 rintro e w3 ⟨_,rfl,H⟩
 go_wp2_with fail
 go_end0
 exact ⟨_,rfl,H⟩
def SymOk(L D:List Int)(t:Tok):Prop:=TokOk t∧(t.len=0→t.lit.toNat<L.length)∧(t.len≠0→(Jy t.len.toNat).1<L.length∧(Jk t.dist.toNat).1<D.length)
theorem toksB_succ{L D:List Int}{l:List Tok}{k:Nat}{t:Tok}(h:l[k]?=some t):toksB L D (l.take (k+1))=toksB L D (l.take k)++tbits L D t:=by
 unfold toksB
 rw [List.take_add_one,h,List.flatMap_append]
 simp
theorem toksB_take_le{L D:List Int}(hL:∀ x∈L,0≤x∧x≤15)(hD:∀ x∈D,0≤x∧x≤15){l:List Tok}(ht:∀ t∈l,TokOk t)(k:Nat):(toksB L D (l.take k)).length≤48*l.length:=by
 have:=toksB_le hL hD (l:=l.take k) (fun t h=>ht t (List.mem_of_mem_take h))
 rw [List.length_take] at this
 omega
set_option maxRecDepth 100000 in
set_option maxHeartbeats 6400000 in
theorem body_any{w0 w:World}{ps:List Piece}{g:Nat}{bs:List Bool}{v u v2 u2 tv:Value}{L D:List Int}{l:List Tok}(hc:CodOk w0 ps v u L)(hd:CodOk w0 ps v2 u2 D)(ht:Reads w0 ps 3 tv l.length (rows tcell l))(hs:∀ t∈l,SymOk L D t)(he:256<L.length)(H:Own w0 w (Wtr g bs::ps))(hl:bs.length+48*l.length≤35184372080000) :
 Calls Tryz.prog 190 #[.pointer (some ⟨g,0,none⟩),tv,.agg #[v,u],.agg #[v2,u2]] w (Ret fun _ w'=>Own w0 w' (Wtr g (bs++bodyB L D l)::ps)):=by
 obtain ⟨ta,tc,rfl,ht1,ht2⟩:=(ht w H.drop).shape
 obtain ⟨a1,c1,rfl,-⟩:=(hc.len w H.drop).shape
 obtain ⟨a2,c2,rfl,-⟩:=(hc.cod w H.drop).shape
 obtain ⟨a3,c3,rfl,-⟩:=(hd.len w H.drop).shape
 obtain ⟨a4,c4,rfl,-⟩:=(hd.cod w H.drop).shape
 have hall:=hc.all
 have hdall:=hd.all
 obtain ⟨n,hn⟩:∃ n,Hid (L.length=n):=⟨_,rfl⟩
 obtain ⟨m,hm⟩:∃ m,Hid (D.length=m):=⟨_,rfl⟩
 obtain ⟨N,hN⟩:∃ N,Hid (l.length=N):=⟨_,rfl⟩
 have HL:=jd (fun k=>toksB_take_le hall hdall (fun t h=>(hs t h).1) (l:=l) k)
 rw [hn.out] at hc he ⊢
 rw [hm.out] at hd ⊢
 rw [hN.out] at ht ht1 hl HL ⊢
 have HC:=jd hc
 have HD:=jd hd
 have HT:=jd ht
 have HS:=jd hs
 clear hc hd ht hs hall hdall
 have H:=(H.alloc2 (.cells #[.slice a1 n c1,.slice a2 n c2] 298) (.cells #[.slice a3 m c3,.slice a4 m c4] 298))
 go_enter Tryz.func190,Tryz.ntmps190
 go_upto_region 1 with (fail)
 generalize (w.alloc _).alloc _=w1 at *
 generalize w.heap.size+1=g2 at *
 generalize w.heap.size=g1 at *
 have H:Own w0 w1 (Wtr g bs::blk g1 (.cells #[.slice a1 n c1,.slice a2 n c2] 298)::blk g2 (.cells #[.slice a3 m c3,.slice a4 m c4] 298)::ps):=(H.front 1 rfl).front 2 rfl
 have HC2:=jd (fun (qs:List Piece)=>HC.out.mono (qs:=qs++blk g1 (.cells #[.slice a1 n c1,.slice a2 n c2] 298)::blk g2 (.cells #[.slice a3 m c3,.slice a4 m c4] 298)::ps) fun w' h=>h.skip.drop.drop)
 have HD2:=jd (fun (qs:List Piece)=>HD.out.mono (qs:=qs++blk g1 (.cells #[.slice a1 n c1,.slice a2 n c2] 298)::blk g2 (.cells #[.slice a3 m c3,.slice a4 m c4] 298)::ps) fun w' h=>h.skip.drop.drop)
 clear HC HD
 go_wp2_with fail
 go_loopw [15] (fun s15 wx=>∃ k:Nat,s15=.int .i64 k∧k≤N∧Own w0 wx (Wtr g (bs++toksB L D (l.take k))::blk g1 (.cells #[.slice a1 n c1,.slice a2 n c2] 298)::blk g2 (.cells #[.slice a3 m c3,.slice a4 m c4] 298)::ps)) (fun s15 _=>N-(intOf s15).toNat)
 case atStart=>exact ⟨0,by go_num,by omega,by simpa [toksB] using H⟩
 case round=>
  clear H
  obtain ⟨k,rfl,hk,H⟩:=hrel
  have hlk:=HL.out k
  obtain ⟨B,hB⟩:∃ B,Hid (bs++toksB L D (l.take k)=B):=⟨_,rfl⟩
  have hBl:B.length≤35184372081000:=by rw [← hB.out,lJ];omega
  rw [hB.out] at H
  by_cases hlt:k<N
  ·have hI:(k:Int)<(N:Int):=by omega
   obtain ⟨t,htk⟩:=Ql (l:=l) (k:=k) (by rw [hN.out];exact hlt)
   have hso:=HS.out t (List.mem_of_getElem? htk)
   have hB2:Hid (bs++toksB L D (l.take (k+1))=B++tbits L D t):=jd (by rw [toksB_succ htk,← List.append_assoc,hB.out])
   obtain ⟨b,o,_,he2,-⟩:=(HT.out _ H.drop.drop.drop).some (by rw [Qp tcell tcell_length,hN.out];omega)
   cases he2
   obtain ⟨c0,cc1,cc2⟩:=tok_cells (HT.out _ H.drop.drop.drop) htk
   obtain ⟨x,y,z⟩:=t
   simp only at c0 cc1 cc2
   clear htk hlk
   go_upto_region 4 with (refine Qe (vs:=[.int .i64 x,.int .i64 y,.int .i64 z]) rfl _ _ rfl rfl (H.alloc _) rfl (by kernel_rfl) (by simp) (by simp;exact ⟨rfl,rfl,rfl⟩) rfl ?_;clear H;intro w5 H)
   generalize wr.heap.size=tb at *
   have H:Own w0 w5 (Wtr g B::blk tb (.cells #[.int .i64 x,.int .i64 y,.int .i64 z] 306)::blk g1 (.cells #[.slice a1 n c1,.slice a2 n c2] 298)::blk g2 (.cells #[.slice a3 m c3,.slice a4 m c4] 298)::ps):=H.swap
   clear c0 cc1 cc2
   have hok:=hso.1
   by_cases hx:x=0
   ·subst hx
    have hz:0≤z∧z<256:=by rcases hok with h | h <;> simp only at h <;> omega
    obtain ⟨s,rfl⟩:∃ s:Nat,z=s:=⟨z.toNat,by omega⟩
    have hsl:s<L.length:=by have:=hso.2.1 rfl;simpa using this
    have htb:tbits L D ⟨0,y,(s:Int)⟩=cbits L s:=by unfold tbits;rw [if_pos rfl,Int.toNat_natCast]
    rw [htb] at hB2
    have hp:=fun w1 h=>cput_any (w:=w1) (HC2.out [blk tb (.cells #[.int .i64 0,.int .i64 y,.int .i64 (s:Int)] 306)]) hsl h (bs:=B) (g:=g) (by omega)
    have HP:=jd hp
    clear hp hso hok htb
    have c0:=(H.front 1 rfl).cells
    have cg1:=(H.front 2 rfl).cells
    go_wp2_with fail
    refine (HP.out _ H).mono ?_
    rintro e w6 ⟨_,rfl,H6⟩
    clear H c0 cg1
    have H:Own w0 w6 (Wtr g (B++cbits L s)::blk g1 (.cells #[.slice a1 n c1,.slice a2 n c2] 298)::blk g2 (.cells #[.slice a3 m c3,.slice a4 m c4] 298)::ps):=(H6.front 1 rfl).drop
    rw [← hB2.out] at H
    clear H6
    go_wp2_with fail
    go_roundw
    case rel=>exact ⟨k+1,by go_num,by omega,H⟩
    case measure=>simp [intOf];omega
   ·have hxb:(x==0)=false:=by simpa using hx
    have hb:3≤x∧x≤258∧1≤y∧y≤32768:=by rcases hok with h | h <;> simp only at h <;> omega
    obtain ⟨p,rfl⟩:∃ p:Nat,x=p:=⟨x.toNat,by omega⟩
    obtain ⟨q,rfl⟩:∃ q:Nat,y=q:=⟨y.toNat,by omega⟩
    obtain ⟨hs1,hs2⟩:=hso.2.2 hx
    simp only [Int.toNat_natCast] at hs1 hs2
    have hlb:=lenSym_bd (n:=p) (by omega)
    have hdb:=distSym_bd (n:=q) (by omega)
    have hln:=length_any p (by omega) (by omega)
    have hdn:=dist_any q (by omega) (by omega)
    have htb:tbits L D ⟨(p:Int),(q:Int),z⟩=cbits L (Jy p).1++(Qj (Jy p).2.2 (Jy p).2.1++(cbits D (Jk q).1++Qj (Jk q).2.2 (Jk q).2.1)):=by unfold tbits;rw [if_neg hx];rfl
    rw [htb] at hB2
    obtain ⟨l1,l2,l3,hl1⟩:∃ l1 l2 l3,Hid (Jy p=(l1,l2,l3)):=⟨_,_,_,rfl⟩
    obtain ⟨d1,d2,d3,hd1⟩:∃ d1 d2 d3,Hid (Jk q=(d1,d2,d3)):=⟨_,_,_,rfl⟩
    rw [hl1.out] at hs1 hlb hln hB2
    rw [hd1.out] at hs2 hdb hdn hB2
    simp only at hs1 hlb hln hB2 hs2 hdb hdn
    obtain ⟨-,-,hl2,hl3⟩:=hlb
    obtain ⟨-,hd2,hd3⟩:=hdb
    have hl3b:l3<32:=Nat.lt_of_lt_of_le hl3 (Nat.pow_le_pow_right (n:=2) (by omega) hl2)
    have hd3b:d3<8192:=Nat.lt_of_lt_of_le hd3 (Nat.pow_le_pow_right (n:=2) (by omega) hd2)
    have HB2:=hB2
    clear hl3 hd3 htb hl1 hd1 hso hok
    have k1:=fun w1 h=>cput_any (w:=w1) (HC2.out [blk tb (.cells #[.int .i64 (p:Int),.int .i64 (q:Int),.int .i64 z] 306)]) hs1 h (bs:=B) (g:=g) (by omega)
    have bd1:=cbits_le (HC2.out []).all l1
    have k2:=fun w1 (h:Own w0 w1 (Wtr g (B++cbits L l1)::blk tb (.cells #[.int .i64 (p:Int),.int .i64 (q:Int),.int .i64 z] 306)::blk g1 (.cells #[.slice a1 n c1,.slice a2 n c2] 298)::blk g2 (.cells #[.slice a3 m c3,.slice a4 m c4] 298)::ps))=>Vn (l3:Int) (l2:Int) (by omega) (by omega) h (by rw [lJ];omega)
    rw [cut_eq (by omega) (by omega),Int.toNat_natCast] at k2
    have k3:=fun w1 h=>cput_any (w:=w1) (HD2.out [blk tb (.cells #[.int .i64 (p:Int),.int .i64 (q:Int),.int .i64 z] 306)]) hs2 h (bs:=B++cbits L l1++Qj l3 l2) (g:=g) (by rw [lJ,lJ,Qd];omega)
    have bd2:=cbits_le (HD2.out []).all d1
    have k4:=fun w1 (h:Own w0 w1 (Wtr g (B++cbits L l1++Qj l3 l2++cbits D d1)::blk tb (.cells #[.int .i64 (p:Int),.int .i64 (q:Int),.int .i64 z] 306)::blk g1 (.cells #[.slice a1 n c1,.slice a2 n c2] 298)::blk g2 (.cells #[.slice a3 m c3,.slice a4 m c4] 298)::ps))=>Vn (d3:Int) (d2:Int) (by omega) (by omega) h (by rw [lJ,lJ,lJ,Qd];omega)
    rw [cut_eq (by omega) (by omega),Int.toNat_natCast] at k4
    have K1:=jd k1
    have K2:=jd k2
    have K3:=jd k3
    have K4:=jd k4
    have LN:=jd hln
    have DN:=jd hdn
    clear k1 k2 k3 k4 hln hdn bd1 bd2 hs1 hs2
    have c0:=(H.front 1 rfl).cells
    have cg1:=(H.front 2 rfl).cells
    go_wp2_with fail
    refine (LN.out _).mono ?_
    rintro e w6 ⟨_,rfl,rfl,H6⟩
    replace H:=H.join H6
    clear H6 c0 cg1
    have c0:=(H.front 1 rfl).cells
    have cg1:=(H.front 2 rfl).cells
    go_wp2_with fail
    refine (K1.out _ H).mono ?_
    rintro e w7 ⟨_,rfl,H7⟩
    clear H c0 cg1
    go_wp2_with fail
    refine (K2.out _ H7).mono ?_
    rintro e w8 ⟨_,rfl,H⟩
    clear H7
    have c0:=(H.front 1 rfl).cells
    go_wp2_with fail
    refine (DN.out _).mono ?_
    rintro e w9 ⟨_,rfl,rfl,H6⟩
    replace H:=H.join H6
    clear H6 c0
    have cg2:=(H.front 3 rfl).cells
    go_wp2_with fail
    refine (K3.out _ H).mono ?_
    rintro e w10 ⟨_,rfl,H10⟩
    clear H cg2
    go_wp2_with fail
    refine (K4.out _ H10).mono ?_
    rintro e w11 ⟨_,rfl,H11⟩
    have H:Own w0 w11 (Wtr g (B++cbits L l1++Qj l3 l2++cbits D d1++Qj d3 d2)::blk g1 (.cells #[.slice a1 n c1,.slice a2 n c2] 298)::blk g2 (.cells #[.slice a3 m c3,.slice a4 m c4] 298)::ps):=(H11.front 1 rfl).drop
    simp only [List.append_assoc] at H
    rw [← HB2.out] at H
    clear H10 H11
    go_wp2_with fail
    go_roundw
    case rel=>exact ⟨k+1,by go_num,by omega,H⟩
    case measure=>simp [intOf];omega
  ·have hI:¬ (k:Int)<(N:Int):=by omega
   have hlall:l.take k=l:=List.take_of_length_le (by rw [hN.out];omega)
   rw [hlall] at hB
   have hfin:Hid (bs++bodyB L D l=B++cbits L 256):=jd (by unfold bodyB;rw [← List.append_assoc,hB.out])
   have hp:=fun w1 h=>cput_any (w:=w1) (HC2.out []) (s:=256) (by rw [hn.out];exact he) h (bs:=B) (g:=g) (by omega)
   have HP:=jd hp
   clear hp hlk
   have cg1:=(H.front 1 rfl).cells
   go_wp2_with fail
   refine (HP.out _ H).mono ?_
   rintro e w6 ⟨_,rfl,H6⟩
   go_wp2_with fail
   go_end0
   rw [hfin.out]
   exact ⟨_,rfl,(H6.front 1 rfl).drop.front 1 rfl |>.drop⟩
set_option maxRecDepth 100000 in
theorem grow_any(n:Nat)(hn:n≤1000000)(w:World) :
 Calls Tryz.prog 321 #[.slice none 0 0,.int .i64 n] w (Ret fun r w'=>Own w w' [slc 3 1 r 0 []]):=by
 have H:=Own.start w
 by_cases h0:n=0
 ·subst h0
  have H:=H.nil 3 1
  go_enter Tryz.func321,Tryz.ntmps321
  go_wp2_with fail
  go_ret
  exact ⟨_,rfl,H⟩
 ·have hI:(n:Int)>0:=by omega
  obtain ⟨i,hi,hz,hsize,hby⟩:=info_parts Vr
  have hap:∀ (w:World) (ty:TypeId) (t2:TypeId),Tryz.prog.underlying t2=some (.int .i64)→(Builtin.append_ #[34,t2] ty #[.slice none 0 0,.int .i64 n]).run Tryz.prog w=.ok (.slice (some ⟨w.heap.size,0,none⟩) n (grownCap w n 0 3)) (w.drew.alloc (.cells (Builtin.zeroCells (Value.int .i64 0).cells n++Builtin.zeroCells (Value.int .i64 0).cells (grownCap w n 0 3-n)) 3)):=fun w ty t2 ht2=>
   Lib.run_append_nil_zeros w 34 t2 ty 3 i (.int .i64 0) .i64 .i64 Tryz.underlying34 ht2 hi hz n (by omega) (by omega) (by omega) (by rw [hby];omega)
  have HA:=jd hap
  have hge:=grownCap_ge w n 0 3
  have hle:=grownCap_le_maxLen w n 0 3 (by simp [maxLen];omega)
  have H2:Own w (w.drew.alloc (.cells (Builtin.zeroCells (Value.int .i64 0).cells n++Builtin.zeroCells (Value.int .i64 0).cells (grownCap w n 0 3-n)) 3)) [slc 3 1 (.slice (some ⟨w.heap.size,0,none⟩) 0 (grownCap w n 0 3)) 0 []]:=by
   have h1:=H.drew.alloc (.cells (Builtin.zeroCells (Value.int .i64 0).cells n++Builtin.zeroCells (Value.int .i64 0).cells (grownCap w n 0 3-n)) 3)
   exact h1.slc_mk (by simp) (Nat.zero_le _) hle (by simp [size_zeroCells,Value.cells];omega) (by simp)
  clear hap
  go_enter Tryz.func321,Tryz.ntmps321
  go_wp2_with (at_builtin;refine Lib.wpList_append_run _ rfl _ _ _ _ rfl _ _ rfl rfl _ _ (HA.out _ _ _ (by kernel_rfl)) ?_;clear H;generalize w.drew.alloc _=w2 at *;generalize grownCap w n 0 3=gc at *)
  go_ret
  exact ⟨_,rfl,H2⟩
def flatN(Ls:List (List Int))(k:Nat):List Int:=(Ls.take k).flatten
theorem flatN_succ{Ls:List (List Int)}{k:Nat}{L:List Int}(h:Ls[k]?=some L):flatN Ls (k+1)=flatN Ls k++L:=by
 unfold flatN
 rw [List.take_add_one,h,List.flatten_append]
 simp
theorem flatN_le(Ls:List (List Int))(k:Nat):(flatN Ls k).length≤Ls.flatten.length:=by
 unfold flatN
 conv=>rhs;rw [← List.take_append_drop k Ls,List.flatten_append,lJ]
 omega
set_option maxRecDepth 100000 in
set_option maxHeartbeats 1600000 in
theorem concat_any{w:World}{v:Value}{m:Nat}(Ls:List (List Int))(vs:List Value)(hr:Rd w 1 v m vs)(hl:vs.length=m)(hLl:Ls.length=m)(hm:m≤1000)
 (hall:∀ (k:Nat) (u:Value) (L:List Int),vs[k]?=some u→Ls[k]?=some L→Rd w 1 u L.length (nums L)) (hN:Ls.flatten.length≤100000) :
 Calls Tryz.prog 264 #[v] w (Ret fun r w'=>Own w w' [slc 3 1 r Ls.flatten.length (nums Ls.flatten)]):=by
 have H:=Own.start w
 obtain ⟨a,c,rfl,hc1,hc2⟩:=hr.shape
 have HR:=jd hr
 have HALL:=jd hall
 have HL:=jd hl
 have HLL:=jd hLl
 clear hr hall hl hLl
 have hg:∀ (n:Nat),n≤1000000→∀ w,Calls Tryz.prog 321 #[.slice none 0 0,.int .i64 n] w (Ret fun r w'=>Own w w' [slc 3 1 r 0 []]):=fun n hn w=>grow_any n hn w
 have HG:=jd hg
 clear hg
 obtain ⟨N,hNN⟩:∃ N,Hid (Ls.flatten.length=N):=⟨_,rfl⟩
 rw [hNN.out] at hN ⊢
 obtain ⟨FL,hFL⟩:∃ FL,Hid (Ls.flatten=FL):=⟨_,rfl⟩
 rw [hFL.out]
 go_enter Tryz.func264,Tryz.ntmps264
 go_wp2_with fail
 go_loopw [3,11] (fun s3 s11 wx=>∃ k q:Nat,s11=.int .i64 k∧k≤m∧s3=.int .i64 q∧Hid ((flatN Ls k).length=q)∧q≤100000∧Own w wx []) (fun _ s11 _=>m-(intOf s11).toNat)
 case atStart=>exact ⟨0,0,by go_num,by omega,by go_num,jd (by simp [flatN]),by omega,H⟩
 case round=>
  clear H
  obtain ⟨k,q,rfl,hk,rfl,hq,hqN,H⟩:=hrel
  by_cases hlt:k<m
  ·have hI:(k:Int)<(m:Int):=by omega
   obtain ⟨u,hu⟩:=Ql (l:=vs) (k:=k) (by have:=HL.out;omega)
   obtain ⟨L,hL⟩:=Ql (l:=Ls) (k:=k) (by have:=HLL.out;omega)
   obtain ⟨b,o,_,he,-⟩:=HR.out.some (by have:=HL.out;omega)
   cases he
   have c0:=(HR.out.old H).cell hu
   have hu2:=HALL.out k u L hu hL
   obtain ⟨ua,uc,rfl,huc1,huc2⟩:=hu2.shape
   have hs:=flatN_succ hL
   have hle:=flatN_le Ls (k+1)
   rw [hNN.out] at hle
   have hq2:Hid ((flatN Ls (k+1)).length=q+L.length):=jd (by rw [hs,lJ,hq.out])
   have hb:q+L.length≤100000:=by have:=hq2.out;omega
   obtain ⟨x,hx⟩:∃ x,Hid (L.length=x):=⟨_,rfl⟩
   rw [hx.out] at hb hq2 huc1 c0
   have hw:IntKind.i64.wrap ((q:Int)+(x:Int))=(q:Int)+(x:Int):=IntWalk.i64_in _ ⟨by omega,by omega⟩
   have hnn:¬ ((q:Int)+(x:Int)<0):=by omega
   clear hu hL hu2 hs hle
   go_wp2_with fail
   go_roundw
   case rel=>exact ⟨k+1,q+x,by go_num,by omega,by go_num,hq2,hb,H⟩
   case measure=>simp [intOf];omega
  ·have hI:¬ (k:Int)<(m:Int):=by omega
   go_wp2_with fail
   refine (HG.out q (by omega) _).mono ?_
   rintro e w2 ⟨v6,rfl,H2⟩
   have H:=H.join H2
   clear H2
   obtain ⟨a6,c6,rfl,-⟩:=H.rd.shape
   go_wp2_with fail
   go_loopw [6,27] (fun s6 s27 wx=>∃ k q:Nat,s27=.int .i64 k∧k≤m∧Hid ((flatN Ls k).length=q)∧q≤100000∧Own w wx [slc 3 1 s6 q (nums (flatN Ls k))]) (fun _ s27 _=>m-(intOf s27).toNat)
   case atStart=>exact ⟨0,0,by go_num,by omega,jd (by simp [flatN]),by omega,H⟩
   case round=>
    clear H hq hqN
    obtain ⟨k,q,rfl,hk,hq,hqN,H⟩:=hrel
    rename_i v6 _
    obtain ⟨a6,c6,rfl,-⟩:=H.rd.shape
    by_cases hlt:k<m
    ·have hI:(k:Int)<(m:Int):=by omega
     obtain ⟨u,hu⟩:=Ql (l:=vs) (k:=k) (by have:=HL.out;omega)
     obtain ⟨L,hL⟩:=Ql (l:=Ls) (k:=k) (by have:=HLL.out;omega)
     obtain ⟨b,o,_,he,-⟩:=HR.out.some (by have:=HL.out;omega)
     cases he
     have c0:=(HR.out.old H).cell hu
     have hu2:=HALL.out k u L hu hL
     obtain ⟨ua,uc,rfl,huc1,huc2⟩:=hu2.shape
     have hs:=flatN_succ hL
     have hle:=flatN_le Ls (k+1)
     rw [hNN.out] at hle
     obtain ⟨x,hx⟩:∃ x,Hid (L.length=x):=⟨_,rfl⟩
     have hq2:Hid ((flatN Ls (k+1)).length=q+x):=jd (by rw [hs,lJ,hq.out,hx.out])
     have hb:q+x≤100000:=by have:=hq2.out;omega
     have hold:=hu2.old H
     rw [hx.out] at huc1 c0 hold
     have HS:=jd (show nums (flatN Ls k)++nums L=nums (flatN Ls (k+1)) by rw [hs];simp [nums])
     have HO:=jd hold
     have H1:Hid (∀ v∈nums L,v.oneCell'=true):=jd (fun v hv=>by unfold nums at hv;obtain ⟨x,_,rfl⟩:=List.mem_map.1 hv;rfl)
     clear hu hL hu2 hs hle hold
     go_wp2_with (at_builtin;refine Qn rfl _ _ rfl Tryz.underlying34 Vr rfl (by decide) rfl H HO.out H1.out (by omega) (by omega) ?_;clear H c0;intro v' w' H;rw [HS.out] at H;obtain ⟨a8,c8,rfl,-⟩:=H.rd.shape)
     go_roundw
     case rel=>exact ⟨k+1,q+x,by go_num,by omega,hq2,hb,H⟩
     case measure=>simp [intOf];omega
    ·have hI:¬ (k:Int)<(m:Int):=by omega
     have hfl:flatN Ls k=Ls.flatten:=by unfold flatN;rw [List.take_of_length_le (by have:=HLL.out;omega)]
     have hqq:q=N:=by rw [← hq.out,hfl,hNN.out]
     subst hqq
     rw [hfl,hFL.out] at H
     clear hfl hq
     go_wp2_with fail
     go_ret
     exact ⟨_,rfl,H⟩
theorem fixL_flat:[List.replicate 144 (8:Int),List.replicate 112 9,List.replicate 24 7,List.replicate 8 8].flatten=fixL:=by
 simp only [List.flatten_cons,List.flatten_nil,List.append_nil];unfold fixL;simp only [List.append_assoc]
theorem one_row{w:World}{g:Nat}{a:Int}(h:w.heap[g]?=some (.cells #[.int .i64 a] 3)):Rd w 1 (.slice (some ⟨g,0,none⟩) 1 1) 1 (nums [a]):=by
 refine ⟨rfl,_,_,rfl,Nat.le_refl _,by decide,by simp,fun ad had j u hu=>?_⟩
 obtain rfl:=Option.some.inj had
 rw [Addr.add_lit,Nat.zero_add,cell_of_block h]
 have:j=0:=by have:=(gJ hu).1;simpa [nums] using this
 subst this
 exact hu
set_option maxRecDepth 100000 in
set_option maxHeartbeats 3200000 in
theorem fixed_any(w:World):Calls Tryz.prog 189 #[] w (Ret fun r w'=>∃ v u,r=.tuple #[v,u]∧Own w w' [slc 3 1 u 32 (nums fixD),slc 3 1 v 288 (nums fixL)]):=by
 have H:=Own.start w
 go_enter Tryz.func189,Tryz.ntmps189
 go_wp2_with fail
 refine (repeat_any 144 (one_row (H.alloc (.cells #[.int .i64 8] 3)).block.1) (by omega)).mono ?_
 rintro e w1 ⟨v1,rfl,H1⟩
 have H:=(H.alloc (.cells #[.int .i64 8] 3)).drop.join H1
 obtain ⟨a1,c1,rfl,-⟩:=H.rd.shape
 clear H1
 go_wp2_with fail
 refine (repeat_any 112 (one_row (H.alloc (.cells #[.int .i64 9] 3)).block.1) (by omega)).mono ?_
 rintro e w2 ⟨v2,rfl,H2⟩
 have H:=(H.alloc (.cells #[.int .i64 9] 3)).drop.join H2
 obtain ⟨a2,c2,rfl,-⟩:=H.rd.shape
 clear H2
 go_wp2_with fail
 refine (repeat_any 24 (one_row (H.alloc (.cells #[.int .i64 7] 3)).block.1) (by omega)).mono ?_
 rintro e w3 ⟨v3,rfl,H3⟩
 have H:=(H.alloc (.cells #[.int .i64 7] 3)).drop.join H3
 obtain ⟨a3,c3,rfl,-⟩:=H.rd.shape
 clear H3
 go_wp2_with fail
 refine (repeat_any 8 (one_row (H.alloc (.cells #[.int .i64 8] 3)).block.1) (by omega)).mono ?_
 rintro e w4 ⟨v4,rfl,H4⟩
 have H:=(H.alloc (.cells #[.int .i64 8] 3)).drop.join H4
 obtain ⟨a4,c4,rfl,-⟩:=H.rd.shape
 clear H4
 go_wp2_with fail
 have H5:=H.alloc (.cells #[.slice a1 144 c1,.slice a2 112 c2,.slice a3 24 c3,.slice a4 8 c4] 34)
 have hrow:Rd (w4.alloc (.cells #[.slice a1 144 c1,.slice a2 112 c2,.slice a3 24 c3,.slice a4 8 c4] 34)) 1 (.slice (some ⟨w4.heap.size,0,none⟩) 4 4) 4 [.slice a1 144 c1,.slice a2 112 c2,.slice a3 24 c3,.slice a4 8 c4]:=by
  refine ⟨rfl,_,_,rfl,Nat.le_refl _,by decide,by simp,fun ad had j u hu=>?_⟩
  obtain rfl:=Option.some.inj had
  rw [Addr.add_lit,Nat.zero_add,H5.cell]
  simpa using hu
 have h8:=(H5.front 1 rfl).rd
 have h24:=(H5.front 2 rfl).rd
 have h112:=(H5.front 3 rfl).rd
 have h144:=(H5.front 4 rfl).rd
 have hcc:=concat_any [List.replicate 144 (8:Int),List.replicate 112 9,List.replicate 24 7,List.replicate 8 8] [.slice a1 144 c1,.slice a2 112 c2,.slice a3 24 c3,.slice a4 8 c4] hrow rfl rfl (by omega) (fun k u L hu hL=>by
  match k with
  | 0=>cases hu;cases hL;exact h144
  | 1=>cases hu;cases hL;exact h112
  | 2=>cases hu;cases hL;exact h24
  | 3=>cases hu;cases hL;exact h8
  | k+4=>cases hu) (by rw [fixL_flat,Kg.1];omega)
 rw [fixL_flat,Kg.1] at hcc
 refine hcc.mono ?_
 rintro e w5 ⟨v5,rfl,H6⟩
 have H:=H5.bare.join H6
 obtain ⟨a5,c5,rfl,-⟩:=H.rd.shape
 clear H6 H5 hcc hrow h8 h24 h112 h144
 go_wp2_with fail
 refine (repeat_any 32 (one_row (H.alloc (.cells #[.int .i64 5] 3)).block.1) (by omega)).mono ?_
 rintro e w6 ⟨v6,rfl,H6⟩
 have H:=(H.alloc (.cells #[.int .i64 5] 3)).drop.join H6
 obtain ⟨a6,c6,rfl,-⟩:=H.rd.shape
 clear H6
 go_wp2_with fail
 go_ret2
 exact ⟨_,rfl,_,_,rfl,H⟩
end Go.Proofs.YthekdeikodppkaaGreatDoor
namespace Go.Proofs.YthekdeikodppkaaGreatDoor
open Go.RowKit Go.Maps
set_option maxRecDepth 100000 in
theorem tokInfo:(Tryz.prog.info? 306).map (fun i=>(i.zero,i.size,i.bytes))=some (some (tval ⟨0,0,0⟩),3,24):=by kernel_rfl
set_option maxRecDepth 100000 in
set_option maxHeartbeats 3200000 in
theorem lzparse_any{w0 w:World}{ps:List Piece}{s:ByteArray}(H:Own w0 w ps)(hs:s.size≤1000000) :
 Calls Tryz.prog 131 #[.string s] w (Ret fun v w'=>Own w0 w' (slc 306 3 v (parse s).length (rows tcell (parse s))::ps)):=by
 have hmk:∀ w:World,(Instr.makeSlice 34 (.int .i64 s.size) (.int .i64 s.size)).run Tryz.prog w=.ok (.slice (some ⟨w.heap.size,0,none⟩) s.size s.size) (w.alloc (.cells (madeCells #[.int .i64 0] s.size) 3)):=run_make_row' _ _ _ 8 Tryz.underlying34 Vr rfl .i64 .i64 s.size (by omega) (by omega)
 have hmm:=fun w=>run_makeMap (P:=Tryz.prog) 302 w
 have hnew:Own w0 (((w.alloc (.map #[] 0)).alloc (.cells (madeCells #[.int .i64 0] s.size) 3)).alloc (.cells #[.string s,.map (some w.heap.size),.slice (some ⟨w.heap.size+1,0,none⟩) s.size s.size] 304)) (Fnd (w.heap.size+1+1) s 0::ps):=by
  have h1:=(H.mpi_new (P:=Tryz.prog) (K:=393) (E:=3) (enc:=k3)).alloc2 (.cells (madeCells #[.int .i64 0] s.size) 3) (.cells #[.string s,.map (some w.heap.size),.slice (some ⟨w.heap.size+1,0,none⟩) s.size s.size] 304)
  have e:(w.alloc (.map #[] 0)).heap.size=w.heap.size+1:=by simp
  rw [e] at h1
  have h2:=h1.swap.slc_mk (xs:=nums (List.replicate s.size 0)) (n:=s.size) (size:=1) (by simp [nums]) (Nat.le_refl _) (by simp [maxLen];omega) (by simp [size_madeCells]) (by rw [toList_madeCells_one];simp [nums])
  refine fnd_shut (b:=w.heap.size) (v:=.slice (some ⟨w.heap.size+1,0,none⟩) s.size s.size) (xs:=List.replicate s.size 0) ⟨by simp,fun q h=>by omega⟩ ?_
  rw [gOf_zero]
  exact (h2.swap.front 2 rfl).swap
 have HN:=jd hnew
 clear hnew
 obtain ⟨W,hW⟩:∃ W,Hid (Vx s s.size 0=W):=⟨_,rfl⟩
 have hp:Hid (parse s=W):=jd hW.out
 rw [hp.out]
 go_enter Tryz.func131,Tryz.ntmps131
 go_upto_region 2 with (fail)
 have H1:=HN.out
 clear HN H
 generalize ((w.alloc (.map #[] 0)).alloc (.cells (madeCells #[.int .i64 0] s.size) 3)).alloc (.cells #[.string s,.map (some w.heap.size),.slice (some ⟨w.heap.size+1,0,none⟩) s.size s.size] 304)=wx at *
 generalize w.heap.size+1+1=g at *
 have H:=(H1.nil 306 3).swap
 clear H1
 go_wp2_with fail
 go_loopw [4,5] (fun s4 s5 wr=>∃ (i f:Nat) (l:List Tok),s5=.int .i64 i∧i≤s.size∧s.size≤i+f∧Hid (l++Vx s f i=W)∧l.length≤i∧Own w0 wr (Fnd g s i::slc 306 3 s4 l.length (rows tcell l)::ps)) (fun _ s5 _=>s.size-(intOf s5).toNat)
 case atStart=>exact ⟨0,s.size,[],by simp,by omega,by omega,hW,by simp,H⟩
 case round=>
  clear H
  obtain ⟨i,f,l,rfl,hi,hf,hl,hll,H⟩:=hrel
  by_cases hlt:i<s.size
  ·have hltI:(i:Int)<(s.size:Int):=by omega
   obtain ⟨f,rfl⟩:∃ f',f=f'+1:=⟨f-1,by omega⟩
   have hpn:Vx s (f+1) i=tokAt s i::Vx s f (i+stepAt s i):=by rw [Vx,if_pos hlt]
   have hsl:=stepAt_le hlt
   have hsp:=stepAt_pos s i
   have hst:stepAt s i=if 3≤(found s i).1 then (found s i).1 else 1:=rfl
   have htk:tokAt s i=if 3≤(found s i).1 then ⟨(found s i).1,(found s i).2,0⟩ else ⟨0,0,(byt s i).toNat⟩:=rfl
   obtain ⟨m,hm⟩:∃ m,Hid (stepAt s i=m):=⟨_,rfl⟩
   obtain ⟨t,ht⟩:∃ t,Hid (tokAt s i=t):=⟨_,rfl⟩
   rw [hm.out] at hst hpn hsl hsp
   rw [ht.out] at htk hpn
   have hl2:Hid ((l++[t])++Vx s f (i+m)=W):=jd (by rw [← hl.out,hpn];simp)
   clear hl hpn
   obtain ⟨n,d,hF⟩:∃ n d,Hid (found s i=(n,d)):=⟨_,_,rfl⟩
   rw [hF.out] at hst htk
   go_upto_region 5 with (fail)
   go_wp2_with fail
   refine (lzfind_any H hlt hs).mono ?_
   rintro e w1 ⟨_,rfl,rfl,H1⟩
   rw [hF.out]
   clear H
   have e0:=byt_is hlt
   have hx8:=(byt s i).toNat_lt
   have hwx:wrap64 (((byt s i).toNat:Nat):Int)=(((byt s i).toNat:Nat):Int):=IntWalk.wrap64_in _ ⟨by omega,by omega⟩
   obtain ⟨cv,hcv⟩:∃ cv,Hid (w1.heap.size=cv):=⟨_,rfl⟩
   by_cases h3:3≤n
   case pos=>
    have h3I:¬ (n:Int)<3:=by omega
    rw [if_pos h3] at hst htk
    subst hst
    have HT:=jd htk
    clear htk hwx e0 hx8
    go_upto_region 10 with (refine Qe rfl _ _ rfl rfl (H1.alloc _) rfl (by kernel_rfl) (by simp) (by simp;exact ⟨rfl,rfl,rfl⟩) rfl ?_;clear H1;intro w5 H;rw [hcv.out] at H ⊢)
    have H:Own w0 w5 (blk cv (.cells #[.int .i64 t.len,.int .i64 t.dist,.int .i64 t.lit] 306)::Fnd g s i::slc 306 3 u4 l.length (rows tcell l)::ps):=by rw [HT.out];exact H
    clear h3 h3I hF
    go_wp2_with fail
    go_loopw [5,37] (fun s5 s37 wr=>∃ k:Nat,s5=.int .i64 ((i+k:Nat):Int)∧s37=.int .i64 k∧k≤m∧Own w0 wr (blk cv (.cells #[.int .i64 t.len,.int .i64 t.dist,.int .i64 t.lit] 306)::Fnd g s (i+k)::slc 306 3 u4 l.length (rows tcell l)::ps)) (fun _ s37 _=>m-(intOf s37).toNat)
    case atStart=>exact ⟨0,by simp,by simp,by omega,H⟩
    case round=>
     clear H
     obtain ⟨k,rfl,rfl,hk,H⟩:=hrel
     by_cases hkm:k<m
     ·have hkI:(k:Int)<(m:Int):=by omega
      obtain ⟨j,hj⟩:∃ j,Hid (i+k=j):=⟨_,rfl⟩
      have hjs:j<s.size:=by have:=hj.out;omega
      rw [hj.out] at H ⊢
      go_wp2_with fail
      refine (fput_any H.swap hjs hs).mono ?_
      rintro e w6 ⟨_,rfl,H6⟩
      clear H
      go_wp2_with fail
      go_roundw
      case rel=>exact ⟨k+1,by have:=hj.out;go_num;try omega,by go_num,by omega,(by rw [← Nat.add_assoc,hj.out];exact H6.swap)⟩
      case measure=>simp [intOf];omega
     ·have hkI:¬ (k:Int)<(m:Int):=by omega
      have hke:m=k:=by omega
      rw [hke] at hl2 hsl hsp
      have c0:=H.cells
      obtain ⟨a',c',rfl,h1',h2'⟩:=(H.front 2 rfl).rd.shape
      go_wp2_with (at_builtin;refine Qf rfl _ _ rfl Tryz.underlying226 tokInfo rfl (by decide) rfl (H.front 2 rfl) (news:=tcell t) rfl rfl rfl (tcell_one t) (by omega) (by omega) ?_;clear H c0;intro v' w7 H)
      go_roundw
      case rel=>
       refine ⟨i+k,f,l++[t],by go_num,by omega,by omega,hl2,by simp;omega,?_⟩
       rw [Ze,rows_one,lJ]
       exact ((((H.front 2 rfl).front 2 rfl).drop))
      case measure=>simp [intOf];omega
   case neg=>
    have h3I:(n:Int)<3:=by omega
    rw [if_neg h3] at hst htk
    subst hst
    have HT:=jd htk
    clear htk
    go_upto_region 10 with (first
     | (refine Qe rfl _ _ rfl rfl (H1.alloc _) rfl (by kernel_rfl) (by simp) (by simp;exact ⟨rfl,rfl,rfl⟩) rfl ?_;clear H1;intro w4 H4;rw [hcv.out] at H4 ⊢)
     | (refine Qe (vs:=tcell ⟨0,0,(byt s i).toNat⟩) rfl _ _ rfl rfl H4 (by first | rfl | (go_simp;done)) (by kernel_rfl) (by simp [tcell]) (tcell_one _) rfl ?_;clear H4;intro w5 H))
    have H:Own w0 w5 (blk cv (.cells #[.int .i64 t.len,.int .i64 t.dist,.int .i64 t.lit] 306)::Fnd g s i::slc 306 3 u4 l.length (rows tcell l)::ps):=by rw [HT.out];exact H
    clear hwx e0 hx8
    clear h3 h3I hF
    go_wp2_with fail
    go_loopw [5,37] (fun s5 s37 wr=>∃ k:Nat,s5=.int .i64 ((i+k:Nat):Int)∧s37=.int .i64 k∧k≤1∧Own w0 wr (blk cv (.cells #[.int .i64 t.len,.int .i64 t.dist,.int .i64 t.lit] 306)::Fnd g s (i+k)::slc 306 3 u4 l.length (rows tcell l)::ps)) (fun _ s37 _=>1-(intOf s37).toNat)
    case atStart=>exact ⟨0,by simp,by simp,by omega,H⟩
    case round=>
     clear H
     obtain ⟨k,rfl,rfl,hk,H⟩:=hrel
     by_cases hkm:k<1
     ·have hkI:(k:Int)<1:=by omega
      obtain ⟨j,hj⟩:∃ j,Hid (i+k=j):=⟨_,rfl⟩
      have hjs:j<s.size:=by have:=hj.out;omega
      rw [hj.out] at H ⊢
      go_wp2_with fail
      refine (fput_any H.swap hjs hs).mono ?_
      rintro e w6 ⟨_,rfl,H6⟩
      clear H
      go_wp2_with fail
      go_roundw
      case rel=>exact ⟨k+1,by have:=hj.out;go_num;try omega,by go_num,by omega,(by rw [← Nat.add_assoc,hj.out];exact H6.swap)⟩
      case measure=>simp [intOf];omega
     ·have hkI:¬ (k:Int)<1:=by omega
      obtain rfl:k=1:=by omega
      have c0:=H.cells
      obtain ⟨a',c',rfl,h1',h2'⟩:=(H.front 2 rfl).rd.shape
      go_wp2_with (at_builtin;refine Qf rfl _ _ rfl Tryz.underlying226 tokInfo rfl (by decide) rfl (H.front 2 rfl) (news:=tcell t) rfl rfl rfl (tcell_one t) (by omega) (by omega) ?_;clear H c0;intro v' w7 H)
      go_roundw
      case rel=>
       refine ⟨i+1,f,l++[t],by go_num,by omega,by omega,hl2,by simp;omega,?_⟩
       rw [Ze,rows_one,lJ]
       exact ((((H.front 2 rfl).front 2 rfl).drop))
      case measure=>simp [intOf];omega
  ·have hltI:¬ (i:Int)<(s.size:Int):=by omega
   have hfin:Hid (l=W):=jd (by rw [← hl.out,parseN_end (by omega)];simp)
   clear hl
   go_wp2
   go_ret
   refine ⟨_,rfl,?_⟩
   rw [← hfin.out]
   exact H.drop
end Go.Proofs.YthekdeikodppkaaGreatDoor
namespace Go.Proofs.YthekdeikodppkaaGreatDoor
open Go.RowKit
set_option maxRecDepth 100000 in
set_option maxHeartbeats 1600000 in
theorem trim_any{w:World}{a:Option Addr}{n c:Nat}{L:List Int}(least:Nat)(hr:Rd w 1 (.slice a n c) n (nums L))(hn:n≤1000000)(hl:least≤1000000) :
 Calls Tryz.prog 272 #[.slice a n c,.int .i64 least] w (Ret fun r w'=>r=.slice a (trimK L least n) c∧Own w w' []):=by
 have H:=Own.start w
 obtain ⟨_,_,he,hc1,hc2⟩:=hr.shape
 cases he
 have hLn:=rd_len hr
 obtain ⟨K,hK⟩:∃ K,Hid (trimK L least n=K):=⟨_,jd rfl⟩
 rw [hK.out]
 have HR:=jd hr
 have HLN:=jd hLn
 clear hr hLn
 go_enter Tryz.func272,Tryz.ntmps272
 go_wp2_with fail
 go_loopw [0] (fun s0 wx=>∃ k:Nat,s0=.slice a k c∧k≤n∧Hid (trimK L least k=K)∧Own w wx []) (fun s0 _=>Jr s0)
 case atStart=>exact ⟨n,rfl,Nat.le_refl _,hK,H⟩
 case round=>
  clear H hK
  obtain ⟨k,rfl,hk,hK,H⟩:=hrel
  have fin:trimK L least k=k→Hid (k=K):=fun h=>jd (by rw [← hK.out,h])
  by_cases h1:least<k
  ·have h1I:(least:Int)<(k:Int):=by omega
   obtain ⟨j,rfl⟩:∃ j,k=j+1:=⟨k-1,by omega⟩
   obtain ⟨b,o,rfl,c0⟩:=rd_at HR.out H (i:=j) (by omega)
   have hst:trimK L least (j+1)=if least<j+1∧L.getD j 0=0 then trimK L least j else j+1:=rfl
   obtain ⟨x,hx⟩:∃ x,L.getD j 0=x:=⟨_,rfl⟩
   rw [hx] at hst c0
   clear hx
   have hjw:IntKind.i64.wrap (((j+1:Nat):Int)-1)=(j:Int):=by rw [show ((j+1:Nat):Int)-1=(j:Int) by omega];exact IntWalk.i64_in _ ⟨by omega,by omega⟩
   have hjw2:IntKind.i64.wrap ((j:Int)+1-1)=(j:Int):=by rw [show (j:Int)+1-1=(j:Int) by omega];exact IntWalk.i64_in _ ⟨by omega,by omega⟩
   have hjc:(j:Int)≤(c:Int):=by omega
   by_cases hx0:x=0
   ·subst hx0
    rw [if_pos ⟨h1,rfl⟩,hK.out] at hst
    have HST:=jd hst.symm
    clear hst fin
    go_wp2_with fail
    go_roundw
    case rel=>exact ⟨j,rfl,by omega,HST,H⟩
    case measure=>simp [Jr]
   ·have hxb:(x==0)=false:=by simpa using hx0
    rw [if_neg (fun h=>hx0 h.2)] at hst
    have hfk:=fin hst
    clear hst fin
    go_wp2_with fail
    go_ret
    exact ⟨_,rfl,by rw [← hfk.out];rfl,H⟩
  ·have h1I:¬ (least:Int)<(k:Int):=by omega
   have hst:trimK L least k=k:=by
    cases k with
    | zero=>rfl
    | succ k=>rw [trimK,if_neg (fun h=>h1 h.1)]
   have hfk:=fin hst
   clear hst fin
   go_wp2_with fail
   go_ret
   exact ⟨_,rfl,by rw [← hfk.out];rfl,H⟩
theorem Own.getc{w0 w:World}{ps:List Piece}{e:TypeId}{size n g c j:Nat}{xs:List Value}{u:Value}(h:Own w0 w (slc e size (.slice (some ⟨g,0,none⟩) n c) n xs::ps))(hu:xs[j]?=some u):w.cell? ⟨g,j,none⟩=some u:=by
 have:=h.rd.cell hu
 rwa [Nat.zero_add] at this
theorem bumpF_snoc(o l:List Int)(x:Int):bumpF o (l++[x])=bump1 (bumpF o l) x:=by simp [bumpF]
def litN(l:List Tok)(k:Nat):List Int:=litFq (l.take k)
def distN(l:List Tok)(k:Nat):List Int:=Vf (l.take k)
theorem litN_succ{l:List Tok}{k:Nat}{t:Tok}(h:l[k]?=some t):litN l (k+1)=bump1 (litN l k) (litS t):=by
 unfold litN litFq
 rw [List.take_add_one,h,List.map_append]
 exact bumpF_snoc _ _ _
theorem distN_succ{l:List Tok}{k:Nat}{t:Tok}(h:l[k]?=some t):distN l (k+1)=if t.len=0 then distN l k else bump1 (distN l k) (distS t):=by
 unfold distN Vf
 rw [List.take_add_one,h,List.filter_append,List.map_append]
 split
 ·next h0=>
  have e:List.filter (fun t:Tok=>decide (t.len≠0)) (some t).toList=[]:=by
   show List.filter (fun t:Tok=>decide (t.len≠0)) [t]=[]
   rw [List.filter_cons,if_neg (by simpa using h0),List.filter_nil]
  rw [e,List.map_nil,List.append_nil]
 ·next h0=>
  have e:List.filter (fun t:Tok=>decide (t.len≠0)) (some t).toList=[t]:=by
   show List.filter (fun t:Tok=>decide (t.len≠0)) [t]=[t]
   rw [List.filter_cons,if_pos (by simpa using h0),List.filter_nil]
  rw [e]
  exact bumpF_snoc _ _ _
theorem litN_len(l:List Tok)(k:Nat):(litN l k).length=286:=by unfold litN litFq;rw [Jl,List.length_set];exact List.length_replicate
theorem distN_len(l:List Tok)(k:Nat):(distN l k).length=30:=by unfold distN Vf;rw [Jl];exact List.length_replicate
theorem litN_bd(l:List Tok)(k j:Nat):0≤(litN l k).getD j 0∧(litN l k).getD j 0≤1+l.length:=by
 have h0:∀ j,0≤((Qm 286).set 256 1).getD j 0∧((Qm 286).set 256 1).getD j 0≤1:=by
  intro j
  rw [List.getD_eq_getElem?_getD,List.getElem?_set]
  split
  ·split <;> simp
  ·have:=Vg 286 j
   rw [List.getD_eq_getElem?_getD] at this
   rw [this];omega
 have:=bump_bound ((l.take k).map litS) ((Qm 286).set 256 1) j 1 h0
 rw [List.length_map,List.length_take] at this
 unfold litN litFq
 omega
theorem distN_bd(l:List Tok)(k j:Nat):0≤(distN l k).getD j 0∧(distN l k).getD j 0≤1+l.length:=by
 have h0:∀ j,0≤(Qm 30).getD j 0∧(Qm 30).getD j 0≤0:=by intro j;rw [Vg];omega
 have:=bump_bound (((l.take k).filter fun t=>decide (t.len≠0)).map distS) (Qm 30) j 0 h0
 have h2:=List.length_filter_le (fun t:Tok=>decide (t.len≠0)) (l.take k)
 rw [List.length_map] at this
 rw [List.length_take] at h2
 unfold distN Vf
 omega
theorem nums_bump(F:List Int)(s:Nat):(nums F).set s (.int .i64 (F.getD s 0+1))=nums (bump1 F (s:Int)):=by
 rw [nums_set];rfl
set_option maxRecDepth 100000 in
set_option maxHeartbeats 6400000 in
theorem counted2_any{w:World}{tv:Value}{l:List Tok}(ht:Rd w 3 tv l.length (rows tcell l))(hs:∀ t∈l,TokOk t)(hl:l.length≤1000000) :
 Calls Tryz.prog 270 #[tv] w (Ret fun r w'=>∃ v u,r=.tuple #[v,u]∧Own w w' [slc 3 1 v 286 (nums (litFq l)),slc 3 1 u 30 (nums (Vf l))]):=by
 obtain ⟨ta,tc,rfl,ht1,ht2⟩:=ht.shape
 have H:=Own.start w
 obtain ⟨N,hN⟩:∃ N,Hid (l.length=N):=⟨_,jd rfl⟩
 rw [hN.out] at ht ht1 hl ⊢
 have HT:=jd ht
 have HS:=jd hs
 have hmk1:∀ w:World,(Instr.makeSlice 34 (.int .i64 286) (.int .i64 286)).run Tryz.prog w=.ok (.slice (some ⟨w.heap.size,0,none⟩) 286 286) (w.alloc (.cells (madeCells #[.int .i64 0] 286) 3)):=run_make_row' _ _ _ 8 Tryz.underlying34 Vr rfl .i64 .i64 286 (by omega) (by omega)
 have hmk2:∀ w:World,(Instr.makeSlice 34 (.int .i64 30) (.int .i64 30)).run Tryz.prog w=.ok (.slice (some ⟨w.heap.size,0,none⟩) 30 30) (w.alloc (.cells (madeCells #[.int .i64 0] 30) 3)):=run_make_row' _ _ _ 8 Tryz.underlying34 Vr rfl .i64 .i64 30 (by omega) (by omega)
 clear ht hs
 go_enter Tryz.func270,Tryz.ntmps270
 go_upto_region 1 with (fail)
 have mk:∀ (w1:World) (qs:List Piece) (g n:Nat),n≤1000000→Own w w1 (blk g (.cells (madeCells #[.int .i64 0] n) 3)::qs)→Own w w1 (slc 3 1 (.slice (some ⟨g,0,none⟩) n n) n (nums (List.replicate n 0))::qs):=fun w1 qs g n hn h=>
  h.slc_mk (by simp [nums]) (Nat.le_refl _) (by simp [maxLen];omega) (by simp [size_madeCells]) (by rw [toList_madeCells_one];simp [nums])
 go_cut [4,5,11,12] (fun s4 s5 _ _ wx=>∃ g1 g2,s4=.slice (some ⟨g1,0,none⟩) 286 286∧s5=.slice (some ⟨g2,0,none⟩) 30 30∧Own w wx [slc 3 1 (.slice (some ⟨g1,0,none⟩) 286 286) 286 (nums (List.replicate 286 0)),slc 3 1 (.slice (some ⟨g2,0,none⟩) 30 30) 30 (nums (List.replicate 30 0))])
 case first=>
  go_region
  all_goals go_wp2
  all_goals go_meet
  ·have h:=(H.alloc2 (.cells (madeCells #[.int .i64 0] 286) 3) (.cells (madeCells #[.int .i64 0] 30) 3)).drew
   exact ⟨_,_,rfl,rfl,mk _ _ _ _ (by omega) (mk _ _ _ _ (by omega) h).swap⟩
  ·have h:=(H.alloc2 (.cells (madeCells #[.int .i64 0] 30) 3) (.cells (madeCells #[.int .i64 0] 286) 3)).drew
   exact ⟨_,_,rfl,rfl,(mk _ _ _ _ (by omega) (mk _ _ _ _ (by omega) h).swap).swap⟩
 case rest=>
 obtain ⟨g1,g2,rfl,rfl,H⟩:=hcut
 have hst0:(nums (List.replicate 286 0)).set 256 (.int .i64 1)=nums (litN l 0):=by rw [nums_set];rfl
 have HST0:=jd hst0
 clear hst0
 go_wp2_with (refine Ja rfl _ _ rfl rfl H (.int .i64 1) rfl (by kernel_rfl) (by omega) rfl ?_;clear H;intro w2 H;rw [HST0.out] at H)
 go_loopw [17] (fun s17 wx=>∃ k:Nat,s17=.int .i64 k∧k≤N∧Own w wx [slc 3 1 (.slice (some ⟨g1,0,none⟩) 286 286) 286 (nums (litN l k)),slc 3 1 (.slice (some ⟨g2,0,none⟩) 30 30) 30 (nums (distN l k))]) (fun s17 _=>N-(intOf s17).toNat)
 case atStart=>exact ⟨0,by go_num,by omega,H⟩
 case round=>
  clear H
  obtain ⟨k,rfl,hk,H⟩:=hrel
  by_cases hlt:k<N
  ·have hI:(k:Int)<(N:Int):=by omega
   obtain ⟨t,htk⟩:=Ql (l:=l) (k:=k) (by rw [hN.out];exact hlt)
   have hok:=HS.out t (List.mem_of_getElem? htk)
   have hls:=litN_succ htk
   have hds:=distN_succ htk
   obtain ⟨b,o,_,he2,-⟩:=HT.out.some (by rw [Qp tcell tcell_length,hN.out];omega)
   cases he2
   obtain ⟨c0,cc1,cc2⟩:=tok_cells (HT.out.old H) htk
   obtain ⟨x,y,z⟩:=t
   simp only at c0 cc1 cc2 hds
   clear htk
   have HLS:=jd hls
   have HDS:=jd hds
   clear hls hds
   go_upto_region 6 with (refine Qe (vs:=[.int .i64 x,.int .i64 y,.int .i64 z]) rfl _ _ rfl rfl (H.alloc _) rfl (by kernel_rfl) (by simp) (by simp;exact ⟨rfl,rfl,rfl⟩) rfl ?_;clear H;intro w5 H)
   generalize wr.heap.size=tb at *
   have H:Own w w5 (blk tb (.cells #[.int .i64 x,.int .i64 y,.int .i64 z] 306)::slc 3 1 (.slice (some ⟨g1,0,none⟩) 286 286) 286 (nums (litN l k))::slc 3 1 (.slice (some ⟨g2,0,none⟩) 30 30) 30 (nums (distN l k))::[]):=H
   clear c0 cc1 cc2
   have hlen1:=litN_len l k
   have hlen2:=distN_len l k
   have c0:=H.cells
   by_cases hx:x=0
   ·subst hx
    have hz:0≤z∧z<256:=by rcases hok with h | h <;> simp only at h <;> omega
    obtain ⟨s,rfl⟩:∃ s:Nat,z=s:=⟨z.toNat,by omega⟩
    have hb:=litN_bd l k s
    rw [hN.out] at hb
    have c1:=(H.front 1 rfl).getc (Jj (Za (F:=litN l k) (i:=s) (by omega)))
    have hst:=nums_bump (litN l k) s
    have hds2:Hid (distN l (k+1)=distN l k):=jd (by have:=HDS.out;rw [if_pos rfl] at this;exact this)
    have hls2:Hid (litN l (k+1)=bump1 (litN l k) (s:Int)):=jd (by have:=HLS.out;unfold litS at this;rw [if_pos rfl] at this;exact this)
    obtain ⟨v,hv⟩:∃ v,(litN l k).getD s 0=v:=⟨_,rfl⟩
    rw [hv] at hb c1 hst
    have hw:IntKind.i64.wrap (v+1)=v+1:=IntWalk.i64_in _ ⟨by omega,by omega⟩
    have hsI:(s:Int)<286:=by omega
    have HST:=jd hst
    clear hv hst hlen1 hlen2 hok HDS HLS
    go_wp2_with (refine Ja rfl _ _ rfl rfl (H.front 1 rfl) (.int .i64 (v+1)) rfl (by kernel_rfl) (by omega) rfl ?_;clear H c1 c0;intro w6 H;rw [HST.out,← hls2.out] at H)
    go_roundw
    case rel=>exact ⟨k+1,by go_num,by omega,by rw [hds2.out];exact ((H.front 1 rfl).drop)⟩
    case measure=>simp [intOf];omega
   ·have hxb:(x==0)=false:=by simpa using hx
    have hb:3≤x∧x≤258∧1≤y∧y≤32768:=by rcases hok with h | h <;> simp only at h <;> omega
    obtain ⟨p,rfl⟩:∃ p:Nat,x=p:=⟨x.toNat,by omega⟩
    obtain ⟨q,rfl⟩:∃ q:Nat,y=q:=⟨y.toNat,by omega⟩
    have hlb:=lenSym_bd (n:=p) (by omega)
    have hdb:=distSym_bd (n:=q) (by omega)
    have hln:=length_any p (by omega) (by omega)
    have hdn:=dist_any q (by omega) (by omega)
    have hds2:distN l (k+1)=bump1 (distN l k) ((Jk q).1:Int):=by have:=HDS.out;rw [if_neg hx] at this;unfold distS at this;simpa using this
    have hls2:litN l (k+1)=bump1 (litN l k) ((Jy p).1:Int):=by have:=HLS.out;unfold litS at this;rw [if_neg hx] at this;simpa using this
    obtain ⟨l1,l2,l3,hl1⟩:∃ l1 l2 l3,Jy p=(l1,l2,l3):=⟨_,_,_,rfl⟩
    obtain ⟨d1,d2,d3,hd1⟩:∃ d1 d2 d3,Jk q=(d1,d2,d3):=⟨_,_,_,rfl⟩
    rw [hl1] at hlb hln hls2
    rw [hd1] at hdb hdn hds2
    simp only at hlb hdb hln hdn hls2 hds2
    have c1:=(H.front 1 rfl).getc (Jj (Za (F:=litN l k) (i:=l1) (by omega)))
    have c2:=(H.front 2 rfl).getc (Jj (Za (F:=distN l k) (i:=d1) (by omega)))
    have hst:=nums_bump (litN l k) l1
    have hst2:=nums_bump (distN l k) d1
    have hb1:=litN_bd l k l1
    have hb2:=distN_bd l k d1
    rw [hN.out] at hb1 hb2
    rw [← hls2] at hst
    rw [← hds2] at hst2
    have hd29:=hdb.1
    obtain ⟨v,hv⟩:∃ v,(litN l k).getD l1 0=v:=⟨_,rfl⟩
    obtain ⟨u,hu⟩:∃ u,(distN l k).getD d1 0=u:=⟨_,rfl⟩
    rw [hv] at hb1 c1 hst
    rw [hu] at hb2 c2 hst2
    have hw:IntKind.i64.wrap (v+1)=v+1:=IntWalk.i64_in _ ⟨by omega,by omega⟩
    have hw2:IntKind.i64.wrap (u+1)=u+1:=IntWalk.i64_in _ ⟨by omega,by omega⟩
    have hsI:(l1:Int)<286:=by omega
    have hdI:(d1:Int)<30:=by omega
    have HST:=jd hst
    have HST2:=jd hst2
    have LN:=jd hln
    have DN:=jd hdn
    have hl286:l1<286:=by omega
    have hd30:d1<30:=by omega
    have HU:=jd (show (nums (distN l k))[d1]?=some (.int .i64 u) by rw [← hu];exact Jj (Za (by omega)))
    clear hv hu hst hst2 hlen1 hlen2 hok HDS HLS hlb hdb hln hdn hls2 hds2 hl1 hd1
    have CELLS:=jd (fun (w':World) (h:Own w5 w' [])=>And.intro ((h.oldCell (World.block_lt_of_cell? _ _ c1)).trans c1) ((h.oldCell (World.block_lt_of_cell? _ _ c2)).trans c2))
    clear c1 c2
    go_wp2_with fail
    refine (LN.out _).mono ?_
    rintro e w6 ⟨_,rfl,rfl,H6⟩
    obtain ⟨c1,c2⟩:=CELLS.out _ H6
    replace H:=H.join H6
    clear H6 c0
    have H:Own w w6 (blk tb (.cells #[.int .i64 (p:Int),.int .i64 (q:Int),.int .i64 z] 306)::slc 3 1 (.slice (some ⟨g1,0,none⟩) 286 286) 286 (nums (litN l k))::slc 3 1 (.slice (some ⟨g2,0,none⟩) 30 30) 30 (nums (distN l k))::[]):=H
    have c0:=H.cells
    go_wp2_with (refine Ja rfl _ _ rfl rfl (H.front 1 rfl) (.int .i64 (v+1)) rfl (by kernel_rfl) hl286 rfl ?_;clear H c1 c0;intro w7 H;rw [HST.out] at H;replace H:=H.swap;have c0:=H.cells)
    refine (DN.out _).mono ?_
    rintro e w8 ⟨_,rfl,rfl,H6⟩
    replace H:=H.join H6
    clear H6 c0
    have H:Own w w8 (blk tb (.cells #[.int .i64 (p:Int),.int .i64 (q:Int),.int .i64 z] 306)::slc 3 1 (.slice (some ⟨g1,0,none⟩) 286 286) 286 (nums (litN l (k+1)))::slc 3 1 (.slice (some ⟨g2,0,none⟩) 30 30) 30 (nums (distN l k))::[]):=H
    have c2':=(H.front 2 rfl).getc HU.out
    clear c2
    go_wp2_with (refine Ja rfl _ _ rfl rfl (H.front 2 rfl) (.int .i64 (u+1)) rfl (by kernel_rfl) hd30 rfl ?_;clear H c2';intro w9 H;rw [HST2.out] at H)
    go_roundw
    case rel=>exact ⟨k+1,by go_num,by omega,(((H.front 2 rfl).front 2 rfl).drop)⟩
    case measure=>simp [intOf];omega
  ·obtain rfl:k=N:=by omega
   have hI:¬ (k:Int)<(k:Int):=by omega
   have h1:litN l k=litFq l:=by unfold litN;rw [List.take_of_length_le (by rw [hN.out];exact Nat.le_refl _)]
   have h2:distN l k=Vf l:=by unfold distN;rw [List.take_of_length_le (by rw [hN.out];exact Nat.le_refl _)]
   rw [h1,h2] at H
   clear h1 h2
   go_wp2_with fail
   go_ret2
   exact ⟨_,rfl,_,_,rfl,H⟩
end Go.Proofs.YthekdeikodppkaaGreatDoor
