/-
  Texts of this claim, one behind the other: flate; sha; sha; sha; merkle.
-/
import Derived.Test.YthekdeikodppkaaGreatDoorKb13
import Derived.Deep.MidRow
set_option linter.unusedVariables false
namespace Go.Proofs.YthekdeikodppkaaGreatDoor
open Go.RowKit
theorem errF_ok{F:List Int}{L:Int}(hL:1≤L∧L≤15)(hn:F.length≤320)(hF:∀ f∈F,0≤f∧f≤4294967296)(hu:F.length≤2^L.toNat):errF F L=0:=by
 have hb:badArg F L=false:=by
  unfold badArg anyBad
  simp only [Bool.or_eq_false_iff,decide_eq_false_iff_not,List.any_eq_false]
  refine ⟨⟨⟨by omega,by omega⟩,by omega⟩,fun f hf=>?_⟩
  have:=hF f hf
  simp [badF];omega
 unfold errF
 rw [hb]
 have h2:(usedF F).length≤F.length:=usedN_length F F.length
 rw [if_neg (by simp),if_neg (by omega)]
theorem mem_getD{F:List Int}{f:Int}(h:f∈F):∃ j,j<F.length∧F.getD j 0=f:=by
 obtain ⟨j,hj,rfl⟩:=List.getElem_of_mem h
 exact ⟨j,hj,by rw [List.getD_eq_getElem?_getD,List.getElem?_eq_getElem hj];rfl⟩
theorem Vl(l:List Tok):(litFq l).length=286:=by unfold litFq;rw [Jl,List.length_set];exact List.length_replicate
theorem Zu(l:List Tok):(Vf l).length=30:=by unfold Vf;rw [Jl];exact List.length_replicate
theorem Vi(rs:List Run):(runFq rs).length=19:=by unfold runFq;rw [Jl];exact List.length_replicate
theorem litS_ok{t:Tok}(h:TokOk t):∃ s:Nat,litS t=s∧s<286:=by
 unfold litS
 rcases h with h | h
 ·rw [if_pos h.1];exact ⟨t.lit.toNat,by omega,by omega⟩
 ·rw [if_neg (by omega)]
  have:=lenSym_bd (n:=t.len.toNat) (by omega)
  exact ⟨_,rfl,by omega⟩
theorem distS_ok{t:Tok}(h:TokOk t)(h0:t.len≠0):∃ s:Nat,distS t=s∧s<30:=by
 unfold distS
 rcases h with h | h
 ·exact absurd h.1 h0
 ·have:=distSym_bd (n:=t.dist.toNat) (by omega)
  exact ⟨_,rfl,by omega⟩
theorem count_pos{l:List Int}{x:Int}(h:x∈l):1≤l.countP fun y=>decide (y=x):=List.countP_pos_iff.2 ⟨x,h,by simp⟩
theorem lit0_get(j:Nat):((Qm 286).set 256 1).getD j 0=if j=256 then 1 else 0:=by
 rw [List.getD_eq_getElem?_getD,List.getElem?_set]
 by_cases h:j=256
 ·subst h
  rw [if_pos rfl,if_pos rfl,if_pos (by unfold Qm;rw [List.length_replicate];omega)];rfl
 ·rw [if_neg (by omega),if_neg h]
  have:=Vg 286 j
  rwa [List.getD_eq_getElem?_getD] at this
theorem litFq_get{l:List Tok}(hl:∀ t∈l,TokOk t)(j:Nat):(litFq l).getD j 0=(if j=256 then 1 else 0)+((l.map litS).countP fun x=>decide (x=(j:Int)):Nat):=by
 unfold litFq
 rw [Kh,lit0_get]
 intro x hx
 obtain ⟨t,ht,rfl⟩:=List.mem_map.1 hx
 obtain ⟨s,hs,h2⟩:=litS_ok (hl t ht)
 exact ⟨s,hs,by rw [List.length_set];unfold Qm;rw [List.length_replicate];exact h2⟩
theorem distFq_get{l:List Tok}(hl:∀ t∈l,TokOk t)(j:Nat):(Vf l).getD j 0=(((l.filter fun t=>decide (t.len≠0)).map distS).countP fun x=>decide (x=(j:Int)):Nat):=by
 unfold Vf
 rw [Kh,Vg,Int.zero_add]
 intro x hx
 obtain ⟨t,ht,rfl⟩:=List.mem_map.1 hx
 obtain ⟨h1,h2⟩:=List.mem_filter.1 ht
 obtain ⟨s,hs,h3⟩:=distS_ok (hl t h1) (by simpa using h2)
 exact ⟨s,hs,by unfold Qm;rw [List.length_replicate];exact h3⟩
theorem litFq_bd{l:List Tok}(hl:∀ t∈l,TokOk t)(hn:l.length≤1000000):∀ f∈litFq l,0≤f∧f≤4294967296:=fun f hf=>by
 obtain ⟨j,_,rfl⟩:=mem_getD hf
 rw [litFq_get hl]
 have:=List.countP_le_length (p:=fun x:Int=>decide (x=(j:Int))) (l:=l.map litS)
 rw [List.length_map] at this
 split <;> omega
theorem distFq_bd{l:List Tok}(hl:∀ t∈l,TokOk t)(hn:l.length≤1000000):∀ f∈Vf l,0≤f∧f≤4294967296:=fun f hf=>by
 obtain ⟨j,_,rfl⟩:=mem_getD hf
 rw [distFq_get hl]
 have:=List.countP_le_length (p:=fun x:Int=>decide (x=(j:Int))) (l:=(l.filter fun t=>decide (t.len≠0)).map distS)
 have h2:=List.length_filter_le (fun t:Tok=>decide (t.len≠0)) l
 rw [List.length_map] at this
 omega
theorem trimK_le'(l:List Int)(least:Nat):∀ k,trimK l least k≤k:=by
 intro k
 induction k with
 | zero=>exact Nat.le_refl _
 | succ k ih=>
  rw [trimK]
  split
  ·omega
  ·exact Nat.le_refl _
theorem trimK_ge(l:List Int)(least:Nat):∀ k,least≤k→least≤trimK l least k:=by
 intro k
 induction k with
 | zero=>intro h;exact h
 | succ k ih=>
  intro h
  rw [trimK]
  split
  ·next h2=>exact ih (by omega)
  ·exact h
theorem trimK_zero(l:List Int)(least:Nat):∀ k j,trimK l least k≤j→j<k→l.getD j 0=0:=by
 intro k
 induction k with
 | zero=>intro j _ h;omega
 | succ k ih=>
  intro j h1 h2
  rw [trimK] at h1
  split at h1
  ·next h3=>
   rcases Nat.lt_or_ge j k with h4 | h4
   ·exact ih j h1 h4
   ·have:j=k:=by omega
    subst this;exact h3.2
  ·omega
theorem Kb(l:List Int)(least:Nat):(trimF l least).length=trimK l least l.length:=by
 unfold trimF
 rw [List.length_take]
 have:=trimK_le' l least l.length
 omega
theorem trimF_getD(l:List Int)(least j:Nat):(trimF l least).getD j 0=l.getD j 0:=by
 unfold trimF
 rw [List.getD_eq_getElem?_getD,List.getElem?_take]
 split
 ·rw [List.getD_eq_getElem?_getD]
 ·next h=>
  rcases Nat.lt_or_ge j l.length with h2 | h2
  ·rw [trimK_zero l least l.length j (by omega) h2];rfl
  ·rw [List.getD_eq_getElem?_getD,List.getElem?_eq_none h2]
theorem trimF_zeros(l:List Int)(least:Nat):l=trimF l least++List.replicate (l.length-(trimF l least).length) 0:=by
 have hk:=trimK_le' l least l.length
 have hl:=Kb l least
 apply List.ext_getElem?
 intro j
 rw [List.getElem?_append]
 split
 ·next h=>
  unfold trimF
  rw [List.getElem?_take,if_pos (by rw [← hl];exact h)]
 ·next h=>
  rw [List.getElem?_replicate]
  rcases Nat.lt_or_ge j l.length with h2 | h2
  ·rw [if_pos (by omega),List.getElem?_eq_getElem h2]
   have:=trimK_zero l least l.length j (by omega) h2
   rw [List.getD_eq_getElem?_getD,List.getElem?_eq_getElem h2] at this
   simpa using this
  ·rw [if_neg (by omega),List.getElem?_eq_none h2]
theorem trimF_mem{l:List Int}{least:Nat}{x:Int}(h:x∈trimF l least):x∈l:=List.mem_of_mem_take h
theorem sum_zeros(f:Int→Int)(h:f 0=0)(n:Nat):sumF f (List.replicate n 0)=0:=by
 induction n with
 | zero=>rfl
 | succ n ih=>rw [List.replicate_succ,Je,ih,h];rfl
theorem trimF_weight(l:List Int)(least:Nat):sumF wtF (trimF l least)=sumF wtF l:=by
 conv=>rhs;rw [trimF_zeros l least,sumF_append,sum_zeros wtF (by unfold wtF;rw [if_neg (by omega)])]
 omega
theorem trimF_used(l:List Int)(least:Nat):(usedF (trimF l least)).length=(usedF l).length:=by
 have h:∀ F:List Int,(usedF F).length=F.countP fun x=>decide (0<x):=fun F=>by
  unfold usedF;rw [used_count F _ (Nat.le_refl _),List.take_length]
 rw [h,h]
 conv=>rhs;rw [trimF_zeros l least,List.countP_append]
 rw [List.countP_replicate]
 simp
theorem trimF_may{l:List Int}(h:mayF l=true)(least:Nat):mayF (trimF l least)=true:=by
 have h1:=mayF_len h
 have h2:=Kb l least
 have h3:=trimK_le' l least l.length
 unfold mayF
 rw [decide_eq_true (by omega),Bool.true_and,List.all_eq_true]
 intro x hx
 have:=h1.2 x (trimF_mem hx)
 simp [okLen];omega
theorem trimF_terr{l:List Int}(h:terrF l=0)(least:Nat):terrF (trimF l least)=0:=by
 have hm:mayF l=true:=by
  unfold terrF at h
  by_cases hm:mayF l=true
  ·exact hm
  ·rw [if_neg hm] at h;omega
 unfold terrF at h ⊢
 rw [if_pos hm] at h
 rw [if_pos (trimF_may hm least),trimF_weight,trimF_used]
 exact h
theorem trimF_cerr{l:List Int}(h:cerrF l=0)(least:Nat):cerrF (trimF l least)=0:=by
 have h1:=cerr_ok h
 have hm:mayF l=true:=by
  unfold cerrF at h
  by_cases hm:mayF l=true
  ·exact hm
  ·rw [if_neg hm] at h;omega
 unfold cerrF
 rw [if_pos (trimF_may hm least),trimF_weight,if_pos h1.2.2]
theorem lit_ok{l:List Tok}(hl:∀ t∈l,TokOk t)(hn:l.length≤1000000):LenOk (litFq l) 15 (resF (litFq l) 15):=
 len_ok (errF_ok (by omega) (by rw [Vl];omega) (litFq_bd hl hn) (by rw [Vl];decide))
theorem dist_ok{l:List Tok}(hl:∀ t∈l,TokOk t)(hn:l.length≤1000000):LenOk (Vf l) 15 (resF (Vf l) 15):=
 len_ok (errF_ok (by omega) (by rw [Zu];omega) (distFq_bd hl hn) (by rw [Zu];decide))
structure Made (L:List Int) (lo hi:Nat):Prop where
 lo:lo≤L.length
 hi:L.length≤hi
 all:∀ x∈L,0≤x∧x≤15
 cerr:cerrF L=0
 terr:terrF L=0
theorem Made.wt{L:List Int}{lo hi:Nat}(h:Made L lo hi):sumF wtF L≤2^15:=(cerr_ok h.cerr).2.2
theorem made_trim{F:List Int}{lo hi:Nat}{lim:Int}(h:LenOk F lim (resF F lim))(hF:F.length=hi)(hlo:lo≤hi):Made (trimF (resF F lim) lo) lo hi:=by
 have hc:=h.cod
 have hlen:=h.len
 refine ⟨?_,?_,fun x hx=>h.all x (trimF_mem hx),trimF_cerr hc.1 lo,trimF_terr hc.2.1 lo⟩
 ·rw [Kb];exact trimK_ge _ _ _ (by omega)
 ·rw [Kb];have:=trimK_le' (resF F lim) lo (resF F lim).length;omega
theorem richL_made{l:List Tok}(hl:∀ t∈l,TokOk t)(hn:l.length≤1000000):Made (richL l) 257 286:=made_trim (lit_ok hl hn) (Vl l) (by omega)
theorem richD_made{l:List Tok}(hl:∀ t∈l,TokOk t)(hn:l.length≤1000000):Made (richD l) 1 30:=made_trim (dist_ok hl hn) (Zu l) (by omega)
theorem pos_lt{L:List Int}{s:Nat}(h:0<L.getD s 0):s<L.length:=by
 rcases Nat.lt_or_ge s L.length with h1 | h1
 ·exact h1
 ·rw [List.getD_eq_getElem?_getD,List.getElem?_eq_none h1] at h;simp at h
theorem richL_pos{l:List Tok}(hl:∀ t∈l,TokOk t)(hn:l.length≤1000000){s:Nat}(hs:s<286)(hp:0<(litFq l).getD s 0):0<(richL l).getD s 0:=by
 unfold richL
 rw [trimF_getD]
 have:=(lit_ok hl hn).get s (by rw [Vl];exact hs)
 omega
theorem richL_lit{l:List Tok}(hl:∀ t∈l,TokOk t)(hn:l.length≤1000000){t:Tok}(ht:t∈l):0<(richL l).getD (litS t).toNat 0:=by
 obtain ⟨s,hs,h2⟩:=litS_ok (hl t ht)
 rw [hs,Int.toNat_natCast]
 refine richL_pos hl hn h2 ?_
 rw [litFq_get hl]
 have:=count_pos (List.mem_map.2 ⟨t,ht,hs⟩)
 split <;> omega
theorem richD_dist{l:List Tok}(hl:∀ t∈l,TokOk t)(hn:l.length≤1000000){t:Tok}(ht:t∈l)(h0:t.len≠0):0<(richD l).getD (distS t).toNat 0:=by
 obtain ⟨s,hs,h2⟩:=distS_ok (hl t ht) h0
 rw [hs,Int.toNat_natCast]
 unfold richD
 rw [trimF_getD]
 have h1:=(dist_ok hl hn).get s (by rw [Zu];exact h2)
 have h3:0<(Vf l).getD s 0:=by
  rw [distFq_get hl]
  have:=count_pos (l:=(l.filter fun t=>decide (t.len≠0)).map distS) (x:=(s:Int)) (List.mem_map.2 ⟨t,List.mem_filter.2 ⟨ht,decide_eq_true h0⟩,hs⟩)
  omega
 omega
def SymOk'(L D:List Int)(t:Tok):Prop:=TokOk t∧(t.len=0→t.lit.toNat<L.length)∧(t.len≠0→(Jy t.len.toNat).1<L.length∧(Jk t.dist.toNat).1<D.length)
theorem rich_sym{l:List Tok}(hl:∀ t∈l,TokOk t)(hn:l.length≤1000000){t:Tok}(ht:t∈l):SymOk' (richL l) (richD l) t:=by
 refine ⟨hl t ht,fun h0=>?_,fun h0=>?_⟩
 ·have:=pos_lt (richL_lit hl hn ht)
  unfold litS at this
  rw [if_pos h0] at this
  exact this
 ·have h1:=pos_lt (richL_lit hl hn ht)
  have h2:=pos_lt (richD_dist hl hn ht h0)
  unfold litS at h1
  unfold distS at h2
  rw [if_neg h0] at h1
  exact ⟨by simpa using h1,by simpa using h2⟩
structure RunOk (r:Run):Prop where
 sym:0≤r.sym∧r.sym<19
 n:0≤r.n∧r.n≤7
 v:0≤r.v∧r.v<2^r.n.toNat
theorem runs_ok:∀ (f:Nat) (l:List Int),(∀ x∈l,0≤x∧x≤15)→∀ r∈runsN f l,RunOk r:=by
 intro f
 induction f with
 | zero=>intro l _ r h;simp [runsN] at h
 | succ f ih=>
  intro l hl r h
  cases l with
  | nil=>simp [runsN] at h
  | cons x t=>
   have hx:=hl x (by simp)
   have ht:∀ y∈t,0≤y∧y≤15:=fun y hy=>hl y (by simp [hy])
   have hd:∀ j,∀ y∈(x::t).drop j,0≤y∧y≤15:=fun j y hy=>hl y (List.mem_of_mem_drop hy)
   have h128:(2:Int)^(7:Int).toNat=128:=rfl
   have h8:(2:Int)^(3:Int).toNat=8:=rfl
   have h4:(2:Int)^(2:Int).toNat=4:=rfl
   have h1:(2:Int)^(0:Int).toNat=1:=rfl
   rw [runsN] at h
   split at h
   ·next hc=>
    rcases List.mem_cons.1 h with rfl | h
    ·exact ⟨by simp,by simp,by simp only;rw [h128];omega⟩
    ·exact ih _ (hd _) r h
   ·next hc1=>
    split at h
    ·next hc=>
     have hle:sameK x t+1≤10:=by
      rcases Nat.lt_or_ge 10 (sameK x t+1) with h9 | h9
      ·exact absurd ⟨hc.1,h9⟩ hc1
      ·exact h9
     rcases List.mem_cons.1 h with rfl | h
     ·exact ⟨by simp,by simp,by simp only;rw [h8];omega⟩
     ·exact ih _ (hd _) r h
    ·split at h
     ·next hc=>
      rcases List.mem_cons.1 h with rfl | h
      ·exact ⟨by simp only;omega,by simp,by simp only;rw [h1];omega⟩
      ·rcases List.mem_cons.1 h with rfl | h
       ·exact ⟨by simp,by simp,by simp only;rw [h4];omega⟩
       ·exact ih _ (hd _) r h
     ·rcases List.mem_cons.1 h with rfl | h
      ·exact ⟨by simp only;omega,by simp,by simp only;rw [h1];omega⟩
      ·exact ih _ ht r h
theorem runs_len:∀ (f:Nat) (l:List Int),(runsN f l).length≤2*f:=by
 intro f
 induction f with
 | zero=>intro l;simp [runsN]
 | succ f ih=>
  intro l
  cases l with
  | nil=>simp [runsN]
  | cons x t=>
   rw [runsN]
   split
   ·have:=ih ((x::t).drop (min (sameK x t+1) 138));simp only [List.length_cons];omega
   ·split
    ·have:=ih ((x::t).drop (sameK x t+1));simp only [List.length_cons];omega
    ·split
     ·have:=ih ((x::t).drop (min (sameK x t+1) 7));simp only [List.length_cons];omega
     ·have:=ih t;simp only [List.length_cons];omega
theorem richR_ok{l:List Tok}(hl:∀ t∈l,TokOk t)(hn:l.length≤1000000):∀ r∈richR l,RunOk r:=by
 have h1:=richL_made hl hn
 have h2:=richD_made hl hn
 exact runs_ok _ _ fun x hx=>by
  rcases List.mem_append.1 hx with h | h
  ·exact h1.all x h
  ·exact h2.all x h
theorem richR_len{l:List Tok}(hl:∀ t∈l,TokOk t)(hn:l.length≤1000000):(richR l).length≤632:=by
 have h1:=(richL_made hl hn).hi
 have h2:=(richD_made hl hn).hi
 have:=runs_len (richL l++richD l).length (richL l++richD l)
 rw [lJ] at this
 unfold richR runsF
 rw [lJ]
 omega
theorem runFq_get{rs:List Run}(hr:∀ r∈rs,RunOk r)(j:Nat):(runFq rs).getD j 0=((rs.map Run.sym).countP fun x=>decide (x=(j:Int)):Nat):=by
 unfold runFq
 rw [Kh,Vg,Int.zero_add]
 intro x hx
 obtain ⟨r,h1,rfl⟩:=List.mem_map.1 hx
 have:=(hr r h1).sym
 exact ⟨r.sym.toNat,by omega,by unfold Qm;rw [List.length_replicate];omega⟩
theorem run_ok{rs:List Run}(hr:∀ r∈rs,RunOk r)(hn:rs.length≤1000000):LenOk (runFq rs) 7 (resF (runFq rs) 7):=by
 refine len_ok (errF_ok (by omega) (by rw [Vi];omega) (fun f hf=>?_) (by rw [Vi];decide))
 obtain ⟨j,_,rfl⟩:=mem_getD hf
 rw [runFq_get hr]
 have:=List.countP_le_length (p:=fun x:Int=>decide (x=(j:Int))) (l:=rs.map Run.sym)
 rw [List.length_map] at this
 omega
theorem runL_len{rs:List Run}(hr:∀ r∈rs,RunOk r)(hn:rs.length≤1000000):(runL rs).length=19:=by
 rw [← Vi rs];exact (run_ok hr hn).len
theorem runL_made{rs:List Run}(hr:∀ r∈rs,RunOk r)(hn:rs.length≤1000000):Made (runL rs) 19 19:=by
 have h:=run_ok hr hn
 have hc:=h.cod
 have hl:=runL_len hr hn
 exact ⟨by omega,by omega,h.all,hc.1,hc.2.1⟩
theorem runL_7{rs:List Run}(hr:∀ r∈rs,RunOk r)(hn:rs.length≤1000000)(j:Nat):0≤(runL rs).getD j 0∧(runL rs).getD j 0≤7:=by
 rcases Nat.lt_or_ge j 19 with h | h
 ·have:=(run_ok hr hn).get j (by rw [Vi];exact h)
  unfold runL
  omega
 ·rw [List.getD_eq_getElem?_getD,List.getElem?_eq_none (by rw [runL_len hr hn];exact h)];simp
theorem runL_pos{rs:List Run}(hr:∀ r∈rs,RunOk r)(hn:rs.length≤1000000){r:Run}(h:r∈rs):0<(runL rs).getD r.sym.toNat 0:=by
 have h1:=(run_ok hr hn).get r.sym.toNat (by rw [Vi];have:=(hr r h).sym;omega)
 have h3:0<(runFq rs).getD r.sym.toNat 0:=by
  rw [runFq_get hr]
  have:=count_pos (l:=rs.map Run.sym) (x:=(r.sym.toNat:Int)) (List.mem_map.2 ⟨r,h,by have:=(hr r h).sym;omega⟩)
  omega
 unfold runL
 omega
theorem sorted_len(ls:List Int):4≤(sortedF ls).length∧(sortedF ls).length≤19:=by
 unfold sortedF
 rw [Kb]
 have h1:=trimK_ge (ordF.map fun s=>ls.getD s 0) 4 (ordF.map fun s=>ls.getD s 0).length (by rw [List.length_map];decide)
 have h2:=trimK_le' (ordF.map fun s=>ls.getD s 0) 4 (ordF.map fun s=>ls.getD s 0).length
 rw [List.length_map] at h1 h2 ⊢
 exact ⟨h1,h2⟩
theorem sorted_7{rs:List Run}(hr:∀ r∈rs,RunOk r)(hn:rs.length≤1000000):∀ x∈sortedF (runL rs),0≤x∧x≤7:=fun x hx=>by
 obtain ⟨s,_,rfl⟩:=List.mem_map.1 (trimF_mem hx)
 exact runL_7 hr hn s
def HshG(g:Nat)(h left:List Int)(n:Nat):Piece:=
 ex fun v:Value=>star (blk g (.cells (wds h++[v,Value.int .i64 n]).toArray 241)) (slc 5 1 v left.length (left.map (Value.int .u8)))
def Hsh(g:Nat)(t:List Int):Piece:=HshG g (feedF sh0 t).1 (feedF sh0 t).2 t.length
section
variable {w0 w:World} {ps:List Piece} {g n:Nat} {h left:List Int}
theorem Own.hsh(H:Own w0 w (HshG g h left n::ps)):∃ a c,left.length≤c∧c≤9223372036854775807∧Own w0 w (blk g (.cells (wds h++[Value.slice a left.length c,Value.int .i64 n]).toArray 241)::slc 5 1 (.slice a left.length c) left.length (left.map (Value.int .u8))::ps):=by
 obtain ⟨v,H⟩:=H.ex
 have H:=H.star
 obtain ⟨a,c,rfl,h1,h2⟩:=(H.front 1 rfl).rd.shape
 exact ⟨a,c,h1,h2,H⟩
theorem Own.unhsh{a:Value}(H:Own w0 w (blk g (.cells (wds h++[a,Value.int .i64 n]).toArray 241)::slc 5 1 a left.length (left.map (Value.int .u8))::ps)):Own w0 w (HshG g h left n::ps):=Own.unex a (Own.unstar H)
end
theorem bn_bc(s:ByteArray):byteCells s=(bn s).map (Value.int .u8):=by simp [byteCells,bn]
theorem hsh_cell8{h:List Int}(hl:h.length=8)(v u:Value):(wds h++[v,u]).toArray[8]?=some v∧(wds h++[v,u]).toArray[9]?=some u:=by
 rw [eight hl];exact ⟨rfl,rfl⟩
theorem hsh_set8{h:List Int}(hl:h.length=8)(v u x:Value):(wds h++[v,u]).toArray.setIfInBounds 8 x=(wds h++[x,u]).toArray:=by
 rw [eight hl];rfl
theorem hsh_set9{h:List Int}(hl:h.length=8)(v u x:Value):(wds h++[v,u]).toArray.setIfInBounds 9 x=(wds h++[v,x]).toArray:=by
 rw [eight hl];rfl
theorem hsh_set0{h d:List Int}(hl:h.length=8)(hd:d.length=8)(v u:Value):((wds h++[v,u]).toArray.toList.take 0++wds d++(wds h++[v,u]).toArray.toList.drop (0+(wds d).length)).toArray=(wds d++[v,u]).toArray:=by
 rw [eight hl,eight hd];rfl
theorem hsh_size{h:List Int}(hl:h.length=8)(v u:Value):(wds h++[v,u]).toArray.size=10:=by
 rw [eight hl];rfl
theorem hsh_load{w0 w:World}{ps:List Piece}{g:Nat}{h:List Int}{v u:Value}(hl:h.length=8)(H:Own w0 w (blk g (.cells (wds h++[v,u]).toArray 241)::ps)) :
 (Instr.loadAt 239 (.pointer (some ⟨g,0,none⟩))).run Tryz.prog w=.ok (.agg (wds h).toArray) w:=by
 refine run_loadAt_mid w g 0 239 (wds h) _ (fun j x hx=>?_) Tryz.underlying239 rfl (by rw [Qi,hl];kernel_rfl)
 rw [Nat.zero_add,H.cells,List.getElem?_toArray,List.getElem?_append_left (by exact (gJ hx).1)]
 exact hx
theorem shnew_any(w:World):Calls Tryz.prog 90 #[] w (Ret fun v w'=>∃ g,v=.pointer (some ⟨g,0,none⟩)∧Own w w' (Hsh g []::[])):=by
 have H:=(Own.start w).alloc (.cells #[.int .u32 1779033703,.int .u32 3144134277,.int .u32 1013904242,.int .u32 2773480762,.int .u32 1359893119,.int .u32 2600822924,.int .u32 528734635,.int .u32 1541459225,.slice none 0 0,.int .i64 0] 241)
 go_enter Tryz.func90,Tryz.ntmps90
 go_wp2
 go_ret
 refine ⟨_,rfl,_,rfl,?_⟩
 have h2:=((H.nil 5 1).swap)
 unfold Hsh
 rw [feed_less (by decide)]
 exact Own.unhsh (h:=sh0) (left:=[]) (n:=0) (a:=.slice none 0 0) h2
set_option maxRecDepth 100000 in
set_option maxHeartbeats 6400000 in
theorem shwrite_any{w0 w:World}{ps:List Piece}{g n:Nat}{h left:List Int}(s:ByteArray)(hh:h.length=8)(H0:Own w0 w (HshG g h left n::ps))(hn:n+s.size≤1000000000000)(hl64:left.length<64) :
 Calls Tryz.prog 91 #[.pointer (some ⟨g,0,none⟩),.string s] w (Ret fun _ w'=>Own w0 w' (HshG g (feedF h (left++bn s)).1 (feedF h (left++bn s)).2 (n+s.size)::ps)):=by
 obtain ⟨a,c,hc1,hc2,H⟩:=H0.hsh
 clear H0
 obtain ⟨N,hN⟩:∃ N,Hid (left.length=N):=⟨_,rfl⟩
 rw [hN.out] at hc1 hl64 H
 obtain ⟨L,hL⟩:∃ L,Hid (left++bn s=L):=⟨_,rfl⟩
 have hLl:Hid (L.length=N+s.size):=jd (by rw [← hL.out,lJ,Qu,hN.out])
 have hLm:Hid (left.map (Value.int .u8)++byteCells s=L.map (Value.int .u8)):=jd (by rw [← hL.out,List.map_append,bn_bc])
 have HC8:=jd (hsh_cell8 hh)
 have h8:=(HC8.out (.slice a N c) (.int .i64 n)).1
 have h9:=(HC8.out (.slice a N c) (.int .i64 n)).2
 have hsz:=jd (hsh_size hh)
 obtain ⟨M,hM⟩:∃ M,Hid (n+s.size=M):=⟨_,rfl⟩
 have hnw:IntKind.i64.wrap ((n:Int)+(s.size:Int))=(M:Int):=by rw [IntWalk.i64_in _ ⟨by omega,by omega⟩,← hM.out];omega
 rw [hL.out,hM.out]
 obtain ⟨F1,F2,hF⟩:∃ F1 F2,Hid (feedF h L=(F1,F2)):=⟨_,_,rfl⟩
 rw [hF.out]
 dsimp only
 go_enter Tryz.func91,Tryz.ntmps91
 have c0:=H.cells
 go_upto_region 2 with (refine Qh rfl _ _ rfl rfl H rfl (by kernel_rfl) (by rw [hsz.out];decide) ?_;clear H c0;intro w1 H;rw [hsh_set9 hh] at H)
 clear hnw h8 h9
 have h8:=(HC8.out (.slice a N c) (.int .i64 M)).1
 have c0:=H.cells
 go_upto_block 0 with (first
  | (at_builtin;refine wpList_append_str rfl _ _ rfl Tryz.underlying58 Tryz.underlying9 Vw rfl rfl H.swap rfl (by omega) ?_;clear H c0 h8;intro v' w' H;replace H:=H.swap;obtain ⟨a',c',rfl,h1',h2'⟩:=(H.front 1 rfl).rd.shape)
  | (refine Jd rfl _ _ rfl rfl H rfl (by kernel_rfl) (by rw [hsz.out];decide) ?_;clear H;intro w2 H;rw [hsh_set8 hh,hLm.out] at H))
 obtain ⟨K,hK⟩:∃ K,Hid (N+s.size=K):=⟨_,rfl⟩
 rw [hK.out] at H h1' hLl
 have hK9:K≤1000000000064:=by have:=hK.out;omega
 clear hc1 hc2 hN hK hL hLm hl64 hn
 simp only [Act.put]
 go_wp2_with fail
 go_loopw [] (fun wx=>∃ (h3 L3:List Int) (a3:Option Addr) (c3 m:Nat),h3.length=8∧Hid (feedF h3 L3=(F1,F2))∧L3.length=m∧m≤c3∧c3≤9223372036854775807∧m≤1000000000064∧Own w0 wx (blk g (.cells (wds h3++[Value.slice a3 m c3,Value.int .i64 M]).toArray 241)::sld 5 1 (.slice a3 m c3) m (L3.map (Value.int .u8))::ps)) (fun wx=>Jr ((wx.cell? ⟨g,8,none⟩).getD undef))
 case atStart=>exact ⟨h,L,_,_,K,hh,hF,hLl.out,h1',h2',hK9,(sld_of_slc H.swap).swap⟩
 case round=>
  clear H hF hLl hh HC8 hsz hK9
  obtain ⟨h3,L3,a3,c3,m,hh,hF,hm,h1,h2,hm9,H⟩:=hrel
  have HC8:=jd (hsh_cell8 hh)
  have hsz:=jd (hsh_size hh)
  have h8:=(HC8.out (.slice a3 m c3) (.int .i64 M)).1
  have hm0:Hid (Jr ((wr.cell? ⟨g,8,none⟩).getD undef)=m):=jd (by rw [H.cells,h8];rfl)
  have c0:=H.cells
  by_cases hlt:64≤m
  ·obtain ⟨B,hB⟩:∃ B,Hid (L3.take 64=B):=⟨_,rfl⟩
   obtain ⟨R,hR⟩:∃ R,Hid (L3.drop 64=R):=⟨_,rfl⟩
   obtain ⟨h4,hh4⟩:∃ x,Hid (mixF h3 B=x):=⟨_,rfl⟩
   have hBl:Hid (B.length=64):=jd (by rw [← hB.out,List.length_take];omega)
   have hRl:Hid (R.length=m-64):=jd (by rw [← hR.out,List.length_drop];omega)
   have hl4:h4.length=8:=by rw [← hh4.out];exact mix_length hh _
   rw [feed_more (by omega),hB.out,hR.out,hh4.out] at hF
   have HMx:Hid (∀ w1,Own w0 w1 (blk g (.cells (wds h3++[Value.slice a3 m c3,Value.int .i64 M]).toArray 241)::sld 5 1 (.slice a3 m c3) m (L3.map (Value.int .u8))::ps)→Calls Tryz.prog 139 #[.agg (wds h3).toArray,.slice a3 64 c3] w1 (fun r w'=>r=.returned (.agg (wds h4).toArray)∧Own w0 w' (blk g (.cells (wds h3++[Value.slice a3 m c3,Value.int .i64 M]).toArray 241)::sld 5 1 (.slice a3 m c3) m (L3.map (Value.int .u8))::ps))):=jd fun w1 h1=>by
    have hr:=(h1.front 1 rfl).drd.take hlt
    rw [Nat.mul_one,← List.map_take,hB.out] at hr
    rw [← hh4.out]
    exact (shmix_any hh hBl.out hr).mono fun e w2 g2=>⟨g2.1,h1.join g2.2⟩
   have hltI:(64:Int)≤(m:Int):=by omega
   have hc64:64≤c3:=by omega
   have hc64I:(64:Int)≤(c3:Int):=by omega
   obtain ⟨tv,htv⟩:∃ v,Hid (sliced a3 64 m c3 1=v):=⟨_,rfl⟩
   have hsl:∀ w,(Instr.sliceAt 58 (.slice a3 m c3) (some (.int .i64 64)) none none).run Tryz.prog w=.ok tv w:=fun w=>slc_low (k:=64) (by kernel_rfl) (fun _=>by kernel_rfl) hlt htv.out w
   obtain ⟨ta,tc,rfl⟩:∃ ta tc,tv=.slice ta (m-64) tc:=⟨_,_,htv.out.symm⟩
   have htc:m-64≤tc∧tc≤9223372036854775807:=by
    obtain ⟨a9,c9,e9,k1,k2⟩:=((H.front 1 rfl).dcut hlt htv.out).drd.shape
    cases e9;exact ⟨k1,k2⟩
   go_upto_region 4 with (fail)
   clear c0
   refine Qa (fun w1=>Own w0 w1 (blk g (.cells (wds h3++[Value.slice a3 m c3,Value.int .i64 M]).toArray 241)::sld 5 1 (.slice a3 m c3) m (L3.map (Value.int .u8))::ps)) 13 (by kernel_rfl) (by kernel_rfl) H.drew ?_
   simp only [List.take_succ_cons,List.take_zero,List.drop_succ_cons,List.drop_zero]
   repeat
    first
    | (refine calm_value (v:=?_) (by decide) rfl (fun σ w1 hS=>?_) ?_
       rotate_left
       ·have c0:=hS.cells
        first | (go_simp;rfl) | rfl
       simp only [Act.put,putC])
    | (refine calm_skip (by decide) rfl ?_
       simp only [Act.put,putC])
   refine calm_value (v:=.agg (wds h3).toArray) (by decide) rfl (fun σ w1 hS=>exec_load rfl rfl (hsh_load hh hS)) ?_
   simp only [Act.put,putC]
   repeat
    first
    | (refine calm_value (v:=?_) (by decide) rfl (fun σ w1 hS=>?_) ?_
       rotate_left
       ·have c0:=hS.cells
        first | (go_simp;rfl) | rfl
       simp only [Act.put,putC])
    | (refine calm_skip (by decide) rfl ?_
       simp only [Act.put,putC])
   refine calm_call (v:=.agg (wds h4).toArray) (by decide) rfl (fun w1=>(by go_simp)) (fun σ w1 hS=>HMx.out w1 hS) ?_
   simp only [Act.put,putC]
   repeat
    first
    | (refine calm_value (v:=?_) (by decide) rfl (fun σ w1 hS=>?_) ?_
       rotate_left
       ·have c0:=hS.cells
        first | (go_simp;rfl) | rfl
       simp only [Act.put,putC])
    | (refine calm_skip (by decide) rfl ?_
       simp only [Act.put,putC])
   refine calm_nil ?_
   intro wd HD
   clear H HMx
   go_upto_region 5 with (refine Qe rfl _ _ rfl rfl HD rfl (by rw [Qi,hl4];kernel_rfl) (by rw [hsz.out,Qi,hl4];decide) (wds_one _) (hsh_set0 hh hl4 _ _) ?_;clear HD;intro w3 HD)
   have HC8':=jd (hsh_cell8 hl4)
   have hsz':=jd (hsh_size hl4)
   have h8':=(HC8'.out (.slice a3 m c3) (.int .i64 M)).1
   have c0:=HD.cells
   simp only [Act.put]
   have hmr:Hid (Jr ((wr.cell? ⟨g,8,none⟩).getD undef)=m):=hm0
   go_wp2_with (refine Jd rfl _ _ rfl rfl HD rfl (by kernel_rfl) (by rw [hsz'.out];decide) ?_;clear c0;intro w5 H5;rw [hsh_set8 hl4] at H5)
   have H6:=((H5.swap).dcut hlt htv.out).swap
   rw [Nat.mul_one,← List.map_drop,hR.out] at H6
   trace_state
   simp only [Act.put]
   go_roundw
   case rel=>exact ⟨h4,R,ta,tc,m-64,hl4,hF,hRl.out,htc.1,htc.2,by omega,H6⟩
   case measure=>
    rw [hmr.out,H6.cells,(HC8'.out (.slice ta (m-64) tc) (.int .i64 M)).1]
    show m-64<m
    omega
  ·have hltI:¬ (64:Int)≤(m:Int):=by omega
   rw [feed_less (by omega)] at hF
   obtain ⟨e1,e2⟩:=Prod.mk.inj hF.out
   subst e1;subst e2
   subst hm
   have c0:=H.cells
   go_wp2_with (first
    | (at_builtin;refine Qn rfl _ _ rfl Tryz.underlying58 Vw rfl (by decide) rfl (H.nil 5 1) (H.front 1 rfl).drd (by simp [Value.oneCell']) (by omega) (by omega) ?_;clear c0;intro v' w' H4;obtain ⟨a',c',rfl,g1,g2⟩:=H4.rd.shape)
    | (refine Jd rfl _ _ rfl rfl (H4.front 1 rfl) rfl (by kernel_rfl) (by rw [hsz.out];decide) ?_;clear H4;intro w5 H4;rw [hsh_set8 hh] at H4))
   go_end0
   rw [Nat.zero_add] at H4
   exact ⟨_,rfl,Own.unhsh (a:=.slice a' L3.length c') (H4.front 2 rfl).drop⟩
theorem Own.headRd{w0 w:World}{ps:List Piece}{p:Piece}{e:TypeId}{size n:Nat}{v:Value}{xs:List Value}(H:Own w0 w (p::slc e size v n xs::ps)):Rd w size v n xs:=(H.front 1 rfl).rd
def bts(l:List Int):List Value:=l.map (Value.int .u8)
theorem Qx(l:List Int):(bts l).length=l.length:=List.length_map _
theorem bts_one(l:List Int):∀ u∈bts l,u.oneCell'=true:=by
 intro u hu
 obtain ⟨x,-,rfl⟩:=List.mem_map.1 hu
 rfl
theorem Zv(a b:List Int):bts (a++b)=bts a++bts b:=List.map_append
theorem hsh_old{w0 w:World}{ps:List Piece}{g n c:Nat}{h left:List Int}{a:Option Addr}(hh:h.length=8)(H:Own w0 w (blk g (.cells (wds h++[Value.slice a left.length c,Value.int .i64 n]).toArray 241)::slc 5 1 (.slice a left.length c) left.length (left.map (Value.int .u8))::ps)) :
 ∀ w' qs,Own w w' qs→w'.cell? ⟨g,8,none⟩=some (.slice a left.length c)∧w'.cell? ⟨g,9,none⟩=some (.int .i64 n)∧Rd w' 1 (.slice a left.length c) left.length (bts left)∧(Instr.loadAt 239 (.pointer (some ⟨g,0,none⟩))).run Tryz.prog w'=.ok (.agg (wds h).toArray) w':=fun w' qs h2=>by
 have h3:=H.join h2
 obtain ⟨b1,-⟩:=H.block
 have hlt:g<w.heap.size:=(Array.getElem?_eq_some_iff.1 b1).1
 have c0:∀ i,w'.cell? ⟨g,i,none⟩=(wds h++[Value.slice a left.length c,Value.int .i64 n]).toArray[i]?:=fun i=>by rw [h2.oldCell hlt,H.cells]
 refine ⟨by rw [c0,(hsh_cell8 hh _ _).1],by rw [c0,(hsh_cell8 hh _ _).2],H.headRd.old h2,?_⟩
 refine run_loadAt_mid w' g 0 239 (wds h) _ (fun j x hx=>?_) Tryz.underlying239 rfl (by rw [Qi,hh];kernel_rfl)
 rw [Nat.zero_add,c0,List.getElem?_toArray,List.getElem?_append_left (by exact (gJ hx).1)]
 exact hx
set_option maxRecDepth 100000 in
set_option maxHeartbeats 6400000 in
theorem shsum_any{w0 w:World}{ps:List Piece}{g n:Nat}{h left:List Int}(hh:h.length=8)(H0:Own w0 w (HshG g h left n::ps))(hn:n≤1000000000000)(hl64:left.length<64) :
 Calls Tryz.prog 93 #[.pointer (some ⟨g,0,none⟩)] w (fun e w'=>e=.returned (.string (strOfNums (shOutF (allF h (tailF left n)) 8)))∧Own w w' []):=by
 obtain ⟨RES,hRES⟩:∃ s,Hid (strOfNums (shOutF (allF h (tailF left n)) 8)=s):=⟨_,rfl⟩
 rw [hRES.out]
 obtain ⟨a,c,hc1,hc2,H⟩:=H0.hsh
 have HX:=jd (hsh_old hh H)
 clear H0 H
 obtain ⟨N,hN⟩:∃ N,Hid (left.length=N):=⟨_,rfl⟩
 rw [hN.out] at HX hc1 hl64
 have H:=Own.start w
 have hnI:(n:Int)≤1000000000000:=by omega
 go_enter Tryz.func93,Tryz.ntmps93
 obtain ⟨c8,c9,hrd,hld⟩:=HX.out _ _ H
 clear hld
 go_upto_block 0 with (first
  | (at_builtin;refine Qn rfl _ _ rfl Tryz.underlying58 Vw rfl (by decide) rfl (H.nil 5 1) hrd (bts_one _) (by omega) (by omega) ?_;clear H c8 c9 hrd;intro v1 w1 H;rw [Nat.zero_add,List.nil_append] at H;obtain ⟨a1,c1,rfl,g1,g2⟩:=H.rd.shape)
  | (at_builtin;refine Qf (news:=bts [128]) rfl _ _ rfl Tryz.underlying58 Vw rfl (by decide) rfl H rfl rfl rfl (bts_one _) (by omega) (by omega) ?_;clear H g1 g2;intro v2 w2 H))
 rw [← Zv] at H
 obtain ⟨L,hL⟩:∃ L:List Int,Hid (left++[128]=L):=⟨left++[128],rfl⟩
 obtain ⟨Z,hZ⟩:∃ Z,Hid (shZerosF (N+1)=Z):=⟨_,rfl⟩
 have hZ2:(N+1+Z)%64=56∧Z≤63∧∀ k,k<Z→(N+1+k)%64≠56:=by have:=hZ.out;unfold shZerosF at this;refine ⟨by omega,by omega,fun k hk=>by omega⟩
 obtain ⟨hZ3,hZ4,hZ5⟩:=hZ2
 replace hZ5:=jd hZ5
 rw [hL.out] at H
 go_wp2_with fail
 go_loopw [3] (fun v3 wx=>∃ k m:Nat,k≤Z∧Hid (m=N+1+k)∧m≤130∧Own w wx (slc 5 1 v3 m (bts (L++List.replicate k 0))::[])) (fun v3 _=>200-Jr v3)
 case atStart=>exact ⟨0,N+1,by omega,jd rfl,by omega,by simpa using H⟩
 case round=>
  clear H
  obtain ⟨k,m,hk,hm,hm9,H⟩:=hrel
  obtain ⟨a3,c3,rfl,g1,g2⟩:=H.rd.shape
  have htm:(m:Int).tmod 64=((m%64:Nat):Int):=by rw [Int.tmod_eq_emod_of_nonneg (by omega)];omega
  by_cases hkZ:k<Z
  ·have hne:(((m%64:Nat):Int)==56)=false:=by
    have:=hZ5.out k hkZ
    rw [← hm.out] at this
    simp;omega
   obtain ⟨q,hq⟩:∃ q,Hid (m%64=q):=⟨_,rfl⟩
   rw [hq.out] at htm hne
   have hne2:((q:Int) != 56)=true:=by simp only [bne,hne];rfl
   go_wp2_with (at_builtin;refine Qf (news:=bts [0]) rfl _ _ rfl Tryz.underlying58 Vw rfl (by decide) rfl H rfl rfl rfl (bts_one _) (by omega) (by omega) ?_;clear H g1 g2;intro v2 w2 H)
   rw [← Zv,List.append_assoc,show List.replicate k (0:Int)++[0]=List.replicate (k+1) 0 from by rw [List.replicate_succ']] at H
   obtain ⟨a4,c4,rfl,g1,g2⟩:=H.rd.shape
   go_roundw
   case rel=>exact ⟨k+1,m+1,by omega,jd (by have:=hm.out;omega),by have:=hm.out;omega,H⟩
   case measure=>simp [Jr];omega
  ·obtain rfl:k=Z:=by omega
   have hm56:m%64=56:=by rw [hm.out];exact hZ3
   rw [hm56] at htm
   go_upto_region 7 with (fail)
   clear hZ5 hk hkZ htm hm56
   obtain ⟨T,hT⟩:∃ T:List Int,Hid (L++List.replicate k 0=T):=⟨L++List.replicate k 0,rfl⟩
   have hTT:Hid (tailF left n=T++lenF n 8):=jd (by rw [tailF,hL.out,hN.out,hZ.out,hT.out])
   rw [hT.out] at H
   have hTl:Hid (T.length=m):=jd (by have:=H.slc_len;rw [Qx] at this;omega)
   go_wp2_with fail
   go_loopw [3,4,26] (fun v3 _ v26 wx=>∃ i:Nat,v26=.int .i64 i∧i≤8∧Own w wx (slc 5 1 v3 (m+i) (bts (T++lenF n i))::[])) (fun _ _ v26 _=>8-(intOf v26).toNat)
   case atStart=>exact ⟨0,by go_num,by omega,by simpa [lenF] using H⟩
   case round=>
    clear H g1 g2
    obtain ⟨i,rfl,hi,H⟩:=hrel
    obtain ⟨a5,c5,rfl,g1,g2⟩:=H.rd.shape
    by_cases hi8:i<8
    ·obtain ⟨q,hq⟩:∃ q,Hid (56-8*i=q):=⟨_,rfl⟩
     obtain ⟨y,hy⟩:∃ y,Hid (lenByte n i=y):=⟨_,rfl⟩
     have hy2:IntKind.u8.wrap ((n:Int)*8/2^q)=y:=by rw [← hy.out,lenByte,hq.out]
     have e1:IntKind.i64.wrap (8*(i:Int))=8*(i:Int):=IntWalk.i64_in _ ⟨by omega,by omega⟩
     have e2:IntKind.i64.wrap (56-8*(i:Int))=(q:Int):=by rw [IntWalk.i64_in _ ⟨by omega,by omega⟩];have:=hq.out;omega
     have e3:IntKind.i64.wrap ((n:Int)*8)=(n:Int)*8:=IntWalk.i64_in _ ⟨by omega,by omega⟩
     have e4:(q:Int)<64:=by have:=hq.out;omega
     have e5:¬ (q:Int)<0:=by omega
     have hiI:(i:Int)<8:=by omega
     have hstep:Hid (lenF n (i+1)=lenF n i++[y]):=jd (by rw [lenF,hy.out])
     obtain ⟨c8,c9,-⟩:=HX.out _ _ H
     go_wp2_with (at_builtin;refine Qf (news:=bts [y]) rfl _ _ rfl Tryz.underlying58 Vw rfl (by decide) rfl H rfl rfl rfl (bts_one _) (by omega) (by omega) ?_;clear H g1 g2 c8 c9;intro v2 w2 H)
     rw [← Zv,List.append_assoc,← hstep.out] at H
     obtain ⟨a4,c4,rfl,g1,g2⟩:=H.rd.shape
     go_roundw
     case rel=>exact ⟨i+1,by go_num,by omega,H⟩
     case measure=>simp [intOf];omega
    ·obtain rfl:i=8:=by omega
     have hnI8:¬ ((8:Nat):Int)<8:=by omega
     rw [← hTT.out] at H
     obtain ⟨D,hD⟩:∃ D,Hid (tailF left n=D):=⟨_,rfl⟩
     have hDl:Hid (D.length=m+8):=jd (by rw [← hD.out,hTT.out,lJ,hTl.out,lenF_length])
     have hD64:Hid (D.length%64=0):=jd (by rw [← hD.out];exact tail_64 _ _)
     rw [hD.out] at H hRES
     clear hi hi8 hTT hT hTl hD hZ hZ3 hZ4 hL hN
     go_upto_region 12 with (fail)
     obtain ⟨-,-,-,hld⟩:=HX.out _ _ H
     go_upto_block 4 with (first
      | (refine wpList_load_by rfl _ rfl rfl hld ?_)
      | (refine wpList_store8 rfl _ _ rfl rfl z8_length hh (H.alloc (.cells #[.int .u32 0,.int .u32 0,.int .u32 0,.int .u32 0,.int .u32 0,.int .u32 0,.int .u32 0,.int .u32 0] 239)) rfl ?_;clear H hld;intro w3 H))
     simp only [Act.put]
     generalize wr.heap.size=gv at *
     obtain ⟨AL,hAL⟩:∃ A,Hid (allF h D=A):=⟨_,rfl⟩
     rw [hAL.out] at hRES
     have hALl:Hid (AL.length=8):=jd (by rw [← hAL.out];exact all_length _ _ _ (Nat.le_refl _) hh)
     replace H:=(sld_of_slc H.swap).swap
     have hm200:m+8≤200:=by omega
     clear hm9 hm g1 g2
     go_wp2_with fail
     go_loopw [3] (fun v3 wx=>∃ (vv D3:List Int) (m3:Nat),vv.length=8∧Hid (allF vv D3=AL)∧Hid (D3.length%64=0)∧D3.length=m3∧m3≤200∧Own w wx (blk gv (.cells (wds vv).toArray 239)::sld 5 1 v3 m3 (bts D3)::[])) (fun v3 _=>Jr v3)
     case atStart=>exact ⟨h,D,m+8,hh,hAL,hD64,hDl.out,hm200,H⟩
     case round=>
      clear H hAL hD64 hDl hm200
      obtain ⟨vv,D3,m3,hvv,hAL,hD64,hDl,hm200,H⟩:=hrel
      obtain ⟨a5,c5,rfl,g1,g2⟩:=(H.front 1 rfl).drd.shape
      by_cases h0:0<m3
      ·have h64:64≤m3:=by have:=hD64.out;omega
       obtain ⟨B,hB⟩:∃ B,Hid (D3.take 64=B):=⟨_,rfl⟩
       obtain ⟨R,hR⟩:∃ R,Hid (D3.drop 64=R):=⟨_,rfl⟩
       obtain ⟨v4,hh4⟩:∃ x,Hid (mixF vv B=x):=⟨_,rfl⟩
       have hBl:Hid (B.length=64):=jd (by rw [← hB.out,List.length_take];omega)
       have hRl:Hid (R.length=m3-64):=jd (by rw [← hR.out,List.length_drop];omega)
       have hRm:Hid (R.length%64=0):=jd (by have:=hD64.out;rw [hRl.out];omega)
       have hl4:v4.length=8:=by rw [← hh4.out];exact mix_length hvv _
       rw [all_more (by omega),hB.out,hR.out,hh4.out] at hAL
       have hld:Hid (∀ w',Own w w' (blk gv (.cells (wds vv).toArray 239)::sld 5 1 (.slice a5 m3 c5) m3 (bts D3)::[])→(Instr.loadAt 239 (.pointer (some ⟨gv,0,none⟩))).run Tryz.prog w'=.ok (.agg (wds vv).toArray) w'):=jd fun w' h=>by
        refine run_loadAt_mid w' gv 0 239 (wds vv) _ (fun j x hx=>?_) Tryz.underlying239 rfl (by rw [Qi,hvv];kernel_rfl)
        rw [Nat.zero_add,h.cells,List.getElem?_toArray]
        exact hx
       have HMx:Hid (∀ w1,Own w w1 (blk gv (.cells (wds vv).toArray 239)::sld 5 1 (.slice a5 m3 c5) m3 (bts D3)::[])→Calls Tryz.prog 139 #[.agg (wds vv).toArray,.slice a5 64 c5] w1 (fun r w'=>r=.returned (.agg (wds v4).toArray)∧Own w w' (blk gv (.cells (wds vv).toArray 239)::sld 5 1 (.slice a5 m3 c5) m3 (bts D3)::[]))):=jd fun w1 h1=>by
        have hr:=(h1.front 1 rfl).drd.take h64
        rw [Nat.mul_one,bts,← List.map_take,hB.out] at hr
        rw [← hh4.out]
        exact (shmix_any hvv hBl.out hr).mono fun e w2 g2=>⟨g2.1,h1.join g2.2⟩
       have h0I:(0:Int)<(m3:Int):=by omega
       have hc64:64≤c5:=by omega
       have hc64I:(64:Int)≤(c5:Int):=by omega
       obtain ⟨tv,htv⟩:∃ v,Hid (sliced a5 64 m3 c5 1=v):=⟨_,rfl⟩
       have hsl:∀ w,(Instr.sliceAt 58 (.slice a5 m3 c5) (some (.int .i64 64)) none none).run Tryz.prog w=.ok tv w:=fun w=>slc_low (k:=64) (by kernel_rfl) (fun _=>by kernel_rfl) h64 htv.out w
       obtain ⟨ta,tc,rfl⟩:∃ ta tc,tv=.slice ta (m3-64) tc:=⟨_,_,htv.out.symm⟩
       go_upto_region 15 with (fail)
       refine Qa (fun w1=>Own w w1 (blk gv (.cells (wds vv).toArray 239)::sld 5 1 (.slice a5 m3 c5) m3 (bts D3)::[])) 4 (by kernel_rfl) (by kernel_rfl) H.drew ?_
       simp only [List.take_succ_cons,List.take_zero,List.drop_succ_cons,List.drop_zero]
       refine calm_value (v:=.agg (wds vv).toArray) (by decide) rfl (fun σ w1 hS=>exec_load rfl rfl (hld.out w1 hS)) ?_
       simp only [Act.put,putC]
       repeat
        first
        | (refine calm_value (v:=?_) (by decide) rfl (fun σ w1 hS=>?_) ?_
           rotate_left
           ·skip
            first | (go_simp;rfl) | rfl
           simp only [Act.put,putC])
        | (refine calm_skip (by decide) rfl ?_
           simp only [Act.put,putC])
       refine calm_call (v:=.agg (wds v4).toArray) (by decide) rfl (fun w1=>(by go_simp)) (fun σ w1 hS=>HMx.out w1 hS) ?_
       simp only [Act.put,putC]
       refine calm_nil ?_
       intro wd HD
       clear H HMx hld
       refine wpList_store8 rfl _ _ rfl rfl hvv hl4 HD rfl ?_
       clear HD
       intro w5 H5
       simp only [Act.put]
       refine wpList_nil ?_
       have H6:=((H5.swap).dcut h64 htv.out).swap
       rw [Nat.mul_one,bts,← List.map_drop,hR.out] at H6
       go_wp2_with fail
       go_roundw
       case rel=>exact ⟨v4,R,m3-64,hl4,hAL,hRm,hRl.out,by omega,H6⟩
       case measure=>simp [Jr];omega
      ·obtain rfl:m3=0:=by omega
       obtain rfl:D3=[]:=eJ hDl
       rw [all_nil rfl] at hAL
       obtain rfl:vv=AL:=hAL.out
       clear hAL hD64 hDl hm200 hALl g1 g2 h0
       have h00:¬ (0:Int)<((0:Nat):Int):=by omega
       have hld:(Instr.loadAt 239 (.pointer (some ⟨gv,0,none⟩))).run Tryz.prog wr=.ok (.agg (wds vv).toArray) wr:=by
        refine run_loadAt_mid wr gv 0 239 (wds vv) _ (fun j x hx=>?_) Tryz.underlying239 rfl (by rw [Qi,hvv];kernel_rfl)
        rw [Nat.zero_add,H.cells,List.getElem?_toArray]
        exact hx
       go_upto_block 6 with (refine wpList_load_by rfl _ rfl rfl hld ?_)
       clear hld
       replace H:Own w wr (slc 5 1 (.slice none 0 0) (4*0) (bts (shOutF vv 0))::[]):=H.bare.nil 5 1
       go_wp2_with fail
       go_loopw [6,8,57] (fun v6 _ v57 wx=>∃ j:Nat,v57=.int .i64 j∧j≤8∧Own w wx (slc 5 1 v6 (4*j) (bts (shOutF vv j))::[])) (fun _ _ v57 _=>8-(intOf v57).toNat)
       case atStart=>exact ⟨0,by go_num,by omega,H⟩
       case round=>
        clear H
        obtain ⟨j,rfl,hj,H⟩:=hrel
        obtain ⟨a6,c6,rfl,g1,g2⟩:=H.rd.shape
        by_cases hj8:j<8
        ·have hjI:(j:Int)<8:=by omega
         obtain ⟨x,hx⟩:∃ x,Hid (vv.getD j 0=x):=⟨_,rfl⟩
         have hix:∀ w,(Instr.index 239 (.agg (wds vv).toArray) (.int .i64 j)).run Tryz.prog w=.ok (.int .u32 x) w:=fun w=>run_index_wds _ _ 8 _ j _ w Tryz.underlying239 (fun w=>(u32_one w).1) (fun w=>(u32_one w).2) hj8 (by rw [← hx.out];exact Vu (by omega))
         have hnx:Hid (shOutF vv (j+1)=shOutF vv j++bytes4 x):=jd (by rw [shOutF,hx.out])
         go_wp2_with (at_builtin;refine wpList_append_new (news:=bts (bytes4 x)) (m:=4) rfl _ _ rfl Tryz.underlying58 Vw rfl (by decide) rfl H rfl rfl (by decide) rfl (bts_one _) (by omega) (by omega) ?_;clear H g1 g2;intro v2 w2 H)
         rw [← Zv,← hnx.out] at H
         obtain ⟨a4,c4,rfl,g1,g2⟩:=H.rd.shape
         go_roundw
         case rel=>exact ⟨j+1,by go_num,by omega,H⟩
         case measure=>simp [intOf];omega
        ·obtain rfl:j=8:=by omega
         have hnJ8:¬ ((8:Nat):Int)<8:=by omega
         have hs:=Js (P:=Tryz.prog) 58 9 Tryz.underlying58 Tryz.underlying5 Tryz.underlying9 H.rd
         rw [hRES.out] at hs
         go_wp2
         go_ret
         exact ⟨rfl,H.bare⟩
theorem shwriteT{w0 w:World}{ps:List Piece}{g:Nat}{t:List Int}(s:ByteArray)(H:Own w0 w (Hsh g t::ps))(hb:t.length+s.size≤1000000000000) :
 Calls Tryz.prog 91 #[.pointer (some ⟨g,0,none⟩),.string s] w (Ret fun _ w'=>Own w0 w' (Hsh g (t++bn s)::ps)):=by
 obtain ⟨h1,h2⟩:=feed_ok _ sh0 t (Nat.le_refl _) rfl
 refine (shwrite_any s h1 H hb h2).mono ?_
 rintro e w' ⟨v,hv,h⟩
 rw [feed_append _ _ _ _ (Nat.le_refl _)] at h
 refine ⟨v,hv,?_⟩
 unfold Hsh
 rw [lJ,Qu]
 exact h
theorem shsumT{w0 w:World}{ps:List Piece}{g:Nat}{t:List Int}(H:Own w0 w (Hsh g t::ps))(hb:t.length≤1000000000000) :
 Calls Tryz.prog 93 #[.pointer (some ⟨g,0,none⟩)] w (fun e w'=>e=.returned (.string (shaF t))∧Own w w' []):=by
 obtain ⟨h1,h2⟩:=feed_ok _ sh0 t (Nat.le_refl _) rfl
 exact shsum_any h1 H hb h2
def bns(l:List ByteArray):List Int:=l.flatMap bn
theorem bns_take{l:List ByteArray}{i:Nat}{s:ByteArray}(h:l[i]?=some s):bns (l.take (i+1))=bns (l.take i)++bn s:=by
 rw [List.take_add_one,h]
 simp [bns]
theorem bns_le(l:List ByteArray)(i:Nat):(bns (l.take i)).length≤(bns l).length:=by
 have h:bns l=bns (l.take i)++bns (l.drop i):=by rw [bns,bns,bns,← List.flatMap_append,List.take_append_drop]
 rw [h,lJ]
 omega
set_option maxHeartbeats 1600000 in
theorem shsums_any{w:World}{v:Value}{n:Nat}{l:List ByteArray}(hr:Rd w 1 v n (txs l))(hb:(bns l).length≤1000000000000) :
 Calls Tryz.prog 63 #[v] w (fun e w'=>e=.returned (.string (shaF (bns l)))∧Own w w' []):=by
 obtain ⟨a,c,rfl,hc1,hc2⟩:=hr.shape
 have hl:l.length=n:=by have:=hr.len;rw [Qr] at this;omega
 obtain ⟨RES,hRES⟩:∃ s,Hid (shaF (bns l)=s):=⟨_,rfl⟩
 rw [hRES.out]
 have H:=Own.start w
 go_enter Tryz.func63,Tryz.ntmps63
 go_wp2_with fail
 refine (shnew_any w).mono ?_
 rintro e w1 ⟨_,rfl,g,rfl,H1⟩
 clear H
 go_wp2_with fail
 go_loopw [5,9] (fun _ v9 wx=>∃ i:Nat,v9=.int .i64 i∧i≤n∧Own w wx (Hsh g (bns (l.take i))::[])) (fun _ v9 _=>n-(intOf v9).toNat)
 case atStart=>exact ⟨0,by go_num,by omega,by simpa [bns] using H1⟩
 case round=>
  clear H1
  obtain ⟨i,rfl,hi,H⟩:=hrel
  by_cases hin:i<n
  ·have hiI:(i:Int)<(n:Int):=by omega
   obtain ⟨s,hs⟩:=Ql (l:=l) (k:=i) (by omega)
   obtain ⟨b,o,c',e⟩:=Rd.some hr (by rw [Qr];omega)
   obtain ⟨e,-,-⟩:=e
   cases e
   have hcell:=(hr.old H).cell (Kp hs)
   have hw:=shwriteT s H (by
    have h1:=bns_le l (i+1)
    rw [bns_take hs,lJ,Qu] at h1
    omega)
   rw [← bns_take hs] at hw
   replace hw:=jd hw
   replace hs:=jd hs
   go_wp2_with fail
   refine hw.out.mono ?_
   rintro e w2 ⟨_,rfl,H2⟩
   clear H hw hcell
   go_wp2_with fail
   go_roundw
   case rel=>exact ⟨i+1,by go_num,by omega,H2⟩
   case measure=>simp [intOf];omega
  ·obtain rfl:i=n:=by omega
   rw [List.take_of_length_le (by omega)] at H
   have hS:=jd (shsumT H hb)
   rw [hRES.out] at hS
   go_wp2_with fail
   refine hS.out.mono ?_
   rintro e w2 ⟨rfl,H2⟩
   go_wp2
   go_ret
   exact ⟨rfl,(H.join H2).bare⟩
theorem mkwidth_any(w:World):Calls Tryz.prog 30 #[.int .i64 32] w (fun e w'=>e=.returned (.int .i64 32)∧w'=w):=by
 go_enter Tryz.func30,Tryz.ntmps30
 go_wp2
 go_ret
 exact ⟨rfl,rfl⟩
set_option maxHeartbeats 800000 in
theorem mksum_any{w:World}{v:Value}{n:Nat}{l:List ByteArray}(hr:Rd w 1 v n (txs l))(hb:(bns l).length≤1000000000000) :
 Calls Tryz.prog 31 #[.int .i64 32,v] w (fun e w'=>e=.returned (.string (shaF (bns l)))∧Own w w' []):=by
 have hS:=jd (shsums_any hr hb)
 have hsz:(shaF (bns l)).size=32:=Vh _
 obtain ⟨R,hR⟩:∃ s,Hid (shaF (bns l)=s):=⟨_,rfl⟩
 rw [hR.out] at hS hsz ⊢
 have hW:=jd mkwidth_any
 have hex:R.extract 0 32=R:=by rw [← hsz,ByteArray.extract_zero_size]
 clear hr hb hR
 go_enter Tryz.func31,Tryz.ntmps31
 go_wp2_with fail
 refine hS.out.mono ?_
 rintro e w1 ⟨rfl,H1⟩
 go_wp2_with fail
 refine (hW.out _).mono ?_
 rintro e w2 ⟨rfl,rfl⟩
 have hszI:(32:Int)≤(R.size:Int):=by omega
 go_wp2
 go_ret
 exact ⟨rfl,H1⟩
def leafF(s:ByteArray):ByteArray:=shaF (0::bn s)
def nodeF(a b:ByteArray):ByteArray:=shaF (1::(bn a++bn b))
theorem leaf_size(s:ByteArray):(leafF s).size=32:=Vh _
theorem Vk(a b:ByteArray):(nodeF a b).size=32:=Vh _
def mt0:ByteArray:=⟨#[0]⟩
def mt1:ByteArray:=⟨#[1]⟩
theorem bns_leaf(s:ByteArray):bns [mt0,s]=0::bn s:=by simp [bns,mt0,bn]
theorem bns_node(a b:ByteArray):bns [mt1,a,b]=1::(bn a++bn b):=by simp [bns,mt1,bn]
set_option maxHeartbeats 800000 in
theorem mkleaf_any(s:ByteArray)(hs:s.size≤100000000000)(w:World) :
 Calls Tryz.prog 9 #[.int .i64 32,.string s] w (fun e w'=>e=.returned (.string (leafF s))∧Own w w' []):=by
 have H:=(Own.start w).made [.string mt0,.string s] 9 1 2 rfl (by decide)
 have hr:=H.rd
 have hS:=jd (mksum_any (l:=[mt0,s]) hr (by rw [bns_leaf,List.length_cons,Qu];omega))
 rw [bns_leaf] at hS
 rw [show shaF (0::bn s)=leafF s from rfl] at hS
 obtain ⟨R,hR⟩:∃ r,Hid (leafF s=r):=⟨_,rfl⟩
 rw [hR.out] at hS ⊢
 clear hr
 go_enter Tryz.func9,Tryz.ntmps9
 go_wp2_with fail
 refine hS.out.mono ?_
 rintro e w1 ⟨rfl,H1⟩
 go_wp2
 go_ret
 exact ⟨rfl,(H.join H1).bare⟩
set_option maxHeartbeats 800000 in
theorem mknode_any(a b:ByteArray)(ha:a.size≤100000000000)(hb:b.size≤100000000000)(w:World) :
 Calls Tryz.prog 32 #[.int .i64 32,.string a,.string b] w (fun e w'=>e=.returned (.string (nodeF a b))∧Own w w' []):=by
 have H:=(Own.start w).made [.string mt1,.string a,.string b] 9 1 3 rfl (by decide)
 have hr:=H.rd
 have hS:=jd (mksum_any (l:=[mt1,a,b]) hr (by rw [bns_node,List.length_cons,lJ,Qu,Qu];omega))
 rw [bns_node,show shaF (1::(bn a++bn b))=nodeF a b from rfl] at hS
 obtain ⟨R,hR⟩:∃ r,Hid (nodeF a b=r):=⟨_,rfl⟩
 rw [hR.out] at hS ⊢
 clear hr
 go_enter Tryz.func32,Tryz.ntmps32
 go_wp2_with fail
 refine hS.out.mono ?_
 rintro e w1 ⟨rfl,H1⟩
 go_wp2
 go_ret
 exact ⟨rfl,(H.join H1).bare⟩
set_option maxHeartbeats 800000 in
theorem Kf(n:Nat)(hn:n≤1000000000000)(w:World) :
 Calls Tryz.prog 64 #[.int .i64 n] w (fun e w'=>e=.returned (.int .i64 (cutN n:Nat))∧w'=w):=by
 obtain ⟨C,hC⟩:∃ c,Hid (cutN n=c):=⟨_,rfl⟩
 rw [hC.out]
 go_enter Tryz.func64,Tryz.ntmps64
 go_wp2_with fail
 go_loopw [3] (fun v3 wx=>wx=w∧∃ j k:Nat,Hid (k=2^j)∧v3=.int .i64 k∧1≤k∧k≤1000000000000∧Hid (j=0∨k<n)) (fun v3 _=>n-(intOf v3).toNat)
 case atStart=>exact ⟨rfl,0,1,jd rfl,by go_num,by omega,by omega,jd (.inl rfl)⟩
 case round=>
  obtain ⟨rfl,j,k,hkj,rfl,hk1,hk2,hjn⟩:=hrel
  have e1:IntKind.i64.wrap ((n:Int)-(k:Int))=(n:Int)-(k:Int):=IntWalk.i64_in _ ⟨by omega,by omega⟩
  by_cases hlt:k<n-k
  ·have hltI:(k:Int)<(n:Int)-(k:Int):=by omega
   have e2:IntKind.i64.wrap ((k:Int)*2)=((k*2:Nat):Int):=by rw [IntWalk.i64_in _ ⟨by omega,by omega⟩];omega
   go_wp2_with fail
   go_roundw
   case rel=>exact ⟨(by first | rfl | trivial),j+1,k*2,jd (by rw [hkj.out,Nat.pow_succ]),rfl,by omega,by omega,jd (.inr (by omega))⟩
   case measure=>simp [intOf];omega
  ·have hltI:¬ (k:Int)<(n:Int)-(k:Int):=by omega
   have hck:k=C:=by
    rw [← hC.out]
    rcases hjn.out with h | h
    ·have h1:k=1:=by rw [hkj.out,h]
     rw [cutN_le2 (by omega),h1]
    ·rw [cutN_is (i:=j) (by rw [← hkj.out];exact h) (by rw [← hkj.out];omega),hkj.out]
   subst hck
   go_wp2
   go_ret
   exact ⟨rfl,rfl⟩
def noneF(s:ByteArray):ByteArray:=shaF (bn s)
abbrev mroot(l:List ByteArray):ByteArray:=rootF noneF nodeF l
theorem root_size:∀ (d:Nat) (l:List ByteArray),l.length≤d→(∀ s∈l,s.size≤1000000)→(mroot l).size≤1000000:=by
 intro d
 induction d with
 | zero=>
  intro l hl hs
  obtain rfl:=eJ (Nat.le_zero.1 hl)
  rw [mroot,rootF_nil,noneF,Vh];omega
 | succ d ih=>
  intro l hl hs
  by_cases h2:2≤l.length
  ·rw [mroot,Zs h2,Vk];omega
  ·match l,h2 with
   | [],_=>rw [mroot,rootF_nil,noneF,Vh];omega
   | [x],_=>rw [mroot,Vj];exact hs x (by simp)
   | x::y::r,h2=>simp at h2
set_option maxRecDepth 100000 in
set_option maxHeartbeats 3200000 in
theorem mkroot_any:∀ (d:Nat) (w:World) (v:Value) (n:Nat) (l:List ByteArray),n≤d→n≤1000000000000→Rd w 1 v n (txs l)→(∀ s∈l,s.size≤1000000) →
 Calls Tryz.prog 33 #[.int .i64 32,v] w (fun e w'=>e=.returned (.string (mroot l))∧Own w w' []):=by
 intro d
 induction d with
 | zero=>
  intro w v n l hd h9 hr hs
  obtain ⟨a,c,rfl,hc1,hc2⟩:=hr.shape
  have hl:l.length=n:=by have:=hr.len;rw [Qr] at this;omega
  obtain rfl:n=0:=by omega
  obtain rfl:=eJ hl
  have hS:=jd (mksum_any (l:=[]) (Rd.nil w 1) (by simp [bns]))
  rw [show shaF (bns [])=mroot [] by rw [mroot,rootF_nil];rfl] at hS
  obtain ⟨R,hR⟩:∃ r,Hid (mroot []=r):=⟨_,rfl⟩
  rw [hR.out] at hS ⊢
  go_enter Tryz.func33,Tryz.ntmps33
  go_wp2_with fail
  refine hS.out.mono ?_
  rintro e w1 ⟨rfl,H1⟩
  go_wp2
  go_ret
  exact ⟨rfl,H1⟩
 | succ d ih=>
  intro w v n l hd h9 hr hs
  obtain ⟨a,c,rfl,hc1,hc2⟩:=hr.shape
  have hl:l.length=n:=by have:=hr.len;rw [Qr] at this;omega
  by_cases h0:n=0
  ·exact ih w _ n l (by omega) h9 hr hs
  ·by_cases h1:n=1
   ·subst h1
    obtain ⟨x,rfl⟩:∃ x,l=[x]:=by
     match l,hl with
     | [x],_=>exact ⟨x,rfl⟩
    obtain ⟨b,o,c',e,-⟩:=Rd.some hr (by simp [txs])
    cases e
    have hcell:=Rd.cell hr (j:=0) (u:=.string x) (by simp [txs])
    have c0:w.cell? ⟨b,o,none⟩=some (.string x):=hcell
    rw [mroot,Vj]
    go_enter Tryz.func33,Tryz.ntmps33
    go_wp2
    go_ret
    exact ⟨rfl,Own.start w⟩
   ·have h2:2≤n:=by omega
    obtain ⟨k,hk⟩:∃ k,Hid (cutN n=k):=⟨_,rfl⟩
    have hbd:=Jo n h2
    rw [hk.out] at hbd
    obtain ⟨k1,k2,k3⟩:=hbd
    have hC:=jd (Kf n h9)
    rw [hk.out] at hC
    obtain ⟨A,hA⟩:∃ r,Hid (mroot (l.take k)=r):=⟨_,rfl⟩
    obtain ⟨B,hB⟩:∃ r,Hid (mroot (l.drop k)=r):=⟨_,rfl⟩
    have hsA:A.size≤1000000:=by rw [← hA.out];exact root_size _ _ (Nat.le_refl _) fun s h=>hs s (List.mem_of_mem_take h)
    have hsB:B.size≤1000000:=by rw [← hB.out];exact root_size _ _ (Nat.le_refl _) fun s h=>hs s (List.mem_of_mem_drop h)
    have hN:=jd (mknode_any A B (by omega) (by omega))
    have hroot:mroot l=nodeF A B:=by rw [mroot,Zs (by omega),hl,hk.out,← hA.out,← hB.out]
    obtain ⟨R,hR⟩:∃ r,Hid (nodeF A B=r):=⟨_,rfl⟩
    rw [hroot,hR.out]
    rw [hR.out] at hN
    obtain ⟨tv,htv⟩:∃ v,Hid (sliced a k n c 1=v):=⟨_,rfl⟩
    have hsl:∀ w,(Instr.sliceAt 26 (.slice a n c) (some (.int .i64 k)) none none).run Tryz.prog w=.ok tv w:=fun w=>slc_low (by kernel_rfl) (fun _=>by kernel_rfl) (by omega) htv.out w
    have HA:Hid (∀ w',Own w w' []→Calls Tryz.prog 33 #[.int .i64 32,.slice a k c] w' (fun e w2=>e=.returned (.string A)∧Own w w2 [])):=jd fun w' h=>by
     have hr2:=(hr.old h).take (k:=k) (by omega)
     rw [Nat.mul_one,txs,← List.map_take] at hr2
     have:=ih w' _ k (l.take k) (by omega) (by omega) hr2 fun s h=>hs s (List.mem_of_mem_take h)
     rw [hA.out] at this
     exact this.mono fun e w2 g=>⟨g.1,h.join g.2⟩
    have HB:Hid (∀ w',Own w w' []→Calls Tryz.prog 33 #[.int .i64 32,tv] w' (fun e w2=>e=.returned (.string B)∧Own w w2 [])):=jd fun w' h=>by
     have hr2:=(hr.old h).cutOf (k:=k) (m:=n) (by omega) (Nat.le_refl _)
     rw [htv.out,Nat.mul_one,Nat.mul_one,txs,List.take_of_length_le (by rw [List.length_map];omega),← List.map_drop] at hr2
     have:=ih w' _ (n-k) (l.drop k) (by omega) (by omega) hr2 fun s h=>hs s (List.mem_of_mem_drop h)
     rw [hB.out] at this
     exact this.mono fun e w2 g=>⟨g.1,h.join g.2⟩
    have HN:Hid (∀ w',Own w w' []→Calls Tryz.prog 32 #[.int .i64 32,.string A,.string B] w' (fun e w2=>e=.returned (.string R)∧Own w w2 [])):=jd fun w' h=>(hN.out w').mono fun e w2 g=>⟨g.1,h.join g.2⟩
    have H:=Own.start w
    have hkc:k≤c:=by omega
    have hkcI:(k:Int)≤(c:Int):=by omega
    have n0:((n:Int)==0)=false:=by simp;omega
    have n1:((n:Int)==1)=false:=by simp;omega
    clear hr hs ih hN hroot hA hB hR hk
    go_enter Tryz.func33,Tryz.ntmps33
    go_wp2_with fail
    refine (hC.out _).mono ?_
    rintro e w1 ⟨rfl,hw1⟩
    obtain rfl:w=w1:=hw1.symm
    go_upto_region 7 with (fail)
    refine Qa (fun w1=>Own w w1 []) 12 (by kernel_rfl) (by kernel_rfl) H.drew ?_
    simp only [List.take_succ_cons,List.take_zero,List.drop_succ_cons,List.drop_zero]
    repeat
     first
     | (refine calm_value (v:=?_) (by decide) rfl (fun σ w1 hS=>?_) ?_
        rotate_left
        ·skip
         first | (go_simp;rfl) | rfl
        simp only [Act.put,putC])
     | (refine calm_skip (by decide) rfl ?_
        simp only [Act.put,putC])
    refine calm_call (v:=.string A) (by decide) rfl (fun w1=>(by go_simp)) (fun σ w1 hS=>HA.out w1 hS) ?_
    simp only [Act.put,putC]
    repeat
     first
     | (refine calm_value (v:=?_) (by decide) rfl (fun σ w1 hS=>?_) ?_
        rotate_left
        ·skip
         first | (go_simp;rfl) | rfl
        simp only [Act.put,putC])
     | (refine calm_skip (by decide) rfl ?_
        simp only [Act.put,putC])
    refine calm_call (v:=.string B) (by decide) rfl (fun w1=>(by go_simp)) (fun σ w1 hS=>HB.out w1 hS) ?_
    simp only [Act.put,putC]
    repeat
     first
     | (refine calm_value (v:=?_) (by decide) rfl (fun σ w1 hS=>?_) ?_
        rotate_left
        ·skip
         first | (go_simp;rfl) | rfl
        simp only [Act.put,putC])
     | (refine calm_skip (by decide) rfl ?_
        simp only [Act.put,putC])
    refine calm_call (v:=.string R) (by decide) rfl (fun w1=>(by go_simp)) (fun σ w1 hS=>HN.out w1 hS) ?_
    simp only [Act.put,putC]
    refine calm_nil ?_
    intro wd HD
    go_wp2
    go_ret
    exact ⟨rfl,HD⟩
end Go.Proofs.YthekdeikodppkaaGreatDoor
