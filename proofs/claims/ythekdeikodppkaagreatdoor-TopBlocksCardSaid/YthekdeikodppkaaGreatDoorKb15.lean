/-
  Texts of this claim, one behind the other: grow; archive.Root; consist; consist; consist; mac.
-/
import Derived.Test.YthekdeikodppkaaGreatDoorKb14
import Derived.Lib.BufferWrite
set_option linter.unusedVariables false
namespace Go.Proofs.YthekdeikodppkaaGreatDoor
open Go.RowKit
def popc(n:Nat):Nat:=if _h:n=0 then 0 else popc (n/2)+n%2
theorem popc_odd{n:Nat}(h:n%2=1):popc n=popc (n/2)+1:=by rw [popc,dif_neg (by omega),h]
theorem popc_le:∀ n:Nat,popc n≤n:=by
 intro n
 induction n using Nat.strongRecOn with
 | ind n ih=>
  by_cases h0:n=0
  ·rw [h0,popc];simp
  ·have:=ih (n/2) (by omega)
   rw [popc,dif_neg h0]
   omega
theorem peaks_length(nd:ByteArray→ByteArray→ByteArray):∀ (d:Nat) (l:List ByteArray),l.length≤d→(Jp nd l).length=popc l.length:=by
 intro d
 induction d with
 | zero=>
  intro l h
  obtain rfl:l=[]:=eJ (by omega)
  rw [Vp,List.length_nil,popc,dif_pos rfl]
 | succ d ih=>
  intro l h
  by_cases hl:l=[]
  ·rw [hl,Vp,List.length_nil,popc,dif_pos rfl]
  ·have hp:=List.length_pos_iff.2 hl
   rw [Jp,dif_neg hl,lJ,ih _ (by rw [Qz];omega),Qz]
   conv=>rhs;rw [popc,dif_neg (by omega)]
   congr 1
   split
   ·rename_i h1;rw [h1];rfl
   ·rename_i h1;simp;omega
theorem pairs_mem(nd:ByteArray→ByteArray→ByteArray)(hnd:∀ a b,(nd a b).size=32):∀ (l:List ByteArray),∀ s∈Qy nd l,s.size=32
 | [],s,h=>by simp [Qy] at h
 | [x],s,h=>by simp [Qy] at h
 | x::y::r,s,h=>by
  rw [Qy] at h
  rcases List.mem_cons.1 h with rfl | h
  ·exact hnd x y
  ·exact pairs_mem nd hnd r s h
theorem peaks_size:∀ (d:Nat) (l:List ByteArray),l.length≤d→(∀ s∈l,s.size=32)→∀ s∈Jp nodeF l,s.size=32:=by
 intro d
 induction d with
 | zero=>
  intro l h hs s hm
  obtain rfl:l=[]:=eJ (by omega)
  rw [Vp] at hm;cases hm
 | succ d ih=>
  intro l h hs s hm
  by_cases hl:l=[]
  ·rw [hl,Vp] at hm;cases hm
  ·have hp:=List.length_pos_iff.2 hl
   rw [Jp,dif_neg hl,List.mem_append] at hm
   rcases hm with hm | hm
   ·exact ih _ (by rw [Qz];omega) (pairs_mem nodeF Vk l) s hm
   ·split at hm
    ·obtain rfl:=List.mem_singleton.1 hm
     rw [List.getLastD_eq_getLast?,List.getLast?_eq_some_getLast hl]
     exact hs _ (List.getLast_mem hl)
    ·cases hm
def Grw(g:Nat)(l:List ByteArray):Piece:=ex fun v:Value=>star (blk g (.cells #[.int .i64 32,.int .i64 l.length,v] 79)) (slc 9 1 v (Jp nodeF l).length (txs (Jp nodeF l)))
section
variable {w0 w:World} {ps:List Piece} {g:Nat} {l:List ByteArray}
theorem Own.grw(H:Own w0 w (Grw g l::ps)):∃ a c,(Jp nodeF l).length≤c∧c≤9223372036854775807∧Own w0 w (blk g (.cells #[.int .i64 32,.int .i64 l.length,.slice a (Jp nodeF l).length c] 79)::slc 9 1 (.slice a (Jp nodeF l).length c) (Jp nodeF l).length (txs (Jp nodeF l))::ps):=by
 obtain ⟨v,H⟩:=H.ex
 have H:=H.star
 obtain ⟨a,c,rfl,h1,h2⟩:=(H.front 1 rfl).rd.shape
 exact ⟨a,c,h1,h2,H⟩
theorem Own.ungrw{v:Value}(H:Own w0 w (blk g (.cells #[.int .i64 32,.int .i64 l.length,v] 79)::slc 9 1 v (Jp nodeF l).length (txs (Jp nodeF l))::ps)):Own w0 w (Grw g l::ps):=Own.unex v (Own.unstar H)
end
theorem txs_one(l:List ByteArray):∀ u∈txs l,u.oneCell'=true:=by
 intro u hu
 obtain ⟨x,-,rfl⟩:=List.mem_map.1 hu
 rfl
theorem Zi(a b:List ByteArray):txs (a++b)=txs a++txs b:=List.map_append
theorem Kd:(Tryz.prog.info? 9).map (fun i=>(i.zero,i.size,i.bytes))=some (some (.string ⟨#[]⟩),1,16):=by kernel_rfl
set_option maxHeartbeats 800000 in
theorem grnew_any(w:World):Calls Tryz.prog 8 #[.int .i64 32] w (Ret fun v w'=>∃ g,v=.pointer (some ⟨g,0,none⟩)∧Own w w' (Grw g []::[])):=by
 have hW:=jd mkwidth_any
 have H:=(Own.start w).alloc (.cells #[.int .i64 32,.int .i64 0,.slice none 0 0] 79)
 go_enter Tryz.func8,Tryz.ntmps8
 go_wp2_with fail
 refine (hW.out _).mono ?_
 rintro e w1 ⟨rfl,hw1⟩
 obtain rfl:w=w1:=hw1.symm
 go_wp2
 go_ret
 refine ⟨_,rfl,_,rfl,?_⟩
 have h2:=(H.nil 9 1).swap
 refine Own.ungrw (v:=.slice none 0 0) ?_
 rw [Vp]
 exact h2
set_option maxRecDepth 100000 in
set_option maxHeartbeats 6400000 in
theorem gradd_any{w0 w:World}{ps:List Piece}{g:Nat}{l:List ByteArray}(x:ByteArray)(hx:x.size=32)(hl:∀ s∈l,s.size=32)(hn:l.length≤1000000)(H0:Own w0 w (Grw g l::ps)) :
 Calls Tryz.prog 10 #[.pointer (some ⟨g,0,none⟩),.string x] w (Ret fun v w'=>v=.int .i64 0∧Own w0 w' (Grw g (l++[x])::ps)):=by
 obtain ⟨a,c,h1,h2,H⟩:=H0.grw
 clear H0
 obtain ⟨P,hP⟩:∃ P,Hid (Jp nodeF l=P):=⟨_,rfl⟩
 obtain ⟨R,hR⟩:∃ R,Hid (Jp nodeF (l++[x])=R):=⟨_,rfl⟩
 have hadd:Hid (mkAddF nodeF P l.length x=R):=jd (by rw [← hR.out,peaks_add _ l x (Nat.le_refl _),hP.out])
 have hPl:Hid (P.length=popc l.length):=jd (by rw [← hP.out];exact peaks_length _ _ l (Nat.le_refl _))
 have hPs:Hid (∀ s∈P,s.size=32):=jd (by rw [← hP.out];exact peaks_size _ l (Nat.le_refl _) hl)
 have FIN:Hid (∀ w' v,Own w0 w' (blk g (.cells #[.int .i64 32,.int .i64 ((l.length+1:Nat):Int),v] 79)::slc 9 1 v R.length (txs R)::ps)→Own w0 w' (Grw g (l++[x])::ps)):=jd fun w' v h=>by
  refine Own.ungrw (v:=v) ?_
  rw [hR.out,lJ]
  exact h
 rw [hP.out] at h1 H
 obtain ⟨n,hnl⟩:∃ n,Hid (l.length=n):=⟨_,rfl⟩
 rw [hnl.out] at FIN H hadd hPl hn
 obtain ⟨m,hm⟩:∃ m,Hid (P.length=m):=⟨_,rfl⟩
 have hmn:m≤1000000:=by have:=popc_le n;rw [← hm.out,hPl.out];omega
 rw [hm.out] at h1 H
 have hx32:(x.size:Int)=32:=by omega
 have e1:IntKind.i64.wrap ((n:Int)+1)=((n+1:Nat):Int):=by rw [IntWalk.i64_in _ ⟨by omega,by omega⟩];omega
 clear hR hP hl hnl
 have c0:=H.cells
 have hrd:=(H.front 1 rfl).rd
 go_enter Tryz.func10,Tryz.ntmps10
 go_upto_region 6 with (at_builtin;refine Qn rfl _ _ rfl Tryz.underlying26 Kd rfl (by decide) rfl (H.nil 9 1) hrd (txs_one _) (by omega) (by omega) ?_;clear H c0 hrd;intro v1 w1 H;rw [Nat.zero_add,List.nil_append] at H)
 obtain ⟨a1,c1,rfl,g1,g2⟩:=H.rd.shape
 have hm2:Hid (m=popc n):=jd (by rw [← hm.out,hPl.out])
 replace e1:=jd e1
 have c0:=(H.front 1 rfl).cells
 go_upto_block 1 with (fail)
 clear c0
 go_wp2_with fail
 go_loopw [1,5,6] (fun v1 v5 v6 wx=>∃ (q:List ByteArray) (y:ByteArray) (k mq:Nat),v1=.string y∧y.size=32∧v6=.int .i64 k∧k≤1000000∧Hid (q.length=mq)∧mq≤1000000∧Hid (mq=popc k)∧Hid (∀ s∈q,s.size=32)∧Hid (mkAddF nodeF q k y=R)∧Own w0 wx (slc 9 1 v5 mq (txs q)::blk g (.cells #[.int .i64 32,.int .i64 n,.slice a m c] 79)::slc 9 1 (.slice a m c) m (txs P)::ps)) (fun _ _ v6 _=>(intOf v6).toNat)
 case atStart=>exact ⟨P,x,n,m,rfl,hx,rfl,hn,hm,hmn,hm2,hPs,hadd,H⟩
 case round=>
  clear H hPs hadd hm2 g1 g2
  obtain ⟨q,y,k,mq,rfl,hy,rfl,hk,hql,hmq,hpop,hqs,hadd,H⟩:=hrel
  by_cases hodd:k%2=1
  ·have hk1:bits .and .i64 (k:Int) 1=1:=by rw [i64_and1];omega
   have hmq1:1≤mq:=by rw [hpop.out,popc_odd hodd];omega
   rcases H.slc_cases with ⟨-,h0,-,-⟩ | ⟨gq,cap,cur,rfl,-,hc1,hc2,-,-,-⟩
   ·omega
   obtain ⟨q',z,hqz⟩:∃ q' z,q=q'++[z]:=⟨q.dropLast,q.getLast (by intro e;rw [e] at hql;have:=hql.out;simp at this;omega),(List.dropLast_concat_getLast _).symm⟩
   have hq'l:Hid (q'.length=mq-1):=jd (by have:=hql.out;rw [hqz,lJ] at this;simp at this;omega)
   have hzs:z.size=32:=hqs.out z (by rw [hqz];simp)
   have hq's:Hid (∀ s∈q',s.size=32):=jd fun s hs=>hqs.out s (by rw [hqz];simp [hs])
   obtain ⟨N,hN⟩:∃ N,Hid (nodeF z y=N):=⟨_,rfl⟩
   have hNs:N.size=32:=by rw [← hN.out];exact Vk _ _
   rw [mkAddF,dif_pos hodd,hqz,List.dropLast_concat,List.getLastD_concat,hN.out] at hadd
   obtain ⟨j,hj⟩:∃ j,Hid (mq-1=j):=⟨_,rfl⟩
   rw [hj.out] at hq'l
   have hpop2:Hid (j=popc (k/2)):=jd (by rw [← hj.out,hpop.out,popc_odd hodd];omega)
   have ej:IntKind.i64.wrap ((mq:Int)-1)=(j:Int):=by rw [IntWalk.i64_in _ ⟨by omega,by omega⟩];have:=hj.out;omega
   have hjm:j<mq:=by have:=hj.out;omega
   have hjmI:(j:Int)<(mq:Int):=by omega
   have hjc:j≤cap:=by omega
   have hjcI:(j:Int)≤(cap:Int):=by omega
   have hk2:(k:Int)/2=((k/2:Nat):Int):=by omega
   obtain ⟨kh,hkh⟩:∃ kh,Hid (k/2=kh):=⟨_,rfl⟩
   rw [hkh.out] at hk2 hadd hpop2
   have HC:Hid (∀ w1,Own w0 w1 (slc 9 1 (.slice (some ⟨gq,0,none⟩) mq cap) mq (txs q)::blk g (.cells #[.int .i64 32,.int .i64 n,.slice a m c] 79)::slc 9 1 (.slice a m c) m (txs P)::ps)→w1.cell? ⟨gq,j,none⟩=some (.string z)∧w1.cell? ⟨g,0,none⟩=some (.int .i64 32)):=jd fun w1 h=>by
    have h3:=Rd.cell h.rd (j:=j) (u:=.string z) (by rw [Kp];rw [hqz,List.getElem?_append_right (by rw [hq'l.out];exact Nat.le_refl _),hq'l.out,Nat.sub_self];rfl)
    rw [Nat.zero_add] at h3
    exact ⟨h3,by rw [(h.front 1 rfl).cells];rfl⟩
   have HN:Hid (∀ w1 qs,Own w0 w1 qs→Calls Tryz.prog 32 #[.int .i64 32,.string z,.string y] w1 (fun e w2=>e=.returned (.string N)∧Own w0 w2 qs)):=jd fun w1 qs h=>by
    rw [← hN.out]
    exact (mknode_any z y (by omega) (by omega) w1).mono fun e w2 g2=>⟨g2.1,h.join g2.2⟩
   go_upto_region 9 with (fail)
   refine Qa (fun w1=>Own w0 w1 (slc 9 1 (.slice (some ⟨gq,0,none⟩) mq cap) mq (txs q)::blk g (.cells #[.int .i64 32,.int .i64 n,.slice a m c] 79)::slc 9 1 (.slice a m c) m (txs P)::ps)) 12 (by kernel_rfl) (by kernel_rfl) H.drew ?_
   simp only [List.take_succ_cons,List.take_zero,List.drop_succ_cons,List.drop_zero]
   repeat
    first
    | (refine calm_value (v:=?_) (by decide) rfl (fun σ w1 hS=>?_) ?_
       rotate_left
       ·obtain ⟨c0,c1⟩:=HC.out _ hS
        first | (go_simp;rfl) | rfl
       simp only [Act.put,putC])
    | (refine calm_skip (by decide) rfl ?_
       simp only [Act.put,putC])
   refine calm_call (v:=.string N) (by decide) rfl (fun w1=>(by go_simp)) (fun σ w1 hS=>HN.out w1 _ hS) ?_
   simp only [Act.put,putC]
   refine calm_nil ?_
   intro wd HD
   clear H HN HC
   have HD2:=HD.slc_take (k:=j) (by omega)
   rw [Nat.mul_one,hqz,Zi,List.take_append_of_le_length (by rw [Qr,hq'l.out];exact Nat.le_refl _),List.take_of_length_le (by rw [Qr,hq'l.out];exact Nat.le_refl _)] at HD2
   clear HD hqz hqs hql hpop hj hN
   go_wp2_with fail
   go_roundw
   case rel=>exact ⟨q',N,kh,j,rfl,hNs,by go_num,by have:=hkh.out;omega,hq'l,by omega,hpop2,hq's,hadd,HD2⟩
   case measure=>have:=hkh.out;simp [intOf];omega
  ·have hk0:bits .and .i64 (k:Int) 1=0:=by rw [i64_and1];omega
   rw [mkAddF,dif_neg hodd] at hadd
   obtain ⟨a5,c5,rfl,g1,g2⟩:=H.rd.shape
   have hRl:Hid (R.length=mq+1):=jd (by rw [← hadd.out,lJ,hql.out];rfl)
   have c0:=(H.front 1 rfl).cells
   have ee:=e1.out
   replace H:=H.swap
   go_wp2_with (first
    | (at_builtin;refine Qf (news:=[.string y]) rfl _ _ rfl Tryz.underlying26 Kd rfl (by decide) rfl H.swap rfl rfl rfl (by simp [Value.oneCell']) (by omega) (by omega) ?_;clear H;intro v9 w9 H;replace H:=H.swap;obtain ⟨a9,c9,rfl,g3,g4⟩:=(H.front 1 rfl).rd.shape)
    | (refine Qh rfl _ _ rfl rfl H rfl (by kernel_rfl) (by simp) ?_;clear H c0;intro w7 H)
    | (refine Jd rfl _ _ rfl rfl H rfl (by kernel_rfl) (by simp) ?_;clear H;intro w7 H))
   go_ret
   refine ⟨_,rfl,rfl,FIN.out _ (.slice a9 (mq+1) c9) ?_⟩
   rw [hRl.out,← hadd.out,Zi]
   exact (H.front 2 rfl).drop
theorem fold_cons{nd:ByteArray→ByteArray→ByteArray}{x:ByteArray}{r:List ByteArray}(h:r≠[]):foldF nd (x::r)=nd x (foldF nd r):=by
 cases r with
 | nil=>exact absurd rfl h
 | cons y r=>rfl
theorem fold_size(l:List ByteArray)(hs:∀ s∈l,s.size=32)(h:l≠[]):(foldF nodeF l).size=32:=by
 match l,h with
 | [x],_=>exact hs x (by simp)
 | x::y::r,_=>rw [fold_cons (by simp),Vk]
set_option maxRecDepth 100000 in
set_option maxHeartbeats 6400000 in
theorem grroot_any{w0 w:World}{ps:List Piece}{g:Nat}{l:List ByteArray}(hl:∀ s∈l,s.size=32)(hn:l.length≤1000000)(hne:1≤l.length)(H0:Own w0 w (Grw g l::ps)) :
 Calls Tryz.prog 11 #[.pointer (some ⟨g,0,none⟩)] w (fun e w'=>e=.returned (.string (mroot l))∧Own w w' []):=by
 obtain ⟨R,hR⟩:∃ R,Hid (mroot l=R):=⟨_,rfl⟩
 rw [hR.out]
 obtain ⟨a,c,h1,h2,H⟩:=H0.grw
 clear H0
 obtain ⟨P,hP⟩:∃ P,Hid (Jp nodeF l=P):=⟨_,rfl⟩
 have hfold:Hid (foldF nodeF P=R):=jd (by rw [← hR.out,← hP.out];exact fold_peaks noneF _ l (Nat.le_refl _) hne)
 have hPs:Hid (∀ s∈P,s.size=32):=jd (by rw [← hP.out];exact peaks_size _ l (Nat.le_refl _) hl)
 have hPne:P≠[]:=by rw [← hP.out];exact peaks_ne hne
 rw [hP.out] at h1 H
 obtain ⟨m,hm⟩:∃ m,Hid (P.length=m):=⟨_,rfl⟩
 have hm1:1≤m:=by rw [← hm.out];exact List.length_pos_iff.2 hPne
 have hmn:m≤1000000:=by
  have:=popc_le l.length
  rw [← hm.out,← hP.out,peaks_length _ _ l (Nat.le_refl _)];omega
 rw [hm.out] at h1 H
 rcases (H.front 1 rfl).slc_cases with ⟨-,h0,-,-⟩ | ⟨gp,cap,cur,e,-,hc1,hc2,-,-,-⟩
 ·omega
 cases e
 obtain ⟨bl,hbl⟩:∃ bl,Hid (l.length=bl):=⟨_,rfl⟩
 have HX:Hid (∀ w' qs,Own w w' qs→w'.cell? ⟨g,0,none⟩=some (.int .i64 32)∧w'.cell? ⟨g,2,none⟩=some (.slice (some ⟨gp,0,none⟩) m c)∧∀ j z,P[j]?=some z→w'.cell? ⟨gp,j,none⟩=some (.string z)):=jd fun w' qs h=>by
  have hg:g<w.heap.size:=(Array.getElem?_eq_some_iff.1 H.block.1).1
  have hrd:=(H.front 1 rfl).rd.old h
  refine ⟨by rw [h.oldCell hg,H.cells];rfl,by rw [h.oldCell hg,H.cells];rfl,fun j z hz=>?_⟩
  have:=Rd.cell hrd (j:=j) (u:=.string z) (by rw [Kp hz])
  rw [Nat.zero_add] at this
  exact this
 clear H hR hP hl hn hne
 have H:=Own.start w
 have m0:((m:Int)==0)=false:=by simp;omega
 obtain ⟨j,hj⟩:∃ j,Hid (m-1=j):=⟨_,rfl⟩
 have ej:IntKind.i64.wrap ((m:Int)-1)=(j:Int):=by rw [IntWalk.i64_in _ ⟨by omega,by omega⟩];have:=hj.out;omega
 have ej2:IntKind.i64.wrap ((m:Int)-2)=(j:Int)-1:=by rw [IntWalk.i64_in _ ⟨by omega,by omega⟩];have:=hj.out;omega
 have hjm:j<m:=by have:=hj.out;omega
 have hjmI:(j:Int)<(m:Int):=by omega
 obtain ⟨z,hz⟩:∃ z,P[j]?=some z:=Ql (by rw [hm.out];exact hjm)
 have hzf:Hid (foldF nodeF (P.drop j)=z):=jd (by
  rw [List.drop_eq_getElem_cons (by rw [hm.out];exact hjm),List.drop_eq_nil_of_le (by rw [hm.out];have:=hj.out;omega)]
  have:=gJ hz
  exact this.2)
 have HZ:Hid (∀ w' qs,Own w w' qs→w'.cell? ⟨gp,j,none⟩=some (.string z)):=jd fun w' qs h=>(HX.out w' qs h).2.2 j z hz
 replace hz:=jd hz
 go_enter Tryz.func11,Tryz.ntmps11
 obtain ⟨c0,c2,-⟩:=HX.out _ _ H
 go_upto_region 5 with (fail)
 clear c0 c2
 refine Qa (fun w1=>Own w w1 []) 12 (by kernel_rfl) (by kernel_rfl) H.drew ?_
 simp only [List.take_succ_cons,List.take_zero,List.drop_succ_cons,List.drop_zero]
 repeat
  first
  | (refine calm_value (v:=?_) (by decide) rfl (fun σ w1 hS=>?_) ?_
     rotate_left
     ·obtain ⟨c0,c2,-⟩:=HX.out _ _ hS;have c1:=HZ.out _ _ hS
      first | (go_simp;rfl) | rfl
     simp only [Act.put,putC])
  | (refine calm_skip (by decide) rfl ?_
     simp only [Act.put,putC])
 refine calm_nil ?_
 intro wd HD
 clear H
 obtain ⟨c0,c2,-⟩:=HX.out _ _ HD
 go_upto_block 0 with (fail)
 clear c0 c2
 go_wp2_with fail
 go_loopw [3,4] (fun v3 v4 wx=>∃ (i:Nat) (y:ByteArray),v3=.string y∧v4=.int .i64 ((i:Int)-1)∧i<m∧Hid (foldF nodeF (P.drop i)=y)∧Own w wx []) (fun _ v4 _=>(intOf v4+1).toNat)
 case atStart=>exact ⟨j,z,rfl,by go_num,hjm,hzf,HD⟩
 case round=>
  clear HD hzf
  obtain ⟨i,y,rfl,rfl,him,hy,H⟩:=hrel
  by_cases hi0:i=0
  ·subst hi0
   have hyR:y=R:=by have:=hy.out;rw [List.drop_zero,hfold.out] at this;exact this.symm
   subst hyR
   go_wp2
   go_ret
   exact ⟨rfl,H⟩
  ·obtain ⟨k,rfl⟩:∃ k,i=k+1:=⟨i-1,by omega⟩
   have eI:((k+1:Nat):Int)-1=(k:Int):=by omega
   rw [eI]
   obtain ⟨x,hx⟩:∃ x,P[k]?=some x:=Ql (by rw [hm.out];omega)
   have hkm:(k:Int)<(m:Int):=by omega
   have hk0:(0:Int)≤(k:Int):=by omega
   have hxs:x.size=32:=hPs.out x (List.mem_of_getElem? hx)
   have hne:P.drop (k+1)≠[]:=by
    intro e
    have:=congrArg List.length e
    rw [List.length_drop,hm.out] at this
    simp at this;omega
   have hys:y.size=32:=by rw [← hy.out];exact fold_size _ (fun s hs=>hPs.out s (List.mem_of_mem_drop hs)) hne
   obtain ⟨N,hN⟩:∃ N,Hid (nodeF x y=N):=⟨_,rfl⟩
   have hNf:Hid (foldF nodeF (P.drop k)=N):=jd (by
    rw [List.drop_eq_getElem_cons (by rw [hm.out];omega),fold_cons hne,hy.out,← hN.out,(gJ hx).2])
   have HN:Hid (∀ w1 qs,Own w w1 qs→Calls Tryz.prog 32 #[.int .i64 32,.string x,.string y] w1 (fun e w2=>e=.returned (.string N)∧Own w w2 qs)):=jd fun w1 qs h=>by
    rw [← hN.out]
    exact (mknode_any x y (by omega) (by omega) w1).mono fun e w2 g2=>⟨g2.1,h.join g2.2⟩
   have HZ2:Hid (∀ w' qs,Own w w' qs→w'.cell? ⟨gp,k,none⟩=some (.string x)):=jd fun w' qs h=>(HX.out w' qs h).2.2 k x hx
   replace hx:=jd hx
   clear hne eI hi0
   go_upto_region 9 with (fail)
   refine Qa (fun w1=>Own w w1 []) 13 (by kernel_rfl) (by kernel_rfl) H.drew ?_
   simp only [List.take_succ_cons,List.take_zero,List.drop_succ_cons,List.drop_zero]
   repeat
    first
    | (refine calm_value (v:=?_) (by decide) rfl (fun σ w1 hS=>?_) ?_
       rotate_left
       ·obtain ⟨c0,c2,-⟩:=HX.out _ _ hS;have c1:=HZ2.out _ _ hS
        first | (go_simp;rfl) | rfl
       simp only [Act.put,putC])
    | (refine calm_skip (by decide) rfl ?_
       simp only [Act.put,putC])
   refine calm_call (v:=.string N) (by decide) rfl (fun w1=>(by go_simp)) (fun σ w1 hS=>HN.out w1 _ hS) ?_
   simp only [Act.put,putC]
   refine calm_nil ?_
   intro we HE
   have ek:IntKind.i64.wrap ((k:Int)-1)=(k:Int)-1:=IntWalk.i64_in _ ⟨by omega,by omega⟩
   go_wp2_with fail
   go_roundw
   case rel=>exact ⟨k,N,rfl,by go_num,by omega,hNf,HE⟩
   case measure=>simp [intOf]
set_option maxRecDepth 100000 in
set_option maxHeartbeats 6400000 in
theorem arroot_any{w:World}{v:Value}{n:Nat}{l:List ByteArray}(hr:Rd w 1 v n (txs l))(hn:n≤1000000)(hs:∀ s∈l,s.size≤100000000000) :
 Calls Tryz.prog 22 #[v] w (fun e w'=>e=.returned (.string (mroot (l.map leafF)))∧Own w w' []):=by
 have hl:l.length=n:=by have:=hr.len;rw [Qr] at this;omega
 obtain ⟨a,c,rfl,hc1,hc2⟩:=hr.shape
 obtain ⟨M,hM⟩:∃ M,Hid (mroot (l.map leafF)=M):=⟨_,rfl⟩
 rw [hM.out]
 obtain ⟨F,hF⟩:∃ F,Hid (F=l.map leafF):=⟨_,jd rfl⟩
 rw [← hF.out] at hM
 have hFl:F.length=n:=by rw [hF.out,List.length_map,hl]
 have hF32:Hid (∀ s∈F,s.size≤1000000):=jd fun s h=>by
  rw [hF.out] at h
  obtain ⟨x,-,rfl⟩:=List.mem_map.1 h
  rw [leaf_size];omega
 have HX:Hid (∀ w' qs,Own w w' qs→∀ k x,l[k]?=some x→∃ b o,a=some ⟨b,o,none⟩∧w'.cell? ⟨b,o+k,none⟩=some (.string x)):=jd fun w' qs h k x hx=>by
  have hkn:=(gJ hx).1
  obtain ⟨b,o,c',e,-⟩:=Rd.some hr (by rw [Qr];omega)
  cases e
  exact ⟨b,o,rfl,Rd.cell (hr.old h.bare) (j:=k) (u:=.string x) (by rw [Kp hx])⟩
 clear hr
 have H:=(Own.start w).nil 9 1
 go_enter Tryz.func22,Tryz.ntmps22
 go_upto_block 0 with (fail)
 go_wp2_with fail
 go_loopw [3,5,8] (fun v3 _ v8 wx=>∃ (k:Nat),v8=.int .i64 k∧k≤n∧Own w wx (slc 9 1 v3 k (txs (F.take k))::[])) (fun _ _ v8 _=>n-(intOf v8).toNat)
 case atStart=>exact ⟨0,rfl,by omega,H⟩
 case round=>
  clear H
  obtain ⟨k,rfl,hk,H⟩:=hrel
  by_cases hkn:k<n
  ·have hI:(k:Int)<(n:Int):=by omega
   have hk0:(0:Int)≤(k:Int):=by omega
   have ek:IntKind.i64.wrap ((k:Int)+1)=((k+1:Nat):Int):=by rw [IntWalk.i64_in _ ⟨by omega,by omega⟩];omega
   obtain ⟨x,hx⟩:∃ x,l[k]?=some x:=Ql (by omega)
   have hxs:=hs x (List.mem_of_getElem? hx)
   obtain ⟨b,o,rfl,c0⟩:=HX.out _ _ H k x hx
   obtain ⟨y,hy⟩:∃ y,Hid (leafF x=y):=⟨_,rfl⟩
   have hsn:Hid (txs (F.take (k+1))=txs (F.take k)++[.string y]):=jd (by
    have:F[k]?=some y:=by rw [hF.out,List.getElem?_map,hx,← hy.out];rfl
    rw [List.take_add_one,this,Zi];rfl)
   have HL:=jd (mkleaf_any x hxs wr)
   rw [hy.out] at HL
   obtain ⟨a5,c5,rfl,g1,g2⟩:=H.rd.shape
   clear HX hy hx hF hM hs
   go_wp2_with fail
   refine HL.out.mono ?_
   rintro e w2 ⟨rfl,H2⟩
   replace H:=H.join H2
   rw [List.nil_append] at H
   clear H2 HL c0
   go_wp2_with (at_builtin;refine Qf (news:=[.string y]) rfl _ _ rfl Tryz.underlying26 Kd rfl (by decide) rfl H rfl rfl rfl (by simp [Value.oneCell']) (by omega) (by omega) ?_;clear H;intro v' w' H)
   rw [← hsn.out] at H
   go_roundw
   case rel=>exact ⟨k+1,by go_num,hkn,H⟩
   case measure=>simp [intOf];omega
  ·obtain rfl:k=n:=by omega
   have hI:¬ (k:Int)<(k:Int):=by omega
   rw [List.take_of_length_le (by omega)] at H
   have HR:=jd (mkroot_any k _ _ k F (Nat.le_refl _) (by omega) H.rd hF32.out)
   rw [hM.out] at HR
   obtain ⟨a5,c5,rfl,g1,g2⟩:=H.rd.shape
   clear HX hF hM hs
   go_wp2_with fail
   refine HR.out.mono ?_
   rintro e w2 ⟨rfl,H2⟩
   go_wp2
   go_ret
   exact ⟨rfl,(H.join H2).bare⟩
def newS(l:List ByteArray):Option Value→List Piece
 | none=>[]
 | some v=>[slc 9 1 v l.length (txs l)]
theorem Own.tailOf{w0 w:World}{qs:List Piece}:∀ (rs:List Piece),Own w0 w (rs++qs)→Own w0 w qs
 | [],h=>h
 | _::rs,h=>Own.tailOf rs h.drop
section
variable {w0:World} {P:Program} {ops:Array Oper} {nw:List Nat} {R:Act→Prop} {a:Act} {o:Oper} {rest:List Oper} {i:Nat}
theorem calm_row2{obj:Obj}{n:Nat}{ps:Sig→List Piece}(hps:∀ σ v,ps (σ.upd i v)=ps σ)(hi:i∈nw)(hr:∀ w,(execOp a.eval o).run P w=.ok (.value (.slice (some ⟨w.heap.size,0,none⟩) n n)) (w.alloc obj))
 (h:calm P ops (fun σ w=>Own w0 w (newR obj n (σ i)++ps σ)) nw R (i+1) rest a):calm P ops (fun σ w=>Own w0 w (newR obj n (σ i)++ps σ)) nw R i (o::rest) a:=
 calm_new hi (fun σ w hS K Q hK=>by
  unfold Oper.wp
  rw [hr w]
  refine hK _ _ ?_
  have hs:(σ.upd i (.slice (some ⟨w.heap.size,0,none⟩) n n)) i=some (.slice (some ⟨w.heap.size,0,none⟩) n n):=by simp [Sig.upd]
  show Own w0 _ (newR obj n ((σ.upd i _) i)++ps (σ.upd i _))
  rw [hs,hps]
  exact ((Own.tailOf _ hS).alloc obj).imp fun x hx=>⟨_,rfl,hx⟩) h
theorem calm_callS{f:FuncId}{args:Array Value}{l:List ByteArray}{obj:Obj}{j n:Nat}(hij:i≠j)(hi:i∈nw)(hr:∀ w,(execOp a.eval o).run P w=.ok (.enter f args) w)
 (hc:∀ w,Own w0 w []→Calls P f args w (Ret fun v w'=>Own w w' (slc 9 1 v l.length (txs l)::[])))
 (h:calm P ops (fun σ w=>Own w0 w (newR obj n (σ j)++newS l (σ i))) nw R (i+1) rest a):calm P ops (fun σ w=>Own w0 w (newR obj n (σ j)++newS l (σ i))) nw R i (o::rest) a:=
 ncalm_call hi hr (fun σ w hS=>by
  refine (hc w hS.bare).mono ?_
  rintro e w' ⟨v,rfl,h2⟩
  refine ⟨v,rfl,?_⟩
  have h3:Own w0 w (newR obj n (σ j)):=by
   have:=hS.perm (List.perm_append_comm (l₁:=newR obj n (σ j)) (l₂:=newS l (σ i)))
   exact Own.tailOf _ this
  have h4:=(h3.join h2).perm (List.perm_append_comm (l₁:=[slc 9 1 v l.length (txs l)]) (l₂:=newR obj n (σ j)))
  have e1:(σ.upd i v) j=σ j:=by simp [Sig.upd,Ne.symm hij]
  have e2:(σ.upd i v) i=some v:=by simp [Sig.upd]
  show Own w0 w' (newR obj n ((σ.upd i v) j)++newS l ((σ.upd i v) i))
  rw [e1,e2]
  exact h4) h
end
theorem long_le:∀ (d n m:Nat) (whole:Bool),n≤d→1≤m→m≤n→longF m n whole≤n:=by
 intro d
 induction d with
 | zero=>intro n m whole h1 h2 h3;omega
 | succ d ih=>
  intro n m whole h1 h2 h3
  rw [longF]
  split
  ·split <;> omega
  ·rename_i hne
   have hbd:=Jo n (by omega)
   split
   ·have:=ih (cutN n) m whole (by omega) h2 (by omega)
    omega
   ·have:=ih (n-cutN n) (m-cutN n) false (by omega) (by omega) (by omega)
    omega
abbrev msub(m:Nat)(l:List ByteArray)(whole:Bool):List ByteArray:=subF noneF nodeF m l whole
set_option maxRecDepth 100000 in
set_option maxHeartbeats 12800000 in
theorem cssub_any:∀ (d:Nat) (w:World) (v:Value) (n m:Nat) (l:List ByteArray) (whole:Bool),n≤d→n≤1000000→1≤m→m≤n→Rd w 1 v n (txs l)→(∀ s∈l,s.size≤1000000) →
 Calls Tryz.prog 34 #[.int .i64 32,.int .i64 m,v,.bool whole] w (Ret fun v w'=>Own w w' (slc 9 1 v (msub m l whole).length (txs (msub m l whole))::[])):=by
 intro d
 induction d with
 | zero=>intro w v n m l whole hd h9 hm1 hmn;omega
 | succ d ih=>
  intro w v n m l whole hd h9 hm1 hmn hr hs
  obtain ⟨a,c,rfl,hc1,hc2⟩:=hr.shape
  have hl:l.length=n:=by have:=hr.len;rw [Qr] at this;omega
  have H:=Own.start w
  by_cases hmn2:m=n
  ·subst hmn2
   have hsub:msub m l whole=if whole then [] else [mroot l]:=by rw [msub,subF,dif_pos (.inl hl.symm)]
   have mm:((m:Int)==(m:Int))=true:=by simp
   cases whole with
   | true=>
    rw [hsub,if_pos rfl]
    clear hr hs ih hsub
    go_enter Tryz.func34,Tryz.ntmps34
    go_wp2
    go_ret
    exact ⟨_,rfl,H.nil 9 1⟩
   | false=>
    have hR:=mkroot_any m w _ m l (Nat.le_refl _) (by omega) hr hs
    rw [hsub,if_neg (by decide)]
    obtain ⟨R,hRR⟩:∃ R,Hid (mroot l=R):=⟨_,rfl⟩
    rw [hRR.out] at hR ⊢
    replace hR:=jd hR
    clear hr hs ih hsub hRR
    go_enter Tryz.func34,Tryz.ntmps34
    go_wp2_with fail
    refine hR.out.mono ?_
    rintro e w1 ⟨rfl,H1⟩
    have H2:=H1.made [.string R] 9 1 1 rfl (by decide)
    go_wp2
    go_ret
    exact ⟨_,rfl,H2⟩
  ·have h2:2≤n:=by omega
   obtain ⟨k,hk⟩:∃ k,Hid (cutN n=k):=⟨_,rfl⟩
   have hbd:=Jo n h2
   rw [hk.out] at hbd
   obtain ⟨k1,k2,k3⟩:=hbd
   have hC:=jd (Kf n (by omega))
   rw [hk.out] at hC
   have hsub:msub m l whole=if m≤k then msub m (l.take k) whole++[mroot (l.drop k)] else msub (m-k) (l.drop k) false++[mroot (l.take k)]:=by
    rw [msub,subF,dif_neg (by rw [hl];omega),hl,hk.out]
   have mnI:((m:Int)==(n:Int))=false:=by simp;omega
   obtain ⟨tv,htv⟩:∃ v,Hid (sliced a k n c 1=v):=⟨_,rfl⟩
   have hsl:∀ w,(Instr.sliceAt 26 (.slice a n c) (some (.int .i64 k)) none none).run Tryz.prog w=.ok tv w:=fun w=>slc_low (by kernel_rfl) (fun _=>by kernel_rfl) (by omega) htv.out w
   have hrA:Hid (∀ w',Own w w' []→Rd w' 1 (.slice a k c) k (txs (l.take k))):=jd fun w' h=>by
    have hr2:=(hr.old h).take (k:=k) (by omega)
    rw [Nat.mul_one,txs,← List.map_take] at hr2
    exact hr2
   have hrB:Hid (∀ w',Own w w' []→Rd w' 1 tv (n-k) (txs (l.drop k))):=jd fun w' h=>by
    have hr2:=(hr.old h).cutOf (k:=k) (m:=n) (by omega) (Nat.le_refl _)
    rw [htv.out,Nat.mul_one,Nat.mul_one,txs,List.take_of_length_le (by rw [List.length_map];omega),← List.map_drop] at hr2
    exact hr2
   have hsA:∀ s∈l.take k,s.size≤1000000:=fun s h=>hs s (List.mem_of_mem_take h)
   have hsB:∀ s∈l.drop k,s.size≤1000000:=fun s h=>hs s (List.mem_of_mem_drop h)
   have hkc:k≤c:=by omega
   have hkcI:(k:Int)≤(c:Int):=by omega
   by_cases hmk:m≤k
   ·have hmkI:(m:Int)≤(k:Int):=by omega
    rw [if_pos hmk] at hsub
    have hlen:(msub m l whole).length≤n:=by rw [msub,sub_long _ _ _ _ (Nat.le_refl _),hl];exact long_le n n m whole (Nat.le_refl _) hm1 hmn
    rw [hsub]
    obtain ⟨A,hA⟩:∃ A,Hid (msub m (l.take k) whole=A):=⟨_,rfl⟩
    obtain ⟨R,hR⟩:∃ R,Hid (mroot (l.drop k)=R):=⟨_,rfl⟩
    have HS:Hid (∀ w',Own w w' []→Calls Tryz.prog 34 #[.int .i64 32,.int .i64 m,.slice a k c,.bool whole] w' (Ret fun v w2=>Own w' w2 (slc 9 1 v A.length (txs A)::[]))):=jd fun w' h=>by
     rw [← hA.out];exact ih w' _ k m (l.take k) whole (by omega) (by omega) hm1 hmk (hrA.out w' h) hsA
    have HR:Hid (∀ w1 qs,Own w w1 qs→Calls Tryz.prog 33 #[.int .i64 32,tv] w1 (fun e w2=>e=.returned (.string R)∧Own w w2 qs)):=jd fun w1 qs h=>by
     rw [← hR.out];exact (mkroot_any (n-k) w1 _ (n-k) (l.drop k) (Nat.le_refl _) (by omega) (hrB.out w1 h.bare) hsB).mono fun e w2 g=>⟨g.1,h.join g.2⟩
    rw [hsub,hA.out,hR.out,lJ] at hlen
    rw [hA.out,hR.out]
    obtain ⟨na,hna⟩:∃ na,Hid (A.length=na):=⟨_,rfl⟩
    have hna9:na≤1000000:=by rw [← hna.out];simp at hlen;omega
    clear hr hs ih hsub hA hR hk hrA hrB hsA hsB hlen
    go_enter Tryz.func34,Tryz.ntmps34
    go_wp2_with fail
    refine (hC.out _).mono ?_
    rintro e w1 ⟨rfl,hw1⟩
    obtain rfl:w=w1:=hw1.symm
    go_upto_region 8 with (fail)
    refine wp_region_new (fun σ w1=>Own w w1 (newR (.cells #[.string R] 9) 1 (σ 12)++newS A (σ 6))) 13 [6,12] (by kernel_rfl) (by kernel_rfl) (by simpa [Sig.no,newR,newS] using H.drew) ?_
    simp only [List.take_succ_cons,List.take_zero,List.drop_succ_cons,List.drop_zero]
    repeat
     first
     | (refine calm_value (v:=?_) (by decide) rfl (fun σ w1 hS=>?_) ?_
        rotate_left
        ·skip
         first | (go_simp;rfl) | rfl
        simp only [Act.put,putC])
     | (refine calm_skip (by decide) rfl ?_
        simp only [Act.put,putC])
    refine calm_callS (by decide) (by decide) (fun w1=>(by go_simp)) (fun w1 h=>HS.out w1 h) ?_
    repeat
     first
     | (refine calm_value (v:=?_) (by decide) rfl (fun σ w1 hS=>?_) ?_
        rotate_left
        ·skip
         first | (go_simp;rfl) | rfl
        simp only [Act.put,putC])
     | (refine calm_skip (by decide) rfl ?_
        simp only [Act.put,putC])
    refine calm_call (v:=.string R) (by decide) rfl (fun w1=>(by go_simp)) (fun σ w1 hS=>HR.out w1 _ hS) ?_
    simp only [Act.put,putC]
    refine calm_row2 (ps:=fun σ=>newS A (σ 6)) (fun σ v=>(by simp [Sig.upd])) (by decide) (fun w1=>(by go_simp)) ?_
    refine calm_nil ?_
    intro σ wd hσ HD
    obtain ⟨v1,hv1⟩:=Option.isSome_iff_exists.1 (hσ 6 (by decide))
    obtain ⟨v2,hv2⟩:=Option.isSome_iff_exists.1 (hσ 12 (by decide))
    rw [hv1,hv2] at HD
    obtain ⟨g2,rfl,HN⟩:=HD.newr
    clear HD H
    simp only [Jx,List.foldl_cons,List.foldl_nil,hv1,hv2]
    simp only [Act.put,List.setIfInBounds_toArray,List.set_cons_zero,List.set_cons_succ,List.getElem?_cons_succ,List.getElem?_cons_zero,Option.bind_some,Option.getD_some]
    have hrow:=(HN.slc_mk (xs:=[.string R]) (n:=1) (size:=1) rfl (Nat.le_refl _) (by decide) rfl rfl).rd
    have H:Own w wd (slc 9 1 v1 A.length (txs A)::[]):=HN.drop
    clear HN
    rw [hna.out] at H
    go_wp2_with (at_builtin;refine Qn rfl _ _ rfl Tryz.underlying26 Kd rfl (by decide) rfl H hrow (by simp [Value.oneCell']) (by omega) (by omega) ?_;clear H hrow;intro v9 w9 H)
    go_ret
    exact ⟨_,rfl,by rw [lJ,hna.out,Zi];exact H⟩
   ·have hmkI:¬ (m:Int)≤(k:Int):=by omega
    have emk:IntKind.i64.wrap ((m:Int)-(k:Int))=((m-k:Nat):Int):=by rw [IntWalk.i64_in _ ⟨by omega,by omega⟩];omega
    obtain ⟨mk,hmk9⟩:∃ mk,Hid (m-k=mk):=⟨_,rfl⟩
    rw [hmk9.out] at emk
    rw [if_neg hmk,hmk9.out] at hsub
    have hlen:(msub m l whole).length≤n:=by rw [msub,sub_long _ _ _ _ (Nat.le_refl _),hl];exact long_le n n m whole (Nat.le_refl _) hm1 hmn
    rw [hsub]
    obtain ⟨A,hA⟩:∃ A,Hid (msub mk (l.drop k) false=A):=⟨_,rfl⟩
    obtain ⟨R,hR⟩:∃ R,Hid (mroot (l.take k)=R):=⟨_,rfl⟩
    have HS:Hid (∀ w',Own w w' []→Calls Tryz.prog 34 #[.int .i64 32,.int .i64 mk,tv,.bool false] w' (Ret fun v w2=>Own w' w2 (slc 9 1 v A.length (txs A)::[]))):=jd fun w' h=>by
     rw [← hA.out];exact ih w' _ (n-k) mk (l.drop k) false (by omega) (by omega) (by have:=hmk9.out;omega) (by have:=hmk9.out;omega) (hrB.out w' h) hsB
    have HR:Hid (∀ w1 qs,Own w w1 qs→Calls Tryz.prog 33 #[.int .i64 32,.slice a k c] w1 (fun e w2=>e=.returned (.string R)∧Own w w2 qs)):=jd fun w1 qs h=>by
     rw [← hR.out];exact (mkroot_any k w1 _ k (l.take k) (Nat.le_refl _) (by omega) (hrA.out w1 h.bare) hsA).mono fun e w2 g=>⟨g.1,h.join g.2⟩
    rw [hsub,hA.out,hR.out,lJ] at hlen
    rw [hA.out,hR.out]
    obtain ⟨na,hna⟩:∃ na,Hid (A.length=na):=⟨_,rfl⟩
    have hna9:na≤1000000:=by rw [← hna.out];simp at hlen;omega
    clear hr hs ih hsub hA hR hk hrA hrB hsA hsB hlen
    go_enter Tryz.func34,Tryz.ntmps34
    go_wp2_with fail
    refine (hC.out _).mono ?_
    rintro e w1 ⟨rfl,hw1⟩
    obtain rfl:w=w1:=hw1.symm
    go_upto_region 9 with (fail)
    refine wp_region_new (fun σ w1=>Own w w1 (newR (.cells #[.string R] 9) 1 (σ 13)++newS A (σ 7))) 14 [7,13] (by kernel_rfl) (by kernel_rfl) (by simpa [Sig.no,newR,newS] using H.drew) ?_
    simp only [List.take_succ_cons,List.take_zero,List.drop_succ_cons,List.drop_zero]
    repeat
     first
     | (refine calm_value (v:=?_) (by decide) rfl (fun σ w1 hS=>?_) ?_
        rotate_left
        ·skip
         first | (go_simp;rfl) | rfl
        simp only [Act.put,putC])
     | (refine calm_skip (by decide) rfl ?_
        simp only [Act.put,putC])
    refine calm_callS (by decide) (by decide) (fun w1=>(by go_simp)) (fun w1 h=>HS.out w1 h) ?_
    repeat
     first
     | (refine calm_value (v:=?_) (by decide) rfl (fun σ w1 hS=>?_) ?_
        rotate_left
        ·skip
         first | (go_simp;rfl) | rfl
        simp only [Act.put,putC])
     | (refine calm_skip (by decide) rfl ?_
        simp only [Act.put,putC])
    refine calm_call (v:=.string R) (by decide) rfl (fun w1=>(by go_simp)) (fun σ w1 hS=>HR.out w1 _ hS) ?_
    simp only [Act.put,putC]
    refine calm_row2 (ps:=fun σ=>newS A (σ 7)) (fun σ v=>(by simp [Sig.upd])) (by decide) (fun w1=>(by go_simp)) ?_
    refine calm_nil ?_
    intro σ wd hσ HD
    obtain ⟨v1,hv1⟩:=Option.isSome_iff_exists.1 (hσ 7 (by decide))
    obtain ⟨v2,hv2⟩:=Option.isSome_iff_exists.1 (hσ 13 (by decide))
    rw [hv1,hv2] at HD
    obtain ⟨g2,rfl,HN⟩:=HD.newr
    clear HD H
    simp only [Jx,List.foldl_cons,List.foldl_nil,hv1,hv2]
    simp only [Act.put,List.setIfInBounds_toArray,List.set_cons_zero,List.set_cons_succ,List.getElem?_cons_succ,List.getElem?_cons_zero,Option.bind_some,Option.getD_some]
    have hrow:=(HN.slc_mk (xs:=[.string R]) (n:=1) (size:=1) rfl (Nat.le_refl _) (by decide) rfl rfl).rd
    have H:Own w wd (slc 9 1 v1 A.length (txs A)::[]):=HN.drop
    clear HN
    rw [hna.out] at H
    go_wp2_with (at_builtin;refine Qn rfl _ _ rfl Tryz.underlying26 Kd rfl (by decide) rfl H hrow (by simp [Value.oneCell']) (by omega) (by omega) ?_;clear H hrow;intro v9 w9 H)
    go_ret
    exact ⟨_,rfl,by rw [lJ,hna.out,Zi];exact H⟩
set_option maxRecDepth 100000 in
set_option maxHeartbeats 3200000 in
theorem csprove_any{w:World}{v:Value}{n m:Nat}{l:List ByteArray}(h9:n≤1000000)(hm1:1≤m)(hmn:m≤n)(hr:Rd w 1 v n (txs l))(hs:∀ s∈l,s.size≤1000000) :
 Calls Tryz.prog 12 #[.int .i64 32,.int .i64 m,v] w (Ret fun r w'=>∃ u,r=.tuple #[u,.int .i64 0]∧Own w w' (slc 9 1 u (msub m l true).length (txs (msub m l true))::[])):=by
 have hS:=jd (cssub_any n w v n m l true (Nat.le_refl _) h9 hm1 hmn hr hs)
 obtain ⟨a,c,rfl,hc1,hc2⟩:=hr.shape
 obtain ⟨A,hA⟩:∃ A,Hid (msub m l true=A):=⟨_,rfl⟩
 rw [hA.out] at hS ⊢
 have g1:¬ (m:Int)<1:=by omega
 have g2:¬ (n:Int)<(m:Int):=by omega
 clear hr hs
 go_enter Tryz.func12,Tryz.ntmps12
 go_wp2_with fail
 refine hS.out.mono ?_
 rintro e w1 ⟨u,rfl,H1⟩
 go_wp2
 go_ret2
 exact ⟨_,rfl,u,rfl,H1⟩
set_option maxRecDepth 100000 in
set_option maxHeartbeats 3200000 in
theorem cslong_any:∀ (d:Nat) (w:World) (n m:Nat) (whole:Bool),n≤d→n≤1000000→1≤m→m≤n →
 Calls Tryz.prog 66 #[.int .i64 m,.int .i64 n,.bool whole] w (fun e w'=>e=.returned (.int .i64 (longF m n whole:Nat))∧w'=w):=by
 intro d
 induction d with
 | zero=>intro w n m whole hd h9 hm1 hmn;omega
 | succ d ih=>
  intro w n m whole hd h9 hm1 hmn
  by_cases hmn2:m=n
  ·subst hmn2
   have hlg:longF m m whole=if whole then 0 else 1:=by rw [longF,dif_pos (.inl rfl)]
   have mm:((m:Int)==(m:Int))=true:=by simp
   rw [hlg]
   clear ih hlg
   cases whole <;>
   ·go_enter Tryz.func66,Tryz.ntmps66
    go_wp2
    go_ret
    exact ⟨rfl,rfl⟩
  ·have h2:2≤n:=by omega
   obtain ⟨k,hk⟩:∃ k,Hid (cutN n=k):=⟨_,rfl⟩
   have hbd:=Jo n h2
   rw [hk.out] at hbd
   obtain ⟨k1,k2,k3⟩:=hbd
   have hC:=jd (Kf n (by omega))
   rw [hk.out] at hC
   have hlg:longF m n whole=if m≤k then longF m k whole+1 else longF (m-k) (n-k) false+1:=by
    rw [longF,dif_neg (by omega),hk.out]
   have mnI:((m:Int)==(n:Int))=false:=by simp;omega
   by_cases hmk:m≤k
   ·have hmkI:(m:Int)≤(k:Int):=by omega
    rw [if_pos hmk] at hlg
    have hI:=jd fun w=>ih w k m whole (by omega) (by omega) hm1 hmk
    have hb:=long_le k k m whole (Nat.le_refl _) hm1 hmk
    obtain ⟨q,hq⟩:∃ q,Hid (longF m k whole=q):=⟨_,rfl⟩
    rw [hq.out] at hI hlg hb
    rw [hlg]
    have eq1:IntKind.i64.wrap ((q:Int)+1)=((q+1:Nat):Int):=by rw [IntWalk.i64_in _ ⟨by omega,by omega⟩];omega
    clear ih hlg hk
    go_enter Tryz.func66,Tryz.ntmps66
    go_wp2_with fail
    refine (hC.out _).mono ?_
    rintro e w1 ⟨rfl,hw1⟩
    obtain rfl:w=w1:=hw1.symm
    go_wp2_with fail
    refine (hI.out _).mono ?_
    rintro e w1 ⟨rfl,hw2⟩
    obtain rfl:w=w1:=hw2.symm
    go_wp2
    go_ret
    exact ⟨rfl,rfl⟩
   ·have hmkI:¬ (m:Int)≤(k:Int):=by omega
    rw [if_neg hmk] at hlg
    obtain ⟨mk,hmk9⟩:∃ mk,Hid (m-k=mk):=⟨_,rfl⟩
    obtain ⟨nk,hnk9⟩:∃ mk,Hid (n-k=mk):=⟨_,rfl⟩
    rw [hmk9.out,hnk9.out] at hlg
    have emk:IntKind.i64.wrap ((m:Int)-(k:Int))=(mk:Int):=by have:=hmk9.out;rw [IntWalk.i64_in _ ⟨by omega,by omega⟩];omega
    have enk:IntKind.i64.wrap ((n:Int)-(k:Int))=(nk:Int):=by have:=hnk9.out;rw [IntWalk.i64_in _ ⟨by omega,by omega⟩];omega
    have hI:=jd fun w=>ih w nk mk false (by have:=hnk9.out;omega) (by have:=hnk9.out;omega) (by have:=hmk9.out;omega) (by have:=hnk9.out;have:=hmk9.out;omega)
    have hb:=long_le nk nk mk false (Nat.le_refl _) (by have:=hmk9.out;omega) (by have:=hnk9.out;have:=hmk9.out;omega)
    have hnk1:nk≤1000000:=by have:=hnk9.out;omega
    obtain ⟨q,hq⟩:∃ q,Hid (longF mk nk false=q):=⟨_,rfl⟩
    rw [hq.out] at hI hlg hb
    rw [hlg]
    have eq1:IntKind.i64.wrap ((q:Int)+1)=((q+1:Nat):Int):=by rw [IntWalk.i64_in _ ⟨by omega,by omega⟩];omega
    clear ih hlg hk
    go_enter Tryz.func66,Tryz.ntmps66
    go_wp2_with fail
    refine (hC.out _).mono ?_
    rintro e w1 ⟨rfl,hw1⟩
    obtain rfl:w=w1:=hw1.symm
    go_wp2_with fail
    refine (hI.out _).mono ?_
    rintro e w1 ⟨rfl,hw2⟩
    obtain rfl:w=w1:=hw2.symm
    go_wp2
    go_ret
    exact ⟨rfl,rfl⟩
theorem roots_size:∀ (d n m:Nat) (known:ByteArray) (p:List ByteArray) (whole:Bool),n≤d→1≤m→m≤n→p.length=longF m n whole→known.size=32→(∀ s∈p,s.size=32) →
 (Zl nodeF m n known p whole).1.size=32∧(Zl nodeF m n known p whole).2.size=32:=by
 intro d
 induction d with
 | zero=>intro n m known p whole hd hm1 hmn;omega
 | succ d ih=>
  intro n m known p whole hd hm1 hmn hp hk hs
  rw [longF] at hp
  rw [Zl]
  by_cases h:m=n∨n<2
  ·rw [dif_pos h] at hp ⊢
   cases whole with
   | true=>exact ⟨hk,hk⟩
   | false=>
    match p,hp with
    | [x],_=>exact ⟨hs x (by simp),hs x (by simp)⟩
  ·rw [dif_neg h] at hp ⊢
   have hbd:=Jo n (by omega)
   have hd':∀ s∈p.dropLast,s.size=32:=fun s h=>hs s (List.dropLast_subset _ h)
   by_cases hc:m≤cutN n
   ·rw [if_pos hc] at hp ⊢
    have:=ih (cutN n) m known p.dropLast whole (by omega) hm1 hc (by rw [List.length_dropLast,hp];rfl) hk hd'
    exact ⟨this.1,Vk _ _⟩
   ·rw [if_neg hc]
    exact ⟨Vk _ _,Vk _ _⟩
set_option maxRecDepth 100000 in
set_option maxHeartbeats 12800000 in
theorem csroots_any:∀ (d:Nat) (w:World) (v:Value) (np n m:Nat) (known:ByteArray) (p:List ByteArray) (whole:Bool),n≤d→n≤1000000→1≤m→m≤n→np=longF m n whole→Rd w 1 v np (txs p)→known.size=32→(∀ s∈p,s.size=32) →
 Calls Tryz.prog 68 #[.int .i64 32,.int .i64 m,.int .i64 n,.string known,v,.bool whole] w (fun e w'=>e=.returned (.tuple #[.string (Zl nodeF m n known p whole).1,.string (Zl nodeF m n known p whole).2])∧Own w w' []):=by
 intro d
 induction d with
 | zero=>intro w v np n m known p whole hd h9 hm1 hmn;omega
 | succ d ih=>
  intro w v np n m known p whole hd h9 hm1 hmn hnp hr hk hs
  obtain ⟨a,c,rfl,hc1,hc2⟩:=hr.shape
  have hl:p.length=np:=by have:=hr.len;rw [Qr] at this;omega
  have H:=Own.start w
  by_cases hmn2:m=n
  ·subst hmn2
   rw [longF,dif_pos (.inl rfl)] at hnp
   rw [Zl,dif_pos (.inl rfl)]
   have mm:((m:Int)==(m:Int))=true:=by simp
   cases whole with
   | true=>
    clear ih hr hs
    go_enter Tryz.func68,Tryz.ntmps68
    go_wp2
    go_ret2
    exact ⟨rfl,H⟩
   | false=>
    rw [if_neg (by decide)] at hnp
    subst hnp
    obtain ⟨x,rfl⟩:∃ x,p=[x]:=by
     match p,hl with
     | [x],_=>exact ⟨x,rfl⟩
    obtain ⟨b,o,c',e,-⟩:=Rd.some hr (by simp [txs])
    cases e
    have HC:Hid (∀ w1,Own w w1 []→w1.cell? ⟨b,o,none⟩=some (.string x)):=jd fun w1 h=>by
     have:=Rd.cell (hr.old h) (j:=0) (u:=.string x) (by simp [txs])
     rw [Nat.add_zero] at this
     exact this
    rw [if_neg (by decide),List.headD_cons]
    clear ih hr hs
    go_enter Tryz.func68,Tryz.ntmps68
    go_upto_region 4 with (fail)
    refine Qa (fun w1=>Own w w1 []) 7 (by kernel_rfl) (by kernel_rfl) H.drew ?_
    simp only [List.take_succ_cons,List.take_zero,List.drop_succ_cons,List.drop_zero]
    repeat
     first
     | (refine calm_value (v:=?_) (by decide) rfl (fun σ w1 hS=>?_) ?_
        rotate_left
        ·have c0:=HC.out _ hS
         first | (go_simp;rfl) | rfl
        simp only [Act.put,putC])
     | (refine calm_skip (by decide) rfl ?_
        simp only [Act.put,putC])
    refine calm_nil ?_
    intro wd HD
    go_wp2
    go_ret2
    exact ⟨rfl,HD⟩
  ·have h2:2≤n:=by omega
   rw [longF,dif_neg (by omega)] at hnp
   rw [Zl,dif_neg (by omega)]
   obtain ⟨k,hk9⟩:∃ k,Hid (cutN n=k):=⟨_,rfl⟩
   have hbd:=Jo n h2
   rw [hk9.out] at hbd hnp ⊢
   obtain ⟨k1,k2,k3⟩:=hbd
   have hC:=jd (Kf n (by omega))
   rw [hk9.out] at hC
   have mnI:((m:Int)==(n:Int))=false:=by simp;omega
   have hnp1:1≤np:=by rw [hnp];split <;> omega
   have hnp9:np≤1000000:=by
    have:=long_le n n m whole (Nat.le_refl _) hm1 hmn
    rw [longF,dif_neg (by omega),hk9.out,← hnp] at this
    omega
   obtain ⟨q,z,rfl⟩:∃ q z,p=q++[z]:=⟨p.dropLast,p.getLast (by intro e;rw [e] at hl;simp at hl;omega),(List.dropLast_concat_getLast _).symm⟩
   rw [List.dropLast_concat,List.getLastD_concat]
   obtain ⟨j,hj⟩:∃ j,Hid (np-1=j):=⟨_,rfl⟩
   have hql:q.length=j:=by have:=hj.out;rw [lJ] at hl;simp at hl;omega
   have hzs:z.size=32:=hs z (by simp)
   have hqs:∀ s∈q,s.size=32:=fun s h=>hs s (by simp [h])
   obtain ⟨b,o,c',e,-⟩:=Rd.some hr (by rw [Qr];omega)
   cases e
   have HC:Hid (∀ w1 qs,Own w w1 qs→w1.cell? ⟨b,o+j,none⟩=some (.string z)):=jd fun w1 qs h=>Rd.cell (hr.old h) (j:=j) (u:=.string z) (by rw [Kp];rw [List.getElem?_append_right (by omega),hql,Nat.sub_self];rfl)
   have ej:IntKind.i64.wrap ((np:Int)-1)=(j:Int):=by have:=hj.out;rw [IntWalk.i64_in _ ⟨by omega,by omega⟩];omega
   have hjI:(j:Int)<(np:Int):=by have:=hj.out;omega
   have hjn:j<np:=by have:=hj.out;omega
   have hjc:j≤c:=by omega
   have hjcI:(j:Int)≤(c:Int):=by omega
   have hrq:Hid (∀ w',Own w w' []→Rd w' 1 (.slice (some ⟨b,o,none⟩) j c) j (txs q)):=jd fun w' h=>by
    have hr2:=(hr.old h).take (k:=j) (by omega)
    rw [Nat.mul_one,Zi,List.take_append_of_le_length (by rw [Qr];omega),List.take_of_length_le (by rw [Qr];omega)] at hr2
    exact hr2
   have HN:Hid (∀ (A B:ByteArray) w1,A.size=32→B.size=32→Own w w1 []→Calls Tryz.prog 32 #[.int .i64 32,.string A,.string B] w1 (fun e w2=>e=.returned (.string (nodeF A B))∧Own w w2 [])):=jd fun A B w1 h1 h2 h=>(mknode_any A B (by omega) (by omega) w1).mono fun e w2 g=>⟨g.1,h.join g.2⟩
   by_cases hmk:m≤k
   ·have hmkI:(m:Int)≤(k:Int):=by omega
    rw [if_pos hmk] at hnp ⊢
    have hjl:j=longF m k whole:=by have:=hj.out;omega
    have hsz:=roots_size k k m known q whole (Nat.le_refl _) hm1 hmk (by rw [hql,hjl]) hk hqs
    have HI:Hid (∀ w1,Own w w1 []→Calls Tryz.prog 68 #[.int .i64 32,.int .i64 m,.int .i64 k,.string known,.slice (some ⟨b,o,none⟩) j c,.bool whole] w1 (fun e w2=>e=.returned (.tuple #[.string (Zl nodeF m k known q whole).1,.string (Zl nodeF m k known q whole).2])∧Own w w2 [])):=jd fun w1 h=>(ih w1 _ j k m known q whole (by omega) (by omega) hm1 hmk hjl (hrq.out w1 h) hk hqs).mono fun e w2 g=>⟨g.1,h.join g.2⟩
    obtain ⟨A,hA⟩:∃ A,Hid ((Zl nodeF m k known q whole).1=A):=⟨_,rfl⟩
    obtain ⟨B,hB⟩:∃ A,Hid ((Zl nodeF m k known q whole).2=A):=⟨_,rfl⟩
    rw [hA.out,hB.out] at HI hsz ⊢
    obtain ⟨N,hN⟩:∃ N,Hid (nodeF B z=N):=⟨_,rfl⟩
    have HN1:Hid (∀ w1,Own w w1 []→Calls Tryz.prog 32 #[.int .i64 32,.string B,.string z] w1 (fun e w2=>e=.returned (.string N)∧Own w w2 [])):=jd fun w1 h=>by rw [← hN.out];exact HN.out B z w1 hsz.2 hzs h
    rw [hN.out]
    clear ih hr hs hnp hjl hsz hqs hrq hk9 hA hB hN HN hl hql hj
    have c0:=HC.out _ _ H
    go_enter Tryz.func68,Tryz.ntmps68
    go_wp2_with fail
    refine (hC.out _).mono ?_
    rintro e w1 ⟨rfl,hw1⟩
    obtain rfl:w=w1:=hw1.symm
    go_wp2_with fail
    refine (HI.out _ H).mono ?_
    rintro e w2 ⟨rfl,H2⟩
    go_wp2_with fail
    refine (HN1.out _ H2).mono ?_
    rintro e w3 ⟨rfl,H3⟩
    go_wp2
    go_ret2
    exact ⟨rfl,H3⟩
   ·have hmkI:¬ (m:Int)≤(k:Int):=by omega
    rw [if_neg hmk] at hnp ⊢
    obtain ⟨mk,hmk9⟩:∃ mk,Hid (m-k=mk):=⟨_,rfl⟩
    obtain ⟨nk,hnk9⟩:∃ mk,Hid (n-k=mk):=⟨_,rfl⟩
    rw [hmk9.out,hnk9.out] at hnp ⊢
    have emk:IntKind.i64.wrap ((m:Int)-(k:Int))=(mk:Int):=by have:=hmk9.out;rw [IntWalk.i64_in _ ⟨by omega,by omega⟩];omega
    have enk:IntKind.i64.wrap ((n:Int)-(k:Int))=(nk:Int):=by have:=hnk9.out;rw [IntWalk.i64_in _ ⟨by omega,by omega⟩];omega
    have b1:1≤mk:=by have:=hmk9.out;omega
    have b2:mk≤nk:=by have:=hmk9.out;have:=hnk9.out;omega
    have b3:nk≤d:=by have:=hnk9.out;omega
    have b4:nk≤1000000:=by have:=hnk9.out;omega
    have hjl:j=longF mk nk false:=by have:=hj.out;omega
    have hsz:=roots_size nk nk mk known q false (Nat.le_refl _) b1 b2 (by rw [hql,hjl]) hk hqs
    have HI:Hid (∀ w1,Own w w1 []→Calls Tryz.prog 68 #[.int .i64 32,.int .i64 mk,.int .i64 nk,.string known,.slice (some ⟨b,o,none⟩) j c,.bool false] w1 (fun e w2=>e=.returned (.tuple #[.string (Zl nodeF mk nk known q false).1,.string (Zl nodeF mk nk known q false).2])∧Own w w2 [])):=jd fun w1 h=>(ih w1 _ j nk mk known q false b3 b4 b1 b2 hjl (hrq.out w1 h) hk hqs).mono fun e w2 g=>⟨g.1,h.join g.2⟩
    obtain ⟨A,hA⟩:∃ A,Hid ((Zl nodeF mk nk known q false).1=A):=⟨_,rfl⟩
    obtain ⟨B,hB⟩:∃ A,Hid ((Zl nodeF mk nk known q false).2=A):=⟨_,rfl⟩
    rw [hA.out,hB.out] at HI hsz ⊢
    obtain ⟨N,hN⟩:∃ N,Hid (nodeF z A=N):=⟨_,rfl⟩
    obtain ⟨M,hM⟩:∃ N,Hid (nodeF z B=N):=⟨_,rfl⟩
    have HN1:Hid (∀ w1,Own w w1 []→Calls Tryz.prog 32 #[.int .i64 32,.string z,.string A] w1 (fun e w2=>e=.returned (.string N)∧Own w w2 [])):=jd fun w1 h=>by rw [← hN.out];exact HN.out z A w1 hzs hsz.1 h
    have HN2:Hid (∀ w1,Own w w1 []→Calls Tryz.prog 32 #[.int .i64 32,.string z,.string B] w1 (fun e w2=>e=.returned (.string M)∧Own w w2 [])):=jd fun w1 h=>by rw [← hM.out];exact HN.out z B w1 hzs hsz.2 h
    rw [hN.out,hM.out]
    clear ih hr hs hnp hjl hsz hqs hrq hk9 hA hB hN hM HN hl hql hj
    have c0:=HC.out _ _ H
    go_enter Tryz.func68,Tryz.ntmps68
    go_wp2_with fail
    refine (hC.out _).mono ?_
    rintro e w1 ⟨rfl,hw1⟩
    obtain rfl:w=w1:=hw1.symm
    go_wp2_with fail
    refine (HI.out _ H).mono ?_
    rintro e w2 ⟨rfl,H2⟩
    go_wp2_with fail
    refine (HN1.out _ H2).mono ?_
    rintro e w3 ⟨rfl,H3⟩
    go_wp2_with fail
    refine (HN2.out _ H3).mono ?_
    rintro e w4 ⟨rfl,H4⟩
    go_wp2
    go_ret2
    exact ⟨rfl,H4⟩
theorem short_any(f:FuncId)(hf:f=65∨f=70)(x:ByteArray)(hx:x.size=32)(g:Nat)(w:World)(hc:w.cell? ⟨g,0,none⟩=some (.int .i64 32)) :
 Calls Tryz.prog f #[.string x,.pointer (some ⟨g,0,none⟩)] w (fun e w'=>e=.returned (.bool false)∧w'=w):=by
 have hW:=jd mkwidth_any
 have hx2:(x.size:Int)=32:=by omega
 rcases hf with rfl | rfl
 ·go_enter Tryz.func65,Tryz.ntmps65
  go_wp2_with fail
  refine (hW.out _).mono ?_
  rintro e w1 ⟨rfl,hw1⟩
  obtain rfl:w=w1:=hw1.symm
  go_wp2
  go_ret
  exact ⟨rfl,rfl⟩
 ·go_enter Tryz.func70,Tryz.ntmps70
  go_wp2_with fail
  refine (hW.out _).mono ?_
  rintro e w1 ⟨rfl,hw1⟩
  obtain rfl:w=w1:=hw1.symm
  go_wp2
  go_ret
  exact ⟨rfl,rfl⟩
abbrev shortV(f:FuncId)(g:Nat):Value:=.func (.func f) #[] #[.pointer (some ⟨g,0,none⟩)]
set_option maxHeartbeats 1600000 in
theorem idxshort_any(f:FuncId)(hf:f=65∨f=70){w:World}{v:Value}{n g:Nat}{l:List ByteArray}(hr:Rd w 1 v n (txs l))(hs:∀ s∈l,s.size=32)(hc:w.cell? ⟨g,0,none⟩=some (.int .i64 32)) :
 Calls Tryz.prog 115 #[v,shortV f g] w (fun e w'=>e=.returned (.int .i64 (-1))∧w'=w):=by
 obtain ⟨a,c,rfl,hc1,hc2⟩:=hr.shape
 have hl:l.length=n:=by have:=hr.len;rw [Qr] at this;omega
 have hS:Hid (∀ i s,l[i]?=some s→Calls Tryz.prog f #[.string s,.pointer (some ⟨g,0,none⟩)] w (fun e w'=>e=.returned (.bool false)∧w'=w)):=jd fun i s h=>short_any f hf s (hs s (List.mem_of_getElem? h)) g w hc
 have hne:f≠0→True:=fun _=>trivial
 clear hs hc
 go_enter Tryz.func115,Tryz.ntmps115
 go_wp2_with fail
 go_loopw [5,8] (fun _ v8 wx=>∃ i:Nat,v8=.int .i64 i∧i≤n∧wx=w) (fun _ v8 _=>n-(intOf v8).toNat)
 case atStart=>exact ⟨0,by go_num,by omega,rfl⟩
 case round=>
  obtain ⟨i,rfl,hi,rfl⟩:=hrel
  by_cases hin:i<n
  ·have hiI:(i:Int)<(n:Int):=by omega
   obtain ⟨s,hs⟩:=Ql (l:=l) (k:=i) (by omega)
   obtain ⟨b,o,c',e⟩:=Rd.some hr (by rw [Qr];omega)
   obtain ⟨e,-,-⟩:=e
   cases e
   have hcell:=hr.cell (Kp hs)
   have hS1:=jd (hS.out i s hs)
   replace hs:=jd hs
   rcases hf with rfl | rfl
   all_goals
    go_wp2_with fail
    refine hS1.out.mono ?_
    rintro e w2 ⟨rfl,hw2⟩
    obtain rfl:wr=w2:=hw2.symm
    go_wp2_with fail
    go_roundw
    case rel=>exact ⟨i+1,by go_num,by omega,(by first | rfl | trivial)⟩
    case measure=>simp [intOf];omega
  ·obtain rfl:i=n:=by omega
   have hnI:¬ (i:Int)<(i:Int):=by omega
   go_wp2
   go_ret
   exact ⟨rfl,rfl⟩
set_option maxHeartbeats 800000 in
theorem hasshort_any(f:FuncId)(hf:f=65∨f=70){w:World}{v:Value}{n g:Nat}{l:List ByteArray}(hr:Rd w 1 v n (txs l))(hs:∀ s∈l,s.size=32)(hc:w.cell? ⟨g,0,none⟩=some (.int .i64 32)) :
 Calls Tryz.prog 67 #[v,shortV f g] w (fun e w'=>e=.returned (.bool false)∧w'=w):=by
 have hI:=jd (idxshort_any f hf hr hs hc)
 clear hr hs hc
 go_enter Tryz.func67,Tryz.ntmps67
 go_wp2_with fail
 refine hI.out.mono ?_
 rintro e w2 ⟨rfl,hw2⟩
 obtain rfl:w=w2:=hw2.symm
 go_wp2
 go_ret
 exact ⟨rfl,rfl⟩
set_option maxRecDepth 100000 in
set_option maxHeartbeats 6400000 in
theorem csRoots_any{w:World}{v:Value}{np n m:Nat}{known:ByteArray}{p:List ByteArray}(h9:n≤1000000)(hm1:1≤m)(hmn:m≤n)(hnp:np=longF m n true)(hr:Rd w 1 v np (txs p))(hk:known.size=32)(hs:∀ s∈p,s.size=32) :
 Calls Tryz.prog 35 #[.int .i64 32,.int .i64 m,.int .i64 n,.string known,v] w (fun e w'=>e=.returned (.tuple #[.string (Zl nodeF m n known p true).1,.string (Zl nodeF m n known p true).2,.int .i64 0])∧Own w w' []):=by
 have HL:=jd fun w=>cslong_any n w n m true (Nat.le_refl _) h9 hm1 hmn
 rw [← hnp] at HL
 have HR:=jd fun w' (h:Own w w' [])=>csroots_any n w' v np n m known p true (Nat.le_refl _) h9 hm1 hmn hnp (hr.old h) hk hs
 obtain ⟨A,hA⟩:∃ A,Hid ((Zl nodeF m n known p true).1=A):=⟨_,rfl⟩
 obtain ⟨B,hB⟩:∃ A,Hid ((Zl nodeF m n known p true).2=A):=⟨_,rfl⟩
 rw [hA.out,hB.out] at HR ⊢
 obtain ⟨a,c,rfl,hc1,hc2⟩:=hr.shape
 have H:=(Own.start w).alloc (.cells #[.int .i64 32] 3)
 have g1:¬ (m:Int)<1:=by omega
 have g2:¬ (n:Int)<(m:Int):=by omega
 have nn:((np:Int)==(np:Int))=true:=by simp
 go_enter Tryz.func35,Tryz.ntmps35
 go_upto_region 1 with (fail)
 generalize w.alloc _=w1 at *
 generalize w.heap.size=g at *
 have c0:w1.cell? ⟨g,0,none⟩=some (.int .i64 32):=by rw [H.cells];rfl
 have HS:=jd (short_any 65 (.inl rfl) known hk g w1 c0)
 have HC:=jd (hasshort_any 65 (.inl rfl) (hr.old H.bare) hs c0)
 clear hr hs hnp
 go_wp2_with fail
 refine (HL.out _).mono ?_
 rintro e w2 ⟨rfl,hw2⟩
 obtain rfl:w1=w2:=hw2.symm
 go_wp2_with fail
 refine HS.out.mono ?_
 rintro e w2 ⟨rfl,hw2⟩
 obtain rfl:w1=w2:=hw2.symm
 go_wp2_with fail
 refine HC.out.mono ?_
 rintro e w2 ⟨rfl,hw2⟩
 obtain rfl:w1=w2:=hw2.symm
 go_wp2_with fail
 refine (HR.out _ H.bare).mono ?_
 rintro e w3 ⟨rfl,H3⟩
 go_wp2
 go_ret3
 exact ⟨rfl,(H.join H3).bare⟩
theorem root_32(l:List ByteArray)(h:1≤l.length)(hs:∀ s∈l,s.size=32):(mroot l).size=32:=by
 by_cases h2:2≤l.length
 ·rw [mroot,Zs h2,Vk]
 ·match l,h,h2 with
  | [x],_,_=>rw [mroot,Vj];exact hs x (by simp)
  | [],h,_=>exact absurd h (by simp)
  | x::y::r,_,h2=>exact absurd (by simp) h2
theorem sub_size:∀ (d m:Nat) (l:List ByteArray) (whole:Bool),l.length≤d→1≤m→m≤l.length→(∀ s∈l,s.size=32)→∀ s∈msub m l whole,s.size=32:=by
 intro d
 induction d with
 | zero=>intro m l whole hd h1 h2;omega
 | succ d ih=>
  intro m l whole hd h1 h2 hs s hm
  rw [msub,subF] at hm
  by_cases h:m=l.length∨l.length<2
  ·rw [dif_pos h] at hm
   cases whole with
   | true=>simp at hm
   | false=>
    rw [if_neg (by decide),List.mem_singleton] at hm
    rw [hm]
    exact root_32 l (by omega) hs
  ·rw [dif_neg h] at hm
   have hbd:=Jo l.length (by omega)
   by_cases hc:m≤cutN l.length
   ·rw [if_pos hc,List.mem_append,List.mem_singleton] at hm
    rcases hm with hm | hm
    ·exact ih m (l.take (cutN l.length)) whole (by rw [List.length_take];omega) h1 (by rw [List.length_take];omega) (fun s h=>hs s (List.mem_of_mem_take h)) s hm
    ·rw [hm]
     exact root_32 _ (by rw [List.length_drop];omega) fun s h=>hs s (List.mem_of_mem_drop h)
   ·rw [if_neg hc,List.mem_append,List.mem_singleton] at hm
    rcases hm with hm | hm
    ·exact ih (m-cutN l.length) (l.drop (cutN l.length)) false (by rw [List.length_drop];omega) (by omega) (by rw [List.length_drop];omega) (fun s h=>hs s (List.mem_of_mem_drop h)) s hm
    ·rw [hm]
     exact root_32 _ (by rw [List.length_take];omega) fun s h=>hs s (List.mem_of_mem_take h)
set_option maxRecDepth 100000 in
set_option maxHeartbeats 3200000 in
theorem cscheck_any{w:World}{v:Value}{n m:Nat}{l:List ByteArray}(h9:n≤1000000)(hm1:1≤m)(hmn:m≤n)(hln:l.length=n)(hls:∀ s∈l,s.size=32)(hr:Rd w 1 v (msub m l true).length (txs (msub m l true))) :
 Calls Tryz.prog 13 #[.int .i64 32,.int .i64 m,.int .i64 n,.string (mroot (l.take m)),.string (mroot l),v] w (fun e w'=>e=.returned (.int .i64 0)∧Own w w' []):=by
 obtain ⟨P,hP⟩:∃ P,Hid (msub m l true=P):=⟨_,rfl⟩
 have hPl:P.length=longF m n true:=by rw [← hP.out,msub,sub_long _ _ _ _ (Nat.le_refl _),hln]
 have hroots:Zl nodeF m n (mroot (l.take m)) P true=(mroot (l.take m),mroot l):=by
  rw [← hP.out,← hln]
  exact roots_sub _ m l _ true (Nat.le_refl _) hm1 (by omega) (fun _=>rfl)
 have hPs:∀ s∈P,s.size=32:=by rw [← hP.out];exact sub_size n m l true (by omega) hm1 (by omega) hls
 have hk:(mroot (l.take m)).size=32:=root_32 _ (by rw [List.length_take];omega) fun s h=>hls s (List.mem_of_mem_take h)
 rw [hP.out] at hr
 have hR:=csRoots_any (known:=mroot (l.take m)) h9 hm1 hmn hPl hr hk hPs
 rw [hroots] at hR
 obtain ⟨A,hA⟩:∃ A,Hid (mroot (l.take m)=A):=⟨_,rfl⟩
 obtain ⟨B,hB⟩:∃ A,Hid (mroot l=A):=⟨_,rfl⟩
 rw [hA.out,hB.out] at hR ⊢
 replace hR:=jd hR
 clear hr hroots hPs hk hPl
 go_enter Tryz.func13,Tryz.ntmps13
 go_wp2_with fail
 refine hR.out.mono ?_
 rintro e w2 ⟨rfl,H2⟩
 go_wp2
 go_ret
 exact ⟨rfl,H2⟩
theorem bts_bn(s:ByteArray):Lib.byteCells s.data.toList=bts (bn s):=bn_cells s
section
variable {w0 w:World} {ps:List Piece} {e:TypeId}
theorem Own.blkRd{g n:Nat}{L:List Int}{q:Nat}(H:Own w0 w (blk g (.cells (bts L).toArray e)::ps))(hl:L.length=q+n)(hn:n≤1000000000):Rd w 1 (.slice (some ⟨g,q,none⟩) n n) n (bts (L.drop q)):=by
 refine ⟨by rw [Qx,List.length_drop,hl];omega,some ⟨g,q,none⟩,n,rfl,Nat.le_refl _,by simp [maxLen];omega,by simp,?_⟩
 intro ad had j u hu
 obtain rfl:=Option.some.inj had
 rw [Addr.add_lit,H.cells,List.getElem?_toArray]
 rw [bts,List.map_drop,List.getElem?_drop] at hu
 exact hu
theorem bts_get{l:List Int}{i:Nat}(h:i<l.length):(bts l).toArray[i]?=some (.int .u8 (l.getD i 0)):=by
 rw [List.getElem?_toArray,bts,List.getElem?_map,List.getD_eq_getElem?_getD,List.getElem?_eq_getElem h]
 rfl
theorem bts_set(l:List Int)(k:Nat)(v:Int):(bts l).toArray.setIfInBounds k (.int .u8 v)=(bts (l.set k v)).toArray:=by
 rw [List.setIfInBounds_toArray,bts,bts,List.map_set]
theorem wpList_copy_text{P:Program}{ops:Array Oper}{rest:List Oper}{o:Oper}{a:Act}{Q:Exit→Act→World→Prop}(hgd:o.guard=none)(d s:Operand){dT sT el:TypeId}(ho:o.op=.call { callee:=.builtin .copy,args:=#[d,s],argTypes:=#[dT,sT] })
 (hu:P.underlying dT=some (.slice el)) (hs:(P.info? el).map (·.size)=some 1) {g n c:Nat} {x:ByteArray} {L:List Int} (hd:a.eval d=.slice (some ⟨g,0,none⟩) n c) (hx:a.eval s=.string x)
 (H:Own w0 w (blk g (.cells (bts L).toArray e)::ps)) (hle:x.size≤n) (hl:L.length=n)
 (h:∀ w',Own w0 w' (blk g (.cells (bts (bn x++L.drop x.size)).toArray e)::ps)→wpList P ops Q rest (a.put o.dst (.int .i64 x.size)) w'):wpList P ops Q (o::rest) a w:=by
 refine wpList_plain hgd fun K hK=>?_
 have hrun:=Lib.run_copy_row_string (P:=P) w dT sT o.type el g 0 n c x (bts L).toArray e hu hs H.block.1 hle (by rw [List.size_toArray,Qx];omega)
 unfold Oper.wp
 simp [execOp,ho,resolve,invoke,builtin,hd,hx,hrun,Result.andThen]
 have e1:(bts L).toArray.toList.take 0++Lib.byteCells x.data.toList++(bts L).toArray.toList.drop (0+x.size)=bts (bn x++L.drop x.size):=by
  rw [bts_bn,Zv,Nat.zero_add]
  simp [bts,List.map_drop]
 have h2:=H.setRow (cur':=(bts (bn x++L.drop x.size)).toArray)
 refine hK _ _ ?_
 have:=h _ h2
 rw [← e1] at this
 simpa [goInt] using this
end
def z64:List Int:=List.replicate 64 0
theorem z64_length:z64.length=64:=by simp [z64]
def keyF(key:ByteArray):ByteArray:=if 64<key.size then shaF (bn key) else key
theorem key_size(key:ByteArray):(keyF key).size≤64:=by
 unfold keyF
 split
 ·rw [Vh];omega
 ·omega
def xorL(L:List Int)(m:Int):Nat→List Int
 | 0=>L
 | i+1=>(xorL L m i).set i (bits .xor .u8 ((xorL L m i).getD i 0) m)
theorem xor_length(L:List Int)(m:Int):∀ i,(xorL L m i).length=L.length
 | 0=>rfl
 | i+1=>by rw [xorL,List.length_set,xor_length L m i]
def keyL(key:ByteArray):List Int:=bn (keyF key)++z64.drop (keyF key).size
theorem keyL_length(key:ByteArray):(keyL key).length=64:=by
 have:=key_size key
 rw [keyL,lJ,Qu,List.length_drop,z64_length];omega
def padL(key:ByteArray)(m:Int):List Int:=xorL (keyL key) m 64
def padF(key:ByteArray)(m:Int):ByteArray:=strOfNums (padL key m)
theorem padL_length(key:ByteArray)(m:Int):(padL key m).length=64:=by rw [padL,xor_length,keyL_length]
theorem padF_size(key:ByteArray)(m:Int):(padF key m).size=64:=by rw [padF,strOfNums_size,padL_length]
set_option maxRecDepth 100000 in
set_option maxHeartbeats 3200000 in
theorem mcpad_any(key:ByteArray)(hk:key.size≤100000000000)(m:Int)(w:World) :
 Calls Tryz.prog 92 #[.string key,.int .u8 m] w (fun e w'=>e=.returned (.string (padF key m))∧Own w w' []):=by
 obtain ⟨RES,hRES⟩:∃ s,Hid (padF key m=s):=⟨_,rfl⟩
 rw [hRES.out]
 have H:=(Own.start w).alloc (.cells #[.int .u8 0,.int .u8 0,.int .u8 0,.int .u8 0,.int .u8 0,.int .u8 0,.int .u8 0,.int .u8 0,.int .u8 0,.int .u8 0,.int .u8 0,.int .u8 0,.int .u8 0,.int .u8 0,.int .u8 0,.int .u8 0,.int .u8 0,.int .u8 0,.int .u8 0,.int .u8 0,.int .u8 0,.int .u8 0,.int .u8 0,.int .u8 0,.int .u8 0,.int .u8 0,.int .u8 0,.int .u8 0,.int .u8 0,.int .u8 0,.int .u8 0,.int .u8 0,.int .u8 0,.int .u8 0,.int .u8 0,.int .u8 0,.int .u8 0,.int .u8 0,.int .u8 0,.int .u8 0,.int .u8 0,.int .u8 0,.int .u8 0,.int .u8 0,.int .u8 0,.int .u8 0,.int .u8 0,.int .u8 0,.int .u8 0,.int .u8 0,.int .u8 0,.int .u8 0,.int .u8 0,.int .u8 0,.int .u8 0,.int .u8 0,.int .u8 0,.int .u8 0,.int .u8 0,.int .u8 0,.int .u8 0,.int .u8 0,.int .u8 0,.int .u8 0] 154)
 go_enter Tryz.func92,Tryz.ntmps92
 go_upto_region 2 with (fail)
 generalize w.alloc _=w1 at *
 generalize w.heap.size=g at *
 replace H:Own w w1 (blk g (.cells (bts z64).toArray 154)::[]):=H
 obtain ⟨K,hK⟩:∃ K,Hid (keyF key=K):=⟨_,rfl⟩
 have hK64:K.size≤64:=by rw [← hK.out];exact key_size key
 go_upto_if 9 with (fail)
 go_cut [0,10,11,12] (fun s0 _ _ _ wx=>s0=.string K∧Own w wx (blk g (.cells (bts z64).toArray 154)::[]))
 case first=>
  by_cases hk64:64<key.size
  ·have hkI:(64:Int)<(key.size:Int):=by omega
   have hKe:shaF (bn key)=K:=by rw [← hK.out,keyF,if_pos hk64]
   have H2:=H.made [.string key] 9 1 1 rfl (by decide)
   have hS:=shsums_any (l:=[key]) H2.rd (by simp only [bns,List.flatMap_cons,List.flatMap_nil,List.append_nil,Qu];omega)
   rw [show bns [key]=bn key by simp [bns],hKe] at hS
   replace hS:=jd hS
   go_wp2_with fail
   refine hS.out.mono ?_
   rintro e w2 ⟨rfl,H3⟩
   go_wp2
   go_meet
   exact ⟨rfl,(H2.drop.join H3)⟩
  ·have hkI:¬ (64:Int)<(key.size:Int):=by omega
   have hKe:key=K:=by rw [← hK.out,keyF,if_neg hk64]
   go_wp2
   go_meet
   exact ⟨by first | rfl | rw [hKe],H⟩
 case rest=>
  obtain ⟨rfl,H2⟩:=hcut
  clear H
  obtain ⟨L,hL⟩:∃ L,Hid (keyL key=L):=⟨_,rfl⟩
  have hLl:L.length=64:=by rw [← hL.out];exact keyL_length key
  have hLe:Hid (bn K++z64.drop K.size=L):=jd (by rw [← hL.out,keyL,hK.out])
  have hR2:Hid (strOfNums (xorL L m 64)=RES):=jd (by rw [← hRES.out,padF,padL,hL.out])
  clear hRES hK hL
  go_upto_region 4 with (fail)
  refine wp_region_list ?_
  refine wpList_value rfl (u:=.slice (some ⟨g,0,none⟩) 64 64) (by go_simp) ?_
  simp only [Act.put,putC]
  refine wpList_value rfl (u:=.string K) (by go_simp) ?_
  simp only [Act.put,putC]
  refine wpList_copy_text rfl _ _ rfl Tryz.underlying58 (by kernel_rfl) rfl rfl H2 hK64 z64_length ?_
  clear H2
  intro w3 H2
  rw [hLe.out] at H2
  simp only [Act.put,putC]
  refine wpList_nil ?_
  replace H2:Own w w3 (blk g (.cells (bts (xorL L m 0)).toArray 154)::[]):=H2
  clear hLe
  go_wp2_with fail
  go_loopw [6,16] (fun _ v16 wx=>∃ i:Nat,v16=.int .i64 i∧i≤64∧Own w wx (blk g (.cells (bts (xorL L m i)).toArray 154)::[])) (fun _ v16 _=>64-(intOf v16).toNat)
  case atStart=>exact ⟨0,by go_num,by omega,H2⟩
  case round=>
   clear H2
   obtain ⟨i,rfl,hi,H⟩:=hrel
   have hxl:=jd (xor_length L m i)
   by_cases hi64:i<64
   ·have hiI:(i:Int)<64:=by omega
    obtain ⟨X,hX⟩:∃ X,Hid (xorL L m i=X):=⟨_,rfl⟩
    rw [hX.out] at H hxl
    obtain ⟨x,hx⟩:∃ x,Hid (X.getD i 0=x):=⟨_,rfl⟩
    have c0:wr.cell? ⟨g,i,none⟩=some (.int .u8 x):=by rw [H.cells,bts_get (by rw [hxl.out];omega),hx.out]
    have hnx:Hid (xorL L m (i+1)=X.set i (bits .xor .u8 x m)):=jd (by rw [xorL,hX.out,hx.out])
    go_wp2_with (refine Qh rfl _ _ rfl rfl H rfl (by kernel_rfl) (by rw [List.size_toArray,Qx,hxl.out];omega) ?_;clear H c0;intro w7 H;rw [bts_set] at H)
    go_roundw
    case rel=>exact ⟨i+1,by go_num,by omega,by rw [hnx.out];exact H⟩
    case measure=>simp [intOf];omega
   ·obtain rfl:i=64:=by omega
    have hnI:¬ ((64:Nat):Int)<64:=by omega
    have hrd:=H.blkRd (q:=0) (n:=64) (by rw [hxl.out,hLl]) (by omega)
    rw [List.drop_zero] at hrd
    have hs:=Js (P:=Tryz.prog) 58 9 Tryz.underlying58 Tryz.underlying5 Tryz.underlying9 hrd
    rw [hR2.out] at hs
    clear hrd
    go_wp2
    go_ret
    exact ⟨rfl,H.bare⟩
def tagF(key:ByteArray)(t:List Int):ByteArray:=shaF (bn (padF key 92)++bn (shaF (bn (padF key 54)++t)))
theorem Vy(key:ByteArray)(t:List Int):(tagF key t).size=32:=Vh _
set_option maxRecDepth 100000 in
set_option maxHeartbeats 3200000 in
theorem mctag_any{key:ByteArray}{w:World}{v:Value}{n:Nat}{l:List ByteArray}(hk:key.size≤100000000000)(hr:Rd w 1 v n (txs l))(hb:(bns l).length≤100000000000) :
 Calls Tryz.prog 48 #[.string key,v] w (fun e w'=>e=.returned (.string (tagF key (bns l)))∧Own w w' []):=by
 obtain ⟨a,c,rfl,hc1,hc2⟩:=hr.shape
 have hl:l.length=n:=by have:=hr.len;rw [Qr] at this;omega
 obtain ⟨RES,hRES⟩:∃ s,Hid (tagF key (bns l)=s):=⟨_,rfl⟩
 rw [hRES.out]
 have HP:=jd fun m w=>mcpad_any key hk m w
 obtain ⟨I,hI⟩:∃ s,Hid (padF key 54=s):=⟨_,rfl⟩
 obtain ⟨O,hO⟩:∃ s,Hid (padF key 92=s):=⟨_,rfl⟩
 have hIs:I.size=64:=by rw [← hI.out];exact padF_size _ _
 have hOs:O.size=64:=by rw [← hO.out];exact padF_size _ _
 have HP1:=jd (HP.out 54)
 have HP2:=jd (HP.out 92)
 rw [hI.out] at HP1
 rw [hO.out] at HP2
 have H:=Own.start w
 clear HP
 go_enter Tryz.func48,Tryz.ntmps48
 go_wp2_with fail
 refine (shnew_any w).mono ?_
 rintro e w1 ⟨_,rfl,g,rfl,H1⟩
 clear H
 go_wp2_with fail
 refine (HP1.out w1).mono ?_
 rintro e w2 ⟨rfl,H2⟩
 replace H2:=H1.join H2
 clear H1
 go_wp2_with fail
 refine (shwriteT I H2 (by rw [List.length_nil];omega)).mono ?_
 rintro e w3 ⟨_,rfl,H3⟩
 clear H2
 rw [List.nil_append] at H3
 go_wp2_with fail
 go_loopw [7,15] (fun _ v15 wx=>∃ i:Nat,v15=.int .i64 i∧i≤n∧Own w wx (Hsh g (bn I++bns (l.take i))::[])) (fun _ v15 _=>n-(intOf v15).toNat)
 case atStart=>exact ⟨0,by go_num,by omega,by simpa [bns] using H3⟩
 case round=>
  clear H3
  obtain ⟨i,rfl,hi,H⟩:=hrel
  by_cases hin:i<n
  ·have hiI:(i:Int)<(n:Int):=by omega
   obtain ⟨s,hs⟩:=Ql (l:=l) (k:=i) (by omega)
   obtain ⟨b,o,c',e⟩:=Rd.some hr (by rw [Qr];omega)
   obtain ⟨e,-,-⟩:=e
   cases e
   have hcell:=(hr.old H).cell (Kp hs)
   have hw:=shwriteT s H (by
    have h1:=bns_le l (i+1)
    rw [bns_take hs,lJ,Qu] at h1
    rw [lJ,Qu]
    omega)
   rw [List.append_assoc,← bns_take hs] at hw
   replace hw:=jd hw
   replace hs:=jd hs
   go_wp2_with fail
   refine hw.out.mono ?_
   rintro e w2 ⟨_,rfl,H2⟩
   clear H hw hcell
   go_wp2_with fail
   go_roundw
   case rel=>exact ⟨i+1,by go_num,by omega,H2⟩
   case measure=>simp [intOf];omega
  ·obtain rfl:i=n:=by omega
   rw [List.take_of_length_le (by omega)] at H
   have hS:=jd fun w' ps (h:Own w w' (Hsh g (bn I++bns l)::ps))=>shsumT h (by rw [lJ,Qu];omega)
   obtain ⟨J,hJ⟩:∃ s,Hid (shaF (bn I++bns l)=s):=⟨_,rfl⟩
   have hJs:J.size=32:=by rw [← hJ.out];exact Vh _
   rw [hJ.out] at hS
   have hfin:Hid (shaF (bns [O,J])=RES):=jd (by rw [← hRES.out,tagF,hI.out,hO.out,hJ.out];simp [bns])
   go_wp2_with fail
   refine (HP2.out _).mono ?_
   rintro e w4 ⟨rfl,H4⟩
   replace H4:=H.join H4
   clear H
   go_wp2_with fail
   refine (hS.out w4 [] H4).mono ?_
   rintro e w5 ⟨rfl,H5⟩
   replace H5:=(H4.join H5).bare
   clear H4
   have H6:=H5.made [.string O,.string J] 9 1 2 rfl (by decide)
   have hT:=jd (shsums_any (l:=[O,J]) H6.rd (by simp only [bns,List.flatMap_cons,List.flatMap_nil,List.append_nil,lJ,Qu];omega))
   rw [hfin.out] at hT
   go_wp2_with fail
   refine hT.out.mono ?_
   rintro e w7 ⟨rfl,H7⟩
   go_wp2
   go_ret
   exact ⟨rfl,(H6.join H7).bare⟩
end Go.Proofs.YthekdeikodppkaaGreatDoor
