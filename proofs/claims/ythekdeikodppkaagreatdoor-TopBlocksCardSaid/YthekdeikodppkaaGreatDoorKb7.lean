/-
  Texts of this claim, one behind the other: consist; consist; mac; enc; chacha; chacha; chacha; chacha; Slices of one-cell elements whose block may be frozen beyond its cells ('[]byte(s)'); enc; block; header; sledgelaw19.Salt; huff; copy into a row of the call's own; slices.Repeat of one int; lz.
-/
import Derived.Test.YthekdeikodppkaaGreatDoorKb6
import Derived.Lib.BufferWrite
import Derived.Deep.AppendSrc
import Derived.Deep.OwnRows
import Derived.Laws.CopyOwn
import Derived.Deep.DeepCutAuto
import Derived.Deep.CutBlock
import Derived.Deep.LoopGhost
import Derived.WalkLawsBesides
import Derived.WalkSpells
import Derived.BigQuiet
import Derived.Deep.QuietTactic
import Derived.Test.YthekdeikodppkaaGreatDoorRows
set_option linter.unusedVariables false
namespace Go.Proofs.YthekdeikodppkaaGreatDoor
open Go.RowKit
set_option maxRecDepth 100000 in
set_option maxHeartbeats 3200000 in
theorem csprove_any{w:World}{v:Value}{n m:Nat}{l:List ByteArray}(h9:n≤1000000)(hm1:1≤m)(hmn:m≤n)(hr:Rd w 1 v n (txs l))(hs:∀ s∈l,s.size≤1000000) :
 Calls Tryz.prog 12 #[.int .i64 32,.int .i64 m,v] w (Ret fun r w'=>∃ u,r=.tuple #[u,.int .i64 0]∧Own w w' (slc 9 1 u (msub m l true).length (txs (msub m l true))::[])):=by
 have hS:=jd (cssub_any n w v n m l true (Nat.le_refl _) h9 hm1 hmn hr hs)
 obtain ⟨a,c,rfl,hc1,hc2⟩:=hr.shape
 obtain ⟨A,hA⟩:∃ A,Hid (msub m l true=A):=⟨_,rfl⟩
 rw [hA.out] at hS ⊢
 have g1:¬ (m:Int)<1:=by omega
 have g2:¬ (n:Int)<(m:Int):=by omega
 clear hr hs
 go_enter Tryz.func12,Tryz.ntmps12
 go_wp2_with fail
 refine hS.out.mono ?_
 rintro e w1 ⟨u,rfl,H1⟩
 go_wp2
 go_ret2
 exact ⟨_,rfl,u,rfl,H1⟩
set_option maxRecDepth 100000 in
set_option maxHeartbeats 3200000 in
theorem cslong_any:∀ (d:Nat) (w:World) (n m:Nat) (whole:Bool),n≤d→n≤1000000→1≤m→m≤n →
 Calls Tryz.prog 66 #[.int .i64 m,.int .i64 n,.bool whole] w (fun e w'=>e=.returned (.int .i64 (longF m n whole:Nat))∧w'=w):=by
 intro d
 induction d with
 | zero=>intro w n m whole hd h9 hm1 hmn;omega
 | succ d ih=>
  intro w n m whole hd h9 hm1 hmn
  by_cases hmn2:m=n
  ·subst hmn2
   have hlg:longF m m whole=if whole then 0 else 1:=by rw [longF,dif_pos (.inl rfl)]
   have mm:((m:Int)==(m:Int))=true:=by simp
   rw [hlg]
   clear ih hlg
   cases whole <;>
   ·go_enter Tryz.func66,Tryz.ntmps66
    go_wp2
    go_ret
    exact ⟨rfl,rfl⟩
  ·have h2:2≤n:=by omega
   obtain ⟨k,hk⟩:∃ k,Hid (cutN n=k):=⟨_,rfl⟩
   have hbd:=Jo n h2
   rw [hk.out] at hbd
   obtain ⟨k1,k2,k3⟩:=hbd
   have hC:=jd (mkcut_any n (by omega))
   rw [hk.out] at hC
   have hlg:longF m n whole=if m≤k then longF m k whole+1 else longF (m-k) (n-k) false+1:=by
    rw [longF,dif_neg (by omega),hk.out]
   have mnI:((m:Int)==(n:Int))=false:=by simp;omega
   by_cases hmk:m≤k
   ·have hmkI:(m:Int)≤(k:Int):=by omega
    rw [if_pos hmk] at hlg
    have hI:=jd fun w=>ih w k m whole (by omega) (by omega) hm1 hmk
    have hb:=long_le k k m whole (Nat.le_refl _) hm1 hmk
    obtain ⟨q,hq⟩:∃ q,Hid (longF m k whole=q):=⟨_,rfl⟩
    rw [hq.out] at hI hlg hb
    rw [hlg]
    have eq1:IntKind.i64.wrap ((q:Int)+1)=((q+1:Nat):Int):=by rw [IntWalk.i64_in _ ⟨by omega,by omega⟩];omega
    clear ih hlg hk
    go_enter Tryz.func66,Tryz.ntmps66
    go_wp2_with fail
    refine (hC.out _).mono ?_
    rintro e w1 ⟨rfl,hw1⟩
    obtain rfl:w=w1:=hw1.symm
    go_wp2_with fail
    refine (hI.out _).mono ?_
    rintro e w1 ⟨rfl,hw2⟩
    obtain rfl:w=w1:=hw2.symm
    go_wp2
    go_ret
    exact ⟨rfl,rfl⟩
   ·have hmkI:¬ (m:Int)≤(k:Int):=by omega
    rw [if_neg hmk] at hlg
    obtain ⟨mk,hmk9⟩:∃ mk,Hid (m-k=mk):=⟨_,rfl⟩
    obtain ⟨nk,hnk9⟩:∃ mk,Hid (n-k=mk):=⟨_,rfl⟩
    rw [hmk9.out,hnk9.out] at hlg
    have emk:IntKind.i64.wrap ((m:Int)-(k:Int))=(mk:Int):=by have:=hmk9.out;rw [IntWalk.i64_in _ ⟨by omega,by omega⟩];omega
    have enk:IntKind.i64.wrap ((n:Int)-(k:Int))=(nk:Int):=by have:=hnk9.out;rw [IntWalk.i64_in _ ⟨by omega,by omega⟩];omega
    have hI:=jd fun w=>ih w nk mk false (by have:=hnk9.out;omega) (by have:=hnk9.out;omega) (by have:=hmk9.out;omega) (by have:=hnk9.out;have:=hmk9.out;omega)
    have hb:=long_le nk nk mk false (Nat.le_refl _) (by have:=hmk9.out;omega) (by have:=hnk9.out;have:=hmk9.out;omega)
    have hnk1:nk≤1000000:=by have:=hnk9.out;omega
    obtain ⟨q,hq⟩:∃ q,Hid (longF mk nk false=q):=⟨_,rfl⟩
    rw [hq.out] at hI hlg hb
    rw [hlg]
    have eq1:IntKind.i64.wrap ((q:Int)+1)=((q+1:Nat):Int):=by rw [IntWalk.i64_in _ ⟨by omega,by omega⟩];omega
    clear ih hlg hk
    go_enter Tryz.func66,Tryz.ntmps66
    go_wp2_with fail
    refine (hC.out _).mono ?_
    rintro e w1 ⟨rfl,hw1⟩
    obtain rfl:w=w1:=hw1.symm
    go_wp2_with fail
    refine (hI.out _).mono ?_
    rintro e w1 ⟨rfl,hw2⟩
    obtain rfl:w=w1:=hw2.symm
    go_wp2
    go_ret
    exact ⟨rfl,rfl⟩
theorem roots_size:∀ (d n m:Nat) (known:ByteArray) (p:List ByteArray) (whole:Bool),n≤d→1≤m→m≤n→p.length=longF m n whole→known.size=32→(∀ s∈p,s.size=32) →
 (Zl nodeF m n known p whole).1.size=32∧(Zl nodeF m n known p whole).2.size=32:=by
 intro d
 induction d with
 | zero=>intro n m known p whole hd hm1 hmn;omega
 | succ d ih=>
  intro n m known p whole hd hm1 hmn hp hk hs
  rw [longF] at hp
  rw [Zl]
  by_cases h:m=n∨n<2
  ·rw [dif_pos h] at hp ⊢
   cases whole with
   | true=>exact ⟨hk,hk⟩
   | false=>
    match p,hp with
    | [x],_=>exact ⟨hs x (by simp),hs x (by simp)⟩
  ·rw [dif_neg h] at hp ⊢
   have hbd:=Jo n (by omega)
   have hd':∀ s∈p.dropLast,s.size=32:=fun s h=>hs s (List.dropLast_subset _ h)
   by_cases hc:m≤cutN n
   ·rw [if_pos hc] at hp ⊢
    have:=ih (cutN n) m known p.dropLast whole (by omega) hm1 hc (by rw [List.length_dropLast,hp];rfl) hk hd'
    exact ⟨this.1,node_size _ _⟩
   ·rw [if_neg hc]
    exact ⟨node_size _ _,node_size _ _⟩
set_option maxRecDepth 100000 in
set_option maxHeartbeats 12800000 in
theorem csroots_any:∀ (d:Nat) (w:World) (v:Value) (np n m:Nat) (known:ByteArray) (p:List ByteArray) (whole:Bool),n≤d→n≤1000000→1≤m→m≤n→np=longF m n whole→Rd w 1 v np (txs p)→known.size=32→(∀ s∈p,s.size=32) →
 Calls Tryz.prog 68 #[.int .i64 32,.int .i64 m,.int .i64 n,.string known,v,.bool whole] w (fun e w'=>e=.returned (.tuple #[.string (Zl nodeF m n known p whole).1,.string (Zl nodeF m n known p whole).2])∧Own w w' []):=by
 intro d
 induction d with
 | zero=>intro w v np n m known p whole hd h9 hm1 hmn;omega
 | succ d ih=>
  intro w v np n m known p whole hd h9 hm1 hmn hnp hr hk hs
  obtain ⟨a,c,rfl,hc1,hc2⟩:=hr.shape
  have hl:p.length=np:=by have:=hr.len;rw [Qr] at this;omega
  have H:=Own.start w
  by_cases hmn2:m=n
  ·subst hmn2
   rw [longF,dif_pos (.inl rfl)] at hnp
   rw [Zl,dif_pos (.inl rfl)]
   have mm:((m:Int)==(m:Int))=true:=by simp
   cases whole with
   | true=>
    clear ih hr hs
    go_enter Tryz.func68,Tryz.ntmps68
    go_wp2
    go_ret2
    exact ⟨rfl,H⟩
   | false=>
    rw [if_neg (by decide)] at hnp
    subst hnp
    obtain ⟨x,rfl⟩:∃ x,p=[x]:=by
     match p,hl with
     | [x],_=>exact ⟨x,rfl⟩
    obtain ⟨b,o,c',e,-⟩:=Rd.some hr (by simp [txs])
    cases e
    have HC:Hid (∀ w1,Own w w1 []→w1.cell? ⟨b,o,none⟩=some (.string x)):=jd fun w1 h=>by
     have:=Rd.cell (hr.old h) (j:=0) (u:=.string x) (by simp [txs])
     rw [Nat.add_zero] at this
     exact this
    rw [if_neg (by decide),List.headD_cons]
    clear ih hr hs
    go_enter Tryz.func68,Tryz.ntmps68
    go_upto_region 4 with (fail)
    refine Qa (fun w1=>Own w w1 []) 7 (by kernel_rfl) (by kernel_rfl) H.drew ?_
    simp only [List.take_succ_cons,List.take_zero,List.drop_succ_cons,List.drop_zero]
    repeat
     first
     | (refine calm_value (v:=?_) (by decide) rfl (fun σ w1 hS=>?_) ?_
        rotate_left
        ·have c0:=HC.out _ hS
         first | (go_simp;rfl) | rfl
        simp only [Act.put,putC])
     | (refine calm_skip (by decide) rfl ?_
        simp only [Act.put,putC])
    refine calm_nil ?_
    intro wd HD
    go_wp2
    go_ret2
    exact ⟨rfl,HD⟩
  ·have h2:2≤n:=by omega
   rw [longF,dif_neg (by omega)] at hnp
   rw [Zl,dif_neg (by omega)]
   obtain ⟨k,hk9⟩:∃ k,Hid (cutN n=k):=⟨_,rfl⟩
   have hbd:=Jo n h2
   rw [hk9.out] at hbd hnp ⊢
   obtain ⟨k1,k2,k3⟩:=hbd
   have hC:=jd (mkcut_any n (by omega))
   rw [hk9.out] at hC
   have mnI:((m:Int)==(n:Int))=false:=by simp;omega
   have hnp1:1≤np:=by rw [hnp];split <;> omega
   have hnp9:np≤1000000:=by
    have:=long_le n n m whole (Nat.le_refl _) hm1 hmn
    rw [longF,dif_neg (by omega),hk9.out,← hnp] at this
    omega
   obtain ⟨q,z,rfl⟩:∃ q z,p=q++[z]:=⟨p.dropLast,p.getLast (by intro e;rw [e] at hl;simp at hl;omega),(List.dropLast_concat_getLast _).symm⟩
   rw [List.dropLast_concat,List.getLastD_concat]
   obtain ⟨j,hj⟩:∃ j,Hid (np-1=j):=⟨_,rfl⟩
   have hql:q.length=j:=by have:=hj.out;rw [lJ] at hl;simp at hl;omega
   have hzs:z.size=32:=hs z (by simp)
   have hqs:∀ s∈q,s.size=32:=fun s h=>hs s (by simp [h])
   obtain ⟨b,o,c',e,-⟩:=Rd.some hr (by rw [Qr];omega)
   cases e
   have HC:Hid (∀ w1 qs,Own w w1 qs→w1.cell? ⟨b,o+j,none⟩=some (.string z)):=jd fun w1 qs h=>Rd.cell (hr.old h) (j:=j) (u:=.string z) (by rw [txs_get];rw [List.getElem?_append_right (by omega),hql,Nat.sub_self];rfl)
   have ej:IntKind.i64.wrap ((np:Int)-1)=(j:Int):=by have:=hj.out;rw [IntWalk.i64_in _ ⟨by omega,by omega⟩];omega
   have hjI:(j:Int)<(np:Int):=by have:=hj.out;omega
   have hjn:j<np:=by have:=hj.out;omega
   have hjc:j≤c:=by omega
   have hjcI:(j:Int)≤(c:Int):=by omega
   have hrq:Hid (∀ w',Own w w' []→Rd w' 1 (.slice (some ⟨b,o,none⟩) j c) j (txs q)):=jd fun w' h=>by
    have hr2:=(hr.old h).take (k:=j) (by omega)
    rw [Nat.mul_one,Zi,List.take_append_of_le_length (by rw [Qr];omega),List.take_of_length_le (by rw [Qr];omega)] at hr2
    exact hr2
   have HN:Hid (∀ (A B:ByteArray) w1,A.size=32→B.size=32→Own w w1 []→Calls Tryz.prog 32 #[.int .i64 32,.string A,.string B] w1 (fun e w2=>e=.returned (.string (nodeF A B))∧Own w w2 [])):=jd fun A B w1 h1 h2 h=>(mknode_any A B (by omega) (by omega) w1).mono fun e w2 g=>⟨g.1,h.join g.2⟩
   by_cases hmk:m≤k
   ·have hmkI:(m:Int)≤(k:Int):=by omega
    rw [if_pos hmk] at hnp ⊢
    have hjl:j=longF m k whole:=by have:=hj.out;omega
    have hsz:=roots_size k k m known q whole (Nat.le_refl _) hm1 hmk (by rw [hql,hjl]) hk hqs
    have HI:Hid (∀ w1,Own w w1 []→Calls Tryz.prog 68 #[.int .i64 32,.int .i64 m,.int .i64 k,.string known,.slice (some ⟨b,o,none⟩) j c,.bool whole] w1 (fun e w2=>e=.returned (.tuple #[.string (Zl nodeF m k known q whole).1,.string (Zl nodeF m k known q whole).2])∧Own w w2 [])):=jd fun w1 h=>(ih w1 _ j k m known q whole (by omega) (by omega) hm1 hmk hjl (hrq.out w1 h) hk hqs).mono fun e w2 g=>⟨g.1,h.join g.2⟩
    obtain ⟨A,hA⟩:∃ A,Hid ((Zl nodeF m k known q whole).1=A):=⟨_,rfl⟩
    obtain ⟨B,hB⟩:∃ A,Hid ((Zl nodeF m k known q whole).2=A):=⟨_,rfl⟩
    rw [hA.out,hB.out] at HI hsz ⊢
    obtain ⟨N,hN⟩:∃ N,Hid (nodeF B z=N):=⟨_,rfl⟩
    have HN1:Hid (∀ w1,Own w w1 []→Calls Tryz.prog 32 #[.int .i64 32,.string B,.string z] w1 (fun e w2=>e=.returned (.string N)∧Own w w2 [])):=jd fun w1 h=>by rw [← hN.out];exact HN.out B z w1 hsz.2 hzs h
    rw [hN.out]
    clear ih hr hs hnp hjl hsz hqs hrq hk9 hA hB hN HN hl hql hj
    have c0:=HC.out _ _ H
    go_enter Tryz.func68,Tryz.ntmps68
    go_wp2_with fail
    refine (hC.out _).mono ?_
    rintro e w1 ⟨rfl,hw1⟩
    obtain rfl:w=w1:=hw1.symm
    go_wp2_with fail
    refine (HI.out _ H).mono ?_
    rintro e w2 ⟨rfl,H2⟩
    go_wp2_with fail
    refine (HN1.out _ H2).mono ?_
    rintro e w3 ⟨rfl,H3⟩
    go_wp2
    go_ret2
    exact ⟨rfl,H3⟩
   ·have hmkI:¬ (m:Int)≤(k:Int):=by omega
    rw [if_neg hmk] at hnp ⊢
    obtain ⟨mk,hmk9⟩:∃ mk,Hid (m-k=mk):=⟨_,rfl⟩
    obtain ⟨nk,hnk9⟩:∃ mk,Hid (n-k=mk):=⟨_,rfl⟩
    rw [hmk9.out,hnk9.out] at hnp ⊢
    have emk:IntKind.i64.wrap ((m:Int)-(k:Int))=(mk:Int):=by have:=hmk9.out;rw [IntWalk.i64_in _ ⟨by omega,by omega⟩];omega
    have enk:IntKind.i64.wrap ((n:Int)-(k:Int))=(nk:Int):=by have:=hnk9.out;rw [IntWalk.i64_in _ ⟨by omega,by omega⟩];omega
    have b1:1≤mk:=by have:=hmk9.out;omega
    have b2:mk≤nk:=by have:=hmk9.out;have:=hnk9.out;omega
    have b3:nk≤d:=by have:=hnk9.out;omega
    have b4:nk≤1000000:=by have:=hnk9.out;omega
    have hjl:j=longF mk nk false:=by have:=hj.out;omega
    have hsz:=roots_size nk nk mk known q false (Nat.le_refl _) b1 b2 (by rw [hql,hjl]) hk hqs
    have HI:Hid (∀ w1,Own w w1 []→Calls Tryz.prog 68 #[.int .i64 32,.int .i64 mk,.int .i64 nk,.string known,.slice (some ⟨b,o,none⟩) j c,.bool false] w1 (fun e w2=>e=.returned (.tuple #[.string (Zl nodeF mk nk known q false).1,.string (Zl nodeF mk nk known q false).2])∧Own w w2 [])):=jd fun w1 h=>(ih w1 _ j nk mk known q false b3 b4 b1 b2 hjl (hrq.out w1 h) hk hqs).mono fun e w2 g=>⟨g.1,h.join g.2⟩
    obtain ⟨A,hA⟩:∃ A,Hid ((Zl nodeF mk nk known q false).1=A):=⟨_,rfl⟩
    obtain ⟨B,hB⟩:∃ A,Hid ((Zl nodeF mk nk known q false).2=A):=⟨_,rfl⟩
    rw [hA.out,hB.out] at HI hsz ⊢
    obtain ⟨N,hN⟩:∃ N,Hid (nodeF z A=N):=⟨_,rfl⟩
    obtain ⟨M,hM⟩:∃ N,Hid (nodeF z B=N):=⟨_,rfl⟩
    have HN1:Hid (∀ w1,Own w w1 []→Calls Tryz.prog 32 #[.int .i64 32,.string z,.string A] w1 (fun e w2=>e=.returned (.string N)∧Own w w2 [])):=jd fun w1 h=>by rw [← hN.out];exact HN.out z A w1 hzs hsz.1 h
    have HN2:Hid (∀ w1,Own w w1 []→Calls Tryz.prog 32 #[.int .i64 32,.string z,.string B] w1 (fun e w2=>e=.returned (.string M)∧Own w w2 [])):=jd fun w1 h=>by rw [← hM.out];exact HN.out z B w1 hzs hsz.2 h
    rw [hN.out,hM.out]
    clear ih hr hs hnp hjl hsz hqs hrq hk9 hA hB hN hM HN hl hql hj
    have c0:=HC.out _ _ H
    go_enter Tryz.func68,Tryz.ntmps68
    go_wp2_with fail
    refine (hC.out _).mono ?_
    rintro e w1 ⟨rfl,hw1⟩
    obtain rfl:w=w1:=hw1.symm
    go_wp2_with fail
    refine (HI.out _ H).mono ?_
    rintro e w2 ⟨rfl,H2⟩
    go_wp2_with fail
    refine (HN1.out _ H2).mono ?_
    rintro e w3 ⟨rfl,H3⟩
    go_wp2_with fail
    refine (HN2.out _ H3).mono ?_
    rintro e w4 ⟨rfl,H4⟩
    go_wp2
    go_ret2
    exact ⟨rfl,H4⟩
theorem short_any(f:FuncId)(hf:f=65∨f=70)(x:ByteArray)(hx:x.size=32)(g:Nat)(w:World)(hc:w.cell? ⟨g,0,none⟩=some (.int .i64 32)) :
 Calls Tryz.prog f #[.string x,.pointer (some ⟨g,0,none⟩)] w (fun e w'=>e=.returned (.bool false)∧w'=w):=by
 have hW:=jd mkwidth_any
 have hx2:(x.size:Int)=32:=by omega
 rcases hf with rfl | rfl
 ·go_enter Tryz.func65,Tryz.ntmps65
  go_wp2_with fail
  refine (hW.out _).mono ?_
  rintro e w1 ⟨rfl,hw1⟩
  obtain rfl:w=w1:=hw1.symm
  go_wp2
  go_ret
  exact ⟨rfl,rfl⟩
 ·go_enter Tryz.func70,Tryz.ntmps70
  go_wp2_with fail
  refine (hW.out _).mono ?_
  rintro e w1 ⟨rfl,hw1⟩
  obtain rfl:w=w1:=hw1.symm
  go_wp2
  go_ret
  exact ⟨rfl,rfl⟩
abbrev shortV(f:FuncId)(g:Nat):Value:=.func (.func f) #[] #[.pointer (some ⟨g,0,none⟩)]
set_option maxHeartbeats 1600000 in
theorem idxshort_any(f:FuncId)(hf:f=65∨f=70){w:World}{v:Value}{n g:Nat}{l:List ByteArray}(hr:Rd w 1 v n (txs l))(hs:∀ s∈l,s.size=32)(hc:w.cell? ⟨g,0,none⟩=some (.int .i64 32)) :
 Calls Tryz.prog 115 #[v,shortV f g] w (fun e w'=>e=.returned (.int .i64 (-1))∧w'=w):=by
 obtain ⟨a,c,rfl,hc1,hc2⟩:=hr.shape
 have hl:l.length=n:=by have:=hr.len;rw [Qr] at this;omega
 have hS:Hid (∀ i s,l[i]?=some s→Calls Tryz.prog f #[.string s,.pointer (some ⟨g,0,none⟩)] w (fun e w'=>e=.returned (.bool false)∧w'=w)):=jd fun i s h=>short_any f hf s (hs s (List.mem_of_getElem? h)) g w hc
 have hne:f≠0→True:=fun _=>trivial
 clear hs hc
 go_enter Tryz.func115,Tryz.ntmps115
 go_wp2_with fail
 go_loopw [5,8] (fun _ v8 wx=>∃ i:Nat,v8=.int .i64 i∧i≤n∧wx=w) (fun _ v8 _=>n-(intOf v8).toNat)
 case atStart=>exact ⟨0,by go_num,by omega,rfl⟩
 case round=>
  obtain ⟨i,rfl,hi,rfl⟩:=hrel
  by_cases hin:i<n
  ·have hiI:(i:Int)<(n:Int):=by omega
   obtain ⟨s,hs⟩:=Ql (l:=l) (k:=i) (by omega)
   obtain ⟨b,o,c',e⟩:=Rd.some hr (by rw [Qr];omega)
   obtain ⟨e,-,-⟩:=e
   cases e
   have hcell:=hr.cell (txs_get hs)
   have hS1:=jd (hS.out i s hs)
   replace hs:=jd hs
   rcases hf with rfl | rfl
   all_goals
    go_wp2_with fail
    refine hS1.out.mono ?_
    rintro e w2 ⟨rfl,hw2⟩
    obtain rfl:wr=w2:=hw2.symm
    go_wp2_with fail
    go_roundw
    case rel=>exact ⟨i+1,by go_num,by omega,(by first | rfl | trivial)⟩
    case measure=>simp [intOf];omega
  ·obtain rfl:i=n:=by omega
   have hnI:¬ (i:Int)<(i:Int):=by omega
   go_wp2
   go_ret
   exact ⟨rfl,rfl⟩
set_option maxHeartbeats 800000 in
theorem hasshort_any(f:FuncId)(hf:f=65∨f=70){w:World}{v:Value}{n g:Nat}{l:List ByteArray}(hr:Rd w 1 v n (txs l))(hs:∀ s∈l,s.size=32)(hc:w.cell? ⟨g,0,none⟩=some (.int .i64 32)) :
 Calls Tryz.prog 67 #[v,shortV f g] w (fun e w'=>e=.returned (.bool false)∧w'=w):=by
 have hI:=jd (idxshort_any f hf hr hs hc)
 clear hr hs hc
 go_enter Tryz.func67,Tryz.ntmps67
 go_wp2_with fail
 refine hI.out.mono ?_
 rintro e w2 ⟨rfl,hw2⟩
 obtain rfl:w=w2:=hw2.symm
 go_wp2
 go_ret
 exact ⟨rfl,rfl⟩
set_option maxRecDepth 100000 in
set_option maxHeartbeats 6400000 in
theorem csRoots_any{w:World}{v:Value}{np n m:Nat}{known:ByteArray}{p:List ByteArray}(h9:n≤1000000)(hm1:1≤m)(hmn:m≤n)(hnp:np=longF m n true)(hr:Rd w 1 v np (txs p))(hk:known.size=32)(hs:∀ s∈p,s.size=32) :
 Calls Tryz.prog 35 #[.int .i64 32,.int .i64 m,.int .i64 n,.string known,v] w (fun e w'=>e=.returned (.tuple #[.string (Zl nodeF m n known p true).1,.string (Zl nodeF m n known p true).2,.int .i64 0])∧Own w w' []):=by
 have HL:=jd fun w=>cslong_any n w n m true (Nat.le_refl _) h9 hm1 hmn
 rw [← hnp] at HL
 have HR:=jd fun w' (h:Own w w' [])=>csroots_any n w' v np n m known p true (Nat.le_refl _) h9 hm1 hmn hnp (hr.old h) hk hs
 obtain ⟨A,hA⟩:∃ A,Hid ((Zl nodeF m n known p true).1=A):=⟨_,rfl⟩
 obtain ⟨B,hB⟩:∃ A,Hid ((Zl nodeF m n known p true).2=A):=⟨_,rfl⟩
 rw [hA.out,hB.out] at HR ⊢
 obtain ⟨a,c,rfl,hc1,hc2⟩:=hr.shape
 have H:=(Own.start w).alloc (.cells #[.int .i64 32] 3)
 have g1:¬ (m:Int)<1:=by omega
 have g2:¬ (n:Int)<(m:Int):=by omega
 have nn:((np:Int)==(np:Int))=true:=by simp
 go_enter Tryz.func35,Tryz.ntmps35
 go_upto_region 1 with (fail)
 generalize w.alloc _=w1 at *
 generalize w.heap.size=g at *
 have c0:w1.cell? ⟨g,0,none⟩=some (.int .i64 32):=by rw [H.cells];rfl
 have HS:=jd (short_any 65 (.inl rfl) known hk g w1 c0)
 have HC:=jd (hasshort_any 65 (.inl rfl) (hr.old H.bare) hs c0)
 clear hr hs hnp
 go_wp2_with fail
 refine (HL.out _).mono ?_
 rintro e w2 ⟨rfl,hw2⟩
 obtain rfl:w1=w2:=hw2.symm
 go_wp2_with fail
 refine HS.out.mono ?_
 rintro e w2 ⟨rfl,hw2⟩
 obtain rfl:w1=w2:=hw2.symm
 go_wp2_with fail
 refine HC.out.mono ?_
 rintro e w2 ⟨rfl,hw2⟩
 obtain rfl:w1=w2:=hw2.symm
 go_wp2_with fail
 refine (HR.out _ H.bare).mono ?_
 rintro e w3 ⟨rfl,H3⟩
 go_wp2
 go_ret3
 exact ⟨rfl,(H.join H3).bare⟩
theorem root_32(l:List ByteArray)(h:1≤l.length)(hs:∀ s∈l,s.size=32):(mroot l).size=32:=by
 by_cases h2:2≤l.length
 ·rw [mroot,Zs h2,node_size]
 ·match l,h,h2 with
  | [x],_,_=>rw [mroot,rootF_one];exact hs x (by simp)
  | [],h,_=>exact absurd h (by simp)
  | x::y::r,_,h2=>exact absurd (by simp) h2
theorem sub_size:∀ (d m:Nat) (l:List ByteArray) (whole:Bool),l.length≤d→1≤m→m≤l.length→(∀ s∈l,s.size=32)→∀ s∈msub m l whole,s.size=32:=by
 intro d
 induction d with
 | zero=>intro m l whole hd h1 h2;omega
 | succ d ih=>
  intro m l whole hd h1 h2 hs s hm
  rw [msub,subF] at hm
  by_cases h:m=l.length∨l.length<2
  ·rw [dif_pos h] at hm
   cases whole with
   | true=>simp at hm
   | false=>
    rw [if_neg (by decide),List.mem_singleton] at hm
    rw [hm]
    exact root_32 l (by omega) hs
  ·rw [dif_neg h] at hm
   have hbd:=Jo l.length (by omega)
   by_cases hc:m≤cutN l.length
   ·rw [if_pos hc,List.mem_append,List.mem_singleton] at hm
    rcases hm with hm | hm
    ·exact ih m (l.take (cutN l.length)) whole (by rw [List.length_take];omega) h1 (by rw [List.length_take];omega) (fun s h=>hs s (List.mem_of_mem_take h)) s hm
    ·rw [hm]
     exact root_32 _ (by rw [List.length_drop];omega) fun s h=>hs s (List.mem_of_mem_drop h)
   ·rw [if_neg hc,List.mem_append,List.mem_singleton] at hm
    rcases hm with hm | hm
    ·exact ih (m-cutN l.length) (l.drop (cutN l.length)) false (by rw [List.length_drop];omega) (by omega) (by rw [List.length_drop];omega) (fun s h=>hs s (List.mem_of_mem_drop h)) s hm
    ·rw [hm]
     exact root_32 _ (by rw [List.length_take];omega) fun s h=>hs s (List.mem_of_mem_take h)
set_option maxRecDepth 100000 in
set_option maxHeartbeats 3200000 in
theorem cscheck_any{w:World}{v:Value}{n m:Nat}{l:List ByteArray}(h9:n≤1000000)(hm1:1≤m)(hmn:m≤n)(hln:l.length=n)(hls:∀ s∈l,s.size=32)(hr:Rd w 1 v (msub m l true).length (txs (msub m l true))) :
 Calls Tryz.prog 13 #[.int .i64 32,.int .i64 m,.int .i64 n,.string (mroot (l.take m)),.string (mroot l),v] w (fun e w'=>e=.returned (.int .i64 0)∧Own w w' []):=by
 obtain ⟨P,hP⟩:∃ P,Hid (msub m l true=P):=⟨_,rfl⟩
 have hPl:P.length=longF m n true:=by rw [← hP.out,msub,sub_long _ _ _ _ (Nat.le_refl _),hln]
 have hroots:Zl nodeF m n (mroot (l.take m)) P true=(mroot (l.take m),mroot l):=by
  rw [← hP.out,← hln]
  exact roots_sub _ m l _ true (Nat.le_refl _) hm1 (by omega) (fun _=>rfl)
 have hPs:∀ s∈P,s.size=32:=by rw [← hP.out];exact sub_size n m l true (by omega) hm1 (by omega) hls
 have hk:(mroot (l.take m)).size=32:=root_32 _ (by rw [List.length_take];omega) fun s h=>hls s (List.mem_of_mem_take h)
 rw [hP.out] at hr
 have hR:=csRoots_any (known:=mroot (l.take m)) h9 hm1 hmn hPl hr hk hPs
 rw [hroots] at hR
 obtain ⟨A,hA⟩:∃ A,Hid (mroot (l.take m)=A):=⟨_,rfl⟩
 obtain ⟨B,hB⟩:∃ A,Hid (mroot l=A):=⟨_,rfl⟩
 rw [hA.out,hB.out] at hR ⊢
 replace hR:=jd hR
 clear hr hroots hPs hk hPl
 go_enter Tryz.func13,Tryz.ntmps13
 go_wp2_with fail
 refine hR.out.mono ?_
 rintro e w2 ⟨rfl,H2⟩
 go_wp2
 go_ret
 exact ⟨rfl,H2⟩
theorem bts_bn(s:ByteArray):Lib.byteCells s.data.toList=bts (bn s):=bn_cells s
section
variable {w0 w:World} {ps:List Piece} {e:TypeId}
theorem Own.blkRd{g n:Nat}{L:List Int}{q:Nat}(H:Own w0 w (blk g (.cells (bts L).toArray e)::ps))(hl:L.length=q+n)(hn:n≤1000000000):Rd w 1 (.slice (some ⟨g,q,none⟩) n n) n (bts (L.drop q)):=by
 refine ⟨by rw [Qx,List.length_drop,hl];omega,some ⟨g,q,none⟩,n,rfl,Nat.le_refl _,by simp [maxLen];omega,by simp,?_⟩
 intro ad had j u hu
 obtain rfl:=Option.some.inj had
 rw [Addr.add_lit,H.cells,List.getElem?_toArray]
 rw [bts,List.map_drop,List.getElem?_drop] at hu
 exact hu
theorem bts_get{l:List Int}{i:Nat}(h:i<l.length):(bts l).toArray[i]?=some (.int .u8 (l.getD i 0)):=by
 rw [List.getElem?_toArray,bts,List.getElem?_map,List.getD_eq_getElem?_getD,List.getElem?_eq_getElem h]
 rfl
theorem bts_set(l:List Int)(k:Nat)(v:Int):(bts l).toArray.setIfInBounds k (.int .u8 v)=(bts (l.set k v)).toArray:=by
 rw [List.setIfInBounds_toArray,bts,bts,List.map_set]
theorem wpList_copy_text{P:Program}{ops:Array Oper}{rest:List Oper}{o:Oper}{a:Act}{Q:Exit→Act→World→Prop}(hgd:o.guard=none)(d s:Operand){dT sT el:TypeId}(ho:o.op=.call { callee:=.builtin .copy,args:=#[d,s],argTypes:=#[dT,sT] })
 (hu:P.underlying dT=some (.slice el)) (hs:(P.info? el).map (·.size)=some 1) {g n c:Nat} {x:ByteArray} {L:List Int} (hd:a.eval d=.slice (some ⟨g,0,none⟩) n c) (hx:a.eval s=.string x)
 (H:Own w0 w (blk g (.cells (bts L).toArray e)::ps)) (hle:x.size≤n) (hl:L.length=n)
 (h:∀ w',Own w0 w' (blk g (.cells (bts (bn x++L.drop x.size)).toArray e)::ps)→wpList P ops Q rest (a.put o.dst (.int .i64 x.size)) w'):wpList P ops Q (o::rest) a w:=by
 refine wpList_plain hgd fun K hK=>?_
 have hrun:=Lib.run_copy_row_string (P:=P) w dT sT o.type el g 0 n c x (bts L).toArray e hu hs H.block.1 hle (by rw [List.size_toArray,Qx];omega)
 unfold Oper.wp
 simp [execOp,ho,resolve,invoke,builtin,hd,hx,hrun,Result.andThen]
 have e1:(bts L).toArray.toList.take 0++Lib.byteCells x.data.toList++(bts L).toArray.toList.drop (0+x.size)=bts (bn x++L.drop x.size):=by
  rw [bts_bn,Zv,Nat.zero_add]
  simp [bts,List.map_drop]
 have h2:=H.setRow (cur':=(bts (bn x++L.drop x.size)).toArray)
 refine hK _ _ ?_
 have:=h _ h2
 rw [← e1] at this
 simpa [goInt] using this
end
def z64:List Int:=List.replicate 64 0
theorem z64_length:z64.length=64:=by simp [z64]
def keyF(key:ByteArray):ByteArray:=if 64<key.size then shaF (bn key) else key
theorem key_size(key:ByteArray):(keyF key).size≤64:=by
 unfold keyF
 split
 ·rw [shaF_size];omega
 ·omega
def xorL(L:List Int)(m:Int):Nat→List Int
 | 0=>L
 | i+1=>(xorL L m i).set i (bits .xor .u8 ((xorL L m i).getD i 0) m)
theorem xor_length(L:List Int)(m:Int):∀ i,(xorL L m i).length=L.length
 | 0=>rfl
 | i+1=>by rw [xorL,List.length_set,xor_length L m i]
def keyL(key:ByteArray):List Int:=bn (keyF key)++z64.drop (keyF key).size
theorem keyL_length(key:ByteArray):(keyL key).length=64:=by
 have:=key_size key
 rw [keyL,lJ,Qu,List.length_drop,z64_length];omega
def padL(key:ByteArray)(m:Int):List Int:=xorL (keyL key) m 64
def padF(key:ByteArray)(m:Int):ByteArray:=strOfNums (padL key m)
theorem padL_length(key:ByteArray)(m:Int):(padL key m).length=64:=by rw [padL,xor_length,keyL_length]
theorem padF_size(key:ByteArray)(m:Int):(padF key m).size=64:=by rw [padF,strOfNums_size,padL_length]
set_option maxRecDepth 100000 in
set_option maxHeartbeats 3200000 in
theorem mcpad_any(key:ByteArray)(hk:key.size≤100000000000)(m:Int)(w:World) :
 Calls Tryz.prog 92 #[.string key,.int .u8 m] w (fun e w'=>e=.returned (.string (padF key m))∧Own w w' []):=by
 obtain ⟨RES,hRES⟩:∃ s,Hid (padF key m=s):=⟨_,rfl⟩
 rw [hRES.out]
 have H:=(Own.start w).alloc (.cells #[.int .u8 0,.int .u8 0,.int .u8 0,.int .u8 0,.int .u8 0,.int .u8 0,.int .u8 0,.int .u8 0,.int .u8 0,.int .u8 0,.int .u8 0,.int .u8 0,.int .u8 0,.int .u8 0,.int .u8 0,.int .u8 0,.int .u8 0,.int .u8 0,.int .u8 0,.int .u8 0,.int .u8 0,.int .u8 0,.int .u8 0,.int .u8 0,.int .u8 0,.int .u8 0,.int .u8 0,.int .u8 0,.int .u8 0,.int .u8 0,.int .u8 0,.int .u8 0,.int .u8 0,.int .u8 0,.int .u8 0,.int .u8 0,.int .u8 0,.int .u8 0,.int .u8 0,.int .u8 0,.int .u8 0,.int .u8 0,.int .u8 0,.int .u8 0,.int .u8 0,.int .u8 0,.int .u8 0,.int .u8 0,.int .u8 0,.int .u8 0,.int .u8 0,.int .u8 0,.int .u8 0,.int .u8 0,.int .u8 0,.int .u8 0,.int .u8 0,.int .u8 0,.int .u8 0,.int .u8 0,.int .u8 0,.int .u8 0,.int .u8 0,.int .u8 0] 154)
 go_enter Tryz.func92,Tryz.ntmps92
 go_upto_region 2 with (fail)
 generalize w.alloc _=w1 at *
 generalize w.heap.size=g at *
 replace H:Own w w1 (blk g (.cells (bts z64).toArray 154)::[]):=H
 obtain ⟨K,hK⟩:∃ K,Hid (keyF key=K):=⟨_,rfl⟩
 have hK64:K.size≤64:=by rw [← hK.out];exact key_size key
 go_upto_if 9 with (fail)
 go_cut [0,10,11,12] (fun s0 _ _ _ wx=>s0=.string K∧Own w wx (blk g (.cells (bts z64).toArray 154)::[]))
 case first=>
  by_cases hk64:64<key.size
  ·have hkI:(64:Int)<(key.size:Int):=by omega
   have hKe:shaF (bn key)=K:=by rw [← hK.out,keyF,if_pos hk64]
   have H2:=H.made [.string key] 9 1 1 rfl (by decide)
   have hS:=shsums_any (l:=[key]) H2.rd (by simp only [bns,List.flatMap_cons,List.flatMap_nil,List.append_nil,Qu];omega)
   rw [show bns [key]=bn key by simp [bns],hKe] at hS
   replace hS:=jd hS
   go_wp2_with fail
   refine hS.out.mono ?_
   rintro e w2 ⟨rfl,H3⟩
   go_wp2
   go_meet
   exact ⟨rfl,(H2.drop.join H3)⟩
  ·have hkI:¬ (64:Int)<(key.size:Int):=by omega
   have hKe:key=K:=by rw [← hK.out,keyF,if_neg hk64]
   go_wp2
   go_meet
   exact ⟨by first | rfl | rw [hKe],H⟩
 case rest=>
  obtain ⟨rfl,H2⟩:=hcut
  clear H
  obtain ⟨L,hL⟩:∃ L,Hid (keyL key=L):=⟨_,rfl⟩
  have hLl:L.length=64:=by rw [← hL.out];exact keyL_length key
  have hLe:Hid (bn K++z64.drop K.size=L):=jd (by rw [← hL.out,keyL,hK.out])
  have hR2:Hid (strOfNums (xorL L m 64)=RES):=jd (by rw [← hRES.out,padF,padL,hL.out])
  clear hRES hK hL
  go_upto_region 4 with (fail)
  refine wp_region_list ?_
  refine wpList_value rfl (u:=.slice (some ⟨g,0,none⟩) 64 64) (by go_simp) ?_
  simp only [Act.put,putC]
  refine wpList_value rfl (u:=.string K) (by go_simp) ?_
  simp only [Act.put,putC]
  refine wpList_copy_text rfl _ _ rfl Tryz.underlying58 (by kernel_rfl) rfl rfl H2 hK64 z64_length ?_
  clear H2
  intro w3 H2
  rw [hLe.out] at H2
  simp only [Act.put,putC]
  refine wpList_nil ?_
  replace H2:Own w w3 (blk g (.cells (bts (xorL L m 0)).toArray 154)::[]):=H2
  clear hLe
  go_wp2_with fail
  go_loopw [6,16] (fun _ v16 wx=>∃ i:Nat,v16=.int .i64 i∧i≤64∧Own w wx (blk g (.cells (bts (xorL L m i)).toArray 154)::[])) (fun _ v16 _=>64-(intOf v16).toNat)
  case atStart=>exact ⟨0,by go_num,by omega,H2⟩
  case round=>
   clear H2
   obtain ⟨i,rfl,hi,H⟩:=hrel
   have hxl:=jd (xor_length L m i)
   by_cases hi64:i<64
   ·have hiI:(i:Int)<64:=by omega
    obtain ⟨X,hX⟩:∃ X,Hid (xorL L m i=X):=⟨_,rfl⟩
    rw [hX.out] at H hxl
    obtain ⟨x,hx⟩:∃ x,Hid (X.getD i 0=x):=⟨_,rfl⟩
    have c0:wr.cell? ⟨g,i,none⟩=some (.int .u8 x):=by rw [H.cells,bts_get (by rw [hxl.out];omega),hx.out]
    have hnx:Hid (xorL L m (i+1)=X.set i (bits .xor .u8 x m)):=jd (by rw [xorL,hX.out,hx.out])
    go_wp2_with (refine Qh rfl _ _ rfl rfl H rfl (by kernel_rfl) (by rw [List.size_toArray,Qx,hxl.out];omega) ?_;clear H c0;intro w7 H;rw [bts_set] at H)
    go_roundw
    case rel=>exact ⟨i+1,by go_num,by omega,by rw [hnx.out];exact H⟩
    case measure=>simp [intOf];omega
   ·obtain rfl:i=64:=by omega
    have hnI:¬ ((64:Nat):Int)<64:=by omega
    have hrd:=H.blkRd (q:=0) (n:=64) (by rw [hxl.out,hLl]) (by omega)
    rw [List.drop_zero] at hrd
    have hs:=Js (P:=Tryz.prog) 58 9 Tryz.underlying58 Tryz.underlying5 Tryz.underlying9 hrd
    rw [hR2.out] at hs
    clear hrd
    go_wp2
    go_ret
    exact ⟨rfl,H.bare⟩
def tagF(key:ByteArray)(t:List Int):ByteArray:=shaF (bn (padF key 92)++bn (shaF (bn (padF key 54)++t)))
theorem tag_size(key:ByteArray)(t:List Int):(tagF key t).size=32:=shaF_size _
set_option maxRecDepth 100000 in
set_option maxHeartbeats 3200000 in
theorem mctag_any{key:ByteArray}{w:World}{v:Value}{n:Nat}{l:List ByteArray}(hk:key.size≤100000000000)(hr:Rd w 1 v n (txs l))(hb:(bns l).length≤100000000000) :
 Calls Tryz.prog 48 #[.string key,v] w (fun e w'=>e=.returned (.string (tagF key (bns l)))∧Own w w' []):=by
 obtain ⟨a,c,rfl,hc1,hc2⟩:=hr.shape
 have hl:l.length=n:=by have:=hr.len;rw [Qr] at this;omega
 obtain ⟨RES,hRES⟩:∃ s,Hid (tagF key (bns l)=s):=⟨_,rfl⟩
 rw [hRES.out]
 have HP:=jd fun m w=>mcpad_any key hk m w
 obtain ⟨I,hI⟩:∃ s,Hid (padF key 54=s):=⟨_,rfl⟩
 obtain ⟨O,hO⟩:∃ s,Hid (padF key 92=s):=⟨_,rfl⟩
 have hIs:I.size=64:=by rw [← hI.out];exact padF_size _ _
 have hOs:O.size=64:=by rw [← hO.out];exact padF_size _ _
 have HP1:=jd (HP.out 54)
 have HP2:=jd (HP.out 92)
 rw [hI.out] at HP1
 rw [hO.out] at HP2
 have H:=Own.start w
 clear HP
 go_enter Tryz.func48,Tryz.ntmps48
 go_wp2_with fail
 refine (shnew_any w).mono ?_
 rintro e w1 ⟨_,rfl,g,rfl,H1⟩
 clear H
 go_wp2_with fail
 refine (HP1.out w1).mono ?_
 rintro e w2 ⟨rfl,H2⟩
 replace H2:=H1.join H2
 clear H1
 go_wp2_with fail
 refine (shwriteT I H2 (by rw [List.length_nil];omega)).mono ?_
 rintro e w3 ⟨_,rfl,H3⟩
 clear H2
 rw [List.nil_append] at H3
 go_wp2_with fail
 go_loopw [7,15] (fun _ v15 wx=>∃ i:Nat,v15=.int .i64 i∧i≤n∧Own w wx (Hsh g (bn I++bns (l.take i))::[])) (fun _ v15 _=>n-(intOf v15).toNat)
 case atStart=>exact ⟨0,by go_num,by omega,by simpa [bns] using H3⟩
 case round=>
  clear H3
  obtain ⟨i,rfl,hi,H⟩:=hrel
  by_cases hin:i<n
  ·have hiI:(i:Int)<(n:Int):=by omega
   obtain ⟨s,hs⟩:=Ql (l:=l) (k:=i) (by omega)
   obtain ⟨b,o,c',e⟩:=Rd.some hr (by rw [Qr];omega)
   obtain ⟨e,-,-⟩:=e
   cases e
   have hcell:=(hr.old H).cell (txs_get hs)
   have hw:=shwriteT s H (by
    have h1:=bns_le l (i+1)
    rw [bns_take hs,lJ,Qu] at h1
    rw [lJ,Qu]
    omega)
   rw [List.append_assoc,← bns_take hs] at hw
   replace hw:=jd hw
   replace hs:=jd hs
   go_wp2_with fail
   refine hw.out.mono ?_
   rintro e w2 ⟨_,rfl,H2⟩
   clear H hw hcell
   go_wp2_with fail
   go_roundw
   case rel=>exact ⟨i+1,by go_num,by omega,H2⟩
   case measure=>simp [intOf];omega
  ·obtain rfl:i=n:=by omega
   rw [List.take_of_length_le (by omega)] at H
   have hS:=jd fun w' ps (h:Own w w' (Hsh g (bn I++bns l)::ps))=>shsumT h (by rw [lJ,Qu];omega)
   obtain ⟨J,hJ⟩:∃ s,Hid (shaF (bn I++bns l)=s):=⟨_,rfl⟩
   have hJs:J.size=32:=by rw [← hJ.out];exact shaF_size _
   rw [hJ.out] at hS
   have hfin:Hid (shaF (bns [O,J])=RES):=jd (by rw [← hRES.out,tagF,hI.out,hO.out,hJ.out];simp [bns])
   go_wp2_with fail
   refine (HP2.out _).mono ?_
   rintro e w4 ⟨rfl,H4⟩
   replace H4:=H.join H4
   clear H
   go_wp2_with fail
   refine (hS.out w4 [] H4).mono ?_
   rintro e w5 ⟨rfl,H5⟩
   replace H5:=(H4.join H5).bare
   clear H4
   have H6:=H5.made [.string O,.string J] 9 1 2 rfl (by decide)
   have hT:=jd (shsums_any (l:=[O,J]) H6.rd (by simp only [bns,List.flatMap_cons,List.flatMap_nil,List.append_nil,lJ,Qu];omega))
   rw [hfin.out] at hT
   go_wp2_with fail
   refine hT.out.mono ?_
   rintro e w7 ⟨rfl,H7⟩
   go_wp2
   go_ret
   exact ⟨rfl,(H6.join H7).bare⟩
def byteF(n:Int)(i:Nat):Int:=IntKind.u8.wrap (n/2^(8*i))
def fxL(n:Int):Nat→List Int
 | 0=>List.replicate 8 0
 | i+1=>(fxL n i).set (7-i) (byteF n i)
theorem fix_length(n:Int):∀ i,(fxL n i).length=8
 | 0=>rfl
 | i+1=>by rw [fxL,List.length_set,fix_length n i]
def fixF(n:Int)(k:Nat):ByteArray:=strOfNums ((fxL n 8).drop (8-k))
theorem Zp(n:Int){k:Nat}(h:k≤8):(fixF n k).size=k:=by rw [fixF,strOfNums_size,List.length_drop,fix_length];omega
set_option maxRecDepth 100000 in
set_option maxHeartbeats 3200000 in
theorem fxd_any(n:Int)(k:Nat)(hk:1≤k∧k≤8)(w:World) :
 Calls Tryz.prog 89 #[.int .i64 n,.int .i64 k] w (fun e w'=>e=.returned (.string (fixF n k))∧Own w w' []):=by
 obtain ⟨hk1,hk8⟩:=hk
 obtain ⟨q,hq⟩:∃ q,Hid (8-k=q):=⟨_,rfl⟩
 have hq7:q≤7:=by have:=hq.out;omega
 have hqk:8-q=k:=by have:=hq.out;omega
 obtain ⟨RES,hRES⟩:∃ s,Hid (fixF n k=s):=⟨_,rfl⟩
 rw [hRES.out]
 have hR2:Hid (strOfNums ((fxL n 8).drop q)=RES):=jd (by rw [← hRES.out,fixF,hq.out])
 clear hRES
 have H:=(Own.start w).alloc (.cells #[.int .u8 0,.int .u8 0,.int .u8 0,.int .u8 0,.int .u8 0,.int .u8 0,.int .u8 0,.int .u8 0] 238)
 go_enter Tryz.func89,Tryz.ntmps89
 go_upto_region 2 with (fail)
 generalize w.alloc _=w1 at *
 generalize w.heap.size=g at *
 replace H:Own w w1 (blk g (.cells (bts (fxL n 0)).toArray 238)::[]):=H
 go_wp2_with fail
 go_loopw [6,7] (fun _ v7 wx=>∃ i:Nat,v7=.int .i64 i∧i≤8∧Own w wx (blk g (.cells (bts (fxL n i)).toArray 238)::[])) (fun _ v7 _=>8-(intOf v7).toNat)
 case atStart=>exact ⟨0,by go_num,by omega,H⟩
 case round=>
  clear H
  obtain ⟨i,rfl,hi,H⟩:=hrel
  have hxl:=jd (fix_length n i)
  by_cases hi8:i<8
  ·have hiI:(i:Int)<8:=by omega
   obtain ⟨X,hX⟩:∃ X,Hid (fxL n i=X):=⟨_,rfl⟩
   rw [hX.out] at H hxl
   obtain ⟨j,hj⟩:∃ j,Hid (7-i=j):=⟨_,rfl⟩
   obtain ⟨r,hr⟩:∃ r,Hid (8*i=r):=⟨_,rfl⟩
   obtain ⟨y,hy⟩:∃ y,Hid (byteF n i=y):=⟨_,rfl⟩
   have hnx:Hid (fxL n (i+1)=X.set j y):=jd (by rw [fxL,hX.out,hj.out,hy.out])
   have hy2:IntKind.u8.wrap (n/2^r)=y:=by rw [← hy.out,byteF,hr.out]
   have e1:IntKind.i64.wrap (7-(i:Int))=(j:Int):=by rw [IntWalk.i64_in _ ⟨by omega,by omega⟩];have:=hj.out;omega
   have e2:IntKind.i64.wrap (8*(i:Int))=(r:Int):=by rw [IntWalk.i64_in _ ⟨by omega,by omega⟩];have:=hr.out;omega
   have hj8:j<8:=by have:=hj.out;omega
   have hj8I:(j:Int)<8:=by omega
   have hr64:(r:Int)<64:=by have:=hr.out;omega
   have hr0:¬ (r:Int)<0:=by omega
   go_wp2_with (refine Qh rfl _ _ rfl rfl H rfl (by kernel_rfl) (by rw [List.size_toArray,Qx,hxl.out];omega) ?_;clear H;intro w7 H;rw [bts_set] at H)
   go_roundw
   case rel=>exact ⟨i+1,by go_num,by omega,by rw [hnx.out];exact H⟩
   case measure=>simp [intOf];omega
  ·obtain rfl:i=8:=by omega
   have hnI:¬ ((8:Nat):Int)<8:=by omega
   have hsl:∀ w,(Instr.sliceAt 238 (.pointer (some ⟨g,0,none⟩)) (some (.int .i64 (q:Int))) none none).run Tryz.prog w=.ok (.slice (some ⟨g,q,none⟩) k k) w:=fun w=>by
    have hl:Tryz.prog.arrayLen 238=8:=by kernel_rfl
    have h:=run_sliceAt_array_l (P:=Tryz.prog) w 238 ⟨g,0,none⟩ Tryz.underlying238 .i64 (q:Int) (by omega) (by rw [hl];omega)
    have he:(sizeOf (Tryz.prog.elem 238)).run Tryz.prog w=.ok 1 w:=by kernel_rfl
    rw [h,hl,he]
    simp only [Result.andThen_ok,slicedAt,Int.toNat_natCast,Nat.mul_one,hqk]
    rw [if_neg (by omega),Addr.add_lit,Nat.zero_add]
   have hrd:=H.blkRd (q:=q) (n:=k) (by rw [hxl.out];omega) (by omega)
   have hs:=Js (P:=Tryz.prog) 58 9 Tryz.underlying58 Tryz.underlying5 Tryz.underlying9 hrd
   rw [hR2.out] at hs
   have m1:¬ (k:Int)<0:=by omega
   have m2:¬ (8:Int)<(k:Int):=by omega
   have m3:IntKind.i64.wrap (8-(k:Int))=(q:Int):=by rw [IntWalk.i64_in _ ⟨by omega,by omega⟩];have:=hq.out;omega
   clear hrd
   go_wp2
   go_ret
   exact ⟨rfl,H.bare⟩
theorem str_bn(s:ByteArray):strOfNums (bn s)=s:=by
 cases s with
 | mk d=>
  cases d with
  | mk l=>simp [strOfNums,bn,Function.comp_def]
def extF(salt secret:ByteArray):ByteArray:=tagF salt (bn secret)
def expF(key info:ByteArray):ByteArray:=tagF key (bns [ByteArray.empty,info,fixF 1 1])
def nmB:ByteArray:=⟨#[115,108,101,100,103,101,32,98,121,116,101,115]⟩
def nmT:ByteArray:=⟨#[115,108,101,100,103,101,32,116,97,103,115]⟩
def nmH:ByteArray:=⟨#[115,108,101,100,103,101,32,104,101,97,100,115]⟩
def keyEnc(secret salt:ByteArray):ByteArray:=expF (extF salt secret) nmB
def keyMac(secret salt:ByteArray):ByteArray:=expF (extF salt secret) nmT
def keyHead(secret:ByteArray):ByteArray:=expF (extF ByteArray.empty secret) nmH
theorem keyHead_size(s:ByteArray):(keyHead s).size=32:=tag_size _ _
theorem keyEnc_size(s t:ByteArray):(keyEnc s t).size=32:=tag_size _ _
theorem keyMac_size(s t:ByteArray):(keyMac s t).size=32:=tag_size _ _
set_option maxHeartbeats 800000 in
theorem kdext_any(salt secret:ByteArray)(h1:salt.size≤100000000000)(h2:secret.size≤100000000000)(w:World) :
 Calls Tryz.prog 41 #[.string salt,.string secret] w (fun e w'=>e=.returned (.string (extF salt secret))∧Own w w' []):=by
 have H:=(Own.start w).made [.string secret] 9 1 1 rfl (by decide)
 have hS:=mctag_any (l:=[secret]) h1 H.rd (by simp only [bns,List.flatMap_cons,List.flatMap_nil,List.append_nil,Qu];omega)
 obtain ⟨R,hR⟩:∃ r,Hid (extF salt secret=r):=⟨_,rfl⟩
 rw [show tagF salt (bns [secret])=R by rw [← hR.out,extF];simp [bns]] at hS
 rw [hR.out]
 replace hS:=jd hS
 go_enter Tryz.func41,Tryz.ntmps41
 go_wp2_with fail
 refine hS.out.mono ?_
 rintro e w1 ⟨rfl,H1⟩
 go_wp2
 go_ret
 exact ⟨rfl,(H.join H1).bare⟩
set_option maxRecDepth 100000 in
set_option maxHeartbeats 3200000 in
theorem kdexp_any(key info:ByteArray)(h1:key.size≤100000000000)(h2:info.size≤1000000000)(w:World) :
 Calls Tryz.prog 80 #[.string key,.string info,.int .i64 32] w (fun e w'=>e=.returned (.tuple #[.string (expF key info),.int .i64 0])∧Own w w' []):=by
 obtain ⟨R,hR⟩:∃ r,Hid (expF key info=r):=⟨_,rfl⟩
 have hRs:R.size=32:=by rw [← hR.out];exact tag_size _ _
 obtain ⟨f1,hf⟩:∃ r,Hid (fixF 1 1=r):=⟨_,rfl⟩
 have hfs:f1.size=1:=by rw [← hf.out];exact Zp _ (by decide)
 have hF:=jd fun w=>fxd_any 1 1 (by decide) w
 rw [hf.out] at hF
 rw [hR.out]
 have H:=Own.start w
 have hT:Hid (∀ w',Own w w' []→Calls Tryz.prog 48 #[.string key,.slice (some ⟨w'.heap.size,0,none⟩) 3 3] (w'.alloc (.cells #[.string ⟨#[]⟩,.string info,.string f1] 9)) (fun e w2=>e=.returned (.string R)∧Own w w2 [])):=jd fun w' h=>by
  have h3:=h.made [.string ⟨#[]⟩,.string info,.string f1] 9 1 3 rfl (by decide)
  have:=mctag_any (l:=[⟨#[]⟩,info,f1]) h1 h3.rd (by simp only [bns,List.flatMap_cons,List.flatMap_nil,List.append_nil,lJ,Qu,hfs];have hz:(ByteArray.mk #[]).size=0:=rfl;omega)
  rw [show tagF key (bns [⟨#[]⟩,info,f1])=R by rw [← hR.out,expF,hf.out];rfl] at this
  exact this.mono fun e w2 g=>⟨g.1,(h3.join g.2).bare⟩
 go_enter Tryz.func80,Tryz.ntmps80
 go_wp2_with fail
 go_loopw [8,9,10] (fun v8 v9 v10 wx=>(v8=.slice none 0 0∧v9=.string ⟨#[]⟩∧v10=.int .i64 1∧Own w wx [])∨(v9=.string R∧v10=.int .i64 2∧Own w wx (slc 5 1 v8 32 (bts (bn R))::[]))) (fun v8 _ _ _=>40-Jr v8)
 case atStart=>exact .inl ⟨rfl,rfl,by go_num,H⟩
 case round=>
  clear H
  rcases hrel with ⟨rfl,rfl,rfl,H⟩ | ⟨rfl,rfl,H⟩
  ·go_wp2_with fail
   refine (hF.out _).mono ?_
   rintro e w1 ⟨rfl,H1⟩
   replace H1:=H.join H1
   clear H
   go_wp2_with fail
   refine (hT.out w1 H1).mono ?_
   rintro e w2 ⟨rfl,H2⟩
   clear H1
   go_wp2_with (at_builtin;refine wpList_append_str rfl _ _ rfl Tryz.underlying58 Tryz.underlying9 u8Info rfl rfl (H2.nil 5 1) rfl (by omega) ?_;clear H2;intro v3 w3 H3)
   rw [List.nil_append,bn_bc,Nat.zero_add,hRs] at H3
   obtain ⟨a4,c4,rfl,g1,g2⟩:=H3.rd.shape
   go_roundw
   case rel=>exact .inr ⟨rfl,by go_num,H3⟩
   case measure=>simp [Jr]
  ·obtain ⟨a4,c4,rfl,g1,g2⟩:=H.rd.shape
   have hs:=Js (P:=Tryz.prog) 58 9 Tryz.underlying58 Tryz.underlying5 Tryz.underlying9 (v:=.slice a4 32 c4) (n:=32) (ns:=bn R) H.rd
   rw [str_bn] at hs
   have g1I:(32:Int)≤(c4:Int):=by omega
   go_wp2
   go_ret2
   exact ⟨rfl,H.bare⟩
set_option maxHeartbeats 1600000 in
theorem kdof_any(key info:ByteArray)(h1:key.size≤100000000000)(h2:info.size≤1000000000)(w:World) :
 Calls Tryz.prog 42 #[.string info,.string key] w (fun e w'=>e=.returned (.string (expF key info))∧Own w w' []):=by
 have hE:=jd (kdexp_any key info h1 h2 w)
 obtain ⟨R,hR⟩:∃ r,Hid (expF key info=r):=⟨_,rfl⟩
 rw [hR.out] at hE ⊢
 go_enter Tryz.func42,Tryz.ntmps42
 go_wp2_with fail
 refine hE.out.mono ?_
 rintro e w1 ⟨rfl,H1⟩
 go_wp2
 go_ret
 exact ⟨rfl,H1⟩
set_option maxHeartbeats 1600000 in
theorem kdkeys_any(secret salt:ByteArray)(h1:secret.size≤1000000000)(h2:salt.size≤1000000000)(w:World) :
 Calls Tryz.prog 18 #[.string secret,.string salt] w (fun e w'=>e=.returned (.agg #[.string (keyEnc secret salt),.string (keyMac secret salt),.string (keyHead secret)])∧Own w w' []):=by
 obtain ⟨K,hK⟩:∃ r,Hid (extF salt secret=r):=⟨_,rfl⟩
 obtain ⟨K0,hK0⟩:∃ r,Hid (extF ByteArray.empty secret=r):=⟨_,rfl⟩
 have hKs:K.size≤100000000000:=by rw [← hK.out,extF,tag_size];omega
 have hK0s:K0.size≤100000000000:=by rw [← hK0.out,extF,tag_size];omega
 obtain ⟨A,hA⟩:∃ r,Hid (keyEnc secret salt=r):=⟨_,rfl⟩
 obtain ⟨B,hB⟩:∃ r,Hid (keyMac secret salt=r):=⟨_,rfl⟩
 obtain ⟨C,hC⟩:∃ r,Hid (keyHead secret=r):=⟨_,rfl⟩
 have h4:=kdext_any salt secret (by omega) (by omega)
 have h5:=kdext_any ByteArray.empty secret (by simp) (by omega)
 have h6:=kdof_any K nmB hKs (by decide)
 have h7:=kdof_any K nmT hKs (by decide)
 have h8:=kdof_any K0 nmH hK0s (by decide)
 rw [show expF K nmB=A by rw [← hA.out,← hK.out];rfl] at h6
 rw [show expF K nmT=B by rw [← hB.out,← hK.out];rfl] at h7
 rw [show expF K0 nmH=C by rw [← hC.out,← hK0.out];rfl] at h8
 rw [hK.out] at h4
 rw [hK0.out] at h5
 replace h4:=jd h4
 replace h5:=jd h5
 replace h6:=jd h6
 replace h7:=jd h7
 replace h8:=jd h8
 rw [hA.out,hB.out,hC.out]
 have H:=(Own.start w).alloc (.cells #[.string ⟨#[]⟩,.string ⟨#[]⟩,.string ⟨#[]⟩] 51)
 go_enter Tryz.func18,Tryz.ntmps18
 go_upto_region 1 with (fail)
 generalize w.alloc _=w1 at *
 generalize w.heap.size=g at *
 go_wp2_with fail
 refine (h4.out _).mono ?_
 rintro e w2 ⟨rfl,H2⟩
 replace H2:=H.join H2
 go_wp2_with fail
 refine (h6.out _).mono ?_
 rintro e w3 ⟨rfl,H3⟩
 replace H3:=H2.join H3
 go_wp2_with fail
 refine (h7.out _).mono ?_
 rintro e w4 ⟨rfl,H4⟩
 replace H4:=H3.join H4
 go_wp2_with fail
 refine (h5.out _).mono ?_
 rintro e w5 ⟨rfl,H5⟩
 replace H5:=H4.join H5
 go_wp2_with fail
 refine (h8.out _).mono ?_
 rintro e w6 ⟨rfl,H6⟩
 replace H6:=H5.join H6
 clear H H2 H3 H4 H5
 go_wp2_with (refine Qe rfl _ _ rfl rfl H6 (vs:=[.string A,.string B,.string C]) rfl (by kernel_rfl) (by simp) (by simp [Value.oneCell']) rfl ?_;clear H6;intro w7 H7)
 have hl9:(loadVar 51 ⟨g,0,none⟩).run Tryz.prog w7=.ok (.agg #[.string A,.string B,.string C]) w7:=run_loadVar_row w7 g _ _ _ _ _ H7.block.1 Tryz.underlying51 rfl (by kernel_rfl)
 refine bodyPost_ret (v:=.agg #[.string A,.string B,.string C]) (res_cell1 (p:=4) (ty:=51) rfl _ _ g _ rfl hl9) rfl ?_
 exact ⟨rfl,H7.bare⟩
theorem str_at{s:ByteArray}{i:Nat}(h:i<s.size)(w:World):(Instr.index 9 (.string s) (.int .i64 (i:Int))).run Tryz.prog w=.ok (.int .u8 ((bn s).getD i 0)) w:=by
 rw [run_index_string w _ _ _ _ Tryz.underlying9,dif_pos (by omega)]
 have h1:(bn s).getD i 0=((s[i]'h).toNat:Int):=by
  rw [bn,List.getD_eq_getElem?_getD,List.getElem?_map,List.getElem?_eq_getElem (by show i<s.data.toList.length;rw [Array.length_toList];exact h)]
  rfl
 rw [h1]
 rfl
theorem results_tmp4{fn:Func}{t u v x:Tmp}(h:fn.results=#[.tmp t,.tmp u,.tmp v,.tmp x])(tmps:Array Value)(P:Program)(w:World) :
 (results fn tmps).run P w=.ok (.tuple #[tmps.getD t undef,tmps.getD u undef,tmps.getD v undef,tmps.getD x undef]) w:=by
 simp [results,h]
def rotF(x:Int)(k:Nat):Int:=bits .or .u32 (IntKind.u32.wrap (x*2^k)) (x/2^(32-k))
set_option maxHeartbeats 800000 in
theorem ccturn_any(x:Int)(k:Nat)(hk:1≤k∧k≤31)(w:World):Calls Tryz.prog 277 #[.int .u32 x,.int .i64 k] w (fun r w'=>r=.returned (.int .u32 (rotF x k))∧Own w w' []):=by
 obtain ⟨hk1,hk2⟩:=hk
 have d11:(k:Int)<64:=by omega
 have d12:¬ (k:Int)<0:=by omega
 have h1:¬ ((32:Int)-k)<0:=by omega
 have h2:IntKind.i64.wrap (32-(k:Int))=32-k:=IntWalk.i64_in _ ⟨by omega,by omega⟩
 have h3:((32:Int)-k).toNat=32-k:=by omega
 unfold rotF
 have H:=Own.start w
 go_enter Tryz.func277,Tryz.ntmps277
 go_upto_region 1 with (fail)
 refine Qa (fun w1=>Own w w1 []) 8 (by kernel_rfl) (by kernel_rfl) H.drew ?_
 simp only [List.take_succ_cons,List.take_zero,List.drop_succ_cons,List.drop_zero]
 repeat
  first
  | (refine calm_value (v:=?_) (by decide) rfl (fun σ w1 hS=>?_) ?_
     rotate_left
     ·skip
      first | (go_simp;rfl) | rfl
     simp only [Act.put,putC])
  | (refine calm_skip (by decide) rfl ?_
     simp only [Act.put,putC])
 refine calm_nil ?_
 intro wd HD
 go_wp2
 go_ret
 exact ⟨rfl,HD⟩
def q1F(a b c d:Int):Int × Int × Int × Int:=
 let a1:=IntKind.u32.wrap (a+b)
 let d1:=rotF (bits .xor .u32 d a1) 16
 let c1:=IntKind.u32.wrap (c+d1)
 let b1:=rotF (bits .xor .u32 b c1) 12
 let a2:=IntKind.u32.wrap (a1+b1)
 let d2:=rotF (bits .xor .u32 d1 a2) 8
 let c2:=IntKind.u32.wrap (c1+d2)
 let b2:=rotF (bits .xor .u32 b1 c2) 7
 (a2,b2,c2,d2)
def quartV(a b c d:Int):Value:=.tuple #[.int .u32 (q1F a b c d).1,.int .u32 (q1F a b c d).2.1,.int .u32 (q1F a b c d).2.2.1,.int .u32 (q1F a b c d).2.2.2]
set_option maxRecDepth 100000 in
set_option maxHeartbeats 1600000 in
theorem ccquarter_any(a b c d:Int)(w:World):Calls Tryz.prog 198 #[.int .u32 a,.int .u32 b,.int .u32 c,.int .u32 d] w (fun r w'=>r=.returned (quartV a b c d)∧Own w w' []):=by
 have T:Hid (∀ (m:Nat) (x:Int) (wx:World) (qs:List Piece),1≤m∧m≤31→Own w wx qs→Calls Tryz.prog 277 #[.int .u32 x,.int .i64 m] wx (fun r w'=>r=.returned (.int .u32 (rotF x m))∧Own w w' qs)):=jd fun m x wx qs hm h=>(ccturn_any x m hm wx).mono fun e w' h2=>⟨h2.1,h.join h2.2⟩
 have H:=Own.start w
 obtain ⟨RES,hRES⟩:∃ s,Hid (quartV a b c d=s):=⟨_,rfl⟩
 rw [hRES.out]
 obtain ⟨a1,ha1⟩:∃ x,Hid (IntKind.u32.wrap (a+b)=x):=⟨_,rfl⟩
 obtain ⟨d1,hd1⟩:∃ x,Hid (rotF (bits .xor .u32 d a1) 16=x):=⟨_,rfl⟩
 obtain ⟨c1,hc1⟩:∃ x,Hid (IntKind.u32.wrap (c+d1)=x):=⟨_,rfl⟩
 obtain ⟨b1,hb1⟩:∃ x,Hid (rotF (bits .xor .u32 b c1) 12=x):=⟨_,rfl⟩
 obtain ⟨a2,ha2⟩:∃ x,Hid (IntKind.u32.wrap (a1+b1)=x):=⟨_,rfl⟩
 obtain ⟨d2,hd2⟩:∃ x,Hid (rotF (bits .xor .u32 d1 a2) 8=x):=⟨_,rfl⟩
 obtain ⟨c2,hc2⟩:∃ x,Hid (IntKind.u32.wrap (c1+d2)=x):=⟨_,rfl⟩
 obtain ⟨b2,hb2⟩:∃ x,Hid (rotF (bits .xor .u32 b1 c2) 7=x):=⟨_,rfl⟩
 have hfin:Hid (RES=.tuple #[.int .u32 a2,.int .u32 b2,.int .u32 c2,.int .u32 d2]):=jd (by
  rw [← hRES.out,← hb2.out,← hc2.out,← hd2.out,← ha2.out,← hb1.out,← hc1.out,← hd1.out,← ha1.out];rfl)
 clear hRES
 have ea1:=ha1.out
 have ec1:=hc1.out
 have ea2:=ha2.out
 have ec2:=hc2.out
 go_enter Tryz.func198,Tryz.ntmps198
 go_wp2_with fail
 refine (T.out 16 _ _ _ (by omega) H).mono ?_
 rintro e w1 ⟨rfl,H1⟩
 rw [hd1.out]
 go_wp2_with fail
 refine (T.out 12 _ _ _ (by omega) H1).mono ?_
 rintro e w2 ⟨rfl,H2⟩
 rw [hb1.out]
 go_wp2_with fail
 refine (T.out 8 _ _ _ (by omega) H2).mono ?_
 rintro e w3 ⟨rfl,H3⟩
 rw [hd2.out]
 go_wp2_with fail
 refine (T.out 7 _ _ _ (by omega) H3).mono ?_
 rintro e w4 ⟨rfl,H4⟩
 rw [hb2.out]
 go_wp2
 refine bodyPost_ret (results_tmp4 rfl _ _ _) rfl ?_
 exact ⟨by rw [hfin.out];rfl,H4⟩
def wordC(b:List Int)(i:Nat):Int:=bits .or .u32 (bits .or .u32 (bits .or .u32 (IntKind.u32.wrap (b.getD (4*i) 0)) (IntKind.u32.wrap (IntKind.u32.wrap (b.getD (4*i+1) 0)*256))) (IntKind.u32.wrap (IntKind.u32.wrap (b.getD (4*i+2) 0)*65536))) (IntKind.u32.wrap (IntKind.u32.wrap (b.getD (4*i+3) 0)*16777216))
set_option maxHeartbeats 1600000 in
theorem ccword_any(s:ByteArray)(i:Nat)(hi:4*i+3<s.size)(hi9:i≤1000)(w:World):Calls Tryz.prog 197 #[.string s,.int .i64 i] w (fun r w'=>r=.returned (.int .u32 (wordC (bn s) i))∧Own w w' []):=by
 have H:=Own.start w
 obtain ⟨RES,hRES⟩:∃ x,Hid (wordC (bn s) i=x):=⟨_,rfl⟩
 rw [hRES.out]
 obtain ⟨j,hj⟩:∃ j,Hid (4*i=j):=⟨_,rfl⟩
 have w0:IntKind.i64.wrap (4*(i:Int))=(j:Int):=by rw [IntWalk.i64_in _ ⟨by omega,by omega⟩];have:=hj.out;omega
 have w1:IntKind.i64.wrap ((j:Int)+1)=((j+1:Nat):Int):=by have:=hj.out;rw [IntWalk.i64_in _ ⟨by omega,by omega⟩];omega
 have w2:IntKind.i64.wrap ((j:Int)+2)=((j+2:Nat):Int):=by have:=hj.out;rw [IntWalk.i64_in _ ⟨by omega,by omega⟩];omega
 have w3:IntKind.i64.wrap ((j:Int)+3)=((j+3:Nat):Int):=by have:=hj.out;rw [IntWalk.i64_in _ ⟨by omega,by omega⟩];omega
 obtain ⟨j1,h1⟩:∃ k,Hid (j+1=k):=⟨_,rfl⟩
 obtain ⟨j2,h2⟩:∃ k,Hid (j+2=k):=⟨_,rfl⟩
 obtain ⟨j3,h3⟩:∃ k,Hid (j+3=k):=⟨_,rfl⟩
 rw [h1.out] at w1
 rw [h2.out] at w2
 rw [h3.out] at w3
 have hj':=hj.out
 have i0:=str_at (s:=s) (i:=j) (by omega)
 have i1:=str_at (s:=s) (i:=j1) (by have:=h1.out;omega)
 have i2:=str_at (s:=s) (i:=j2) (by have:=h2.out;omega)
 have i3:=str_at (s:=s) (i:=j3) (by have:=h3.out;omega)
 obtain ⟨b0,e0⟩:∃ x,Hid ((bn s).getD j 0=x):=⟨_,rfl⟩
 obtain ⟨b1,e1⟩:∃ x,Hid ((bn s).getD j1 0=x):=⟨_,rfl⟩
 obtain ⟨b2,e2⟩:∃ x,Hid ((bn s).getD j2 0=x):=⟨_,rfl⟩
 obtain ⟨b3,e3⟩:∃ x,Hid ((bn s).getD j3 0=x):=⟨_,rfl⟩
 rw [e0.out] at i0
 rw [e1.out] at i1
 rw [e2.out] at i2
 rw [e3.out] at i3
 have hfin:Hid (RES=bits .or .u32 (bits .or .u32 (bits .or .u32 (IntKind.u32.wrap b0) (IntKind.u32.wrap (IntKind.u32.wrap b1*256))) (IntKind.u32.wrap (IntKind.u32.wrap b2*65536))) (IntKind.u32.wrap (IntKind.u32.wrap b3*16777216))):=jd (by
  rw [← hRES.out,wordC,hj.out,h1.out,h2.out,h3.out,e0.out,e1.out,e2.out,e3.out])
 clear hRES e0 e1 e2 e3 h1 h2 h3 hj' hj
 go_enter Tryz.func197,Tryz.ntmps197
 go_upto_region 1 with (fail)
 refine Qa (fun w1=>Own w w1 []) 29 (by kernel_rfl) (by kernel_rfl) H.drew ?_
 simp only [List.take_succ_cons,List.take_zero,List.drop_succ_cons,List.drop_zero]
 repeat
  first
  | (refine calm_value (v:=?_) (by decide) rfl (fun σ w1 hS=>?_) ?_
     rotate_left
     ·skip
      first | (go_simp;rfl) | rfl
     simp only [Act.put,putC])
  | (refine calm_skip (by decide) rfl ?_
     simp only [Act.put,putC])
 refine calm_nil ?_
 intro wd HD
 go_wp2
 go_ret
 exact ⟨by rw [hfin.out];rfl,HD⟩
def consC:List Int:=[1634760805,857760878,2036477234,1797285236,0,0,0,0,0,0,0,0,0,0,0,0]
def begK(k:List Int):Nat→List Int
 | 0=>consC
 | i+1=>(begK k i).set (4+i) (wordC k i)
def begN(s:List Int)(n:List Int):Nat→List Int
 | 0=>s
 | i+1=>(begN s n i).set (13+i) (wordC n i)
theorem begK_length(k:List Int):∀ i,(begK k i).length=16
 | 0=>rfl
 | i+1=>by rw [begK,List.length_set,begK_length k i]
theorem begN_length(s n:List Int):∀ i,(begN s n i).length=s.length
 | 0=>rfl
 | i+1=>by rw [begN,List.length_set,begN_length s n i]
def beginF(key nonce:ByteArray)(ctr:Int):List Int:=begN ((begK (bn key) 8).set 12 (ctr%4294967296)) (bn nonce) 3
theorem begin_length(key nonce:ByteArray)(ctr:Int):(beginF key nonce ctr).length=16:=by rw [beginF,begN_length,List.length_set,begK_length]
theorem w16Info(cs:List Int)(h:cs.length=16):(Tryz.prog.info? 235).map (·.size)=some (wds cs).toArray.size:=by
 rw [List.size_toArray,Qi,h]
 kernel_rfl
section
variable {w0 w:World} {ps:List Piece} {ops:Array Oper} {rest:List Oper} {o:Oper} {a:Act} {Q:Exit→Act→World→Prop}
theorem wpList_load16w(hgd:o.guard=none)(x:Operand)(ho:o.op=.load 235 x){g:Nat}(hx:a.eval x=.pointer (some ⟨g,0,none⟩)){cs:List Int}(hl:cs.length=16)(H:Own w0 w (blk g (.cells (wds cs).toArray 235)::ps))
 (h:wpList Tryz.prog ops Q rest (a.put o.dst (.agg (wds cs).toArray)) w):wpList Tryz.prog ops Q (o::rest) a w:=
 wpList_load_row hgd 235 x ho g hx 235 (wds cs).toArray (0,0) _ H.block.1 Tryz.underlying235 rfl (w16Info cs hl) h
theorem wpList_store16w(hgd:o.guard=none)(x y:Operand)(ho:o.op=.store 235 x y){g:Nat}(hx:a.eval x=.pointer (some ⟨g,0,none⟩)){cs ds:List Int}(hl:cs.length=16)(hd:ds.length=16)
 (H:Own w0 w (blk g (.cells (wds cs).toArray 235)::ps)) (hv:a.eval y=.agg (wds ds).toArray)
 (h:∀ w',Own w0 w' (blk g (.cells (wds ds).toArray 235)::ps)→wpList Tryz.prog ops Q rest (a.put o.dst undef) w'):wpList Tryz.prog ops Q (o::rest) a w:=
 Qe hgd x y ho hx H hv (by have:=w16Info ds hd;rw [List.size_toArray] at this;exact this) (by rw [List.size_toArray,Qi,Qi,hl,hd];omega) (wds_one ds) (shstore_whole _ _ (by rw [Qi,Qi,hl,hd])) h
end
def z16:List Int:=List.replicate 16 0
theorem z16_length:z16.length=16:=by simp [z16]
set_option maxRecDepth 100000 in
set_option maxHeartbeats 3200000 in
theorem ccbegin_any(key nonce:ByteArray)(hk:key.size=32)(hn:nonce.size=12)(ctr:Int)(w:World) :
 Calls Tryz.prog 137 #[.string key,.string nonce,.int .i64 ctr] w (fun r w'=>r=.returned (.agg (wds (beginF key nonce ctr)).toArray)∧Own w w' []):=by
 obtain ⟨RES,hRES⟩:∃ x,Hid (beginF key nonce ctr=x):=⟨_,rfl⟩
 have hRl:RES.length=16:=by rw [← hRES.out];exact begin_length _ _ _
 rw [hRES.out]
 have H:=(Own.start w).alloc2 (.cells #[.int .u32 0,.int .u32 0,.int .u32 0,.int .u32 0,.int .u32 0,.int .u32 0,.int .u32 0,.int .u32 0,.int .u32 0,.int .u32 0,.int .u32 0,.int .u32 0,.int .u32 0,.int .u32 0,.int .u32 0,.int .u32 0] 235) (.cells #[.int .u32 1634760805,.int .u32 857760878,.int .u32 2036477234,.int .u32 1797285236,.int .u32 0,.int .u32 0,.int .u32 0,.int .u32 0,.int .u32 0,.int .u32 0,.int .u32 0,.int .u32 0,.int .u32 0,.int .u32 0,.int .u32 0,.int .u32 0] 235)
 have WK:Hid (∀ (i:Nat) (wx:World) (qs:List Piece),i<8→Own w wx qs→Calls Tryz.prog 197 #[.string key,.int .i64 i] wx (fun r w'=>r=.returned (.int .u32 (wordC (bn key) i))∧Own w w' qs)):=jd fun i wx qs h1 h=>(ccword_any key i (by omega) (by omega) wx).mono fun e w' h2=>⟨h2.1,h.join h2.2⟩
 have WN:Hid (∀ (i:Nat) (wx:World) (qs:List Piece),i<3→Own w wx qs→Calls Tryz.prog 197 #[.string nonce,.int .i64 i] wx (fun r w'=>r=.returned (.int .u32 (wordC (bn nonce) i))∧Own w w' qs)):=jd fun i wx qs h1 h=>(ccword_any nonce i (by omega) (by omega) wx).mono fun e w' h2=>⟨h2.1,h.join h2.2⟩
 go_enter Tryz.func137,Tryz.ntmps137
 go_upto_region 2 with (fail)
 generalize (w.alloc _).alloc _=w1 at *
 obtain ⟨gs,hgs⟩:∃ g,w.heap.size+1=g:=⟨_,rfl⟩
 rw [hgs] at H ⊢
 generalize w.heap.size=gr at *
 clear hgs
 replace H:Own w w1 (blk gs (.cells (wds (begK (bn key) 0)).toArray 235)::blk gr (.cells (wds z16).toArray 235)::[]):=H
 go_wp2_with fail
 go_loopw [8,11] (fun _ v11 wx=>∃ i:Nat,v11=.int .i64 i∧i≤8∧Own w wx (blk gs (.cells (wds (begK (bn key) i)).toArray 235)::blk gr (.cells (wds z16).toArray 235)::[])) (fun _ v11 _=>8-(intOf v11).toNat)
 case atStart=>exact ⟨0,by go_num,by omega,H⟩
 case round=>
  clear H
  obtain ⟨i,rfl,hi,H⟩:=hrel
  have hxl:=jd (begK_length (bn key) i)
  by_cases hi8:i<8
  ·have hiI:(i:Int)<8:=by omega
   obtain ⟨X,hX⟩:∃ X,Hid (begK (bn key) i=X):=⟨_,rfl⟩
   rw [hX.out] at H hxl
   obtain ⟨y,hy⟩:∃ y,Hid (wordC (bn key) i=y):=⟨_,rfl⟩
   obtain ⟨m,hm⟩:∃ m,Hid (4+i=m):=⟨_,rfl⟩
   have hnx:Hid (begK (bn key) (i+1)=X.set m y):=jd (by rw [begK,hX.out,hy.out,hm.out])
   have e1:IntKind.i64.wrap (4+(i:Int))=(m:Int):=by rw [IntWalk.i64_in _ ⟨by omega,by omega⟩];have:=hm.out;omega
   have hm16:m<16:=by have:=hm.out;omega
   have hm16I:(m:Int)<16:=by omega
   go_wp2_with fail
   refine (WK.out i _ _ hi8 H).mono ?_
   rintro e w2 ⟨rfl,H2⟩
   rw [hy.out]
   clear H
   go_wp2_with (refine Qh rfl _ _ rfl rfl H2 rfl (by kernel_rfl) (by rw [List.size_toArray,Qi,hxl.out];omega) ?_;clear H2;intro w7 H2;rw [wds_set] at H2)
   go_roundw
   case rel=>exact ⟨i+1,by go_num,by omega,by rw [hnx.out];exact H2⟩
   case measure=>simp [intOf];omega
  ·obtain rfl:i=8:=by omega
   have hnI:¬ ((8:Nat):Int)<8:=by omega
   obtain ⟨X,hX⟩:∃ X,Hid (begK (bn key) 8=X):=⟨_,rfl⟩
   rw [hX.out] at H hxl
   clear hi hi8
   go_upto_region 8 with (refine Qh rfl _ _ rfl rfl H rfl (by kernel_rfl) (by rw [List.size_toArray,Qi,hxl.out];decide) ?_;clear H;intro w7 H;rw [wds_set] at H)
   obtain ⟨Y,hY⟩:∃ Y,Hid (X.set 12 (ctr%4294967296)=Y):=⟨_,rfl⟩
   have hYl:Hid (Y.length=16):=jd (by rw [← hY.out,List.length_set,hxl.out])
   have hfin:Hid (begN Y (bn nonce) 3=RES):=jd (by rw [← hRES.out,beginF,hX.out,hY.out])
   rw [hY.out] at H
   replace H:Own w w7 (blk gs (.cells (wds (begN Y (bn nonce) 0)).toArray 235)::blk gr (.cells (wds z16).toArray 235)::[]):=H
   clear hRES hX hY hxl WK
   go_wp2_with fail
   go_loopw [9,24] (fun _ v24 wx=>∃ i:Nat,v24=.int .i64 i∧i≤3∧Own w wx (blk gs (.cells (wds (begN Y (bn nonce) i)).toArray 235)::blk gr (.cells (wds z16).toArray 235)::[])) (fun _ v24 _=>3-(intOf v24).toNat)
   case atStart=>exact ⟨0,by go_num,by omega,H⟩
   case round=>
    clear H
    obtain ⟨i,rfl,hi,H⟩:=hrel
    have hxl:Hid ((begN Y (bn nonce) i).length=16):=jd (by rw [begN_length,hYl.out])
    by_cases hi3:i<3
    ·have hiI:(i:Int)<3:=by omega
     obtain ⟨X,hX⟩:∃ X,Hid (begN Y (bn nonce) i=X):=⟨_,rfl⟩
     rw [hX.out] at H hxl
     obtain ⟨y,hy⟩:∃ y,Hid (wordC (bn nonce) i=y):=⟨_,rfl⟩
     obtain ⟨m,hm⟩:∃ m,Hid (13+i=m):=⟨_,rfl⟩
     have hnx:Hid (begN Y (bn nonce) (i+1)=X.set m y):=jd (by rw [begN,hX.out,hy.out,hm.out])
     have e1:IntKind.i64.wrap (13+(i:Int))=(m:Int):=by rw [IntWalk.i64_in _ ⟨by omega,by omega⟩];have:=hm.out;omega
     have hm16:m<16:=by have:=hm.out;omega
     have hm16I:(m:Int)<16:=by omega
     go_wp2_with fail
     refine (WN.out i _ _ hi3 H).mono ?_
     rintro e w2 ⟨rfl,H2⟩
     rw [hy.out]
     clear H
     go_wp2_with (refine Qh rfl _ _ rfl rfl H2 rfl (by kernel_rfl) (by rw [List.size_toArray,Qi,hxl.out];omega) ?_;clear H2;intro w9 H2;rw [wds_set] at H2)
     go_roundw
     case rel=>exact ⟨i+1,by go_num,by omega,by rw [hnx.out];exact H2⟩
     case measure=>simp [intOf];omega
    ·obtain rfl:i=3:=by omega
     have hnI3:¬ ((3:Nat):Int)<3:=by omega
     rw [hfin.out] at H
     clear hi hi3 hfin hxl
     go_upto_region 13 with (fail)
     refine wp_region_list ?_
     refine wpList_load16w rfl _ rfl rfl hRl H ?_
     simp only [Act.put,putC]
     refine wpList_store16w rfl _ _ rfl rfl z16_length hRl H.swap rfl ?_
     clear H
     intro w9 H
     refine wpList_nil ?_
     simp only [Act.put]
     refine (show ∀ (a:Act) (w:World),Code.wp Tryz.prog Code.ret _ a w→_ by assumption) _ _ ?_
     refine wp_ret ?_
     have hl9:(loadVar 235 ⟨gr,0,none⟩).run Tryz.prog w9=.ok (.agg (wds RES).toArray) w9:=run_loadVar_row w9 gr _ _ _ _ _ H.block.1 Tryz.underlying235 rfl (w16Info RES hRl)
     refine bodyPost_ret (v:=.agg (wds RES).toArray) (res_cell1 (p:=6) (ty:=235) rfl _ _ gr _ rfl hl9) rfl ?_
     exact ⟨rfl,H.bare⟩
def cmixF(s:List Int)(a b c d:Nat):List Int:=
 let q:=q1F (s.getD a 0) (s.getD b 0) (s.getD c 0) (s.getD d 0)
 (((s.set a q.1).set b q.2.1).set c q.2.2.1).set d q.2.2.2
theorem cmix_length(s:List Int)(a b c d:Nat):(cmixF s a b c d).length=s.length:=by simp [cmixF]
def pickS(x36 x39 x42:Bool)(s s1 s2 s3:List Int):List Int:=if x42 then s3 else if x39 then s2 else if x36 then s1 else s
theorem late_none{x12 x17 x22 x27 x36 x39 x42:Bool}(h1:x36=true→x12=true∧x17=true∧x22=true∧x27=true)(h2:x39=true→x36=true)(h3:x42=true→x39=true)(hn:(x12&&x17&&x22&&x27)=false):x36=false∧x39=false∧x42=false:=by
 cases x36 <;> cases x39 <;> cases x42 <;> simp_all
set_option maxRecDepth 100000 in
set_option maxHeartbeats 6400000 in
theorem ccmix_any{w0 w:World}{ps:List Piece}{g:Nat}{s:List Int}{a b c d:Nat}(hs:s.length=16)(ha:a<16)(hb:b<16)(hc:c<16)(hd:d<16)(H:Own w0 w (blk g (.cells (wds s).toArray 235)::ps)) :
 Calls Tryz.prog 138 #[.pointer (some ⟨g,0,none⟩),.int .i64 a,.int .i64 b,.int .i64 c,.int .i64 d] w (Ret fun _ w'=>Own w0 w' (blk g (.cells (wds (cmixF s a b c d)).toArray 235)::ps)):=by
 obtain ⟨xa,hxa⟩:∃ x,Hid (s.getD a 0=x):=⟨_,rfl⟩
 obtain ⟨xb,hxb⟩:∃ x,Hid (s.getD b 0=x):=⟨_,rfl⟩
 obtain ⟨xc,hxc⟩:∃ x,Hid (s.getD c 0=x):=⟨_,rfl⟩
 obtain ⟨xd,hxd⟩:∃ x,Hid (s.getD d 0=x):=⟨_,rfl⟩
 obtain ⟨y1,y2,y3,y4,hy⟩:∃ y1 y2 y3 y4,Hid (q1F xa xb xc xd=(y1,y2,y3,y4)):=⟨_,_,_,_,rfl⟩
 have hQ:Hid (∀ w1 qs,Own w0 w1 qs→Calls Tryz.prog 198 #[.int .u32 xa,.int .u32 xb,.int .u32 xc,.int .u32 xd] w1 (fun e w2=>e=.returned (.tuple #[.int .u32 y1,.int .u32 y2,.int .u32 y3,.int .u32 y4])∧Own w0 w2 qs)):=jd fun w1 qs h=>(ccquarter_any xa xb xc xd w1).mono fun e w2 g2=>⟨by rw [g2.1,quartV,hy.out],h.join g2.2⟩
 have hres:Hid (cmixF s a b c d=(((s.set a y1).set b y2).set c y3).set d y4):=jd (by rw [cmixF,hxa.out,hxb.out,hxc.out,hxd.out,hy.out])
 rw [hres.out]
 obtain ⟨s1,h1⟩:∃ x,Hid (s.set a y1=x):=⟨_,rfl⟩
 obtain ⟨s2,h2⟩:∃ x,Hid (s1.set b y2=x):=⟨_,rfl⟩
 obtain ⟨s3,h3⟩:∃ x,Hid (s2.set c y3=x):=⟨_,rfl⟩
 obtain ⟨s4,h4⟩:∃ x,Hid (s3.set d y4=x):=⟨_,rfl⟩
 rw [h1.out,h2.out,h3.out,h4.out]
 have l1:s1.length=16:=by rw [← h1.out,List.length_set,hs]
 have l2:s2.length=16:=by rw [← h2.out,List.length_set,l1]
 have l3:s3.length=16:=by rw [← h3.out,List.length_set,l2]
 have HC:Hid (∀ w1,Own w0 w1 (blk g (.cells (wds s).toArray 235)::ps)→w1.cell? ⟨g,a,none⟩=some (.int .u32 xa)∧w1.cell? ⟨g,b,none⟩=some (.int .u32 xb)∧w1.cell? ⟨g,c,none⟩=some (.int .u32 xc)∧w1.cell? ⟨g,d,none⟩=some (.int .u32 xd)):=jd fun w1 h=>⟨by rw [h.cells,wds_get (by omega),hxa.out],by rw [h.cells,wds_get (by omega),hxb.out],by rw [h.cells,wds_get (by omega),hxc.out],by rw [h.cells,wds_get (by omega),hxd.out]⟩
 have iA:(a:Int)<16:=by omega
 have iB:(b:Int)<16:=by omega
 have iC:(c:Int)<16:=by omega
 have iD:(d:Int)<16:=by omega
 replace hs:=jd hs
 replace l1:=jd l1
 replace l2:=jd l2
 replace l3:=jd l3
 clear hres hxa hxb hxc hxd hy
 go_enter Tryz.func138,Tryz.ntmps138
 refine Trd.wp_region_new (fun σ w1=>((σ 36).isSome=true→(σ 12).isSome=true∧(σ 17).isSome=true∧(σ 22).isSome=true∧(σ 27).isSome=true)∧((σ 39).isSome=true→(σ 36).isSome=true)∧((σ 42).isSome=true→(σ 39).isSome=true)∧Own w0 w1 (blk g (.cells (wds (pickS (σ 36).isSome (σ 39).isSome (σ 42).isSome s s1 s2 s3)).toArray 235)::ps)) 45 [] [12,17,22,27,36,39,42] (by decide) (by kernel_rfl) (by kernel_rfl) ⟨by simp [Sig.no],by simp [Sig.no],by simp [Sig.no],by simpa [Sig.no,pickS] using H.drew⟩ ?_
 simp only [List.take_succ_cons,List.take_zero,List.drop_succ_cons,List.drop_zero]
 repeat
  first
  | (refine Trd.calm_value (v:=?_) (by decide) (by decide) rfl (fun σ w1 hS=>?_) ?_
     rotate_left
     ·skip
      first | (go_simp;rfl) | rfl
     simp only [Act.put,putC])
  | (refine Trd.calm_skip (by decide) rfl ?_
     simp only [Act.put,putC])
 refine Trd.calm_track (v:=.int .u32 xa) (by decide) (by decide) rfl (fun σ w1 hS hn _=>?_) ?_
 ·obtain ⟨e1,e2,e3⟩:=late_none hS.1 hS.2.1 hS.2.2.1 (by simp [hn])
  have H1:=hS.2.2.2
  rw [e1,e2,e3] at H1
  obtain ⟨c0,c1,c2,c3⟩:=HC.out w1 H1
  refine ⟨w1,by go_simp,fun h=>?_,?_,?_,?_⟩
  ·exact absurd h (by simp [Sig.upd,e1])
  ·simpa [Sig.upd] using hS.2.1
  ·simpa [Sig.upd] using hS.2.2.1
  ·simpa [Sig.upd,e1,e2,e3] using hS.2.2.2
 simp only [Act.put,putC]
 repeat
  first
  | (refine Trd.calm_value (v:=?_) (by decide) (by decide) rfl (fun σ w1 hS=>?_) ?_
     rotate_left
     ·skip
      first | (go_simp;rfl) | rfl
     simp only [Act.put,putC])
  | (refine Trd.calm_skip (by decide) rfl ?_
     simp only [Act.put,putC])
 refine Trd.calm_track (v:=.int .u32 xb) (by decide) (by decide) rfl (fun σ w1 hS hn _=>?_) ?_
 ·obtain ⟨e1,e2,e3⟩:=late_none hS.1 hS.2.1 hS.2.2.1 (by simp [hn])
  have H1:=hS.2.2.2
  rw [e1,e2,e3] at H1
  obtain ⟨c0,c1,c2,c3⟩:=HC.out w1 H1
  refine ⟨w1,by go_simp,fun h=>?_,?_,?_,?_⟩
  ·exact absurd h (by simp [Sig.upd,e1])
  ·simpa [Sig.upd] using hS.2.1
  ·simpa [Sig.upd] using hS.2.2.1
  ·simpa [Sig.upd,e1,e2,e3] using hS.2.2.2
 simp only [Act.put,putC]
 repeat
  first
  | (refine Trd.calm_value (v:=?_) (by decide) (by decide) rfl (fun σ w1 hS=>?_) ?_
     rotate_left
     ·skip
      first | (go_simp;rfl) | rfl
     simp only [Act.put,putC])
  | (refine Trd.calm_skip (by decide) rfl ?_
     simp only [Act.put,putC])
 refine Trd.calm_track (v:=.int .u32 xc) (by decide) (by decide) rfl (fun σ w1 hS hn _=>?_) ?_
 ·obtain ⟨e1,e2,e3⟩:=late_none hS.1 hS.2.1 hS.2.2.1 (by simp [hn])
  have H1:=hS.2.2.2
  rw [e1,e2,e3] at H1
  obtain ⟨c0,c1,c2,c3⟩:=HC.out w1 H1
  refine ⟨w1,by go_simp,fun h=>?_,?_,?_,?_⟩
  ·exact absurd h (by simp [Sig.upd,e1])
  ·simpa [Sig.upd] using hS.2.1
  ·simpa [Sig.upd] using hS.2.2.1
  ·simpa [Sig.upd,e1,e2,e3] using hS.2.2.2
 simp only [Act.put,putC]
 repeat
  first
  | (refine Trd.calm_value (v:=?_) (by decide) (by decide) rfl (fun σ w1 hS=>?_) ?_
     rotate_left
     ·skip
      first | (go_simp;rfl) | rfl
     simp only [Act.put,putC])
  | (refine Trd.calm_skip (by decide) rfl ?_
     simp only [Act.put,putC])
 refine Trd.calm_track (v:=.int .u32 xd) (by decide) (by decide) rfl (fun σ w1 hS hn _=>?_) ?_
 ·obtain ⟨e1,e2,e3⟩:=late_none hS.1 hS.2.1 hS.2.2.1 (by simp [hn])
  have H1:=hS.2.2.2
  rw [e1,e2,e3] at H1
  obtain ⟨c0,c1,c2,c3⟩:=HC.out w1 H1
  refine ⟨w1,by go_simp,fun h=>?_,?_,?_,?_⟩
  ·exact absurd h (by simp [Sig.upd,e1])
  ·simpa [Sig.upd] using hS.2.1
  ·simpa [Sig.upd] using hS.2.2.1
  ·simpa [Sig.upd,e1,e2,e3] using hS.2.2.2
 simp only [Act.put,putC]
 repeat
  first
  | (refine Trd.calm_value (v:=?_) (by decide) (by decide) rfl (fun σ w1 hS=>?_) ?_
     rotate_left
     ·skip
      first | (go_simp;rfl) | rfl
     simp only [Act.put,putC])
  | (refine Trd.calm_skip (by decide) rfl ?_
     simp only [Act.put,putC])
 refine scalm_call (v:=.tuple #[.int .u32 y1,.int .u32 y2,.int .u32 y3,.int .u32 y4]) (by decide) (by decide) rfl (fun w1=>(by go_simp)) (fun σ w1 hS=>(hQ.out w1 _ hS.2.2.2).mono fun e w2 g2=>⟨g2.1,hS.1,hS.2.1,hS.2.2.1,g2.2⟩) ?_
 simp only [Act.put,putC]
 repeat
  first
  | (refine Trd.calm_value (v:=?_) (by decide) (by decide) rfl (fun σ w1 hS=>?_) ?_
     rotate_left
     ·skip
      first | (go_simp;rfl) | rfl
     simp only [Act.put,putC])
  | (refine Trd.calm_skip (by decide) rfl ?_
     simp only [Act.put,putC])
 refine scalm_store (off:=a) (u:=.int .u32 y1) _ _ (by decide) (by decide) rfl rfl rfl rfl rfl (by kernel_rfl) rfl (fun σ w1 hS hn hd=>?_) ?_
 ·have e3:(σ 39).isSome=false:=by
   cases h:(σ 39).isSome with
   | false=>rfl
   | true=>have:=hS.2.1 h;rw [hn] at this;cases this
  have e4:(σ 42).isSome=false:=by
   cases h:(σ 42).isSome with
   | false=>rfl
   | true=>have:=hS.2.2.1 h;rw [e3] at this;cases this
  have H1:=hS.2.2.2
  rw [hn,e3,e4] at H1
  have d1:=hd 12 (by decide) ⟨⟨12,.phase⟩,by simp,by decide,rfl⟩
  have d2:=hd 17 (by decide) ⟨⟨17,.phase⟩,by simp,by decide,rfl⟩
  have d3:=hd 22 (by decide) ⟨⟨22,.phase⟩,by simp,by decide,rfl⟩
  have d4:=hd 27 (by decide) ⟨⟨27,.phase⟩,by simp,by decide,rfl⟩
  refine ⟨w0,_,_,_,H1,by rw [List.size_toArray,Qi];show a<s.length;rw [hs.out];exact ha,fun w' h=>⟨fun _=>?_,?_,?_,?_⟩⟩
  ·simp [Sig.upd,d1,d2,d3,d4]
  ·simp [Sig.upd,e3]
  ·simp [Sig.upd,e3,e4]
  ·have h':Own w0 w' (blk g (.cells ((wds s).toArray.setIfInBounds a (.int .u32 y1)) 235)::ps):=h
   rw [wds_set,h1.out] at h'
   simpa [Sig.upd,e3,e4,pickS] using h'
 simp only [Act.put]
 repeat
  first
  | (refine Trd.calm_value (v:=?_) (by decide) (by decide) rfl (fun σ w1 hS=>?_) ?_
     rotate_left
     ·skip
      first | (go_simp;rfl) | rfl
     simp only [Act.put,putC])
  | (refine Trd.calm_skip (by decide) rfl ?_
     simp only [Act.put,putC])
 refine scalm_store (off:=b) (u:=.int .u32 y2) _ _ (by decide) (by decide) rfl rfl rfl rfl rfl (by kernel_rfl) rfl (fun σ w1 hS hn hd=>?_) ?_
 ·have e4:(σ 42).isSome=false:=by
   cases h:(σ 42).isSome with
   | false=>rfl
   | true=>have:=hS.2.2.1 h;rw [hn] at this;cases this
  have d1:=hd 36 (by decide) ⟨⟨36,.chain⟩,by simp,by decide,rfl⟩
  have H1:=hS.2.2.2
  rw [hn,e4,d1] at H1
  refine ⟨w0,_,_,_,H1,by rw [List.size_toArray,Qi];show b<s1.length;rw [l1.out];exact hb,fun w' h=>⟨fun _=>?_,?_,?_,?_⟩⟩
  ·simpa [Sig.upd] using hS.1 d1
  ·simp [Sig.upd,d1]
  ·simp [Sig.upd,e4]
  ·have h':Own w0 w' (blk g (.cells ((wds s1).toArray.setIfInBounds b (.int .u32 y2)) 235)::ps):=h
   rw [wds_set,h2.out] at h'
   simpa [Sig.upd,d1,e4,pickS] using h'
 simp only [Act.put]
 repeat
  first
  | (refine Trd.calm_value (v:=?_) (by decide) (by decide) rfl (fun σ w1 hS=>?_) ?_
     rotate_left
     ·skip
      first | (go_simp;rfl) | rfl
     simp only [Act.put,putC])
  | (refine Trd.calm_skip (by decide) rfl ?_
     simp only [Act.put,putC])
 refine scalm_store (off:=c) (u:=.int .u32 y3) _ _ (by decide) (by decide) rfl rfl rfl rfl rfl (by kernel_rfl) rfl (fun σ w1 hS hn hd=>?_) ?_
 ·have d1:=hd 39 (by decide) ⟨⟨39,.chain⟩,by simp,by decide,rfl⟩
  have d2:=hS.2.1 d1
  have H1:=hS.2.2.2
  rw [hn,d2,d1] at H1
  refine ⟨w0,_,_,_,H1,by rw [List.size_toArray,Qi];show c<s2.length;rw [l2.out];exact hc,fun w' h=>⟨fun _=>?_,?_,?_,?_⟩⟩
  ·simpa [Sig.upd] using hS.1 d2
  ·simpa [Sig.upd] using fun _=>d2
  ·simp [Sig.upd,d1]
  ·have h':Own w0 w' (blk g (.cells ((wds s2).toArray.setIfInBounds c (.int .u32 y3)) 235)::ps):=h
   rw [wds_set,h3.out] at h'
   simpa [Sig.upd,d1,d2,pickS] using h'
 simp only [Act.put]
 repeat
  first
  | (refine Trd.calm_value (v:=?_) (by decide) (by decide) rfl (fun σ w1 hS=>?_) ?_
     rotate_left
     ·skip
      first | (go_simp;rfl) | rfl
     simp only [Act.put,putC])
  | (refine Trd.calm_skip (by decide) rfl ?_
     simp only [Act.put,putC])
 refine Trd.calm_nil ?_
 intro σ wd _ hσ HD
 replace HD:=HD.2.2.2
 rw [hσ 36 (by decide),hσ 39 (by decide),hσ 42 (by decide)] at HD
 replace HD:Own w0 wd (blk g (.cells (wds s3).toArray 235)::ps):=HD
 clear hσ H
 simp only [Jx,List.foldl_nil]
 go_wp2_with (refine Qh rfl _ _ rfl rfl HD rfl (by kernel_rfl) (by rw [List.size_toArray,Qi,l3.out];omega) ?_;clear HD;intro w7 HD;rw [wds_set,h4.out] at HD)
 go_end0
 exact ⟨_,rfl,HD⟩
def colsF(s:List Int):Nat→List Int
 | 0=>s
 | i+1=>cmixF (colsF s i) i (4+i) (8+i) (12+i)
def dgsF(s:List Int):Nat→List Int
 | 0=>s
 | i+1=>cmixF (dgsF s i) i (4+(i+1)%4) (8+(i+2)%4) (12+(i+3)%4)
def rndC(s:List Int):Nat→List Int
 | 0=>s
 | k+1=>dgsF (colsF (rndC s k) 4) 4
theorem cols_length(s:List Int):∀ i,(colsF s i).length=s.length
 | 0=>rfl
 | i+1=>by rw [colsF,cmix_length,cols_length s i]
theorem dgs_length(s:List Int):∀ i,(dgsF s i).length=s.length
 | 0=>rfl
 | i+1=>by rw [dgsF,cmix_length,dgs_length s i]
theorem rndC_length(s:List Int):∀ i,(rndC s i).length=s.length
 | 0=>rfl
 | i+1=>by rw [rndC,dgs_length,cols_length,rndC_length s i]
def put4(l:List Int)(j:Nat)(x:Int):List Int:=(((l.set j (IntKind.u8.wrap x)).set (j+1) (IntKind.u8.wrap (x/256))).set (j+2) (IntKind.u8.wrap (x/65536))).set (j+3) (IntKind.u8.wrap (x/16777216))
def outC(s f:List Int):Nat→List Int
 | 0=>z64
 | i+1=>put4 (outC s f i) (4*i) (IntKind.u32.wrap (s.getD i 0+f.getD i 0))
theorem outC_length(s f:List Int):∀ i,(outC s f i).length=64
 | 0=>z64_length
 | i+1=>by rw [outC,put4];simp only [List.length_set];exact outC_length s f i
def blockC(key nonce:ByteArray)(ctr:Int):List Int:=outC (rndC (beginF key nonce ctr) 10) (beginF key nonce ctr) 16
theorem blockC_length(key nonce:ByteArray)(ctr:Int):(blockC key nonce ctr).length=64:=outC_length _ _ _
theorem b64Info(cs:List Int)(h:cs.length=64):(Tryz.prog.info? 154).map (·.size)=some (bts cs).toArray.size:=by
 rw [List.size_toArray,Qx,h]
 kernel_rfl
section
variable {w0 w:World} {ps:List Piece} {ops:Array Oper} {rest:List Oper} {o:Oper} {a:Act} {Q:Exit→Act→World→Prop}
theorem wpList_load64b(hgd:o.guard=none)(x:Operand)(ho:o.op=.load 154 x){g:Nat}(hx:a.eval x=.pointer (some ⟨g,0,none⟩)){cs:List Int}(hl:cs.length=64)(H:Own w0 w (blk g (.cells (bts cs).toArray 154)::ps))
 (h:wpList Tryz.prog ops Q rest (a.put o.dst (.agg (bts cs).toArray)) w):wpList Tryz.prog ops Q (o::rest) a w:=
 wpList_load_row hgd 154 x ho g hx 154 (bts cs).toArray (0,0) _ H.block.1 Tryz.underlying154 rfl (b64Info cs hl) h
theorem wpList_store64b(hgd:o.guard=none)(x y:Operand)(ho:o.op=.store 154 x y){g:Nat}(hx:a.eval x=.pointer (some ⟨g,0,none⟩)){cs ds:List Int}(hl:cs.length=64)(hd:ds.length=64)
 (H:Own w0 w (blk g (.cells (bts cs).toArray 154)::ps)) (hv:a.eval y=.agg (bts ds).toArray)
 (h:∀ w',Own w0 w' (blk g (.cells (bts ds).toArray 154)::ps)→wpList Tryz.prog ops Q rest (a.put o.dst undef) w'):wpList Tryz.prog ops Q (o::rest) a w:=
 Qe hgd x y ho hx H hv (by have:=b64Info ds hd;rw [List.size_toArray] at this;exact this) (by rw [List.size_toArray,Qx,Qx,hl,hd];omega) (bts_one ds) (shstore_whole _ _ (by rw [Qx,Qx,hl,hd])) h
end
set_option maxRecDepth 100000 in
set_option maxHeartbeats 12800000 in
theorem ccblock_any(key nonce:ByteArray)(hk:key.size=32)(hn:nonce.size=12)(ctr:Int)(w:World) :
 Calls Tryz.prog 88 #[.string key,.string nonce,.int .i64 ctr] w (fun r w'=>r=.returned (.agg (bts (blockC key nonce ctr)).toArray)∧Own w w' []):=by
 obtain ⟨RES,hRES⟩:∃ x,Hid (blockC key nonce ctr=x):=⟨_,rfl⟩
 have hRl:RES.length=64:=by rw [← hRES.out];exact blockC_length _ _ _
 rw [hRES.out]
 have H:=(Own.start w).alloc (.cells #[.int .u8 0,.int .u8 0,.int .u8 0,.int .u8 0,.int .u8 0,.int .u8 0,.int .u8 0,.int .u8 0,.int .u8 0,.int .u8 0,.int .u8 0,.int .u8 0,.int .u8 0,.int .u8 0,.int .u8 0,.int .u8 0,.int .u8 0,.int .u8 0,.int .u8 0,.int .u8 0,.int .u8 0,.int .u8 0,.int .u8 0,.int .u8 0,.int .u8 0,.int .u8 0,.int .u8 0,.int .u8 0,.int .u8 0,.int .u8 0,.int .u8 0,.int .u8 0,.int .u8 0,.int .u8 0,.int .u8 0,.int .u8 0,.int .u8 0,.int .u8 0,.int .u8 0,.int .u8 0,.int .u8 0,.int .u8 0,.int .u8 0,.int .u8 0,.int .u8 0,.int .u8 0,.int .u8 0,.int .u8 0,.int .u8 0,.int .u8 0,.int .u8 0,.int .u8 0,.int .u8 0,.int .u8 0,.int .u8 0,.int .u8 0,.int .u8 0,.int .u8 0,.int .u8 0,.int .u8 0,.int .u8 0,.int .u8 0,.int .u8 0,.int .u8 0] 154)
 have HB:=jd fun w=>ccbegin_any key nonce hk hn ctr w
 obtain ⟨FIR,hFIR⟩:∃ x,Hid (beginF key nonce ctr=x):=⟨_,rfl⟩
 have hFl:FIR.length=16:=by rw [← hFIR.out];exact begin_length _ _ _
 rw [hFIR.out] at HB
 go_enter Tryz.func88,Tryz.ntmps88
 go_upto_region 1 with (fail)
 generalize w.alloc _=w1 at *
 generalize w.heap.size=gr at *
 replace H:Own w w1 (blk gr (.cells (bts z64).toArray 154)::[]):=H
 go_wp2_with fail
 refine (HB.out _).mono ?_
 rintro e w2 ⟨rfl,H2⟩
 replace H2:=H.join H2
 clear H
 go_upto_region 2 with (refine wpList_store16w rfl _ _ rfl rfl z16_length hFl (H2.alloc (.cells #[.int .u32 0,.int .u32 0,.int .u32 0,.int .u32 0,.int .u32 0,.int .u32 0,.int .u32 0,.int .u32 0,.int .u32 0,.int .u32 0,.int .u32 0,.int .u32 0,.int .u32 0,.int .u32 0,.int .u32 0,.int .u32 0] 235)) rfl ?_;clear H2;intro w3 H2)
 simp only [Act.put]
 generalize w2.heap.size=gf at *
 go_upto_region 3 with (first
  | (refine wpList_load16w rfl _ rfl rfl hFl H2 ?_)
  | (refine wpList_store16w rfl _ _ rfl rfl z16_length hFl (H2.alloc (.cells #[.int .u32 0,.int .u32 0,.int .u32 0,.int .u32 0,.int .u32 0,.int .u32 0,.int .u32 0,.int .u32 0,.int .u32 0,.int .u32 0,.int .u32 0,.int .u32 0,.int .u32 0,.int .u32 0,.int .u32 0,.int .u32 0] 235)) rfl ?_;clear H2;intro w4 H2))
 simp only [Act.put]
 generalize w3.heap.size=gs at *
 replace H2:Own w w4 (blk gs (.cells (wds (rndC FIR 0)).toArray 235)::blk gf (.cells (wds FIR).toArray 235)::blk gr (.cells (bts z64).toArray 154)::[]):=H2
 go_wp2_with fail
 go_loopw [9,10,19,21,33] (fun _ _ v19 _ _ wx=>∃ k:Nat,v19=.int .i64 k∧k≤10∧Own w wx (blk gs (.cells (wds (rndC FIR k)).toArray 235)::blk gf (.cells (wds FIR).toArray 235)::blk gr (.cells (bts z64).toArray 154)::[])) (fun _ _ v19 _ _ _=>10-(intOf v19).toNat)
 case atStart=>exact ⟨0,by go_num,by omega,H2⟩
 case round=>
  clear H2
  obtain ⟨k,rfl,hk10,H⟩:=hrel
  have hRl':(rndC FIR k).length=16:=by rw [rndC_length,hFl]
  by_cases hlt:k<10
  ·have hkI:(k:Int)<10:=by omega
   obtain ⟨X,hX⟩:∃ X,Hid (rndC FIR k=X):=⟨_,rfl⟩
   have hnx:Hid (rndC FIR (k+1)=dgsF (colsF X 4) 4):=jd (by rw [rndC,hX.out])
   rw [hX.out] at H hRl'
   replace hRl':=jd hRl'
   replace H:Own w wr (blk gs (.cells (wds (colsF X 0)).toArray 235)::blk gf (.cells (wds FIR).toArray 235)::blk gr (.cells (bts z64).toArray 154)::[]):=H
   go_wp2_with fail
   go_loopw [9,21] (fun _ v21 wx=>∃ i:Nat,v21=.int .i64 i∧i≤4∧Own w wx (blk gs (.cells (wds (colsF X i)).toArray 235)::blk gf (.cells (wds FIR).toArray 235)::blk gr (.cells (bts z64).toArray 154)::[])) (fun _ v21 _=>4-(intOf v21).toNat)
   case atStart=>exact ⟨0,by go_num,by omega,H⟩
   case round=>
    clear H
    obtain ⟨i,rfl,hi,H⟩:=hrel
    have hcl:(colsF X i).length=16:=by rw [cols_length,hRl'.out]
    by_cases hi4:i<4
    ·have hiI:(i:Int)<4:=by omega
     have hnx2:Hid (colsF X (i+1)=cmixF (colsF X i) i (4+i) (8+i) (12+i)):=jd rfl
     obtain ⟨m4,h4⟩:∃ m,Hid (4+i=m):=⟨_,rfl⟩
     obtain ⟨m8,h8⟩:∃ m,Hid (8+i=m):=⟨_,rfl⟩
     obtain ⟨m12,h12⟩:∃ m,Hid (12+i=m):=⟨_,rfl⟩
     rw [h4.out,h8.out,h12.out] at hnx2
     have e4:IntKind.i64.wrap (4+(i:Int))=(m4:Int):=by rw [IntWalk.i64_in _ ⟨by omega,by omega⟩];have:=h4.out;omega
     have e8:IntKind.i64.wrap (8+(i:Int))=(m8:Int):=by rw [IntWalk.i64_in _ ⟨by omega,by omega⟩];have:=h8.out;omega
     have e12:IntKind.i64.wrap (12+(i:Int))=(m12:Int):=by rw [IntWalk.i64_in _ ⟨by omega,by omega⟩];have:=h12.out;omega
     have hM:=jd (ccmix_any (a:=i) (b:=m4) (c:=m8) (d:=m12) hcl (by omega) (by have:=h4.out;omega) (by have:=h8.out;omega) (by have:=h12.out;omega) H)
     rw [← hnx2.out] at hM
     go_wp2_with fail
     refine hM.out.mono ?_
     rintro e w7 ⟨_,rfl,H7⟩
     clear H hM
     go_wp2_with fail
     go_roundw
     case rel=>exact ⟨i+1,by go_num,by omega,H7⟩
     case measure=>simp [intOf];omega
    ·obtain rfl:i=4:=by omega
     have hnI4:¬ ((4:Nat):Int)<4:=by omega
     obtain ⟨Y,hY⟩:∃ Y,Hid (colsF X 4=Y):=⟨_,rfl⟩
     rw [hY.out] at H hnx hcl
     replace hcl:=jd hcl
     replace H:Own w wr (blk gs (.cells (wds (dgsF Y 0)).toArray 235)::blk gf (.cells (wds FIR).toArray 235)::blk gr (.cells (bts z64).toArray 154)::[]):=H
     clear hi hi4
     go_wp2_with fail
     go_loopw [10,33] (fun _ v33 wx=>∃ i:Nat,v33=.int .i64 i∧i≤4∧Own w wx (blk gs (.cells (wds (dgsF Y i)).toArray 235)::blk gf (.cells (wds FIR).toArray 235)::blk gr (.cells (bts z64).toArray 154)::[])) (fun _ v33 _=>4-(intOf v33).toNat)
     case atStart=>exact ⟨0,by go_num,by omega,H⟩
     case round=>
      clear H
      obtain ⟨i,rfl,hi,H⟩:=hrel
      have hdl:(dgsF Y i).length=16:=by rw [dgs_length,hcl.out]
      by_cases hi4:i<4
      ·have hiI:(i:Int)<4:=by omega
       have hnx2:Hid (dgsF Y (i+1)=cmixF (dgsF Y i) i (4+(i+1)%4) (8+(i+2)%4) (12+(i+3)%4)):=jd rfl
       obtain ⟨r1,hr1⟩:∃ m,Hid ((i+1)%4=m):=⟨_,rfl⟩
       obtain ⟨r2,hr2⟩:∃ m,Hid ((i+2)%4=m):=⟨_,rfl⟩
       obtain ⟨r3,hr3⟩:∃ m,Hid ((i+3)%4=m):=⟨_,rfl⟩
       rw [hr1.out,hr2.out,hr3.out] at hnx2
       obtain ⟨m4,h4⟩:∃ m,Hid (4+r1=m):=⟨_,rfl⟩
       obtain ⟨m8,h8⟩:∃ m,Hid (8+r2=m):=⟨_,rfl⟩
       obtain ⟨m12,h12⟩:∃ m,Hid (12+r3=m):=⟨_,rfl⟩
       rw [h4.out,h8.out,h12.out] at hnx2
       have b1:r1<4:=by have:=hr1.out;omega
       have b2:r2<4:=by have:=hr2.out;omega
       have b3:r3<4:=by have:=hr3.out;omega
       have a1:IntKind.i64.wrap ((i:Int)+1)=(i:Int)+1:=IntWalk.i64_in _ ⟨by omega,by omega⟩
       have a2:IntKind.i64.wrap ((i:Int)+2)=(i:Int)+2:=IntWalk.i64_in _ ⟨by omega,by omega⟩
       have a3:IntKind.i64.wrap ((i:Int)+3)=(i:Int)+3:=IntWalk.i64_in _ ⟨by omega,by omega⟩
       have t1:((i:Int)+1).tmod 4=(r1:Int):=by rw [Int.tmod_eq_emod_of_nonneg (by omega)];have:=hr1.out;omega
       have t2:((i:Int)+2).tmod 4=(r2:Int):=by rw [Int.tmod_eq_emod_of_nonneg (by omega)];have:=hr2.out;omega
       have t3:((i:Int)+3).tmod 4=(r3:Int):=by rw [Int.tmod_eq_emod_of_nonneg (by omega)];have:=hr3.out;omega
       have e4:IntKind.i64.wrap (4+(r1:Int))=(m4:Int):=by rw [IntWalk.i64_in _ ⟨by omega,by omega⟩];have:=h4.out;omega
       have e8:IntKind.i64.wrap (8+(r2:Int))=(m8:Int):=by rw [IntWalk.i64_in _ ⟨by omega,by omega⟩];have:=h8.out;omega
       have e12:IntKind.i64.wrap (12+(r3:Int))=(m12:Int):=by rw [IntWalk.i64_in _ ⟨by omega,by omega⟩];have:=h12.out;omega
       have hM:=jd (ccmix_any (a:=i) (b:=m4) (c:=m8) (d:=m12) hdl (by omega) (by have:=h4.out;omega) (by have:=h8.out;omega) (by have:=h12.out;omega) H)
       rw [← hnx2.out] at hM
       go_wp2_with fail
       refine hM.out.mono ?_
       rintro e w7 ⟨_,rfl,H7⟩
       clear H hM
       go_wp2_with fail
       go_roundw
       case rel=>exact ⟨i+1,by go_num,by omega,H7⟩
       case measure=>simp [intOf];omega
      ·obtain rfl:i=4:=by omega
       have hnI4':¬ ((4:Nat):Int)<4:=by omega
       rw [← hnx.out] at H
       go_wp2_with fail
       go_roundw
       case rel=>exact ⟨k+1,by go_num,by omega,H⟩
       case measure=>simp [intOf];omega
  ·obtain rfl:k=10:=by omega
   have hnI10:¬ ((10:Nat):Int)<10:=by omega
   obtain ⟨X,hX⟩:∃ X,Hid (rndC FIR 10=X):=⟨_,rfl⟩
   have hfin:Hid (outC X FIR 16=RES):=jd (by rw [← hRES.out,blockC,hFIR.out,hX.out])
   rw [hX.out] at H hRl'
   clear hRES hFIR hX
   replace H:=H.alloc (.cells #[.int .u8 0,.int .u8 0,.int .u8 0,.int .u8 0,.int .u8 0,.int .u8 0,.int .u8 0,.int .u8 0,.int .u8 0,.int .u8 0,.int .u8 0,.int .u8 0,.int .u8 0,.int .u8 0,.int .u8 0,.int .u8 0,.int .u8 0,.int .u8 0,.int .u8 0,.int .u8 0,.int .u8 0,.int .u8 0,.int .u8 0,.int .u8 0,.int .u8 0,.int .u8 0,.int .u8 0,.int .u8 0,.int .u8 0,.int .u8 0,.int .u8 0,.int .u8 0,.int .u8 0,.int .u8 0,.int .u8 0,.int .u8 0,.int .u8 0,.int .u8 0,.int .u8 0,.int .u8 0,.int .u8 0,.int .u8 0,.int .u8 0,.int .u8 0,.int .u8 0,.int .u8 0,.int .u8 0,.int .u8 0,.int .u8 0,.int .u8 0,.int .u8 0,.int .u8 0,.int .u8 0,.int .u8 0,.int .u8 0,.int .u8 0,.int .u8 0,.int .u8 0,.int .u8 0,.int .u8 0,.int .u8 0,.int .u8 0,.int .u8 0,.int .u8 0] 154)
   go_upto_region 17 with (fail)
   generalize wr.alloc _=w5 at *
   generalize wr.heap.size=go at *
   replace H:Own w w5 (blk go (.cells (bts (outC X FIR 0)).toArray 154)::blk gs (.cells (wds (X)).toArray 235)::blk gf (.cells (wds FIR).toArray 235)::blk gr (.cells (bts z64).toArray 154)::[]):=H
   go_upto_block 6 with (refine wpList_load16w rfl _ rfl rfl hRl' H.swap ?_)
   replace hRl':=jd hRl'
   replace hFl:=jd hFl
   go_wp2_with fail
   go_loopw [12,13,53] (fun _ _ v53 wx=>∃ i:Nat,v53=.int .i64 i∧i≤16∧Own w wx (blk go (.cells (bts (outC X FIR i)).toArray 154)::blk gs (.cells (wds (X)).toArray 235)::blk gf (.cells (wds FIR).toArray 235)::blk gr (.cells (bts z64).toArray 154)::[])) (fun _ _ v53 _=>16-(intOf v53).toNat)
   case atStart=>exact ⟨0,by go_num,by omega,H⟩
   case round=>
    clear H
    obtain ⟨i,rfl,hi,H⟩:=hrel
    have hol:=jd (outC_length X FIR i)
    by_cases hi16:i<16
    ·have hiI:(i:Int)<16:=by omega
     obtain ⟨O,hO⟩:∃ O,Hid (outC X FIR i=O):=⟨_,rfl⟩
     obtain ⟨x,hx⟩:∃ x,Hid (X.getD i 0=x):=⟨_,rfl⟩
     obtain ⟨f,hf⟩:∃ x,Hid (FIR.getD i 0=x):=⟨_,rfl⟩
     obtain ⟨z,hz⟩:∃ z0,IntKind.u32.wrap (x+f)=z0:=⟨_,rfl⟩
     obtain ⟨y0,hy0⟩:∃ y,IntKind.u8.wrap z=y:=⟨_,rfl⟩
     obtain ⟨y1,hy1⟩:∃ y,IntKind.u8.wrap (z/256)=y:=⟨_,rfl⟩
     obtain ⟨y2,hy2⟩:∃ y,IntKind.u8.wrap (z/65536)=y:=⟨_,rfl⟩
     obtain ⟨y3,hy3⟩:∃ y,IntKind.u8.wrap (z/16777216)=y:=⟨_,rfl⟩
     obtain ⟨j,hj⟩:∃ j,Hid (4*i=j):=⟨_,rfl⟩
     have hnx:Hid (outC X FIR (i+1)=(((O.set j y0).set (j+1) y1).set (j+2) y2).set (j+3) y3):=jd (by rw [outC,hO.out,hx.out,hf.out,hz,hj.out,put4,hy0,hy1,hy2,hy3])
     rw [hO.out] at H hol
     have j64:j+3<64:=by have:=hj.out;omega
     have e0:IntKind.i64.wrap (4*(i:Int))=(j:Int):=by rw [IntWalk.i64_in _ ⟨by omega,by omega⟩];have:=hj.out;omega
     have e1:IntKind.i64.wrap ((j:Int)+1)=((j+1:Nat):Int):=by rw [IntWalk.i64_in _ ⟨by omega,by omega⟩];omega
     have e2:IntKind.i64.wrap ((j:Int)+2)=((j+2:Nat):Int):=by rw [IntWalk.i64_in _ ⟨by omega,by omega⟩];omega
     have e3:IntKind.i64.wrap ((j:Int)+3)=((j+3:Nat):Int):=by rw [IntWalk.i64_in _ ⟨by omega,by omega⟩];omega
     obtain ⟨j1,h1⟩:∃ m,Hid (j+1=m):=⟨_,rfl⟩
     obtain ⟨j2,h2⟩:∃ m,Hid (j+2=m):=⟨_,rfl⟩
     obtain ⟨j3,h3⟩:∃ m,Hid (j+3=m):=⟨_,rfl⟩
     rw [h1.out] at e1
     rw [h2.out] at e2
     rw [h3.out] at e3
     rw [h1.out,h2.out,h3.out] at hnx
     have k0:j<64:=by omega
     have k1:j1<64:=by have:=h1.out;omega
     have k2:j2<64:=by have:=h2.out;omega
     have k3:j3<64:=by have:=h3.out;omega
     have k0I:(j:Int)<64:=by omega
     have k1I:(j1:Int)<64:=by omega
     have k2I:(j2:Int)<64:=by omega
     have k3I:(j3:Int)<64:=by omega
     have hix:∀ w,(Instr.index 235 (.agg (wds X).toArray) (.int .i64 i)).run Tryz.prog w=.ok (.int .u32 x) w:=fun w=>run_index_wds _ _ 16 _ i _ w Tryz.underlying235 (fun w=>(u32_one w).1) (fun w=>(u32_one w).2) hi16 (by rw [← hx.out];exact wds_get (by rw [hRl'.out];omega))
     have c0:wr.cell? ⟨gf,i,none⟩=some (.int .u32 f):=by rw [(H.front 2 rfl).cells,wds_get (by rw [hFl.out];omega),hf.out]
     clear hO hx hf hj h1 h2 h3
     go_wp2_with (refine Qh rfl _ _ rfl rfl H rfl (by kernel_rfl) (by simp only [List.size_toArray,Qx,List.length_set,hol.out];omega) ?_;clear H;intro w7 H;rw [bts_set] at H)
     go_roundw
     case rel=>exact ⟨i+1,by go_num,by omega,by rw [hnx.out];exact H⟩
     case measure=>simp [intOf];omega
    ·obtain rfl:i=16:=by omega
     have hnI16:¬ ((16:Nat):Int)<16:=by omega
     rw [hfin.out] at H
     clear hi hi16 hfin hol
     go_upto_region 23 with (fail)
     refine wp_region_list ?_
     refine wpList_load64b rfl _ rfl rfl hRl H ?_
     simp only [Act.put,putC]
     refine wpList_store64b rfl _ _ rfl rfl z64_length hRl (H.front 3 rfl) rfl ?_
     clear H
     intro w9 H
     refine wpList_nil ?_
     simp only [Act.put]
     refine (show ∀ (a:Act) (w:World),Code.wp Tryz.prog Code.ret _ a w→_ by assumption) _ _ ?_
     refine wp_ret ?_
     have hl9:(loadVar 154 ⟨gr,0,none⟩).run Tryz.prog w9=.ok (.agg (bts RES).toArray) w9:=run_loadVar_row w9 gr _ _ _ _ _ H.block.1 Tryz.underlying154 rfl (b64Info RES hRl)
     refine bodyPost_ret (v:=.agg (bts RES).toArray) (res_cell1 (p:=6) (ty:=154) rfl _ _ gr _ rfl hl9) rfl ?_
     exact ⟨rfl,H.bare⟩
section
variable {w0 w:World} {ps:List Piece} {g cap:Nat} {L:List Int} {tl:List Value} {e:TypeId}
theorem fz_cell(H:Own w0 w (blk g (.cells (bts L++tl).toArray e (cap,cap+1))::ps)){i:Nat}(hi:i<L.length):w.cell? ⟨g,i,none⟩=some (.int .u8 (L.getD i 0)):=by
 rw [H.cell,List.getElem?_toArray,List.getElem?_append_left (by rw [Qx];exact hi)]
 have:=bts_get hi
 rw [List.getElem?_toArray] at this
 exact this
theorem fz_frozen(H:Own w0 w (blk g (.cells (bts L++tl).toArray e (cap,cap+1))::ps)){i:Nat}(hi:i<cap):w.frozen? ⟨g,i,none⟩=false:=by
 simp only [World.frozen?,H.block.1]
 simp;omega
theorem fz_set(H:Own w0 w (blk g (.cells (bts L++tl).toArray e (cap,cap+1))::ps)){i:Nat}(hi:i<L.length)(y:Int):Own w0 (w.setCell ⟨g,i,none⟩ (.int .u8 y)) (blk g (.cells (bts (L.set i y)++tl).toArray e (cap,cap+1))::ps):=by
 have h:=H.set i (.int .u8 y)
 have e1:(bts L++tl).toArray.setIfInBounds i (.int .u8 y)=(bts (L.set i y)++tl).toArray:=by
  rw [List.setIfInBounds_toArray,List.set_append,if_pos (by rw [Qx];exact hi),bts,bts,List.map_set]
 rw [e1] at h
 exact h
theorem fz_rd(H:Own w0 w (blk g (.cells (bts L++tl).toArray e (cap,cap+1))::ps)){c:Nat}(hc:L.length≤c)(hm:c≤maxLen):Rd w 1 (.slice (some ⟨g,0,none⟩) L.length c) L.length (bts L):=by
 refine ⟨by rw [Qx];omega,some ⟨g,0,none⟩,c,rfl,hc,hm,by simp,?_⟩
 intro ad had j u hu
 obtain rfl:=Option.some.inj had
 have hj:j<L.length:=by rw [← Qx];exact (gJ hu).1
 rw [Addr.add_lit,Nat.zero_add,fz_cell H hj]
 have:=bts_get hj
 rw [List.getElem?_toArray,hu] at this
 exact this.symm
end
theorem wpList_bytesOf{P:Program}{ops:Array Oper}{rest:List Oper}{o:Oper}{a:Act}{w0 w:World}{ps:List Piece}{Q:Exit→Act→World→Prop}(hgd:o.guard=none){src dst el:TypeId}(x:Operand)(ho:o.op=.convert src dst x)(hs:P.underlying src=some .string)(hd:P.underlying dst=some (.slice el))(he:P.underlying el=some (.int .u8))
 {s:ByteArray} (hx:a.eval x=.string s) (hsz:s.size≤1000000000) (H:Own w0 w ps)
 (h:∀ g cap tl w',cap≤maxLen→tl.length+s.size=cap→Own w0 w' (blk g (.cells (bts (bn s)++tl).toArray el (cap,cap+1))::ps)→wpList P ops Q rest (a.put o.dst (.slice (some ⟨g,0,none⟩) s.size cap)) w'):wpList P ops Q (o::rest) a w:=by
 refine wpList_plain hgd fun K hK=>?_
 have hr:=run_bytes_of_string (P:=P) w src dst el s hs hd he
 unfold Oper.wp execOp
 simp only [ho,hx,Sem.run_bind,hr,Result.andThen_ok,Sem.run_pure]
 have hge:=grownCap_ge w s.size 0 el
 have hle:=grownCap_le_maxLen w s.size 0 el (by simp [maxLen];omega)
 have hrow:bytesRow s (grownCap w s.size 0 el)=(bts (bn s)++List.replicate (grownCap w s.size 0 el-s.size) (Value.int .u8 0)).toArray:=by
  apply Array.toList_inj.1
  simp [bytesRow,bts,bn]
 have hsz2:(bytesRow s (grownCap w s.size 0 el)).size=grownCap w s.size 0 el:=by
  rw [hrow,List.size_toArray,lJ,Qx,Qu,List.length_replicate];omega
 refine hK _ _ (h w.heap.size (grownCap w s.size 0 el) (List.replicate (grownCap w s.size 0 el-s.size) (Value.int .u8 0)) _ hle (by rw [List.length_replicate];omega) ?_)
 rw [hsz2,hrow]
 exact H.drew.alloc _
def ksF(key nonce:ByteArray)(m:Nat):Int:=(blockC key nonce (1+((m/64:Nat):Int))).getD (m%64) 0
def xorR(key nonce:ByteArray)(l:List Int):Nat→List Int
 | 0=>l
 | m+1=>(xorR key nonce l m).set m (bits .xor .u8 ((xorR key nonce l m).getD m 0) (ksF key nonce m))
theorem xorR_length(key nonce:ByteArray)(l:List Int):∀ m,(xorR key nonce l m).length=l.length
 | 0=>rfl
 | m+1=>by rw [xorR,List.length_set,xorR_length key nonce l m]
def xorT(key nonce s:ByteArray):ByteArray:=strOfNums (xorR key nonce (bn s) 192)
theorem xorT_size(key nonce s:ByteArray):(xorT key nonce s).size=s.size:=by rw [xorT,strOfNums_size,xorR_length,Qu]
set_option maxHeartbeats 1600000 in
theorem ccright_any(key nonce:ByteArray)(hk:key.size=32)(hn:nonce.size=12)(w:World) :
 Calls Tryz.prog 87 #[.string key,.string nonce,.int .i64 1] w (fun r w'=>r=.returned (.bool true)∧w'=w):=by
 go_enter Tryz.func87,Tryz.ntmps87
 go_wp2
 go_ret
 exact ⟨rfl,rfl⟩
set_option maxRecDepth 100000 in
set_option maxHeartbeats 12800000 in
theorem ccxor_any(key nonce s:ByteArray)(hk:key.size=32)(hn:nonce.size=12)(hs:s.size=192)(w:World) :
 Calls Tryz.prog 45 #[.string key,.string nonce,.int .i64 1,.string s] w (fun r w'=>r=.returned (.tuple #[.string (xorT key nonce s),.int .i64 0])∧Own w w' []):=by
 obtain ⟨RES,hRES⟩:∃ x,Hid (xorT key nonce s=x):=⟨_,rfl⟩
 rw [hRES.out]
 have HR:=jd (ccright_any key nonce hk hn)
 have HB:=jd fun (q:Nat) w=>ccblock_any key nonce hk hn (1+(q:Int)) w
 have H:=Own.start w
 have hn192:(s.size:Int)=192:=by omega
 go_enter Tryz.func45,Tryz.ntmps45
 go_wp2_with fail
 refine (HR.out _).mono ?_
 rintro e w1 ⟨rfl,hw1⟩
 obtain rfl:w=w1:=hw1.symm
 go_upto_region 5 with (fail)
 refine wp_region_list ?_
 refine wpList_value rfl (u:=.string s) (by go_simp) ?_
 simp only [Act.put,putC]
 refine wpList_bytesOf rfl _ rfl Tryz.underlying9 Tryz.underlying58 Tryz.underlying5 rfl (by omega) H ?_
 clear H
 intro g cap tl w2 hcm htl H
 simp only [Act.put,putC]
 rw [hs] at htl ⊢
 refine wpList_value rfl (u:=.slice (some ⟨g,0,none⟩) 192 cap) (by go_simp) ?_
 simp only [Act.put,putC]
 refine wpList_nil ?_
 obtain ⟨L,hL⟩:∃ L,Hid (bn s=L):=⟨_,rfl⟩
 have hLl:Hid (L.length=192):=jd (by rw [← hL.out,Qu,hs])
 rw [hL.out] at H
 have hfin:Hid (strOfNums (xorR key nonce L 192)=RES):=jd (by rw [← hRES.out,xorT,hL.out])
 have hc192:192≤cap:=by omega
 have hcm2:cap≤9223372036854775807:=by simpa [maxLen] using hcm
 replace htl:=jd htl
 replace hk:=jd hk
 replace hn:=jd hn
 replace H:Own w w2 (blk g (.cells (bts (xorR key nonce L (64*0))++tl).toArray 5 (cap,cap+1))::[]):=H
 clear hRES hL HR
 go_wp2_with fail
 go_loopw [11,12,13,14,57,58,59] (fun v11 _ _ _ _ _ _ wx=>∃ q:Nat,v11=.int .i64 ((64*q:Nat):Int)∧q≤3∧Own w wx (blk g (.cells (bts (xorR key nonce L (64*q))++tl).toArray 5 (cap,cap+1))::[])) (fun v11 _ _ _ _ _ _ _=>192-(intOf v11).toNat)
 case atStart=>exact ⟨0,by go_num,by omega,H⟩
 case round=>
  clear H
  obtain ⟨q,rfl,hq,H⟩:=hrel
  obtain ⟨m,hm⟩:∃ m,Hid (64*q=m):=⟨_,rfl⟩
  rw [hm.out] at H ⊢
  by_cases hq3:q<3
  ·have hmI:(m:Int)<192:=by have:=hm.out;omega
   have hm128:m≤128:=by have:=hm.out;omega
   have t1:(m:Int).tdiv 64=(q:Int):=by have:=hm.out;rw [Int.tdiv_eq_ediv_of_nonneg (by omega)];omega
   have e1:IntKind.i64.wrap (1+(q:Int))=1+(q:Int):=IntWalk.i64_in _ ⟨by omega,by omega⟩
   have e2:IntKind.i64.wrap ((m:Int)+64)=((m+64:Nat):Int):=by rw [IntWalk.i64_in _ ⟨by omega,by omega⟩];omega
   obtain ⟨m2,hm2⟩:∃ m2,Hid (m+64=m2):=⟨_,rfl⟩
   rw [hm2.out] at e2
   have hmin:¬ (192:Int)<(m2:Int):=by have:=hm2.out;omega
   obtain ⟨KB,hKB⟩:∃ x,Hid (blockC key nonce (1+(q:Int))=x):=⟨_,rfl⟩
   have hKl:KB.length=64:=by rw [← hKB.out];exact blockC_length _ _ _
   have HB1:=jd (HB.out q)
   rw [hKB.out] at HB1
   go_wp2_with fail
   refine (HB1.out _).mono ?_
   rintro e w3 ⟨rfl,H3⟩
   replace H3:=H.join H3
   clear H HB1
   go_upto_region 10 with (refine wpList_store64b rfl _ _ rfl rfl z64_length hKl (H3.alloc (.cells #[.int .u8 0,.int .u8 0,.int .u8 0,.int .u8 0,.int .u8 0,.int .u8 0,.int .u8 0,.int .u8 0,.int .u8 0,.int .u8 0,.int .u8 0,.int .u8 0,.int .u8 0,.int .u8 0,.int .u8 0,.int .u8 0,.int .u8 0,.int .u8 0,.int .u8 0,.int .u8 0,.int .u8 0,.int .u8 0,.int .u8 0,.int .u8 0,.int .u8 0,.int .u8 0,.int .u8 0,.int .u8 0,.int .u8 0,.int .u8 0,.int .u8 0,.int .u8 0,.int .u8 0,.int .u8 0,.int .u8 0,.int .u8 0,.int .u8 0,.int .u8 0,.int .u8 0,.int .u8 0,.int .u8 0,.int .u8 0,.int .u8 0,.int .u8 0,.int .u8 0,.int .u8 0,.int .u8 0,.int .u8 0,.int .u8 0,.int .u8 0,.int .u8 0,.int .u8 0,.int .u8 0,.int .u8 0,.int .u8 0,.int .u8 0,.int .u8 0,.int .u8 0,.int .u8 0,.int .u8 0,.int .u8 0,.int .u8 0,.int .u8 0,.int .u8 0] 154)) rfl ?_;clear H3;intro w4 H3)
   simp only [Act.put]
   generalize w3.heap.size=gb at *
   replace H3:Own w w4 (blk gb (.cells (bts KB).toArray 154)::blk g (.cells (bts (xorR key nonce L m)++tl).toArray 5 (cap,cap+1))::[]):=H3
   have hsl:∀ w,(Instr.sliceAt 58 (.slice (some ⟨g,0,none⟩) 192 cap) (some (.int .i64 (m:Int))) (some (.int .i64 (m2:Int))) none).run Tryz.prog w=.ok (.slice (some ⟨g,m,none⟩) 64 (cap-m)) w:=fun w=>by
    have h:=slc_lh (P:=Tryz.prog) (ty:=58) (size:=1) (by kernel_rfl) (fun _=>by kernel_rfl) (ad:=some ⟨g,0,none⟩) (n:=192) (c:=cap) (k:=m) (m:=m2) (by have:=hm2.out;omega) (by have:=hm2.out;omega) rfl w
    rw [h]
    unfold sliced
    rw [if_neg (by omega),show m2-m=64 by have:=hm2.out;omega]
    simp [Addr.add_lit]
   go_upto_block 3 with (fail)
   replace H3:Own w w4 (blk gb (.cells (bts KB).toArray 154)::blk g (.cells (bts (xorR key nonce L (m+0))++tl).toArray 5 (cap,cap+1))::[]):=H3
   go_wp2_with fail
   go_loopw [14,59] (fun _ v59 wx=>∃ i:Nat,v59=.int .i64 i∧i≤64∧Own w wx (blk gb (.cells (bts KB).toArray 154)::blk g (.cells (bts (xorR key nonce L (m+i))++tl).toArray 5 (cap,cap+1))::[])) (fun _ v59 _=>64-(intOf v59).toNat)
   case atStart=>exact ⟨0,by go_num,by omega,H3⟩
   case round=>
    clear H3
    obtain ⟨i,rfl,hi,H⟩:=hrel
    by_cases hi64:i<64
    ·have hiI:(i:Int)<64:=by omega
     obtain ⟨X,hX⟩:∃ X,Hid (xorR key nonce L (m+i)=X):=⟨_,rfl⟩
     have hXl:Hid (X.length=192):=jd (by rw [← hX.out,xorR_length,hLl.out])
     obtain ⟨x,hx⟩:∃ x,Hid (X.getD (m+i) 0=x):=⟨_,rfl⟩
     obtain ⟨k,hk9⟩:∃ k,Hid (KB.getD i 0=k):=⟨_,rfl⟩
     have hks:Hid (ksF key nonce (m+i)=k):=jd (by
      have:=hm.out
      rw [ksF,show (m+i)/64=q by omega,show (m+i)%64=i by omega,hKB.out,hk9.out])
     have hnx:Hid (xorR key nonce L (m+(i+1))=X.set (m+i) (bits .xor .u8 x k)):=jd (by rw [← Nat.add_assoc,xorR,hX.out,hx.out,hks.out])
     rw [hX.out] at H
     have HS:Hid (∀ w1,Own w w1 (blk gb (.cells (bts KB).toArray 154)::blk g (.cells (bts (X)++tl).toArray 5 (cap,cap+1))::[])→w1.cell? ⟨gb,i,none⟩=some (.int .u8 k)∧w1.cell? ⟨g,m+i,none⟩=some (.int .u8 x)):=jd fun w1 h=>⟨by rw [h.cells,bts_get (by omega),hk9.out],by rw [fz_cell (h.front 1 rfl) (by rw [hXl.out];omega),hx.out]⟩
     go_upto_region 14 with (fail)
     refine Qa (fun w1=>Own w w1 (blk gb (.cells (bts KB).toArray 154)::blk g (.cells (bts (X)++tl).toArray 5 (cap,cap+1))::[])) 9 (by kernel_rfl) (by kernel_rfl) H.drew ?_
     simp only [List.take_succ_cons,List.take_zero,List.drop_succ_cons,List.drop_zero]
     repeat
      first
      | (refine calm_value (v:=?_) (by decide) rfl (fun σ w1 hS=>?_) ?_
         rotate_left
         ·obtain ⟨c0,c1⟩:=HS.out _ hS
          first | (go_simp;rfl) | rfl
         simp only [Act.put,putC])
      | (refine calm_skip (by decide) rfl ?_
         simp only [Act.put,putC])
     refine calm_nil ?_
     intro wd HD
     clear H
     obtain ⟨-,c1⟩:=HS.out _ HD
     have f1:=fz_frozen (HD.front 1 rfl) (i:=m+i) (by omega)
     have H5:=fz_set (HD.front 1 rfl) (i:=m+i) (by rw [hXl.out];omega) (bits .xor .u8 x k)
     rw [← hnx.out] at H5
     go_wp2
     go_roundw
     case rel=>exact ⟨i+1,by go_num,by omega,H5.front 1 rfl⟩
     case measure=>simp [intOf];omega
    ·obtain rfl:i=64:=by omega
     have hnI:¬ ((64:Nat):Int)<64:=by omega
     have H6:=H.drop
     go_wp2_with fail
     go_roundw
     case rel=>exact ⟨q+1,by have:=hm.out;have:=hm2.out;first | (go_num;done) | (go_num;omega),by omega,by rw [show 64*(q+1)=m+64 by have:=hm.out;omega];exact H6⟩
     case measure=>have:=hm2.out;simp [intOf];omega
  ·obtain rfl:q=3:=by omega
   obtain rfl:m=192:=by have:=hm.out;omega
   have hnI:¬ ((192:Nat):Int)<192:=by omega
   have hrd:=fz_rd H (c:=cap) (by rw [xorR_length,hLl.out];exact hc192) hcm
   have hs2:=Js (P:=Tryz.prog) 58 9 Tryz.underlying58 Tryz.underlying5 Tryz.underlying9 hrd
   rw [hfin.out,xorR_length,hLl.out] at hs2
   clear hrd
   go_wp2
   go_ret2
   exact ⟨rfl,H.bare⟩
def slfP(e:TypeId)(v:Value)(n:Nat)(xs:List Value)(x:Nat × Nat × Array Value × Nat × Nat):Piece:=
 star (fact (xs.length=n∧v=.slice (some ⟨x.1,0,none⟩) n x.2.1∧n≤x.2.1∧x.2.1≤maxLen∧x.2.2.1.size=x.2.1∧(x.2.2.2.2≤x.2.2.2.1∨x.2.1≤x.2.2.2.1)∧x.2.2.1.toList.take n=xs)) (blk x.1 (.cells x.2.2.1 e x.2.2.2))
def slf(e:TypeId)(v:Value)(n:Nat)(xs:List Value):Piece:=ex (slfP e v n xs)
def putL(cur:Array Value)(o:Nat):List Value→Array Value
 | []=>cur
 | v::r=>putL (cur.setIfInBounds o v) (o+1) r
theorem putL_size:∀ (vs:List Value) (cur:Array Value) (o:Nat),(putL cur o vs).size=cur.size
 | [],_,_=>rfl
 | v::r,cur,o=>by rw [putL,putL_size r];simp
theorem putL_take:∀ (vs:List Value) (cur:Array Value) (o:Nat) (xs:List Value),cur.toList.take o=xs→o+vs.length≤cur.size→(putL cur o vs).toList.take (o+vs.length)=xs++vs
 | [],cur,o,xs,h,_=>by simpa [putL] using h
 | v::r,cur,o,xs,h,hl=>by
  simp only [List.length_cons] at hl
  have ho:o<cur.toList.length:=by rw [Array.length_toList];omega
  have:=putL_take r (cur.setIfInBounds o v) (o+1) (xs++[v]) (by
   rw [Array.toList_setIfInBounds,List.take_add_one,List.getElem?_set_self ho,List.take_set_of_le (Nat.le_refl o),h];rfl) (by simp;omega)
  rw [putL,List.length_cons,show o+(r.length+1)=o+1+r.length by omega,this]
  simp
section
variable {w0 w w':World} {p q:Piece} {ps qs:List Piece} {e:TypeId} {n:Nat} {v:Value} {xs:List Value}
theorem Own.slf_cases(h:Own w0 w (slf e v n xs::ps)):∃ g cap cur fr,v=.slice (some ⟨g,0,none⟩) n cap∧xs.length=n∧n≤cap∧cap≤maxLen∧cur.size=cap∧(fr.2≤fr.1∨cap≤fr.1)∧cur.toList.take n=xs∧Own w0 w (blk g (.cells cur e fr)::ps):=by
 obtain ⟨⟨g,cap,cur,fr⟩,h⟩:=h.ex
 obtain ⟨⟨h1,h2,h3,h4,h5,h6,h7⟩,h8⟩:=h.star.fact
 exact ⟨g,cap,cur,fr,h2,h1,h3,h4,h5,h6,h7,h8⟩
theorem Own.slf_mk{g cap:Nat}{cur:Array Value}{fr:Nat × Nat}(h:Own w0 w (blk g (.cells cur e fr)::ps))(hl:xs.length=n)(h1:n≤cap)(h2:cap≤maxLen)(h3:cur.size=cap)(h4:fr.2≤fr.1∨cap≤fr.1)(h5:cur.toList.take n=xs) :
 Own w0 w (slf e (.slice (some ⟨g,0,none⟩) n cap) n xs::ps):=
 ((h.unfact (φ:=xs.length=n∧Value.slice (some ⟨g,0,none⟩) n cap=.slice (some ⟨g,0,none⟩) n cap∧n≤cap∧cap≤maxLen∧cur.size=cap∧(fr.2≤fr.1∨cap≤fr.1)∧cur.toList.take n=xs) ⟨hl,rfl,h1,h2,h3,h4,h5⟩).unstar).unex (f:=slfP e _ n xs) (g,cap,cur,fr)
theorem Own.slf_rd(h:Own w0 w (slf e v n xs::ps)):Rd w 1 v n xs:=by
 obtain ⟨g,cap,cur,fr,rfl,hl,h1,h2,h3,h4,h5,H⟩:=h.slf_cases
 refine ⟨by omega,_,_,rfl,h1,h2,by simp,?_⟩
 intro ad had j u hu
 obtain rfl:=Option.some.inj had
 rw [Addr.add_lit,Nat.zero_add,H.cell,← Array.getElem?_toList]
 rw [← h5,List.getElem?_take] at hu
 split at hu
 ·exact hu
 ·cases hu
theorem Own.setCells{g:Nat}{fr:Nat × Nat}:∀ (vs:List Value) (o:Nat) {w:World} {cur:Array Value},Own w0 w (blk g (.cells cur e fr)::ps)→Own w0 (w.setCells g o vs) (blk g (.cells (putL cur o vs) e fr)::ps)
 | [],_,_,_,h=>h
 | v::r,o,_,_,h=>Own.setCells r (o+1) (h.set o v)
variable {P:Program} {t tx ty:TypeId} {i:TypeInfo} {z:Value} {bytes:Nat}
theorem run_append_slf(H:Own w0 w (slf e v n xs::ps))(ht:P.underlying t=some (.slice e))(hi:P.info? e=some i)(hz:i.zero=some z)(hsize:i.size=1)(hby:i.bytes=1)(hzs:z.cells.size=1)
 {x:Value} {m:Nat} {news:List Value} (hx:Src P 1 tx x m news w) (h63:n+m≤140737488355328) :
 ∃ v' w',(Builtin.append_ #[t,tx] ty #[v,x]).run P w=.ok v' w'∧Own w0 w' (slf e v' (n+m) (xs++news)::ps):=by
 have hnews:=hx.newsLen
 rw [Nat.mul_one] at hnews
 have hrd:=H.slf_rd
 obtain ⟨g,cap,cur,fr,rfl,hl,h1,h2,h3,h4,h5,h6⟩:=H.slf_cases
 have hlen:(xs++news).length=n+m:=by rw [lJ,hl,hnews]
 rw [← hsize] at hx
 by_cases hroom:n+m≤cap
 ·have hr:=run_append_room_src (P:=P) w t tx ty e i ht hi g 0 n cap x m news hx hroom (fun j hj=>by
   rw [h6.cell,hsize,Array.getElem?_eq_getElem (by omega)];rfl) (fun j hj=>by
   simp only [World.frozen?,h6.block.1,hsize]
   rcases h4 with h4 | h4
   ·simp;omega
   ·simp;omega)
  refine ⟨_,_,hr,?_⟩
  rw [hsize,Nat.zero_add,Nat.mul_one]
  refine (Own.setCells news n h6).slf_mk hlen hroom h2 (by rw [putL_size];exact h3) h4 ?_
  rw [← hnews]
  exact putL_take news cur n xs h5 (by omega)
 ·have holds:∀ j u,xs[j]?=some u→w.cell? ((⟨g,0,none⟩:Addr).add j)=some u:=by
   obtain ⟨_,_,_,hv,_,_,_,hcl⟩:=hrd
   cases hv
   exact hcl _ rfl
  have hfo:=run_firstCells_some (P:=P) w.drew i.size n ⟨g,0,none⟩ n cap xs (by rw [hsize];omega) (by simpa using holds)
  have hr:=run_append_grow_src (P:=P) w t tx ty e i z ht hi hz (some ⟨g,0,none⟩) n cap xs hfo x m news hx (by omega) (by omega) (growslice_fits (by omega) (by rw [hby];omega))
  have hge:=grownCap_ge w (n+m) cap e
  have hcm:grownCap w (n+m) cap e≤maxLen:=grownCap_le_maxLen w (n+m) cap e (by simp only [maxLen];omega)
  refine ⟨_,_,hr,(h6.drop.drew.alloc _).slf_mk hlen hge hcm ?_ (.inl (Nat.le_refl _)) ?_⟩
  ·simp only [Array.size_append,List.size_toArray,size_zeroCells,hzs,hlen]
   omega
  ·simp only [Array.toList_append]
   rw [← hlen]
   exact List.take_left
theorem wpList_append_slf{ops:Array Oper}{rest:List Oper}{o:Oper}{a:Act}{Q:Exit→Act→World→Prop}(hgd:o.guard=none)(x y:Operand)
 (ho:o.op=.call { callee:=.builtin .append,args:=#[x,y],argTypes:=#[t,tx] })
 (ht:P.underlying t=some (.slice e)) (hinfo:(P.info? e).map (fun i=>(i.zero,i.size,i.bytes))=some (some z,1,1)) (hzs:z.cells.size=1)
 (hs:a.eval x=v) (H:Own w0 w (slf e v n xs::ps)) {u:Value} {m:Nat} {news:List Value} (hu:a.eval y=u) (hx:Src P 1 tx u m news w)
 (h63:n+m≤140737488355328)
 (h:∀ v' w',Own w0 w' (slf e v' (n+m) (xs++news)::ps)→wpList P ops Q rest (a.put o.dst v') w'):wpList P ops Q (o::rest) a w:=by
 obtain ⟨i,hi,hz,hsize,hby⟩:=info_parts hinfo
 refine wpList_plain hgd fun K hK=>?_
 obtain ⟨v',w',hr,h2⟩:=run_append_slf (P:=P) (ty:=o.type) H ht hi hz hsize hby hzs hx h63
 unfold Oper.wp execOp
 simp only [ho,resolve,invoke,builtin,Sem.run_bind,Sem.run_pure,Result.andThen_ok,List.map_toArray,List.map_cons,List.map_nil,hs,hu,hr]
 exact hK _ _ (h v' w' h2)
theorem wpList_append_slf_one{ops:Array Oper}{rest:List Oper}{o:Oper}{a:Act}{Q:Exit→Act→World→Prop}(hgd:o.guard=none)(x y:Operand)
 (ho:o.op=.call { callee:=.builtin .append,args:=#[x,y],argTypes:=#[t,t] })
 (ht:P.underlying t=some (.slice e)) (hinfo:(P.info? e).map (fun i=>(i.zero,i.size,i.bytes))=some (some z,1,1)) (hzs:z.cells.size=1)
 (hs:a.eval x=v) (H:Own w0 w (slf e v n xs::ps)) {u:Value} {c:Nat} (hu:a.eval y=.slice (some ⟨w.heap.size,0,none⟩) 1 c) (hc:c=1) (h1:u.oneCell'=true)
 (h63:n+1≤140737488355328)
 (h:∀ v' w',Own w0 w' (slf e v' (n+1) (xs++[u])::ps)→wpList P ops Q rest (a.put o.dst v') w'):wpList P ops Q (o::rest) a (w.alloc (.cells #[u] e)):=by
 subst hc
 obtain ⟨_,a',c',hv,_,_,_,hcl⟩:=(H.made [u] e 1 1 rfl (by simp [maxLen])).rd
 cases hv
 exact wpList_append_slf hgd x y ho ht hinfo hzs hs (H.alloc' _) hu (Src.ofSlice (w:=w.alloc (.cells #[u] e)) (size:=1) ht _ 1 1 [u] rfl (hcl _ rfl) (by simpa using h1)) h63 h
theorem Rd.part{a:Option Addr}{c m:Nat}(h:Rd w 1 (.slice a n c) n xs)(hm:m≤n):Rd w 1 (.slice a m c) m (xs.take m):=by
 obtain ⟨hl,a',c',e,h1,h2,h3,h4⟩:=h
 cases e
 refine ⟨by rw [List.length_take];omega,_,_,rfl,by omega,h2,fun e=>?_,fun ad had j u hu=>?_⟩
 ·have:=h3 e;omega
 ·rw [List.getElem?_take] at hu
  split at hu
  ·exact h4 ad had j u hu
  ·cases hu
theorem wpList_bytesOf2{ops:Array Oper}{rest:List Oper}{o:Oper}{a:Act}{Q:Exit→Act→World→Prop}(hgd:o.guard=none){src dst el:TypeId}(x:Operand)(ho:o.op=.convert src dst x)(hs:P.underlying src=some .string)(hd:P.underlying dst=some (.slice el))(he:P.underlying el=some (.int .u8))
 {s:ByteArray} (hx:a.eval x=.string s) (hsz:s.size≤140737488355328) (H:Own w0 w ps)
 (h:∀ v w',Own w0 w' (slf el v s.size (bts (bn s))::ps)→wpList P ops Q rest (a.put o.dst v) w'):wpList P ops Q (o::rest) a w:=by
 refine wpList_plain hgd fun K hK=>?_
 have hr:=run_bytes_of_string (P:=P) w src dst el s hs hd he
 unfold Oper.wp execOp
 simp only [ho,hx,Sem.run_bind,hr,Result.andThen_ok,Sem.run_pure]
 have hge:=grownCap_ge w s.size 0 el
 have hle:=grownCap_le_maxLen w s.size 0 el (by simp [maxLen];omega)
 have hrow:bytesRow s (grownCap w s.size 0 el)=(bts (bn s)++List.replicate (grownCap w s.size 0 el-s.size) (Value.int .u8 0)).toArray:=by
  apply Array.toList_inj.1
  simp [bytesRow,bts,bn]
 have hsz2:(bytesRow s (grownCap w s.size 0 el)).size=grownCap w s.size 0 el:=by
  rw [hrow,List.size_toArray,lJ,Qx,Qu,List.length_replicate];omega
 refine hK _ _ (h _ _ ((H.drew.alloc _).slf_mk (by rw [Qx,Qu]) hge hle hsz2 ?_ ?_))
 ·right;show _≤(bytesRow s (grownCap w s.size 0 el)).size;omega
 ·rw [hrow,← Qu,← Qx]
  exact List.take_left
end
def widG(n:Nat):Nat→Nat→Nat
 | 0,w=>w
 | f+1,w=>if 0<n/2^(8*w) then widG n f (w+1) else w
def widF(n:Nat):Nat:=widG n 8 1
theorem widG_le(n:Nat)(hn:n<4294967296):∀ (f w:Nat),1≤w→w≤4→1≤widG n f w∧widG n f w≤4
 | 0,w,h1,h2=>by rw [widG];exact ⟨h1,h2⟩
 | f+1,w,h1,h2=>by
  rw [widG]
  split
  ·rename_i h
   have:w≠4:=by
    intro e
    subst e
    rw [Nat.div_eq_of_lt hn] at h
    exact absurd h (by decide)
   exact widG_le n hn f (w+1) (by omega) (by omega)
  ·exact ⟨h1,h2⟩
theorem widF_le{n:Nat}(hn:n<4294967296):1≤widF n∧widF n≤4:=widG_le n hn 8 1 (by decide) (by decide)
set_option maxHeartbeats 800000 in
theorem enwidth_any(n:Nat)(hn:n<4294967296)(w:World):Calls Tryz.prog 120 #[.int .i64 n] w (fun e w'=>e=.returned (.int .i64 (widF n:Nat))∧w'=w):=by
 obtain ⟨R,hR⟩:∃ r,Hid (widF n=r):=⟨_,rfl⟩
 rw [hR.out]
 replace hn:=jd hn
 go_enter Tryz.func120,Tryz.ntmps120
 go_wp2_with fail
 go_loopw [3] (fun v3 wx=>wx=w∧∃ k f:Nat,v3=.int .i64 k∧1≤k∧k≤4∧Hid (f+k=9)∧Hid (widG n f k=R)) (fun v3 _=>9-(intOf v3).toNat)
 case atStart=>exact ⟨rfl,1,8,by go_num,by omega,by omega,jd rfl,hR⟩
 case round=>
  obtain ⟨rfl,k,f,rfl,hk1,hk4,hfk,hG⟩:=hrel
  have e1:IntKind.i64.wrap (8*(k:Int))=((8*k:Nat):Int):=by rw [IntWalk.i64_in _ ⟨by omega,by omega⟩];omega
  obtain ⟨q,hq⟩:∃ q,Hid (8*k=q):=⟨_,rfl⟩
  rw [hq.out] at e1
  have hq64:(q:Int)<64:=by have:=hq.out;omega
  have hq0:¬ (q:Int)<0:=by omega
  obtain ⟨d,hd⟩:∃ d,Hid (n/2^q=d):=⟨_,rfl⟩
  have e2:(n:Int)/2^q=(d:Int):=by rw [← hd.out];push_cast;rfl
  obtain ⟨f,rfl⟩:∃ f',f=f'+1:=⟨f-1,by have:=hfk.out;omega⟩
  rw [widG,hq.out,hd.out] at hG
  by_cases h0:0<d
  ·have h0I:(0:Int)<(d:Int):=by omega
   rw [if_pos h0] at hG
   have hk3:k≠4:=by
    intro e
    have h1:=hq.out
    have h2:=hd.out
    rw [← h1,e,Nat.div_eq_of_lt hn.out] at h2
    omega
   replace hk3:=jd hk3
   go_wp2_with fail
   go_roundw
   case rel=>exact ⟨(by first | rfl | trivial),k+1,f,by go_num,by omega,by have:=hk3.out;omega,jd (by have:=hfk.out;omega),hG⟩
   case measure=>simp [intOf];omega
  ·rw [if_neg h0] at hG
   obtain rfl:k=R:=hG.out
   have h0I:¬ (0:Int)<(d:Int):=by omega
   go_wp2
   go_ret
   exact ⟨rfl,rfl⟩
def numB(n:Nat):Nat→List Int
 | 0=>[]
 | i+1=>numB n i++[IntKind.u8.wrap ((n:Int)/2^(8*(widF n-1-i)))]
theorem numB_length(n:Nat):∀ i,(numB n i).length=i
 | 0=>rfl
 | i+1=>by rw [numB,lJ,numB_length n i];rfl
def numL(n:Nat):List Int:=if n≤247 then [IntKind.u8.wrap (n:Int)] else IntKind.u8.wrap ((247+widF n:Nat):Int)::numB n (widF n)
def numF(n:Nat):ByteArray:=strOfNums (numL n)
theorem numF_size{n:Nat}(hn:n<4294967296):(numF n).size≤5:=by
 have:=widF_le hn
 rw [numF,strOfNums_size,numL]
 split
 ·simp
 ·rw [List.length_cons,numB_length];omega
set_option maxRecDepth 100000 in
set_option maxHeartbeats 6400000 in
theorem ennum_any{w:World}{v:Value}(n:Nat)(hn:n<4294967296)(hr:Rd w 1 v 1 (nums [(n:Int)])) :
 Calls Tryz.prog 74 #[v] w (fun e w'=>e=.returned (.string (numF n))∧Own w w' []):=by
 obtain ⟨R,hR⟩:∃ r,Hid (numF n=r):=⟨_,rfl⟩
 rw [hR.out]
 obtain ⟨b,o,c,rfl,hc1,hc2⟩:=Rd.some hr (by simp [nums])
 have hcell:=Rd.cell hr (j:=0) (u:=.int .i64 n) (by simp [nums])
 rw [Nat.add_zero] at hcell
 replace hcell:=jd hcell
 have hblk:=jd (fun w' (h:Own w w' [])=>Rd.cell (hr.old h) (j:=0) (u:=.int .i64 n) (by simp [nums]))
 have hwid:=jd (enwidth_any n hn)
 have hwl:=widF_le hn
 have H:=(Own.start w).nil 5 1
 have hmx:¬ (n:Int)<0:=by omega
 have hmn:¬ (72057594037927935:Int)<(n:Int):=by omega
 clear hr
 go_enter Tryz.func74,Tryz.ntmps74
 go_wp2_with fail
 go_loopw [3,5,6,7,10,33] (fun v3 _ _ _ v10 _ wx=>(v3=.slice none 0 0∧v10=.int .i64 0∧wx=w)∨(v10=.int .i64 1∧Own w wx (slc 5 1 v3 (numL n).length (bts (numL n))::[]))) (fun _ _ _ _ v10 _ _=>1-(intOf v10).toNat)
 case atStart=>exact .inl ⟨rfl,by go_num,rfl⟩
 case round=>
  rcases hrel with ⟨rfl,rfl,rfl⟩ | ⟨rfl,H2⟩
  ·have c0:=hcell.out
   by_cases h247:n≤247
   ·have h247I:(n:Int)≤247:=by omega
    obtain ⟨y,hy⟩:∃ y,IntKind.u8.wrap (n:Int)=y:=⟨_,rfl⟩
    have hnl:Hid (numL n=[y]):=jd (by rw [numL,if_pos h247,hy])
    rw [hnl.out]
    go_wp2_with (at_builtin;refine Qf (news:=bts [y]) rfl _ _ rfl Tryz.underlying58 u8Info rfl (by decide) rfl H rfl rfl rfl (bts_one _) (by omega) (by omega) ?_;clear H c0;intro v2 w2 H2)
    go_roundw
    case rel=>exact .inr ⟨by go_num,by rw [Nat.zero_add,List.nil_append] at H2;exact H2⟩
    case measure=>simp [intOf]
   ·have h247I:¬ (n:Int)≤247:=by omega
    obtain ⟨W,hW⟩:∃ r,Hid (widF n=r):=⟨_,rfl⟩
    rw [hW.out] at hwid hwl
    obtain ⟨hw1,hw4⟩:=hwl
    have e0:IntKind.i64.wrap (247+(W:Int))=((247+W:Nat):Int):=by rw [IntWalk.i64_in _ ⟨by omega,by omega⟩];omega
    obtain ⟨m0,hm0⟩:∃ m,Hid (247+W=m):=⟨_,rfl⟩
    rw [hm0.out] at e0
    obtain ⟨y0,hy0⟩:∃ y,IntKind.u8.wrap (m0:Int)=y:=⟨_,rfl⟩
    have hnl:Hid (numL n=y0::numB n W):=jd (by rw [numL,if_neg h247,hW.out,hm0.out,hy0])
    go_wp2_with fail
    refine (hwid.out _).mono ?_
    rintro e w2 ⟨rfl,hw2⟩
    obtain rfl:wr=w2:=hw2.symm
    go_upto_region 10 with (at_builtin;refine Qf (news:=bts [y0]) rfl _ _ rfl Tryz.underlying58 u8Info rfl (by decide) rfl H rfl rfl rfl (bts_one _) (by omega) (by omega) ?_;clear H c0;intro v2 w2 H2)
    rw [Nat.zero_add,List.nil_append] at H2
    replace H2:Own wr w2 (slc 5 1 v2 (1+0) (bts (y0::numB n 0))::[]):=H2
    go_wp2_with fail
    go_loopw [3,7,33] (fun v3 _ v33 wx=>∃ i:Nat,v33=.int .i64 i∧i≤W∧Own wr wx (slc 5 1 v3 (1+i) (bts (y0::numB n i))::[])) (fun _ _ v33 _=>W-(intOf v33).toNat)
    case atStart=>exact ⟨0,by go_num,by omega,H2⟩
    case round=>
     clear H2
     obtain ⟨i,rfl,hi,H2⟩:=hrel
     obtain ⟨a5,c5,rfl,g1,g2⟩:=H2.rd.shape
     by_cases hiW:i<W
     ·have hiI:(i:Int)<(W:Int):=by omega
      obtain ⟨q,hq⟩:∃ q,Hid (W-1-i=q):=⟨_,rfl⟩
      obtain ⟨r,hr⟩:∃ r0,Hid (8*q=r0):=⟨_,rfl⟩
      have e1:IntKind.i64.wrap ((W:Int)-1)=(W:Int)-1:=IntWalk.i64_in _ ⟨by omega,by omega⟩
      have e2:IntKind.i64.wrap ((W:Int)-1-(i:Int))=(q:Int):=by have:=hq.out;rw [IntWalk.i64_in _ ⟨by omega,by omega⟩];omega
      have e3:IntKind.i64.wrap (8*(q:Int))=(r:Int):=by have:=hr.out;have:=hq.out;rw [IntWalk.i64_in _ ⟨by omega,by omega⟩];omega
      have hr64:(r:Int)<64:=by have:=hr.out;have:=hq.out;omega
      have hr0:¬ (r:Int)<0:=by omega
      obtain ⟨y,hy⟩:∃ y,IntKind.u8.wrap ((n:Int)/2^r)=y:=⟨_,rfl⟩
      have hst:Hid (numB n (i+1)=numB n i++[y]):=jd (by rw [numB,hW.out,hq.out,hr.out,hy])
      go_wp2_with (at_builtin;refine Qf (news:=bts [y]) rfl _ _ rfl Tryz.underlying58 u8Info rfl (by decide) rfl H2 rfl rfl rfl (bts_one _) (by omega) (by omega) ?_;clear H2 g1 g2;intro v5 w5 H2)
      rw [← Zv,List.cons_append,← hst.out] at H2
      obtain ⟨a6,c6,rfl,g1,g2⟩:=H2.rd.shape
      go_roundw
      case rel=>exact ⟨i+1,by go_num,by omega,H2⟩
      case measure=>simp [intOf];omega
     ·obtain rfl:i=W:=by omega
      have hnI:¬ (i:Int)<(i:Int):=by omega
      have hlen:Hid ((numL n).length=1+i):=jd (by rw [hnl.out,List.length_cons,numB_length];omega)
      rw [← hnl.out] at H2
      go_wp2_with fail
      go_roundw
      case rel=>exact .inr ⟨by go_num,by rw [hlen.out];exact H2⟩
      case measure=>simp [intOf]
  ·obtain ⟨a4,c4,rfl,g1,g2⟩:=H2.rd.shape
   have hs2:=Js (P:=Tryz.prog) 58 9 Tryz.underlying58 Tryz.underlying5 Tryz.underlying9 H2.rd
   rw [show strOfNums (numL n)=R from hR.out] at hs2
   go_wp2
   go_ret
   exact ⟨rfl,H2.bare⟩
def textF(s:ByteArray):ByteArray:=numF s.size++s
theorem textF_size{s:ByteArray}(hs:s.size<4294967296):(textF s).size≤s.size+5:=by
 have:=numF_size hs
 rw [textF,ByteArray.size_append];omega
set_option maxHeartbeats 800000 in
theorem entext_any(s:ByteArray)(hs:s.size<4294967296)(w:World) :
 Calls Tryz.prog 76 #[.string s] w (fun e w'=>e=.returned (.string (textF s))∧Own w w' []):=by
 have H:=(Own.start w).made [.int .i64 s.size] 3 1 1 rfl (by decide)
 have hS:=jd (ennum_any s.size hs H.rd)
 have hz:=numF_size hs
 unfold textF
 obtain ⟨F,hF⟩:∃ r,Hid (numF s.size=r):=⟨_,rfl⟩
 rw [hF.out] at hS hz ⊢
 have hb:¬ 9223372036854775807<F.size+s.size:=by omega
 go_enter Tryz.func76,Tryz.ntmps76
 go_wp2_with fail
 refine hS.out.mono ?_
 rintro e w1 ⟨rfl,H1⟩
 go_wp2
 go_ret
 exact ⟨rfl,(H.join H1).bare⟩
def ndF(i:Int):ByteArray:=(⟨#[83,76,68,71]⟩:ByteArray)++fixF i 8
theorem nd_size(i:Int):(ndF i).size=12:=by rw [ndF,ByteArray.size_append,Zp _ (by decide)];rfl
set_option maxHeartbeats 800000 in
theorem blnonce_any(i:Int)(w:World):Calls Tryz.prog 46 #[.int .i64 i] w (fun e w'=>e=.returned (.string (ndF i))∧Own w w' []):=by
 have hF:=jd (fxd_any i 8 (by decide) w)
 unfold ndF
 obtain ⟨F,hf⟩:∃ r,Hid (fixF i 8=r):=⟨_,rfl⟩
 have hFs:F.size=8:=by rw [← hf.out];exact Zp _ (by decide)
 rw [hf.out] at hF ⊢
 go_enter Tryz.func46,Tryz.ntmps46
 go_wp2_with fail
 refine hF.out.mono ?_
 rintro e w1 ⟨rfl,H1⟩
 go_wp2
 go_ret
 exact ⟨rfl,H1⟩
def keysV(a b c:ByteArray):Value:=.agg #[.string a,.string b,.string c]
set_option maxHeartbeats 1600000 in
theorem blright_any(a b c:ByteArray)(ha:a.size=32)(i:Nat)(hi:i<256)(w:World):Calls Tryz.prog 44 #[keysV a b c,.int .i64 i] w (fun e w'=>e=.returned (.bool true)∧Own w w' []):=by
 have hiI:(i:Int)<256:=by omega
 have ha2:(a.size:Int)=32:=by omega
 have H:=(Own.start w).alloc (.cells #[.string a,.string b,.string c] 51)
 unfold keysV
 go_enter Tryz.func44,Tryz.ntmps44
 go_upto_region 1 with (fail)
 generalize w.alloc _=w1 at *
 generalize w.heap.size=g at *
 have c0:=H.cells
 go_wp2
 go_ret
 exact ⟨rfl,H.bare⟩
def btagF(k:ByteArray)(i:Int)(s:ByteArray):ByteArray:=tagF k (bns [fixF i 4,s])
set_option maxRecDepth 100000 in
set_option maxHeartbeats 1600000 in
theorem bltag_any(a b c s:ByteArray)(hb:b.size≤1000)(hs:s.size≤1000000)(i:Int)(w:World):Calls Tryz.prog 47 #[keysV a b c,.int .i64 i,.string s] w (fun e w'=>e=.returned (.string (btagF b i s))∧Own w w' []):=by
 have hF:=jd (fxd_any i 4 (by decide))
 obtain ⟨RES,hRES⟩:∃ r,Hid (btagF b i s=r):=⟨_,rfl⟩
 rw [hRES.out]
 obtain ⟨F,hf⟩:∃ r,Hid (fixF i 4=r):=⟨_,rfl⟩
 have hFs:F.size=4:=by rw [← hf.out];exact Zp _ (by decide)
 rw [hf.out] at hF
 have hR2:Hid (tagF b (bns [F,s])=RES):=jd (by rw [← hRES.out,btagF,hf.out])
 have H:=(Own.start w).alloc (.cells #[.string a,.string b,.string c] 51)
 unfold keysV
 go_enter Tryz.func47,Tryz.ntmps47
 go_upto_region 1 with (fail)
 generalize w.alloc _=w1 at *
 generalize w.heap.size=g at *
 have hF2:Hid (∀ w1 qs,Own w w1 qs→Calls Tryz.prog 89 #[.int .i64 i,.int .i64 4] w1 (fun e w2=>e=.returned (.string F)∧Own w w2 qs)):=jd fun w1 qs h=>(hF.out w1).mono fun e w2 g2=>⟨g2.1,h.join g2.2⟩
 refine wp_region_new (fun σ w1=>Own w w1 (newR (.cells #[.string F,.string s] 9) 2 (σ 5)++(blk g (.cells #[.string a,.string b,.string c] 51)::[]))) 6 [5] (by kernel_rfl) (by kernel_rfl) H.drew ?_
 simp only [List.take_succ_cons,List.take_zero,List.drop_succ_cons,List.drop_zero]
 repeat
  first
  | (refine calm_value (v:=?_) (by decide) rfl (fun σ w1 hS=>?_) ?_
     rotate_left
     ·have c0:=hS.skip.cells
      first | (go_simp;rfl) | rfl
     simp only [Act.put,putC])
  | (refine calm_skip (by decide) rfl ?_
     simp only [Act.put,putC])
 refine calm_call (v:=.string F) (by decide) rfl (fun w1=>(by go_simp)) (fun σ w1 hS=>hF2.out w1 _ hS) ?_
 simp only [Act.put,putC]
 repeat
  first
  | (refine calm_value (v:=?_) (by decide) rfl (fun σ w1 hS=>?_) ?_
     rotate_left
     ·have c0:=hS.skip.cells
      first | (go_simp;rfl) | rfl
     simp only [Act.put,putC])
  | (refine calm_skip (by decide) rfl ?_
     simp only [Act.put,putC])
 refine calm_row (by decide) (fun w1=>(by go_simp)) ?_
 refine calm_nil ?_
 intro σ wd hσ HD
 obtain ⟨vn,hvn⟩:=Option.isSome_iff_exists.1 (hσ 5 (by decide))
 rw [hvn] at HD
 obtain ⟨g2,rfl,HN⟩:=HD.newr
 clear HD H
 simp only [Jx,List.foldl_cons,List.foldl_nil,hvn]
 simp only [Act.put,List.setIfInBounds_toArray,List.set_cons_zero,List.set_cons_succ,List.getElem?_cons_succ,List.getElem?_cons_zero,Option.bind_some,Option.getD_some]
 have hrow:=(HN.slc_mk (xs:=[.string F,.string s]) (n:=2) (size:=1) rfl (Nat.le_refl _) (by decide) rfl rfl).rd
 have hT:=jd (mctag_any (key:=b) (l:=[F,s]) (by omega) hrow (by simp only [bns,List.flatMap_cons,List.flatMap_nil,List.append_nil,lJ,Qu];omega))
 rw [hR2.out] at hT
 go_wp2_with fail
 refine hT.out.mono ?_
 rintro e w3 ⟨rfl,H3⟩
 go_wp2
 go_ret
 exact ⟨rfl,(HN.join H3).bare⟩
def sealF(ke km:ByteArray)(i:Int)(chunk:ByteArray):ByteArray:=xorT ke (ndF i) chunk++btagF km i (xorT ke (ndF i) chunk)
theorem btag_size(k:ByteArray)(i:Int)(s:ByteArray):(btagF k i s).size=32:=tag_size _ _
theorem seal_size(ke km:ByteArray)(i:Int){chunk:ByteArray}(h:chunk.size=192):(sealF ke km i chunk).size=224:=by
 rw [sealF,ByteArray.size_append,xorT_size,btag_size,h]
set_option maxRecDepth 100000 in
set_option maxHeartbeats 3200000 in
theorem blseal_any(a b c chunk:ByteArray)(ha:a.size=32)(hb:b.size≤1000)(hs:chunk.size=192)(i:Nat)(hi:i<256)(w:World) :
 Calls Tryz.prog 20 #[keysV a b c,.int .i64 i,.string chunk] w (fun e w'=>e=.returned (.tuple #[.string (sealF a b i chunk),.int .i64 0])∧Own w w' []):=by
 obtain ⟨X,hX⟩:∃ r,Hid (xorT a (ndF i) chunk=r):=⟨_,rfl⟩
 have hXs:X.size=192:=by rw [← hX.out,xorT_size,hs]
 obtain ⟨T,hT⟩:∃ r,Hid (btagF b i X=r):=⟨_,rfl⟩
 have hTs:T.size=32:=by rw [← hT.out];exact btag_size _ _ _
 rw [sealF,hX.out,hT.out]
 obtain ⟨N,hN⟩:∃ r,Hid (ndF i=r):=⟨_,rfl⟩
 have hNs:N.size=12:=by rw [← hN.out];exact nd_size _
 have h1:=jd (blright_any a b c ha i hi)
 have h2:=jd (blnonce_any (i:Int))
 rw [hN.out] at h2
 have h3:=jd (ccxor_any a N chunk ha hNs hs)
 rw [show xorT a N chunk=X by rw [← hN.out];exact hX.out] at h3
 have h4:=jd (bltag_any a b c X hb (by omega) (i:Int))
 rw [hT.out] at h4
 unfold keysV at *
 have hs2:(chunk.size:Int)=192:=by omega
 have H:=(Own.start w).alloc (.cells #[.string a,.string b,.string c] 51)
 go_enter Tryz.func20,Tryz.ntmps20
 go_upto_region 1 with (fail)
 generalize w.alloc _=w1 at *
 generalize w.heap.size=g at *
 have c0:=H.cells
 go_wp2_with fail
 refine (h1.out _).mono ?_
 rintro e w2 ⟨rfl,H2⟩
 replace H2:=H.join H2
 clear H c0
 go_upto_region 3 with (fail)
 have k2:Hid (∀ w1 qs,Own w w1 qs→Calls Tryz.prog 46 #[.int .i64 i] w1 (fun e w2=>e=.returned (.string N)∧Own w w2 qs)):=jd fun w1 qs h=>(h2.out w1).mono fun e w2 g2=>⟨g2.1,h.join g2.2⟩
 have k3:Hid (∀ w1 qs,Own w w1 qs→Calls Tryz.prog 45 #[.string a,.string N,.int .i64 1,.string chunk] w1 (fun e w2=>e=.returned (.tuple #[.string X,.int .i64 0])∧Own w w2 qs)):=jd fun w1 qs h=>(h3.out w1).mono fun e w2 g2=>⟨g2.1,h.join g2.2⟩
 replace H2:Own w w2 (blk g (.cells #[.string a,.string b,.string c] 51)::[]):=H2
 refine Qa (fun w1=>Own w w1 (blk g (.cells #[.string a,.string b,.string c] 51)::[])) 10 (by kernel_rfl) (by kernel_rfl) H2.drew ?_
 simp only [List.take_succ_cons,List.take_zero,List.drop_succ_cons,List.drop_zero]
 repeat
  first
  | (refine calm_value (v:=?_) (by decide) rfl (fun σ w1 hS=>?_) ?_
     rotate_left
     ·have c0:=hS.cells
      first | (go_simp;rfl) | rfl
     simp only [Act.put,putC])
  | (refine calm_skip (by decide) rfl ?_
     simp only [Act.put,putC])
 refine calm_call (v:=.string N) (by decide) rfl (fun w1=>(by go_simp)) (fun σ w1 hS=>k2.out w1 _ hS) ?_
 simp only [Act.put,putC]
 repeat
  first
  | (refine calm_value (v:=?_) (by decide) rfl (fun σ w1 hS=>?_) ?_
     rotate_left
     ·have c0:=hS.cells
      first | (go_simp;rfl) | rfl
     simp only [Act.put,putC])
  | (refine calm_skip (by decide) rfl ?_
     simp only [Act.put,putC])
 refine calm_call (v:=.tuple #[.string X,.int .i64 0]) (by decide) rfl (fun w1=>(by go_simp)) (fun σ w1 hS=>k3.out w1 _ hS) ?_
 simp only [Act.put,putC]
 repeat
  first
  | (refine calm_value (v:=?_) (by decide) rfl (fun σ w1 hS=>?_) ?_
     rotate_left
     ·have c0:=hS.cells
      first | (go_simp;rfl) | rfl
     simp only [Act.put,putC])
  | (refine calm_skip (by decide) rfl ?_
     simp only [Act.put,putC])
 refine calm_nil ?_
 intro wd HD
 clear H2
 have c0:=HD.cells
 go_wp2_with fail
 refine (h4.out _).mono ?_
 rintro e w3 ⟨rfl,H3⟩
 go_wp2
 go_ret2
 exact ⟨rfl,(HD.join H3).bare⟩
def hdrV(id:Int)(salt:ByteArray)(n bytes raw:Int)(root tag:ByteArray):Value:=.agg #[.int .i64 id,.string salt,.int .i64 n,.int .i64 bytes,.int .i64 raw,.string root,.string tag]
def hdrC(id:Int)(salt:ByteArray)(n bytes raw:Int)(root tag:ByteArray):Array Value:=#[.int .i64 id,.string salt,.int .i64 n,.int .i64 bytes,.int .i64 raw,.string root,.string tag]
def fldF(id:Int)(salt:ByteArray)(n bytes raw:Int)(root:ByteArray):ByteArray:=(⟨#[83,76,71,49]⟩:ByteArray)++fixF id 4++salt++fixF n 2++fixF bytes 4++fixF raw 4++root
set_option maxRecDepth 100000 in
set_option maxHeartbeats 3200000 in
theorem hdfields_any(id:Int)(salt:ByteArray)(n bytes raw:Int)(root tag:ByteArray)(h1:salt.size=16)(h2:root.size=32)(w:World) :
 Calls Tryz.prog 49 #[hdrV id salt n bytes raw root tag] w (fun e w'=>e=.returned (.string (fldF id salt n bytes raw root))∧Own w w' []):=by
 obtain ⟨A,hA⟩:∃ r,Hid (fixF id 4=r):=⟨_,rfl⟩
 obtain ⟨B,hB⟩:∃ r,Hid (fixF n 2=r):=⟨_,rfl⟩
 obtain ⟨C,hC⟩:∃ r,Hid (fixF bytes 4=r):=⟨_,rfl⟩
 obtain ⟨D,hD⟩:∃ r,Hid (fixF raw 4=r):=⟨_,rfl⟩
 have sA:A.size=4:=by rw [← hA.out];exact Zp _ (by decide)
 have sB:B.size=2:=by rw [← hB.out];exact Zp _ (by decide)
 have sC:C.size=4:=by rw [← hC.out];exact Zp _ (by decide)
 have sD:D.size=4:=by rw [← hD.out];exact Zp _ (by decide)
 have K:Hid (∀ (x:Int) (k:Nat) w1 qs,1≤k∧k≤8→Own w w1 qs→Calls Tryz.prog 89 #[.int .i64 x,.int .i64 k] w1 (fun e w2=>e=.returned (.string (fixF x k))∧Own w w2 qs)):=jd fun x k w1 qs hk h=>(fxd_any x k hk w1).mono fun e w2 g2=>⟨g2.1,h.join g2.2⟩
 have KA:Hid (∀ w1 qs,Own w w1 qs→Calls Tryz.prog 89 #[.int .i64 id,.int .i64 4] w1 (fun e w2=>e=.returned (.string A)∧Own w w2 qs)):=jd fun w1 qs h=>(by rw [← hA.out];exact K.out id 4 w1 _ (by decide) h)
 have KB:Hid (∀ w1 qs,Own w w1 qs→Calls Tryz.prog 89 #[.int .i64 n,.int .i64 2] w1 (fun e w2=>e=.returned (.string B)∧Own w w2 qs)):=jd fun w1 qs h=>(by rw [← hB.out];exact K.out n 2 w1 _ (by decide) h)
 have KC:Hid (∀ w1 qs,Own w w1 qs→Calls Tryz.prog 89 #[.int .i64 bytes,.int .i64 4] w1 (fun e w2=>e=.returned (.string C)∧Own w w2 qs)):=jd fun w1 qs h=>(by rw [← hC.out];exact K.out bytes 4 w1 _ (by decide) h)
 have KD:Hid (∀ w1 qs,Own w w1 qs→Calls Tryz.prog 89 #[.int .i64 raw,.int .i64 4] w1 (fun e w2=>e=.returned (.string D)∧Own w w2 qs)):=jd fun w1 qs h=>(by rw [← hD.out];exact K.out raw 4 w1 _ (by decide) h)
 have z1:((⟨#[83,76,71,49]⟩:ByteArray)++A).size=8:=by rw [ByteArray.size_append,sA];rfl
 have z2:((⟨#[83,76,71,49]⟩:ByteArray)++A++salt).size=24:=by rw [ByteArray.size_append,z1,h1]
 have z3:((⟨#[83,76,71,49]⟩:ByteArray)++A++salt++B).size=26:=by rw [ByteArray.size_append,z2,sB]
 have z4:((⟨#[83,76,71,49]⟩:ByteArray)++A++salt++B++C).size=30:=by rw [ByteArray.size_append,z3,sC]
 have z5:((⟨#[83,76,71,49]⟩:ByteArray)++A++salt++B++C++D).size=34:=by rw [ByteArray.size_append,z4,sD]
 unfold fldF hdrV
 rw [hA.out,hB.out,hC.out,hD.out]
 have H:=(Own.start w).alloc (.cells #[.int .i64 id,.string salt,.int .i64 n,.int .i64 bytes,.int .i64 raw,.string root,.string tag] 25)
 go_enter Tryz.func49,Tryz.ntmps49
 go_upto_region 1 with (fail)
 generalize w.alloc _=w1 at *
 generalize w.heap.size=g at *
 refine Qa (fun w1=>Own w w1 (blk g (.cells #[.int .i64 id,.string salt,.int .i64 n,.int .i64 bytes,.int .i64 raw,.string root,.string tag] 25)::[])) 22 (by kernel_rfl) (by kernel_rfl) H.drew ?_
 simp only [List.take_succ_cons,List.take_zero,List.drop_succ_cons,List.drop_zero]
 repeat
  first
  | (refine calm_value (v:=?_) (by decide) rfl (fun σ w1 hS=>?_) ?_
     rotate_left
     ·have c0:=hS.cells
      first | (go_simp;rfl) | rfl
     simp only [Act.put,putC])
  | (refine calm_skip (by decide) rfl ?_
     simp only [Act.put,putC])
 refine calm_call (v:=.string A) (by decide) rfl (fun w1=>(by go_simp)) (fun σ w1 hS=>KA.out w1 _ hS) ?_
 simp only [Act.put,putC]
 repeat
  first
  | (refine calm_value (v:=?_) (by decide) rfl (fun σ w1 hS=>?_) ?_
     rotate_left
     ·have c0:=hS.cells
      first | (go_simp;rfl) | rfl
     simp only [Act.put,putC])
  | (refine calm_skip (by decide) rfl ?_
     simp only [Act.put,putC])
 refine calm_call (v:=.string B) (by decide) rfl (fun w1=>(by go_simp)) (fun σ w1 hS=>KB.out w1 _ hS) ?_
 simp only [Act.put,putC]
 repeat
  first
  | (refine calm_value (v:=?_) (by decide) rfl (fun σ w1 hS=>?_) ?_
     rotate_left
     ·have c0:=hS.cells
      first | (go_simp;rfl) | rfl
     simp only [Act.put,putC])
  | (refine calm_skip (by decide) rfl ?_
     simp only [Act.put,putC])
 refine calm_call (v:=.string C) (by decide) rfl (fun w1=>(by go_simp)) (fun σ w1 hS=>KC.out w1 _ hS) ?_
 simp only [Act.put,putC]
 repeat
  first
  | (refine calm_value (v:=?_) (by decide) rfl (fun σ w1 hS=>?_) ?_
     rotate_left
     ·have c0:=hS.cells
      first | (go_simp;rfl) | rfl
     simp only [Act.put,putC])
  | (refine calm_skip (by decide) rfl ?_
     simp only [Act.put,putC])
 refine calm_call (v:=.string D) (by decide) rfl (fun w1=>(by go_simp)) (fun σ w1 hS=>KD.out w1 _ hS) ?_
 simp only [Act.put,putC]
 repeat
  first
  | (refine calm_value (v:=?_) (by decide) rfl (fun σ w1 hS=>?_) ?_
     rotate_left
     ·have c0:=hS.cells
      first | (go_simp;rfl) | rfl
     simp only [Act.put,putC])
  | (refine calm_skip (by decide) rfl ?_
     simp only [Act.put,putC])
 refine calm_nil ?_
 intro wd HD
 go_wp2
 go_ret
 exact ⟨rfl,HD.bare⟩
def htagF(key:ByteArray)(id:Int)(salt:ByteArray)(n bytes raw:Int)(root:ByteArray):ByteArray:=tagF key (bn (fldF id salt n bytes raw root))
theorem fld_size(id:Int)(salt:ByteArray)(n bytes raw:Int)(root:ByteArray)(h1:salt.size=16)(h2:root.size=32):(fldF id salt n bytes raw root).size=66:=by
 unfold fldF
 rw [ByteArray.size_append,ByteArray.size_append,ByteArray.size_append,ByteArray.size_append,ByteArray.size_append,ByteArray.size_append,Zp _ (by decide),Zp _ (by decide),Zp _ (by decide),Zp _ (by decide),h1,h2]
 rfl
set_option maxRecDepth 100000 in
set_option maxHeartbeats 3200000 in
theorem hdsign_any(key:ByteArray)(id:Int)(salt:ByteArray)(n bytes raw:Int)(root tag:ByteArray)(hk:key.size≤1000000)(h1:salt.size=16)(h2:root.size=32)(w:World) :
 Calls Tryz.prog 21 #[.string key,hdrV id salt n bytes raw root tag] w (fun e w'=>e=.returned (hdrV id salt n bytes raw root (htagF key id salt n bytes raw root))∧Own w w' []):=by
 obtain ⟨T,hT⟩:∃ r,Hid (htagF key id salt n bytes raw root=r):=⟨_,rfl⟩
 rw [hT.out]
 obtain ⟨F,hF⟩:∃ r,Hid (fldF id salt n bytes raw root=r):=⟨_,rfl⟩
 have hFs:F.size=66:=by rw [← hF.out];exact fld_size _ _ _ _ _ _ h1 h2
 have HF:=jd (hdfields_any id salt n bytes raw root tag h1 h2)
 rw [hF.out] at HF
 have HT:Hid (∀ w',Own w w' []→Calls Tryz.prog 48 #[.string key,.slice (some ⟨w'.heap.size,0,none⟩) 1 1] (w'.alloc (.cells #[.string F] 9)) (fun e w2=>e=.returned (.string T)∧Own w' w2 [])):=jd fun w' h=>by
  have h3:=(Own.start w').made [.string F] 9 1 1 rfl (by decide)
  have:=mctag_any (key:=key) (l:=[F]) (by omega) h3.rd (by simp only [bns,List.flatMap_cons,List.flatMap_nil,List.append_nil,Qu];omega)
  rw [show tagF key (bns [F])=T by rw [← hT.out,htagF,hF.out];simp [bns]] at this
  exact this.mono fun e w2 g=>⟨g.1,(h3.join g.2).bare⟩
 have H:=(Own.start w).alloc2 (.cells #[.int .i64 id,.string salt,.int .i64 n,.int .i64 bytes,.int .i64 raw,.string root,.string tag] 25) (.cells #[.int .i64 0,.string ⟨#[]⟩,.int .i64 0,.int .i64 0,.int .i64 0,.string ⟨#[]⟩,.string ⟨#[]⟩] 25)
 unfold hdrV at *
 go_enter Tryz.func21,Tryz.ntmps21
 go_upto_region 1 with (fail)
 generalize (w.alloc _).alloc _=w1 at *
 obtain ⟨gr,hgr⟩:∃ g,w.heap.size+1=g:=⟨_,rfl⟩
 rw [hgr] at H ⊢
 generalize w.heap.size=g at *
 clear hgr
 have c0:=(H.front 1 rfl).cells
 go_wp2_with fail
 refine (HF.out _).mono ?_
 rintro e w2 ⟨rfl,H2⟩
 replace H2:=H.join H2
 clear H c0
 go_wp2_with fail
 refine (HT.out w2 H2.bare).mono ?_
 rintro e w3 ⟨rfl,H3⟩
 replace H3:Own w w3 (blk gr (.cells #[.int .i64 0,.string ⟨#[]⟩,.int .i64 0,.int .i64 0,.int .i64 0,.string ⟨#[]⟩,.string ⟨#[]⟩] 25)::blk g (.cells #[.int .i64 id,.string salt,.int .i64 n,.int .i64 bytes,.int .i64 raw,.string root,.string tag] 25)::[]):=H2.join H3
 clear H2
 go_upto_region 2 with (refine wpList_store_string rfl _ _ rfl rfl H3.swap rfl (by kernel_rfl) (by simp) ?_;clear H3;intro w4 H3)
 simp only [Act.put]
 replace H3:Own w w4 (blk g (.cells #[.int .i64 id,.string salt,.int .i64 n,.int .i64 bytes,.int .i64 raw,.string root,.string T] 25)::blk gr (.cells #[.int .i64 0,.string ⟨#[]⟩,.int .i64 0,.int .i64 0,.int .i64 0,.string ⟨#[]⟩,.string ⟨#[]⟩] 25)::[]):=H3
 have c0:=H3.cells
 go_wp2_with (refine Qe rfl _ _ rfl rfl H3.swap (vs:=[.int .i64 id,.string salt,.int .i64 n,.int .i64 bytes,.int .i64 raw,.string root,.string T]) rfl (by kernel_rfl) (by simp) (by simp [Value.oneCell']) rfl ?_;clear H3 c0;intro w5 H3)
 have hl9:(loadVar 25 ⟨gr,0,none⟩).run Tryz.prog w5=.ok (.agg #[.int .i64 id,.string salt,.int .i64 n,.int .i64 bytes,.int .i64 raw,.string root,.string T]) w5:=run_loadVar_row w5 gr _ _ _ _ _ H3.block.1 Tryz.underlying25 rfl (by kernel_rfl)
 refine bodyPost_ret (v:=.agg #[.int .i64 id,.string salt,.int .i64 n,.int .i64 bytes,.int .i64 raw,.string root,.string T]) (res_cell1 (p:=4) (ty:=25) rfl _ _ gr _ rfl hl9) rfl ?_
 exact ⟨rfl,H3.bare⟩
set_option maxRecDepth 100000 in
set_option maxHeartbeats 6400000 in
theorem salt_any(s:ByteArray)(hs:s.size≤140737488351232)(w:World) :
 Calls Tryz.prog 6 #[.string s] w (Ret fun r w'=>∃ t:ByteArray,r=.string t∧t.size=16∧Own w w' []):=by
 have H:=Own.start w
 go_enter Tryz.func6,Tryz.ntmps6
 go_upto_region 1 with (fail)
 refine wp_region_list ?_
 refine wpList_value rfl (u:=.string s) (by go_simp) ?_
 simp only [Act.put,putC]
 refine wpList_bytesOf2 rfl _ rfl Tryz.underlying9 Tryz.underlying58 Tryz.underlying5 rfl (by omega) H ?_
 clear H
 intro v w1 H
 simp only [Act.put,putC]
 refine wpList_value rfl (u:=v) (by go_simp) ?_
 simp only [Act.put,putC]
 refine wpList_nil ?_
 go_wp2_with fail
 go_loopw [3] (fun v3 wx=>∃ (n:Nat) (xs:List Int),n≤140737488351400∧Own w wx (slf 5 v3 n (bts xs)::[])) (fun v3 _=>16-Jr v3)
 case atStart=>exact ⟨s.size,bn s,by omega,H⟩
 case round=>
  clear H
  obtain ⟨n,xs,hn,H⟩:=hrel
  obtain ⟨a,c,rfl,g1,g2⟩:=H.slf_rd.shape
  have hxl:=jd (show xs.length=n by have:=H.slf_rd.len;rw [Qx] at this;omega)
  by_cases h16:n<16
  ·have hI:(n:Int)<16:=by omega
   have e1:IntKind.u8.wrap (n:Int)=(n:Int):=IntWalk.u8_in _ ⟨by omega,by omega⟩
   go_wp2_with (at_builtin;refine wpList_append_slf_one rfl _ _ rfl Tryz.underlying58 u8Info rfl rfl H rfl rfl rfl (by omega) ?_;clear H;intro v5 w5 H)
   obtain ⟨a6,c6,rfl,g3,g4⟩:=H.slf_rd.shape
   go_roundw
   case rel=>exact ⟨n+1,xs++[(n:Int)],by omega,by rw [Zv];exact H⟩
   case measure=>simp [Jr];omega
  ·have hI:¬ (n:Int)<16:=by omega
   have hc16:16≤c:=by omega
   have hrd:=H.slf_rd.part (m:=16) (by omega)
   rw [show (bts xs).take 16=bts (xs.take 16) by simp [bts,List.map_take]] at hrd
   have hs2:=Js (P:=Tryz.prog) 58 9 Tryz.underlying58 Tryz.underlying5 Tryz.underlying9 hrd
   have hz:Hid ((strOfNums (xs.take 16)).size=16):=jd (by rw [strOfNums_size,List.length_take,hxl.out];omega)
   obtain ⟨T,hT⟩:∃ T,Hid (strOfNums (xs.take 16)=T):=⟨_,rfl⟩
   rw [hT.out] at hs2 hz
   clear hrd
   go_wp2
   go_ret
   exact ⟨_,rfl,T,rfl,hz.out,H.bare⟩
set_option maxRecDepth 100000 in
set_option maxHeartbeats 6400000 in
theorem codes_any{w:World}{v:Value}{n:Nat}{F:List Int}(hr:Rd w 1 v n (nums F))(hn:n≤1000000) :
 Calls Tryz.prog 269 #[v] w (Ret fun r w'=>∃ ov,r=.tuple #[ov,.int .i64 (cerrF F)]∧Own w w' [slc 3 1 ov (cresF F).length (nums (cresF F))]):=by
 have hl:=jd (rd_len hr)
 obtain ⟨a,c,rfl,hc1,hc2⟩:=hr.shape
 have HR:=jd hr
 obtain ⟨er,her⟩:∃ er,Hid (cerrF F=er):=⟨_,rfl⟩
 obtain ⟨R,hRes⟩:∃ R,Hid (cresF F=R):=⟨_,rfl⟩
 rw [her.out,hRes.out]
 obtain ⟨RL,hRL⟩:∃ RL,Hid (R.length=RL):=⟨_,rfl⟩
 rw [hRL.out]
 obtain ⟨Z,hZ⟩:∃ Z,Hid (mayF F=Z):=⟨_,rfl⟩
 have HC:=jd (counts_any hr hn)
 rw [hZ.out] at HC
 clear hr
 have hnil:er≠0→R=[]∧RL=0:=fun h=>by
  have:R=[]:=by rw [← hRes.out];unfold cresF;rw [her.out,if_neg h]
  exact ⟨this,by rw [← hRL.out,this];rfl⟩
 have HNIL:=jd hnil
 clear hnil
 have hzl:(Qm 16).length=16:=by simp [Qm]
 go_enter Tryz.func269,Tryz.ntmps269
 go_wp2_with fail
 refine HC.out.mono ?_
 rintro e w1 ⟨_,rfl,⟨cs,hcs,rfl,hcs2⟩,H1⟩
 have HCS:=jd hcs2
 have H:=H1.alloc (.cells (nums (Qm 16)).toArray 423)
 rw [arr_zero] at H
 clear hcs2 HC H1
 go_upto_region 2 with (first
  | (generalize w1.alloc _=wa at *;rw [← arr_zero] at H;generalize w1.heap.size=cb at *;refine wpList_store16 rfl _ _ rfl rfl hzl hcs H rfl ?_;clear H;intro w2 H))
 cases Z with
 | false=>
  have e1:Hid (er=1):=jd (by rw [← her.out];unfold cerrF;rw [hZ.out];rfl)
  obtain ⟨e2,e3⟩:=HNIL.out (by rw [e1.out];decide)
  subst e3
  have E2:=jd e2
  clear e2
  go_wp2_with fail
  go_ret2
  refine ⟨_,rfl,_,by rw [e1.out];rfl,?_⟩
  rw [E2.out]
  exact H.bare.nil 3 1
 | true=>
  have hm:=mayF_len hZ.out
  have hcs2:=HCS.out rfl
  subst hcs2
  have hF:=hm.2
  have hn3:n≤320:=by have:=hm.1;have:=hl.out;omega
  have hlw:=left_law hF
  have hcb:∀ k,0≤(Zf F).getD k 0∧(Zf F).getD k 0≤1000000:=by
   intro k
   rcases Nat.lt_or_ge k 16 with h | h
   ·rw [counts_get hF k h]
    unfold cntC
    split
    ·omega
    ·have:=cntL_le F k;have:=hl.out;omega
   ·rw [List.getD_eq_getElem?_getD,List.getElem?_eq_none (by rw [counts_length];exact h)];simp
  have HL:=jd (fun w=>left_any (w:=w) hcs hcb)
  have HF:=jd hF
  have HCB:=jd hcb
  clear hm hF hcb
  by_cases hw:sumF wtF F≤2^15
  ·rw [if_pos hw] at hlw
   have e1:Hid (er=0):=jd (by rw [← her.out];unfold cerrF;rw [hZ.out,if_pos rfl,if_pos hw])
   have e2:Hid (Zc F=R):=jd (by rw [← hRes.out];unfold cresF;rw [her.out,e1.out];rfl)
   have HW:=jd hw
   obtain ⟨lf,hlf⟩:∃ lf,Hid (leftF (Zf F)=lf):=⟨_,rfl⟩
   rw [hlf.out] at hlw HL
   have hlf0:¬ lf<0:=by omega
   have hRl:n=RL:=by rw [← hRL.out,← e2.out,codesF_length];exact hl.out.symm
   subst hRl
   clear hw hlw
   go_wp2_with (refine wpList_load16 rfl _ rfl rfl hcs H ?_)
   refine (HL.out _).mono ?_
   rintro e w3 ⟨_,rfl,rfl,H1⟩
   have H:=H.join H1
   clear H1
   have H:=H.alloc (.cells (nums (Qm 16)).toArray 423)
   rw [arr_zero] at H
   go_upto_region 7 with (fail)
   generalize w3.alloc _=wa at *
   rw [← arr_zero] at H
   generalize w3.heap.size=nb at *
   go_wp2_with fail
   go_loopw [7] (fun s7 wx=>∃ (k:Nat) (nx:List Int),s7=.int .i64 k∧1≤k∧k≤15∧Hid (nx.length=16)∧Hid (∀ j,j≤k→nx.getD j 0=lowF F j)∧Own w wx (blk nb (.cells (nums nx).toArray 423)::blk cb (.cells (nums (Zf F)).toArray 423)::[])) (fun s7 _=>15-(intOf s7).toNat)
   case atStart=>exact ⟨1,Qm 16,by go_num,by omega,by omega,jd hzl,jd (fun j h=>by
    rw [zeros_get]
    rcases (by omega:j=0∨j=1) with rfl | rfl
    ·rw [lowF_zero]
    ·rw [lowF_succ,lowF_zero];rfl),H⟩
   case round=>
    clear H
    obtain ⟨k,nx,rfl,hk1,hk2,hnl,hnx,H⟩:=hrel
    have hcl:=counts_length F
    by_cases hlt:k<15
    ·have hkI:(k:Int)<15:=by omega
     have hk16:(k:Int)<16:=by omega
     have hk17:(k:Int)+1<16:=by omega
     have hkw:IntKind.i64.wrap ((k:Int)+1)=(k:Int)+1:=IntWalk.i64_in _ ⟨by omega,by omega⟩
     have hfit:k+1<(nums nx).toArray.size:=by rw [List.size_toArray,Qg];have:=hnl.out;omega
     have g0:∀ (ps':List Piece) (w':World),Own w w' (blk nb (.cells (nums nx).toArray 423)::blk cb (.cells (nums (Zf F)).toArray 423)::ps')→w'.cell? ⟨nb,k,none⟩=some (.int .i64 (lowF F k))∧w'.cell? ⟨cb,k,none⟩=some (.int .i64 (cntC F k)):=fun ps' w' h=>by
      constructor
      ·rw [h.cells,arr_get (by have:=hnl.out;omega),hnx.out k (Nat.le_refl _)]
      ·rw [h.swap.cells,arr_get (by omega),counts_get HF.out k (by omega)]
     have G0:=jd g0
     have hlow:=lowF_succ F k
     have hroom:=low_room HF.out HW.out (k+1) (by omega)
     have hpk:(2:Int)^(k+1)≤32768:=by
      have:(2:Nat)^(k+1)≤2^15:=Nat.pow_le_pow_right (by omega) (by omega)
      have h2:((2^(k+1):Nat):Int)≤((2^15:Nat):Int):=Int.ofNat_le.2 this
      simpa using h2
     have b1:=lowF_nonneg F k
     have b2:=cntC_nonneg F k
     have b3:=cntC_nonneg F (k+1)
     have hst:=arr_set nx (k+1) (lowF F (k+1))
     have hnx2:Hid (∀ j,j≤k+1→(nx.set (k+1) (lowF F (k+1))).getD j 0=lowF F j):=jd (fun j hj=>by
      rw [List.getD_eq_getElem?_getD,List.getElem?_set]
      by_cases h:k+1=j
      ·subst h;rw [if_pos rfl,if_pos (by have:=hnl.out;omega)];rfl
      ·rw [if_neg h,← List.getD_eq_getElem?_getD];exact hnx.out j (by omega))
     have hnl2:Hid ((nx.set (k+1) (lowF F (k+1))).length=16):=jd (by rw [List.length_set];exact hnl.out)
     generalize lowF F (k+1)=y2 at *
     generalize lowF F k=y at *
     generalize cntC F k=z at *
     generalize cntC F (k+1)=z2 at *
     generalize (2:Int)^(k+1)=pw at *
     generalize hnx':nx.set (k+1) y2=nx2 at *
     have HST:=jd hst
     clear hst hnx' hnx g0
     have hs1:IntKind.i64.wrap (y+z)=y+z:=IntWalk.i64_in _ ⟨by omega,by omega⟩
     have hs2:IntKind.i64.wrap ((y+z)*2)=y2:=by rw [hlow,Int.mul_comm];exact IntWalk.i64_in _ ⟨by omega,by omega⟩
     have HLOW:=jd hlow
     clear hlow hroom
     go_upto_region 10 with (fail)
     refine Qa (fun w1=>Own w w1 (blk nb (.cells (nums nx).toArray 423)::blk cb (.cells (nums (Zf F)).toArray 423)::[])) 10 (by kernel_rfl) (by kernel_rfl) H.drew ?_
     simp only [List.take_succ_cons,List.take_zero,List.drop_succ_cons,List.drop_zero]
     repeat
      first
      | (refine calm_value (v:=?_) (by decide) rfl (fun σ w1 hS=>?_) ?_
         rotate_left
         ·obtain ⟨c0,c1⟩:=G0.out _ _ hS
          first | (go_simp;rfl) | rfl
         simp only [Act.put,putC])
      | (refine calm_skip (by decide) rfl ?_
         simp only [Act.put,putC])
     refine calm_nil ?_
     intro wd HD
     clear H
     go_wp2_with (refine Qh rfl _ _ rfl rfl HD rfl (by kernel_rfl) hfit ?_;clear HD;intro w4 H;rw [HST.out] at H)
     go_roundw
     case rel=>exact ⟨k+1,nx2,by go_num,by omega,by omega,hnl2,hnx2,H⟩
     case measure=>simp [intOf];omega
    ·have hkI:¬ (k:Int)<15:=by omega
     have hk15:Hid (15≤k):=jd (by omega)
     have hmk:∀ w:World,(Instr.makeSlice 34 (.int .i64 n) (.int .i64 n)).run Tryz.prog w=.ok (.slice (some ⟨w.heap.size,0,none⟩) n n) (w.alloc (.cells (madeCells #[.int .i64 0] n) 3)):=run_make_row' _ _ _ 8 Tryz.underlying34 intInfo rfl .i64 .i64 n (by omega) (by omega)
     go_upto_region 12 with (fail)
     clear hmk
     have H:=(H.alloc (.cells (madeCells #[.int .i64 0] n) 3)).slc_mk (xs:=nums (Qm n)) (n:=n) (size:=1) (by simp [nums,Qm]) (Nat.le_refl _) (by simp [maxLen];omega) (by simp [size_madeCells]) (by rw [toList_madeCells_one];simp [nums,Qm])
     generalize World.alloc _ (.cells (madeCells #[.int .i64 0] n) 3)=wb at *
     generalize wr.heap.size=og at *
     go_wp2_with fail
     go_loopw [43] (fun s43 wx=>∃ (i:Nat) (ny o:List Int),s43=.int .i64 i∧i≤n∧Hid (ny.length=16)∧Hid (o.length=n)∧Hid (∀ j:Nat,1≤j→j≤15→ny.getD j 0=lowF F j+cntL (F.take i) j)∧Hid (∀ s,o.getD s 0=if s<i then codeF F s else 0)∧Own w wx (slc 3 1 (.slice (some ⟨og,0,none⟩) n n) n (nums o)::blk nb (.cells (nums ny).toArray 423)::blk cb (.cells (nums (Zf F)).toArray 423)::[])) (fun s43 _=>n-(intOf s43).toNat)
     case atStart=>exact ⟨0,nx,Qm n,by go_num,by omega,hnl,jd (by simp [Qm]),jd (fun j h1 h2=>by rw [hnx.out j (by have:=hk15.out;omega)];simp [cntL]),jd (fun s=>by rw [zeros_get,if_neg (by omega)]),H⟩
     case round=>
      clear H hnx hnl
      obtain ⟨i,ny,o,rfl,hi,hnl,hol,hny,ho,H⟩:=hrel
      by_cases hlt:i<n
      ·have hI:(i:Int)<(n:Int):=by omega
       obtain ⟨b,oo,rfl,c1⟩:=rd_at HR.out H hlt
       have hx:=HF.out (F.getD i 0) (by
        rw [List.getD_eq_getElem?_getD,List.getElem?_eq_getElem (by have:=hl.out;omega)]
        exact List.getElem_mem _)
       have hil:i<F.length:=by have:=hl.out;omega
       by_cases hpos:0<F.getD i 0
       ·have hcode:codeF F i=lowF F (F.getD i 0).toNat+cntL (F.take i) (F.getD i 0).toNat:=by unfold codeF;rw [if_pos hpos]
        obtain ⟨m,hm⟩:∃ m:Nat,F.getD i 0=m:=⟨(F.getD i 0).toNat,by omega⟩
        have hm1:1≤m:=by omega
        have hm2:m≤15:=by omega
        have hlt2:=code_lt hil hpos
        have hroom:=low_room HF.out HW.out m hm2
        have hpk:(2:Int)^m≤32768:=by
         have:(2:Nat)^m≤2^15:=Nat.pow_le_pow_right (by omega) (by omega)
         have h2:((2^m:Nat):Int)≤((2^15:Nat):Int):=Int.ofNat_le.2 this
         simpa using h2
        have hcn:=code_nonneg (l:=F) i
        rw [hm] at hcode hpos hx c1 hlt2
        rw [Int.toNat_natCast] at hcode hlt2
        have hnyv:ny.getD m 0=codeF F i:=by rw [hny.out m hm1 hm2,hcode]
        have g0:=H.swap.cells m
        rw [arr_get (by have:=hnl.out;omega),hnyv] at g0
        have ho2:Hid (∀ s,(o.set i (codeF F i)).getD s 0=if s<i+1 then codeF F s else 0):=jd (fun s=>by
         rw [List.getD_eq_getElem?_getD,List.getElem?_set]
         by_cases h:i=s
         ·subst h;rw [if_pos rfl,if_pos (by have:=hol.out;omega),if_pos (by omega)];rfl
         ·rw [if_neg h,← List.getD_eq_getElem?_getD,ho.out s]
          by_cases h2:s<i
          ·rw [if_pos h2,if_pos (by omega)]
          ·rw [if_neg h2,if_neg (by omega)])
        have hny2:Hid (∀ j:Nat,1≤j→j≤15→(ny.set m (codeF F i+1)).getD j 0=lowF F j+cntL (F.take (i+1)) j):=jd (fun j h1 h2=>by
         rw [cntL_take_succ hil,hm,List.getD_eq_getElem?_getD,List.getElem?_set]
         by_cases h:m=j
         ·subst h;rw [if_pos rfl,if_pos (by have:=hnl.out;omega),if_pos rfl,hcode];simp;omega
         ·rw [if_neg h,if_neg (by omega),← List.getD_eq_getElem?_getD,hny.out j h1 h2];simp)
        have hol2:Hid ((o.set i (codeF F i)).length=n):=jd (by rw [List.length_set];exact hol.out)
        have hnl2:Hid ((ny.set m (codeF F i+1)).length=16):=jd (by rw [List.length_set];exact hnl.out)
        have hst1:(nums o).set i (.int .i64 (codeF F i))=nums (o.set i (codeF F i)):=nums_set _ _ _
        have hst2:=arr_set ny m (codeF F i+1)
        have hfit:m<(nums ny).toArray.size:=by rw [List.size_toArray,Qg];have:=hnl.out;omega
        have hy1:codeF F i≤32768:=by
         have:cntC F m=cntL F m:=by unfold cntC;rw [if_neg (by omega)]
         omega
        have HNY:=jd hnyv
        clear hcode hlt2 hroom hpk hnyv hm
        generalize codeF F i=y at *
        have HST1:=jd hst1
        have HST2:=jd hst2
        have hyw:IntKind.i64.wrap (y+1)=y+1:=IntWalk.i64_in _ ⟨by omega,by omega⟩
        have hmI:(m:Int)<16:=by omega
        clear hst1 hst2 hny ho hil
        go_wp2_with (first
         | (refine Ja rfl _ _ rfl rfl H (.int .i64 y) rfl (by kernel_rfl) (by omega) rfl ?_;clear H c1 g0;intro w5 H;rw [HST1.out] at H;have g0:=H.swap.cells m;rw [arr_get (by have:=hnl.out;omega),HNY.out] at g0)
         | (refine Qh rfl _ _ rfl rfl H.swap rfl (by kernel_rfl) hfit ?_;clear H g0;intro w6 H;rw [HST2.out] at H;replace H:=H.swap))
        go_roundw
        case rel=>exact ⟨i+1,_,_,by go_num,by omega,hnl2,hol2,hny2,ho2,H⟩
        case measure=>simp [intOf];omega
       ·have hcode:codeF F i=0:=by unfold codeF;rw [if_neg hpos]
        have ho2:Hid (∀ s,o.getD s 0=if s<i+1 then codeF F s else 0):=jd (fun s=>by
         rw [ho.out s]
         by_cases h2:s<i
         ·rw [if_pos h2,if_pos (by omega)]
         ·rw [if_neg h2]
          by_cases h3:s=i
          ·subst h3;rw [if_pos (by omega),hcode]
          ·rw [if_neg (by omega)])
        have hny2:Hid (∀ j:Nat,1≤j→j≤15→ny.getD j 0=lowF F j+cntL (F.take (i+1)) j):=jd (fun j h1 h2=>by
         rw [cntL_take_succ hil,if_neg (by omega),hny.out j h1 h2];simp)
        generalize F.getD i 0=x at *
        clear hcode hny ho hil
        go_wp2_with fail
        go_roundw
        case rel=>exact ⟨i+1,ny,o,by go_num,by omega,hnl,hol,hny2,ho2,H⟩
        case measure=>simp [intOf];omega
      ·obtain rfl:i=n:=by omega
       have hI:¬ (i:Int)<(i:Int):=by omega
       have e3:Hid (o=R):=jd (by
        rw [← e2.out]
        refine List.ext_getElem (by rw [hol.out,codesF_length,hl.out]) fun s h1 h2=>?_
        have h3:=ho.out s
        rw [if_pos (by have:=hol.out;omega),List.getD_eq_getElem?_getD,List.getElem?_eq_getElem h1] at h3
        have h4:=codesF_get (l:=F) (s:=s) (by have:=hol.out;have:=hl.out;omega)
        rw [List.getD_eq_getElem?_getD,List.getElem?_eq_getElem h2] at h4
        exact h3.trans h4.symm)
       clear ho hny
       go_wp2_with fail
       go_ret2
       refine ⟨_,rfl,_,by rw [e1.out];rfl,?_⟩
       rw [← e3.out]
       exact ((((H.front 2 rfl).front 2 rfl).drop.drop))
  ·rw [if_neg hw] at hlw
   have e1:Hid (er=2):=jd (by rw [← her.out];unfold cerrF;rw [hZ.out,if_pos rfl,if_neg hw])
   obtain ⟨e2,e3⟩:=HNIL.out (by rw [e1.out];decide)
   subst e3
   have E2:=jd e2
   obtain ⟨lf,hlf⟩:∃ lf,Hid (leftF (Zf F)=lf):=⟨_,rfl⟩
   rw [hlf.out] at hlw HL
   have hlf0:lf<0:=by omega
   clear e2 hw hlw
   go_wp2_with (refine wpList_load16 rfl _ rfl rfl hcs H ?_)
   refine (HL.out _).mono ?_
   rintro e w3 ⟨_,rfl,rfl,H1⟩
   have H:=H.join H1
   clear H1
   go_wp2_with fail
   go_ret2
   refine ⟨_,rfl,_,by rw [e1.out];rfl,?_⟩
   rw [E2.out]
   exact H.bare.nil 3 1
section
variable {w0 w w':World} {ps:List Piece} {e:TypeId} {n:Nat} {xs:List Value}
variable {P:Program} {ops:Array Oper} {rest:List Oper} {o:Oper} {a:Act} {Q:Exit→Act→World→Prop}
theorem wpList_copy_slc(hgd:o.guard=none)(d s:Operand)(dT sT:TypeId)(ho:o.op=.call { callee:=.builtin .copy,args:=#[d,s],argTypes:=#[dT,sT] })
 (hu:P.underlying dT=some (.slice e)) (hsz:(P.info? e).map (·.size)=some 1) {g c:Nat} (H:Own w0 w (slc e 1 (.slice (some ⟨g,0,none⟩) n c) n xs::ps))
 (dp sp:Option Addr) (dLen dCap sLen sCap:Nat) (hd:a.eval d=.slice dp dLen dCap) (hs:a.eval s=.slice sp sLen sCap)
 (off m:Nat) (cs:List Value) (hm:cs.length=m) (hn:m=Nat.min sLen dLen) (hpos:0<m→dp=some ⟨g,off,none⟩∧∃ ad,sp=some ad∧∀ j v,cs[j]?=some v→w.cell? (ad.add j)=some v)
 (hfit:off+m≤n) (h1:∀ v∈cs,v.oneCell'=true)
 (h:∀ w',Own w0 w' (slc e 1 (.slice (some ⟨g,0,none⟩) n c) n (splice xs off cs)::ps)→wpList P ops Q rest (a.put o.dst (.int .i64 m)) w'):wpList P ops Q (o::rest) a w:=by
 subst hm
 by_cases h0:cs.length=0
 ·obtain rfl:cs=[]:=eJ h0
  refine wpList_copy_nothing hgd d s dT sT ho e hu hsz dp sp dLen dCap sLen sCap hd hs (by simpa using hn.symm) ?_
  exact h w (by simpa [splice] using H)
 ·obtain ⟨rfl,ad,rfl,hsrc⟩:=hpos (by omega)
  rcases H.slc_cases with ⟨hv,_⟩ | ⟨g',cap,cur,he,hl,c1,c2,c3,c4,h5⟩
  ·cases hv
  ·cases he
   refine wpList_copy_own hgd d s dT sT ho e hu hsz g off dLen dCap ad sLen sCap hd hs cur e h5.block.1 cs hn hsrc (by omega) h1 ?_
   refine h _ ((h5.setRow (cur':=(cur.toList.take off++(cs++cur.toList.drop (off+cs.length))).toArray)).slc_mk ?_ c1 c2 ?_ ?_)
   ·rw [length_splice _ _ _ (by omega)];exact hl
   ·simp only [List.size_toArray,lJ,List.length_take,List.length_drop,Array.length_toList];omega
   ·have hcl:cur.toList.length=cur.size:=by simp
    unfold splice
    rw [← c4,List.toList_toArray,Nat.mul_one,List.take_append,List.take_append,List.take_take,List.drop_take,List.length_take,Nat.min_eq_left (show off≤cur.toList.length by omega),List.take_take,
     Nat.min_eq_right (show off≤n by omega),List.take_of_length_le (l:=cs) (by omega),Nat.min_eq_left (show off≤n by omega),show n-off-cs.length=n-(off+cs.length) by omega]
end
theorem rep_splice(a:Int){k n m:Nat}(h:n+m≤k):splice (nums (List.replicate n a++List.replicate (k-n) 0)) n (nums (List.replicate m a))=nums (List.replicate (n+m) a++List.replicate (k-(n+m)) 0):=by
 unfold splice nums
 rw [List.map_append,List.map_append,List.take_left' (by simp),List.drop_append,List.drop_eq_nil_of_le (by simp),List.nil_append]
 simp only [List.map_replicate,List.length_replicate,List.drop_replicate]
 rw [← List.append_assoc,List.replicate_append_replicate,show k-n-(n+m-n)=k-(n+m) by omega]
set_option maxRecDepth 100000 in
set_option maxHeartbeats 1600000 in
theorem repeat_any{w:World}{v:Value}{a:Int}(k:Nat)(hr:Rd w 1 v 1 (nums [a]))(hk:k≤1000000) :
 Calls Tryz.prog 265 #[v,.int .i64 k] w (Ret fun r w'=>Own w w' [slc 3 1 r k (nums (List.replicate k a))]):=by
 have H:=Own.start w
 obtain ⟨b,o,c,rfl,hc1,hc2⟩:=hr.some (by simp [nums])
 have c0:=hr.cell (u:=.int .i64 a) (j:=0) rfl
 have HC0:=jd c0
 clear hr c0
 have hmul:=mul_any k hk
 have HM:=jd hmul
 clear hmul
 have hkI:(k:Int)≤9223372036854775807:=by omega
 have hkw:IntKind.u64.wrap (k:Int)=(k:Int):=IntWalk.u64_in _ ⟨by omega,by omega⟩
 have hkw2:IntKind.i64.wrap (k:Int)=(k:Int):=IntWalk.i64_in _ ⟨by omega,by omega⟩
 have hmk:∀ w:World,(Instr.makeSlice 34 (.int .i64 k) (.int .i64 k)).run Tryz.prog w=.ok (.slice (some ⟨w.heap.size,0,none⟩) k k) (w.alloc (.cells (madeCells #[.int .i64 0] k) 3)):=run_make_row' _ _ _ 8 Tryz.underlying34 intInfo rfl .i64 .i64 k (by omega) (by omega)
 go_enter Tryz.func265,Tryz.ntmps265
 go_wp2_with fail
 refine (HM.out _).mono ?_
 rintro e w2 ⟨_,rfl,rfl,H2⟩
 have H:=H.join H2
 clear H2
 go_upto_region 7 with (fail)
 have h1:=H.alloc (.cells (madeCells #[.int .i64 0] k) 3)
 have H:Own w (w2.alloc (.cells (madeCells #[.int .i64 0] k) 3)) [slc 3 1 (.slice (some ⟨w2.heap.size,0,none⟩) k k) k (nums (List.replicate 0 a++List.replicate (k-0) 0))]:=
  h1.slc_mk (by simp [nums]) (Nat.le_refl _) (by simp [maxLen];omega) (by simp [size_madeCells]) (by rw [toList_madeCells_one];simp [nums])
 have c0:=(show (w2.alloc (.cells (madeCells #[.int .i64 0] k) 3)).cell? ⟨b,o+0,none⟩=some (.int .i64 a) by rw [H.oldCell (World.block_lt_of_cell? _ _ HC0.out)];exact HC0.out)
 clear h1
 generalize w2.alloc (.cells (madeCells #[.int .i64 0] k) 3)=w3 at *
 obtain ⟨g,hg⟩:∃ g,w2.heap.size=g:=⟨_,rfl⟩
 rw [hg] at H ⊢
 clear hg hmk HM
 have hsrc:∀ j v,(nums (List.replicate (min k 1) a))[j]?=some v→w3.cell? ((⟨b,o,none⟩:Addr).add j)=some v:=fun j v hj=>by
  have hlt:=(gJ hj).1
  rw [Qg,List.length_replicate] at hlt
  have:j=0:=by omega
  subst this
  rw [Addr.add_lit,c0]
  have hk1:min k 1=1:=by omega
  rw [hk1] at hj
  exact hj
 obtain ⟨m1,hm1⟩:∃ m1,Hid (min k 1=m1):=⟨_,rfl⟩
 have hmin:m1=Nat.min 1 k:=by rw [← hm1.out];show min k 1=min 1 k;omega
 rw [hm1.out] at hsrc
 have HS:=jd hsrc
 have HMIN:=jd hmin
 have hm1k:m1≤k:=by rw [← hm1.out];omega
 have hm10:1≤k→1≤m1:=fun h=>by rw [← hm1.out];omega
 have HP:=jd hm10
 have HONE:Hid (∀ m:Nat,∀ v∈nums (List.replicate m a),v.oneCell'=true):=jd (fun m v hv=>by
  unfold nums at hv;obtain ⟨x,_,rfl⟩:=List.mem_map.1 hv;rfl)
 clear c0 hsrc hmin hm10
 go_wp2_with (refine wpList_copy_slc rfl _ _ _ _ rfl Tryz.underlying34 (by kernel_rfl) H _ _ _ _ _ _ rfl rfl 0 m1 (nums (List.replicate m1 a)) (by simp [nums]) HMIN.out (fun h=>⟨rfl,_,rfl,HS.out⟩) (by omega) (HONE.out m1) ?_;clear H;intro w4 H;rw [rep_splice a (by omega),Nat.zero_add] at H)
 go_loopw [8] (fun s8 wx=>∃ n:Nat,s8=.int .i64 n∧n≤k∧(1≤k→1≤n)∧Own w wx [slc 3 1 (.slice (some ⟨g,0,none⟩) k k) k (nums (List.replicate n a++List.replicate (k-n) 0))]) (fun s8 _=>k-(intOf s8).toNat)
 case atStart=>exact ⟨m1,by go_num,hm1k,HP.out,H⟩
 case round=>
  clear H
  obtain ⟨n,rfl,hn,hn1,H⟩:=hrel
  by_cases hlt:n<k
  ·have hI:(n:Int)<(k:Int):=by omega
   have hn1:=hn1 (by omega)
   obtain ⟨m,hm⟩:∃ m,Hid (min n (k-n)=m):=⟨_,rfl⟩
   have hm1:1≤m:=by rw [← hm.out];omega
   have hmk:n+m≤k:=by rw [← hm.out];omega
   have hmn:m≤n:=by rw [← hm.out];omega
   have hmin:m=Nat.min n (k-n):=hm.out.symm
   have HMIN2:=jd hmin
   have hsub:((k:Int)-(n:Int))=((k-n:Nat):Int):=by omega
   clear hmin
   have hcut:(n:Int)≤(k:Int):=by omega
   have hn0:n≠0:=by omega
   have hkn:k≠n:=by omega
   go_upto_region 9 with (fail)
   refine wp_region_pres (fun σ w1=>Own w w1 [slc 3 1 (.slice (some ⟨g,0,none⟩) k k) k (nums (List.replicate n a++List.replicate (k-n) 0))]) 7 [] [0] (by kernel_rfl) (by kernel_rfl) (by kernel_rfl) (by kernel_rfl) (fun _ _ d _ _ h=>by cases d <;> exact h) ⟨_,_,rfl,fun w=>(by first | rfl | (go_simp;rfl)),rfl⟩ H.drew ?_
   simp only [List.take_succ_cons,List.take_zero,List.drop_succ_cons,List.drop_zero]
   repeat
    first
    | (refine calm_value (v:=?_) (by decide) rfl (fun σ w1 hS=>?_) ?_
       rotate_left
       ·skip
        first | (go_simp;rfl) | rfl
       simp only [Act.put,putC])
    | (refine calm_skip (by decide) rfl ?_
       simp only [Act.put,putC])
   refine calm_nil ?_
   intro σ wd hσ HD
   clear H
   simp only [Jx,List.foldl_nil]
   have hsrc:∀ j v,(nums (List.replicate m a))[j]?=some v→wd.cell? ((⟨g,0,none⟩:Addr).add j)=some v:=fun j v hj=>by
    have hlt:=(gJ hj).1
    rw [Qg,List.length_replicate] at hlt
    rw [Addr.add_lit]
    refine HD.rd.cell ?_
    unfold nums at hj ⊢
    rw [List.map_append,List.getElem?_append_left (by simp;omega),← hj]
    simp only [List.map_replicate,List.getElem?_replicate]
    rw [if_pos (by omega),if_pos hlt]
   have HS2:=jd hsrc
   have hnm:IntKind.i64.wrap ((n:Int)+(m:Int))=((n+m:Nat):Int):=by rw [Int.natCast_add];exact IntWalk.i64_in _ ⟨by omega,by omega⟩
   clear hsrc
   go_wp2_with (refine wpList_copy_slc rfl _ _ _ _ rfl Tryz.underlying34 (by kernel_rfl) HD _ _ _ _ _ _ rfl rfl n m (nums (List.replicate m a)) (by simp [nums]) HMIN2.out (fun h=>⟨rfl,_,rfl,HS2.out⟩) (by omega) (HONE.out m) ?_;clear HD;intro w6 H;rw [rep_splice a (by omega)] at H)
   go_roundw
   case rel=>exact ⟨n+m,by go_num,by omega,fun _=>by omega,H⟩
   case measure=>simp [intOf];omega
  ·have hI:¬ (n:Int)<(k:Int):=by omega
   obtain rfl:n=k:=by omega
   rw [Nat.sub_self,List.replicate_zero,List.append_nil] at H
   go_wp2_with fail
   go_ret
   exact ⟨_,rfl,H⟩
set_option maxRecDepth 100000 in
theorem byt_is{s:ByteArray}{i:Nat}(h:i<s.size):s[i]=byt s i:=by
 unfold byt
 simp [Array.getD,h]
 rfl
set_option maxRecDepth 100000 in
set_option maxHeartbeats 1600000 in
theorem fkey_any{w0 w:World}{ps:List Piece}{g:Nat}{s:ByteArray}{m v:Value}{i:Nat}(H:Own w0 w (blk g (.cells #[.string s,m,v] 304)::ps))(hi:i+3≤s.size)(hs:s.size≤1000000) :
 Calls Tryz.prog 275 #[.pointer (some ⟨g,0,none⟩),.int .i64 i] w (Ret fun r w'=>r=k3 (key3 s i)∧Own w0 w' (blk g (.cells #[.string s,m,v] 304)::ps)):=by
 obtain ⟨j,hj⟩:∃ j,Hid (i+1=j):=⟨_,rfl⟩
 obtain ⟨k,hk⟩:∃ k,Hid (i+2=k):=⟨_,rfl⟩
 have h0:i<s.size:=by omega
 have h1:j<s.size:=by have:=hj.out;omega
 have h2:k<s.size:=by have:=hk.out;omega
 have hI1:(i:Int)+1=(j:Int):=by have:=hj.out;omega
 have hI2:(i:Int)+2=(k:Int):=by have:=hk.out;omega
 have hw1:IntKind.i64.wrap (j:Int)=(j:Int):=IntWalk.i64_in _ ⟨by omega,by omega⟩
 have hw2:IntKind.i64.wrap (k:Int)=(k:Int):=IntWalk.i64_in _ ⟨by omega,by omega⟩
 have e0:=byt_is h0
 have e1:=byt_is h1
 have e2:=byt_is h2
 have hk3:Hid (k3 (key3 s i)=.agg #[.int .u8 (byt s i).toNat,.int .u8 (byt s j).toNat,.int .u8 (byt s k).toNat]):=jd (by rw [← hj.out,← hk.out];rfl)
 clear hi
 go_enter Tryz.func275,Tryz.ntmps275
 go_upto_region 1 with (fail)
 have H1:=H.alloc (.cells #[.int .u8 0,.int .u8 0,.int .u8 0] 393)
 clear H
 generalize hc:w.heap.size=c at *
 generalize w.alloc (.cells #[.int .u8 0,.int .u8 0,.int .u8 0] 393)=wa at *
 refine Qa (fun w1=>Own w0 w1 (blk c (.cells #[.int .u8 0,.int .u8 0,.int .u8 0] 393)::blk g (.cells #[.string s,m,v] 304)::ps)) 21 (by kernel_rfl) (by kernel_rfl) H1.drew ?_
 simp only [List.take_succ_cons,List.take_zero,List.drop_succ_cons,List.drop_zero]
 repeat
  first
  | (refine calm_value (v:=?_) (by decide) rfl (fun σ w1 hS=>?_) ?_
     rotate_left
     ·have c0:=hS.swap.cells
      first | (go_simp;rfl) | rfl
     simp only [Act.put,putC])
  | (refine calm_skip (by decide) rfl ?_
     simp only [Act.put,putC])
 refine calm_nil ?_
 intro wd HD
 clear H1
 go_wp2_with (first
  | (refine Qe rfl _ _ rfl rfl HD rfl (by kernel_rfl) (by simp) (by simp;exact ⟨rfl,rfl,rfl⟩) rfl ?_;clear HD;intro w5 H;have c0:=H.cells))
 refine bodyPost_ret (results_cell_row rfl _ _ c _ _ _ _ rfl H.block.1 Tryz.underlying393 rfl (by kernel_rfl)) rfl ?_
 exact ⟨_,rfl,by rw [hk3.out];rfl,H.drop⟩
set_option maxRecDepth 100000 in
set_option maxHeartbeats 1600000 in
theorem fsame_any{w0 w:World}{ps:List Piece}{g:Nat}{s:ByteArray}{m v:Value}{x y:Nat}(H:Own w0 w (blk g (.cells #[.string s,m,v] 304)::ps))(hxy:x≤y)(hy:y≤s.size)(hs:s.size≤1000000) :
 Calls Tryz.prog 276 #[.pointer (some ⟨g,0,none⟩),.int .i64 x,.int .i64 y] w (Ret fun r w'=>r=.int .i64 (comm s x y)∧Own w0 w' (blk g (.cells #[.string s,m,v] 304)::ps)):=by
 go_enter Tryz.func276,Tryz.ntmps276
 go_wp2_with fail
 go_loopw [7] (fun s7 wr=>∃ n:Nat,s7=.int .i64 n∧n≤258∧Hid (∀ j,j<n→y+j<s.size∧byt s (x+j)=byt s (y+j))∧Own w0 wr (blk g (.cells #[.string s,m,v] 304)::ps)) (fun s7 _=>258-(intOf s7).toNat)
 case atStart=>exact ⟨0,by simp,by omega,jd (fun j hj=>by omega),H⟩
 case round=>
  clear H
  obtain ⟨n,rfl,hn,hall,H⟩:=hrel
  by_cases h1:n<258
  ·have h1I:(n:Int)<258:=by omega
   obtain ⟨q,hq⟩:∃ q,Hid (y+n=q):=⟨_,rfl⟩
   obtain ⟨p,hp⟩:∃ p,Hid (x+n=p):=⟨_,rfl⟩
   have hqI:(y:Int)+(n:Int)=(q:Int):=by have:=hq.out;omega
   have hpI:(x:Int)+(n:Int)=(p:Int):=by have:=hp.out;omega
   have hqm:q≤2000000:=by have:=hq.out;omega
   have hpq:p≤q:=by have:=hq.out;have:=hp.out;omega
   have hw1:IntKind.i64.wrap (q:Int)=(q:Int):=IntWalk.i64_in _ ⟨by omega,by omega⟩
   have hw2:IntKind.i64.wrap (p:Int)=(p:Int):=IntWalk.i64_in _ ⟨by omega,by omega⟩
   by_cases h2:q<s.size
   ·have h2I:(q:Int)<(s.size:Int):=by omega
    have h3:p<s.size:=by omega
    have e0:=byt_is h2
    have e1:=byt_is h3
    obtain ⟨t,ht⟩:∃ t,Hid (decide (byt s p=byt s q)=t):=⟨_,rfl⟩
    have htI:(((byt s p).toNat:Int)==((byt s q).toNat:Int))=t:=by
     rw [← ht.out]
     by_cases hb:byt s p=byt s q
     ·simp [hb]
     ·have:(byt s p).toNat≠(byt s q).toNat:=fun h=>hb (UInt8.toNat_inj.1 h)
      simp [hb]
      omega
    go_upto_region 2 with (fail)
    refine Qa (fun w1=>Own w0 w1 (blk g (.cells #[.string s,m,v] 304)::ps)) 32 (by kernel_rfl) (by kernel_rfl) H.drew ?_
    simp only [List.take_succ_cons,List.take_zero,List.drop_succ_cons,List.drop_zero]
    repeat
     first
     | (refine calm_value (v:=?_) (by decide) rfl (fun σ w1 hS=>?_) ?_
        rotate_left
        ·have c0:=hS.cells
         first | (go_simp;rfl) | rfl
        simp only [Act.put,putC])
     | (refine calm_skip (by decide) rfl ?_
        simp only [Act.put,putC])
    refine calm_nil ?_
    intro wd HD
    clear H
    cases t with
    | true=>
     have hb:byt s p=byt s q:=by simpa using ht.out
     have hall':Hid (∀ j,j<n+1→y+j<s.size∧byt s (x+j)=byt s (y+j)):=jd (by
      intro j hj
      by_cases hjn:j=n
      ·subst hjn
       rw [hq.out,hp.out]
       exact ⟨h2,hb⟩
      ·exact hall.out j (by omega))
     clear hb ht htI
     go_wp2
     go_roundw
     case rel=>exact ⟨n+1,by go_num,by omega,hall',HD⟩
     case measure=>simp [intOf];omega
    | false=>
     have hfin:Hid (comm s x y=n):=jd (comm_is (by omega) hall.out (.inr (by rw [hq.out,hp.out];intro h;have:=ht.out;simp at this;exact this h.2)))
     clear ht htI
     go_wp2
     go_ret
     exact ⟨_,rfl,by rw [hfin.out];rfl,HD⟩
   ·have h2I:¬ (q:Int)<(s.size:Int):=by omega
    have hfin:Hid (comm s x y=n):=jd (comm_is (by omega) hall.out (.inr (by rw [hq.out];intro h;exact h2 h.1)))
    go_upto_region 2 with (fail)
    refine Qa (fun w1=>Own w0 w1 (blk g (.cells #[.string s,m,v] 304)::ps)) 32 (by kernel_rfl) (by kernel_rfl) H.drew ?_
    simp only [List.take_succ_cons,List.take_zero,List.drop_succ_cons,List.drop_zero]
    repeat
     first
     | (refine calm_value (v:=?_) (by decide) rfl (fun σ w1 hS=>?_) ?_
        rotate_left
        ·have c0:=hS.cells
         first | (go_simp;rfl) | rfl
        simp only [Act.put,putC])
     | (refine calm_skip (by decide) rfl ?_
        simp only [Act.put,putC])
    refine calm_nil ?_
    intro wd HD
    clear H
    go_wp2
    go_ret
    exact ⟨_,rfl,by rw [hfin.out];rfl,HD⟩
  ·have h1I:¬ (n:Int)<258:=by omega
   have hfin:Hid (comm s x y=n):=jd (comm_is (by omega) hall.out (.inl (by omega)))
   go_upto_region 2 with (fail)
   refine Qa (fun w1=>Own w0 w1 (blk g (.cells #[.string s,m,v] 304)::ps)) 32 (by kernel_rfl) (by kernel_rfl) H.drew ?_
   simp only [List.take_succ_cons,List.take_zero,List.drop_succ_cons,List.drop_zero]
   repeat
    first
    | (refine calm_value (v:=?_) (by decide) rfl (fun σ w1 hS=>?_) ?_
       rotate_left
       ·have c0:=hS.cells
        first | (go_simp;rfl) | rfl
       simp only [Act.put,putC])
    | (refine calm_skip (by decide) rfl ?_
       simp only [Act.put,putC])
   refine calm_nil ?_
   intro wd HD
   clear H
   go_wp2
   go_ret
   exact ⟨_,rfl,by rw [hfin.out];rfl,HD⟩
end Go.Proofs.YthekdeikodppkaaGreatDoor
