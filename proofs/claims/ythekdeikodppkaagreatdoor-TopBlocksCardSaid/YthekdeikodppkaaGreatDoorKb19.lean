/-
  Texts of this claim, one behind the other: flate; flate; flate; flate; Functions known of their own accord; mac.Equal of equal texts.
-/
import Derived.Test.YthekdeikodppkaaGreatDoorKb18
import Derived.KernelRfl
set_option linter.unusedVariables false
namespace Go.Proofs.YthekdeikodppkaaGreatDoor
open Go.RowKit
def rcell(r:Run):List Value:=[.int .i64 r.sym,.int .i64 r.n,.int .i64 r.v]
theorem rcell_length(r:Run):(rcell r).length=3:=rfl
theorem runInfo:(Tryz.prog.info? 390).map (fun i=>(i.zero,i.size,i.bytes))=some (some (.agg #[.int .i64 0,.int .i64 0,.int .i64 0]),3,24):=by kernel_rfl
theorem rd_tailK{w:World}{b o cap n k:Nat}{F:List Int}(h:Rd w 1 (.slice (some ⟨b,o,none⟩) n cap) n (nums F))(hk:k≤n) :
 Rd w 1 (.slice (if cap=k then some ⟨b,o,none⟩ else some ⟨b,o+k,none⟩) (n-k) (cap-k)) (n-k) (nums (F.drop k)):=by
 have h1:=h.tail (k:=k) hk
 have e:(nums F).drop (k*1)=nums (F.drop k):=by rw [Nat.mul_one];simp [nums,List.map_drop]
 rw [e] at h1
 by_cases hc:cap=k
 ·subst hc
  obtain ⟨hl,a,c,e,hle,_⟩:=h
  cases e
  have hn:n=cap:=by omega
  subst hn
  rw [if_pos rfl,Nat.sub_self]
  have hx:F.drop n=[]:=List.drop_eq_nil_of_le (by rw [Qg] at hl;omega)
  rw [hx]
  exact ⟨by simp [nums],_,_,rfl,by omega,by simp [maxLen],by simp,fun ad _ j u hu=>by simp [nums] at hu⟩
 ·rw [if_neg hc]
  have e2:(⟨b,o,none⟩:Addr).add (k*1)=⟨b,o+k,none⟩:=by rw [Addr.add_lit,Nat.mul_one]
  rw [e2] at h1
  exact h1
theorem sameK_le(x:Int):∀ t,sameK x t≤t.length
 | []=>by simp [sameK]
 | y::t=>by
  rw [sameK]
  have:=sameK_le x t
  split <;> simp <;> omega
theorem sameK_get{x:Int}:∀ (t:List Int) (j:Nat),j<sameK x t→t.getD j 0=x
 | [],j,h=>by simp [sameK] at h
 | y::t,j,h=>by
  rw [sameK] at h
  split at h
  ·next he=>
   cases j with
   | zero=>simpa using he
   | succ j=>simpa using sameK_get t j (by omega)
  ·omega
theorem sameK_end{x:Int}:∀ (t:List Int),sameK x t<t.length→t.getD (sameK x t) 0≠x
 | [],h=>by simp at h
 | y::t,h=>by
  rw [sameK] at h ⊢
  split
  ·next he=>
   rw [if_pos he] at h
   have:=sameK_end t (by simpa using h)
   simpa using this
  ·next he=>simpa using he
theorem runs_fuel:∀ (f g:Nat) (X:List Int),X.length≤f→X.length≤g→runsN f X=runsN g X:=by
 intro f
 induction f with
 | zero=>
  intro g X hf hg
  have:X=[]:=eJ (by omega)
  subst this
  cases g <;> rfl
 | succ f ih=>
  intro g X hf hg
  cases X with
  | nil=>cases g <;> rfl
  | cons x t=>
   obtain ⟨g,rfl⟩:∃ g',g=g'+1:=⟨g-1,by simp at hg;omega⟩
   simp only [List.length_cons] at hf hg
   have hd:∀ j,1≤j→runsN f ((x::t).drop j)=runsN g ((x::t).drop j):=fun j hj=>ih g _ (by rw [List.length_drop,List.length_cons];omega) (by rw [List.length_drop,List.length_cons];omega)
   rw [runsN,runsN,hd _ (by omega),hd _ (by omega),hd _ (by omega),ih g t (by omega) (by omega)]
theorem runs_rest{f n k:Nat}{X:List Int}(h:X.length=n)(hk:1≤k)(hf:n≤f+1):runsN f (X.drop k)=runsN (n-k) (X.drop k):=
 runs_fuel _ _ _ (by rw [List.length_drop];omega) (by rw [List.length_drop];omega)
section
variable {w0 w:World} {ps:List Piece} {e:TypeId} {size n:Nat} {v:Value} {xs:List Value} {P:Program} {t:TypeId} {z:Value} {bytes:Nat}
theorem wpList_append_many{ops:Array Oper}{rest:List Oper}{o:Oper}{a:Act}{Q:Exit→Act→World→Prop}(hgd:o.guard=none)(s x:Operand)
 (ho:o.op=.call { callee:=.builtin .append,args:=#[s,x],argTypes:=#[t,t] })
 (ht:P.underlying t=some (.slice e)) (hinfo:(P.info? e).map (fun i=>(i.zero,i.size,i.bytes))=some (some z,size,bytes)) (hzs:z.cells.size=size) (hsz:0<size)
 (hs:a.eval s=v) (H:Own w0 w (slc e size v n xs::ps))
 {news:List Value} {m c:Nat} (hx:a.eval x=.slice (some ⟨w.heap.size,0,none⟩) m c) (hc:c=m) (hm:m≤1000) (hl:news.length=m*size) (h1:∀ u∈news,u.oneCell'=true)
 (h63:n+m≤9223372036854775807) (hbytes:(n+m)*bytes≤140737488355328)
 (h:∀ v' w',Own w0 w' (slc e size v' (n+m) (xs++news)::ps)→wpList P ops Q rest (a.put o.dst v') w'):wpList P ops Q (o::rest) a (w.alloc (.cells news.toArray e)):=by
 subst hc
 refine Qn hgd s x ho ht hinfo hzs hsz hs (H.alloc' _) (m:=c) (news:=news) ?_ h1 h63 hbytes h
 rw [hx]
 exact ((H.made news e size c hl (by simp [maxLen];omega)).rd)
end
set_option maxRecDepth 100000 in
set_option maxHeartbeats 12800000 in
theorem runs_any{w:World}{v:Value}{m:Nat}{L:List Int}(hr:Rd w 1 v m (nums L))(hm:m≤1000) :
 Calls Tryz.prog 273 #[v] w (Ret fun r w'=>Own w w' [slc 390 3 r (runsF L).length (rows rcell (runsF L))]):=by
 have H:=(Own.start w).nil 390 3
 have hLn:=rd_len hr
 obtain ⟨R,hR⟩:∃ R,Hid (runsF L=R):=⟨_,jd rfl⟩
 rw [hR.out]
 have hR0:Hid ([]++runsN m L=R):=jd (by rw [List.nil_append,← hR.out,← hLn];rfl)
 have HR:=jd hr
 have HLN:=jd hLn
 obtain ⟨a0,c0,rfl,-⟩:=hr.shape
 clear hr hLn hR
 go_enter Tryz.func273,Tryz.ntmps273
 go_wp2_with fail
 go_loopw [0,3] (fun s0 s3 wx=>∃ (X:List Int) (n q:Nat) (rs:List Run),Hid (Rd w 1 s0 n (nums X))∧Hid (X.length=n)∧n≤1000∧q+2*n≤2000∧Hid (rs++runsN n X=R)∧Hid (rs.length=q)∧Own w wx [slc 390 3 s3 q (rows rcell rs)]) (fun s0 _ _=>Jr s0)
 case atStart=>exact ⟨L,m,0,[],HR,HLN,hm,by omega,hR0,jd rfl,H⟩
 case round=>
  clear H HR HLN hR0
  obtain ⟨X,n,q,rs,HU,hXl,hn,hq,hRs,hql,H⟩:=hrel
  obtain ⟨sa,sc,rfl,hsc1,hsc2⟩:=HU.out.shape
  obtain ⟨ra,rc,rfl,hrc1,hrc2⟩:=H.rd.shape
  by_cases h0:0<n
  ·have h0I:(0:Int)<(n:Int):=by omega
   obtain ⟨x,t,rfl⟩:∃ x t,X=x::t:=by
    cases X with
    | nil=>have:=hXl.out;simp at this;omega
    | cons x t=>exact ⟨x,t,rfl⟩
   have htl:t.length=n-1:=by have:=hXl.out;simp at this;omega
   obtain ⟨b,o,_,he,-⟩:=HU.out.some (by rw [Qg,hXl.out];exact h0)
   cases he
   obtain ⟨K,hK⟩:∃ K,Hid (sameK x t+1=K):=⟨_,jd rfl⟩
   have hKn:K≤n:=by rw [← hK.out];have:=sameK_le x t;omega
   have hK1:1≤K:=by rw [← hK.out];omega
   have g:∀ (w':World) (ps':List Piece),Own w w' ps'→∀ j,j<n→w'.cell? ⟨b,o+j,none⟩=some (.int .i64 ((x::t).getD j 0)):=fun w' ps' h j hj=>by
    have h2:=rd_at HU.out h hj
    obtain ⟨_,_,e,h3⟩:=h2
    cases e
    exact h3
   have hg0:Hid (∀ j,j<K→(x::t).getD j 0=x):=jd (fun j hj=>by
    cases j with
    | zero=>rfl
    | succ j=>simpa using sameK_get t j (by rw [← hK.out] at hj;omega))
   have hgK:Hid (K<n→(x::t).getD K 0≠x):=jd (fun h=>by
    rw [← hK.out] at h ⊢
    have:=sameK_end (x:=x) t (by omega)
    simpa using this)
   have G:=jd g
   clear g htl
   go_wp2_with fail
   go_loopw [4] (fun s4 wx=>∃ k:Nat,s4=.int .i64 k∧1≤k∧k≤K∧Own w wx [slc 390 3 (.slice ra q rc) q (rows rcell rs)]) (fun s4 _=>1000-(intOf s4).toNat)
   case atStart=>exact ⟨1,by go_num,by omega,hK1,H⟩
   case round=>
    clear H
    obtain ⟨k,rfl,hk1,hkK,H⟩:=hrel
    have hcase:k<K∨k=K∧K<n∨k=K∧Hid (K=n):=by
     rcases Nat.lt_or_ge k K with h | h
     ·exact .inl h
     ·rcases Nat.lt_or_ge K n with h2 | h2
      ·exact .inr (.inl ⟨by omega,h2⟩)
      ·exact .inr (.inr ⟨by omega,jd (by omega)⟩)
    rcases hcase with hlt | ⟨rfl,hlt⟩ | ⟨rfl,hlt⟩
    ·have hkI:(k:Int)<(n:Int):=by omega
     have hkn:k<n:=by omega
     have G2:=jd (fun w1 (h:Own w w1 [slc 390 3 (.slice ra q rc) q (rows rcell rs)])=>And.intro (G.out w1 _ h 0 h0) (G.out w1 _ h k hkn))
     rw [hg0.out 0 (by omega),hg0.out k hlt,Nat.add_zero] at G2
     go_upto_region 4 with (fail)
     refine Qa (fun w1=>Own w w1 [slc 390 3 (.slice ra q rc) q (rows rcell rs)]) 13 (by kernel_rfl) (by kernel_rfl) H.drew ?_
     simp only [List.take_succ_cons,List.take_zero,List.drop_succ_cons,List.drop_zero]
     repeat
      first
      | (refine calm_value (v:=?_) (by decide) rfl (fun σ w1 hS=>?_) ?_
         rotate_left
         ·obtain ⟨c1,c2⟩:=G2.out _ hS
          first | (go_simp;rfl) | rfl
         simp only [Act.put,putC])
      | (refine calm_skip (by decide) rfl ?_
         simp only [Act.put,putC])
     refine calm_nil ?_
     intro wd HD
     clear H
     go_wp2_with fail
     go_roundw
     case rel=>exact ⟨k+1,by go_num,by omega,by omega,HD⟩
     case measure=>simp [intOf];omega
    case' inr.inl=>
     have hkI:(k:Int)<(n:Int):=by omega
     obtain ⟨y,hy⟩:∃ y,Hid ((x::t).getD k 0=y):=⟨_,jd rfl⟩
     have hyx:(y==x)=false:=by have:=hgK.out hlt;rw [hy.out] at this;simpa using this
     have G2:=jd (fun w1 (h:Own w w1 [slc 390 3 (.slice ra q rc) q (rows rcell rs)])=>And.intro (G.out w1 _ h 0 h0) (G.out w1 _ h k hlt))
     rw [hg0.out 0 (by omega),hy.out,Nat.add_zero] at G2
     go_upto_region 4 with (fail)
     refine Qa (fun w1=>Own w w1 [slc 390 3 (.slice ra q rc) q (rows rcell rs)]) 13 (by kernel_rfl) (by kernel_rfl) H.drew ?_
     simp only [List.take_succ_cons,List.take_zero,List.drop_succ_cons,List.drop_zero]
     repeat
      first
      | (refine calm_value (v:=?_) (by decide) rfl (fun σ w1 hS=>?_) ?_
         rotate_left
         ·obtain ⟨c1,c2⟩:=G2.out _ hS
          first | (go_simp;rfl) | rfl
         simp only [Act.put,putC])
      | (refine calm_skip (by decide) rfl ?_
         simp only [Act.put,putC])
     refine calm_nil ?_
     intro wd HD
     clear H hyx hy G2
    case' inr.inr=>
     have hkI:¬ (k:Int)<(n:Int):=by have:=hlt.out;omega
     go_upto_region 4 with (fail)
     refine Qa (fun w1=>Own w w1 [slc 390 3 (.slice ra q rc) q (rows rcell rs)]) 13 (by kernel_rfl) (by kernel_rfl) H.drew ?_
     simp only [List.take_succ_cons,List.take_zero,List.drop_succ_cons,List.drop_zero]
     repeat
      first
      | (refine calm_value (v:=?_) (by decide) rfl (fun σ w1 hS=>?_) ?_
         rotate_left
         ·skip
          first | (go_simp;rfl) | rfl
         simp only [Act.put,putC])
      | (refine calm_skip (by decide) rfl ?_
         simp only [Act.put,putC])
     refine calm_nil ?_
     intro wd HD
     clear H
    all_goals
     clear hkI hlt
     obtain ⟨n,rfl⟩:∃ n',n=n'+1:=⟨n-1,by omega⟩
     have H:=HD
     clear HD
     have c1:=G.out wd _ H 0 (by omega)
     rw [hg0.out 0 (by omega),Nat.add_zero] at c1
     have hRs2:=hRs.out
     rw [runsN,hK.out] at hRs2
     have hrest:=fun j (hj:1≤j)=>runs_rest (f:=n) (k:=j) hXl.out hj (Nat.le_refl _)
     have hcI:((n+1:Nat):Int)≤(sc:Int):=by omega
     have hkn2:(k:Int)≤((n+1:Nat):Int):=by omega
     clear G hg0 hgK hK hRs
     by_cases hA:x=0∧10<k
     ·rw [if_pos hA,hrest _ (by omega)] at hRs2
      obtain ⟨rfl,hk10⟩:=hA
      have hk10I:(10:Int)<(k:Int):=by omega
      obtain ⟨kk,hkk⟩:∃ kk,Hid (min k 138=kk):=⟨_,jd rfl⟩
      rw [hkk.out] at hRs2
      have hkk1:11≤kk:=by rw [← hkk.out];omega
      have hkk2:kk≤n+1:=by rw [← hkk.out];omega
      have hkc:(kk:Int)≤(sc:Int):=by omega
      have hkn3:(kk:Int)≤((n+1:Nat):Int):=by omega
      have hkb:kk≤1000:=by omega
      have hw:IntKind.i64.wrap ((kk:Int)-11)=(kk:Int)-11:=IntWalk.i64_in _ ⟨by omega,by omega⟩
      go_upto_region 9 with (fail)
      go_cut [4,40,41] (fun s4 _ _ wx=>wx=wd∧s4=.int .i64 kk)
      case first=>
       have:=hkk.out
       go_wp2
       all_goals go_meet
       all_goals exact ⟨rfl,val_int (by omega)⟩
      case rest=>
      obtain ⟨rfl,rfl⟩:=hcut
      have hrow:rows rcell rs++[.int .i64 (18),.int .i64 (7),.int .i64 ((kk:Int)-11)]=rows rcell (rs++[(⟨18,7,(kk:Int)-11⟩:Run)]):=by rw [Ze];rfl
      have hfin:(rs++[(⟨18,7,(kk:Int)-11⟩:Run)])++runsN (n+1-(kk)) ((0::t).drop (kk))=R:=by rw [← hRs2];exact List.append_assoc _ _ _
      have hql2:Hid ((rs++[(⟨18,7,(kk:Int)-11⟩:Run)]).length=q+1):=jd (by rw [lJ,hql.out];rfl)
      have htail:=rd_tailK HU.out (k:=kk) (by omega)
      have HROW:=jd hrow
      have HFIN:=jd hfin
      have HTAIL:=jd htail
      have hXl2:Hid (((0::t).drop (kk)).length=n+1-(kk)):=jd (by rw [List.length_drop,hXl.out])
      clear hrow hfin htail hRs2
      go_wp2_with (at_builtin;refine Qf rfl _ _ rfl Tryz.underlying387 runInfo rfl (by decide) rfl H (news:=[.int .i64 (18),.int .i64 (7),.int .i64 ((kk:Int)-11)]) rfl rfl rfl (by simp [Value.oneCell']) (by omega) (by omega) ?_;clear H c1;intro v' w' H;rw [HROW.out] at H;obtain ⟨ra2,rc2,rfl,-⟩:=H.rd.shape)
      go_roundw
      case rel=>exact ⟨_,_,_,_,HTAIL,hXl2,by omega,by omega,HFIN,hql2,H⟩
      case measure=>simp [Jr] <;> omega
     ·rw [if_neg hA] at hRs2
      by_cases hB:x=0∧2<k
      ·rw [if_pos hB,hrest _ (by omega)] at hRs2
       obtain ⟨rfl,hk2⟩:=hB
       have hk10I:¬ (10:Int)<(k:Int):=by omega
       have hk2I:(2:Int)<(k:Int):=by omega
       have hw:IntKind.i64.wrap ((k:Int)-3)=(k:Int)-3:=IntWalk.i64_in _ ⟨by omega,by omega⟩
       clear hA
       have hrow:rows rcell rs++[.int .i64 (17),.int .i64 (3),.int .i64 ((k:Int)-3)]=rows rcell (rs++[(⟨17,3,(k:Int)-3⟩:Run)]):=by rw [Ze];rfl
       have hfin:(rs++[(⟨17,3,(k:Int)-3⟩:Run)])++runsN (n+1-(k)) ((0::t).drop (k))=R:=by rw [← hRs2];exact List.append_assoc _ _ _
       have hql2:Hid ((rs++[(⟨17,3,(k:Int)-3⟩:Run)]).length=q+1):=jd (by rw [lJ,hql.out];rfl)
       have htail:=rd_tailK HU.out (k:=k) (by omega)
       have HROW:=jd hrow
       have HFIN:=jd hfin
       have HTAIL:=jd htail
       have hXl2:Hid (((0::t).drop (k)).length=n+1-(k)):=jd (by rw [List.length_drop,hXl.out])
       clear hrow hfin htail hRs2
       go_wp2_with (at_builtin;refine Qf rfl _ _ rfl Tryz.underlying387 runInfo rfl (by decide) rfl H (news:=[.int .i64 (17),.int .i64 (3),.int .i64 ((k:Int)-3)]) rfl rfl rfl (by simp [Value.oneCell']) (by omega) (by omega) ?_;clear H c1;intro v' w' H;rw [HROW.out] at H;obtain ⟨ra2,rc2,rfl,-⟩:=H.rd.shape)
       go_roundw
       case rel=>exact ⟨_,_,_,_,HTAIL,hXl2,by omega,by omega,HFIN,hql2,H⟩
       case measure=>simp [Jr] <;> omega
      ·rw [if_neg hB] at hRs2
       by_cases hC:3<k
       ·rw [if_pos hC,hrest _ (by omega)] at hRs2
        have hx0:(x==0)=false:=by simp;omega
        have hCI:(3:Int)<(k:Int):=by omega
        clear hA hB
        obtain ⟨kk,hkk⟩:∃ kk,Hid (min k 7=kk):=⟨_,jd rfl⟩
        rw [hkk.out] at hRs2
        have hkk1:4≤kk:=by rw [← hkk.out];omega
        have hkk2:kk≤n+1:=by rw [← hkk.out];omega
        have hkc:(kk:Int)≤(sc:Int):=by omega
        have hkn3:(kk:Int)≤((n+1:Nat):Int):=by omega
        have hkb:kk≤1000:=by omega
        have hw:IntKind.i64.wrap ((kk:Int)-4)=(kk:Int)-4:=IntWalk.i64_in _ ⟨by omega,by omega⟩
        go_upto_region 14 with (fail)
        go_cut [4,66,67] (fun s4 _ _ wx=>wx=wd∧s4=.int .i64 kk)
        case first=>
         have:=hkk.out
         go_wp2
         all_goals go_meet
         all_goals exact ⟨rfl,val_int (by omega)⟩
        case rest=>
        obtain ⟨rfl,rfl⟩:=hcut
        have hrow:rows rcell rs++[.int .i64 (x),.int .i64 (0),.int .i64 (0),.int .i64 (16),.int .i64 (2),.int .i64 ((kk:Int)-4)]=rows rcell (rs++[(⟨x,0,0⟩:Run),(⟨16,2,(kk:Int)-4⟩:Run)]):=by rw [Ze];rfl
        have hfin:(rs++[(⟨x,0,0⟩:Run),(⟨16,2,(kk:Int)-4⟩:Run)])++runsN (n+1-(kk)) ((x::t).drop (kk))=R:=by rw [← hRs2];exact List.append_assoc _ _ _
        have hql2:Hid ((rs++[(⟨x,0,0⟩:Run),(⟨16,2,(kk:Int)-4⟩:Run)]).length=q+2):=jd (by rw [lJ,hql.out];rfl)
        have htail:=rd_tailK HU.out (k:=kk) (by omega)
        have HROW:=jd hrow
        have HFIN:=jd hfin
        have HTAIL:=jd htail
        have hXl2:Hid (((x::t).drop (kk)).length=n+1-(kk)):=jd (by rw [List.length_drop,hXl.out])
        clear hrow hfin htail hRs2
        go_wp2_with (at_builtin;refine wpList_append_many rfl _ _ rfl Tryz.underlying387 runInfo rfl (by decide) rfl H (news:=[.int .i64 (x),.int .i64 (0),.int .i64 (0),.int .i64 (16),.int .i64 (2),.int .i64 ((kk:Int)-4)]) rfl rfl (Nat.le_of_ble_eq_true rfl) rfl (by simp [Value.oneCell']) (by omega) (by omega) ?_;clear H c1;intro v' w' H;rw [HROW.out] at H;obtain ⟨ra2,rc2,rfl,-⟩:=H.rd.shape)
        go_roundw
        case rel=>exact ⟨_,_,_,_,HTAIL,hXl2,by omega,by omega,HFIN,hql2,H⟩
        case measure=>simp [Jr] <;> omega
       ·rw [if_neg hC] at hRs2
        rw [show runsN n t=runsN n ((x::t).drop 1) from rfl,hrest 1 (by omega)] at hRs2
        have hCI:¬ (3:Int)<(k:Int):=by omega
        have h10:¬ (10:Int)<(k:Int):=by omega
        by_cases hx:x=0
        ·subst hx
         have h2:¬ (2:Int)<(k:Int):=by omega
         clear hA hB
         have hrow:rows rcell rs++[.int .i64 (0),.int .i64 (0),.int .i64 (0)]=rows rcell (rs++[(⟨0,0,0⟩:Run)]):=by rw [Ze];rfl
         have hfin:(rs++[(⟨0,0,0⟩:Run)])++runsN (n+1-(1)) ((0::t).drop (1))=R:=by rw [← hRs2];exact List.append_assoc _ _ _
         have hql2:Hid ((rs++[(⟨0,0,0⟩:Run)]).length=q+1):=jd (by rw [lJ,hql.out];rfl)
         have htail:=rd_tailK HU.out (k:=1) (by omega)
         have HROW:=jd hrow
         have HFIN:=jd hfin
         have HTAIL:=jd htail
         have hXl2:Hid (((0::t).drop (1)).length=n+1-(1)):=jd (by rw [List.length_drop,hXl.out])
         clear hrow hfin htail hRs2
         go_wp2_with (at_builtin;refine Qf rfl _ _ rfl Tryz.underlying387 runInfo rfl (by decide) rfl H (news:=[.int .i64 (0),.int .i64 (0),.int .i64 (0)]) rfl rfl rfl (by simp [Value.oneCell']) (by omega) (by omega) ?_;clear H c1;intro v' w' H;rw [HROW.out] at H;obtain ⟨ra2,rc2,rfl,-⟩:=H.rd.shape)
         go_roundw
         case rel=>exact ⟨_,_,_,_,HTAIL,hXl2,by omega,by omega,HFIN,hql2,H⟩
         case measure=>simp [Jr] <;> omega
        ·have hxb:(x==0)=false:=by simpa using hx
         clear hA hB
         have hrow:rows rcell rs++[.int .i64 (x),.int .i64 (0),.int .i64 (0)]=rows rcell (rs++[(⟨x,0,0⟩:Run)]):=by rw [Ze];rfl
         have hfin:(rs++[(⟨x,0,0⟩:Run)])++runsN (n+1-(1)) ((x::t).drop (1))=R:=by rw [← hRs2];exact List.append_assoc _ _ _
         have hql2:Hid ((rs++[(⟨x,0,0⟩:Run)]).length=q+1):=jd (by rw [lJ,hql.out];rfl)
         have htail:=rd_tailK HU.out (k:=1) (by omega)
         have HROW:=jd hrow
         have HFIN:=jd hfin
         have HTAIL:=jd htail
         have hXl2:Hid (((x::t).drop (1)).length=n+1-(1)):=jd (by rw [List.length_drop,hXl.out])
         clear hrow hfin htail hRs2
         go_wp2_with (at_builtin;refine Qf rfl _ _ rfl Tryz.underlying387 runInfo rfl (by decide) rfl H (news:=[.int .i64 (x),.int .i64 (0),.int .i64 (0)]) rfl rfl rfl (by simp [Value.oneCell']) (by omega) (by omega) ?_;clear H c1;intro v' w' H;rw [HROW.out] at H;obtain ⟨ra2,rc2,rfl,-⟩:=H.rd.shape)
         go_roundw
         case rel=>exact ⟨_,_,_,_,HTAIL,hXl2,by omega,by omega,HFIN,hql2,H⟩
         case measure=>simp [Jr] <;> omega
  ·have hn0:n=0:=by omega
   subst hn0
   have hRR:rs=R:=by
    rw [← hRs.out];simp [runsN]
   subst hRR
   have h0I:¬ (0:Int)<((0:Nat):Int):=by omega
   go_wp2_with fail
   go_ret
   exact ⟨_,rfl,by rw [hql.out];exact H⟩
theorem Own.trimmed{w0 w:World}{ps:List Piece}{g n c:Nat}{F:List Int}(least:Nat)(h:Own w0 w (slc 3 1 (.slice (some ⟨g,0,none⟩) n c) n (nums F)::ps))(hF:F.length=n) :
 Own w0 w (slc 3 1 (.slice (some ⟨g,0,none⟩) (trimF F least).length c) (trimF F least).length (nums (trimF F least))::ps):=by
 have hk:=trimK_le' F least n
 have h1:=h.slc_take hk
 have e:(nums F).take (trimK F least n*1)=nums (trimF F least):=by
  unfold trimF nums
  rw [Nat.mul_one,List.map_take,hF]
 rw [e] at h1
 rw [Kb,hF]
 exact h1
theorem trim_own{w0 w:World}{ps:List Piece}{g n c:Nat}{F:List Int}(least:Nat)(h:Own w0 w (slc 3 1 (.slice (some ⟨g,0,none⟩) n c) n (nums F)::ps))(hF:F.length=n)(hn:n≤1000000)(hl:least≤1000000) :
 Calls Tryz.prog 272 #[.slice (some ⟨g,0,none⟩) n c,.int .i64 least] w (Ret fun r w'=>r=.slice (some ⟨g,0,none⟩) (trimF F least).length c∧Own w0 w' (slc 3 1 (.slice (some ⟨g,0,none⟩) (trimF F least).length c) (trimF F least).length (nums (trimF F least))::ps)):=by
 refine (trim_any least h.rd hn hl).mono ?_
 rintro e w' ⟨v,rfl,rfl,h1⟩
 exact ⟨_,rfl,by rw [Kb,hF],(h.join h1).trimmed least hF⟩
theorem order_any(w:World):Calls Tryz.prog 274 #[] w (Ret fun r w'=>r=.agg (nums (ordF.map Int.ofNat)).toArray∧Own w w' []):=by
 have H:=(Own.start w).alloc (.cells #[.int .i64 0,.int .i64 0,.int .i64 0,.int .i64 0,.int .i64 0,.int .i64 0,.int .i64 0,.int .i64 0,.int .i64 0,.int .i64 0,.int .i64 0,.int .i64 0,.int .i64 0,.int .i64 0,.int .i64 0,.int .i64 0,.int .i64 0,.int .i64 0,.int .i64 0] 391)
 go_enter Tryz.func274,Tryz.ntmps274
 go_upto_region 1 with (fail)
 generalize w.alloc _=w1 at *
 generalize w.heap.size=g at *
 go_wp2_with (refine Qe (vs:=nums (ordF.map Int.ofNat)) (cur':=(nums (ordF.map Int.ofNat)).toArray) rfl _ _ rfl rfl H rfl (by kernel_rfl) (by simp [nums,ordF]) (by simp [nums,ordF,Value.oneCell']) rfl ?_;clear H;intro w5 H)
 refine bodyPost_ret (Zm rfl _ _ g _ rfl (run_loadVar_row w5 g _ _ _ _ _ H.block.1 Tryz.underlying391 rfl (by kernel_rfl))) rfl ?_
 exact ⟨_,rfl,rfl,H.bare⟩
theorem made_freq(rs:List Run)(k:Nat)(r:Run)(h:rs[k]?=some r):runFq (rs.take (k+1))=bump1 (runFq (rs.take k)) r.sym:=by
 unfold runFq
 rw [List.take_add_one,h,List.map_append]
 exact bumpF_snoc _ _ _
theorem runB_succ{ls:List Int}{rs:List Run}{k:Nat}{r:Run}(h:rs[k]?=some r):runsB ls (rs.take (k+1))=runsB ls (rs.take k)++runB ls r:=by
 unfold runsB
 rw [List.take_add_one,h,List.flatMap_append]
 simp
theorem lensB_succ{l:List Int}{k:Nat}(h:k<l.length):lensB (l.take (k+1))=lensB (l.take k)++Qj (l.getD k 0) 3:=by
 unfold lensB
 rw [List.take_add_one,Za h,List.flatMap_append]
 simp
theorem run_cells{w:World}{b o c i n:Nat}{l:List Run}{r:Run}(h:Rd w 3 (.slice (some ⟨b,o,none⟩) n c) n (rows rcell l))(ht:l[i]?=some r) :
 w.cell? ⟨b,o+i*3,none⟩=some (.int .i64 r.sym)∧w.cell? ⟨b,o+i*3+1,none⟩=some (.int .i64 r.n)∧w.cell? ⟨b,o+i*3+2,none⟩=some (.int .i64 r.v):=by
 have h0:=h.cell ((Jt rcell rcell_length ht 0 (by omega)).trans rfl)
 have h1:=h.cell ((Jt rcell rcell_length ht 1 (by omega)).trans rfl)
 have h2:=h.cell ((Jt rcell rcell_length ht 2 (by omega)).trans rfl)
 exact ⟨h0,h1,h2⟩
theorem fix_sym{t:Tok}(h:TokOk t):SymOk fixL fixD t:=by
 refine ⟨h,fun h0=>?_,fun h0=>?_⟩
 ·rw [Kg.1];rcases h with h | h <;> omega
 ·have h1:3≤t.len∧t.len≤258∧1≤t.dist∧t.dist≤32768:=by rcases h with h | h <;> omega
  have h2:=lenSym_bd (n:=t.len.toNat) (by omega)
  have h3:=distSym_bd (n:=t.dist.toNat) (by omega)
  rw [Kg.1,fixD_ok.1]
  omega
theorem fixL_wt:sumF wtF fixL≤2^15:=(table_ok Kg.2.2).2.2
theorem fixD_wt:sumF wtF fixD≤2^15:=(table_ok fixD_ok.2.2).2.2
theorem parse_ok(s:ByteArray):∀ t∈parse s,TokOk t:=by
 have key:∀ f i,∀ t∈Vx s f i,TokOk t:=by
  intro f
  induction f with
  | zero=>intro i t h;simp [Vx] at h
  | succ f ih=>
   intro i t h
   rw [Vx] at h
   split at h
   ·rcases List.mem_cons.1 h with rfl | h
    ·exact may_ok (n:=i) tokAt_may
    ·exact ih _ t h
   ·simp at h
 exact key _ _
theorem parse_len(s:ByteArray):(parse s).length≤s.size:=by
 have key:∀ f i,(Vx s f i).length≤f:=by
  intro f
  induction f with
  | zero=>intro i;simp [Vx]
  | succ f ih=>
   intro i
   rw [Vx]
   split
   ·have:=ih (i+stepAt s i);simp;omega
   ·simp
 exact key _ _
set_option maxRecDepth 100000 in
set_option maxHeartbeats 3200000 in
theorem block1_any{w0 w:World}{ps:List Piece}{g:Nat}{bs:List Bool}{tv:Value}{l:List Tok}(last:Bool)(ht:Reads w0 ps 3 tv l.length (rows tcell l))(hs:∀ t∈l,TokOk t)(H:Own w0 w (Wtr g bs::ps))(hl:bs.length+48*l.length≤35184372070000) :
 Calls Tryz.prog 130 #[.pointer (some ⟨g,0,none⟩),tv,.int .i64 1,.bool last] w (Ret fun _ w'=>Own w0 w' (Wtr g (bs++Kl l 1 last)::ps)):=by
 obtain ⟨ta,tc,rfl,ht1,ht2⟩:=(ht w H.drop).shape
 have h1:=head_any last 1 (by omega) H (by omega)
 have hB:Hid (bs++Kl l 1 last=bs++headB last 1++bodyB fixL fixD l):=jd (by unfold Kl;rw [if_pos rfl,List.append_assoc])
 have hBl:(bs++headB last 1).length≤bs.length+3:=by rw [lJ];simp [headB,Qd]
 rw [hB.out]
 obtain ⟨B,hB2⟩:∃ B,Hid (bs++headB last 1=B):=⟨_,rfl⟩
 rw [hB2.out] at h1 hBl ⊢
 obtain ⟨N,hN⟩:∃ N,Hid (l.length=N):=⟨_,rfl⟩
 have HS:=jd hs
 have H1:=jd h1
 have HT:=jd ht
 rw [hN.out] at hl ht1 HT ⊢
 clear h1 hs ht
 go_enter Tryz.func130,Tryz.ntmps130
 go_wp2_with fail
 refine H1.out.mono ?_
 rintro e w1 ⟨_,rfl,H2⟩
 clear H
 go_wp2_with fail
 refine (fixed_any _).mono ?_
 rintro e w2 ⟨_,rfl,v,u,rfl,H3⟩
 have H:=H2.join H3
 clear H2 H3
 obtain ⟨av,cv,rfl,-⟩:=(H.front 1 rfl).rd.shape
 obtain ⟨au,cu,rfl,-⟩:=(H.front 0 rfl).rd.shape
 go_wp2_with fail
 refine (made_any (H.front 1 rfl).rd (by omega) Kg.2.1).mono ?_
 rintro e w3 ⟨_,rfl,vc,rfl,H3⟩
 replace H:=H.join H3
 clear H3
 obtain ⟨a5,c5,rfl,-⟩:=(H.front 0 rfl).rd.shape
 go_wp2_with fail
 refine (made_any (H.front 1 rfl).rd (by omega) fixD_ok.2.1).mono ?_
 rintro e w4 ⟨_,rfl,uc,rfl,H3⟩
 replace H:=H.join H3
 clear H3
 obtain ⟨a6,c6,rfl,-⟩:=(H.front 0 rfl).rd.shape
 rw [Kg.1,fixD_ok.1] at H
 have H:Own w0 w4 (Wtr g B::slc 3 1 (.slice a6 32 c6) 32 (nums (Zc fixD))::slc 3 1 (.slice a5 288 c5) 288 (nums (Zc fixL))::slc 3 1 (.slice au 32 cu) 32 (nums fixD)::slc 3 1 (.slice av 288 cv) 288 (nums fixL)::ps):=H.front 4 rfl
 have hL:CodOk w0 (slc 3 1 (.slice a6 32 c6) 32 (nums (Zc fixD))::slc 3 1 (.slice a5 288 c5) 288 (nums (Zc fixL))::slc 3 1 (.slice au 32 cu) 32 (nums fixD)::slc 3 1 (.slice av 288 cv) 288 (nums fixL)::ps) (.slice av 288 cv) (.slice a5 288 c5) fixL:=⟨fun w' h=>by rw [Kg.1];exact (h.front 3 rfl).rd,fun w' h=>by rw [Kg.1];exact (h.front 1 rfl).rd,fixL_bd,fixL_wt,by rw [Kg.1];omega⟩
 have hD:CodOk w0 (slc 3 1 (.slice a6 32 c6) 32 (nums (Zc fixD))::slc 3 1 (.slice a5 288 c5) 288 (nums (Zc fixL))::slc 3 1 (.slice au 32 cu) 32 (nums fixD)::slc 3 1 (.slice av 288 cv) 288 (nums fixL)::ps) (.slice au 32 cu) (.slice a6 32 c6) fixD:=⟨fun w' h=>by rw [fixD_ok.1];exact (h.front 2 rfl).rd,fun w' h=>by rw [fixD_ok.1];exact h.rd,fixD_bd,fixD_wt,by rw [fixD_ok.1];omega⟩
 have hb:=body_any hL hD (l:=l) (tv:=.slice ta N tc) (by rw [hN.out];exact HT.out.mono fun w' h=>h.drop.drop.drop.drop) (fun t h=>fix_sym (HS.out t h)) (by rw [Kg.1];omega) H (by rw [hN.out];omega)
 have HB:=jd hb
 clear hb hL hD
 go_wp2_with fail
 refine HB.out.mono ?_
 rintro e w5 ⟨_,rfl,H5⟩
 go_wp2_with fail
 go_end0
 exact ⟨_,rfl,(((((H5.front 4 rfl).front 4 rfl).front 4 rfl).front 4 rfl).drop.drop.drop.drop)⟩
def simpleF(s:ByteArray):ByteArray:=textOf (Kl (parse s) 1 true)
set_option maxRecDepth 100000 in
theorem simple_any{w:World}(s:ByteArray)(hs:s.size≤1000000) :
 Calls Tryz.prog 78 #[.string s] w (Ret fun r w'=>r=.string (simpleF s)∧Own w w' []):=by
 have H:=(Own.start w).newWtr
 obtain ⟨T,hT⟩:∃ T,Hid (parse s=T):=⟨_,rfl⟩
 have hok:=parse_ok s
 have hlen:=parse_len s
 unfold simpleF
 rw [hT.out] at hok hlen ⊢
 have HOK:=jd hok
 clear hok
 go_enter Tryz.func78,Tryz.ntmps78
 go_wp2_with fail
 generalize w.alloc _=w1 at *
 generalize w.heap.size=g at *
 refine (lzparse_any H hs).mono ?_
 rintro e w2 ⟨v,rfl,H2⟩
 rw [hT.out] at H2
 clear H
 obtain ⟨a,c,rfl,-⟩:=H2.rd.shape
 have hb:=block1_any (l:=T) true (fun w' h=>h.rd) HOK.out H2.swap (by simp;omega)
 rw [List.nil_append] at hb
 have HB:=jd hb
 clear hb
 obtain ⟨N,hN⟩:∃ N,Hid (T.length=N):=⟨_,rfl⟩
 rw [hN.out] at HB ⊢
 go_wp2_with fail
 refine HB.out.mono ?_
 rintro e w3 ⟨_,rfl,H3⟩
 clear H2
 go_wp2_with fail
 refine (bytes_any H3).mono ?_
 rintro e w4 ⟨rfl,rfl⟩
 go_wp2_with fail
 go_ret
 exact ⟨_,rfl,rfl,H3.bare⟩
theorem xor16{n:Nat}(h:n≤65535):bits .xor .i64 (n:Int) 65535=65535-(n:Int):=by
 have h1:n ^^^ 65535=65535-n:=by
  have e1:(BitVec.ofNat 16 n ^^^ BitVec.allOnes 16).toNat=65535-n:=by
   rw [BitVec.xor_allOnes,BitVec.toNat_not,BitVec.toNat_ofNat,Nat.mod_eq_of_lt (by omega)]
  rw [BitVec.toNat_xor,BitVec.toNat_ofNat,Nat.mod_eq_of_lt (by omega)] at e1
  exact e1
 have key:IntKind.i64.wrap ((BitVec.ofInt 64 (n:Int) ^^^ BitVec.ofInt 64 ((65535:Nat):Int)).toNat:Int)=65535-(n:Int):=by
  rw [BitVec.ofInt_natCast,BitVec.ofInt_natCast,BitVec.toNat_xor,BitVec.toNat_ofNat,BitVec.toNat_ofNat,Nat.mod_eq_of_lt (by omega),Nat.mod_eq_of_lt (by omega),h1,IntKind.wrap_i64]
  omega
 exact key
theorem aligned_id{bs:List Bool}(h:bs.length%8=0):Jv bs=bs:=by
 unfold Jv padN
 rw [h]
 simp
theorem aligned_mod(bs:List Bool):(Jv bs).length%8=0:=by rw [Jh];omega
def strLen:Value→Nat | .string t=>t.size | _=>0
def boolNum:Value→Nat | .bool true=>1 | _=>0
def chunkB(last:Bool)(t:ByteArray)(bs:List Bool):List Bool:=Jv (bs++headB last 0)++(Qj (t.size:Int) 16++(Qj (65535-(t.size:Int)) 16++Zy t))
theorem chunk_len(last:Bool)(t:ByteArray)(bs:List Bool):(chunkB last t bs).length≤bs.length+8*t.size+48:=by
 unfold chunkB
 rw [lJ,lJ,lJ,Qd,Qd,textBits_length,Jh,lJ]
 simp [headB,Qd,Qq]
 omega
theorem storeB_more{f:Nat}{t:ByteArray}{bs:List Bool}(h:¬ t.size≤65535):storeB (f+1) t bs=storeB f (t.extract 65535 t.size) (chunkB false (t.extract 0 65535) bs):=by
 rw [storeB,if_neg h]
 unfold chunkB
 rw [show (t.extract 0 65535).size=65535 by rw [ByteArray.size_extract];omega]
 rfl
theorem storeB_last{f:Nat}{t:ByteArray}{bs:List Bool}(h:t.size≤65535):storeB (f+1) t bs=chunkB true t bs:=by
 rw [storeB,if_pos h];rfl
theorem tl_empty(t:ByteArray):t.toList.isEmpty=decide (t.size=0):=by
 rw [str_data]
 cases h:t.data.toList with
 | nil=>
  have:t.data.size=0:=by rw [← Array.length_toList,h];rfl
  have:t.size=0:=this
  rw [this];rfl
 | cons a l=>
  have:t.data.size=l.length+1:=by rw [← Array.length_toList,h];rfl
  have:t.size=l.length+1:=this
  rw [this];rfl
set_option maxRecDepth 100000 in
set_option maxHeartbeats 3200000 in
theorem store_any{w:World}(s:ByteArray)(hs:s.size≤1000000) :
 Calls Tryz.prog 77 #[.string s] w (Ret fun r w'=>r=.string (textOf (storeF s))∧Own w w' []):=by
 have H:=(Own.start w).newWtr
 obtain ⟨R,hR⟩:∃ R,Hid (storeF s=R):=⟨_,jd rfl⟩
 rw [hR.out]
 have hR2:Hid (storeB (s.size+1) s []=R):=jd hR.out
 clear hR
 go_enter Tryz.func77,Tryz.ntmps77
 go_wp2_with fail
 generalize w.alloc _=w1 at *
 generalize w.heap.size=g at *
 go_loopw [0,4] (fun s0 s4 wx=>∃ (t:ByteArray) (b:Bool) (f:Nat) (B:List Bool),s0=.string t∧s4=.bool b∧t.size≤1000000∧t.size<f+1∧(Hid (B.length≤10*(1000000-t.size)+48)∧(b=true∨0<t.size)∧Hid (storeB (f+1) t B=R)∨b=false∧t.size=0∧Hid (B=R))∧Own w wx [Wtr g B]) (fun s0 s4 _=>2*strLen s0+boolNum s4)
 case atStart=>exact ⟨s,true,s.size,[],rfl,rfl,hs,by omega,.inl ⟨jd (by simp),.inl rfl,hR2⟩,H⟩
 case round=>
  clear H hR2
  obtain ⟨t,b,f,B,rfl,rfl,ht,hf,hc,H⟩:=hrel
  rcases hc with ⟨hBl,hc,hst⟩ | ⟨rfl,ht0,hBR⟩
  ·have hte:b=true∨t.toList.isEmpty=false:=by
    rcases hc with h1 | h1
    ·exact .inl h1
    ·right;rw [tl_empty,decide_eq_false_iff_not];omega
   obtain ⟨N,hN⟩:∃ N,t.size=N:=⟨_,rfl⟩
   rw [hN] at hf ht hc hBl
   by_cases h16:N≤65535
   ·have hfin:=hst.out
    rw [storeB_last (by rw [hN];exact h16)] at hfin
    have HFIN:=jd hfin
    have hx1:=xor16 h16
    have hex0:t.extract 0 N=t:=by rw [← hN];exact ByteArray.extract_zero_size
    have ht2s:Hid (ByteArray.empty.size=0):=jd rfl
    have hms:Hid (0<2*N+boolNum (.bool b)):=jd (by
     rcases hc with h1 | h1
     ·subst h1;simp [boolNum]
     ·omega)
    clear hc hst hfin
    rcases hte with rfl | hte
    case' inr=>cases b
    all_goals
     go_upto_region 5 with (fail)
     go_cut [5,11,12,13] (fun s5 _ _ _ wx=>wx=wr∧s5=.int .i64 N)
     case first=>
      go_wp2
      all_goals go_meet
      all_goals exact ⟨rfl,val_int (by omega)⟩
     case rest=>
     obtain ⟨rfl,rfl⟩:=hcut
     have k1:=fun w1 (h:Own w w1 [Wtr g B])=>head_any true 0 (by omega) h (by have:=hBl.out;omega)
     have k2:=fun w1 (h:Own w w1 [Wtr g (B++headB true 0)])=>align_any h (by rw [lJ];simp [headB,Qd];have:=hBl.out;omega)
     have hal:(Jv (B++headB true 0)).length≤11000000:=by rw [Jh,lJ];simp [headB,Qd,Qq];have:=hBl.out;omega
     have ham:=aligned_mod (B++headB true 0)
     obtain ⟨A,hA⟩:∃ A,Hid (Jv (B++headB true 0)=A):=⟨_,jd rfl⟩
     rw [hA.out] at k2 hal ham
     have k3:=fun w1 (h:Own w w1 [Wtr g A])=>Vn ((N:Int)) 16 (by omega) (by omega) h (by omega)
     have k4:=fun w1 (h:Own w w1 [Wtr g (A++Qj ((N:Int)) 16)])=>Vn (65535-((N:Int))) 16 (by omega) (by omega) h (by rw [lJ,Qd];omega)
     rw [show cut 16=16 from rfl] at k3 k4
     have hal2:Jv (A++Qj ((N:Int)) 16++Qj (65535-((N:Int))) 16)=A++Qj ((N:Int)) 16++Qj (65535-((N:Int))) 16:=aligned_id (by rw [lJ,lJ,Qd,Qd];omega)
     have k5:=fun w1 (h:Own w w1 [Wtr g (A++Qj ((N:Int)) 16++Qj (65535-((N:Int))) 16)])=>text_any (t) h (by rw [lJ,lJ,Qd,Qd];omega)
     rw [hal2] at k5
     have hch:Hid (A++Qj ((N:Int)) 16++Qj (65535-((N:Int))) 16++Zy (t)=chunkB true (t) B):=jd (by unfold chunkB;rw [hA.out,hN];simp only [List.append_assoc])
     have K1:=jd k1
     have K2:=jd k2
     have K3:=jd k3
     have K4:=jd k4
     have K5:=jd k5
     have hcl:=chunk_len true (t) B
     have HCL:=jd hcl
     clear k1 k2 k3 k4 k5 hal ham hal2 hcl
     go_wp2_with fail
     refine (K1.out _ H).mono ?_
     rintro e w3 ⟨_,rfl,H3⟩
     clear H
     go_wp2_with fail
     refine (K2.out _ H3).mono ?_
     rintro e w4 ⟨_,rfl,H⟩
     clear H3
     go_wp2_with fail
     refine (K3.out _ H).mono ?_
     rintro e w5 ⟨_,rfl,H5⟩
     clear H
     go_wp2_with fail
     refine (K4.out _ H5).mono ?_
     rintro e w6 ⟨_,rfl,H⟩
     clear H5
     go_wp2_with fail
     refine (K5.out _ H).mono ?_
     rintro e w7 ⟨_,rfl,H7⟩
     clear H
     rw [hch.out] at H7
     go_wp2_with fail
     go_roundw
     case rel=>exact ⟨ByteArray.empty,false,f,_,rfl,rfl,by rw [ht2s.out];omega,by rw [ht2s.out];omega,.inr ⟨rfl,ht2s.out,HFIN⟩,H7⟩
     case measure=>simp only [strLen,ht2s.out,hN];exact hms.out
   ·have hfin:=hst.out
    obtain ⟨f,rfl⟩:∃ f',f=f'+1:=⟨f-1,by omega⟩
    obtain ⟨t3,ht3⟩:∃ t3,t.extract 0 65535=t3:=⟨_,rfl⟩
    obtain ⟨t2,ht2⟩:∃ t2,t.extract 65535 N=t2:=⟨_,rfl⟩
    have ht2s:Hid (t2.size=N-65535):=jd (by rw [← ht2,ByteArray.size_extract];omega)
    have ht3s:t3.size=65535:=by rw [← ht3,ByteArray.size_extract];omega
    rw [storeB_more (by rw [hN];exact h16),hN,ht2,ht3] at hfin
    have HFIN:=jd hfin
    clear hc hst hfin
    have hNI:((65535:Int)==(N:Int))=false:=by simp;omega
    have hcI:(65535:Int)≤(N:Int):=by omega
    rcases hte with rfl | hte
    case' inr=>cases b
    all_goals
     go_upto_region 5 with (fail)
     go_cut [5,11,12,13] (fun s5 _ _ _ wx=>wx=wr∧s5=.int .i64 65535)
     case first=>
      go_wp2
      all_goals go_meet
      all_goals exact ⟨rfl,val_int (by omega)⟩
     case rest=>
     obtain ⟨rfl,rfl⟩:=hcut
     have k1:=fun w1 (h:Own w w1 [Wtr g B])=>head_any false 0 (by omega) h (by have:=hBl.out;omega)
     have k2:=fun w1 (h:Own w w1 [Wtr g (B++headB false 0)])=>align_any h (by rw [lJ];simp [headB,Qd];have:=hBl.out;omega)
     have hal:(Jv (B++headB false 0)).length≤11000000:=by rw [Jh,lJ];simp [headB,Qd,Qq];have:=hBl.out;omega
     have ham:=aligned_mod (B++headB false 0)
     obtain ⟨A,hA⟩:∃ A,Hid (Jv (B++headB false 0)=A):=⟨_,jd rfl⟩
     rw [hA.out] at k2 hal ham
     have k3:=fun w1 (h:Own w w1 [Wtr g A])=>Vn (65535) 16 (by omega) (by omega) h (by omega)
     have k4:=fun w1 (h:Own w w1 [Wtr g (A++Qj (65535) 16)])=>Vn (65535-(65535)) 16 (by omega) (by omega) h (by rw [lJ,Qd];omega)
     rw [show cut 16=16 from rfl] at k3 k4
     have hal2:Jv (A++Qj (65535) 16++Qj (65535-(65535)) 16)=A++Qj (65535) 16++Qj (65535-(65535)) 16:=aligned_id (by rw [lJ,lJ,Qd,Qd];omega)
     have k5:=fun w1 (h:Own w w1 [Wtr g (A++Qj (65535) 16++Qj (65535-(65535)) 16)])=>text_any (t3) h (by rw [lJ,lJ,Qd,Qd];omega)
     rw [hal2] at k5
     have hch:Hid (A++Qj (65535) 16++Qj (65535-(65535)) 16++Zy (t3)=chunkB false (t3) B):=jd (by unfold chunkB;rw [hA.out,ht3s];simp only [List.append_assoc];rfl)
     have K1:=jd k1
     have K2:=jd k2
     have K3:=jd k3
     have K4:=jd k4
     have K5:=jd k5
     have hcl:=chunk_len false (t3) B
     rw [ht3s] at hcl
     have HCL:=jd hcl
     clear k1 k2 k3 k4 k5 hal ham hal2 hcl
     go_wp2_with fail
     refine (K1.out _ H).mono ?_
     rintro e w3 ⟨_,rfl,H3⟩
     clear H
     go_wp2_with fail
     refine (K2.out _ H3).mono ?_
     rintro e w4 ⟨_,rfl,H⟩
     clear H3
     go_wp2_with fail
     refine (K3.out _ H).mono ?_
     rintro e w5 ⟨_,rfl,H5⟩
     clear H
     go_wp2_with fail
     refine (K4.out _ H5).mono ?_
     rintro e w6 ⟨_,rfl,H⟩
     clear H5
     go_wp2_with fail
     refine (K5.out _ H).mono ?_
     rintro e w7 ⟨_,rfl,H7⟩
     clear H
     rw [hch.out] at H7
     go_wp2_with fail
     go_roundw
     case rel=>exact ⟨t2,false,f,_,rfl,rfl,by rw [ht2s.out];omega,by rw [ht2s.out];omega,.inl ⟨jd (by have:=HCL.out;have:=hBl.out;rw [ht2s.out];omega),.inr (by rw [ht2s.out];omega),HFIN⟩,H7⟩
     case measure=>simp only [strLen,ht2s.out,hN];simp [boolNum];omega
  ·have hte:t.toList.isEmpty=true:=by rw [tl_empty,ht0];rfl
   have HT0:=jd ht0
   clear ht0 hf
   go_wp2_with fail
   refine (bytes_any H).mono ?_
   rintro e w4 ⟨rfl,rfl⟩
   rw [hBR.out]
   go_wp2_with fail
   go_ret
   exact ⟨_,rfl,rfl,H.bare⟩
noncomputable section
def FF:Funs:=fun f l=>match f,l with
 | 1,[a,b]=>(keyEnc (Qb a) (Qb b)).data.toList
 | 2,[a,b]=>(keyMac (Qb a) (Qb b)).data.toList
 | 3,[a]=>(keyHead (Qb a)).data.toList
 | 4,[k,t]=>(tagF (Qb k) (bn (Qb t))).data.toList
 | 5,[s]=>(leafF (Qb s)).data.toList
 | 6,[t]=>(shaF (bn (Qb t))).data.toList
 | _,_=>[]
theorem aBytes_back(x:ByteArray):Qb x.data.toList=x:=rfl
theorem Zg(l:List UInt8):(Qb l).size=l.length:=by simp [Qb,ByteArray.size]
def nz(t:Txt):Txt:=tcat t []
section
variable {F:Funs} {e:Env} {w0 w:World} {h:AH}
theorem nz_ok{t:Txt}(ht:ok F e t):ok F e (nz t)∧den F e (nz t)=den F e t:=by
 have:=tcat_ok ht (t:=[]) trivial
 refine ⟨this.1,?_⟩
 rw [nz,this.2];simp [den]
theorem op1_vr{f:Nat}{a:Txt}{x:ByteArray}(ha:ok F e a)(hx:F f [den F e a]=x.data.toList)(hs:x.size=32):VR F e (.txt [.op f [nz a] 0 32]) (.string x):=by
 obtain ⟨h1,h2⟩:=nz_ok ha
 have hl:(F f [den F e a]).length=32:=by rw [hx,Array.length_toList];exact hs
 have hd:dens F e [nz a]=[den F e a]:=by simp only [dens,h2]
 refine ⟨⟨⟨by omega,by rw [hd];omega,h1,trivial⟩,trivial⟩,?_⟩
 simp only [den,Ck.den,hd,cutL,List.append_nil,List.drop_zero]
 rw [List.take_of_length_le (by omega),hx,aBytes_back]
theorem op2_vr{f:Nat}{a b:Txt}{x:ByteArray}(ha:ok F e a)(hb:ok F e b)(hx:F f [den F e a,den F e b]=x.data.toList)(hs:x.size=32):VR F e (.txt [.op f [nz a,nz b] 0 32]) (.string x):=by
 obtain ⟨h1,h2⟩:=nz_ok ha
 obtain ⟨h3,h4⟩:=nz_ok hb
 have hl:(F f [den F e a,den F e b]).length=32:=by rw [hx,Array.length_toList];exact hs
 have hd:dens F e [nz a,nz b]=[den F e a,den F e b]:=by simp only [dens,h2,h4]
 refine ⟨⟨⟨by omega,by rw [hd];omega,h1,h3,trivial⟩,trivial⟩,?_⟩
 simp only [den,Ck.den,hd,cutL,List.append_nil,List.drop_zero]
 rw [List.take_of_length_le (by omega),hx,aBytes_back]
theorem prim_txt{f:FuncId}{P:Program}{vs:Array Value}{t:Txt}{x:ByteArray}(H:HR F e w0 w h)(hc:Calls P f vs w (fun en w'=>en=.returned (.string x)∧Own w w' []))(hv:VR F e (.txt t) (.string x)) :
 Calls P f vs w fun en w'=>∃ u,en=.returned u∧∃ e',e.le e'∧VR F e' (.txt t) u∧HR F e' w0 w' h:=
 hc.mono fun _ _ ⟨h1,h2⟩=>⟨_,h1,e,Env.le_refl _,hv,H.mono h2.below⟩
end
def prLeaf:Prims:=onPr 9 fun args h=>match args with
 | [.lit (.int .i64 32),.txt s]=>if Nat.ble (tlen s) 100000 then some (.ok (.txt [.op 5 [nz s] 0 32],h)) else none
 | _=>none
theorem prLeaf_ok:Qc FF Tryz.prog prLeaf:=by
 refine Qc.on fun args h v h' hr e w0 w vs H hv=>?_
 split at hr
 rotate_left
 ·cases hr
 rename_i s
 split at hr
 rotate_left
 ·cases hr
 rename_i hn
 cases hr
 obtain ⟨v1,l1,hl1,g1,v2,l2,hl2,g2,g3⟩:=hv
 obtain rfl:l2=[]:=g3
 subst hl2
 obtain rfl:vs=#[v1,v2]:=by apply Array.ext';exact hl1
 obtain rfl:v1=.int .i64 32:=g1
 obtain ⟨g2a,rfl⟩:=g2
 have hlen:=Zh g2a
 have hn':tlen s≤100000:=by simpa using hn
 exact prim_txt H (mkleaf_any (Qb (den FF e s)) (by rw [Zg];omega) w) (op1_vr g2a rfl (leaf_size _))
def prKeys:Prims:=onPr 18 fun args h=>match args with
 | [.txt a,.txt b]=>if Nat.ble (tlen a) 100000&&Nat.ble (tlen b) 100000 then some (.ok (.agg [.txt [.op 1 [nz a,nz b] 0 32],.txt [.op 2 [nz a,nz b] 0 32],.txt [.op 3 [nz a] 0 32]],h)) else none
 | _=>none
theorem prKeys_ok:Qc FF Tryz.prog prKeys:=by
 refine Qc.on fun args h v h' hr e w0 w vs H hv=>?_
 split at hr
 rotate_left
 ·cases hr
 rename_i a b
 split at hr
 rotate_left
 ·cases hr
 rename_i hn
 cases hr
 obtain ⟨v1,l1,hl1,g1,v2,l2,hl2,g2,g3⟩:=hv
 obtain rfl:l2=[]:=g3
 subst hl2
 obtain rfl:vs=#[v1,v2]:=by apply Array.ext';exact hl1
 obtain ⟨g1a,rfl⟩:=g1
 obtain ⟨g2a,rfl⟩:=g2
 have hl1:=Zh g1a
 have hl2:=Zh g2a
 simp only [Bool.and_eq_true,Nat.ble_eq] at hn
 refine (kdkeys_any (Qb (den FF e a)) (Qb (den FF e b)) (by rw [Zg];omega) (by rw [Zg];omega) w).mono ?_
 rintro en w' ⟨rfl,h2⟩
 refine ⟨_,rfl,e,Env.le_refl _,⟨_,rfl,?_⟩,H.mono h2.below⟩
 exact ⟨_,_,rfl,op2_vr g1a g2a rfl (keyEnc_size _ _),_,_,rfl,op2_vr g1a g2a rfl (keyMac_size _ _),_,_,rfl,op1_vr g1a rfl (keyHead_size _),rfl⟩
def txtsA:List AV→Option (List Txt)
 | []=>some []
 | .txt t::r=>(txtsA r).map (t :: ·)
 | _=>none
def argTxts(x:AV)(h:AH):Option (List Txt):=
 match x with
 | .lit (.slice none 0 0)=>some []
 | .slc b o n _ 1=>match h.bs[b]? with
  | some (.cells cs)=>if Nat.ble (o+n) cs.length then txtsA ((cs.drop o).take n) else none
  | _=>none
 | _=>none
def catA(l:List Txt):Txt:=l.foldr tcat []
section
variable {F:Funs} {e:Env} {w0 w:World} {h:AH}
theorem txtsA_vrs:∀ {cs:List AV} {l:List Txt} {vs:List Value},txtsA cs=some l→VRs F e cs vs→vs=txs (l.map fun t=>Qb (den F e t))∧∀ t∈l,ok F e t
 | [],l,vs,hl,hv=>by
  cases hl
  obtain rfl:vs=[]:=hv
  exact ⟨rfl,by simp⟩
 | a::cs,l,vs,hl,hv=>by
  obtain ⟨v,vs',rfl,g1,g2⟩:=hv
  cases a <;> simp only [txtsA] at hl <;> try (cases hl)
  rename_i t
  rw [Option.map_eq_some_iff] at hl
  obtain ⟨l',h1,rfl⟩:=hl
  obtain ⟨rfl,h3⟩:=txtsA_vrs h1 g2
  obtain ⟨g1a,rfl⟩:=g1
  refine ⟨rfl,?_⟩
  intro x hx
  rcases List.mem_cons.1 hx with rfl | hx
  ·exact g1a
  ·exact h3 x hx
theorem argTxts_rd(H:HR F e w0 w h){x:AV}{v:Value}{l:List Txt}(hl:argTxts x h=some l)(hv:VR F e x v):(∃ n,Rd w 1 v n (txs (l.map fun t=>Qb (den F e t))))∧∀ t∈l,ok F e t:=by
 unfold argTxts at hl
 split at hl
 ·cases hl
  obtain rfl:v=.slice none 0 0:=hv
  exact ⟨⟨0,Rd.nil w 1⟩,by simp⟩
 ·rename_i b o n c
  split at hl
  rotate_left
  ·cases hl
  rename_i cs hb
  split at hl
  rotate_left
  ·cases hl
  rename_i hon
  have hon':o+n≤cs.length:=by simpa using hon
  obtain ⟨B,k,m,c',o',hx,rfl,ho,h1,h2,h3,h4⟩:=hv
  obtain ⟨cur,ty,fz,vs,g1,g2,g3,g4,g5,g6,g7⟩:=H.at' hb hx
  have hvs:=VRs.take _ _ n (VRs.drop _ _ o g6)
  obtain ⟨he,hok⟩:=txtsA_vrs hl hvs
  refine ⟨⟨n,?_⟩,hok⟩
  rw [← he]
  have hlv:=VRs.length _ _ g6
  refine ⟨by rw [List.length_take,List.length_drop,hlv];omega,some ⟨B,o',none⟩,c',rfl,by omega,h4,by simp,?_⟩
  intro ad had j u hu
  obtain rfl:=Option.some.inj had
  rw [List.getElem?_take] at hu
  split at hu
  rotate_left
  ·cases hu
  rename_i hjn
  rw [List.getElem?_drop,← g7,List.getElem?_take] at hu
  split at hu
  rotate_left
  ·cases hu
  rw [List.getElem?_drop] at hu
  have ho2:o'=k+o:=by
   rcases ho with ho | ho
   ·exact ho
   ·omega
  rw [Addr.add_lit,ho2]
  simp only [World.cell?,g3]
  rw [← Array.getElem?_toList,← hu,show k+o+j=k+(o+j) by omega]
  rfl
 ·cases hl
theorem catA_ok:∀ {l:List Txt},(∀ t∈l,ok F e t)→ok F e (catA l)∧bn (Qb (den F e (catA l)))=bns (l.map fun t=>Qb (den F e t))
 | [],_=>⟨trivial,rfl⟩
 | t::l,h=>by
  obtain ⟨h1,h2⟩:=catA_ok fun x hx=>h x (List.mem_cons_of_mem _ hx)
  have h3:=tcat_ok (h t (by simp)) h1
  refine ⟨h3.1,?_⟩
  rw [show catA (t::l)=tcat t (catA l) from rfl,h3.2,List.map_cons,show bns (Qb (den F e t)::l.map fun t=>Qb (den F e t))=bn (Qb (den F e t))++bns (l.map fun t=>Qb (den F e t)) by simp [bns],← h2]
  simp [bn,Qb]
end
def prSum:Prims:=onPr 63 fun args h=>match args with
 | [x]=>match argTxts x h with
  | some l=>if Nat.ble (tlen (catA l)) 100000 then some (.ok (.txt [.op 6 [nz (catA l)] 0 32],h)) else none
  | none=>none
 | _=>none
theorem prSum_ok:Qc FF Tryz.prog prSum:=by
 refine Qc.on fun args h v h' hr e w0 w vs H hv=>?_
 split at hr
 rotate_left
 ·cases hr
 rename_i x
 split at hr
 rotate_left
 ·cases hr
 rename_i l hl
 split at hr
 rotate_left
 ·cases hr
 rename_i hn
 cases hr
 obtain ⟨v1,l1,hl1,g1,g3⟩:=hv
 obtain rfl:l1=[]:=g3
 obtain rfl:vs=#[v1]:=by apply Array.ext';exact hl1
 obtain ⟨⟨n,hrd⟩,hok⟩:=argTxts_rd H hl g1
 obtain ⟨h1,h2⟩:=catA_ok hok
 have hlen:=Zh h1
 have hn':tlen (catA l)≤100000:=by simpa using hn
 have hb:(bns (l.map fun t=>Qb (den FF e t))).length≤100000:=by rw [← h2,Qu,Zg];omega
 have hS:=shsums_any hrd (by omega)
 rw [← h2] at hS
 exact prim_txt H hS (op1_vr h1 rfl (Vh _))
def prTag:Prims:=onPr 48 fun args h=>match args with
 | [.txt k,x]=>match argTxts x h with
  | some l=>if Nat.ble (tlen (catA l)) 100000&&Nat.ble (tlen k) 100000 then some (.ok (.txt [.op 4 [nz k,nz (catA l)] 0 32],h)) else none
  | none=>none
 | _=>none
theorem prTag_ok:Qc FF Tryz.prog prTag:=by
 refine Qc.on fun args h v h' hr e w0 w vs H hv=>?_
 split at hr
 rotate_left
 ·cases hr
 rename_i k x
 split at hr
 rotate_left
 ·cases hr
 rename_i l hl
 split at hr
 rotate_left
 ·cases hr
 rename_i hn
 cases hr
 obtain ⟨v1,l1,hl1,g1,v2,l2,hl2,g2,g3⟩:=hv
 obtain rfl:l2=[]:=g3
 subst hl2
 obtain rfl:vs=#[v1,v2]:=by apply Array.ext';exact hl1
 obtain ⟨g1a,rfl⟩:=g1
 obtain ⟨⟨n,hrd⟩,hok⟩:=argTxts_rd H hl g2
 obtain ⟨h1,h2⟩:=catA_ok hok
 have hlen:=Zh h1
 have hlen2:=Zh g1a
 simp only [Bool.and_eq_true,Nat.ble_eq] at hn
 have hb:(bns (l.map fun t=>Qb (den FF e t))).length≤100000:=by rw [← h2,Qu,Zg];omega
 have hS:=mctag_any (key:=Qb (den FF e k)) (by rw [Zg];omega) hrd (by omega)
 rw [← h2] at hS
 exact prim_txt H hS (op2_vr g1a h1 rfl (Vy _ _))
end
theorem xor_same(k:IntKind)(x:Int):bits BinOp.xor k x x=0:=by
 have h:bits BinOp.xor k x x=k.wrap 0:=by simp [bits]
 rw [h]
 cases k <;> decide
theorem or_zero:bits BinOp.or .i64 0 0=0:=by decide
set_option maxRecDepth 100000 in
theorem mcat_any(s:ByteArray)(i:Nat)(hi:i<s.size)(w:World) :
 Calls Tryz.prog 337 #[.string s,.int .i64 i] w (fun e w'=>e=.returned (.int .u8 ((bn s).getD i 0))∧w'=w):=by
 have hat:=@str_at s i hi
 obtain ⟨x,hx⟩:∃ c,Hid ((bn s).getD i 0=c):=⟨_,rfl⟩
 rw [hx.out] at hat ⊢
 obtain ⟨Z,hZ⟩:∃ Z,s.size=Z:=⟨_,rfl⟩
 rw [hZ] at hi
 have hI:(i:Int)<(Z:Int):=by omega
 go_enter Tryz.func337,Tryz.ntmps337
 go_wp2
 go_ret
 exact ⟨rfl,rfl⟩
set_option maxRecDepth 100000 in
set_option maxHeartbeats 3200000 in
theorem mcequal_any(s:ByteArray)(hs:s.size≤1000000)(w:World) :
 Calls Tryz.prog 288 #[.string s,.string s] w (fun e w'=>e=.returned (.tuple #[.bool true,.int .i64 s.size])∧Own w w' []):=by
 have H:=Own.start w
 have HA:=jd (fun i hi w=>mcat_any s i hi w)
 have hx1:=xor_same .i64 (s.size:Int)
 have hx2:=jd (xor_same .u8)
 have ho:=or_zero
 obtain ⟨Z,hZ⟩:∃ Z,s.size=Z:=⟨_,rfl⟩
 rw [hZ] at hs hx1 HA ⊢
 go_enter Tryz.func288,Tryz.ntmps288
 go_upto_block 0 with (fail)
 go_wp2_with fail
 go_loopw [7,20] (fun v7 v20 wx=>∃ i:Nat,v7=.int .i64 0∧v20=.int .i64 i∧i≤Z∧Own w wx []) (fun _ v20 _=>Z-(intOf v20).toNat)
 case atStart=>exact ⟨0,by go_num,by go_num,by omega,H⟩
 case round=>
  clear H
  obtain ⟨i,rfl,rfl,hi,H⟩:=hrel
  by_cases hiZ:i<Z
  ·have hI:(i:Int)<(Z:Int):=by omega
   have h1:=jd (HA.out i hiZ)
   obtain ⟨x,hx⟩:∃ c,Hid ((bn s).getD i 0=c):=⟨_,rfl⟩
   rw [hx.out] at h1
   have hx3:=hx2.out x
   go_wp2_with fail
   refine (h1.out _).mono ?_
   rintro e w2 ⟨rfl,hw⟩
   obtain rfl:wr=w2:=hw.symm
   go_wp2_with fail
   refine (h1.out _).mono ?_
   rintro e w2 ⟨rfl,hw⟩
   obtain rfl:wr=w2:=hw.symm
   go_wp2_with fail
   go_roundw
   case rel=>exact ⟨i+1,by go_num,by go_num,by omega,H⟩
   case measure=>simp [intOf];omega
  ·obtain rfl:i=Z:=by omega
   have hI:¬ (i:Int)<(i:Int):=by omega
   go_wp2
   go_ret2
   exact ⟨rfl,H⟩
noncomputable section
def prEqual:Prims:=onPr 288 fun args h=>match args with
 | [.txt a,.txt b]=>match teq a b with
  | some true=>fNat (tlen a) fun n=>if Nat.ble n 100000 then some (.ok (.tup [.lit (.bool true),.lit (.int .i64 (.ofNat n))],h)) else none
  | _=>none
 | _=>none
theorem prEqual_ok:Qc FF Tryz.prog prEqual:=by
 refine Qc.on fun args h v h' hr e w0 w vs H hv=>?_
 split at hr
 rotate_left
 ·cases hr
 rename_i a b
 split at hr
 rotate_left
 ·cases hr
 rename_i ht
 rw [Vv] at hr
 split at hr
 rotate_left
 ·cases hr
 rename_i hn
 cases hr
 obtain ⟨v1,l1,hl1,g1,v2,l2,hl2,g2,g3⟩:=hv
 obtain rfl:l2=[]:=g3
 subst hl2
 obtain rfl:vs=#[v1,v2]:=by apply Array.ext';exact hl1
 obtain ⟨g1a,rfl⟩:=g1
 obtain ⟨g2a,rfl⟩:=g2
 have hd:=(teq_den g1a g2a ht).1 rfl
 rw [← hd]
 have hl:=Zh g1a
 have hn':tlen a≤100000:=by simpa using hn
 refine (mcequal_any (Qb (den FF e a)) (by rw [Zg];omega) w).mono ?_
 rintro en w' ⟨rfl,h2⟩
 refine ⟨_,rfl,e,Env.le_refl _,⟨_,rfl,?_⟩,H.mono h2.below⟩
 rw [Zg,hl]
 exact ⟨_,_,rfl,rfl,_,_,rfl,rfl,rfl⟩
end
end Go.Proofs.YthekdeikodppkaaGreatDoor
