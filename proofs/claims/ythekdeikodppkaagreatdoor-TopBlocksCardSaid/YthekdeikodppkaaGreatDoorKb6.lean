/-
  Texts of this claim, one behind the other: A range over a function whose iterator keeps state of its own in cells; append, slice literals, parts of arrays, maps; lz; A look-up in a map of ints, in a region that draws its order; Slice literals, parts of arrays, bytes and texts, maps; Maps by ints; all operations that ask the memory. No program in sight; Every operation.
-/
import Derived.Test.YthekdeikodppkaaGreatDoorKb5
import Derived.RangeFuncNested
import Derived.RangeFuncBound
import Derived.RangeFuncCalls
import Derived.RangeFuncLeaves
import Derived.OwnWalkIn
import Derived.Deep.AppendSrc
import Derived.Great.BuildSlice
import Derived.ProofKit
import Derived.DeepKeys4
import Derived.Test.YthekdeikodppkaaGreatDoorRows
import Derived.Lib.ConvBytes
import Derived.Laws.BytesString
set_option linter.unusedVariables false
namespace Go.Proofs.YthekdeikodppkaaGreatDoor
open Go.RowKit
abbrev dfr:Obj:=.deferred (some [])
theorem wpIn_range_pieces{F:Fence}{n:Nat}{P:Program}{α ι:Type}{g:Operand}{ps:Array Tmp}{assign body:Code}{Q:Exit→Act→World→Prop}{a:Act}{w0 w:World}
 (hro:F.round=none) (h1:1≤n) {gf:Nat} {lb:Array Value} (hg:a.eval g=.func (.func gf) #[] lb) (hFg:F.fn gf) (eg:∀ args w,(callFunc gf args).run P w=.ok (.enter gf args) w)
 (enc:α→Value) (hps:ps.size=1) (ok:α→Bool) (good:Bool) (I Ix:ι→List Piece) (i0:ι) (H:Own w0 w (I i0)) (a₁:α→Act)
 (hassign:∀ (l:Nat) (x:α) (W:World) (K:Act→World→Prop),K (a₁ x) W →
   assign.wpIn (F.inRound l) (n-1-1) P (Exit.then K (fun _ _ _=>False)) { tmps:=(ps.zip #[enc x]).foldl (fun t (p,v)=>t.setIfInBounds p v) a.tmps,defers:=[] } W)
 (hbody:∀ (l D:Nat) (rc:Obj) (i:ι) (x:α) (W:World),Own w0 W (blk l rc::blk D dfr::I i)→body.wpIn (F.inRound l) (n-1-1) P (fun e _ W'=>
   (e=.normal∧ok x=true∧Own w0 W' (blk l rc::blk D dfr::I i))∨(e=.ret∧ok x=false∧Own w0 W' (blk l rc::blk D dfr::Ix i))) (a₁ x) W)
 (hiter:∀ (l D:Nat) (rA rZ:Obj) (W:World),(∀ (i:ι) (x:α) (W:World),Own w0 W (blk l rA::blk D dfr::I i)→YieldAt F (n-1-1) P l #[enc x] W fun e W'=>
   (ok x=true∧e=.returned (.bool true)∧Own w0 W' (blk l rA::blk D dfr::I i))∨(ok x=false∧e=.returned (.bool false)∧Own w0 W' (blk l rZ::blk D dfr::Ix i))) →
   Own w0 W (blk l rA::blk D dfr::I i0) →
   CallsIn F (n-1) P gf (#[.func (.yield l) #[] #[]]++lb) W fun e W'=>(∃ v,e=.returned v) ∧
    ((good=true∧∃ i,Own w0 W' (blk l rA::blk D dfr::I i))∨(good=false∧∃ i,Own w0 W' (blk l rZ::blk D dfr::Ix i))))
 (hdone:good=true→∀ (D:Nat) (i:ι) (W:World),Own w0 W (blk D dfr::I i)→Q .normal { a with defers:={ target:=.collected D,args:=#[] }::a.defers } W)
 (hstop:good=false→∀ (D:Nat) (i:ι) (W:World),Own w0 W (blk D dfr::Ix i)→Code.ret.wpIn F n P Q { a with defers:={ target:=.collected D,args:=#[] }::a.defers } W) :
 (Code.rangeFunc g ps assign body).wpIn F n P Q a w:=by
 refine wpIn_rangeFunc ?_
 intro fn hfn
 rw [hro]
 obtain ⟨rec,hrec⟩:∃ rec:LoopState→Option Code→Loop,rec=fun st pe=>{ state:=st,pending:=pe,fn,tmps:=a.tmps,params:=ps,assign,body,defers:=w.heap.size }:=⟨_,rfl⟩
 have H1:=((H.alloc dfr).alloc (.loop (rec .ready none)))
 rw [World.size_alloc] at H1
 obtain ⟨W1,hW1⟩:∃ W1,(w.alloc dfr).alloc (.loop (rec .ready none))=W1:=⟨_,rfl⟩
 rw [hW1] at H1
 have put:∀ {W:World} {l:Nat} {o:Obj} (o':Obj) {qs:List Piece},Own w0 W (blk l o::qs)→Own w0 (W.putObj l o') (blk l o'::qs):=fun {W l o} o' {qs} h=>
  h.turn rfl rfl rfl (by simp) (World.putObj_heap_same (Array.getElem?_eq_some_iff.1 h.block.1).1) (fun k _ hk=>World.putObj_heap_other hk)
 refine ⟨w.heap.size+1,[{ target:=.collected w.heap.size,args:=#[] }],W1,{ target:=.fn (.func gf) lb,args:=#[.func (.yield (w.heap.size+1)) #[] #[]] },W1,gf,
  #[.func (.yield (w.heap.size+1)) #[] #[]]++lb,W1,?_,?_,?_,?_,fun _=>h1,?_⟩
 ·rw [← hW1,hrec];exact run_enterLoop_outer _ _ _ _ _
 ·simp only [resolve,hg]
  simp [go_sem]
 ·intro f' hf';simp [Target.leads] at hf';subst hf';exact hFg
 ·simp [invoke,go_sem,eg]
 ·refine (hiter (w.heap.size+1) w.heap.size (.loop (rec .ready none)) (.loop (rec .done (some .ret))) W1 ?_ H1).mono ?_
  ·intro i x W HW
   have hl:=HW.block.1
   have hy:=run_yield (P:=P) (args:=#[enc x]) hl (by rw [hrec];simp [hps])
   rw [hrec] at hy
   refine ⟨fn,_,assign,body,hy,roundIn_of_wpIn hfn (hassign _ x W _ ⟨_,run_beginRound hl (by rw [hrec]),?_⟩)⟩
   refine wpIn_mono (hbody _ _ _ i x _ (put (.loop { rec .ready none with state:=.busy }) HW)) ?_
   rintro e a3 W3 (⟨rfl,hok,H3⟩ | ⟨rfl,hok,H3⟩)
   ·have hr:=run_endRound (P:=P) none H3.block.1
    refine ⟨_,_,hr,.inl ⟨hok,rfl,?_⟩⟩
    have:=put (.loop (rec .ready none)) H3
    rw [hrec] at this ⊢
    exact this
   ·have hr:=run_endRound (P:=P) (some .ret) H3.block.1
    refine ⟨_,_,hr,.inr ⟨hok,rfl,?_⟩⟩
    have:=put (.loop (rec .done (some .ret))) H3
    rw [hrec] at this ⊢
    exact this
  ·rintro e W2 ⟨⟨v,rfl⟩,(⟨hg1,i,H2⟩ | ⟨hg1,i,H2⟩)⟩
   ·refine ⟨none,_,by have:=run_endLoop (P:=P) H2.block.1 (by rw [hrec];simp);rw [hrec] at this;exact this,?_⟩
    exact hdone hg1 _ i _ (put _ H2).drop
   ·refine ⟨some .ret,_,by have:=run_endLoop (P:=P) H2.block.1 (by rw [hrec];simp);rw [hrec] at this;exact this,?_⟩
    exact hstop hg1 _ i _ (put _ H2).drop
noncomputable section
theorem putAt_eq:∀ (xs L:List AV) (o:Nat),o+xs.length≤L.length→putAt L o xs=L.take o++xs++L.drop (o+xs.length)
 | [],L,o,_=>by simp [putAt]
 | x::xs,L,o,h=>by
  simp only [List.length_cons] at h
  rw [putAt,putAt_eq xs (L.set o x) (o+1) (by simp;omega)]
  have h1:(L.set o x).take (o+1)=L.take o++[x]:=by
   rw [List.take_add_one,List.take_set_of_le (Nat.le_refl _)]
   rw [List.getElem?_set_self (by omega)];rfl
  have h2:(L.set o x).drop (o+1+xs.length)=L.drop (o+(xs.length+1)):=by
   rw [List.drop_set_of_lt (by omega)];congr 1;omega
  rw [h1,h2]
  simp
theorem vrs_lits(F:Funs)(e:Env):∀ l:List Value,VRs F e (l.map .lit) l
 | []=>rfl
 | v::l=>⟨v,l,rfl,rfl,vrs_lits F e l⟩
section
variable {F:Funs} {e:Env} {w0 w:World} {h:AH} {P:Program}
theorem HR.move(H:HR F e w0 w h){b B k n k':Nat}{cs cs':List AV}{cur:Array Value}{t:TypeId}{fz:Nat × Nat}{vs':List Value}(hb:h.bs[b]?=some (.cells cs))(hx:e.bl[b]?=some (B,k,n))
 (hh:w.heap[B]?=some (.cells cur t fz)) (hv:VRs F e cs' vs') (ht:(cur.toList.drop k').take cs'.length=vs') :
 HR F ⟨e.bl++[(B,k',n)],e.tx⟩ w0 w { h with bs:=h.bs.set b .dead++[.cells cs'] }:=by
 obtain ⟨cur',t',fz',vs,g1,g2,g3,g4,g5,g6,g7⟩:=H.at' hb hx
 rw [hh] at g3
 cases g3
 have hle:e.le ⟨e.bl++[(B,k',n)],e.tx⟩:=⟨⟨_,rfl⟩,⟨[],by simp⟩⟩
 have hl:=H.len
 have key:∀ (i:Nat) (o:AO) (x:Nat × Nat × Nat),(h.bs.set b .dead++[AO.cells cs'])[i]?=some o→(e.bl++[(B,k',n)])[i]?=some x→o.live=true →
  (i<h.bs.length∧i≠b∧h.bs[i]?=some o∧e.bl[i]?=some x)∨(i=h.bs.length∧x=(B,k',n)∧o=.cells cs'):=by
  intro i o x h1 h2 h3
  rcases Nat.lt_or_ge i h.bs.length with hi | hi
  ·rw [List.getElem?_append_left (by simpa using hi)] at h1
   rw [List.getElem?_append_left (by omega)] at h2
   by_cases hib:i=b
   ·subst hib
    rw [List.getElem?_set_self hi] at h1
    cases h1;cases h3
   ·rw [List.getElem?_set_ne (Ne.symm hib)] at h1
    exact .inl ⟨hi,hib,h1,h2⟩
  ·rw [List.getElem?_append_right (by simpa using hi)] at h1
   rw [List.getElem?_append_right (by omega)] at h2
   simp only [List.length_set,hl] at h1
   cases hi':i-e.bl.length with
   | zero=>rw [hi'] at h1 h2;simp at h1 h2;exact .inr ⟨by omega,h2.symm,h1.symm⟩
   | succ m=>rw [hi'] at h1;simp at h1
 refine ⟨H.below,by simp [hl],H.nv,?_,?_⟩
 ·intro i o x h1 h2 h3
  rcases key i o x h1 h2 h3 with ⟨_,_,a3,a4⟩ | ⟨_,rfl,rfl⟩
  ·obtain ⟨q1,q2,q3⟩:=H.objs i o x a3 a4 h3
   exact ⟨q1,q2,q3.le hle⟩
  ·exact ⟨g1,g2,cur,t,fz,hh,g4,g5,vs',VRs.le hle _ _ hv,ht⟩
 ·intro i j o1 o2 x y hij h1 h2 l1 l2 b1 b2
  rcases key i o1 x h1 b1 l1 with ⟨a1,a2,a3,a4⟩ | ⟨a1,rfl,_⟩ <;> rcases key j o2 y h2 b2 l2 with ⟨c1,c2,c3,c4⟩ | ⟨c1,rfl,_⟩
  ·exact H.inj i j o1 o2 x y hij a3 c3 l1 l2 a4 c4
  ·exact H.inj i b o1 (.cells cs) x (B,k,n) a2 a3 hb l1 rfl a4 hx
  ·exact H.inj b j (.cells cs) o2 (B,k,n) y (Ne.symm c2) hb c3 rfl l2 hx c4
  ·omega
theorem HR.recell(H:HR F e w0 w h){b B k n:Nat}{cs cs':List AV}{cur:Array Value}{t:TypeId}{fz:Nat × Nat}{vs':List Value}(hb:h.bs[b]?=some (.cells cs))(hx:e.bl[b]?=some (B,k,n))
 (hh:w.heap[B]?=some (.cells cur t fz)) (hv:VRs F e cs' vs') (ht:(cur.toList.drop k).take cs'.length=vs') :
 HR F e w0 w { h with bs:=h.bs.set b (.cells cs') }:=by
 obtain ⟨cur',t',fz',vs,g1,g2,g3,g4,g5,g6,g7⟩:=H.at' hb hx
 rw [hh] at g3
 cases g3
 have key:∀ (i:Nat) (o:AO),(h.bs.set b (.cells cs'))[i]?=some o→o.live=true→∃ o',h.bs[i]?=some o'∧o'.live=true∧(i≠b→o'=o):=by
  intro i o h1 h3
  by_cases hib:i=b
  ·subst hib;exact ⟨_,hb,rfl,fun h=>absurd rfl h⟩
  ·rw [List.getElem?_set_ne (Ne.symm hib)] at h1
   exact ⟨o,h1,h3,fun _=>rfl⟩
 refine ⟨H.below,by simpa using H.len,H.nv,?_,?_⟩
 ·intro i o x h1 h2 h3
  by_cases hib:i=b
  ·subst hib
   rw [hx] at h2;cases h2
   rw [List.getElem?_set_self (gJ hb).1] at h1
   cases h1
   exact ⟨g1,g2,cur,t,fz,hh,g4,g5,vs',hv,ht⟩
  ·rw [List.getElem?_set_ne (Ne.symm hib)] at h1
   exact H.objs i o x h1 h2 h3
 ·intro i j o1 o2 x y hij h1 h2 l1 l2 b1 b2
  obtain ⟨o1',p1,p2,_⟩:=key i o1 h1 l1
  obtain ⟨o2',p3,p4,_⟩:=key j o2 h2 l2
  exact H.inj i j o1' o2' x y hij p1 p3 p2 p4 b1 b2
def aSrc(P:Program)(tx:TypeId)(es:Nat)(x:AV)(h:AH):Option (Nat × List AV):=
 match x,P.underlying tx with
 | .slc b o n _ es',some (.slice _)=>match h.bs[b]? with
  | some (.cells cs)=>if es'=es∧o+n*es≤cs.length∧0<n∧((cs.drop o).take (n*es)).all AV.one=true then some (n,(cs.drop o).take (n*es)) else none
  | _=>none
 | .txt t,some .string=>match tby t with
  | some l=>if es=1 then some (l.length,l.map fun (x:Nat)=>AV.lit (.int .u8 (x:Int))) else none
  | none=>none
 | .lit (.slice none 0 c),some (.slice _)=>some (0,[])
 | _,_=>none
theorem vrs_one:∀ {xs:List AV} {vs:List Value},VRs F e xs vs→xs.all AV.one=true→∀ u∈vs,u.oneCell'=true
 | [],vs,h,_,u,hu=>by rw [show vs=[] from h] at hu;cases hu
 | x::xs,vs,h,ho,u,hu=>by
  obtain ⟨v,l',rfl,h1,h2⟩:=h
  simp only [List.all_cons,Bool.and_eq_true] at ho
  rcases List.mem_cons.1 hu with rfl | hm
  ·have:=h1.one1 ho.1
   cases u <;> first | rfl | cases this
  ·exact vrs_one h2 ho.2 u hm
theorem aSrc_run{tx:TypeId}{es:Nat}{x:AV}{v:Value}{m:Nat}{news:List AV}(H:HR F e w0 w h)(hx:VR F e x v)(hr:aSrc P tx es x h=some (m,news)) :
 ∃ vs,VRs F e news vs∧Src P es tx v m vs w∧news.all AV.one=true:=by
 unfold aSrc at hr
 split at hr
 ·rename_i b o n cap es' el hu
  split at hr
  ·rename_i cs hb
   split at hr
   ·rename_i hc
    obtain ⟨rfl,hc1,hc2,hc3⟩:=hc
    cases hr
    obtain ⟨B,k,sz,c',o',hbl,rfl,ho,hlc,hcc,hn,hmm⟩:=hx
    have ho':o'=k+o:=by rcases ho with h | h <;> omega
    subst ho'
    obtain ⟨cur,t,fz,vs,g1,g2,g3,g4,g5,g6,g7⟩:=H.at' hb hbl
    have hv:=VRs.take _ _ (m*es') (VRs.drop _ _ o g6)
    refine ⟨_,hv,?_,hc3⟩
    refine Src.ofSlice w hu _ m c' _ (by rw [VRs.length _ _ hv,List.length_take,List.length_drop];omega) ?_ (vrs_one hv hc3)
    intro j u hj
    have hjm:j<m*es':=by
     have:=(gJ hj).1
     rw [List.length_take] at this;omega
    rw [List.getElem?_take_of_lt hjm,List.getElem?_drop,← g7,List.getElem?_take_of_lt (by omega),List.getElem?_drop] at hj
    rw [Ki]
    simp only [World.cell?,g3]
    rw [show k+o+j=k+(o+j) by omega]
    simpa using hj
   ·cases hr
  ·cases hr
 ·rename_i t hu
  split at hr
  ·rename_i l hl
   split at hr
   ·rename_i hes
    subst hes
    cases hr
    have hd:=hx.2
    rw [(Kc hl).1] at hd
    subst hd
    have hsz:(Qb (l.map Nat.toUInt8)).size=l.length:=by simp [Qb,ByteArray.size]
    have:=Src.ofString (P:=P) w hu (Qb (l.map Nat.toUInt8))
    rw [hsz] at this
    have hby:byteCells (Qb (l.map Nat.toUInt8))=l.map fun (x:Nat)=>Value.int .u8 (x:Int):=by
     simp only [byteCells,Qb,List.map_map]
     refine List.map_congr_left fun x hxm=>?_
     have hlt:=(Kc hl).2 hx.1 x hxm
     simp only [Function.comp,Nat.toUInt8_eq,UInt8.toNat_ofNat']
     congr 1
     omega
    rw [hby] at this
    refine ⟨_,?_,this,by simp [AV.one]⟩
    have:=vrs_lits F e (l.map fun (x:Nat)=>Value.int .u8 (x:Int))
    simpa [List.map_map,Function.comp_def] using this
   ·cases hr
  ·cases hr
 ·rename_i c el hu
  cases hr
  have hv:v=.slice none 0 c:=hx
  subst hv
  exact ⟨[],rfl,Src.ofNil w hu c,rfl⟩
 ·cases hr
def aBase(s:AV)(es:Nat)(h:AH):Option (Option Nat × Nat × List AV):=
 match s with
 | .lit (.slice none 0 0)=>some (none,0,[])
 | .slc b o n _ es'=>match h.bs[b]? with
  | some (.cells cs)=>if es'=es∧o+n*es≤cs.length then some (some b,n,(cs.drop o).take (n*es)) else none
  | _=>none
 | _=>none
def killB:Option Nat→List AO→List AO
 | some b,l=>l.set b .dead
 | none,l=>l
def aAppend(P:Program)(ts:Array TypeId)(s x:AV)(h:AH):Option AR:=
 match ts[0]?,ts[1]? with
 | some t,some tx=>match P.underlying t with
  | some (.slice el)=>match P.info? el with
   | some i=>match i.zero with
    | some z=>match aSrc P tx i.size x h,aBase s i.size h with
     | some (m,news),some (b,n,olds)=>
      if m=0 then some (.val s h) else
      if z.cells.size=i.size∧0<i.size∧n+m≤1000000∧i.bytes≤1000000 then
       fAVs (olds++news) fun cs=>match b with
        | some b=>h.setF b .dead fun h1=>h1.pushF (.cells cs) fun h2=>some (.val (.slc h.bs.length 0 (n+m) (n+m) i.size) h2)
        | none=>h.pushF (.cells cs) fun h2=>some (.val (.slc h.bs.length 0 (n+m) (n+m) i.size) h2)
      else none
     | _,_=>none
    | none=>none
   | none=>none
  | _=>none
 | _,_=>none
theorem vrs_split:∀ {xs ys:List AV} {vs:List Value},VRs F e (xs++ys) vs→∃ us ws,vs=us++ws∧VRs F e xs us∧VRs F e ys ws
 | [],ys,vs,h=>⟨[],vs,rfl,rfl,h⟩
 | x::xs,ys,vs,h=>by
  obtain ⟨v,l',rfl,h1,h2⟩:=h
  obtain ⟨us,ws,rfl,h3,h4⟩:=vrs_split (xs:=xs) h2
  exact ⟨v::us,ws,rfl,⟨v,us,rfl,h1,h3⟩,h4⟩
theorem vrs_lits_eq:∀ {l vs:List Value},VRs F e (l.map .lit) vs→vs=l
 | [],vs,h=>h
 | v::l,vs,h=>by
  obtain ⟨u,l',rfl,h1,h2⟩:=h
  rw [show u=v from h1,vrs_lits_eq h2]
theorem aAppend_run{ts:Array TypeId}{s x:AV}{sv xv:Value}{ty:TypeId}{r:AR}(hts:ts.size=2)(H:HR F e w0 w h)(hs:VR F e s sv)(hx:VR F e x xv)(hr:aAppend P ts s x h=some r) :
 ∃ a h',r=.val a h'∧∃ v w' e',(Builtin.append_ ts ty #[sv,xv]).run P w=.ok v w'∧e.le e'∧VR F e' a v∧HR F e' w0 w' h':=by
 unfold aAppend at hr
 simp only [fAVs_eq,AH.setF_eq,AH.pushF_eq] at hr
 split at hr
 rotate_left
 ·cases hr
 rename_i t tx ht0 ht1
 have hte:ts=#[t,tx]:=by
  apply Array.ext'
  match ts,hts with
  | ⟨[a,b]⟩,_=>simp at ht0 ht1;rw [ht0,ht1]
 subst hte
 split at hr
 rotate_left
 ·cases hr
 rename_i el hu
 split at hr
 rotate_left
 ·cases hr
 rename_i i hi
 split at hr
 rotate_left
 ·cases hr
 rename_i z hz
 split at hr
 rotate_left
 ·cases hr
 rename_i m news b n olds hsrc hbase
 obtain ⟨nv,hnv,hS,hone⟩:=aSrc_run H hx hsrc
 have hb:∃ (base:Option Addr) (c:Nat) (ov:List Value),sv=.slice base n c∧VRs F e olds ov∧(∀ w',w'.heap=w.heap→(Builtin.firstCells i.size n (.slice base n c)).run P w'=.ok ov.toArray w')∧n≤c∧c≤maxLen ∧
  ((b=none∧base=none∧c=0)∨∃ bb B k sz o' cs,b=some bb∧base=some ⟨B,o',none⟩∧h.bs[bb]?=some (.cells cs)∧e.bl[bb]?=some (B,k,sz)∧o'+c*i.size≤sz∧(∀ cur t fz,w.heap[B]?=some (.cells cur t fz)→(cur.toList.drop o').take (n*i.size)=ov)):=by
  unfold aBase at hbase
  split at hbase
  ·cases hbase
   have hv:sv=.slice none 0 0:=hs
   subst hv
   exact ⟨none,0,[],rfl,rfl,fun w' _=>run_firstCells_none w' i.size 0 0 0,Nat.le_refl _,by simp [maxLen],.inl ⟨rfl,rfl,rfl⟩⟩
  ·rename_i bb o n' cap es'
   split at hbase
   ·rename_i cs hbb
    split at hbase
    ·rename_i hc
     obtain ⟨rfl,hc⟩:=hc
     cases hbase
     obtain ⟨B,k,sz,c',o',hbl,rfl,ho,hlc,hcc,hn,hm⟩:=hs
     obtain ⟨cur,t',fz,vs,g1,g2,g3,g4,g5,g6,g7⟩:=H.at' hbb hbl
     have hv:=VRs.take _ _ (n*i.size) (VRs.drop _ _ o g6)
     have hcur:(cur.toList.drop o').take (n*i.size)=(vs.drop o).take (n*i.size):=by
      rcases ho with rfl | h0
      ·rw [← g7,List.drop_take,List.take_take,List.drop_drop,Nat.min_eq_left (by omega)]
      ·have:n=0:=by omega
       subst this;simp
     refine ⟨some ⟨B,o',none⟩,c',_,rfl,hv,?_,by omega,hm,.inr ⟨bb,B,k,sz,o',cs,rfl,rfl,hbb,hbl,hn,fun cur' t2 fz2 hh=>?_⟩⟩
     ·intro w' hw'
      refine run_firstCells_some w' i.size n ⟨B,o',none⟩ n c' _ (by rw [VRs.length _ _ hv,List.length_take,List.length_drop];omega) ?_
      intro j u hj
      rw [← hcur] at hj
      have hjm:j<n*i.size:=by
       have:=(gJ hj).1
       rw [List.length_take] at this;omega
      rw [List.getElem?_take_of_lt hjm,List.getElem?_drop] at hj
      rw [Ki]
      simp only [World.cell?,hw',g3]
      simpa using hj
     ·rw [g3] at hh;cases hh;exact hcur
    ·cases hbase
   ·cases hbase
  ·cases hbase
 obtain ⟨base,c,ov,rfl,hov,hfirst,hnc,hcm,hcase⟩:=hb
 split at hr
 ·
  rename_i hm
  subst hm
  cases hr
  refine ⟨s,h,rfl,.slice base n c,w,e,?_,Env.le_refl _,hs,H⟩
  have hnl:nv=[]:=eJ (by rw [hS.newsLen];simp)
  subst hnl
  rcases hS.kind with ⟨e',hk⟩ | hk <;> cases base <;>
   simp [Builtin.append_,run_underlying hu,run_underlying hk,sizeOf,typeInfo,hi,hS.len,hnc,hS.cells,storeCells]
 rename_i hm
 split at hr
 rotate_left
 ·cases hr
 rename_i hc
 obtain ⟨hzs,hsz,hnm,hby⟩:=hc
 have hr':some (AR.val (.slc h.bs.length 0 (n+m) (n+m) i.size) { h with bs:=killB b h.bs++[.cells (olds++news)] })=some r:=by
  cases b <;> exact hr
 clear hr
 cases hr'
 refine ⟨_,_,rfl,?_⟩
 have hovl:ov.length=n*i.size:=by
  have h1:=hfirst w rfl
  rcases hcase with ⟨_,rfl,rfl⟩ | ⟨bb,B,k,sz,o',cs,_,rfl,hbb,hbl,hn,hcur⟩
  ·have hn0:n=0:=by omega
   subst hn0
   rw [run_firstCells_none] at h1
   have:ov.toArray=#[]:=by injection h1 with h1 _;exact h1.symm
   have:ov=[]:=by simpa using this
   rw [this];simp
  ·obtain ⟨cur,t',fz,vs,g1,g2,g3,g4,g5,g6,g7⟩:=H.at' hbb hbl
   rw [← hcur _ _ _ g3,List.length_take,List.length_drop,Array.length_toList,g4]
   have:n*i.size≤c*i.size:=Nat.mul_le_mul_right _ hnc
   omega
 have hnvl:=hS.newsLen
 have hole:=VRs.length _ _ hov
 have hnle:=VRs.length _ _ hnv
 by_cases hroom:n+m≤c
 ·
  rcases hcase with ⟨_,_,rfl⟩ | ⟨bb,B,k,sz,o',cs,rfl,rfl,hbb,hbl,hn,hcur⟩
  ·omega
  obtain ⟨cur,t',fz,vs,g1,g2,g3,g4,g5,g6,g7⟩:=H.at' hbb hbl
  have hmul:(n+m)*i.size≤c*i.size:=Nat.mul_le_mul_right _ hroom
  rw [Nat.add_mul] at hmul
  have hL:(cur.toList.drop o').length=sz-o':=by rw [List.length_drop,Array.length_toList,g4]
  have H1:=H.move (k':=o') (cs':=(cur.toList.drop o').map .lit) hbb hbl g3 (vrs_lits F e _) (by rw [List.length_map,List.take_length])
  have hle:e.le ⟨e.bl++[(B,o',sz)],e.tx⟩:=⟨⟨_,rfl⟩,⟨[],by simp⟩⟩
  have hbl1:(e.bl++[(B,o',sz)])[h.bs.length]?=some (B,o',sz):=by rw [H.len];simp
  have hbb1:(h.bs.set bb .dead++[AO.cells ((cur.toList.drop o').map .lit)])[h.bs.length]?=some (.cells ((cur.toList.drop o').map .lit)):=by
   rw [List.getElem?_append_right (by simp)];simp
  have hnv1:=VRs.le hle _ _ hnv
  obtain ⟨w',hst,H2⟩:=storeCells_run (P:=P) news nv (i:=0) (o:=n*i.size) H1 hbb1 hbl1 hnv1 hone (by rw [List.length_map,hL];omega)
  have hbb2:((h.bs.set bb .dead++[AO.cells ((cur.toList.drop o').map .lit)]).set h.bs.length (.cells (putAt ((cur.toList.drop o').map .lit) (n*i.size+0) news)))[h.bs.length]?=some (.cells (putAt ((cur.toList.drop o').map .lit) (n*i.size+0) news)):=by
   rw [List.getElem?_set_self (by simp)]
  obtain ⟨cur2,t2,fz2,vs2,q1,q2,q3,q4,q5,q6,q7⟩:=H2.at' hbb2 hbl1
  rw [putAt_eq _ _ _ (by rw [List.length_map,hL];omega),Nat.add_zero] at q6
  obtain ⟨us,ws,rfl,p1,p2⟩:=vrs_split q6
  obtain ⟨us1,us2,rfl,p3,p4⟩:=vrs_split p1
  have hus1:us1=ov:=by
   rw [← List.map_take] at p3
   rw [vrs_lits_eq p3]
   exact hcur _ _ _ g3
  subst hus1
  have hvn:=VRs.append _ _ _ _ (VRs.le hle _ _ hov) p4
  have hlen2:=VRs.length _ _ hvn
  have H3:=H2.recell (cs':=olds++news) hbb2 hbl1 q3 hvn (by
   have h1:((cur2.toList.drop o').take ((us1++us2)++ws).length)=(us1++us2)++ws:=by
    rw [VRs.length _ _ q6]
    have:((cur.toList.drop o').map AV.lit).take (n*i.size)++news++((cur.toList.drop o').map AV.lit).drop (n*i.size+news.length)=putAt ((cur.toList.drop o').map .lit) (n*i.size+0) news:=by
     rw [putAt_eq _ _ _ (by rw [List.length_map,hL];omega),Nat.add_zero]
    rw [this];exact q7
   have h2:(olds++news).length=(us1++us2).length:=hlen2.symm
   rw [h2]
   have h3:=congrArg (List.take (us1++us2).length) h1
   rw [List.take_take,Nat.min_eq_left (by simp),List.take_left] at h3
   exact h3)
  refine ⟨.slice (some ⟨B,o',none⟩) (n+m) c,w',_,?_,hle,⟨B,o',sz,c,o',hbl1,rfl,.inl rfl,Nat.le_refl _,hroom,by omega,hcm⟩,?_⟩
  ·rcases hS.kind with ⟨e',hk⟩ | hk <;>
    simp [Builtin.append_,run_underlying hu,run_underlying hk,sizeOf,typeInfo,hi,hS.len,hroom,hS.cells,Ki,hst]
  ·have:((h.bs.set bb .dead++[AO.cells ((cur.toList.drop o').map .lit)]).set h.bs.length (.cells (putAt ((cur.toList.drop o').map .lit) (n*i.size+0) news))).set h.bs.length (.cells (olds++news))=h.bs.set bb .dead++[.cells (olds++news)]:=by
    rw [List.set_set,List.set_append_right _ _ (by simp)]
    simp
   rw [this] at H3
   exact H3
 ·
  have hge:=grownCap_ge w (n+m) c el
  have hle':=grownCap_le_maxLen w (n+m) c el (by simp [maxLen];omega)
  have hrun:=run_append_grow_src (P:=P) w t tx ty el i z hu hi hz base n c ov (hfirst w.drew rfl) xv m nv hS (by omega) (by omega) (growslice_fits (by omega) (by
   have:(n+m)*i.bytes≤1000000*1000000:=Nat.mul_le_mul hnm hby
   omega))
  have Hd:HR F e w0 w.drew (match b with | some b=>{ h with bs:=h.bs.set b .dead } | none=>h):=by
   cases b with
   | none=>exact H.same rfl rfl rfl rfl
   | some b=>exact (H.kill b).same rfl rfl rfl rfl
  have hvn:=VRs.append _ _ _ _ hov hnv
  have hlen2:=VRs.length _ _ hvn
  have H3:=Hd.row (cur:=(ov++nv).toArray++Builtin.zeroCells z.cells (grownCap w (n+m) c el-(n+m))) (t:=el) (fz:=(0,0)) hvn (by
   simp only [Array.toList_append]
   rw [← hlen2]
   exact List.take_left) (by simp)
  have hcsz:((ov++nv).toArray++Builtin.zeroCells z.cells (grownCap w (n+m) c el-(n+m))).size=grownCap w (n+m) c el*i.size:=by
   simp only [Array.size_append,List.size_toArray,lJ,size_zeroCells,hzs,hovl,hnvl,← Nat.add_mul]
   congr 1;omega
  refine ⟨_,_,⟨e.bl++[(w.heap.size,0,((ov++nv).toArray++Builtin.zeroCells z.cells (grownCap w (n+m) c el-(n+m))).size)],e.tx⟩,hrun,⟨⟨_,rfl⟩,⟨[],by simp⟩⟩,⟨w.heap.size,0,grownCap w (n+m) c el*i.size,grownCap w (n+m) c el,0,?_,rfl,.inl rfl,Nat.le_refl _,hge,?_,hle'⟩,?_⟩
  ·rw [H.len,hcsz];simp
  ·rw [Nat.zero_add];exact Nat.le_refl _
  ·cases b with
   | none=>exact H3
   | some b=>exact H3
end
end
end Go.Proofs.YthekdeikodppkaaGreatDoor
namespace Go.Proofs.YthekdeikodppkaaGreatDoor
open Go.RowKit Go.Maps Go.ChangeShapes Go.WideShapes
def k3(k:UInt8 × UInt8 × UInt8):Value:=.agg #[.int .u8 k.1.toNat,.int .u8 k.2.1.toNat,.int .u8 k.2.2.toNat]
set_option maxRecDepth 100000 in
theorem k3_inj(a b:UInt8 × UInt8 × UInt8)(h:k3 a=k3 b):a=b:=by
 obtain ⟨a0,a1,a2⟩:=a
 obtain ⟨b0,b1,b2⟩:=b
 simp only [k3,Value.agg.injEq,Array.mk.injEq,List.cons.injEq,Value.int.injEq,true_and,and_true] at h
 obtain ⟨h0,h1,h2⟩:=h
 have e0:a0=b0:=UInt8.toNat_inj.1 (by omega)
 have e1:a1=b1:=UInt8.toNat_inj.1 (by omega)
 have e2:a2=b2:=UInt8.toNat_inj.1 (by omega)
 rw [e0,e1,e2]
set_option maxRecDepth 100000 in
theorem k3_laidOut:laidOutB Tryz.prog=true:=by kernel_rfl
set_option maxRecDepth 100000 in
theorem k3_row:(393:TypeId)<Tryz.prog.types.size:=of_decide_eq_true (by kernel_rfl)
set_option maxRecDepth 100000 in
theorem k3_deep:Tryz.prog.keyTypeAt (Tryz.prog.types.size+1) 393=true:=by kernel_rfl
set_option maxRecDepth 100000 in
theorem k3_wide:(match Tryz.prog.underlying 393 with | some (.array _ _) | some (.struct _)=>true | _=>false)=true:=by rw [Tryz.underlying393]
set_option maxRecDepth 100000 in
theorem k3_law:Keyed Tryz.prog 393:=Keyed.of_law (deep_law_laid k3_laidOut (m:=2) (by omega) k3_row (by kernel_rfl) k3_wide)
set_option maxRecDepth 100000 in
theorem k3_key(w:World)(k:UInt8 × UInt8 × UInt8):∃ kl,keyOf Tryz.prog 393 (k3 k)=some kl:=by
 have hc:Tryz.prog.cellsOf 393=3:=by kernel_rfl
 have hc1:Tryz.prog.cellsOf 5=1:=by kernel_rfl
 have hf:(k3 k).formed Tryz.prog 393=true:=by simp [k3,Value.formed,Tryz.underlying393,hc]
 have h0:=k.1.toNat_lt
 have h1:=k.2.1.toNat_lt
 have h2:=k.2.2.toNat_lt
 have w0:(Lit.int .u8 (k.1.toNat:Int)).wf=true:=by simp [Lit.wf,IntKind.min,IntKind.max,IntKind.bits,IntKind.signed];omega
 have w1:(Lit.int .u8 (k.2.1.toNat:Int)).wf=true:=by simp [Lit.wf,IntKind.min,IntKind.max,IntKind.bits,IntKind.signed];omega
 have w2:(Lit.int .u8 (k.2.2.toNat:Int)).wf=true:=by simp [Lit.wf,IntKind.min,IntKind.max,IntKind.bits,IntKind.signed];omega
 have ht:DataW.Trod (H:=Unit) (fun _=>()) Tryz.prog w 0 (fun _=>true) true 393 (k3 k) (.agg [.lit (.int .u8 k.1.toNat),.lit (.int .u8 k.2.1.toNat),.lit (.int .u8 k.2.2.toNat)]) []:=by
  refine ⟨2,?_⟩
  simp [DataW.trod,k3,Value.cells,Tryz.underlying393,Tryz.underlying5,hc,hc1,w0,w1,w2,List.range,List.range.loop]
 exact ⟨_,(keyOf_asKey k3_deep k3_wide hf ht).1⟩
end Go.Proofs.YthekdeikodppkaaGreatDoor
namespace Go.Proofs.YthekdeikodppkaaGreatDoor
open Go.RowKit Go.Maps
section
variable {P:Program} {ops:Array Oper} {S:Sig→World→Prop} {nw:List Nat} {R:Act→Prop} {a:Act} {o:Oper} {rest:List Oper} {i:Nat}
variable {K E t:TypeId} {α:Type} {enc:α→Value} {b n:Nat} {g:α→Int} {w0:World}
theorem calm_lookup(m x:Operand)(hi:i ∉ nw)(hw:Region.wanted o (yielded ops a.tmps)=true)(ho:o.op=.lookup t m x false)(hm:a.eval m=.map (some b)){k:α}(hx:a.eval x=enc k)
 (hS:∀ σ w,S σ w→∃ ps,Own w0 w (mpi P K E enc b n g::ps)) (hK:Keyed P K) (ht:P.underlying t=some (.map K E)) (he:P.underlying E=some (.int .i64)) (hz:∀ w,(zeroValue E).run P w=.ok (.int .i64 0) w)
 {kl:Lit} (hkey:keyOf P K (enc k)=some kl)
 (h:calm P ops S nw R (i+1) rest (a.put o.dst (.int .i64 (g k)))):calm P ops S nw R i (o::rest) a:=
 calm_value hi hw (fun σ w hs=>by
  obtain ⟨ps,H⟩:=hS σ w hs
  have hr:=mpi_lookup H hK ht he (hz w) hkey
  simp [execOp,ho,hm,hx,hr]) h
theorem Own.mpi_mono{w:World}{ps:List Piece}{m:Nat}(h:Own w0 w (mpi P K E enc b n g::ps))(hm:n≤m):Own w0 w (mpi P K E enc b m g::ps):=
 h.imp fun _ ⟨es,clock,h1,h2,h3,h4⟩=>⟨es,clock,h1,h2,by omega,h4⟩
end
end Go.Proofs.YthekdeikodppkaaGreatDoor
namespace Go.Proofs.YthekdeikodppkaaGreatDoor
open Go.RowKit
noncomputable section
section
variable {F:Funs} {e:Env} {w0 w:World} {h:AH} {P:Program}
def aReps(z:List AV)(m:Nat):List AV:=(List.range m).map fun i=>z.getD (i%z.length) (.lit undef)
theorem aReps_vr{z:List AV}{zs:Array Value}(hz:VRs F e z zs.toList)(hp:0<z.length)(m:Nat):VRs F e (aReps z m) ((Array.range m).map (zs[· % zs.size]!)).toList:=by
 have hl:=VRs.length _ _ hz
 simp only [Array.length_toList] at hl
 have:∀ l:List Nat,VRs F e (l.map fun i=>z.getD (i%z.length) (.lit undef)) (l.map fun i=>zs[i%zs.size]!):=by
  intro l
  induction l with
  | nil=>rfl
  | cons i l ih=>
   refine ⟨_,_,rfl,?_,ih⟩
   have hlt:i%z.length<z.length:=Nat.mod_lt _ hp
   obtain ⟨v,h1,h2⟩:=VRs.get _ _ (i%z.length) _ hz (List.getElem?_eq_getElem hlt)
   simp only [List.getD_eq_getElem?_getD,List.getElem?_eq_getElem hlt,Option.getD_some]
   rw [hl]
   rw [Array.getElem?_toList] at h1
   rw [show zs[i%z.length]! = v by rw [getElem!_def,h1]]
   exact h2
 have:=this (List.range m)
 simpa [aReps] using this
def aBuildSlice(P:Program)(t:TypeId)(len:Nat)(parts:List (Nat × AV))(h:AH):Option AR:=
 match P.underlying t with
 | some (.slice el)=>match P.info? el with
  | some i=>match i.zero with
   | some z=>
    if len=0 then match parts with
     | []=>h.pushF (.cells []) fun h'=>some (.val (.slc h.bs.length 0 0 0 i.size) h')
     | _=>none
    else if 0<len*i.size∧len*i.size≤100000∧(ofVal z).cells.length=i.size then
     match aFill (fun j=>some (j*i.size,i.size)) (aReps (ofVal z).cells (len*i.size)) parts with
     | some cs=>if cs.length=len*i.size then fAVs cs fun cs=>h.pushF (.cells cs) fun h'=>some (.val (.slc h.bs.length 0 len len i.size) h') else none
     | none=>none
    else none
   | none=>none
  | none=>none
 | _=>none
theorem aBuildSlice_run{t:TypeId}{len:Nat}{parts:List (Nat × AV)}{ps:Array (Nat × Value)}{r:AR}(H:HR F e w0 w h)(hp:PartsR F e parts ps.toList)(hr:aBuildSlice P t len parts h=some r) :
 ∃ a h',r=.val a h'∧∃ v w' e',(Instr.buildSlice t len ps).run P w=.ok v w'∧e.le e'∧VR F e' a v∧HR F e' w0 w' h':=by
 unfold aBuildSlice at hr
 simp only [fAVs_eq,AH.pushF_eq] at hr
 split at hr
 rotate_left
 ·cases hr
 rename_i el hu
 split at hr
 rotate_left
 ·cases hr
 rename_i i hi
 split at hr
 rotate_left
 ·cases hr
 rename_i z hz
 split at hr
 ·rename_i hl0
  subst hl0
  split at hr
  ·cases hr
   have hps:ps=#[]:=by
    have:ps.toList=[]:=hp
    apply Array.ext';simpa using this
   subst hps
   have H':=H.row (cur:=#[]) (t:=el) (fz:=(0,0)) (cs:=[]) (vs:=[]) rfl rfl (by simp)
   refine ⟨_,_,rfl,.slice (some ⟨w.heap.size,0,none⟩) 0 0,_,⟨e.bl++[(w.heap.size,0,0)],e.tx⟩,?_,⟨⟨_,rfl⟩,⟨[],by simp⟩⟩,⟨w.heap.size,0,0,0,0,by rw [H.len];simp,rfl,.inl rfl,Nat.le_refl _,Nat.le_refl _,by simp,by simp⟩,H'⟩
   simp [Instr.buildSlice,run_underlying hu,sizeOf,typeInfo,hi,Instr.fill,newRow]
   congr 2
   apply Array.ext'
   simp [Array.toList_range]
  ·cases hr
 split at hr
 rotate_left
 ·cases hr
 rename_i hc
 obtain ⟨hc1,hc2,hc3⟩:=hc
 split at hr
 rotate_left
 ·cases hr
 rename_i cs hf
 split at hr
 rotate_left
 ·cases hr
 rename_i hl
 cases hr
 have hzc:VRs F e (ofVal z).cells z.cells.toList:=(vr_ofVal F e z).cells
 have hpos:0<(ofVal z).cells.length:=by
  rw [hc3]
  rcases Nat.eq_zero_or_pos i.size with h0 | h0
  ·rw [h0,Nat.mul_zero] at hc1;omega
  ·exact h0
 obtain ⟨c',g1,g2⟩:=aFill_run hp (aReps_vr hzc hpos (len*i.size)) hf
 have hrun:=run_buildSlice (P:=P) w t el len ps c' i z hu hi hz (by omega) (by omega) g1
 have hcl:=VRs.length _ _ g2
 simp only [Array.length_toList] at hcl
 have H':=H.row (cur:=c') (t:=el) (fz:=(0,0)) g2 (by rw [← hcl,← Array.length_toList,List.take_length]) (by simp)
 refine ⟨_,_,rfl,_,_,⟨e.bl++[(w.heap.size,0,c'.size)],e.tx⟩,hrun,⟨⟨_,rfl⟩,⟨[],by simp⟩⟩,⟨w.heap.size,0,c'.size,len,0,by rw [H.len];simp,rfl,.inl rfl,Nat.le_refl _,Nat.le_refl _,by rw [hcl,hl];omega,?_⟩,H'⟩
 have:len≤len*i.size:=Nat.le_mul_of_pos_right _ (by rw [← hc3];exact hpos)
 simp [maxLen];omega
def aSliceArr(P:Program)(t:TypeId)(x:AV)(lo hi:Option AV)(h:AH):Option AR:=
 match x,P.underlying t with
 | .ptr b o,some (.array n el)=>match h.bs[b]?,szT P el with
  | some (.cells cs),some es=>match aBd n n hi with
   | some hh=>match aBd 0 hh lo with
    | some l=>if o+n*es≤cs.length∧n≤1000000∧0<n*es then some (.val (.slc b (o+l*es) (hh-l) (n-l) es) h) else none
    | none=>none
   | none=>none
  | _,_=>none
 | _,_=>none
theorem aSliceArr_run{t:TypeId}{x:Operand}{lo hi:Option Operand}{ρ:Operand→Value}{ev:Ev}{r:AR}(H:HR F e w0 w h)(hev:EvR F e ev ρ)(hr:aSliceArr P t (ev x) (lo.map ev) (hi.map ev) h=some r) :
 ∃ a,r=.val a h∧∃ v,(Instr.sliceAt t (ρ x) (lo.map ρ) (hi.map ρ) none).run P w=.ok v w∧VR F e a v:=by
 unfold aSliceArr at hr
 have hx:=hev x
 split at hr
 rotate_left
 ·cases hr
 rename_i b o n el hc hu
 rw [hc] at hx
 obtain ⟨B,k,sz,hbl,hv⟩:=hx
 split at hr
 rotate_left
 ·cases hr
 rename_i cs es hb hs
 split at hr
 rotate_left
 ·cases hr
 rename_i hh h1
 split at hr
 rotate_left
 ·cases hr
 rename_i l h2
 split at hr
 rotate_left
 ·cases hr
 rename_i hc
 cases hr
 obtain ⟨g1,g2,g3⟩:=bounds_run (P:=P) hev h1 h2 (Nat.le_refl _) (Nat.le_refl _) false w
 obtain ⟨cur,t',fz,vs,q1,q2,q3,q4,q5,q6,q7⟩:=H.at' hb hbl
 have hvl:=VRs.length _ _ q6
 have hcl:k+cs.length≤sz:=by
  have:=congrArg List.length q7
  have hcz:cur.toList.length=sz:=by rw [Array.length_toList,q4]
  rw [List.length_take,List.length_drop,hcz,hvl] at this
  omega
 refine ⟨_,rfl,.slice (some (if n=l then (⟨B,k+o,none⟩:Addr) else (⟨B,k+o,none⟩:Addr).add (l*es))) (hh-l) (n-l),?_,B,k,sz,n-l,if n=l then k+o else k+o+l*es,hbl,by rw [add_if],?_,by omega,Nat.le_refl _,?_,by simp [maxLen];omega⟩
 ·simp [Instr.sliceAt,run_underlying hu,hv,Instr.sureAddr,g1,Zq hs]
 ·by_cases hnl:n=l
  ·right;omega
  ·rw [if_neg hnl];left;omega
 ·by_cases hnl:n=l
  ·rw [if_pos hnl,hnl,Nat.sub_self,Nat.zero_mul]
   have:l*es=n*es:=by rw [hnl]
   omega
  ·rw [if_neg hnl]
   have:l*es+(n-l)*es=n*es:=by rw [← Nat.add_mul];congr 1;omega
   omega
def aBytes:List AV→Option (List Nat)
 | []=>some []
 | .lit (.int .u8 (.ofNat n))::r=>if n<256 then (aBytes r).map (n :: ·) else none
 | _=>none
theorem aBytes_vr:∀ {l:List AV} {vs:List Value} {ns:List Nat},aBytes l=some ns→VRs F e l vs→vs=ns.map (fun (n:Nat)=>Value.int .u8 (n:Int))∧∀ n∈ns,n<256
 | [],vs,ns,h,g=>by cases h;exact ⟨g,by simp⟩
 | a::r,vs,ns,h,g=>by
  unfold aBytes at h
  split at h
  ·rename_i heq;cases heq
  ·rename_i n r' heq
   cases heq
   split at h
   ·rename_i hn
    simp only [Option.map_eq_some_iff] at h
    obtain ⟨m,hm,rfl⟩:=h
    obtain ⟨v,l',rfl,g1,g2⟩:=g
    obtain ⟨k1,k2⟩:=aBytes_vr hm g2
    refine ⟨?_,fun x hx=>?_⟩
    ·rw [show v=.int .u8 (.ofNat n) from g1,k1];rfl
    ·rcases List.mem_cons.1 hx with rfl | hx
     ·exact hn
     ·exact k2 x hx
   ·cases h
  ·cases h
def isU8(P:Program)(t:TypeId):Bool:=
 match P.underlying t with
 | some (.int .u8)=>true
 | _=>false
theorem isU8_eq{t:TypeId}(h:isU8 P t=true):P.underlying t=some (.int .u8):=by
 unfold isU8 at h
 split at h
 ·rename_i hu;exact hu
 ·cases h
def aConv(P:Program)(s d:TypeId)(x:AV)(h:AH):Option AR:=
 match x,P.underlying s,P.underlying d with
 | .txt t,some .string,some (.slice el)=>match tby t with
  | some l=>if isU8 P el=true∧szT P el=some 1∧l.length≤1000000 then fAVs (l.map fun (n:Nat)=>.lit (.int .u8 (n:Int))) fun cs=>h.pushF (.cells cs) fun h'=>some (.val (.slc h.bs.length 0 l.length l.length 1) h') else none
  | none=>none
 | .slc b o n _ es,some (.slice el),some .string=>match h.bs[b]? with
  | some (.cells cs)=>if isU8 P el=true∧es=1∧o+n≤cs.length∧0<n then match aBytes ((cs.drop o).take n) with
   | some l=>some (.val (.txt [.by l]) h)
   | none=>none
   else none
  | _=>none
 | .lit (.slice none 0 0),some (.slice el),some .string=>if isU8 P el=true then some (.val (.txt [.by []]) h) else none
 | _,_,_=>none
theorem bytes_fold:∀ (l:List Nat) (b:ByteArray),(l.map (fun (n:Nat)=>(n:Int))).foldl (fun r (n:Int)=>r.push (UInt8.ofNat n.toNat)) b=⟨b.data++(l.map Nat.toUInt8).toArray⟩
 | [],b=>by simp
 | n::l,b=>by
  simp only [List.map_cons,List.foldl_cons]
  rw [bytes_fold l]
  apply ByteArray.ext
  simp only [ByteArray.data_push,Int.toNat_natCast]
  apply Array.ext'
  simp
theorem aConv_run{s d:TypeId}{x:AV}{xv:Value}{r:AR}(H:HR F e w0 w h)(hx:VR F e x xv)(hr:aConv P s d x h=some r) :
 ∃ a h',r=.val a h'∧∃ v w' e',(convert s d xv).run P w=.ok v w'∧e.le e'∧VR F e' a v∧HR F e' w0 w' h':=by
 unfold aConv at hr
 simp only [fAVs_eq,AH.pushF_eq] at hr
 split at hr
 ·rename_i t el hs hd
  split at hr
  rotate_left
  ·cases hr
  rename_i l hl
  split at hr
  rotate_left
  ·cases hr
  rename_i hc
  obtain ⟨hc1,hc2,hc3⟩:=hc
  cases hr
  have hd':=hx.2
  rw [(Kc hl).1] at hd'
  subst hd'
  have hsz:(Qb (l.map Nat.toUInt8)).size=l.length:=by simp [Qb,ByteArray.size]
  have hrun:=Lib.run_convert_string_bytes (P:=P) w s d el (Qb (l.map Nat.toUInt8)) hs hd (isU8_eq hc1)
  have hge:=grownCap_ge w l.length 0 el
  have hcm:=grownCap_le_maxLen w l.length 0 el (by simp [maxLen];omega)
  have hcells:(Lib.bytesCells w el (Qb (l.map Nat.toUInt8))).toList.take l.length=l.map (fun (n:Nat)=>Value.int .u8 (n:Int)):=by
   unfold Lib.bytesCells
   rw [Array.toList_append]
   have:((Qb (l.map Nat.toUInt8)).data.map fun b=>Value.int .u8 b.toNat).toList=l.map (fun (n:Nat)=>Value.int .u8 (n:Int)):=by
    simp only [Qb,Array.toList_map,List.map_map]
    refine List.map_congr_left fun x hxm=>?_
    have hlt:=(Kc hl).2 hx.1 x hxm
    simp only [Function.comp,Nat.toUInt8_eq,UInt8.toNat_ofNat']
    congr 1
    omega
   rw [this,List.take_append_of_le_length (by simp),List.take_of_length_le (by simp)]
  have hcs:(Lib.bytesCells w el (Qb (l.map Nat.toUInt8))).size=grownCap w l.length 0 el:=by
   unfold Lib.bytesCells
   simp only [hsz,Array.size_append,Array.size_map,Array.size_replicate]
   have:(Qb (l.map Nat.toUInt8)).data.size=l.length:=by simp [Qb]
   omega
  have hv:=vrs_lits F e (l.map fun (n:Nat)=>Value.int .u8 (n:Int))
  rw [List.map_map] at hv
  have H':=H.pushG (ao:=.cells (l.map fun (n:Nat)=>.lit (.int .u8 (n:Int)))) (k:=0) (n:=grownCap w l.length 0 el) (w':=Lib.bytesWorld w el (Qb (l.map Nat.toUInt8))) rfl
   (fun j hj=>Lib.bytesWorld_at_old w el _ j hj) (Lib.bytesWorld_size w el _)
   (H.below.trans ⟨by simp [Lib.bytesWorld,World.freeze,World.alloc,World.drew,-World.alloc_eq,-World.drew_eq],by simp [Lib.bytesWorld,World.freeze,World.alloc,World.drew,-World.alloc_eq,-World.drew_eq],by simp [Lib.bytesWorld,World.freeze,World.alloc,World.drew,-World.alloc_eq,-World.drew_eq],by rw [Lib.bytesWorld_size];omega,fun j hj=>Lib.bytesWorld_at_old w el _ j (by have:=H.below.size;omega)⟩)
   ⟨_,_,_,Lib.bytesWorld_at_new w el _,hcs,fun _=>by rw [hcs];exact Nat.le_refl _,_,VRs.le ⟨⟨_,rfl⟩,⟨[],by simp⟩⟩ _ _ hv,by simpa using hcells⟩
  rw [hsz] at hrun
  exact ⟨_,_,rfl,_,_,_,hrun,⟨⟨_,rfl⟩,⟨[],by simp⟩⟩,⟨w.heap.size,0,grownCap w l.length 0 el,grownCap w l.length 0 el,0,by rw [H.len];simp,rfl,.inl rfl,Nat.le_refl _,hge,by omega,hcm⟩,H'⟩
 ·rename_i b o n cap es el hs hd
  split at hr
  rotate_left
  ·cases hr
  rename_i cs hb
  split at hr
  rotate_left
  ·cases hr
  rename_i hc
  obtain ⟨hc1,rfl,hc2,hc3⟩:=hc
  split at hr
  rotate_left
  ·cases hr
  rename_i l hl
  cases hr
  obtain ⟨B,k,sz,c',o',hbl,rfl,ho,hlc,hcc,hn,hm⟩:=hx
  have ho':o'=k+o:=by rcases ho with h | h <;> omega
  subst ho'
  obtain ⟨vs,h1,h2⟩:=loadCells_run (P:=P) H hb hbl hc2
  obtain ⟨k1,k2⟩:=aBytes_vr hl h2
  subst k1
  refine ⟨_,_,rfl,.string (Qb (l.map Nat.toUInt8)),w,e,?_,Env.le_refl _,⟨⟨k2,trivial⟩,by simp [den,Ck.den]⟩,H⟩
  rw [run_convert_bytes_string w s d el _ _ _ hs (isU8_eq hc1) hd]
  rw [run_bytesToString w _ n c' (l.map fun (n:Nat)=>(n:Int)) (by rw [h1,List.map_map];rfl),bytes_fold]
  congr 2
  simp [Qb]
 ·rename_i el hs hd
  split at hr
  rotate_left
  ·cases hr
  rename_i hc
  cases hr
  have hv:xv=.slice none 0 0:=hx
  subst hv
  refine ⟨_,_,rfl,.string (Qb []),w,e,?_,Env.le_refl _,⟨⟨fun x hx=>(by cases hx),trivial⟩,rfl⟩,H⟩
  rw [run_convert_bytes_string w s d el _ _ _ hs (isU8_eq hc) hd]
  rfl
 ·cases hr
end
end
noncomputable section
section
variable {F:Funs} {e:Env} {w0 w:World} {h:AH} {P:Program}
def aFind(k:IntKind)(n:Int):List (AV × AV)→Nat→Option (Option (Nat × AV))
 | [],_=>some none
 | (.lit (.int k' m),v)::es,i=>if k=k' then (if n=m then some (some (i,v)) else aFind k n es (i+1)) else none
 | _,_=>none
theorem aFind_run{kt:TypeId}{q:IntKind}(hu:P.underlying kt=some (.int q)){k:IntKind}{n:Int}:∀ {es:List (AV × AV)} {ms:List MapEntry} {i:Nat} {r:Option (Nat × AV)},VRs F e (es.map (·.1)) (ms.map (·.key))→VRs F e (es.map (·.2)) (ms.map (·.val)) →
 aFind k n es i=some r→match r with
  | none=>Instr.findNow (.int q) (.int k n) ms i=some none
  | some (j,x)=>i≤j∧∃ v,Instr.findNow (.int q) (.int k n) ms i=some (some (j,v))∧VR F e x v∧(∃ m,ms[j-i]?=some m∧m.key=.int k n)∧j-i<es.length
 | [],ms,i,r,h1,h2,h=>by
  cases h
  have:ms=[]:=by
   have:=VRs.length _ _ h1
   simpa using this
  subst this;rfl
 | (a,v)::es,ms,i,r,h1,h2,h=>by
   obtain ⟨u,l',hm,g1,g2⟩:=h1
   obtain ⟨u2,l2',hm2,g3,g4⟩:=h2
   cases ms with
   | nil=>simp at hm
   | cons m ms=>
   simp only [List.map_cons,List.cons.injEq] at hm hm2
   obtain ⟨rfl,rfl⟩:=hm
   obtain ⟨rfl,rfl⟩:=hm2
   cases a
   case lit u=>
    cases u
    case int k' m'=>
     simp only [aFind] at h
     have hk:m.key=.int k' m':=g1
     split at h
     ·rename_i hkk
      subst hkk
      split at h
      ·rename_i hnm
       subst hnm
       cases h
       refine ⟨Nat.le_refl _,m.val,?_,g3,⟨m,by simp,hk⟩,by simp⟩
       simp [Instr.findNow,hk,Instr.sameNow]
      ·rename_i hnm
       have hnb:(n==m')=false:=by simpa using hnm
       have ih:=aFind_run hu (i:=i+1) g2 g4 h
       cases r with
       | none=>simp only at ih ⊢;simp [Instr.findNow,hk,Instr.sameNow,hnb,ih]
       | some jx=>
        obtain ⟨j,x⟩:=jx
        simp only at ih ⊢
        obtain ⟨p1,v2,p2,p3,⟨m2,p4,p5⟩,p6⟩:=ih
        refine ⟨by omega,v2,by simp [Instr.findNow,hk,Instr.sameNow,hnb,p2],p3,⟨m2,?_,p5⟩,by simp;omega⟩
        rw [show j-i=(j-(i+1))+1 by omega]
        simpa using p4
     ·cases h
    all_goals (simp [aFind] at h)
   all_goals (simp [aFind] at h)
def mapT(P:Program)(t:TypeId):Option (TypeId × TypeId):=
 match P.underlying t with
 | some (.map k v)=>match P.underlying k with
  | some (.int _)=>some (k,v)
  | _=>none
 | _=>none
theorem mapT_eq{t k v:TypeId}(h:mapT P t=some (k,v)):P.underlying t=some (.map k v)∧∃ q,P.underlying k=some (.int q):=by
 unfold mapT at h
 split at h
 ·rename_i hu
  split at h
  ·rename_i q hq
   cases h
   exact ⟨hu,q,hq⟩
  ·cases h
 ·cases h
theorem checkKey_int{k:TypeId}{q:IntKind}(hu:P.underlying k=some (.int q))(b:Bool)(d:Nat)(v:Value):(Instr.checkKey b (d+1) k v).run P w=.ok () w:=by
 simp [Instr.checkKey,run_underlying hu]
def aLookup(P:Program)(t:TypeId)(m k:AV)(ok:Bool)(h:AH):Option AR:=
 match mapT P t,k with
 | some (_,el),.lit (.int q n)=>
  match m with
  | .lit (.map none)=>(zeroT P el).map fun z=>.val (if ok then .tup [z,.lit (.bool false)] else z) h
  | .map b=>match h.bs[b]? with
   | some (.map es _)=>match aFind q n es 0 with
    | some (some (_,v))=>some (.val (if ok then .tup [v,.lit (.bool true)] else v) h)
    | some none=>(zeroT P el).map fun z=>.val (if ok then .tup [z,.lit (.bool false)] else z) h
    | none=>none
   | _=>none
  | _=>none
 | _,_=>none
theorem ok_vr{ok:Bool}{x:AV}{v:Value}(b:Bool)(hx:VR F e x v):VR F e (if ok then .tup [x,.lit (.bool b)] else x) (if ok then .tuple #[v,.bool b] else v):=by
 cases ok
 ·exact hx
 ·exact ⟨[v,.bool b],rfl,v,[.bool b],rfl,hx,_,[],rfl,rfl,rfl⟩
theorem aLookup_run{t:TypeId}{m k:AV}{mv kv:Value}{ok:Bool}{r:AR}(H:HR F e w0 w h)(hm:VR F e m mv)(hk:VR F e k kv)(hr:aLookup P t m k ok h=some r) :
 ∃ a,r=.val a h∧∃ v,(Instr.lookup t mv kv ok).run P w=.ok v w∧VR F e a v:=by
 unfold aLookup at hr
 split at hr
 rotate_left
 ·cases hr
 rename_i kt el q n hT
 obtain ⟨hu,qq,hq⟩:=mapT_eq hT
 have hkv:kv=.int q n:=hk
 subst hkv
 split at hr
 ·have hmv:mv=.map none:=hm
  subst hmv
  simp only [Option.map_eq_some_iff] at hr
  obtain ⟨z,hz,rfl⟩:=hr
  obtain ⟨zv,g1,g2⟩:=zeroValue_run (F:=F) (e:=e) (w:=w) hz
  exact ⟨_,rfl,_,by simp [Instr.lookup,run_underlying hu,checkKey_int hq,Instr.findKey,run_underlying hq,Instr.findNow,g1],ok_vr false g2⟩
 ·obtain ⟨B,kk,sz,hbl,hmv⟩:=hm
  subst hmv
  split at hr
  rotate_left
  ·cases hr
  rename_i es clock hb
  obtain ⟨p1,p2,ms,p3,p4,p5,p6⟩:=H.objs _ _ _ hb hbl rfl
  split at hr
  ·rename_i j v hf
   cases hr
   obtain ⟨_,u,g1,g2,_⟩:=aFind_run (P:=P) hq p4 p5 hf
   refine ⟨_,rfl,_,?_,ok_vr true g2⟩
   simp [Instr.lookup,run_underlying hu,getObj,Sem.run,p3,checkKey_int hq,Instr.findKey,run_underlying hq,g1]
  ·rename_i hf
   have g1:=aFind_run (P:=P) hq p4 p5 hf
   simp only [Option.map_eq_some_iff] at hr
   obtain ⟨z,hz,rfl⟩:=hr
   obtain ⟨zv,g2,g3⟩:=zeroValue_run (F:=F) (e:=e) (w:=w) hz
   refine ⟨_,rfl,_,?_,ok_vr false g3⟩
   simp [Instr.lookup,run_underlying hu,getObj,Sem.run,p3,checkKey_int hq,Instr.findKey,run_underlying hq,g1,g2]
  ·cases hr
 ·cases hr
theorem HR.setMap(H:HR F e w0 w h){b B k n clock clock':Nat}{es es':List (AV × AV)}{ms':List MapEntry}(hb:h.bs[b]?=some (.map es clock))(hx:e.bl[b]?=some (B,k,n))
 (h1:VRs F e (es'.map (·.1)) (ms'.map (·.key))) (h2:VRs F e (es'.map (·.2)) (ms'.map (·.val))) (h3:BornOk ms' clock') :
 HR F e w0 { w with heap:=w.heap.setIfInBounds B (.map ms'.toArray clock') } { h with bs:=h.bs.set b (.map es' clock') }:=by
 obtain ⟨p1,p2,_⟩:=H.objs _ _ _ hb hx rfl
 simp only at p1 p2
 have key:∀ (i:Nat) (o:AO),(h.bs.set b (.map es' clock'))[i]?=some o→o.live=true→∃ o',h.bs[i]?=some o'∧o'.live=true∧(i≠b→o'=o):=by
  intro i o h1 h3
  by_cases hib:i=b
  ·subst hib;exact ⟨_,hb,rfl,fun h=>absurd rfl h⟩
  ·rw [List.getElem?_set_ne (Ne.symm hib)] at h1
   exact ⟨o,h1,h3,fun _=>rfl⟩
 have hne:∀ j,j≠B→(w.heap.setIfInBounds B (.map ms'.toArray clock'))[j]?=w.heap[j]?:=fun j hj=>by
  rw [Array.getElem?_setIfInBounds_ne (Ne.symm hj)]
 refine ⟨H.below.trans ⟨rfl,rfl,rfl,by simp,fun j hj=>hne j (by omega)⟩,by simpa using H.len,H.nv,?_,?_⟩
 ·intro i o x q1 q2 q3
  by_cases hib:i=b
  ·subst hib
   rw [hx] at q2;cases q2
   rw [List.getElem?_set_self (gJ hb).1] at q1
   cases q1
   exact ⟨p1,by simpa using p2,ms',by simp [p2],h1,h2,h3⟩
  ·rw [List.getElem?_set_ne (Ne.symm hib)] at q1
   obtain ⟨r1,r2,r3⟩:=H.objs i o x q1 q2 q3
   have:x.1≠B:=H.inj i b o _ x (B,k,n) hib q1 hb q3 rfl q2 hx
   exact ⟨r1,by simpa using r2,r3.of_heap (hne _ this)⟩
 ·intro i j o1 o2 x y hij q1 q2 l1 l2 b1 b2
  obtain ⟨o1',r1,r2,_⟩:=key i o1 q1 l1
  obtain ⟨o2',r3,r4,_⟩:=key j o2 q2 l2
  exact H.inj i j o1' o2' x y hij r1 r3 r2 r4 b1 b2
def aMapUpdate(P:Program)(t:TypeId)(m k v:AV)(h:AH):Option AR:=
 match mapT P t,k,m with
 | some _,.lit (.int q n),.map b=>match h.bs[b]? with
  | some (.map es clock)=>match aFind q n es 0 with
   | some (some (i,_))=>fSet es i (.lit (.int q n),v) fun es=>h.setF b (.map es clock) fun h=>some (.skip h)
   | some none=>fPush es (.lit (.int q n),v) fun es=>fNat (clock+1) fun c=>h.setF b (.map es c) fun h=>some (.skip h)
   | none=>none
  | _=>none
 | _,_,_=>none
theorem aMapUpdate_run{t:TypeId}{m k x:AV}{mv kv xv:Value}{r:AR}(H:HR F e w0 w h)(hm:VR F e m mv)(hk:VR F e k kv)(hx:VR F e x xv)(hr:aMapUpdate P t m k x h=some r) :
 ∃ h',r=.skip h'∧∃ w',(Instr.mapUpdate t mv kv xv).run P w=.ok () w'∧HR F e w0 w' h':=by
 unfold aMapUpdate at hr
 simp only [fSet_eq,fPush_eq,Vv,AH.setF_eq] at hr
 split at hr
 rotate_left
 ·cases hr
 rename_i kt q n b hT
 obtain ⟨kt,el⟩:=kt
 obtain ⟨hu,qq,hq⟩:=mapT_eq hT
 have hkv:kv=.int q n:=hk
 subst hkv
 obtain ⟨B,kk,sz,hbl,hmv⟩:=hm
 subst hmv
 split at hr
 rotate_left
 ·cases hr
 rename_i es clock hb
 obtain ⟨p1,p2,ms,p3,p4,p5,p6⟩:=H.objs _ _ _ hb hbl rfl
 simp only at p3
 split at hr
 ·rename_i i v hf
  cases hr
  obtain ⟨_,u,g1,g2,⟨mm,g3,g4⟩,g5⟩:=aFind_run (P:=P) hq p4 p5 hf
  simp only [Nat.sub_zero] at g3 g5
  have hl:ms.length=es.length:=by
   have:=VRs.length _ _ p4
   simpa using this
  have H':=H.setMap (clock':=clock) (es':=es.set i (.lit (.int q n),x)) (ms':=ms.set i { mm with key:=.int q n,val:=xv }) hb hbl ?_ ?_ ?_
  ·refine ⟨_,rfl,_,?_,H'⟩
   obtain ⟨hlt,hge⟩:=gJ g3
   have hmod:ms.modify i (fun e=>{ e with key:=.int q n,val:=xv })=ms.set i { mm with key:=.int q n,val:=xv }:=by
    apply List.ext_getElem?
    intro j
    simp only [List.getElem?_modify,List.getElem?_set]
    by_cases hj:i=j
    ·subst hj
     simp [hge,hl,g5]
    ·simp [hj]
   have hkey:((ms.toArray[i]?).map (·.key)).getD (.int q n)=.int q n:=by simp [g3,g4]
   simp [Instr.mapUpdate,run_underlying hu,getObj,setObj,Sem.run,p3,checkKey_int hq,Instr.findKey,run_underlying hq,g1,Instr.keyThatStays,g3,g4,Instr.sameBits,hmod]
  ·rw [List.map_set,List.map_set]
   exact VRs.set _ _ _ _ _ p4 rfl
  ·rw [List.map_set,List.map_set]
   exact VRs.set _ _ _ _ _ p5 hx
  ·refine ⟨?_,?_⟩
   ·intro m hm
    rcases List.mem_or_eq_of_mem_set hm with h | rfl
    ·exact p6.1 m h
    ·exact p6.1 mm (List.mem_of_getElem? g3)
   ·rw [List.map_set]
    have:(ms.map (·.born)).set i mm.born=ms.map (·.born):=by
     apply List.ext_getElem?
     intro j
     rw [List.getElem?_set]
     split
     ·rename_i hij
      subst hij
      split
      ·rw [List.getElem?_map,g3];rfl
      ·rename_i hlt
       rw [List.getElem?_eq_none (by omega)]
     ·rfl
    rw [this];exact p6.2
 ·rename_i hf
  cases hr
  have g1:=aFind_run (P:=P) hq p4 p5 hf
  have H':=H.setMap (clock':=clock+1) (es':=es++[(.lit (.int q n),x)]) (ms':=ms++[{ key:=.int q n,val:=xv,born:=clock }]) hb hbl ?_ ?_ ?_
  ·refine ⟨_,rfl,_,?_,H'⟩
   simp [Instr.mapUpdate,run_underlying hu,getObj,setObj,Sem.run,p3,checkKey_int hq,Instr.findKey,run_underlying hq,g1]
  ·rw [List.map_append,List.map_append]
   exact VRs.append _ _ _ _ p4 ⟨_,[],rfl,rfl,rfl⟩
  ·rw [List.map_append,List.map_append]
   exact VRs.append _ _ _ _ p5 ⟨_,[],rfl,hx,rfl⟩
  ·refine ⟨?_,?_⟩
   ·intro m hm
    rcases List.mem_append.1 hm with h | h
    ·have:=p6.1 m h;omega
    ·simp at h;subst h;simp
   ·rw [List.map_append,List.nodup_append]
    refine ⟨p6.2,by simp,?_⟩
    intro a ha b hb hab
    obtain ⟨m,hm,rfl⟩:=List.mem_map.1 ha
    have h1:=p6.1 m hm
    have h2:b=clock:=by simpa using hb
    omega
 ·cases hr
theorem HR.newMap(H:HR F e w0 w h):HR F ⟨e.bl++[(w.heap.size,0,0)],e.tx⟩ w0 (w.alloc (.map #[] 0)) { h with bs:=h.bs++[.map [] 0] }:=
 H.push rfl rfl ⟨[],heap_alloc_new w _,rfl,rfl,by simp,by simp⟩
end
end
noncomputable section
def enters(P:Program)(g:FuncId):Bool:=
 match P.funcs[g]? with
 | some fn=>!(fn.name == "runtime.NumGoroutine")&&fn.body.isSome
 | none=>false
def aVal(P:Program)(ev:Ev)(o:Oper)(h:AH):Option AR:=(aPure P ev o).map fun v=>.val v h
def oSlice(P:Program)(ev:Ev)(o:Oper)(h:AH)(t:TypeId)(x:Operand)(lo hi:Option Operand):Option AR:=
 match ev x with
 | .ptr _ _=>aSliceArr P t (ev x) (lo.map ev) (hi.map ev) h
 | _=>aVal P ev o h
def oConv(P:Program)(ev:Ev)(o:Oper)(h:AH)(s d:TypeId)(x:Operand):Option AR:=
 match aConv P s d (ev x) h with
 | some r=>some r
 | none=>aVal P ev o h
def oFn(P:Program)(ev:Ev)(args:Array Operand)(f:AV):Option AR:=
 match f with
 | .fn (.func g) x y=>if enters P g then some (.enter g (x++args.toList.map ev++y)) else none
 | _=>none
def oApp(P:Program)(ev:Ev)(h:AH)(ts:Array TypeId)(args:List Operand):Option AR:=
 match args with
 | [a,b]=>if ts.size=2 then aAppend P ts (ev a) (ev b) h else none
 | _=>none
def oCall(P:Program)(ev:Ev)(o:Oper)(h:AH)(c:Call):Option AR:=
 match c.callee with
 | .value f=>oFn P ev c.args (ev f)
 | .builtin .append=>oApp P ev h c.argTypes c.args.toList
 | _=>aVal P ev o h
def aOp(P:Program)(ev:Ev)(o:Oper)(h:AH):Option AR:=
 match o.op with
 | .load t a=>aLoad P t (ev a) h
 | .store t a x=>aStore P t (ev a) (ev x) h
 | .alloc t=>(zeroT P t).map fun z=>aNew z h
 | .box _ x=>some (aNew (ev x) h)
 | .buildSlice t len parts=>aBuildSlice P t len (parts.toList.map fun p=>(p.1,ev p.2)) h
 | .makeMap _ r=>match r with
  | none=>h.pushF (.map [] 0) fun h'=>some (.val (.map h.bs.length) h')
  | some _=>aVal P ev o h
 | .slice t x lo hi mx=>match mx with
  | none=>oSlice P ev o h t x lo hi
  | some _=>aVal P ev o h
 | .convert s d x=>oConv P ev o h s d x
 | .lookup t m k ok=>aLookup P t (ev m) (ev k) ok h
 | .mapUpdate t m k x=>aMapUpdate P t (ev m) (ev k) (ev x) h
 | .call c=>oCall P ev o h c
 | _=>aVal P ev o h
section
variable {F:Funs} {e:Env} {w0 w:World} {h:AH} {P:Program} {ρ:Operand→Value} {ev:Ev}
theorem aVal_holds{o:Oper}{r:AR}(hev:EvR F e ev ρ)(H:HR F e w0 w h)(hr:aVal P ev o h=some r):r.holds F e w0 w P ρ o h:=by
 simp only [aVal,Option.map_eq_some_iff] at hr
 obtain ⟨v,hv,rfl⟩:=hr
 obtain ⟨u,h1,h2⟩:=aPure_gives hev hv w
 exact ⟨u,w,e,h1,Env.le_refl _,h2,H⟩
theorem aOp_holds{o:Oper}{r:AR}(hev:EvR F e ev ρ)(H:HR F e w0 w h)(hr:aOp P ev o h=some r):r.holds F e w0 w P ρ o h:=by
 have hval:=aVal_holds (P:=P) (o:=o) (r:=r) hev H
 obtain ⟨dst,op,type,pos,after,guard⟩:=o
 cases op
 case load t a=>
  obtain ⟨x,rfl,v,h1,h2⟩:=aLoad_run (P:=P) H (hev a) hr
  exact ⟨v,w,e,by simp [execOp,h1],Env.le_refl _,h2,H⟩
 case store t a x=>
  obtain ⟨h',rfl,w',h1,h2⟩:=aStore_run (P:=P) H (hev a) (hev x) hr
  exact ⟨w',e,by simp [execOp,h1],Env.le_refl _,h2⟩
 case alloc t=>
  simp only [aOp,aNew_eq,Option.map_eq_some_iff] at hr
  obtain ⟨z,hz,rfl⟩:=hr
  obtain ⟨zv,g1,g2⟩:=zeroValue_run (F:=F) (e:=e) (w:=w) hz
  obtain ⟨w',e',v,h1,h2,h3,h4⟩:=aNew_run (P:=P) (t:=t) H g2
  refine ⟨v,w',e',?_,h2,h3,h4⟩
  simp only [execOp,Instr.alloc,Sem.run_bind,g1,Result.andThen_ok] at h1 ⊢
  rw [h1];rfl
 case box t x=>
  simp only [aOp,aNew_eq,Option.some.injEq] at hr
  subst hr
  obtain ⟨w',e',v,h1,h2,h3,h4⟩:=aNew_run (P:=P) (t:=t) H (hev x)
  refine ⟨v,w',e',?_,h2,h3,h4⟩
  simp only [execOp,Instr.box,Sem.run_bind] at h1 ⊢
  rw [h1];rfl
 case buildSlice t len parts=>
  obtain ⟨a,h',rfl,v,w',e',h1,h2,h3,h4⟩:=aBuildSlice_run (P:=P) (ps:=parts.map fun (p:Nat × Operand)=>(p.1,ρ p.2)) H (by simpa using partsR hev parts.toList) hr
  refine ⟨v,w',e',?_,h2,h3,h4⟩
  simp only [execOp,Sem.run_bind]
  rw [h1];rfl
 case makeMap t n=>
  cases n with
  | some n=>exact hval hr
  | none=>
   simp only [aOp,AH.pushF_eq,Option.some.injEq] at hr
   subst hr
   refine ⟨.map (some w.heap.size),w.alloc (.map #[] 0),⟨e.bl++[(w.heap.size,0,0)],e.tx⟩,?_,⟨⟨_,rfl⟩,⟨[],by simp⟩⟩,⟨w.heap.size,0,0,by rw [H.len];simp,rfl⟩,H.newMap⟩
   simp [execOp,Instr.makeMap]
 case slice t x lo hi mx=>
  cases mx with
  | some m=>exact hval hr
  | none=>
   simp only [aOp,oSlice] at hr
   split at hr
   ·obtain ⟨a,rfl,v,h1,h2⟩:=aSliceArr_run (P:=P) H hev hr
    exact ⟨v,w,e,by simp [execOp,h1],Env.le_refl _,h2,H⟩
   ·exact hval hr
 case convert s d x=>
  simp only [aOp,oConv] at hr
  split at hr
  ·rename_i r' hc
   cases hr
   obtain ⟨a,h',rfl,v,w',e',h1,h2,h3,h4⟩:=aConv_run (P:=P) H (hev x) hc
   exact ⟨v,w',e',by simp [execOp,h1],h2,h3,h4⟩
  ·exact hval hr
 case lookup t m k ok=>
  obtain ⟨a,rfl,v,h1,h2⟩:=aLookup_run (P:=P) H (hev m) (hev k) hr
  exact ⟨v,w,e,by simp [execOp,h1],Env.le_refl _,h2,H⟩
 case mapUpdate t m k x=>
  obtain ⟨h',rfl,w',h1,h2⟩:=aMapUpdate_run (P:=P) H (hev m) (hev k) (hev x) hr
  exact ⟨w',e,by simp [execOp,h1],Env.le_refl _,h2⟩
 case call c=>
  obtain ⟨callee,args,ts⟩:=c
  cases callee with
  | invoke x m=>exact hval hr
  | builtin b=>
   cases b
   case append=>
    simp only [aOp,oCall,oApp] at hr
    split at hr
    ·rename_i x y hxy
     have hargs:args=#[x,y]:=by apply Array.ext';exact hxy
     subst hargs
     split at hr
     ·rename_i hts
      obtain ⟨a,h',rfl,v,w',e',h1,h2,h3,h4⟩:=aAppend_run (P:=P) (ty:=type) hts H (hev x) (hev y) hr
      exact ⟨v,w',e',by simp [execOp,resolve,invoke,builtin,h1],h2,h3,h4⟩
     ·cases hr
    ·cases hr
   all_goals exact hval hr
  | value f=>
   simp only [aOp,oCall,oFn] at hr
   have hf:=hev f
   split at hr
   ·rename_i g x y hg
    rw [hg] at hf
    obtain ⟨a,b,hfv,p1,p2⟩:=hf
    split at hr
    ·rename_i hen
     cases hr
     unfold enters at hen
     split at hen
     ·rename_i fn hfn
      simp only [Bool.and_eq_true,Bool.not_eq_true'] at hen
      refine ⟨a.toArray++args.map ρ++b.toArray,?_,?_⟩
      ·have hb:¬ fn.body=none:=by
        intro hbb
        rw [hbb] at hen;simp at hen
       have hnm:¬ fn.name = "runtime.NumGoroutine":=by simpa using hen.1
       simp [execOp,resolve,hfv,Deferred.ofValue,invoke,callFunc,hfn,hnm,hb]
      ·simp only [Array.toList_append]
       rw [show (args.map ρ).toList=args.toList.map ρ by simp]
       exact VRs.append _ _ _ _ (VRs.append _ _ _ _ p1 (vrs_evs hev _)) p2
     ·cases hen
    ·cases hr
   ·cases hr
 all_goals exact hval hr
end
end
end Go.Proofs.YthekdeikodppkaaGreatDoor
