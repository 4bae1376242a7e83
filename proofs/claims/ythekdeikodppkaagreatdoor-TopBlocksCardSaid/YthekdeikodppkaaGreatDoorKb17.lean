/-
  Texts of this claim, one behind the other: Slices of one-cell elements whose block may be frozen beyond its cells ('[]byte(s)'); enc; block; header; sledgelaw19.Salt; huff; copy into a row of the call's own; slices.Repeat of one int; lz.
-/
import Derived.Test.YthekdeikodppkaaGreatDoorKb16
import Derived.Deep.AppendSrc
import Derived.Deep.OwnRows
import Derived.Laws.CopyOwn
import Derived.Deep.DeepCutAuto
import Derived.Deep.CutBlock
import Derived.Deep.LoopGhost
import Derived.WalkLawsBesides
import Derived.WalkSpells
import Derived.BigQuiet
import Derived.Deep.QuietTactic
import Derived.Test.YthekdeikodppkaaGreatDoorRows
set_option linter.unusedVariables false
namespace Go.Proofs.YthekdeikodppkaaGreatDoor
open Go.RowKit
def slfP(e:TypeId)(v:Value)(n:Nat)(xs:List Value)(x:Nat × Nat × Array Value × Nat × Nat):Piece:=
 star (fact (xs.length=n∧v=.slice (some ⟨x.1,0,none⟩) n x.2.1∧n≤x.2.1∧x.2.1≤maxLen∧x.2.2.1.size=x.2.1∧(x.2.2.2.2≤x.2.2.2.1∨x.2.1≤x.2.2.2.1)∧x.2.2.1.toList.take n=xs)) (blk x.1 (.cells x.2.2.1 e x.2.2.2))
def slf(e:TypeId)(v:Value)(n:Nat)(xs:List Value):Piece:=ex (slfP e v n xs)
def putL(cur:Array Value)(o:Nat):List Value→Array Value
 | []=>cur
 | v::r=>putL (cur.setIfInBounds o v) (o+1) r
theorem putL_size:∀ (vs:List Value) (cur:Array Value) (o:Nat),(putL cur o vs).size=cur.size
 | [],_,_=>rfl
 | v::r,cur,o=>by rw [putL,putL_size r];simp
theorem putL_take:∀ (vs:List Value) (cur:Array Value) (o:Nat) (xs:List Value),cur.toList.take o=xs→o+vs.length≤cur.size→(putL cur o vs).toList.take (o+vs.length)=xs++vs
 | [],cur,o,xs,h,_=>by simpa [putL] using h
 | v::r,cur,o,xs,h,hl=>by
  simp only [List.length_cons] at hl
  have ho:o<cur.toList.length:=by rw [Array.length_toList];omega
  have:=putL_take r (cur.setIfInBounds o v) (o+1) (xs++[v]) (by
   rw [Array.toList_setIfInBounds,List.take_add_one,List.getElem?_set_self ho,List.take_set_of_le (Nat.le_refl o),h];rfl) (by simp;omega)
  rw [putL,List.length_cons,show o+(r.length+1)=o+1+r.length by omega,this]
  simp
section
variable {w0 w w':World} {p q:Piece} {ps qs:List Piece} {e:TypeId} {n:Nat} {v:Value} {xs:List Value}
theorem Own.slf_cases(h:Own w0 w (slf e v n xs::ps)):∃ g cap cur fr,v=.slice (some ⟨g,0,none⟩) n cap∧xs.length=n∧n≤cap∧cap≤maxLen∧cur.size=cap∧(fr.2≤fr.1∨cap≤fr.1)∧cur.toList.take n=xs∧Own w0 w (blk g (.cells cur e fr)::ps):=by
 obtain ⟨⟨g,cap,cur,fr⟩,h⟩:=h.ex
 obtain ⟨⟨h1,h2,h3,h4,h5,h6,h7⟩,h8⟩:=h.star.fact
 exact ⟨g,cap,cur,fr,h2,h1,h3,h4,h5,h6,h7,h8⟩
theorem Own.slf_mk{g cap:Nat}{cur:Array Value}{fr:Nat × Nat}(h:Own w0 w (blk g (.cells cur e fr)::ps))(hl:xs.length=n)(h1:n≤cap)(h2:cap≤maxLen)(h3:cur.size=cap)(h4:fr.2≤fr.1∨cap≤fr.1)(h5:cur.toList.take n=xs) :
 Own w0 w (slf e (.slice (some ⟨g,0,none⟩) n cap) n xs::ps):=
 ((h.unfact (φ:=xs.length=n∧Value.slice (some ⟨g,0,none⟩) n cap=.slice (some ⟨g,0,none⟩) n cap∧n≤cap∧cap≤maxLen∧cur.size=cap∧(fr.2≤fr.1∨cap≤fr.1)∧cur.toList.take n=xs) ⟨hl,rfl,h1,h2,h3,h4,h5⟩).unstar).unex (f:=slfP e _ n xs) (g,cap,cur,fr)
theorem Own.slf_rd(h:Own w0 w (slf e v n xs::ps)):Rd w 1 v n xs:=by
 obtain ⟨g,cap,cur,fr,rfl,hl,h1,h2,h3,h4,h5,H⟩:=h.slf_cases
 refine ⟨by omega,_,_,rfl,h1,h2,by simp,?_⟩
 intro ad had j u hu
 obtain rfl:=Option.some.inj had
 rw [Addr.add_lit,Nat.zero_add,H.cell,← Array.getElem?_toList]
 rw [← h5,List.getElem?_take] at hu
 split at hu
 ·exact hu
 ·cases hu
theorem Own.setCells{g:Nat}{fr:Nat × Nat}:∀ (vs:List Value) (o:Nat) {w:World} {cur:Array Value},Own w0 w (blk g (.cells cur e fr)::ps)→Own w0 (w.setCells g o vs) (blk g (.cells (putL cur o vs) e fr)::ps)
 | [],_,_,_,h=>h
 | v::r,o,_,_,h=>Own.setCells r (o+1) (h.set o v)
variable {P:Program} {t tx ty:TypeId} {i:TypeInfo} {z:Value} {bytes:Nat}
theorem run_append_slf(H:Own w0 w (slf e v n xs::ps))(ht:P.underlying t=some (.slice e))(hi:P.info? e=some i)(hz:i.zero=some z)(hsize:i.size=1)(hby:i.bytes=1)(hzs:z.cells.size=1)
 {x:Value} {m:Nat} {news:List Value} (hx:Src P 1 tx x m news w) (h63:n+m≤140737488355328) :
 ∃ v' w',(Builtin.append_ #[t,tx] ty #[v,x]).run P w=.ok v' w'∧Own w0 w' (slf e v' (n+m) (xs++news)::ps):=by
 have hnews:=hx.newsLen
 rw [Nat.mul_one] at hnews
 have hrd:=H.slf_rd
 obtain ⟨g,cap,cur,fr,rfl,hl,h1,h2,h3,h4,h5,h6⟩:=H.slf_cases
 have hlen:(xs++news).length=n+m:=by rw [lJ,hl,hnews]
 rw [← hsize] at hx
 by_cases hroom:n+m≤cap
 ·have hr:=run_append_room_src (P:=P) w t tx ty e i ht hi g 0 n cap x m news hx hroom (fun j hj=>by
   rw [h6.cell,hsize,Array.getElem?_eq_getElem (by omega)];rfl) (fun j hj=>by
   simp only [World.frozen?,h6.block.1,hsize]
   rcases h4 with h4 | h4
   ·simp;omega
   ·simp;omega)
  refine ⟨_,_,hr,?_⟩
  rw [hsize,Nat.zero_add,Nat.mul_one]
  refine (Own.setCells news n h6).slf_mk hlen hroom h2 (by rw [putL_size];exact h3) h4 ?_
  rw [← hnews]
  exact putL_take news cur n xs h5 (by omega)
 ·have holds:∀ j u,xs[j]?=some u→w.cell? ((⟨g,0,none⟩:Addr).add j)=some u:=by
   obtain ⟨_,_,_,hv,_,_,_,hcl⟩:=hrd
   cases hv
   exact hcl _ rfl
  have hfo:=run_firstCells_some (P:=P) w.drew i.size n ⟨g,0,none⟩ n cap xs (by rw [hsize];omega) (by simpa using holds)
  have hr:=run_append_grow_src (P:=P) w t tx ty e i z ht hi hz (some ⟨g,0,none⟩) n cap xs hfo x m news hx (by omega) (by omega) (growslice_fits (by omega) (by rw [hby];omega))
  have hge:=grownCap_ge w (n+m) cap e
  have hcm:grownCap w (n+m) cap e≤maxLen:=grownCap_le_maxLen w (n+m) cap e (by simp only [maxLen];omega)
  refine ⟨_,_,hr,(h6.drop.drew.alloc _).slf_mk hlen hge hcm ?_ (.inl (Nat.le_refl _)) ?_⟩
  ·simp only [Array.size_append,List.size_toArray,size_zeroCells,hzs,hlen]
   omega
  ·simp only [Array.toList_append]
   rw [← hlen]
   exact List.take_left
theorem wpList_append_slf{ops:Array Oper}{rest:List Oper}{o:Oper}{a:Act}{Q:Exit→Act→World→Prop}(hgd:o.guard=none)(x y:Operand)
 (ho:o.op=.call { callee:=.builtin .append,args:=#[x,y],argTypes:=#[t,tx] })
 (ht:P.underlying t=some (.slice e)) (hinfo:(P.info? e).map (fun i=>(i.zero,i.size,i.bytes))=some (some z,1,1)) (hzs:z.cells.size=1)
 (hs:a.eval x=v) (H:Own w0 w (slf e v n xs::ps)) {u:Value} {m:Nat} {news:List Value} (hu:a.eval y=u) (hx:Src P 1 tx u m news w)
 (h63:n+m≤140737488355328)
 (h:∀ v' w',Own w0 w' (slf e v' (n+m) (xs++news)::ps)→wpList P ops Q rest (a.put o.dst v') w'):wpList P ops Q (o::rest) a w:=by
 obtain ⟨i,hi,hz,hsize,hby⟩:=info_parts hinfo
 refine wpList_plain hgd fun K hK=>?_
 obtain ⟨v',w',hr,h2⟩:=run_append_slf (P:=P) (ty:=o.type) H ht hi hz hsize hby hzs hx h63
 unfold Oper.wp execOp
 simp only [ho,resolve,invoke,builtin,Sem.run_bind,Sem.run_pure,Result.andThen_ok,List.map_toArray,List.map_cons,List.map_nil,hs,hu,hr]
 exact hK _ _ (h v' w' h2)
theorem wpList_append_slf_one{ops:Array Oper}{rest:List Oper}{o:Oper}{a:Act}{Q:Exit→Act→World→Prop}(hgd:o.guard=none)(x y:Operand)
 (ho:o.op=.call { callee:=.builtin .append,args:=#[x,y],argTypes:=#[t,t] })
 (ht:P.underlying t=some (.slice e)) (hinfo:(P.info? e).map (fun i=>(i.zero,i.size,i.bytes))=some (some z,1,1)) (hzs:z.cells.size=1)
 (hs:a.eval x=v) (H:Own w0 w (slf e v n xs::ps)) {u:Value} {c:Nat} (hu:a.eval y=.slice (some ⟨w.heap.size,0,none⟩) 1 c) (hc:c=1) (h1:u.oneCell'=true)
 (h63:n+1≤140737488355328)
 (h:∀ v' w',Own w0 w' (slf e v' (n+1) (xs++[u])::ps)→wpList P ops Q rest (a.put o.dst v') w'):wpList P ops Q (o::rest) a (w.alloc (.cells #[u] e)):=by
 subst hc
 obtain ⟨_,a',c',hv,_,_,_,hcl⟩:=(H.made [u] e 1 1 rfl (by simp [maxLen])).rd
 cases hv
 exact wpList_append_slf hgd x y ho ht hinfo hzs hs (H.alloc' _) hu (Src.ofSlice (w:=w.alloc (.cells #[u] e)) (size:=1) ht _ 1 1 [u] rfl (hcl _ rfl) (by simpa using h1)) h63 h
theorem Rd.part{a:Option Addr}{c m:Nat}(h:Rd w 1 (.slice a n c) n xs)(hm:m≤n):Rd w 1 (.slice a m c) m (xs.take m):=by
 obtain ⟨hl,a',c',e,h1,h2,h3,h4⟩:=h
 cases e
 refine ⟨by rw [List.length_take];omega,_,_,rfl,by omega,h2,fun e=>?_,fun ad had j u hu=>?_⟩
 ·have:=h3 e;omega
 ·rw [List.getElem?_take] at hu
  split at hu
  ·exact h4 ad had j u hu
  ·cases hu
theorem wpList_bytesOf2{ops:Array Oper}{rest:List Oper}{o:Oper}{a:Act}{Q:Exit→Act→World→Prop}(hgd:o.guard=none){src dst el:TypeId}(x:Operand)(ho:o.op=.convert src dst x)(hs:P.underlying src=some .string)(hd:P.underlying dst=some (.slice el))(he:P.underlying el=some (.int .u8))
 {s:ByteArray} (hx:a.eval x=.string s) (hsz:s.size≤140737488355328) (H:Own w0 w ps)
 (h:∀ v w',Own w0 w' (slf el v s.size (bts (bn s))::ps)→wpList P ops Q rest (a.put o.dst v) w'):wpList P ops Q (o::rest) a w:=by
 refine wpList_plain hgd fun K hK=>?_
 have hr:=run_bytes_of_string (P:=P) w src dst el s hs hd he
 unfold Oper.wp execOp
 simp only [ho,hx,Sem.run_bind,hr,Result.andThen_ok,Sem.run_pure]
 have hge:=grownCap_ge w s.size 0 el
 have hle:=grownCap_le_maxLen w s.size 0 el (by simp [maxLen];omega)
 have hrow:bytesRow s (grownCap w s.size 0 el)=(bts (bn s)++List.replicate (grownCap w s.size 0 el-s.size) (Value.int .u8 0)).toArray:=by
  apply Array.toList_inj.1
  simp [bytesRow,bts,bn]
 have hsz2:(bytesRow s (grownCap w s.size 0 el)).size=grownCap w s.size 0 el:=by
  rw [hrow,List.size_toArray,lJ,Qx,Qu,List.length_replicate];omega
 refine hK _ _ (h _ _ ((H.drew.alloc _).slf_mk (by rw [Qx,Qu]) hge hle hsz2 ?_ ?_))
 ·right;show _≤(bytesRow s (grownCap w s.size 0 el)).size;omega
 ·rw [hrow,← Qu,← Qx]
  exact List.take_left
end
def widG(n:Nat):Nat→Nat→Nat
 | 0,w=>w
 | f+1,w=>if 0<n/2^(8*w) then widG n f (w+1) else w
def widF(n:Nat):Nat:=widG n 8 1
theorem widG_le(n:Nat)(hn:n<4294967296):∀ (f w:Nat),1≤w→w≤4→1≤widG n f w∧widG n f w≤4
 | 0,w,h1,h2=>by rw [widG];exact ⟨h1,h2⟩
 | f+1,w,h1,h2=>by
  rw [widG]
  split
  ·rename_i h
   have:w≠4:=by
    intro e
    subst e
    rw [Nat.div_eq_of_lt hn] at h
    exact absurd h (by decide)
   exact widG_le n hn f (w+1) (by omega) (by omega)
  ·exact ⟨h1,h2⟩
theorem widF_le{n:Nat}(hn:n<4294967296):1≤widF n∧widF n≤4:=widG_le n hn 8 1 (by decide) (by decide)
set_option maxHeartbeats 800000 in
theorem enwidth_any(n:Nat)(hn:n<4294967296)(w:World):Calls Tryz.prog 120 #[.int .i64 n] w (fun e w'=>e=.returned (.int .i64 (widF n:Nat))∧w'=w):=by
 obtain ⟨R,hR⟩:∃ r,Hid (widF n=r):=⟨_,rfl⟩
 rw [hR.out]
 replace hn:=jd hn
 go_enter Tryz.func120,Tryz.ntmps120
 go_wp2_with fail
 go_loopw [3] (fun v3 wx=>wx=w∧∃ k f:Nat,v3=.int .i64 k∧1≤k∧k≤4∧Hid (f+k=9)∧Hid (widG n f k=R)) (fun v3 _=>9-(intOf v3).toNat)
 case atStart=>exact ⟨rfl,1,8,by go_num,by omega,by omega,jd rfl,hR⟩
 case round=>
  obtain ⟨rfl,k,f,rfl,hk1,hk4,hfk,hG⟩:=hrel
  have e1:IntKind.i64.wrap (8*(k:Int))=((8*k:Nat):Int):=by rw [IntWalk.i64_in _ ⟨by omega,by omega⟩];omega
  obtain ⟨q,hq⟩:∃ q,Hid (8*k=q):=⟨_,rfl⟩
  rw [hq.out] at e1
  have hq64:(q:Int)<64:=by have:=hq.out;omega
  have hq0:¬ (q:Int)<0:=by omega
  obtain ⟨d,hd⟩:∃ d,Hid (n/2^q=d):=⟨_,rfl⟩
  have e2:(n:Int)/2^q=(d:Int):=by rw [← hd.out];push_cast;rfl
  obtain ⟨f,rfl⟩:∃ f',f=f'+1:=⟨f-1,by have:=hfk.out;omega⟩
  rw [widG,hq.out,hd.out] at hG
  by_cases h0:0<d
  ·have h0I:(0:Int)<(d:Int):=by omega
   rw [if_pos h0] at hG
   have hk3:k≠4:=by
    intro e
    have h1:=hq.out
    have h2:=hd.out
    rw [← h1,e,Nat.div_eq_of_lt hn.out] at h2
    omega
   replace hk3:=jd hk3
   go_wp2_with fail
   go_roundw
   case rel=>exact ⟨(by first | rfl | trivial),k+1,f,by go_num,by omega,by have:=hk3.out;omega,jd (by have:=hfk.out;omega),hG⟩
   case measure=>simp [intOf];omega
  ·rw [if_neg h0] at hG
   obtain rfl:k=R:=hG.out
   have h0I:¬ (0:Int)<(d:Int):=by omega
   go_wp2
   go_ret
   exact ⟨rfl,rfl⟩
def numB(n:Nat):Nat→List Int
 | 0=>[]
 | i+1=>numB n i++[IntKind.u8.wrap ((n:Int)/2^(8*(widF n-1-i)))]
theorem numB_length(n:Nat):∀ i,(numB n i).length=i
 | 0=>rfl
 | i+1=>by rw [numB,lJ,numB_length n i];rfl
def numL(n:Nat):List Int:=if n≤247 then [IntKind.u8.wrap (n:Int)] else IntKind.u8.wrap ((247+widF n:Nat):Int)::numB n (widF n)
def numF(n:Nat):ByteArray:=strOfNums (numL n)
theorem numF_size{n:Nat}(hn:n<4294967296):(numF n).size≤5:=by
 have:=widF_le hn
 rw [numF,strOfNums_size,numL]
 split
 ·simp
 ·rw [List.length_cons,numB_length];omega
set_option maxRecDepth 100000 in
set_option maxHeartbeats 6400000 in
theorem ennum_any{w:World}{v:Value}(n:Nat)(hn:n<4294967296)(hr:Rd w 1 v 1 (nums [(n:Int)])) :
 Calls Tryz.prog 74 #[v] w (fun e w'=>e=.returned (.string (numF n))∧Own w w' []):=by
 obtain ⟨R,hR⟩:∃ r,Hid (numF n=r):=⟨_,rfl⟩
 rw [hR.out]
 obtain ⟨b,o,c,rfl,hc1,hc2⟩:=Rd.some hr (by simp [nums])
 have hcell:=Rd.cell hr (j:=0) (u:=.int .i64 n) (by simp [nums])
 rw [Nat.add_zero] at hcell
 replace hcell:=jd hcell
 have hblk:=jd (fun w' (h:Own w w' [])=>Rd.cell (hr.old h) (j:=0) (u:=.int .i64 n) (by simp [nums]))
 have hwid:=jd (enwidth_any n hn)
 have hwl:=widF_le hn
 have H:=(Own.start w).nil 5 1
 have hmx:¬ (n:Int)<0:=by omega
 have hmn:¬ (72057594037927935:Int)<(n:Int):=by omega
 clear hr
 go_enter Tryz.func74,Tryz.ntmps74
 go_wp2_with fail
 go_loopw [3,5,6,7,10,33] (fun v3 _ _ _ v10 _ wx=>(v3=.slice none 0 0∧v10=.int .i64 0∧wx=w)∨(v10=.int .i64 1∧Own w wx (slc 5 1 v3 (numL n).length (bts (numL n))::[]))) (fun _ _ _ _ v10 _ _=>1-(intOf v10).toNat)
 case atStart=>exact .inl ⟨rfl,by go_num,rfl⟩
 case round=>
  rcases hrel with ⟨rfl,rfl,rfl⟩ | ⟨rfl,H2⟩
  ·have c0:=hcell.out
   by_cases h247:n≤247
   ·have h247I:(n:Int)≤247:=by omega
    obtain ⟨y,hy⟩:∃ y,IntKind.u8.wrap (n:Int)=y:=⟨_,rfl⟩
    have hnl:Hid (numL n=[y]):=jd (by rw [numL,if_pos h247,hy])
    rw [hnl.out]
    go_wp2_with (at_builtin;refine Qf (news:=bts [y]) rfl _ _ rfl Tryz.underlying58 Vw rfl (by decide) rfl H rfl rfl rfl (bts_one _) (by omega) (by omega) ?_;clear H c0;intro v2 w2 H2)
    go_roundw
    case rel=>exact .inr ⟨by go_num,by rw [Nat.zero_add,List.nil_append] at H2;exact H2⟩
    case measure=>simp [intOf]
   ·have h247I:¬ (n:Int)≤247:=by omega
    obtain ⟨W,hW⟩:∃ r,Hid (widF n=r):=⟨_,rfl⟩
    rw [hW.out] at hwid hwl
    obtain ⟨hw1,hw4⟩:=hwl
    have e0:IntKind.i64.wrap (247+(W:Int))=((247+W:Nat):Int):=by rw [IntWalk.i64_in _ ⟨by omega,by omega⟩];omega
    obtain ⟨m0,hm0⟩:∃ m,Hid (247+W=m):=⟨_,rfl⟩
    rw [hm0.out] at e0
    obtain ⟨y0,hy0⟩:∃ y,IntKind.u8.wrap (m0:Int)=y:=⟨_,rfl⟩
    have hnl:Hid (numL n=y0::numB n W):=jd (by rw [numL,if_neg h247,hW.out,hm0.out,hy0])
    go_wp2_with fail
    refine (hwid.out _).mono ?_
    rintro e w2 ⟨rfl,hw2⟩
    obtain rfl:wr=w2:=hw2.symm
    go_upto_region 10 with (at_builtin;refine Qf (news:=bts [y0]) rfl _ _ rfl Tryz.underlying58 Vw rfl (by decide) rfl H rfl rfl rfl (bts_one _) (by omega) (by omega) ?_;clear H c0;intro v2 w2 H2)
    rw [Nat.zero_add,List.nil_append] at H2
    replace H2:Own wr w2 (slc 5 1 v2 (1+0) (bts (y0::numB n 0))::[]):=H2
    go_wp2_with fail
    go_loopw [3,7,33] (fun v3 _ v33 wx=>∃ i:Nat,v33=.int .i64 i∧i≤W∧Own wr wx (slc 5 1 v3 (1+i) (bts (y0::numB n i))::[])) (fun _ _ v33 _=>W-(intOf v33).toNat)
    case atStart=>exact ⟨0,by go_num,by omega,H2⟩
    case round=>
     clear H2
     obtain ⟨i,rfl,hi,H2⟩:=hrel
     obtain ⟨a5,c5,rfl,g1,g2⟩:=H2.rd.shape
     by_cases hiW:i<W
     ·have hiI:(i:Int)<(W:Int):=by omega
      obtain ⟨q,hq⟩:∃ q,Hid (W-1-i=q):=⟨_,rfl⟩
      obtain ⟨r,hr⟩:∃ r0,Hid (8*q=r0):=⟨_,rfl⟩
      have e1:IntKind.i64.wrap ((W:Int)-1)=(W:Int)-1:=IntWalk.i64_in _ ⟨by omega,by omega⟩
      have e2:IntKind.i64.wrap ((W:Int)-1-(i:Int))=(q:Int):=by have:=hq.out;rw [IntWalk.i64_in _ ⟨by omega,by omega⟩];omega
      have e3:IntKind.i64.wrap (8*(q:Int))=(r:Int):=by have:=hr.out;have:=hq.out;rw [IntWalk.i64_in _ ⟨by omega,by omega⟩];omega
      have hr64:(r:Int)<64:=by have:=hr.out;have:=hq.out;omega
      have hr0:¬ (r:Int)<0:=by omega
      obtain ⟨y,hy⟩:∃ y,IntKind.u8.wrap ((n:Int)/2^r)=y:=⟨_,rfl⟩
      have hst:Hid (numB n (i+1)=numB n i++[y]):=jd (by rw [numB,hW.out,hq.out,hr.out,hy])
      go_wp2_with (at_builtin;refine Qf (news:=bts [y]) rfl _ _ rfl Tryz.underlying58 Vw rfl (by decide) rfl H2 rfl rfl rfl (bts_one _) (by omega) (by omega) ?_;clear H2 g1 g2;intro v5 w5 H2)
      rw [← Zv,List.cons_append,← hst.out] at H2
      obtain ⟨a6,c6,rfl,g1,g2⟩:=H2.rd.shape
      go_roundw
      case rel=>exact ⟨i+1,by go_num,by omega,H2⟩
      case measure=>simp [intOf];omega
     ·obtain rfl:i=W:=by omega
      have hnI:¬ (i:Int)<(i:Int):=by omega
      have hlen:Hid ((numL n).length=1+i):=jd (by rw [hnl.out,List.length_cons,numB_length];omega)
      rw [← hnl.out] at H2
      go_wp2_with fail
      go_roundw
      case rel=>exact .inr ⟨by go_num,by rw [hlen.out];exact H2⟩
      case measure=>simp [intOf]
  ·obtain ⟨a4,c4,rfl,g1,g2⟩:=H2.rd.shape
   have hs2:=Js (P:=Tryz.prog) 58 9 Tryz.underlying58 Tryz.underlying5 Tryz.underlying9 H2.rd
   rw [show strOfNums (numL n)=R from hR.out] at hs2
   go_wp2
   go_ret
   exact ⟨rfl,H2.bare⟩
def textF(s:ByteArray):ByteArray:=numF s.size++s
theorem textF_size{s:ByteArray}(hs:s.size<4294967296):(textF s).size≤s.size+5:=by
 have:=numF_size hs
 rw [textF,ByteArray.size_append];omega
set_option maxHeartbeats 800000 in
theorem entext_any(s:ByteArray)(hs:s.size<4294967296)(w:World) :
 Calls Tryz.prog 76 #[.string s] w (fun e w'=>e=.returned (.string (textF s))∧Own w w' []):=by
 have H:=(Own.start w).made [.int .i64 s.size] 3 1 1 rfl (by decide)
 have hS:=jd (ennum_any s.size hs H.rd)
 have hz:=numF_size hs
 unfold textF
 obtain ⟨F,hF⟩:∃ r,Hid (numF s.size=r):=⟨_,rfl⟩
 rw [hF.out] at hS hz ⊢
 have hb:¬ 9223372036854775807<F.size+s.size:=by omega
 go_enter Tryz.func76,Tryz.ntmps76
 go_wp2_with fail
 refine hS.out.mono ?_
 rintro e w1 ⟨rfl,H1⟩
 go_wp2
 go_ret
 exact ⟨rfl,(H.join H1).bare⟩
def ndF(i:Int):ByteArray:=(⟨#[83,76,68,71]⟩:ByteArray)++fixF i 8
theorem nd_size(i:Int):(ndF i).size=12:=by rw [ndF,ByteArray.size_append,Zp _ (by decide)];rfl
set_option maxHeartbeats 800000 in
theorem blnonce_any(i:Int)(w:World):Calls Tryz.prog 46 #[.int .i64 i] w (fun e w'=>e=.returned (.string (ndF i))∧Own w w' []):=by
 have hF:=jd (fxd_any i 8 (by decide) w)
 unfold ndF
 obtain ⟨F,hf⟩:∃ r,Hid (fixF i 8=r):=⟨_,rfl⟩
 have hFs:F.size=8:=by rw [← hf.out];exact Zp _ (by decide)
 rw [hf.out] at hF ⊢
 go_enter Tryz.func46,Tryz.ntmps46
 go_wp2_with fail
 refine hF.out.mono ?_
 rintro e w1 ⟨rfl,H1⟩
 go_wp2
 go_ret
 exact ⟨rfl,H1⟩
def keysV(a b c:ByteArray):Value:=.agg #[.string a,.string b,.string c]
set_option maxHeartbeats 1600000 in
theorem blright_any(a b c:ByteArray)(ha:a.size=32)(i:Nat)(hi:i<256)(w:World):Calls Tryz.prog 44 #[keysV a b c,.int .i64 i] w (fun e w'=>e=.returned (.bool true)∧Own w w' []):=by
 have hiI:(i:Int)<256:=by omega
 have ha2:(a.size:Int)=32:=by omega
 have H:=(Own.start w).alloc (.cells #[.string a,.string b,.string c] 51)
 unfold keysV
 go_enter Tryz.func44,Tryz.ntmps44
 go_upto_region 1 with (fail)
 generalize w.alloc _=w1 at *
 generalize w.heap.size=g at *
 have c0:=H.cells
 go_wp2
 go_ret
 exact ⟨rfl,H.bare⟩
def btagF(k:ByteArray)(i:Int)(s:ByteArray):ByteArray:=tagF k (bns [fixF i 4,s])
set_option maxRecDepth 100000 in
set_option maxHeartbeats 1600000 in
theorem bltag_any(a b c s:ByteArray)(hb:b.size≤1000)(hs:s.size≤1000000)(i:Int)(w:World):Calls Tryz.prog 47 #[keysV a b c,.int .i64 i,.string s] w (fun e w'=>e=.returned (.string (btagF b i s))∧Own w w' []):=by
 have hF:=jd (fxd_any i 4 (by decide))
 obtain ⟨RES,hRES⟩:∃ r,Hid (btagF b i s=r):=⟨_,rfl⟩
 rw [hRES.out]
 obtain ⟨F,hf⟩:∃ r,Hid (fixF i 4=r):=⟨_,rfl⟩
 have hFs:F.size=4:=by rw [← hf.out];exact Zp _ (by decide)
 rw [hf.out] at hF
 have hR2:Hid (tagF b (bns [F,s])=RES):=jd (by rw [← hRES.out,btagF,hf.out])
 have H:=(Own.start w).alloc (.cells #[.string a,.string b,.string c] 51)
 unfold keysV
 go_enter Tryz.func47,Tryz.ntmps47
 go_upto_region 1 with (fail)
 generalize w.alloc _=w1 at *
 generalize w.heap.size=g at *
 have hF2:Hid (∀ w1 qs,Own w w1 qs→Calls Tryz.prog 89 #[.int .i64 i,.int .i64 4] w1 (fun e w2=>e=.returned (.string F)∧Own w w2 qs)):=jd fun w1 qs h=>(hF.out w1).mono fun e w2 g2=>⟨g2.1,h.join g2.2⟩
 refine wp_region_new (fun σ w1=>Own w w1 (newR (.cells #[.string F,.string s] 9) 2 (σ 5)++(blk g (.cells #[.string a,.string b,.string c] 51)::[]))) 6 [5] (by kernel_rfl) (by kernel_rfl) H.drew ?_
 simp only [List.take_succ_cons,List.take_zero,List.drop_succ_cons,List.drop_zero]
 repeat
  first
  | (refine calm_value (v:=?_) (by decide) rfl (fun σ w1 hS=>?_) ?_
     rotate_left
     ·have c0:=hS.skip.cells
      first | (go_simp;rfl) | rfl
     simp only [Act.put,putC])
  | (refine calm_skip (by decide) rfl ?_
     simp only [Act.put,putC])
 refine calm_call (v:=.string F) (by decide) rfl (fun w1=>(by go_simp)) (fun σ w1 hS=>hF2.out w1 _ hS) ?_
 simp only [Act.put,putC]
 repeat
  first
  | (refine calm_value (v:=?_) (by decide) rfl (fun σ w1 hS=>?_) ?_
     rotate_left
     ·have c0:=hS.skip.cells
      first | (go_simp;rfl) | rfl
     simp only [Act.put,putC])
  | (refine calm_skip (by decide) rfl ?_
     simp only [Act.put,putC])
 refine calm_row (by decide) (fun w1=>(by go_simp)) ?_
 refine calm_nil ?_
 intro σ wd hσ HD
 obtain ⟨vn,hvn⟩:=Option.isSome_iff_exists.1 (hσ 5 (by decide))
 rw [hvn] at HD
 obtain ⟨g2,rfl,HN⟩:=HD.newr
 clear HD H
 simp only [Jx,List.foldl_cons,List.foldl_nil,hvn]
 simp only [Act.put,List.setIfInBounds_toArray,List.set_cons_zero,List.set_cons_succ,List.getElem?_cons_succ,List.getElem?_cons_zero,Option.bind_some,Option.getD_some]
 have hrow:=(HN.slc_mk (xs:=[.string F,.string s]) (n:=2) (size:=1) rfl (Nat.le_refl _) (by decide) rfl rfl).rd
 have hT:=jd (mctag_any (key:=b) (l:=[F,s]) (by omega) hrow (by simp only [bns,List.flatMap_cons,List.flatMap_nil,List.append_nil,lJ,Qu];omega))
 rw [hR2.out] at hT
 go_wp2_with fail
 refine hT.out.mono ?_
 rintro e w3 ⟨rfl,H3⟩
 go_wp2
 go_ret
 exact ⟨rfl,(HN.join H3).bare⟩
def sealF(ke km:ByteArray)(i:Int)(chunk:ByteArray):ByteArray:=xorT ke (ndF i) chunk++btagF km i (xorT ke (ndF i) chunk)
theorem btag_size(k:ByteArray)(i:Int)(s:ByteArray):(btagF k i s).size=32:=Vy _ _
theorem seal_size(ke km:ByteArray)(i:Int){chunk:ByteArray}(h:chunk.size=192):(sealF ke km i chunk).size=224:=by
 rw [sealF,ByteArray.size_append,xorT_size,btag_size,h]
set_option maxRecDepth 100000 in
set_option maxHeartbeats 3200000 in
theorem blseal_any(a b c chunk:ByteArray)(ha:a.size=32)(hb:b.size≤1000)(hs:chunk.size=192)(i:Nat)(hi:i<256)(w:World) :
 Calls Tryz.prog 20 #[keysV a b c,.int .i64 i,.string chunk] w (fun e w'=>e=.returned (.tuple #[.string (sealF a b i chunk),.int .i64 0])∧Own w w' []):=by
 obtain ⟨X,hX⟩:∃ r,Hid (xorT a (ndF i) chunk=r):=⟨_,rfl⟩
 have hXs:X.size=192:=by rw [← hX.out,xorT_size,hs]
 obtain ⟨T,hT⟩:∃ r,Hid (btagF b i X=r):=⟨_,rfl⟩
 have hTs:T.size=32:=by rw [← hT.out];exact btag_size _ _ _
 rw [sealF,hX.out,hT.out]
 obtain ⟨N,hN⟩:∃ r,Hid (ndF i=r):=⟨_,rfl⟩
 have hNs:N.size=12:=by rw [← hN.out];exact nd_size _
 have h1:=jd (blright_any a b c ha i hi)
 have h2:=jd (blnonce_any (i:Int))
 rw [hN.out] at h2
 have h3:=jd (ccxor_any a N chunk ha hNs hs)
 rw [show xorT a N chunk=X by rw [← hN.out];exact hX.out] at h3
 have h4:=jd (bltag_any a b c X hb (by omega) (i:Int))
 rw [hT.out] at h4
 unfold keysV at *
 have hs2:(chunk.size:Int)=192:=by omega
 have H:=(Own.start w).alloc (.cells #[.string a,.string b,.string c] 51)
 go_enter Tryz.func20,Tryz.ntmps20
 go_upto_region 1 with (fail)
 generalize w.alloc _=w1 at *
 generalize w.heap.size=g at *
 have c0:=H.cells
 go_wp2_with fail
 refine (h1.out _).mono ?_
 rintro e w2 ⟨rfl,H2⟩
 replace H2:=H.join H2
 clear H c0
 go_upto_region 3 with (fail)
 have k2:Hid (∀ w1 qs,Own w w1 qs→Calls Tryz.prog 46 #[.int .i64 i] w1 (fun e w2=>e=.returned (.string N)∧Own w w2 qs)):=jd fun w1 qs h=>(h2.out w1).mono fun e w2 g2=>⟨g2.1,h.join g2.2⟩
 have k3:Hid (∀ w1 qs,Own w w1 qs→Calls Tryz.prog 45 #[.string a,.string N,.int .i64 1,.string chunk] w1 (fun e w2=>e=.returned (.tuple #[.string X,.int .i64 0])∧Own w w2 qs)):=jd fun w1 qs h=>(h3.out w1).mono fun e w2 g2=>⟨g2.1,h.join g2.2⟩
 replace H2:Own w w2 (blk g (.cells #[.string a,.string b,.string c] 51)::[]):=H2
 refine Qa (fun w1=>Own w w1 (blk g (.cells #[.string a,.string b,.string c] 51)::[])) 10 (by kernel_rfl) (by kernel_rfl) H2.drew ?_
 simp only [List.take_succ_cons,List.take_zero,List.drop_succ_cons,List.drop_zero]
 repeat
  first
  | (refine calm_value (v:=?_) (by decide) rfl (fun σ w1 hS=>?_) ?_
     rotate_left
     ·have c0:=hS.cells
      first | (go_simp;rfl) | rfl
     simp only [Act.put,putC])
  | (refine calm_skip (by decide) rfl ?_
     simp only [Act.put,putC])
 refine calm_call (v:=.string N) (by decide) rfl (fun w1=>(by go_simp)) (fun σ w1 hS=>k2.out w1 _ hS) ?_
 simp only [Act.put,putC]
 repeat
  first
  | (refine calm_value (v:=?_) (by decide) rfl (fun σ w1 hS=>?_) ?_
     rotate_left
     ·have c0:=hS.cells
      first | (go_simp;rfl) | rfl
     simp only [Act.put,putC])
  | (refine calm_skip (by decide) rfl ?_
     simp only [Act.put,putC])
 refine calm_call (v:=.tuple #[.string X,.int .i64 0]) (by decide) rfl (fun w1=>(by go_simp)) (fun σ w1 hS=>k3.out w1 _ hS) ?_
 simp only [Act.put,putC]
 repeat
  first
  | (refine calm_value (v:=?_) (by decide) rfl (fun σ w1 hS=>?_) ?_
     rotate_left
     ·have c0:=hS.cells
      first | (go_simp;rfl) | rfl
     simp only [Act.put,putC])
  | (refine calm_skip (by decide) rfl ?_
     simp only [Act.put,putC])
 refine calm_nil ?_
 intro wd HD
 clear H2
 have c0:=HD.cells
 go_wp2_with fail
 refine (h4.out _).mono ?_
 rintro e w3 ⟨rfl,H3⟩
 go_wp2
 go_ret2
 exact ⟨rfl,(HD.join H3).bare⟩
def hdrV(id:Int)(salt:ByteArray)(n bytes raw:Int)(root tag:ByteArray):Value:=.agg #[.int .i64 id,.string salt,.int .i64 n,.int .i64 bytes,.int .i64 raw,.string root,.string tag]
def hdrC(id:Int)(salt:ByteArray)(n bytes raw:Int)(root tag:ByteArray):Array Value:=#[.int .i64 id,.string salt,.int .i64 n,.int .i64 bytes,.int .i64 raw,.string root,.string tag]
def fldF(id:Int)(salt:ByteArray)(n bytes raw:Int)(root:ByteArray):ByteArray:=(⟨#[83,76,71,49]⟩:ByteArray)++fixF id 4++salt++fixF n 2++fixF bytes 4++fixF raw 4++root
set_option maxRecDepth 100000 in
set_option maxHeartbeats 3200000 in
theorem hdfields_any(id:Int)(salt:ByteArray)(n bytes raw:Int)(root tag:ByteArray)(h1:salt.size=16)(h2:root.size=32)(w:World) :
 Calls Tryz.prog 49 #[hdrV id salt n bytes raw root tag] w (fun e w'=>e=.returned (.string (fldF id salt n bytes raw root))∧Own w w' []):=by
 obtain ⟨A,hA⟩:∃ r,Hid (fixF id 4=r):=⟨_,rfl⟩
 obtain ⟨B,hB⟩:∃ r,Hid (fixF n 2=r):=⟨_,rfl⟩
 obtain ⟨C,hC⟩:∃ r,Hid (fixF bytes 4=r):=⟨_,rfl⟩
 obtain ⟨D,hD⟩:∃ r,Hid (fixF raw 4=r):=⟨_,rfl⟩
 have sA:A.size=4:=by rw [← hA.out];exact Zp _ (by decide)
 have sB:B.size=2:=by rw [← hB.out];exact Zp _ (by decide)
 have sC:C.size=4:=by rw [← hC.out];exact Zp _ (by decide)
 have sD:D.size=4:=by rw [← hD.out];exact Zp _ (by decide)
 have K:Hid (∀ (x:Int) (k:Nat) w1 qs,1≤k∧k≤8→Own w w1 qs→Calls Tryz.prog 89 #[.int .i64 x,.int .i64 k] w1 (fun e w2=>e=.returned (.string (fixF x k))∧Own w w2 qs)):=jd fun x k w1 qs hk h=>(fxd_any x k hk w1).mono fun e w2 g2=>⟨g2.1,h.join g2.2⟩
 have KA:Hid (∀ w1 qs,Own w w1 qs→Calls Tryz.prog 89 #[.int .i64 id,.int .i64 4] w1 (fun e w2=>e=.returned (.string A)∧Own w w2 qs)):=jd fun w1 qs h=>(by rw [← hA.out];exact K.out id 4 w1 _ (by decide) h)
 have KB:Hid (∀ w1 qs,Own w w1 qs→Calls Tryz.prog 89 #[.int .i64 n,.int .i64 2] w1 (fun e w2=>e=.returned (.string B)∧Own w w2 qs)):=jd fun w1 qs h=>(by rw [← hB.out];exact K.out n 2 w1 _ (by decide) h)
 have KC:Hid (∀ w1 qs,Own w w1 qs→Calls Tryz.prog 89 #[.int .i64 bytes,.int .i64 4] w1 (fun e w2=>e=.returned (.string C)∧Own w w2 qs)):=jd fun w1 qs h=>(by rw [← hC.out];exact K.out bytes 4 w1 _ (by decide) h)
 have KD:Hid (∀ w1 qs,Own w w1 qs→Calls Tryz.prog 89 #[.int .i64 raw,.int .i64 4] w1 (fun e w2=>e=.returned (.string D)∧Own w w2 qs)):=jd fun w1 qs h=>(by rw [← hD.out];exact K.out raw 4 w1 _ (by decide) h)
 have z1:((⟨#[83,76,71,49]⟩:ByteArray)++A).size=8:=by rw [ByteArray.size_append,sA];rfl
 have z2:((⟨#[83,76,71,49]⟩:ByteArray)++A++salt).size=24:=by rw [ByteArray.size_append,z1,h1]
 have z3:((⟨#[83,76,71,49]⟩:ByteArray)++A++salt++B).size=26:=by rw [ByteArray.size_append,z2,sB]
 have z4:((⟨#[83,76,71,49]⟩:ByteArray)++A++salt++B++C).size=30:=by rw [ByteArray.size_append,z3,sC]
 have z5:((⟨#[83,76,71,49]⟩:ByteArray)++A++salt++B++C++D).size=34:=by rw [ByteArray.size_append,z4,sD]
 unfold fldF hdrV
 rw [hA.out,hB.out,hC.out,hD.out]
 have H:=(Own.start w).alloc (.cells #[.int .i64 id,.string salt,.int .i64 n,.int .i64 bytes,.int .i64 raw,.string root,.string tag] 25)
 go_enter Tryz.func49,Tryz.ntmps49
 go_upto_region 1 with (fail)
 generalize w.alloc _=w1 at *
 generalize w.heap.size=g at *
 refine Qa (fun w1=>Own w w1 (blk g (.cells #[.int .i64 id,.string salt,.int .i64 n,.int .i64 bytes,.int .i64 raw,.string root,.string tag] 25)::[])) 22 (by kernel_rfl) (by kernel_rfl) H.drew ?_
 simp only [List.take_succ_cons,List.take_zero,List.drop_succ_cons,List.drop_zero]
 repeat
  first
  | (refine calm_value (v:=?_) (by decide) rfl (fun σ w1 hS=>?_) ?_
     rotate_left
     ·have c0:=hS.cells
      first | (go_simp;rfl) | rfl
     simp only [Act.put,putC])
  | (refine calm_skip (by decide) rfl ?_
     simp only [Act.put,putC])
 refine calm_call (v:=.string A) (by decide) rfl (fun w1=>(by go_simp)) (fun σ w1 hS=>KA.out w1 _ hS) ?_
 simp only [Act.put,putC]
 repeat
  first
  | (refine calm_value (v:=?_) (by decide) rfl (fun σ w1 hS=>?_) ?_
     rotate_left
     ·have c0:=hS.cells
      first | (go_simp;rfl) | rfl
     simp only [Act.put,putC])
  | (refine calm_skip (by decide) rfl ?_
     simp only [Act.put,putC])
 refine calm_call (v:=.string B) (by decide) rfl (fun w1=>(by go_simp)) (fun σ w1 hS=>KB.out w1 _ hS) ?_
 simp only [Act.put,putC]
 repeat
  first
  | (refine calm_value (v:=?_) (by decide) rfl (fun σ w1 hS=>?_) ?_
     rotate_left
     ·have c0:=hS.cells
      first | (go_simp;rfl) | rfl
     simp only [Act.put,putC])
  | (refine calm_skip (by decide) rfl ?_
     simp only [Act.put,putC])
 refine calm_call (v:=.string C) (by decide) rfl (fun w1=>(by go_simp)) (fun σ w1 hS=>KC.out w1 _ hS) ?_
 simp only [Act.put,putC]
 repeat
  first
  | (refine calm_value (v:=?_) (by decide) rfl (fun σ w1 hS=>?_) ?_
     rotate_left
     ·have c0:=hS.cells
      first | (go_simp;rfl) | rfl
     simp only [Act.put,putC])
  | (refine calm_skip (by decide) rfl ?_
     simp only [Act.put,putC])
 refine calm_call (v:=.string D) (by decide) rfl (fun w1=>(by go_simp)) (fun σ w1 hS=>KD.out w1 _ hS) ?_
 simp only [Act.put,putC]
 repeat
  first
  | (refine calm_value (v:=?_) (by decide) rfl (fun σ w1 hS=>?_) ?_
     rotate_left
     ·have c0:=hS.cells
      first | (go_simp;rfl) | rfl
     simp only [Act.put,putC])
  | (refine calm_skip (by decide) rfl ?_
     simp only [Act.put,putC])
 refine calm_nil ?_
 intro wd HD
 go_wp2
 go_ret
 exact ⟨rfl,HD.bare⟩
def htagF(key:ByteArray)(id:Int)(salt:ByteArray)(n bytes raw:Int)(root:ByteArray):ByteArray:=tagF key (bn (fldF id salt n bytes raw root))
theorem fld_size(id:Int)(salt:ByteArray)(n bytes raw:Int)(root:ByteArray)(h1:salt.size=16)(h2:root.size=32):(fldF id salt n bytes raw root).size=66:=by
 unfold fldF
 rw [ByteArray.size_append,ByteArray.size_append,ByteArray.size_append,ByteArray.size_append,ByteArray.size_append,ByteArray.size_append,Zp _ (by decide),Zp _ (by decide),Zp _ (by decide),Zp _ (by decide),h1,h2]
 rfl
set_option maxRecDepth 100000 in
set_option maxHeartbeats 3200000 in
theorem hdsign_any(key:ByteArray)(id:Int)(salt:ByteArray)(n bytes raw:Int)(root tag:ByteArray)(hk:key.size≤1000000)(h1:salt.size=16)(h2:root.size=32)(w:World) :
 Calls Tryz.prog 21 #[.string key,hdrV id salt n bytes raw root tag] w (fun e w'=>e=.returned (hdrV id salt n bytes raw root (htagF key id salt n bytes raw root))∧Own w w' []):=by
 obtain ⟨T,hT⟩:∃ r,Hid (htagF key id salt n bytes raw root=r):=⟨_,rfl⟩
 rw [hT.out]
 obtain ⟨F,hF⟩:∃ r,Hid (fldF id salt n bytes raw root=r):=⟨_,rfl⟩
 have hFs:F.size=66:=by rw [← hF.out];exact fld_size _ _ _ _ _ _ h1 h2
 have HF:=jd (hdfields_any id salt n bytes raw root tag h1 h2)
 rw [hF.out] at HF
 have HT:Hid (∀ w',Own w w' []→Calls Tryz.prog 48 #[.string key,.slice (some ⟨w'.heap.size,0,none⟩) 1 1] (w'.alloc (.cells #[.string F] 9)) (fun e w2=>e=.returned (.string T)∧Own w' w2 [])):=jd fun w' h=>by
  have h3:=(Own.start w').made [.string F] 9 1 1 rfl (by decide)
  have:=mctag_any (key:=key) (l:=[F]) (by omega) h3.rd (by simp only [bns,List.flatMap_cons,List.flatMap_nil,List.append_nil,Qu];omega)
  rw [show tagF key (bns [F])=T by rw [← hT.out,htagF,hF.out];simp [bns]] at this
  exact this.mono fun e w2 g=>⟨g.1,(h3.join g.2).bare⟩
 have H:=(Own.start w).alloc2 (.cells #[.int .i64 id,.string salt,.int .i64 n,.int .i64 bytes,.int .i64 raw,.string root,.string tag] 25) (.cells #[.int .i64 0,.string ⟨#[]⟩,.int .i64 0,.int .i64 0,.int .i64 0,.string ⟨#[]⟩,.string ⟨#[]⟩] 25)
 unfold hdrV at *
 go_enter Tryz.func21,Tryz.ntmps21
 go_upto_region 1 with (fail)
 generalize (w.alloc _).alloc _=w1 at *
 obtain ⟨gr,hgr⟩:∃ g,w.heap.size+1=g:=⟨_,rfl⟩
 rw [hgr] at H ⊢
 generalize w.heap.size=g at *
 clear hgr
 have c0:=(H.front 1 rfl).cells
 go_wp2_with fail
 refine (HF.out _).mono ?_
 rintro e w2 ⟨rfl,H2⟩
 replace H2:=H.join H2
 clear H c0
 go_wp2_with fail
 refine (HT.out w2 H2.bare).mono ?_
 rintro e w3 ⟨rfl,H3⟩
 replace H3:Own w w3 (blk gr (.cells #[.int .i64 0,.string ⟨#[]⟩,.int .i64 0,.int .i64 0,.int .i64 0,.string ⟨#[]⟩,.string ⟨#[]⟩] 25)::blk g (.cells #[.int .i64 id,.string salt,.int .i64 n,.int .i64 bytes,.int .i64 raw,.string root,.string tag] 25)::[]):=H2.join H3
 clear H2
 go_upto_region 2 with (refine wpList_store_string rfl _ _ rfl rfl H3.swap rfl (by kernel_rfl) (by simp) ?_;clear H3;intro w4 H3)
 simp only [Act.put]
 replace H3:Own w w4 (blk g (.cells #[.int .i64 id,.string salt,.int .i64 n,.int .i64 bytes,.int .i64 raw,.string root,.string T] 25)::blk gr (.cells #[.int .i64 0,.string ⟨#[]⟩,.int .i64 0,.int .i64 0,.int .i64 0,.string ⟨#[]⟩,.string ⟨#[]⟩] 25)::[]):=H3
 have c0:=H3.cells
 go_wp2_with (refine Qe rfl _ _ rfl rfl H3.swap (vs:=[.int .i64 id,.string salt,.int .i64 n,.int .i64 bytes,.int .i64 raw,.string root,.string T]) rfl (by kernel_rfl) (by simp) (by simp [Value.oneCell']) rfl ?_;clear H3 c0;intro w5 H3)
 have hl9:(loadVar 25 ⟨gr,0,none⟩).run Tryz.prog w5=.ok (.agg #[.int .i64 id,.string salt,.int .i64 n,.int .i64 bytes,.int .i64 raw,.string root,.string T]) w5:=run_loadVar_row w5 gr _ _ _ _ _ H3.block.1 Tryz.underlying25 rfl (by kernel_rfl)
 refine bodyPost_ret (v:=.agg #[.int .i64 id,.string salt,.int .i64 n,.int .i64 bytes,.int .i64 raw,.string root,.string T]) (res_cell1 (p:=4) (ty:=25) rfl _ _ gr _ rfl hl9) rfl ?_
 exact ⟨rfl,H3.bare⟩
set_option maxRecDepth 100000 in
set_option maxHeartbeats 6400000 in
theorem salt_any(s:ByteArray)(hs:s.size≤140737488351232)(w:World) :
 Calls Tryz.prog 6 #[.string s] w (Ret fun r w'=>∃ t:ByteArray,r=.string t∧t.size=16∧Own w w' []):=by
 have H:=Own.start w
 go_enter Tryz.func6,Tryz.ntmps6
 go_upto_region 1 with (fail)
 refine wp_region_list ?_
 refine wpList_value rfl (u:=.string s) (by go_simp) ?_
 simp only [Act.put,putC]
 refine wpList_bytesOf2 rfl _ rfl Tryz.underlying9 Tryz.underlying58 Tryz.underlying5 rfl (by omega) H ?_
 clear H
 intro v w1 H
 simp only [Act.put,putC]
 refine wpList_value rfl (u:=v) (by go_simp) ?_
 simp only [Act.put,putC]
 refine wpList_nil ?_
 go_wp2_with fail
 go_loopw [3] (fun v3 wx=>∃ (n:Nat) (xs:List Int),n≤140737488351400∧Own w wx (slf 5 v3 n (bts xs)::[])) (fun v3 _=>16-Jr v3)
 case atStart=>exact ⟨s.size,bn s,by omega,H⟩
 case round=>
  clear H
  obtain ⟨n,xs,hn,H⟩:=hrel
  obtain ⟨a,c,rfl,g1,g2⟩:=H.slf_rd.shape
  have hxl:=jd (show xs.length=n by have:=H.slf_rd.len;rw [Qx] at this;omega)
  by_cases h16:n<16
  ·have hI:(n:Int)<16:=by omega
   have e1:IntKind.u8.wrap (n:Int)=(n:Int):=IntWalk.u8_in _ ⟨by omega,by omega⟩
   go_wp2_with (at_builtin;refine wpList_append_slf_one rfl _ _ rfl Tryz.underlying58 Vw rfl rfl H rfl rfl rfl (by omega) ?_;clear H;intro v5 w5 H)
   obtain ⟨a6,c6,rfl,g3,g4⟩:=H.slf_rd.shape
   go_roundw
   case rel=>exact ⟨n+1,xs++[(n:Int)],by omega,by rw [Zv];exact H⟩
   case measure=>simp [Jr];omega
  ·have hI:¬ (n:Int)<16:=by omega
   have hc16:16≤c:=by omega
   have hrd:=H.slf_rd.part (m:=16) (by omega)
   rw [show (bts xs).take 16=bts (xs.take 16) by simp [bts,List.map_take]] at hrd
   have hs2:=Js (P:=Tryz.prog) 58 9 Tryz.underlying58 Tryz.underlying5 Tryz.underlying9 hrd
   have hz:Hid ((strOfNums (xs.take 16)).size=16):=jd (by rw [strOfNums_size,List.length_take,hxl.out];omega)
   obtain ⟨T,hT⟩:∃ T,Hid (strOfNums (xs.take 16)=T):=⟨_,rfl⟩
   rw [hT.out] at hs2 hz
   clear hrd
   go_wp2
   go_ret
   exact ⟨_,rfl,T,rfl,hz.out,H.bare⟩
set_option maxRecDepth 100000 in
set_option maxHeartbeats 6400000 in
theorem codes_any{w:World}{v:Value}{n:Nat}{F:List Int}(hr:Rd w 1 v n (nums F))(hn:n≤1000000) :
 Calls Tryz.prog 269 #[v] w (Ret fun r w'=>∃ ov,r=.tuple #[ov,.int .i64 (cerrF F)]∧Own w w' [slc 3 1 ov (cresF F).length (nums (cresF F))]):=by
 have hl:=jd (rd_len hr)
 obtain ⟨a,c,rfl,hc1,hc2⟩:=hr.shape
 have HR:=jd hr
 obtain ⟨er,her⟩:∃ er,Hid (cerrF F=er):=⟨_,rfl⟩
 obtain ⟨R,hRes⟩:∃ R,Hid (cresF F=R):=⟨_,rfl⟩
 rw [her.out,hRes.out]
 obtain ⟨RL,hRL⟩:∃ RL,Hid (R.length=RL):=⟨_,rfl⟩
 rw [hRL.out]
 obtain ⟨Z,hZ⟩:∃ Z,Hid (mayF F=Z):=⟨_,rfl⟩
 have HC:=jd (counts_any hr hn)
 rw [hZ.out] at HC
 clear hr
 have hnil:er≠0→R=[]∧RL=0:=fun h=>by
  have:R=[]:=by rw [← hRes.out];unfold cresF;rw [her.out,if_neg h]
  exact ⟨this,by rw [← hRL.out,this];rfl⟩
 have HNIL:=jd hnil
 clear hnil
 have hzl:(Qm 16).length=16:=by simp [Qm]
 go_enter Tryz.func269,Tryz.ntmps269
 go_wp2_with fail
 refine HC.out.mono ?_
 rintro e w1 ⟨_,rfl,⟨cs,hcs,rfl,hcs2⟩,H1⟩
 have HCS:=jd hcs2
 have H:=H1.alloc (.cells (nums (Qm 16)).toArray 423)
 rw [arr_zero] at H
 clear hcs2 HC H1
 go_upto_region 2 with (first
  | (generalize w1.alloc _=wa at *;rw [← arr_zero] at H;generalize w1.heap.size=cb at *;refine wpList_store16 rfl _ _ rfl rfl hzl hcs H rfl ?_;clear H;intro w2 H))
 cases Z with
 | false=>
  have e1:Hid (er=1):=jd (by rw [← her.out];unfold cerrF;rw [hZ.out];rfl)
  obtain ⟨e2,e3⟩:=HNIL.out (by rw [e1.out];decide)
  subst e3
  have E2:=jd e2
  clear e2
  go_wp2_with fail
  go_ret2
  refine ⟨_,rfl,_,by rw [e1.out];rfl,?_⟩
  rw [E2.out]
  exact H.bare.nil 3 1
 | true=>
  have hm:=mayF_len hZ.out
  have hcs2:=HCS.out rfl
  subst hcs2
  have hF:=hm.2
  have hn3:n≤320:=by have:=hm.1;have:=hl.out;omega
  have hlw:=left_law hF
  have hcb:∀ k,0≤(Zf F).getD k 0∧(Zf F).getD k 0≤1000000:=by
   intro k
   rcases Nat.lt_or_ge k 16 with h | h
   ·rw [counts_get hF k h]
    unfold cntC
    split
    ·omega
    ·have:=cntL_le F k;have:=hl.out;omega
   ·rw [List.getD_eq_getElem?_getD,List.getElem?_eq_none (by rw [counts_length];exact h)];simp
  have HL:=jd (fun w=>left_any (w:=w) hcs hcb)
  have HF:=jd hF
  have HCB:=jd hcb
  clear hm hF hcb
  by_cases hw:sumF wtF F≤2^15
  ·rw [if_pos hw] at hlw
   have e1:Hid (er=0):=jd (by rw [← her.out];unfold cerrF;rw [hZ.out,if_pos rfl,if_pos hw])
   have e2:Hid (Zc F=R):=jd (by rw [← hRes.out];unfold cresF;rw [her.out,e1.out];rfl)
   have HW:=jd hw
   obtain ⟨lf,hlf⟩:∃ lf,Hid (leftF (Zf F)=lf):=⟨_,rfl⟩
   rw [hlf.out] at hlw HL
   have hlf0:¬ lf<0:=by omega
   have hRl:n=RL:=by rw [← hRL.out,← e2.out,codesF_length];exact hl.out.symm
   subst hRl
   clear hw hlw
   go_wp2_with (refine wpList_load16 rfl _ rfl rfl hcs H ?_)
   refine (HL.out _).mono ?_
   rintro e w3 ⟨_,rfl,rfl,H1⟩
   have H:=H.join H1
   clear H1
   have H:=H.alloc (.cells (nums (Qm 16)).toArray 423)
   rw [arr_zero] at H
   go_upto_region 7 with (fail)
   generalize w3.alloc _=wa at *
   rw [← arr_zero] at H
   generalize w3.heap.size=nb at *
   go_wp2_with fail
   go_loopw [7] (fun s7 wx=>∃ (k:Nat) (nx:List Int),s7=.int .i64 k∧1≤k∧k≤15∧Hid (nx.length=16)∧Hid (∀ j,j≤k→nx.getD j 0=lowF F j)∧Own w wx (blk nb (.cells (nums nx).toArray 423)::blk cb (.cells (nums (Zf F)).toArray 423)::[])) (fun s7 _=>15-(intOf s7).toNat)
   case atStart=>exact ⟨1,Qm 16,by go_num,by omega,by omega,jd hzl,jd (fun j h=>by
    rw [Vg]
    rcases (by omega:j=0∨j=1) with rfl | rfl
    ·rw [lowF_zero]
    ·rw [lowF_succ,lowF_zero];rfl),H⟩
   case round=>
    clear H
    obtain ⟨k,nx,rfl,hk1,hk2,hnl,hnx,H⟩:=hrel
    have hcl:=counts_length F
    by_cases hlt:k<15
    ·have hkI:(k:Int)<15:=by omega
     have hk16:(k:Int)<16:=by omega
     have hk17:(k:Int)+1<16:=by omega
     have hkw:IntKind.i64.wrap ((k:Int)+1)=(k:Int)+1:=IntWalk.i64_in _ ⟨by omega,by omega⟩
     have hfit:k+1<(nums nx).toArray.size:=by rw [List.size_toArray,Qg];have:=hnl.out;omega
     have g0:∀ (ps':List Piece) (w':World),Own w w' (blk nb (.cells (nums nx).toArray 423)::blk cb (.cells (nums (Zf F)).toArray 423)::ps')→w'.cell? ⟨nb,k,none⟩=some (.int .i64 (lowF F k))∧w'.cell? ⟨cb,k,none⟩=some (.int .i64 (cntC F k)):=fun ps' w' h=>by
      constructor
      ·rw [h.cells,arr_get (by have:=hnl.out;omega),hnx.out k (Nat.le_refl _)]
      ·rw [h.swap.cells,arr_get (by omega),counts_get HF.out k (by omega)]
     have G0:=jd g0
     have hlow:=lowF_succ F k
     have hroom:=low_room HF.out HW.out (k+1) (by omega)
     have hpk:(2:Int)^(k+1)≤32768:=by
      have:(2:Nat)^(k+1)≤2^15:=Nat.pow_le_pow_right (by omega) (by omega)
      have h2:((2^(k+1):Nat):Int)≤((2^15:Nat):Int):=Int.ofNat_le.2 this
      simpa using h2
     have b1:=lowF_nonneg F k
     have b2:=cntC_nonneg F k
     have b3:=cntC_nonneg F (k+1)
     have hst:=arr_set nx (k+1) (lowF F (k+1))
     have hnx2:Hid (∀ j,j≤k+1→(nx.set (k+1) (lowF F (k+1))).getD j 0=lowF F j):=jd (fun j hj=>by
      rw [List.getD_eq_getElem?_getD,List.getElem?_set]
      by_cases h:k+1=j
      ·subst h;rw [if_pos rfl,if_pos (by have:=hnl.out;omega)];rfl
      ·rw [if_neg h,← List.getD_eq_getElem?_getD];exact hnx.out j (by omega))
     have hnl2:Hid ((nx.set (k+1) (lowF F (k+1))).length=16):=jd (by rw [List.length_set];exact hnl.out)
     generalize lowF F (k+1)=y2 at *
     generalize lowF F k=y at *
     generalize cntC F k=z at *
     generalize cntC F (k+1)=z2 at *
     generalize (2:Int)^(k+1)=pw at *
     generalize hnx':nx.set (k+1) y2=nx2 at *
     have HST:=jd hst
     clear hst hnx' hnx g0
     have hs1:IntKind.i64.wrap (y+z)=y+z:=IntWalk.i64_in _ ⟨by omega,by omega⟩
     have hs2:IntKind.i64.wrap ((y+z)*2)=y2:=by rw [hlow,Int.mul_comm];exact IntWalk.i64_in _ ⟨by omega,by omega⟩
     have HLOW:=jd hlow
     clear hlow hroom
     go_upto_region 10 with (fail)
     refine Qa (fun w1=>Own w w1 (blk nb (.cells (nums nx).toArray 423)::blk cb (.cells (nums (Zf F)).toArray 423)::[])) 10 (by kernel_rfl) (by kernel_rfl) H.drew ?_
     simp only [List.take_succ_cons,List.take_zero,List.drop_succ_cons,List.drop_zero]
     repeat
      first
      | (refine calm_value (v:=?_) (by decide) rfl (fun σ w1 hS=>?_) ?_
         rotate_left
         ·obtain ⟨c0,c1⟩:=G0.out _ _ hS
          first | (go_simp;rfl) | rfl
         simp only [Act.put,putC])
      | (refine calm_skip (by decide) rfl ?_
         simp only [Act.put,putC])
     refine calm_nil ?_
     intro wd HD
     clear H
     go_wp2_with (refine Qh rfl _ _ rfl rfl HD rfl (by kernel_rfl) hfit ?_;clear HD;intro w4 H;rw [HST.out] at H)
     go_roundw
     case rel=>exact ⟨k+1,nx2,by go_num,by omega,by omega,hnl2,hnx2,H⟩
     case measure=>simp [intOf];omega
    ·have hkI:¬ (k:Int)<15:=by omega
     have hk15:Hid (15≤k):=jd (by omega)
     have hmk:∀ w:World,(Instr.makeSlice 34 (.int .i64 n) (.int .i64 n)).run Tryz.prog w=.ok (.slice (some ⟨w.heap.size,0,none⟩) n n) (w.alloc (.cells (madeCells #[.int .i64 0] n) 3)):=run_make_row' _ _ _ 8 Tryz.underlying34 Vr rfl .i64 .i64 n (by omega) (by omega)
     go_upto_region 12 with (fail)
     clear hmk
     have H:=(H.alloc (.cells (madeCells #[.int .i64 0] n) 3)).slc_mk (xs:=nums (Qm n)) (n:=n) (size:=1) (by simp [nums,Qm]) (Nat.le_refl _) (by simp [maxLen];omega) (by simp [size_madeCells]) (by rw [toList_madeCells_one];simp [nums,Qm])
     generalize World.alloc _ (.cells (madeCells #[.int .i64 0] n) 3)=wb at *
     generalize wr.heap.size=og at *
     go_wp2_with fail
     go_loopw [43] (fun s43 wx=>∃ (i:Nat) (ny o:List Int),s43=.int .i64 i∧i≤n∧Hid (ny.length=16)∧Hid (o.length=n)∧Hid (∀ j:Nat,1≤j→j≤15→ny.getD j 0=lowF F j+cntL (F.take i) j)∧Hid (∀ s,o.getD s 0=if s<i then codeF F s else 0)∧Own w wx (slc 3 1 (.slice (some ⟨og,0,none⟩) n n) n (nums o)::blk nb (.cells (nums ny).toArray 423)::blk cb (.cells (nums (Zf F)).toArray 423)::[])) (fun s43 _=>n-(intOf s43).toNat)
     case atStart=>exact ⟨0,nx,Qm n,by go_num,by omega,hnl,jd (by simp [Qm]),jd (fun j h1 h2=>by rw [hnx.out j (by have:=hk15.out;omega)];simp [cntL]),jd (fun s=>by rw [Vg,if_neg (by omega)]),H⟩
     case round=>
      clear H hnx hnl
      obtain ⟨i,ny,o,rfl,hi,hnl,hol,hny,ho,H⟩:=hrel
      by_cases hlt:i<n
      ·have hI:(i:Int)<(n:Int):=by omega
       obtain ⟨b,oo,rfl,c1⟩:=rd_at HR.out H hlt
       have hx:=HF.out (F.getD i 0) (by
        rw [List.getD_eq_getElem?_getD,List.getElem?_eq_getElem (by have:=hl.out;omega)]
        exact List.getElem_mem _)
       have hil:i<F.length:=by have:=hl.out;omega
       by_cases hpos:0<F.getD i 0
       ·have hcode:codeF F i=lowF F (F.getD i 0).toNat+cntL (F.take i) (F.getD i 0).toNat:=by unfold codeF;rw [if_pos hpos]
        obtain ⟨m,hm⟩:∃ m:Nat,F.getD i 0=m:=⟨(F.getD i 0).toNat,by omega⟩
        have hm1:1≤m:=by omega
        have hm2:m≤15:=by omega
        have hlt2:=code_lt hil hpos
        have hroom:=low_room HF.out HW.out m hm2
        have hpk:(2:Int)^m≤32768:=by
         have:(2:Nat)^m≤2^15:=Nat.pow_le_pow_right (by omega) (by omega)
         have h2:((2^m:Nat):Int)≤((2^15:Nat):Int):=Int.ofNat_le.2 this
         simpa using h2
        have hcn:=code_nonneg (l:=F) i
        rw [hm] at hcode hpos hx c1 hlt2
        rw [Int.toNat_natCast] at hcode hlt2
        have hnyv:ny.getD m 0=codeF F i:=by rw [hny.out m hm1 hm2,hcode]
        have g0:=H.swap.cells m
        rw [arr_get (by have:=hnl.out;omega),hnyv] at g0
        have ho2:Hid (∀ s,(o.set i (codeF F i)).getD s 0=if s<i+1 then codeF F s else 0):=jd (fun s=>by
         rw [List.getD_eq_getElem?_getD,List.getElem?_set]
         by_cases h:i=s
         ·subst h;rw [if_pos rfl,if_pos (by have:=hol.out;omega),if_pos (by omega)];rfl
         ·rw [if_neg h,← List.getD_eq_getElem?_getD,ho.out s]
          by_cases h2:s<i
          ·rw [if_pos h2,if_pos (by omega)]
          ·rw [if_neg h2,if_neg (by omega)])
        have hny2:Hid (∀ j:Nat,1≤j→j≤15→(ny.set m (codeF F i+1)).getD j 0=lowF F j+cntL (F.take (i+1)) j):=jd (fun j h1 h2=>by
         rw [cntL_take_succ hil,hm,List.getD_eq_getElem?_getD,List.getElem?_set]
         by_cases h:m=j
         ·subst h;rw [if_pos rfl,if_pos (by have:=hnl.out;omega),if_pos rfl,hcode];simp;omega
         ·rw [if_neg h,if_neg (by omega),← List.getD_eq_getElem?_getD,hny.out j h1 h2];simp)
        have hol2:Hid ((o.set i (codeF F i)).length=n):=jd (by rw [List.length_set];exact hol.out)
        have hnl2:Hid ((ny.set m (codeF F i+1)).length=16):=jd (by rw [List.length_set];exact hnl.out)
        have hst1:(nums o).set i (.int .i64 (codeF F i))=nums (o.set i (codeF F i)):=nums_set _ _ _
        have hst2:=arr_set ny m (codeF F i+1)
        have hfit:m<(nums ny).toArray.size:=by rw [List.size_toArray,Qg];have:=hnl.out;omega
        have hy1:codeF F i≤32768:=by
         have:cntC F m=cntL F m:=by unfold cntC;rw [if_neg (by omega)]
         omega
        have HNY:=jd hnyv
        clear hcode hlt2 hroom hpk hnyv hm
        generalize codeF F i=y at *
        have HST1:=jd hst1
        have HST2:=jd hst2
        have hyw:IntKind.i64.wrap (y+1)=y+1:=IntWalk.i64_in _ ⟨by omega,by omega⟩
        have hmI:(m:Int)<16:=by omega
        clear hst1 hst2 hny ho hil
        go_wp2_with (first
         | (refine Ja rfl _ _ rfl rfl H (.int .i64 y) rfl (by kernel_rfl) (by omega) rfl ?_;clear H c1 g0;intro w5 H;rw [HST1.out] at H;have g0:=H.swap.cells m;rw [arr_get (by have:=hnl.out;omega),HNY.out] at g0)
         | (refine Qh rfl _ _ rfl rfl H.swap rfl (by kernel_rfl) hfit ?_;clear H g0;intro w6 H;rw [HST2.out] at H;replace H:=H.swap))
        go_roundw
        case rel=>exact ⟨i+1,_,_,by go_num,by omega,hnl2,hol2,hny2,ho2,H⟩
        case measure=>simp [intOf];omega
       ·have hcode:codeF F i=0:=by unfold codeF;rw [if_neg hpos]
        have ho2:Hid (∀ s,o.getD s 0=if s<i+1 then codeF F s else 0):=jd (fun s=>by
         rw [ho.out s]
         by_cases h2:s<i
         ·rw [if_pos h2,if_pos (by omega)]
         ·rw [if_neg h2]
          by_cases h3:s=i
          ·subst h3;rw [if_pos (by omega),hcode]
          ·rw [if_neg (by omega)])
        have hny2:Hid (∀ j:Nat,1≤j→j≤15→ny.getD j 0=lowF F j+cntL (F.take (i+1)) j):=jd (fun j h1 h2=>by
         rw [cntL_take_succ hil,if_neg (by omega),hny.out j h1 h2];simp)
        generalize F.getD i 0=x at *
        clear hcode hny ho hil
        go_wp2_with fail
        go_roundw
        case rel=>exact ⟨i+1,ny,o,by go_num,by omega,hnl,hol,hny2,ho2,H⟩
        case measure=>simp [intOf];omega
      ·obtain rfl:i=n:=by omega
       have hI:¬ (i:Int)<(i:Int):=by omega
       have e3:Hid (o=R):=jd (by
        rw [← e2.out]
        refine List.ext_getElem (by rw [hol.out,codesF_length,hl.out]) fun s h1 h2=>?_
        have h3:=ho.out s
        rw [if_pos (by have:=hol.out;omega),List.getD_eq_getElem?_getD,List.getElem?_eq_getElem h1] at h3
        have h4:=codesF_get (l:=F) (s:=s) (by have:=hol.out;have:=hl.out;omega)
        rw [List.getD_eq_getElem?_getD,List.getElem?_eq_getElem h2] at h4
        exact h3.trans h4.symm)
       clear ho hny
       go_wp2_with fail
       go_ret2
       refine ⟨_,rfl,_,by rw [e1.out];rfl,?_⟩
       rw [← e3.out]
       exact ((((H.front 2 rfl).front 2 rfl).drop.drop))
  ·rw [if_neg hw] at hlw
   have e1:Hid (er=2):=jd (by rw [← her.out];unfold cerrF;rw [hZ.out,if_pos rfl,if_neg hw])
   obtain ⟨e2,e3⟩:=HNIL.out (by rw [e1.out];decide)
   subst e3
   have E2:=jd e2
   obtain ⟨lf,hlf⟩:∃ lf,Hid (leftF (Zf F)=lf):=⟨_,rfl⟩
   rw [hlf.out] at hlw HL
   have hlf0:lf<0:=by omega
   clear e2 hw hlw
   go_wp2_with (refine wpList_load16 rfl _ rfl rfl hcs H ?_)
   refine (HL.out _).mono ?_
   rintro e w3 ⟨_,rfl,rfl,H1⟩
   have H:=H.join H1
   clear H1
   go_wp2_with fail
   go_ret2
   refine ⟨_,rfl,_,by rw [e1.out];rfl,?_⟩
   rw [E2.out]
   exact H.bare.nil 3 1
section
variable {w0 w w':World} {ps:List Piece} {e:TypeId} {n:Nat} {xs:List Value}
variable {P:Program} {ops:Array Oper} {rest:List Oper} {o:Oper} {a:Act} {Q:Exit→Act→World→Prop}
theorem wpList_copy_slc(hgd:o.guard=none)(d s:Operand)(dT sT:TypeId)(ho:o.op=.call { callee:=.builtin .copy,args:=#[d,s],argTypes:=#[dT,sT] })
 (hu:P.underlying dT=some (.slice e)) (hsz:(P.info? e).map (·.size)=some 1) {g c:Nat} (H:Own w0 w (slc e 1 (.slice (some ⟨g,0,none⟩) n c) n xs::ps))
 (dp sp:Option Addr) (dLen dCap sLen sCap:Nat) (hd:a.eval d=.slice dp dLen dCap) (hs:a.eval s=.slice sp sLen sCap)
 (off m:Nat) (cs:List Value) (hm:cs.length=m) (hn:m=Nat.min sLen dLen) (hpos:0<m→dp=some ⟨g,off,none⟩∧∃ ad,sp=some ad∧∀ j v,cs[j]?=some v→w.cell? (ad.add j)=some v)
 (hfit:off+m≤n) (h1:∀ v∈cs,v.oneCell'=true)
 (h:∀ w',Own w0 w' (slc e 1 (.slice (some ⟨g,0,none⟩) n c) n (splice xs off cs)::ps)→wpList P ops Q rest (a.put o.dst (.int .i64 m)) w'):wpList P ops Q (o::rest) a w:=by
 subst hm
 by_cases h0:cs.length=0
 ·obtain rfl:cs=[]:=eJ h0
  refine wpList_copy_nothing hgd d s dT sT ho e hu hsz dp sp dLen dCap sLen sCap hd hs (by simpa using hn.symm) ?_
  exact h w (by simpa [splice] using H)
 ·obtain ⟨rfl,ad,rfl,hsrc⟩:=hpos (by omega)
  rcases H.slc_cases with ⟨hv,_⟩ | ⟨g',cap,cur,he,hl,c1,c2,c3,c4,h5⟩
  ·cases hv
  ·cases he
   refine wpList_copy_own hgd d s dT sT ho e hu hsz g off dLen dCap ad sLen sCap hd hs cur e h5.block.1 cs hn hsrc (by omega) h1 ?_
   refine h _ ((h5.setRow (cur':=(cur.toList.take off++(cs++cur.toList.drop (off+cs.length))).toArray)).slc_mk ?_ c1 c2 ?_ ?_)
   ·rw [length_splice _ _ _ (by omega)];exact hl
   ·simp only [List.size_toArray,lJ,List.length_take,List.length_drop,Array.length_toList];omega
   ·have hcl:cur.toList.length=cur.size:=by simp
    unfold splice
    rw [← c4,List.toList_toArray,Nat.mul_one,List.take_append,List.take_append,List.take_take,List.drop_take,List.length_take,Nat.min_eq_left (show off≤cur.toList.length by omega),List.take_take,
     Nat.min_eq_right (show off≤n by omega),List.take_of_length_le (l:=cs) (by omega),Nat.min_eq_left (show off≤n by omega),show n-off-cs.length=n-(off+cs.length) by omega]
end
theorem rep_splice(a:Int){k n m:Nat}(h:n+m≤k):splice (nums (List.replicate n a++List.replicate (k-n) 0)) n (nums (List.replicate m a))=nums (List.replicate (n+m) a++List.replicate (k-(n+m)) 0):=by
 unfold splice nums
 rw [List.map_append,List.map_append,List.take_left' (by simp),List.drop_append,List.drop_eq_nil_of_le (by simp),List.nil_append]
 simp only [List.map_replicate,List.length_replicate,List.drop_replicate]
 rw [← List.append_assoc,List.replicate_append_replicate,show k-n-(n+m-n)=k-(n+m) by omega]
set_option maxRecDepth 100000 in
set_option maxHeartbeats 1600000 in
theorem repeat_any{w:World}{v:Value}{a:Int}(k:Nat)(hr:Rd w 1 v 1 (nums [a]))(hk:k≤1000000) :
 Calls Tryz.prog 265 #[v,.int .i64 k] w (Ret fun r w'=>Own w w' [slc 3 1 r k (nums (List.replicate k a))]):=by
 have H:=Own.start w
 obtain ⟨b,o,c,rfl,hc1,hc2⟩:=hr.some (by simp [nums])
 have c0:=hr.cell (u:=.int .i64 a) (j:=0) rfl
 have HC0:=jd c0
 clear hr c0
 have hmul:=mul_any k hk
 have HM:=jd hmul
 clear hmul
 have hkI:(k:Int)≤9223372036854775807:=by omega
 have hkw:IntKind.u64.wrap (k:Int)=(k:Int):=IntWalk.u64_in _ ⟨by omega,by omega⟩
 have hkw2:IntKind.i64.wrap (k:Int)=(k:Int):=IntWalk.i64_in _ ⟨by omega,by omega⟩
 have hmk:∀ w:World,(Instr.makeSlice 34 (.int .i64 k) (.int .i64 k)).run Tryz.prog w=.ok (.slice (some ⟨w.heap.size,0,none⟩) k k) (w.alloc (.cells (madeCells #[.int .i64 0] k) 3)):=run_make_row' _ _ _ 8 Tryz.underlying34 Vr rfl .i64 .i64 k (by omega) (by omega)
 go_enter Tryz.func265,Tryz.ntmps265
 go_wp2_with fail
 refine (HM.out _).mono ?_
 rintro e w2 ⟨_,rfl,rfl,H2⟩
 have H:=H.join H2
 clear H2
 go_upto_region 7 with (fail)
 have h1:=H.alloc (.cells (madeCells #[.int .i64 0] k) 3)
 have H:Own w (w2.alloc (.cells (madeCells #[.int .i64 0] k) 3)) [slc 3 1 (.slice (some ⟨w2.heap.size,0,none⟩) k k) k (nums (List.replicate 0 a++List.replicate (k-0) 0))]:=
  h1.slc_mk (by simp [nums]) (Nat.le_refl _) (by simp [maxLen];omega) (by simp [size_madeCells]) (by rw [toList_madeCells_one];simp [nums])
 have c0:=(show (w2.alloc (.cells (madeCells #[.int .i64 0] k) 3)).cell? ⟨b,o+0,none⟩=some (.int .i64 a) by rw [H.oldCell (World.block_lt_of_cell? _ _ HC0.out)];exact HC0.out)
 clear h1
 generalize w2.alloc (.cells (madeCells #[.int .i64 0] k) 3)=w3 at *
 obtain ⟨g,hg⟩:∃ g,w2.heap.size=g:=⟨_,rfl⟩
 rw [hg] at H ⊢
 clear hg hmk HM
 have hsrc:∀ j v,(nums (List.replicate (min k 1) a))[j]?=some v→w3.cell? ((⟨b,o,none⟩:Addr).add j)=some v:=fun j v hj=>by
  have hlt:=(gJ hj).1
  rw [Qg,List.length_replicate] at hlt
  have:j=0:=by omega
  subst this
  rw [Addr.add_lit,c0]
  have hk1:min k 1=1:=by omega
  rw [hk1] at hj
  exact hj
 obtain ⟨m1,hm1⟩:∃ m1,Hid (min k 1=m1):=⟨_,rfl⟩
 have hmin:m1=Nat.min 1 k:=by rw [← hm1.out];show min k 1=min 1 k;omega
 rw [hm1.out] at hsrc
 have HS:=jd hsrc
 have HMIN:=jd hmin
 have hm1k:m1≤k:=by rw [← hm1.out];omega
 have hm10:1≤k→1≤m1:=fun h=>by rw [← hm1.out];omega
 have HP:=jd hm10
 have HONE:Hid (∀ m:Nat,∀ v∈nums (List.replicate m a),v.oneCell'=true):=jd (fun m v hv=>by
  unfold nums at hv;obtain ⟨x,_,rfl⟩:=List.mem_map.1 hv;rfl)
 clear c0 hsrc hmin hm10
 go_wp2_with (refine wpList_copy_slc rfl _ _ _ _ rfl Tryz.underlying34 (by kernel_rfl) H _ _ _ _ _ _ rfl rfl 0 m1 (nums (List.replicate m1 a)) (by simp [nums]) HMIN.out (fun h=>⟨rfl,_,rfl,HS.out⟩) (by omega) (HONE.out m1) ?_;clear H;intro w4 H;rw [rep_splice a (by omega),Nat.zero_add] at H)
 go_loopw [8] (fun s8 wx=>∃ n:Nat,s8=.int .i64 n∧n≤k∧(1≤k→1≤n)∧Own w wx [slc 3 1 (.slice (some ⟨g,0,none⟩) k k) k (nums (List.replicate n a++List.replicate (k-n) 0))]) (fun s8 _=>k-(intOf s8).toNat)
 case atStart=>exact ⟨m1,by go_num,hm1k,HP.out,H⟩
 case round=>
  clear H
  obtain ⟨n,rfl,hn,hn1,H⟩:=hrel
  by_cases hlt:n<k
  ·have hI:(n:Int)<(k:Int):=by omega
   have hn1:=hn1 (by omega)
   obtain ⟨m,hm⟩:∃ m,Hid (min n (k-n)=m):=⟨_,rfl⟩
   have hm1:1≤m:=by rw [← hm.out];omega
   have hmk:n+m≤k:=by rw [← hm.out];omega
   have hmn:m≤n:=by rw [← hm.out];omega
   have hmin:m=Nat.min n (k-n):=hm.out.symm
   have HMIN2:=jd hmin
   have hsub:((k:Int)-(n:Int))=((k-n:Nat):Int):=by omega
   clear hmin
   have hcut:(n:Int)≤(k:Int):=by omega
   have hn0:n≠0:=by omega
   have hkn:k≠n:=by omega
   go_upto_region 9 with (fail)
   refine wp_region_pres (fun σ w1=>Own w w1 [slc 3 1 (.slice (some ⟨g,0,none⟩) k k) k (nums (List.replicate n a++List.replicate (k-n) 0))]) 7 [] [0] (by kernel_rfl) (by kernel_rfl) (by kernel_rfl) (by kernel_rfl) (fun _ _ d _ _ h=>by cases d <;> exact h) ⟨_,_,rfl,fun w=>(by first | rfl | (go_simp;rfl)),rfl⟩ H.drew ?_
   simp only [List.take_succ_cons,List.take_zero,List.drop_succ_cons,List.drop_zero]
   repeat
    first
    | (refine calm_value (v:=?_) (by decide) rfl (fun σ w1 hS=>?_) ?_
       rotate_left
       ·skip
        first | (go_simp;rfl) | rfl
       simp only [Act.put,putC])
    | (refine calm_skip (by decide) rfl ?_
       simp only [Act.put,putC])
   refine calm_nil ?_
   intro σ wd hσ HD
   clear H
   simp only [Jx,List.foldl_nil]
   have hsrc:∀ j v,(nums (List.replicate m a))[j]?=some v→wd.cell? ((⟨g,0,none⟩:Addr).add j)=some v:=fun j v hj=>by
    have hlt:=(gJ hj).1
    rw [Qg,List.length_replicate] at hlt
    rw [Addr.add_lit]
    refine HD.rd.cell ?_
    unfold nums at hj ⊢
    rw [List.map_append,List.getElem?_append_left (by simp;omega),← hj]
    simp only [List.map_replicate,List.getElem?_replicate]
    rw [if_pos (by omega),if_pos hlt]
   have HS2:=jd hsrc
   have hnm:IntKind.i64.wrap ((n:Int)+(m:Int))=((n+m:Nat):Int):=by rw [Int.natCast_add];exact IntWalk.i64_in _ ⟨by omega,by omega⟩
   clear hsrc
   go_wp2_with (refine wpList_copy_slc rfl _ _ _ _ rfl Tryz.underlying34 (by kernel_rfl) HD _ _ _ _ _ _ rfl rfl n m (nums (List.replicate m a)) (by simp [nums]) HMIN2.out (fun h=>⟨rfl,_,rfl,HS2.out⟩) (by omega) (HONE.out m) ?_;clear HD;intro w6 H;rw [rep_splice a (by omega)] at H)
   go_roundw
   case rel=>exact ⟨n+m,by go_num,by omega,fun _=>by omega,H⟩
   case measure=>simp [intOf];omega
  ·have hI:¬ (n:Int)<(k:Int):=by omega
   obtain rfl:n=k:=by omega
   rw [Nat.sub_self,List.replicate_zero,List.append_nil] at H
   go_wp2_with fail
   go_ret
   exact ⟨_,rfl,H⟩
set_option maxRecDepth 100000 in
theorem byt_is{s:ByteArray}{i:Nat}(h:i<s.size):s[i]=byt s i:=by
 unfold byt
 simp [Array.getD,h]
 rfl
set_option maxRecDepth 100000 in
set_option maxHeartbeats 1600000 in
theorem fkey_any{w0 w:World}{ps:List Piece}{g:Nat}{s:ByteArray}{m v:Value}{i:Nat}(H:Own w0 w (blk g (.cells #[.string s,m,v] 304)::ps))(hi:i+3≤s.size)(hs:s.size≤1000000) :
 Calls Tryz.prog 275 #[.pointer (some ⟨g,0,none⟩),.int .i64 i] w (Ret fun r w'=>r=k3 (key3 s i)∧Own w0 w' (blk g (.cells #[.string s,m,v] 304)::ps)):=by
 obtain ⟨j,hj⟩:∃ j,Hid (i+1=j):=⟨_,rfl⟩
 obtain ⟨k,hk⟩:∃ k,Hid (i+2=k):=⟨_,rfl⟩
 have h0:i<s.size:=by omega
 have h1:j<s.size:=by have:=hj.out;omega
 have h2:k<s.size:=by have:=hk.out;omega
 have hI1:(i:Int)+1=(j:Int):=by have:=hj.out;omega
 have hI2:(i:Int)+2=(k:Int):=by have:=hk.out;omega
 have hw1:IntKind.i64.wrap (j:Int)=(j:Int):=IntWalk.i64_in _ ⟨by omega,by omega⟩
 have hw2:IntKind.i64.wrap (k:Int)=(k:Int):=IntWalk.i64_in _ ⟨by omega,by omega⟩
 have e0:=byt_is h0
 have e1:=byt_is h1
 have e2:=byt_is h2
 have hk3:Hid (k3 (key3 s i)=.agg #[.int .u8 (byt s i).toNat,.int .u8 (byt s j).toNat,.int .u8 (byt s k).toNat]):=jd (by rw [← hj.out,← hk.out];rfl)
 clear hi
 go_enter Tryz.func275,Tryz.ntmps275
 go_upto_region 1 with (fail)
 have H1:=H.alloc (.cells #[.int .u8 0,.int .u8 0,.int .u8 0] 393)
 clear H
 generalize hc:w.heap.size=c at *
 generalize w.alloc (.cells #[.int .u8 0,.int .u8 0,.int .u8 0] 393)=wa at *
 refine Qa (fun w1=>Own w0 w1 (blk c (.cells #[.int .u8 0,.int .u8 0,.int .u8 0] 393)::blk g (.cells #[.string s,m,v] 304)::ps)) 21 (by kernel_rfl) (by kernel_rfl) H1.drew ?_
 simp only [List.take_succ_cons,List.take_zero,List.drop_succ_cons,List.drop_zero]
 repeat
  first
  | (refine calm_value (v:=?_) (by decide) rfl (fun σ w1 hS=>?_) ?_
     rotate_left
     ·have c0:=hS.swap.cells
      first | (go_simp;rfl) | rfl
     simp only [Act.put,putC])
  | (refine calm_skip (by decide) rfl ?_
     simp only [Act.put,putC])
 refine calm_nil ?_
 intro wd HD
 clear H1
 go_wp2_with (first
  | (refine Qe rfl _ _ rfl rfl HD rfl (by kernel_rfl) (by simp) (by simp;exact ⟨rfl,rfl,rfl⟩) rfl ?_;clear HD;intro w5 H;have c0:=H.cells))
 refine bodyPost_ret (results_cell_row rfl _ _ c _ _ _ _ rfl H.block.1 Tryz.underlying393 rfl (by kernel_rfl)) rfl ?_
 exact ⟨_,rfl,by rw [hk3.out];rfl,H.drop⟩
set_option maxRecDepth 100000 in
set_option maxHeartbeats 1600000 in
theorem fsame_any{w0 w:World}{ps:List Piece}{g:Nat}{s:ByteArray}{m v:Value}{x y:Nat}(H:Own w0 w (blk g (.cells #[.string s,m,v] 304)::ps))(hxy:x≤y)(hy:y≤s.size)(hs:s.size≤1000000) :
 Calls Tryz.prog 276 #[.pointer (some ⟨g,0,none⟩),.int .i64 x,.int .i64 y] w (Ret fun r w'=>r=.int .i64 (comm s x y)∧Own w0 w' (blk g (.cells #[.string s,m,v] 304)::ps)):=by
 go_enter Tryz.func276,Tryz.ntmps276
 go_wp2_with fail
 go_loopw [7] (fun s7 wr=>∃ n:Nat,s7=.int .i64 n∧n≤258∧Hid (∀ j,j<n→y+j<s.size∧byt s (x+j)=byt s (y+j))∧Own w0 wr (blk g (.cells #[.string s,m,v] 304)::ps)) (fun s7 _=>258-(intOf s7).toNat)
 case atStart=>exact ⟨0,by simp,by omega,jd (fun j hj=>by omega),H⟩
 case round=>
  clear H
  obtain ⟨n,rfl,hn,hall,H⟩:=hrel
  by_cases h1:n<258
  ·have h1I:(n:Int)<258:=by omega
   obtain ⟨q,hq⟩:∃ q,Hid (y+n=q):=⟨_,rfl⟩
   obtain ⟨p,hp⟩:∃ p,Hid (x+n=p):=⟨_,rfl⟩
   have hqI:(y:Int)+(n:Int)=(q:Int):=by have:=hq.out;omega
   have hpI:(x:Int)+(n:Int)=(p:Int):=by have:=hp.out;omega
   have hqm:q≤2000000:=by have:=hq.out;omega
   have hpq:p≤q:=by have:=hq.out;have:=hp.out;omega
   have hw1:IntKind.i64.wrap (q:Int)=(q:Int):=IntWalk.i64_in _ ⟨by omega,by omega⟩
   have hw2:IntKind.i64.wrap (p:Int)=(p:Int):=IntWalk.i64_in _ ⟨by omega,by omega⟩
   by_cases h2:q<s.size
   ·have h2I:(q:Int)<(s.size:Int):=by omega
    have h3:p<s.size:=by omega
    have e0:=byt_is h2
    have e1:=byt_is h3
    obtain ⟨t,ht⟩:∃ t,Hid (decide (byt s p=byt s q)=t):=⟨_,rfl⟩
    have htI:(((byt s p).toNat:Int)==((byt s q).toNat:Int))=t:=by
     rw [← ht.out]
     by_cases hb:byt s p=byt s q
     ·simp [hb]
     ·have:(byt s p).toNat≠(byt s q).toNat:=fun h=>hb (UInt8.toNat_inj.1 h)
      simp [hb]
      omega
    go_upto_region 2 with (fail)
    refine Qa (fun w1=>Own w0 w1 (blk g (.cells #[.string s,m,v] 304)::ps)) 32 (by kernel_rfl) (by kernel_rfl) H.drew ?_
    simp only [List.take_succ_cons,List.take_zero,List.drop_succ_cons,List.drop_zero]
    repeat
     first
     | (refine calm_value (v:=?_) (by decide) rfl (fun σ w1 hS=>?_) ?_
        rotate_left
        ·have c0:=hS.cells
         first | (go_simp;rfl) | rfl
        simp only [Act.put,putC])
     | (refine calm_skip (by decide) rfl ?_
        simp only [Act.put,putC])
    refine calm_nil ?_
    intro wd HD
    clear H
    cases t with
    | true=>
     have hb:byt s p=byt s q:=by simpa using ht.out
     have hall':Hid (∀ j,j<n+1→y+j<s.size∧byt s (x+j)=byt s (y+j)):=jd (by
      intro j hj
      by_cases hjn:j=n
      ·subst hjn
       rw [hq.out,hp.out]
       exact ⟨h2,hb⟩
      ·exact hall.out j (by omega))
     clear hb ht htI
     go_wp2
     go_roundw
     case rel=>exact ⟨n+1,by go_num,by omega,hall',HD⟩
     case measure=>simp [intOf];omega
    | false=>
     have hfin:Hid (comm s x y=n):=jd (comm_is (by omega) hall.out (.inr (by rw [hq.out,hp.out];intro h;have:=ht.out;simp at this;exact this h.2)))
     clear ht htI
     go_wp2
     go_ret
     exact ⟨_,rfl,by rw [hfin.out];rfl,HD⟩
   ·have h2I:¬ (q:Int)<(s.size:Int):=by omega
    have hfin:Hid (comm s x y=n):=jd (comm_is (by omega) hall.out (.inr (by rw [hq.out];intro h;exact h2 h.1)))
    go_upto_region 2 with (fail)
    refine Qa (fun w1=>Own w0 w1 (blk g (.cells #[.string s,m,v] 304)::ps)) 32 (by kernel_rfl) (by kernel_rfl) H.drew ?_
    simp only [List.take_succ_cons,List.take_zero,List.drop_succ_cons,List.drop_zero]
    repeat
     first
     | (refine calm_value (v:=?_) (by decide) rfl (fun σ w1 hS=>?_) ?_
        rotate_left
        ·have c0:=hS.cells
         first | (go_simp;rfl) | rfl
        simp only [Act.put,putC])
     | (refine calm_skip (by decide) rfl ?_
        simp only [Act.put,putC])
    refine calm_nil ?_
    intro wd HD
    clear H
    go_wp2
    go_ret
    exact ⟨_,rfl,by rw [hfin.out];rfl,HD⟩
  ·have h1I:¬ (n:Int)<258:=by omega
   have hfin:Hid (comm s x y=n):=jd (comm_is (by omega) hall.out (.inl (by omega)))
   go_upto_region 2 with (fail)
   refine Qa (fun w1=>Own w0 w1 (blk g (.cells #[.string s,m,v] 304)::ps)) 32 (by kernel_rfl) (by kernel_rfl) H.drew ?_
   simp only [List.take_succ_cons,List.take_zero,List.drop_succ_cons,List.drop_zero]
   repeat
    first
    | (refine calm_value (v:=?_) (by decide) rfl (fun σ w1 hS=>?_) ?_
       rotate_left
       ·have c0:=hS.cells
        first | (go_simp;rfl) | rfl
       simp only [Act.put,putC])
    | (refine calm_skip (by decide) rfl ?_
       simp only [Act.put,putC])
   refine calm_nil ?_
   intro wd HD
   clear H
   go_wp2
   go_ret
   exact ⟨_,rfl,by rw [hfin.out];rfl,HD⟩
end Go.Proofs.YthekdeikodppkaaGreatDoor
