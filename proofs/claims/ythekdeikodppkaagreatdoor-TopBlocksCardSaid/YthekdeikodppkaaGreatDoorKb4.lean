/-
  Texts of this claim, one behind the other: Slices of slices; An array of ints by value, read at an index; lz; Texts in their order, as numbers. No program in sight; Operations that ask nothing of the memory; append of a string's bytes to a slice of the call's own; bytes made a string. No program in sight; Bits; A map of the call's own whose elements are ints (0 where there is none); Calm regions over what a call owns; Operations that ask nothing of the memory; Operations that ask nothing of the memory.
-/
import Derived.Test.YthekdeikodppkaaGreatDoorKb3
import Derived.OwnWalk
import Derived.Laws.BytesArg
import Derived.Lib.Bytealg
import Derived.Laws.StructEq
import Derived.Laws.Slices
import Derived.Lib.AppendStr
import Derived.Deep.AppendSrc
import Derived.Maps.Own
import Derived.Maps.OwnOps
import Derived.Maps.Views
import Derived.Laws.Tables
import Derived.Laws.Strings
set_option linter.unusedVariables false
namespace Go.Proofs.YthekdeikodppkaaGreatDoor
open Go.RowKit
section
variable {w0 w w':World} {p q:Piece} {ps qs:List Piece} {e:TypeId} {size n:Nat} {v:Value} {xs:List Value}
theorem slc_low{P:Program}{ty:TypeId}(ht:P.underlying ty=some (.slice (P.elem ty))){size:Nat}(hsz:∀ w,(sizeOf (P.elem ty)).run P w=.ok size w){ad:Option Addr}{n c k:Nat}(hk:k≤n){tv:Value}(hv:sliced ad k n c size=tv)(w:World) :
 (Instr.sliceAt ty (.slice ad n c) (some (.int .i64 (k:Int))) none none).run P w=.ok tv w:=by
 have hr:=run_slice_l (P:=P) (w:=w) ty ad n c ht .i64 (k:Int) (by omega) (by omega)
 rw [hsz,Result.andThen_ok,Int.toNat_natCast,hv] at hr
 rw [run_sliceAt_slice w ty _ _ _ _ ht,hr]
theorem slc_lh{P:Program}{ty:TypeId}(ht:P.underlying ty=some (.slice (P.elem ty))){size:Nat}(hsz:∀ w,(sizeOf (P.elem ty)).run P w=.ok size w){ad:Option Addr}{n c k m:Nat}(hk:k≤m)(hm:m≤c){tv:Value}(hv:sliced ad k m c size=tv)(w:World) :
 (Instr.sliceAt ty (.slice ad n c) (some (.int .i64 (k:Int))) (some (.int .i64 (m:Int))) none).run P w=.ok tv w:=by
 have hr:=run_slice_lh (P:=P) (w:=w) ty ad n c ht .i64 .i64 (k:Int) (m:Int) (by omega) (by omega) (by omega)
 rw [hsz,Result.andThen_ok,Int.toNat_natCast,Int.toNat_natCast,hv] at hr
 rw [run_sliceAt_slice w ty _ _ _ _ ht,hr]
theorem exec_load{P:Program}{ev:Operand→Value}{o:Oper}{ty:TypeId}{x:Operand}{p u:Value}{w:World}(ho:o.op=.load ty x)(hx:ev x=p)(h:(Instr.loadAt ty p).run P w=.ok u w):(execOp ev o).run P w=.ok (.value u) w:=by
 unfold execOp
 simp only [ho,hx,Sem.run_bind,h,Result.andThen_ok,Sem.run_pure]
theorem wpList_load_by{P:Program}{ops:Array Oper}{rest:List Oper}{o:Oper}{a:Act}{w:World}{Q:Exit→Act→World→Prop}(hgd:o.guard=none){ty:TypeId}(x:Operand)(ho:o.op=.load ty x){p u:Value}(hx:a.eval x=p)(hl:(Instr.loadAt ty p).run P w=.ok u w)
 (h:wpList P ops Q rest (a.put o.dst u) w):wpList P ops Q (o::rest) a w:=by
 refine wpList_plain hgd fun K hK=>?_
 unfold Oper.wp
 rw [exec_load ho hx hl]
 exact hK _ _ h
theorem wpList_value{P:Program}{ops:Array Oper}{rest:List Oper}{o:Oper}{a:Act}{w:World}{Q:Exit→Act→World→Prop}(hgd:o.guard=none){u:Value}(hl:(execOp a.eval o).run P w=.ok (.value u) w)
 (h:wpList P ops Q rest (a.put o.dst u) w):wpList P ops Q (o::rest) a w:=by
 refine wpList_plain hgd fun K hK=>?_
 unfold Oper.wp
 rw [hl]
 exact hK _ _ h
theorem Rd.cutOf{a:Option Addr}{n c k m:Nat}(h:Rd w size (.slice a n c) n xs)(hk:k≤m)(hm:m≤n) :
 Rd w size (sliced a k m c size) (m-k) ((xs.take (m*size)).drop (k*size)):=by
 have h1:=h.take hm
 cases a with
 | none=>
  obtain ⟨hl,a,c',e,h1,h2,h3,h4⟩:=h
  cases e
  obtain ⟨rfl,rfl⟩:=h3 rfl
  obtain rfl:m=0:=by omega
  obtain rfl:k=0:=by omega
  obtain rfl:xs=[]:=eJ (by simpa using hl)
  simpa [_root_.Go.sliced] using Rd.nil w size
 | some ad=>
  have h2:=h1.tail hk
  unfold _root_.Go.sliced
  by_cases hc:c=k
  ·obtain ⟨hl,a,c',e,h1,h2,h3,h4⟩:=h
   cases e
   obtain rfl:m=k:=by omega
   rw [if_pos hc,Nat.sub_self,List.drop_eq_nil_of_le (by rw [List.length_take];omega)]
   exact ⟨by simp,_,_,rfl,by omega,by omega,by simp,fun ad _ j u hu=>by simp at hu⟩
  ·rw [if_neg hc]
   exact h2
theorem Own.dcut{a:Option Addr}{n c k:Nat}(h:Own w0 w (sld e size (.slice a n c) n xs::ps))(hk:k≤n){tv:Value}(hv:sliced a k n c size=tv) :
 Own w0 w (sld e size tv (n-k) (xs.drop (k*size))::ps):=by
 subst hv
 rcases h.sld_cases with ⟨hv,hn,hx,h'⟩ | ⟨g,o,cap,cur,hv,hl,h1,h2,h3,h4,h5⟩
 ·cases hv
  subst hx
  obtain rfl:k=0:=by omega
  unfold _root_.Go.sliced
  simpa using h
 ·cases hv
  unfold _root_.Go.sliced
  by_cases hc:c=k
  ·obtain rfl:n=k:=by omega
   subst hc
   rw [if_pos rfl,Nat.sub_self,List.drop_eq_nil_of_le (by omega)]
   exact h5.sld_mk (by simp) (by omega) (by omega) (by omega) (by simp)
  ·rw [if_neg hc]
   have:=h.dtail hk
   rcases hz:k*size with _ | m
   ·rw [hz] at this;simpa [Addr.add,hz] using this
   ·rw [hz] at this;simpa [Addr.add,hz] using this
end
section
variable {w0 w:World} {ps:List Piece} {e:TypeId} {size n:Nat} {v:Value} {xs:List Value} {P:Program} {t:TypeId} {z:Value} {bytes:Nat}
theorem wpList_append_new{ops:Array Oper}{rest:List Oper}{o:Oper}{a:Act}{Q:Exit→Act→World→Prop}(hgd:o.guard=none)(s x:Operand)
 (ho:o.op=.call { callee:=.builtin .append,args:=#[s,x],argTypes:=#[t,t] })
 (ht:P.underlying t=some (.slice e)) (hinfo:(P.info? e).map (fun i=>(i.zero,i.size,i.bytes))=some (some z,size,bytes)) (hzs:z.cells.size=size) (hsz:0<size)
 (hs:a.eval s=v) (H:Own w0 w (slc e size v n xs::ps))
 {news:List Value} {m c:Nat} (hx:a.eval x=.slice (some ⟨w.heap.size,0,none⟩) m c) (hc:c=m) (hm:m≤1000) (hl:news.length=m*size) (h1:∀ u∈news,u.oneCell'=true)
 (h63:n+m≤9223372036854775807) (hbytes:(n+m)*bytes≤140737488355328)
 (h:∀ v' w',Own w0 w' (slc e size v' (n+m) (xs++news)::ps)→wpList P ops Q rest (a.put o.dst v') w'):wpList P ops Q (o::rest) a (w.alloc (.cells news.toArray e)):=by
 subst hc
 refine Qn hgd s x ho ht hinfo hzs hsz hs (H.alloc' _) (m:=c) (news:=news) ?_ h1 h63 hbytes h
 rw [hx]
 exact ((H.made news e size c hl (by simp [maxLen];omega)).rd)
end
theorem run_index_arr{P:Program}(t e:TypeId)(n:Nat)(cs:Array Value)(i:Nat)(v:Int)(w:World)(h:P.underlying t=some (.array n e))(hsz:∀ w,(sizeOf e).run P w=.ok 1 w)(hag:∀ w,(isAgg e).run P w=.ok false w)(hi:i<n)(hv:cs[i]?=some (.int .i64 v)) :
 (Instr.index t (.agg cs) (.int .i64 i)).run P w=.ok (.int .i64 v) w:=by
 have hn:(0:Int)≤(i:Int)∧(i:Int)<(n:Int):=by omega
 simp [Instr.index,run_underlying h,asIntOf,hn,go_sem]
 rw [if_pos hi]
 simp [hsz,hag,hv,Result.andThen]
theorem int_one(w:World):(sizeOf 3).run Tryz.prog w=.ok 1 w∧(isAgg 3).run Tryz.prog w=.ok false w:=by
 constructor <;> go_simp
def bnum(s:ByteArray)(i:Nat):List Int:=(List.range i).map fun j=>((byt s j).toNat:Int)
theorem tokAt_may{s:ByteArray}{i:Nat}:may (tokAt s i) i=true:=by
 unfold tokAt
 split
 ·next h=>
  have hc:=found_comm h
  unfold may
  rw [if_neg (by simp only;omega)]
  simp only [decide_eq_true_eq]
  refine ⟨trivial,?_⟩
  omega
 ·unfold may
  rw [if_pos rfl]
  have:=(byt s i).toNat_lt
  simp only [decide_eq_true_eq]
  refine ⟨trivial,?_⟩
  omega
def runs(r:Nat):Nat:=r/258+if 2<r%258 then 1 else r%258
def keyN:List UInt8→Nat→Nat
 | [],_=>0
 | _::_,0=>0
 | b::l,n+1=>(b.toNat+1)*257^n+keyN l n
theorem keyN_lt:∀ (l:List UInt8) (n:Nat),keyN l n<257^n
 | [],n=>by rw [keyN];exact Nat.pow_pos (by decide)
 | b::l,0=>by rw [keyN];decide
 | b::l,n+1=>by
  have h1:=keyN_lt l n
  have h2:b.toNat<256:=b.toNat_lt
  have h3:(b.toNat+1)*257^n+257^n≤257*257^n:=by
   rw [show (b.toNat+1)*257^n+257^n=(b.toNat+2)*257^n by rw [Nat.add_mul,Nat.add_mul,Nat.one_mul];omega]
   exact Nat.mul_le_mul_right _ (by omega)
  rw [keyN,Nat.pow_succ,Nat.mul_comm (257^n) 257]
  omega
theorem key_step(n:Nat){u v:Nat}(h:u<v):(u+1)*257^n+257^n≤(v+1)*257^n:=by
 rw [show (u+1)*257^n+257^n=(u+2)*257^n by rw [Nat.add_mul,Nat.add_mul,Nat.one_mul];omega]
 exact Nat.mul_le_mul_right _ (by omega)
theorem cmpI_add(A x y:Nat):cmpI ((A+x:Nat):Int) ((A+y:Nat):Int)=cmpI x y:=by
 unfold cmpI
 by_cases h1:x<y
 ·rw [if_pos (by omega),if_pos (by omega)]
 ·by_cases h2:y<x
  ·rw [if_neg (by omega),if_pos (by omega),if_neg (by omega),if_pos (by omega)]
  ·rw [if_neg (by omega),if_neg (by omega),if_neg (by omega),if_neg (by omega)]
theorem key_cmp:∀ (a b:List UInt8) (n:Nat),a.length≤n→b.length≤n→Lib.compareBytes a b=cmpI (keyN a n) (keyN b n)
 | [],[],n,_,_=>by simp [Lib.compareBytes,cmpI,keyN]
 | [],y::b,n+1,_,_=>by
  have:0<(y.toNat+1)*257^n:=Nat.mul_pos (by omega) (Nat.pow_pos (by decide))
  rw [Lib.compareBytes,keyN,keyN,cmpI,if_pos (by omega)]
 | x::a,[],n+1,_,_=>by
  have:0<(x.toNat+1)*257^n:=Nat.mul_pos (by omega) (Nat.pow_pos (by decide))
  rw [Lib.compareBytes,keyN,keyN,cmpI,if_neg (by omega),if_pos (by omega)]
 | x::a,y::b,n+1,ha,hb=>by
  have ih:=key_cmp a b n (by simpa using ha) (by simpa using hb)
  have k1:=keyN_lt a n
  have k2:=keyN_lt b n
  rw [Lib.compareBytes,keyN,keyN]
  by_cases h1:x<y
  ·have:=key_step n (UInt8.lt_iff_toNat_lt.1 h1)
   generalize (x.toNat+1)*257^n=A at *
   generalize (y.toNat+1)*257^n=B at *
   generalize 257^n=C at *
   rw [if_pos h1,cmpI,if_pos (by omega)]
  ·rw [if_neg h1]
   by_cases h2:y<x
   ·have:=key_step n (UInt8.lt_iff_toNat_lt.1 h2)
    generalize (x.toNat+1)*257^n=A at *
    generalize (y.toNat+1)*257^n=B at *
    generalize 257^n=C at *
    rw [if_pos h2,cmpI,if_neg (by omega),if_pos (by omega)]
   ·rw [if_neg h2]
    have hxy:x.toNat=y.toNat:=by
     have e1:¬ x.toNat<y.toNat:=fun h=>h1 (UInt8.lt_iff_toNat_lt.2 h)
     have e2:¬ y.toNat<x.toNat:=fun h=>h2 (UInt8.lt_iff_toNat_lt.2 h)
     omega
    rw [ih,hxy,cmpI_add]
def pkey(s:ByteArray):Int:=(keyN s.data.toList 4096:Nat)
theorem pkey_cmp{a b:ByteArray}(ha:a.size≤4096)(hb:b.size≤4096):Lib.compareBytes a.data.toList b.data.toList=cmpI (pkey a) (pkey b):=
 key_cmp _ _ _ (by rw [Array.length_toList];exact ha) (by rw [Array.length_toList];exact hb)
noncomputable section
section
variable {F:Funs} {e:Env} {P:Program} {ρ:Operand→Value} {ev:Ev}
theorem vrs_evs(hev:EvR F e ev ρ):∀ l:List Operand,VRs F e (l.map ev) (l.map ρ)
 | []=>rfl
 | x::l=>⟨ρ x,l.map ρ,rfl,hev x,vrs_evs hev l⟩
theorem aPart_run{t:TypeId}{cs:List AV}{off:Nat}{x:AV}{vs:List Value}(w:World)(hv:VRs F e cs vs)(h:aPart P t cs off=some x):∃ v,(part t vs.toArray off).run P w=.ok v w∧VR F e x v:=by
 unfold aPart at h
 split at h
 ·rename_i hg
  split at h
  ·rename_i n hs
   split at h
   ·rename_i hl
    cases h
    refine ⟨.agg ((vs.drop off).take n).toArray,?_,(vs.drop off).take n,rfl,VRs.take _ _ _ (VRs.drop _ _ _ hv)⟩
    simp [part,Zx hg,Zq hs]
   ·cases h
  ·cases h
 ·rename_i hg
  obtain ⟨v,h1,h2⟩:=VRs.get _ _ _ _ hv h
  exact ⟨v,by simp [part,Zx hg,h1],h2⟩
 ·cases h
theorem bytesOf_toList(l:List UInt8):(Qb l).toList=l:=by
 rw [ByteArray.toList_eq];simp [Qb]
theorem aEqF_run{xs ys:List AV}{vs us:List Value}(hx:VRs F e xs vs)(hy:VRs F e ys us)(d:Nat)(w:World):∀ {fs:List Field} {b:Bool},aEqF P xs ys fs=some b →
 (Op.eqFields (d+1) vs.toArray us.toArray fs).run P w=.ok b w
 | [],b,h=>by cases h;simp [Op.eqFields]
 | f::fs,b,h=>by
  unfold aEqF at h
  split at h
  ·cases h
  ·rename_i hn
   split at h
   ·rename_i s t hg h1 h2 hu
    obtain ⟨v1,g1,r1⟩:=VRs.get _ _ _ _ hx h1
    obtain ⟨v2,g2,r2⟩:=VRs.get _ _ _ _ hy h2
    have e1:=r1.2;have e2:=r2.2
    subst e1;subst e2
    have hrun:∀ k,teq s t=some k→(Op.equalIn (d+1) f.type (.string (Qb (den F e s))) (.string (Qb (den F e t)))).run P w=.ok k w:=by
     intro k hk
     have:=teq_den r1.1 r2.1 hk
     rw [run_equalIn_string w d f.type _ _ hu,bytesOf_toList,bytesOf_toList]
     congr 1
     cases k
     ·simpa using fun hh=>Bool.noConfusion (this.2 hh)
     ·simpa using this.1 rfl
    split at h
    ·rename_i hk
     have ih:=aEqF_run hx hy d w h
     simp [Op.eqFields,hn,part,Zx hg,g1,g2,hrun _ hk,ih]
    ·rename_i hk
     cases h
     simp [Op.eqFields,hn,part,Zx hg,g1,g2,hrun _ hk]
    ·cases h
   ·rename_i k a k' b' q hg h1 h2 hu
    obtain ⟨v1,g1,r1⟩:=VRs.get _ _ _ _ hx h1
    obtain ⟨v2,g2,r2⟩:=VRs.get _ _ _ _ hy h2
    have e1:v1=_:=r1
    have e2:v2=_:=r2
    subst e1;subst e2
    split at h
    ·rename_i hk
     subst hk
     split at h
     ·rename_i hab
      subst hab
      have ih:=aEqF_run hx hy d w h
      simp [Op.eqFields,hn,part,Zx hg,g1,g2,run_equalIn_int w d f.type _ _ _ _ hu,ih]
     ·rename_i hab
      cases h
      simp [Op.eqFields,hn,part,Zx hg,g1,g2,run_equalIn_int w d f.type _ _ _ _ hu,hab]
    ·cases h
   ·rename_i a b' hg h1 h2 hu
    obtain ⟨v1,g1,r1⟩:=VRs.get _ _ _ _ hx h1
    obtain ⟨v2,g2,r2⟩:=VRs.get _ _ _ _ hy h2
    have e1:v1=_:=r1
    have e2:v2=_:=r2
    subst e1;subst e2
    split at h
    ·rename_i hab
     subst hab
     have ih:=aEqF_run hx hy d w h
     simp [Op.eqFields,hn,part,Zx hg,g1,g2,run_equalIn_bool w d f.type _ _ hu,ih]
    ·rename_i hab
     cases h
     simp [Op.eqFields,hn,part,Zx hg,g1,g2,run_equalIn_bool w d f.type _ _ hu,hab]
   ·cases h
def Refy(v:Value):Prop:=(∃ a,v=.pointer a)∨(∃ a b c,v=.slice a b c)∨(∃ a,v=.map a)∨(∃ a b c,v=.func a b c)∨v=.nilFunc
theorem run_eql_refy{t:TypeId}{x y:Value}(hx:Refy x)(hy:Refy y)(w:World):(binOp .eql t x y).run P w=((Op.equalIn 10000 t x y).run P w).andThen fun b w'=>.ok (.bool b) w':=by
 rcases hx with ⟨a,rfl⟩ | ⟨a,b,c,rfl⟩ | ⟨a,rfl⟩ | ⟨a,b,c,rfl⟩ | rfl <;> rcases hy with ⟨a',rfl⟩ | ⟨a',b',c',rfl⟩ | ⟨a',rfl⟩ | ⟨a',b',c',rfl⟩ | rfl <;> (simp only [binOp];simp [Op.equal,Op.maxDepth])
theorem run_neq_refy{t:TypeId}{x y:Value}(hx:Refy x)(hy:Refy y)(w:World):(binOp .neq t x y).run P w=((Op.equalIn 10000 t x y).run P w).andThen fun b w'=>.ok (.bool (!b)) w':=by
 rcases hx with ⟨a,rfl⟩ | ⟨a,b,c,rfl⟩ | ⟨a,rfl⟩ | ⟨a,b,c,rfl⟩ | rfl <;> rcases hy with ⟨a',rfl⟩ | ⟨a',b',c',rfl⟩ | ⟨a',rfl⟩ | ⟨a',b',c',rfl⟩ | rfl <;> (simp only [binOp];simp [Op.equal,Op.maxDepth])
theorem noEq{t:TypeId}{x y:Value}{w:World}(hx:Refy x)(hy:Refy y)(h:∀ d,(Op.equalIn (d+1) t x y).run P w=.ok false w)(o1 o2:Operand) :
 (∀ op,(eqGuard op t o1 o2 x y).run P w=.ok () w)∧(binOp .eql t x y).run P w=.ok (.bool false) w∧(binOp .neq t x y).run P w=.ok (.bool !false) w:=by
 refine ⟨fun op=>?_,by rw [run_eql_refy hx hy,h 9999];rfl,by rw [run_neq_refy hx hy,h 9999];rfl⟩
 rcases hx with ⟨a,rfl⟩ | ⟨a,b,c,rfl⟩ | ⟨a,rfl⟩ | ⟨a,b,c,rfl⟩ | rfl <;> cases op <;> simp [eqGuard]
theorem aEq_run{t:TypeId}{x y:AV}{u v:Value}{b:Bool}(hx:VR F e x u)(hy:VR F e y v)(h:aEq P t x y=some b)(o1 o2:Operand)(w:World) :
 (∀ op,(eqGuard op t o1 o2 u v).run P w=.ok () w)∧(binOp .eql t u v).run P w=.ok (.bool b) w∧(binOp .neq t u v).run P w=.ok (.bool !b) w:=by
 unfold aEq at h
 split at h
 ·
  have e1:=hx.2;have e2:=hy.2
  subst e1;subst e2
  have:=teq_den hx.1 hy.1 h
  rename_i ta tb
  have hb:(den F e ta==den F e tb)=b:=by
   cases b
   ·simpa using fun hh=>Bool.noConfusion (this.2 hh)
   ·simpa using this.1 rfl
  refine ⟨fun op=>by cases op <;> simp [eqGuard],?_,?_⟩
  ·simp [binOp,Op.stringOp,bytesOf_toList,← hb]
  ·simp [binOp,Op.stringOp,bytesOf_toList,← hb]
 ·split at h
  ·cases h;rename_i hu
   obtain ⟨_,_,_,_,rfl⟩:=hx;have e2:v=_:=hy;subst e2
   exact noEq (.inl ⟨_,rfl⟩) (.inl ⟨_,rfl⟩) (fun d=>by simp [Op.equalIn,run_underlying hu]) o1 o2
  ·cases h
 ·split at h
  ·cases h;rename_i hu
   obtain ⟨_,_,_,_,rfl⟩:=hy;have e2:u=_:=hx;subst e2
   exact noEq (.inl ⟨_,rfl⟩) (.inl ⟨_,rfl⟩) (fun d=>by simp [Op.equalIn,run_underlying hu]) o1 o2
  ·cases h
 ·split at h
  ·cases h;rename_i hu
   obtain ⟨_,_,_,_,_,_,rfl,_⟩:=hx;have e2:v=_:=hy;subst e2
   exact noEq (.inr (.inl ⟨_,_,_,rfl⟩)) (.inr (.inl ⟨_,_,_,rfl⟩)) (fun d=>by simp [Op.equalIn,run_underlying hu]) o1 o2
  ·cases h
 ·split at h
  ·cases h;rename_i hu
   obtain ⟨_,_,_,_,_,_,rfl,_⟩:=hy;have e2:u=_:=hx;subst e2
   exact noEq (.inr (.inl ⟨_,_,_,rfl⟩)) (.inr (.inl ⟨_,_,_,rfl⟩)) (fun d=>by simp [Op.equalIn,run_underlying hu]) o1 o2
  ·cases h
 ·split at h
  ·cases h;rename_i hu
   obtain ⟨_,_,_,_,rfl⟩:=hx;have e2:v=_:=hy;subst e2
   exact noEq (.inr (.inr (.inl ⟨_,rfl⟩))) (.inr (.inr (.inl ⟨_,rfl⟩))) (fun d=>by simp [Op.equalIn,run_underlying hu]) o1 o2
  ·cases h
 ·split at h
  ·cases h;rename_i hu
   obtain ⟨_,_,_,_,rfl⟩:=hy;have e2:u=_:=hx;subst e2
   exact noEq (.inr (.inr (.inl ⟨_,rfl⟩))) (.inr (.inr (.inl ⟨_,rfl⟩))) (fun d=>by simp [Op.equalIn,run_underlying hu]) o1 o2
  ·cases h
 ·split at h
  ·cases h;rename_i hu
   obtain ⟨_,_,rfl,_⟩:=hx;have e2:v=_:=hy;subst e2
   exact noEq (.inr (.inr (.inr (.inl ⟨_,_,_,rfl⟩)))) (.inr (.inr (.inr (.inr rfl)))) (fun d=>by simp [Op.equalIn,run_underlying hu]) o1 o2
  ·cases h
 ·split at h
  ·cases h;rename_i hu
   obtain ⟨_,_,rfl,_⟩:=hy;have e2:u=_:=hx;subst e2
   exact noEq (.inr (.inr (.inr (.inr rfl)))) (.inr (.inr (.inr (.inl ⟨_,_,_,rfl⟩)))) (fun d=>by simp [Op.equalIn,run_underlying hu]) o1 o2
  ·cases h
 ·
  split at h
  ·rename_i fs hu
   split at h
   ·rename_i hs
    obtain ⟨a,rfl,ha⟩:=hx
    obtain ⟨b',rfl,hb⟩:=hy
    have hf:P.underlying t=some (.struct (P.fieldsOf t)):=by simp [Program.fieldsOf,hu]
    have hff:P.fieldsOf t=fs:=by simp [Program.fieldsOf,hu]
    have hr:=aEqF_run (P:=P) ha hb 9998 w h
    refine ⟨fun op=>run_eqGuard_agg w op t o1 o2 _ _ hs.2,?_,?_⟩
    ·rw [run_eql_struct,run_equalIn_struct w 9999 t _ _ hf hs.1,hff,hr];rfl
    ·rw [run_neq_struct,run_equalIn_struct w 9999 t _ _ hf hs.1,hff,hr];rfl
   ·cases h
  ·cases h
 ·cases h
end
end
end Go.Proofs.YthekdeikodppkaaGreatDoor
namespace Go.Proofs.YthekdeikodppkaaGreatDoor
open Go.RowKit Go.Lib
section
variable {w0 w w':World} {p q:Piece} {ps qs:List Piece} {e:TypeId} {n:Nat} {v:Value} {xs:List Value}
variable {P:Program} {t u ty:TypeId} {i:TypeInfo} {z:Value}
theorem strCells_eq(s:ByteArray):strCells s=byteCells s:=by
 simp [strCells,byteCells]
theorem run_append_str_sep(H:Own w0 w (slc e 1 v n xs::ps))(ht:P.underlying t=some (.slice e))(hu:P.underlying u=some .string)(hi:P.info? e=some i)(hz:i.zero=some z)(hsize:i.size=1)(hby:i.bytes=1)(hzs:z.cells.size=1)
 (s:ByteArray) (h63:n+s.size≤maxLen) (hbytes:n+s.size≤140737488355328) :
 ∃ v' w',(Builtin.append_ #[t,u] ty #[v,.string s]).run P w=.ok v' w'∧Own w0 w' (slc e 1 v' (n+s.size) (xs++byteCells s)::ps):=by
 have hsmall:n+s.size≤9223372036854775807:=by simpa [maxLen] using h63
 have hnl:=H.slc_len
 rw [Nat.mul_one] at hnl
 have hbl:=byteCells_length s
 have hlen:(xs++byteCells s).length=(n+s.size)*1:=by rw [lJ,hnl,hbl];omega
 have src:Src P i.size u (.string s) s.size (byteCells s) w:=by rw [hsize];exact Src.ofString w hu s
 have grown:∀ (qs:List Piece),Own w0 w qs→∀ (old:Nat),old<n+s.size →
  Own w0 (w.drew.alloc (.cells ((xs++byteCells s).toArray++Builtin.zeroCells z.cells (grownCap w (n+s.size) old e-(n+s.size))) e))
   (slc e 1 (.slice (some ⟨w.heap.size,0,none⟩) (n+s.size) (grownCap w (n+s.size) old e)) (n+s.size) (xs++byteCells s)::qs):=by
  intro qs hqs old ho
  have hge:=grownCap_ge w (n+s.size) old e
  have hcm:grownCap w (n+s.size) old e≤maxLen:=grownCap_le_maxLen w (n+s.size) old e h63
  refine (hqs.drew.alloc _).slc_mk hlen hge hcm ?_ ?_
  ·simp only [Array.size_append,List.size_toArray,size_zeroCells,hzs,hlen]
   omega
  ·simp only [Array.toList_append]
   rw [← hlen]
   exact List.take_left
 rcases H.slc_cases with ⟨rfl,rfl,rfl,h5⟩ | ⟨g,cap,cur,rfl,_,hc1,hc2,hc3,hc4,h5⟩
 ·by_cases h0:s.size=0
  ·have hb0:byteCells s=[]:=eJ (by omega)
   refine ⟨.slice none 0 0,w,?_,by simpa [h0,hb0] using H⟩
   simp [Builtin.append_,run_underlying ht,run_underlying hu,sizeOf,typeInfo,hi,Builtin.lenOf,h0,Builtin.firstCells]
  ·have hr:=run_append_grow_src (P:=P) w t u ty e i z ht hi hz none 0 0 [] (run_firstCells_none (P:=P) w.drew i.size 0 0 0) (.string s) s.size (byteCells s) src (by omega) (by omega) (growslice_fits (by omega) (by rw [hby];omega))
   exact ⟨_,_,hr,grown _ h5 0 (by omega)⟩
 ·by_cases hroom:n+s.size≤cap
  ·have hr:=run_append_room_string (P:=P) w t u ty e i ht hu hi hsize g n cap cur h5.block.1 s hroom (by omega)
   refine ⟨_,_,hr,?_⟩
   have hset:Own w0 (w.setRow g (cur.toList.take n++strCells s++cur.toList.drop (n+s.size)).toArray) (blk g (.cells (cur.toList.take n++strCells s++cur.toList.drop (n+s.size)).toArray e)::ps):=h5.setRow
   refine hset.slc_mk hlen hroom hc2 ?_ ?_
   ·simp only [List.size_toArray,lJ,List.length_take,List.length_drop,Array.length_toList,strCells_eq,hbl]
    omega
   ·rw [Nat.mul_one] at hc4
    rw [hc4,← hlen,strCells_eq]
    exact List.take_left
  ·have holds:∀ j u,xs[j]?=some u→w.cell? ((⟨g,0,none⟩:Addr).add j)=some u:=by
    obtain ⟨_,_,_,hv,_,_,_,hcl⟩:=H.rd
    cases hv
    exact hcl _ rfl
   have hfo:=run_firstCells_some (P:=P) w.drew i.size n ⟨g,0,none⟩ n cap xs (by rw [hsize];omega) (by simpa using holds)
   have hr:=run_append_grow_src (P:=P) w t u ty e i z ht hi hz (some ⟨g,0,none⟩) n cap xs hfo (.string s) s.size (byteCells s) src (by omega) (by omega) (growslice_fits (by omega) (by rw [hby];omega))
   exact ⟨_,_,hr,grown _ h5.drop cap (by omega)⟩
theorem wpList_append_str{ops:Array Oper}{rest:List Oper}{o:Oper}{a:Act}{Q:Exit→Act→World→Prop}(hgd:o.guard=none)(x y:Operand)
 (ho:o.op=.call { callee:=.builtin .append,args:=#[x,y],argTypes:=#[t,u] })
 (ht:P.underlying t=some (.slice e)) (hu:P.underlying u=some .string) (hinfo:(P.info? e).map (fun i=>(i.zero,i.size,i.bytes))=some (some z,1,1)) (hzs:z.cells.size=1)
 (hs:a.eval x=v) (H:Own w0 w (slc e 1 v n xs::ps)) {s:ByteArray} (hx:a.eval y=.string s)
 (h63:n+s.size≤140737488355328)
 (h:∀ v' w',Own w0 w' (slc e 1 v' (n+s.size) (xs++byteCells s)::ps)→wpList P ops Q rest (a.put o.dst v') w'):wpList P ops Q (o::rest) a w:=by
 obtain ⟨i,hi,hz,hsize,hby⟩:=info_parts hinfo
 refine wpList_plain hgd fun K hK=>?_
 obtain ⟨v',w',hr,h2⟩:=run_append_str_sep (P:=P) (ty:=o.type) H ht hu hi hz hsize hby hzs s (by simp only [maxLen];omega) h63
 unfold Oper.wp execOp
 simp only [ho,resolve,invoke,builtin,Sem.run_bind,Sem.run_pure,Result.andThen_ok,List.map_toArray,List.map_cons,List.map_nil,hs,hx,hr]
 exact hK _ _ (h v' w' h2)
theorem Js(src dst:TypeId)(hs:P.underlying src=some (.slice e))(he:P.underlying e=some (.int .u8))(hd:P.underlying dst=some .string){ns:List Int}(h:Rd w 1 v n (ns.map (.int .u8))) :
 (convert src dst v).run P w=.ok (.string (strOfNums ns)) w:=by
 have hl:ns.length=n:=by have:=h.len;simpa using this
 by_cases h0:n=0
 ·subst h0
  obtain ⟨a,c,rfl,_,_⟩:=h.shape
  obtain rfl:=eJ hl
  cases a with
  | none=>rw [run_convert_bytes_nil w src e hs he 0 c dst hd];rfl
  | some ad=>
   rw [run_convert_bytes_string w src dst e _ 0 c hs he hd,run_bytesToString w ad 0 c [] (by simp [loadCells,loadCellsFrom])]
   rfl
 ·obtain ⟨b,o,c,rfl,_,_,hc⟩:=h.at (by simp;omega)
  refine run_convert_bytes_arg w src e hs he b o n c ns hl (fun j hj=>?_) dst hd
  exact hc j _ (ints_get _ _ (by omega))
end
end Go.Proofs.YthekdeikodppkaaGreatDoor
namespace Go.Proofs.YthekdeikodppkaaGreatDoor
open Go.RowKit
def bi(b:Bool):Int:=if b then 1 else 0
theorem bi_bd(b:Bool):0≤bi b∧bi b≤1:=by cases b <;> decide
def valOf:List Bool→Int
 | []=>0
 | b::t=>bi b+2*valOf t
theorem valOf_bd:∀ l:List Bool,0≤valOf l∧valOf l<2^l.length
 | []=>by simp [valOf]
 | b::t=>by
  have h:=valOf_bd t
  have hb:=bi_bd b
  simp only [valOf,List.length_cons,Int.pow_succ]
  omega
theorem valOf_append:∀ l m:List Bool,valOf (l++m)=valOf l+2^l.length*valOf m
 | [],m=>by simp [valOf]
 | b::t,m=>by
  simp only [List.cons_append,valOf,valOf_append t m,List.length_cons,Int.pow_succ]
  rw [Int.mul_add,Int.mul_comm (2^t.length) 2,Int.mul_assoc]
  omega
theorem valOf_snoc(l:List Bool)(b:Bool):valOf (l++[b])=valOf l+2^l.length*bi b:=by
 rw [valOf_append];simp [valOf]
theorem pow2_le{a b:Nat}(h:a≤b):(2:Int)^a≤2^b:=by
 have:=Int.ofNat_le.2 (Nat.pow_le_pow_right (show 0<2 by decide) h)
 simpa [Int.natCast_pow] using this
def Zk(bs:List Bool)(k:Nat):Int:=valOf ((bs.drop (8*k)).take 8)
theorem byteAt_bd(bs:List Bool)(k:Nat):0≤Zk bs k∧Zk bs k<256:=by
 have h:=valOf_bd ((bs.drop (8*k)).take 8)
 refine ⟨h.1,Int.lt_of_lt_of_le h.2 ?_⟩
 have hl:((bs.drop (8*k)).take 8).length≤8:=by simp;omega
 exact pow2_le hl
theorem byteAt_bd'(bs:List Bool):Zk bs (bs.length/8)<2^(bs.length%8):=by
 have h:=valOf_bd ((bs.drop (8*(bs.length/8))).take 8)
 have hl:((bs.drop (8*(bs.length/8))).take 8).length=bs.length%8:=by simp;omega
 rw [hl] at h
 exact h.2
theorem byteAt_out(bs:List Bool)(k:Nat)(h:bs.length≤8*k):Zk bs k=0:=by
 unfold Zk
 rw [List.drop_eq_nil_of_le h]
 rfl
theorem byteAt_snoc(bs:List Bool)(b:Bool)(k:Nat):Zk (bs++[b]) k=if k=bs.length/8 then Zk bs k+2^(bs.length%8)*bi b else Zk bs k:=by
 unfold Zk
 split
 ·next h=>
  subst h
  have hl:(bs.drop (8*(bs.length/8))).length=bs.length%8:=by simp;omega
  rw [List.drop_append_of_le_length (by omega),List.take_of_length_le (by simp;omega),List.take_of_length_le (by omega),valOf_snoc,hl]
 ·next h=>
  by_cases hk:8*k≤bs.length
  ·rw [List.drop_append_of_le_length hk,List.take_append_of_le_length (by simp;omega)]
  ·rw [List.drop_eq_nil_of_le (by simp;omega),List.drop_eq_nil_of_le (by omega)]
def Qq(n:Nat):Nat:=(n+7)/8
def Jg(bs:List Bool):List Int:=(List.range (Qq bs.length)).map (Zk bs)
theorem bytesOf_length(bs:List Bool):(Jg bs).length=Qq bs.length:=by simp [Jg]
theorem bytesOf_get(bs:List Bool){k:Nat}(h:k<Qq bs.length):(Jg bs)[k]?=some (Zk bs k):=by simp [Jg,h]
theorem bytesOf_bd(bs:List Bool):∀ x∈Jg bs,0≤x∧x<256:=by
 intro x hx
 obtain ⟨k,_,rfl⟩:=List.mem_map.1 hx
 exact byteAt_bd bs k
theorem bytesOf_snoc(bs:List Bool)(b:Bool)(L:List Int)(hL:L=if bs.length%8=0 then Jg bs++[0] else Jg bs) :
 L.length=Qq (bs.length+1)∧L[bs.length/8]?=some (Zk bs (bs.length/8))∧Jg (bs++[b])=L.set (bs.length/8) (Zk bs (bs.length/8)+2^(bs.length%8)*bi b):=by
 have hlen:L.length=Qq (bs.length+1):=by
  rw [hL]
  split <;> simp [bytesOf_length,Qq] <;> omega
 have hget:∀ k,k<Qq (bs.length+1)→L[k]?=some (Zk bs k):=by
  intro k hk
  rw [hL]
  split
  ·next h0=>
   by_cases hk2:k<Qq bs.length
   ·rw [List.getElem?_append_left (by rw [bytesOf_length];exact hk2),bytesOf_get bs hk2]
   ·unfold Qq at hk hk2
    rw [List.getElem?_append_right (by rw [bytesOf_length];unfold Qq;omega),bytesOf_length,byteAt_out bs k (by omega)]
    have:k-Qq bs.length=0:=by unfold Qq;omega
    rw [this];rfl
  ·next h0=>exact bytesOf_get bs (by unfold Qq at *;omega)
 refine ⟨hlen,hget _ (by unfold Qq;omega),?_⟩
 apply List.ext_getElem?
 intro k
 by_cases hk:k<Qq (bs.length+1)
 ·rw [bytesOf_get _ (by simpa using hk),byteAt_snoc,List.getElem?_set]
  split
  ·next h=>rw [if_pos h.symm,if_pos (by omega),h]
  ·next h=>rw [if_neg (by omega),hget k hk]
 ·rw [List.getElem?_eq_none (by rw [bytesOf_length];simp;omega),List.getElem?_eq_none (by rw [List.length_set];omega)]
def padN(n:Nat):Nat:=(8-n%8)%8
def Jv(bs:List Bool):List Bool:=bs++List.replicate (padN bs.length) false
theorem Jh(bs:List Bool):(Jv bs).length=8*Qq bs.length:=by simp [Jv,padN,Qq];omega
theorem valOf_zeros(n:Nat):valOf (List.replicate n false)=0:=by
 induction n with
 | zero=>rfl
 | succ n ih=>simp [List.replicate_succ,valOf,bi,ih]
theorem byteAt_aligned(bs:List Bool)(k:Nat):Zk (Jv bs) k=Zk bs k:=by
 unfold Zk Jv
 by_cases hk:8*k≤bs.length
 ·rw [List.drop_append_of_le_length hk,List.take_append,valOf_append,List.take_replicate,valOf_zeros]
  simp
 ·rw [List.drop_eq_nil_of_le (show bs.length≤8*k by omega),List.drop_eq_nil_of_le (by simp [padN];omega)]
theorem bytesOf_aligned(bs:List Bool):Jg (Jv bs)=Jg bs:=by
 unfold Jg
 rw [Jh,show Qq (8*Qq bs.length)=Qq bs.length by unfold Qq;omega]
 exact List.map_congr_left fun k _=>byteAt_aligned bs k
def bitOf(v:Int)(i:Nat):Bool:=decide (v/2^i%2=1)
theorem bi_bitOf(v:Int)(i:Nat):bi (bitOf v i)=v/2^i%2:=by
 unfold bi bitOf
 simp only [decide_eq_true_eq]
 split <;> omega
def Qj(v:Int)(n:Nat):List Bool:=(List.range n).map (bitOf v)
theorem Qd(v:Int)(n:Nat):(Qj v n).length=n:=by simp [Qj]
theorem bitsOf_succ(v:Int)(n:Nat):Qj v (n+1)=Qj v n++[bitOf v n]:=by simp [Qj,List.range_succ]
theorem valOf_bitsOf(v:Int):∀ n:Nat,valOf (Qj v n)=v%2^n
 | 0=>by simp [Qj,valOf,Int.emod_one]
 | n+1=>by
  rw [bitsOf_succ,valOf_snoc,valOf_bitsOf v n,Qd,bi_bitOf,Int.pow_succ]
  have hp:(0:Int)<2^n:=Int.pow_pos (by decide)
  obtain ⟨m,hm⟩:∃ m:Int,m=2^n:=⟨_,rfl⟩
  rw [← hm] at hp ⊢
  have h1:=Int.mul_ediv_add_emod v m
  have h2:=Int.mul_ediv_add_emod (v/m) 2
  have h3:v=m*2*(v/m/2)+(v%m+m*(v/m%2)):=by
   have e:v/m=2*(v/m/2)+v/m%2:=by omega
   have e2:m*(v/m)=m*2*(v/m/2)+m*(v/m%2):=by
    have:=congrArg (m * ·) e
    simp only [Int.mul_add,← Int.mul_assoc] at this
    exact this
   omega
  have h4:=Int.emod_nonneg v (show m≠0 by omega)
  have h5:=Int.emod_lt_of_pos v hp
  have h6:0≤m*(v/m%2)∧m*(v/m%2)≤m:=by
   rcases Int.emod_two_eq (v/m) with h | h <;> rw [h] <;> omega
  have h7:(v%m+m*(v/m%2))%(m*2)=v%m+m*(v/m%2):=Int.emod_eq_of_lt (by omega) (by
   rcases Int.emod_two_eq (v/m) with h | h <;> rw [h] <;> omega)
  rw [← h7]
  conv=>rhs;rw [h3]
  rw [Int.add_comm (m*2*_),Int.add_mul_emod_self_left]
theorem bitOf_valOf:∀ (l:List Bool) (i:Nat),bitOf (valOf l) i=l.getD i false
 | [],i=>by simp [valOf,bitOf]
 | b::t,0=>by
  cases b <;> simp [valOf,bi,bitOf] <;> omega
 | b::t,i+1=>by
  have h:=bitOf_valOf t i
  have hb:=bi_bd b
  rw [List.getD_cons_succ,← h]
  have:(bi b+2*valOf t)/2^(i+1)=valOf t/2^i:=by
   rw [Int.pow_succ,Int.mul_comm (2^i) 2,← Int.ediv_ediv_of_nonneg (by decide)]
   congr 1
   omega
  simp [bitOf,valOf,this]
end Go.Proofs.YthekdeikodppkaaGreatDoor
namespace Go.Proofs.YthekdeikodppkaaGreatDoor
open Go.RowKit Go.Maps
open Go.WideElems (Fit rg)
def mdat(P:Program)(K E:TypeId)(es:Array MapEntry):DataW Unit:=.map ((es.toList.map (rg P K (plainElem (H:=Unit) P E))).foldr DataW.insert [])
def mpi(P:Program)(K E:TypeId){α:Type}(enc:α→Value)(b n:Nat)(g:α→Int):Piece:=fun h=>
 ∃ es clock,h=[(b,.map es clock)]∧Fit P K (plainElem (H:=Unit) P E) es clock∧es.size≤n∧∀ a kl,keyOf P K (enc a)=some kl→(mdat P K E es).atKey kl (.lit (.int .i64 0))=.lit (.int .i64 (g a))
section
variable {P:Program} {K E t:TypeId} {α:Type} {enc:α→Value} {b n:Nat} {g:α→Int} {w0 w:World} {ps:List Piece}
theorem Own.mpi_open(h:Own w0 w (mpi P K E enc b n g::ps)):∃ es clock,Fit P K (plainElem (H:=Unit) P E) es clock∧es.size≤n∧(∀ a kl,keyOf P K (enc a)=some kl→(mdat P K E es).atKey kl (.lit (.int .i64 0))=.lit (.int .i64 (g a)))∧Own w0 w (blk b (.map es clock)::ps):=by
 obtain ⟨hb,x,⟨es,clock,rfl,h1,h2,h3⟩,r⟩:=h
 exact ⟨es,clock,h1,h2,h3,hb,_,rfl,r⟩
theorem Own.mpi_shut{es:Array MapEntry}{clock:Nat}(h1:Fit P K (plainElem (H:=Unit) P E) es clock)(h2:es.size≤n)(h3:∀ a kl,keyOf P K (enc a)=some kl→(mdat P K E es).atKey kl (.lit (.int .i64 0))=.lit (.int .i64 (g a)))
 (h:Own w0 w (blk b (.map es clock)::ps)):Own w0 w (mpi P K E enc b n g::ps):=by
 obtain ⟨hb,x,rfl,r⟩:=h
 exact ⟨hb,_,⟨es,clock,rfl,h1,h2,h3⟩,r⟩
theorem Own.mpi_new(h:Own w0 w ps):Own w0 (w.alloc (.map #[] 0)) (mpi P K E enc w.heap.size 0 (fun _=>0)::ps):=by
 obtain ⟨es,clock,hb,F,hs,hD⟩:=World.ownsMap_made (H:=Unit) w P K (plainElem P E)
 have hb':(w.alloc (.map #[] 0)).heap[w.heap.size]?=some (.map #[] 0):=heap_alloc_new w _
 rw [hb'] at hb
 cases hb
 refine (h.alloc (.map #[] 0)).mpi_shut F (Nat.le_refl _) fun a kl _=>?_
 unfold mdat
 rw [← hD]
 rfl
theorem mpi_lookup(h:Own w0 w (mpi P K E enc b n g::ps))(hK:Keyed P K)(ht:P.underlying t=some (.map K E))(he:P.underlying E=some (.int .i64))(hz:(zeroValue E).run P w=.ok (.int .i64 0) w)
 {a:α} {kl:Lit} (hkey:keyOf P K (enc a)=some kl):(Instr.lookup t (.map (some b)) (enc a) false).run P w=.ok (.int .i64 (g a)) w:=by
 obtain ⟨es,clock,F,hs,hg,h⟩:=h.mpi_open
 have hown:w.ownsMap P K (plainElem (H:=Unit) P E) b n (mdat P K E es):=⟨es,clock,h.block.1,F,hs,rfl⟩
 obtain ⟨c,hrun,hat,_⟩:=hown.lookup_int hK ht he hz hkey
 rw [hg a kl hkey] at hat
 cases hat
 exact hrun
variable [DecidableEq α]
theorem mpi_update(h:Own w0 w (mpi P K E enc b n g::ps))(hK:Keyed P K)(ht:P.underlying t=some (.map K E))(he:P.underlying E=some (.int .i64))(hn:n<9223372036854775807)(henc:∀ x y,enc x=enc y→x=y)
 {a:α} {kl:Lit} (hkey:keyOf P K (enc a)=some kl) {c:Int} (hc:-9223372036854775808≤c∧c≤9223372036854775807) :
 ∃ w',(Instr.mapUpdate t (.map (some b)) (enc a) (.int .i64 c)).run P w=.ok () w'∧Own w0 w' (mpi P K E enc b (n+1) (fun x=>if x=a then c else g x)::ps):=by
 obtain ⟨es,clock,F,hs,hg,h⟩:=h.mpi_open
 have hown:w.ownsMap P K (plainElem (H:=Unit) P E) b n (mdat P K E es):=⟨es,clock,h.block.1,F,hs,rfl⟩
 have hwf:(Lit.int .i64 c).wf=true:=WalkArith.wf_i64 (by omega)
 obtain ⟨w',hrun,⟨es',clock',hb',F',hs',hD⟩,hgr⟩:=hown.update hK ht (by unfold maxLen;omega) hkey (plainElem_int he hwf)
 refine ⟨w',hrun,Own.mpi_shut F' hs' (fun x kx hx=>?_) (h.turn hgr.os hgr.tape hgr.output hgr.size hb' fun k hk hne=>hgr.block k hk (by simpa using hne))⟩
 show (DataW.map _).atKey kx _=_
 rw [← hD]
 by_cases hxa:x=a
 ·subst hxa
  rw [hkey] at hx
  cases hx
  rw [if_pos rfl]
  exact atKey_put_same ⟨_,rfl⟩ (hK.key hkey) _ _
 ·rw [if_neg hxa,atKey_put_other]
  ·exact hg x kx hx
  ·rintro rfl
   exact hxa (henc _ _ (hK.inj hx hkey))
end
section
variable {P:Program} {K E t:TypeId} {α:Type} {enc:α→Value} {b n:Nat} {g:α→Int} {w0 w:World} {ps:List Piece} [DecidableEq α]
variable {ops:Array Oper} {rest:List Oper} {o:Oper} {act:Act} {Q:Exit→Act→World→Prop}
theorem wpList_update_mpi(hgd:o.guard=none)(m x v:Operand)(hop:o.op=.mapUpdate t m x v)(H:Own w0 w (mpi P K E enc b n g::ps))(hK:Keyed P K)(ht:P.underlying t=some (.map K E))(he:P.underlying E=some (.int .i64))(hn:n<9223372036854775807)(henc:∀ x y,enc x=enc y→x=y)
 (hm:act.eval m=.map (some b)) {a:α} (hx:act.eval x=enc a) {kl:Lit} (hkey:keyOf P K (enc a)=some kl) {c:Int} (hv:act.eval v=.int .i64 c) (hc:-9223372036854775808≤c∧c≤9223372036854775807)
 (h:∀ w',Own w0 w' (mpi P K E enc b (n+1) (fun x=>if x=a then c else g x)::ps)→wpList P ops Q rest (act.put o.dst undef) w'):wpList P ops Q (o::rest) act w:=by
 refine wpList_plain hgd fun K' hK'=>?_
 obtain ⟨w',hrun,h2⟩:=mpi_update H hK ht he hn henc hkey hc
 unfold Oper.wp
 simp [execOp,hop,hm,hx,hv,hrun,Result.andThen]
 exact hK' _ _ (h w' h2)
end
end Go.Proofs.YthekdeikodppkaaGreatDoor
namespace Go.Proofs.YthekdeikodppkaaGreatDoor
open Go.RowKit
section
variable {P:Program} {ops:Array Oper} {S:Sig→World→Prop} {nw:List Nat} {R:Act→Prop} {a:Act} {o:Oper} {rest:List Oper} {i:Nat}
theorem calm_value{v:Value}(hi:i ∉ nw)(hw:Region.wanted o (yielded ops a.tmps)=true)(h1:∀ σ w,S σ w→(execOp a.eval o).run P w=.ok (.value v) w)(h:calm P ops S nw R (i+1) rest (a.put o.dst v)):calm P ops S nw R i (o::rest) a:=
 calm_step v hi hw (fun σ w hS K Q hK=>by unfold Oper.wp;rw [h1 σ w hS];exact hK w hS) h
theorem calm_call{v:Value}{f:FuncId}{args:Array Value}(hi:i ∉ nw)(hw:Region.wanted o (yielded ops a.tmps)=true)(hr:∀ w,(execOp a.eval o).run P w=.ok (.enter f args) w)
 (hc:∀ σ w,S σ w→Calls P f args w fun e w'=>e=.returned v∧S σ w') (h:calm P ops S nw R (i+1) rest (a.put o.dst v)):calm P ops S nw R i (o::rest) a:=
 calm_step v hi hw (fun σ w hS K Q hK=>by
  unfold Oper.wp
  rw [hr w]
  refine (hc σ w hS).mono ?_
  rintro e w' ⟨rfl,hS'⟩
  exact hK w' hS') h
end
def newP(o:Obj):Option Value→List Piece
 | none=>[]
 | some v=>[fun h=>∃ g,v=.pointer (some ⟨g,0,none⟩)∧h=[(g,o)]]
theorem Own.skip{w0 w:World}{qs ps:List Piece}(h:Own w0 w (qs++ps)):Own w0 w ps:=by
 induction qs with
 | nil=>exact h
 | cons q qs ih=>exact ih h.drop
section
variable {P:Program} {ops:Array Oper} {nw:List Nat} {R:Act→Prop} {a:Act} {o:Oper} {rest:List Oper} {i:Nat} {w0:World} {ps:List Piece}
def newR(o:Obj)(n:Nat):Option Value→List Piece
 | none=>[]
 | some v=>[fun h=>∃ g,v=.slice (some ⟨g,0,none⟩) n n∧h=[(g,o)]]
theorem Own.newr{w0 w:World}{o:Obj}{n:Nat}{v:Value}{ps:List Piece}(h:Own w0 w (newR o n (some v)++ps)):∃ g,v=.slice (some ⟨g,0,none⟩) n n∧Own w0 w (blk g o::ps):=by
 obtain ⟨hb,x,⟨g,hv,hx⟩,r⟩:=h
 exact ⟨g,hv,hb,x,hx,r⟩
theorem calm_row{obj:Obj}{n:Nat}(hi:i∈nw)(hr:∀ w,(execOp a.eval o).run P w=.ok (.value (.slice (some ⟨w.heap.size,0,none⟩) n n)) (w.alloc obj))
 (h:calm P ops (fun σ w=>Own w0 w (newR obj n (σ i)++ps)) nw R (i+1) rest a):calm P ops (fun σ w=>Own w0 w (newR obj n (σ i)++ps)) nw R i (o::rest) a:=
 calm_new hi (fun σ w hS K Q hK=>by
  unfold Oper.wp
  rw [hr w]
  refine hK _ _ ?_
  have hs:(σ.upd i (.slice (some ⟨w.heap.size,0,none⟩) n n)) i=some (.slice (some ⟨w.heap.size,0,none⟩) n n):=by simp [Sig.upd]
  show Own w0 _ (newR obj n ((σ.upd i _) i)++ps)
  rw [hs]
  exact (hS.skip.alloc obj).imp fun x hx=>⟨_,rfl,hx⟩) h
end
noncomputable section
def PartsR(F:Funs)(e:Env):List (Nat × AV)→List (Nat × Value)→Prop
 | [],l=>l=[]
 | p::ps,l=>∃ v l',l=(p.1,v)::l'∧VR F e p.2 v∧PartsR F e ps l'
section
variable {F:Funs} {e:Env} {P:Program} {ρ:Operand→Value} {ev:Ev}
theorem put_fold:∀ (xs:List AV) (vs:List Value) (k:Nat) (cs:List AV) (c:Array Value) (off:Nat),VRs F e xs vs→VRs F e cs c.toList →
 VRs F e (putAt cs (off+k) xs) ((vs.zipIdx k).foldl (fun cs (p:Value × Nat)=>cs.setIfInBounds (off+p.2) p.1) c).toList
 | [],vs,k,cs,c,off,hx,hc=>by rw [show vs=[] from hx];exact hc
 | x::xs,vs,k,cs,c,off,hx,hc=>by
  obtain ⟨v,l',rfl,h1,h2⟩:=hx
  simp only [List.zipIdx_cons,List.foldl_cons,putAt]
  have:=put_fold xs l' (k+1) (cs.set (off+k) x) (c.setIfInBounds (off+k) v) off h2 (by rw [Array.toList_setIfInBounds];exact VRs.set _ _ _ _ _ hc h1)
  rw [← Nat.add_assoc] at this
  exact this
theorem aFill_run{place:Nat→Option (Nat × Nat)}:∀ {parts:List (Nat × AV)} {ps:List (Nat × Value)} {cs r:List AV} {c:Array Value},PartsR F e parts ps→VRs F e cs c.toList→aFill place cs parts=some r →
 ∃ c',Instr.fill place c ps=some c'∧VRs F e r c'.toList
 | [],ps,cs,r,c,hp,hc,h=>by
  rw [show ps=[] from hp]
  simp only [aFill,Option.some.injEq] at h
  subst h
  exact ⟨c,rfl,hc⟩
 | (i,x)::parts,ps,cs,r,c,hp,hc,h=>by
   obtain ⟨v,l',rfl,h1,h2⟩:=hp
   unfold aFill at h
   cases hpl:place i with
   | none=>rw [hpl] at h;cases h
   | some q=>
    obtain ⟨off,size⟩:=q
    rw [hpl] at h
    dsimp only at h
    split at h
    ·rename_i hk
     have hcs:=h1.cells
     have hl:=VRs.length _ _ hcs
     have hlc:=VRs.length _ _ hc
     simp only [Array.length_toList] at hl hlc
     obtain ⟨c',g1,g2⟩:=aFill_run (c:=(v.cells.zipIdx.foldl (fun cs (c,j)=>cs.setIfInBounds (off+j) c) c)) h2 (by
      rw [← Array.foldl_toList,Array.toList_zipIdx]
      exact put_fold x.cells v.cells.toList 0 cs c off hcs hc) h
     refine ⟨c',?_,g2⟩
     unfold Instr.fill
     rw [hpl]
     dsimp only
     rw [if_neg (by simp only [Bool.or_eq_true,decide_eq_true_eq,ne_eq];omega)]
     exact g1
    ·cases h
theorem partsR(hev:EvR F e ev ρ):∀ l:List (Nat × Operand),PartsR F e (l.map fun p=>(p.1,ev p.2)) (l.map fun p=>(p.1,ρ p.2))
 | []=>rfl
 | p::l=>⟨_,_,rfl,hev p.2,partsR hev l⟩
theorem places_eq:∀ {fs:List Field} {pl:List (Nat × Nat)},aPlaces P fs=some pl→fs.mapM (fun f=>(P.info? f.type).map fun i=>(f.offset,i.size))=some pl:=by
 intro fs pl h
 unfold aPlaces at h
 rw [← h]
 congr 1
 funext f
 cases hi:P.info? f.type <;> simp [szT,hi]
theorem aBuild_run{t:TypeId}{parts:List (Nat × AV)}{ps:List (Nat × Value)}{x:AV}(hp:PartsR F e parts ps)(h:aBuild P t parts=some x):∃ c,P.built t ps=some c∧VR F e x (.agg c):=by
 unfold aBuild at h
 cases hi:P.info? t with
 | none=>simp [zeroT,hi] at h
 | some i=>
  cases hz:i.zero with
  | none=>simp [zeroT,hi,hz] at h
  | some z=>
   have hc:VRs F e (ofVal z).cells z.cells.toList:=(vr_ofVal F e z).cells
   simp only [zeroT,hi,hz,Option.bind_some,Option.map_some] at h
   split at h
   ·rename_i fs hu
    split at h
    ·rename_i pl hpl
     simp only [Option.map_eq_some_iff] at h
     obtain ⟨r,hr,rfl⟩:=h
     obtain ⟨c',g1,g2⟩:=aFill_run hp hc hr
     refine ⟨c',?_,c'.toList,by simp,g2⟩
     simp only [Program.built,hi,hu,hz,places_eq hpl]
     rw [← g1]
     congr 1
     funext j
     simp
    ·cases h
   ·rename_i n elem hu
    split at h
    ·rename_i m hm
     simp only [Option.map_eq_some_iff] at h
     obtain ⟨r,hr,rfl⟩:=h
     obtain ⟨c',g1,g2⟩:=aFill_run hp hc hr
     refine ⟨c',?_,c'.toList,by simp,g2⟩
     unfold szT at hm
     cases hie:P.info? elem with
     | none=>rw [hie] at hm;cases hm
     | some ie=>
      rw [hie] at hm;cases hm
      simp only [Program.built,hi,hu,hz,hie]
      exact g1
    ·cases h
   ·cases h
end
end
noncomputable section
section
variable {F:Funs} {e:Env} {P:Program} {ρ:Operand→Value} {ev:Ev}
theorem bound_run{lim lim' d n:Nat}{x:Option Operand}(hev:EvR F e ev ρ)(h:aBd d lim (x.map ev)=some n)(hl:lim≤lim')(code:BoundsCode)(w:World) :
 match x with
 | none=>n=d
 | some o=>(Instr.sliceBound (ρ o) lim' code).run P w=.ok n w∧n≤lim:=by
 cases x with
 | none=>simp only [Option.map_none,aBd,Option.some.injEq] at h;exact h.symm
 | some o=>
  simp only [Option.map_some] at h
  unfold aBd at h
  split at h
  ·rename_i heq;cases heq
  ·rename_i k i heq
   simp only [Option.some.injEq] at heq
   split at h
   ·rename_i hi
    cases h
    have:=hev o
    rw [heq] at this
    have hv:ρ o=.int k i:=this
    refine ⟨?_,by omega⟩
    simp only [Instr.sliceBound,asIntOf,hv,Sem.run_bind,Sem.run_pure,Result.andThen_ok]
    rw [if_pos (by omega)]
    rfl
   ·cases h
  ·cases h
theorem bounds_run{lim lim' len h l:Nat}{lo hi:Option Operand}(hev:EvR F e ev ρ)(hh:aBd len lim (hi.map ev)=some h)(hlo:aBd 0 h (lo.map ev)=some l)(hle:lim≤lim')(hlen:len≤lim)(isS:Bool)(w:World) :
 (Instr.sliceBounds isS len lim' (lo.map ρ) (hi.map ρ) none).run P w=.ok (l,h,lim') w∧h≤lim∧l≤h:=by
 have h1:=fun c=>bound_run (P:=P) (ρ:=ρ) hev hh hle c w
 have h2:=fun c=>bound_run (P:=P) (ρ:=ρ) hev hlo (Nat.le_refl _) c w
 cases hi <;> cases lo <;> simp only at h1 h2
 ·have e1:=h1 .index;have e2:=h2 .index;subst e1;subst e2
  exact ⟨by simp [Instr.sliceBounds],hlen,Nat.zero_le _⟩
 ·have e1:=h1 .index;subst e1
  exact ⟨by simp [Instr.sliceBounds,(h2 _).1],hlen,(h2 .index).2⟩
 ·have e2:=h2 .index;subst e2
  exact ⟨by simp [Instr.sliceBounds,(h1 _).1],(h1 .index).2,Nat.zero_le _⟩
 ·exact ⟨by simp [Instr.sliceBounds,(h1 _).1,(h2 _).1],(h1 .index).2,(h2 .index).2⟩
theorem cut_bytes(l:List UInt8)(a b:Nat):(Qb l).extract a b=Qb ((l.take b).drop a):=by
 apply ByteArray.ext
 simp only [Qb,ByteArray.data_extract]
 apply Array.ext'
 simp [List.drop_take]
theorem add_if(B k m l s:Nat):(if m=l then (⟨B,k,none⟩:Addr) else (⟨B,k,none⟩:Addr).add (l*s))=⟨B,if m=l then k else k+l*s,none⟩:=by
 split
 ·rfl
 ·rw [Ki]
theorem iLt_eq(a b:Int):iLt a b=decide (a<b):=by
 unfold iLt
 split
 ·rename_i x y
  by_cases h:x<y
  ·rw [show Nat.blt x y=true by simpa using h];simp;omega
  ·rw [show Nat.blt x y=false by rw [Bool.eq_false_iff];simpa using h];simp;omega
 ·rfl
theorem iEq_eq(a b:Int):iEq a b=decide (a=b):=by
 unfold iEq
 split
 ·rename_i x y
  by_cases h:x=y
  ·subst h;simp
  ·rw [show Nat.beq x y=false by rw [Bool.eq_false_iff];simpa using h];simp;omega
 ·rfl
theorem aWrap_eq(k:IntKind)(n:Int):aWrap k n=k.wrap n:=by
 unfold aWrap
 split
 ·rename_i m
  split
  ·rename_i h
   have h:m<9223372036854775808:=by simpa using h
   have e:(Int.ofNat m)%(2^IntKind.i64.bits:Int)=Int.ofNat m:=Int.emod_eq_of_lt (by simp) (by
    show _<(18446744073709551616:Int)
    simp only [Int.ofNat_eq_natCast];omega)
   unfold IntKind.wrap
   simp only [e]
   rw [if_neg]
   show ¬ ((true&&decide ((Int.ofNat m)≥(9223372036854775808:Int)))=true)
   simp
   omega
  ·rfl
 ·rfl
theorem aBin_run{op:BinOp}{x y:AV}{u v:Value}{r:AV}(hx:VR F e x u)(hy:VR F e y v)(h:aBin op x y=some r)(o1 o2:Operand)(t:TypeId)(w:World) :
 ∃ z,(eqGuard op t o1 o2 u v).run P w=.ok () w∧(binOp op t u v).run P w=.ok z w∧VR F e r z:=by
 unfold aBin at h
 split at h
 ·rename_i k a k' b
  have e1:u=.int k a:=hx
  have e2:v=.int k' b:=hy
  subst e1;subst e2
  split at h
  ·rename_i hk
   have hk:k=k':=by simpa using hk
   subst hk
   cases op <;> simp only [aInt,Option.some.injEq] at h <;> first
    | (cases h;done)
    | (subst h;exact ⟨_,by simp [eqGuard],by simp only [binOp,Op.intArith,Op.intCmp,ne_eq,not_true_eq_false,if_false,Sem.run_pure];rfl,by simp [VR,aWrap_eq,iLt_eq,iEq_eq] <;> first | rfl | (rw [← decide_not];congr 1;exact propext Int.not_lt.symm)⟩)
  ·cases h
 ·cases h
theorem aPure_gives{o:Oper}{x:AV}(hev:EvR F e ev ρ)(h:aPure P ev o=some x):Gives F e P ρ o x:=by
 obtain ⟨dst,op,type,pos,after,guard⟩:=o
 intro w
 cases op
 case move y=>simp only [aPure,Option.some.injEq] at h;subst h;exact ⟨ρ y,by simp [execOp],hev y⟩
 case assign y=>simp only [aPure,Option.some.injEq] at h;subst h;exact ⟨ρ y,by simp [execOp],hev y⟩
 case pick c a b=>
  simp only [aPure,pPick] at h
  have:=hev c
  split at h
  ·rename_i hc;cases h;rw [hc] at this;have hv:ρ c=.bool true:=this
   exact ⟨ρ a,by simp [execOp,hv,asBool],hev a⟩
  ·rename_i hc;cases h;rw [hc] at this;have hv:ρ c=.bool false:=this
   exact ⟨ρ b,by simp [execOp,hv,asBool],hev b⟩
  ·cases h
 case nilCheck y=>
  simp only [aPure,pNil] at h
  have:=hev y
  split at h
  ·rename_i hc;cases h;rw [hc] at this
   have h':=this
   obtain ⟨B,k,n,hb,hv⟩:=this
   exact ⟨ρ y,by simp [execOp,hv],h'⟩
  ·rename_i hc;cases h;rw [hc] at this
   have h':=this
   obtain ⟨a,b,hv,_,_⟩:=this
   exact ⟨ρ y,by simp [execOp,hv],h'⟩
  ·cases h
 case makeFunc f a b=>
  simp only [aPure,Option.some.injEq] at h;subst h
  exact ⟨.func f (a.map ρ) (b.map ρ),by simp [execOp,Instr.makeFunc],a.toList.map ρ,b.toList.map ρ,by simp [← Array.toList_map],vrs_evs hev _,vrs_evs hev _⟩
 case extract y i=>
  simp only [aPure,pExtract] at h
  have:=hev y
  split at h
  ·rename_i vs hc;rw [hc] at this
   obtain ⟨a,hv,hs⟩:=this
   obtain ⟨v,h1,h2⟩:=VRs.get _ _ _ _ hs h
   exact ⟨v,by simp [execOp,hv,Instr.extract,h1],h2⟩
  ·rename_i vs hc;rw [hc] at this
   have hv:ρ y=.tuple vs:=this
   simp only [Option.map_eq_some_iff] at h
   obtain ⟨v,h1,rfl⟩:=h
   exact ⟨v,by simp [execOp,hv,Instr.extract,h1],vr_ofVal2 F e v⟩
  ·cases h
 case fieldAddr s y f=>
  simp only [aPure,pFieldAddr] at h
  have:=hev y
  split at h
  ·rename_i b n fd hc hf;rw [hc] at this
   obtain ⟨B,k,m,hb,hv⟩:=this
   split at h
   ·rename_i sz hs
    cases h
    unfold aFieldOf at hf
    split at hf
    ·rename_i fs hu
     refine ⟨.pointer (some ⟨B,k+n+fd.offset,none⟩),by simp [execOp,hv,Instr.fieldAt,Instr.sureAddr,run_underlying hu,hf,fieldPlace,Zq hs,Ki],B,k,m,hb,?_⟩
     rw [Nat.add_assoc]
    ·cases hf
   ·cases h
  ·cases h
 case field s y f=>
  simp only [aPure,pField] at h
  have:=hev y
  split at h
  ·rename_i fd hf
   split at h
   ·rename_i cs hc;rw [hc] at this
    obtain ⟨a,hv,hs⟩:=this
    obtain ⟨v,h1,h2⟩:=aPart_run w hs h
    unfold aFieldOf at hf
    split at hf
    ·rename_i fs hu
     exact ⟨v,by simp [execOp,hv,Instr.field,run_underlying hu,hf,asAgg,h1],h2⟩
    ·cases hf
   ·cases h
  ·cases h
 case indexAddr t y i=>
  simp only [aPure,pIndexAddr] at h
  have h1:=hev y
  have h2:=hev i
  split at h
  ·rename_i b n len cap es q k elem hc hi hu
   rw [hc] at h1;rw [hi] at h2
   obtain ⟨B,k',m,c',o',hb,hv,ho,hlc,hcc,hn,hm⟩:=h1
   have hv2:ρ i=.int q k:=h2
   split at h
   ·rename_i hk
    cases h
    obtain ⟨hk1,hk2,hk3⟩:=hk
    refine ⟨.pointer (some ⟨B,o'+k.toNat*es,none⟩),by simp [execOp,hv,hv2,Instr.indexAt,asIntOf,run_underlying hu,hk1,hk2,Zq hk3,Ki],B,k',m,hb,?_⟩
    rcases ho with rfl | hz
    ·rw [Nat.add_assoc]
    ·omega
   ·cases h
  ·rename_i b n q k len elem hc hi hu
   rw [hc] at h1;rw [hi] at h2
   obtain ⟨B,k',m,hb,hv⟩:=h1
   have hv2:ρ i=.int q k:=h2
   split at h
   ·rename_i es hs
    split at h
    ·rename_i hk
     cases h
     exact ⟨.pointer (some ⟨B,k'+n+k.toNat*es,none⟩),by simp [execOp,hv,hv2,Instr.indexAt,Instr.sureAddr,asIntOf,run_underlying hu,hk.1,hk.2,Zq hs,Ki],B,k',m,hb,by rw [Nat.add_assoc]⟩
    ·cases h
   ·cases h
  ·cases h
 case index t y i=>
  simp only [aPure,pIndex] at h
  split at h
  ·rename_i cs q k len elem hc hi hu
   have h1:=hev y
   have h2:=hev i
   rw [hc] at h1;rw [hi] at h2
   obtain ⟨a,hv,hs⟩:=h1
   have hv2:ρ i=.int q k:=h2
   split at h
   ·rename_i es hsz
    split at h
    ·rename_i hk
     obtain ⟨v,g1,g2⟩:=aPart_run w hs h
     exact ⟨v,by simp [execOp,hv,hv2,Instr.index,asIntOf,run_underlying hu,hk.1,hk.2,Zq hsz,g1],g2⟩
    ·cases h
   ·cases h
  ·exact Zt hev h w
 case slice t y lo hi mx=>
  cases mx with
  | some mx=>
   simp only [aPure] at h
   have h1:=hev y
   unfold pSlice3 at h
   split at h
   ·rename_i b n len cap es elem hv' hc hu hhi
    rw [hc] at h1
    obtain ⟨B,k',m,c',o',hb,hv,ho,hlc,hcc,hn,hm⟩:=h1
    split at h
    ·rename_i mm hmm
     split at h
     ·rename_i hh hhh
      split at h
      ·rename_i l hl
       split at h
       ·rename_i hs
        cases h
        cases hi with
        | none=>simp at hhi
        | some hiO=>
        simp only [Option.map_some,Option.some.injEq] at hhi
        subst hhi
        obtain ⟨r1,r2⟩:=bound_run (P:=P) (ρ:=ρ) (x:=some mx) hev (by simpa using hmm) hcc .slice3Acap w
        obtain ⟨r3,r4⟩:=bound_run (P:=P) (ρ:=ρ) (x:=some hiO) hev (by simpa using hhh) (Nat.le_refl _) .slice3B w
        have r5:=bound_run (P:=P) (ρ:=ρ) (x:=lo) hev hl (Nat.le_refl _) .slice3C w
        have hlh:l≤hh∧(Instr.sliceBounds true len c' (lo.map ρ) (some (ρ hiO)) (some (ρ mx))).run P w=.ok (l,hh,mm) w:=by
         cases lo with
         | none=>
          simp only at r5
          subst r5
          exact ⟨Nat.zero_le _,by simp [Instr.sliceBounds,r1,r3]⟩
         | some loO=>
          simp only at r5
          exact ⟨r5.2,by simp [Instr.sliceBounds,r1,r3,r5.1]⟩
        obtain ⟨hlh,g1⟩:=hlh
        refine ⟨.slice (some ⟨B,if mm=l then o' else o'+l*es,none⟩) (hh-l) (mm-l),?_,B,k',m,mm-l,_,hb,rfl,?_,by omega,by omega,?_,by omega⟩
        ·simp only [execOp,Instr.sliceAt,Instr.slice,Sem.run_bind,run_underlying hu,Result.andThen_ok,hv,Zq hs,Sem.run_pure]
         simp only [Option.map_some,Ki,g1,Result.andThen_ok]
         split <;> rfl
        ·by_cases hcl:mm=l
         ·right;omega
         ·rw [if_neg hcl]
          rcases ho with rfl | hz
          ·left;omega
          ·right;omega
        ·by_cases hcl:mm=l
         ·rw [if_pos hcl,hcl,Nat.sub_self,Nat.zero_mul];omega
         ·rw [if_neg hcl]
          have e1:l*es+(mm-l)*es=mm*es:=by rw [← Nat.add_mul];congr 1;omega
          have e2:mm*es≤c'*es:=Nat.mul_le_mul_right _ (by omega)
          omega
       ·cases h
      ·cases h
     ·cases h
    ·cases h
   ·exact Zt hev h w
  | none=>
  simp only [aPure,pSlice] at h
  have h1:=hev y
  split at h
  ·rename_i s hc hu
   rw [hc] at h1
   split at h
   ·rename_i b hb
    split at h
    ·rename_i a ha
     cases h
     have hl:=Zh h1.1
     obtain ⟨g1,g2,g3⟩:=bounds_run (P:=P) hev hb ha (Nat.le_refl _) (Nat.le_refl _) false w
     have k1:=ttake_ok (n:=b) h1.1
     have k2:=tdrop_ok (n:=a) k1.1
     refine ⟨.string (Qb (den F e (tdrop a (ttake b s)))),?_,k2.1,rfl⟩
     have hsz:(Qb (den F e s)).size=tlen s:=by rw [← hl];simp [Qb,ByteArray.size]
     simp [execOp,h1.2,Instr.sliceAt,Instr.slice,run_underlying hu,hsz,g1,cut_bytes,k2.2,k1.2]
    ·cases h
   ·cases h
  ·rename_i b n len cap es elem hc hu
   rw [hc] at h1
   obtain ⟨B,k',m,c',o',hb,hv,ho,hlc,hcc,hn,hm⟩:=h1
   split at h
   ·rename_i hh hb2
    split at h
    ·rename_i l hl
     split at h
     ·rename_i hs
      cases h
      obtain ⟨g1,g2,g3⟩:=bounds_run (P:=P) hev hb2 hl hcc hlc true w
      refine ⟨.slice (some ⟨B,if c'=l then o' else o'+l*es,none⟩) (hh-l) (c'-l),?_,B,k',m,c'-l,_,hb,rfl,?_,by omega,by omega,?_,by omega⟩
      ·simp only [execOp,Instr.sliceAt,Instr.slice,Sem.run_bind,run_underlying hu,Result.andThen_ok,hv,Zq hs,Sem.run_pure]
       simp only [Option.map_some,Option.map_none,Ki,g1,Result.andThen_ok]
       split <;> rfl
      ·by_cases hcl:c'=l
       ·right;omega
       ·rw [if_neg hcl]
        rcases ho with rfl | hz
        ·left;omega
        ·right;omega
      ·by_cases hcl:c'=l
       ·rw [if_pos hcl,hcl,Nat.sub_self,Nat.zero_mul];omega
       ·rw [if_neg hcl]
        have:l*es+(c'-l)*es=c'*es:=by rw [← Nat.add_mul];congr 1;omega
        omega
     ·cases h
    ·cases h
   ·cases h
  ·exact Zt hev h w
  ·cases h
 case build t parts=>
  simp only [aPure] at h
  obtain ⟨c,h1,h2⟩:=aBuild_run (partsR hev parts.toList) h
  exact ⟨.agg c,by simp only [execOp,Sem.run_bind,Sem.run_pure];rw [run_build w t _ c (by simpa using h1)];rfl,h2⟩
 case binOp op t y z t'=>
  simp only [aPure,pBin] at h
  split at h
  ·rename_i v hv
   cases h
   obtain ⟨z',g1,g2,g3⟩:=aBin_run (P:=P) (hev y) (hev z) hv y z t w
   exact ⟨z',by simp [execOp,g1,g2],g3⟩
  split at h
  ·rename_i v hv
   cases h
   exact Zt hev hv w
  ·split at h
   ·simp only [Option.map_eq_some_iff] at h
    obtain ⟨b,hb,rfl⟩:=h
    obtain ⟨g1,g2,g3⟩:=aEq_run (P:=P) (hev y) (hev z) hb y z w
    exact ⟨.bool b,by simp [execOp,g1,g2],rfl⟩
   ·simp only [Option.map_eq_some_iff] at h
    obtain ⟨b,hb,rfl⟩:=h
    obtain ⟨g1,g2,g3⟩:=aEq_run (P:=P) (hev y) (hev z) hb y z w
    exact ⟨.bool (!b),by simp [execOp,g1,g3],rfl⟩
   ·have h1:=hev y
    have h2:=hev z
    split at h
    ·rename_i a b ha hb
     rw [ha] at h1;rw [hb] at h2
     split at h
     ·rename_i hl
      cases h
      have k:=tcat_ok h1.1 h2.1
      refine ⟨.string (Qb (den F e (tcat a b))),?_,k.1,rfl⟩
      have s1:(Qb (den F e a)).size=tlen a:=by rw [← Zh h1.1];simp [Qb,ByteArray.size]
      have s2:(Qb (den F e b)).size=tlen b:=by rw [← Zh h2.1];simp [Qb,ByteArray.size]
      have s3:Qb (den F e a)++Qb (den F e b)=Qb (den F e (tcat a b)):=by
       rw [k.2];apply ByteArray.ext;simp [Qb,ByteArray.data_append]
      have s4:¬ (((tlen a+tlen b:Nat):Int)>IntKind.i64.max):=by
       have:IntKind.i64.max=9223372036854775807:=by rfl
       rw [this];omega
      simp only [execOp,eqGuard,h1.2,h2.2,binOp,Op.stringOp,s1,s2,if_neg s4,s3]
      simp
     ·cases h
    ·cases h
   ·cases h
 case unOp op t y=>
  simp only [aPure,pNot] at h
  have h1:=hev y
  split at h
  ·rename_i hc;cases h;rw [hc] at h1;have hv:ρ y=.bool true:=h1
   exact ⟨.bool false,by simp [execOp,hv,Op.unary],rfl⟩
  ·rename_i hc;cases h;rw [hc] at h1;have hv:ρ y=.bool false:=h1
   exact ⟨.bool true,by simp [execOp,hv,Op.unary],rfl⟩
  ·exact Zt hev h w
 case call c=>
  obtain ⟨callee,args,ts⟩:=c
  simp only [aPure,pCall] at h
  split at h
  ·split at h
   ·rename_i y hy
    unfold pLen at h
    have h1:=hev y
    split at h
    ·rename_i t ht
     split at h
     ·rename_i s hu hc
      cases h
      rw [hc] at h1
      have hsz:(Qb (den F e s)).size=tlen s:=by rw [← Zh h1.1];simp [Qb,ByteArray.size]
      exact ⟨.int .i64 (tlen s),by simp [execOp,resolve,invoke,builtin,Builtin.len_,ht,hy,run_underlying hu,h1.2,goInt,hsz],rfl⟩
     ·rename_i el b o n cap es hu hc
      cases h
      rw [hc] at h1
      obtain ⟨B,k',m,c',o',hb,hv,_⟩:=h1
      exact ⟨.int .i64 n,by simp [execOp,resolve,invoke,builtin,Builtin.len_,ht,hy,run_underlying hu,hv,goInt],rfl⟩
     ·rename_i n el hu
      cases h
      exact ⟨.int .i64 n,by simp [execOp,resolve,invoke,builtin,Builtin.len_,ht,hy,run_underlying hu,goInt],rfl⟩
     ·rename_i el a n c hu hc
      cases h
      rw [hc] at h1
      have hv:ρ y=.slice a n c:=h1
      exact ⟨.int .i64 n,by simp [execOp,resolve,invoke,builtin,Builtin.len_,ht,hy,run_underlying hu,hv,goInt],rfl⟩
     ·cases h
    ·cases h
   ·cases h
  ·exact Zt hev h w
 case convert s d y=>
  simp only [aPure,pConv] at h
  split at h
  ·rename_i t hc hs hd
   cases h
   have h1:=hev y
   rw [hc] at h1
   exact ⟨.string (Qb (den F e t)),by simp [execOp,convert,run_underlying hs,run_underlying hd,h1.2],h1.1,rfl⟩
  ·exact Zt hev h w
 all_goals exact Zt hev h w
end
end
end Go.Proofs.YthekdeikodppkaaGreatDoor
