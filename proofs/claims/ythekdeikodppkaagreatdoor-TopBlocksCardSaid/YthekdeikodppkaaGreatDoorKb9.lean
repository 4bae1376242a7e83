/-
  Texts of this claim, one behind the other: huff; huff; huff; huff; huff; The stable sort of slices of ints; The stable sort, whatever the elements; The stable sort of slices of ints; The stable sort, whatever the elements; The stable sort of slices of ints.
-/
import Derived.Test.YthekdeikodppkaaGreatDoorKb8
import Derived.Carry
import Derived.Deep.DeepCutAuto
import Derived.Deep.CutBlock
import Derived.Deep.LoopGhost
import Derived.WalkLawsBesides
import Derived.WalkSpells
import Derived.BigQuiet
import Derived.Deep.QuietTactic
import Derived.Test.YthekdeikodppkaaGreatDoorRows
set_option linter.unusedVariables false
namespace Go.Proofs.YthekdeikodppkaaGreatDoor
open Go.RowKit
def sumF{α:Type}(f:α→Int):List α→Int
 | []=>0
 | x::t=>f x+sumF f t
section
variable {α β:Type} {f g:α→Int}
theorem Je(x:α)(t:List α):sumF f (x::t)=f x+sumF f t:=rfl
theorem sumF_append(a b:List α):sumF f (a++b)=sumF f a+sumF f b:=by
 induction a with
 | nil=>simp [sumF]
 | cons x t ih=>rw [List.cons_append,Je,Je,ih];omega
theorem sumF_perm{a b:List α}(h:a.Perm b):sumF f a=sumF f b:=by
 induction h with
 | nil=>rfl
 | cons x _ ih=>rw [Je,Je,ih]
 | swap x y l=>simp only [Je];omega
 | trans _ _ h1 h2=>exact h1.trans h2
theorem Vc{l:List α}(h:∀ x∈l,f x=g x):sumF f l=sumF g l:=by
 induction l with
 | nil=>rfl
 | cons x t ih=>rw [Je,Je,h x (by simp),ih fun y hy=>h y (by simp [hy])]
theorem sumF_map(m:β→α)(l:List β):sumF f (l.map m)=sumF (fun x=>f (m x)) l:=by
 induction l with
 | nil=>rfl
 | cons x t ih=>rw [List.map_cons,Je,Je,ih]
theorem sumF_nonneg{l:List α}(h:∀ x∈l,0≤f x):0≤sumF f l:=by
 induction l with
 | nil=>exact Int.le_refl _
 | cons x t ih=>
  rw [Je]
  have:=h x (by simp)
  have:=ih fun y hy=>h y (by simp [hy])
  omega
theorem sumF_filter(p:α→Bool)(l:List α):sumF f l=sumF f (l.filter p)+sumF f (l.filter fun x=>!p x):=by
 induction l with
 | nil=>rfl
 | cons x t ih=>
  rw [Je,ih,List.filter_cons,List.filter_cons]
  cases p x <;> simp [Je] <;> omega
theorem sumF_const(c:Int)(l:List α):sumF (fun _=>c) l=l.length*c:=by
 induction l with
 | nil=>simp [sumF]
 | cons x t ih=>rw [Je,ih,List.length_cons,Int.natCast_add,Int.add_mul];simp;omega
end
section
variable {α:Type} {key:α→Int}
end
def Ji:List Coin→List Coin
 | a::b::t=>⟨a.w+b.w,true⟩::Ji t
 | _=>[]
def rowF(base ahead:List Coin):List Coin:=sortF Coin.w (base++Ji ahead)
def rowsF(base:List Coin):Nat→List Coin
 | 0=>base
 | i+1=>rowF base (rowsF base i)
def npF(l:List Coin)(n:Nat):Nat:=(l.take n).countP fun c=>c.pair
def cntF(base:List Coin):Nat→Nat→List Nat
 | 0,n=>[n-npF (rowsF base 0) n]
 | i+1,n=>(n-npF (rowsF base (i+1)) n)::cntF base i (2*npF (rowsF base (i+1)) n)
theorem pairsF_length:∀ l:List Coin,(Ji l).length=l.length/2
 | []=>rfl
 | [_]=>by simp [Ji]
 | a::b::t=>by rw [Ji,List.length_cons,pairsF_length t];simp only [List.length_cons];omega
theorem pairsF_pair:∀ (l:List Coin) (c:Coin),c∈Ji l→c.pair=true
 | [],_,h=>by simp [Ji] at h
 | [_],_,h=>by simp [Ji] at h
 | a::b::t,c,h=>by
  rw [Ji] at h
  rcases List.mem_cons.1 h with rfl | h
  ·rfl
  ·exact pairsF_pair t c h
theorem pairsF_ge:∀ (l:List Coin) (m:Int),(∀ c∈l,m≤c.w)→∀ c∈Ji l,m+m≤c.w
 | [],_,_,_,h=>by simp [Ji] at h
 | [_],_,_,_,h=>by simp [Ji] at h
 | a::b::t,m,hm,c,h=>by
  rw [Ji] at h
  rcases List.mem_cons.1 h with rfl | h
  ·have:=hm a (by simp)
   have:=hm b (by simp)
   show m+m≤a.w+b.w
   omega
  ·exact pairsF_ge t m (fun c hc=>hm c (by simp [hc])) c h
theorem pairsF_le:∀ (l:List Coin) (m:Int),(∀ c∈l,c.w≤m)→∀ c∈Ji l,c.w≤m+m
 | [],_,_,_,h=>by simp [Ji] at h
 | [_],_,_,_,h=>by simp [Ji] at h
 | a::b::t,m,hm,c,h=>by
  rw [Ji] at h
  rcases List.mem_cons.1 h with rfl | h
  ·have:=hm a (by simp)
   have:=hm b (by simp)
   show a.w+b.w≤m+m
   omega
  ·exact pairsF_le t m (fun c hc=>hm c (by simp [hc])) c h
theorem pairsF_srt:∀ l:List Coin,Srt Coin.w l→Srt Coin.w (Ji l)
 | [],_=>by simp [Ji,Srt]
 | [_],_=>by simp [Ji,Srt]
 | a::b::t,h=>by
  rw [Ji]
  have h1:∀ x∈t,a.w≤x.w:=fun x hx=>(List.pairwise_cons.1 h).1 x (by simp [hx])
  have h2:∀ x∈t,b.w≤x.w:=fun x hx=>(List.pairwise_cons.1 (List.pairwise_cons.1 h).2).1 x hx
  have h0:a.w≤b.w:=(List.pairwise_cons.1 h).1 b (by simp)
  refine List.pairwise_cons.2 ⟨fun c hc=>?_,pairsF_srt t (List.pairwise_cons.1 (List.pairwise_cons.1 h).2).2⟩
  have:=pairsF_ge t b.w h2 c hc
  show a.w+b.w≤c.w
  omega
structure Base (base:List Coin):Prop where
 single:∀ c∈base,c.pair=false
 srt:Srt Coin.w base
 pos:∀ c∈base,1≤c.w
theorem StEq.filter{α:Type}{key:α→Int}{l m:List α}(h:StEq key l m)(p:α→Bool):StEq key (l.filter p) (m.filter p):=fun k=>by
 rw [List.filter_filter,List.filter_filter]
 have:=congrArg (List.filter p) (h k)
 rw [List.filter_filter,List.filter_filter] at this
 simpa [Bool.and_comm] using this
section
variable {base:List Coin} (hb:Base base)
theorem rowF_srt(base a:List Coin):Srt Coin.w (rowF base a):=(Zo _).1
theorem rowF_perm(base a:List Coin):(base++Ji a).Perm (rowF base a):=(Zo _).2.perm
include hb
theorem rowsF_srt(i:Nat):Srt Coin.w (rowsF base i):=by
 cases i with
 | zero=>exact hb.srt
 | succ i=>exact rowF_srt _ _
theorem rowF_pairs(a:List Coin)(ha:Srt Coin.w a):(rowF base a).filter (fun c=>c.pair)=Ji a:=by
 have h1:=(Zo (key:=Coin.w) (base++Ji a)).2.filter (fun c=>c.pair)
 have e:(base++Ji a).filter (fun c=>c.pair)=Ji a:=by
  rw [List.filter_append,List.filter_eq_nil_iff.2 (fun c hc=>by simp [hb.single c hc]),List.nil_append,List.filter_eq_self.2 (fun c hc=>pairsF_pair a c hc)]
 rw [e] at h1
 exact (StEq.unique (pairsF_srt a ha) ((rowF_srt base a).filter _) h1).symm
theorem rowF_singles(a:List Coin):(rowF base a).filter (fun c=>!c.pair)=base:=by
 have h1:=(Zo (key:=Coin.w) (base++Ji a)).2.filter (fun c=>!c.pair)
 have e:(base++Ji a).filter (fun c=>!c.pair)=base:=by
  rw [List.filter_append,List.filter_eq_self.2 (fun c hc=>by simp [hb.single c hc]),List.filter_eq_nil_iff.2 (fun c hc=>by simp [pairsF_pair a c hc]),List.append_nil]
 rw [e] at h1
 exact (StEq.unique hb.srt ((rowF_srt base a).filter _) h1).symm
theorem rowsF_singles(i:Nat):(rowsF base i).filter (fun c=>!c.pair)=base:=by
 cases i with
 | zero=>exact List.filter_eq_self.2 (fun c hc=>by simp [hb.single c hc])
 | succ i=>exact rowF_singles hb _
theorem rowsF_zero_np(n:Nat):npF (rowsF base 0) n=0:=by
 unfold npF
 rw [List.countP_eq_zero]
 intro c hc
 simp [hb.single c (List.mem_of_mem_take hc)]
theorem rowsF_pos(i:Nat):∀ c∈rowsF base i,1≤c.w:=by
 induction i with
 | zero=>exact hb.pos
 | succ i ih=>
  intro c hc
  rcases List.mem_append.1 ((rowF_perm base _).symm.subset hc) with h | h
  ·exact hb.pos c h
  ·have:=pairsF_ge _ 1 ih c h;omega
omit hb
theorem rowsF_le(i:Nat)(m:Int)(hm:0≤m)(h:∀ c∈base,c.w≤m):∀ c∈rowsF base i,c.w≤2^i*m:=by
 induction i with
 | zero=>intro c hc;have:=h c hc;simpa using this
 | succ i ih=>
  intro c hc
  have e:(2:Int)^(i+1)*m=2^i*m+2^i*m:=by rw [Int.pow_succ,Int.mul_comm (2^i) 2,Int.mul_assoc];omega
  rcases List.mem_append.1 ((rowF_perm base _).symm.subset hc) with h1 | h1
  ·have h2:=h c h1
   have h3:(1:Int)≤2^(i+1):=by
    have:(0:Int)<2^(i+1):=Int.pow_pos (by omega)
    omega
   have:=Int.mul_le_mul_of_nonneg_right h3 hm
   omega
  ·rw [e]
   exact pairsF_le _ _ ih c h1
theorem rowsF_length(i:Nat):(rowsF base (i+1)).length=base.length+(rowsF base i).length/2:=by
 show (rowF base (rowsF base i)).length=_
 rw [← (rowF_perm base _).length_eq,lJ,pairsF_length]
theorem rowsF_enough(i:Nat):base.length≤2^(i+1)→2*base.length≤(rowsF base i).length+2:=by
 have key:∀ i,(2*base.length-(rowsF base i).length)*2^i<base.length+2^i:=by
  intro i
  induction i with
  | zero=>simp [rowsF];omega
  | succ i ih=>
   rw [rowsF_length,Nat.pow_succ]
   have e:2*base.length-(base.length+(rowsF base i).length/2)≤(2*base.length-(rowsF base i).length+1)/2:=by omega
   have h1:(2*base.length-(base.length+(rowsF base i).length/2))*2≤2*base.length-(rowsF base i).length+1:=by omega
   have h2:=Nat.mul_le_mul_right (2^i) h1
   rw [Nat.add_mul,Nat.one_mul] at h2
   have h3:(2*base.length-(base.length+(rowsF base i).length/2))*(2^i*2)=(2*base.length-(base.length+(rowsF base i).length/2))*2*2^i:=by
    rw [Nat.mul_assoc,Nat.mul_comm 2 (2^i)]
   omega
 intro h
 have h1:=key i
 rw [Nat.pow_succ] at h
 have hp:0<2^i:=Nat.pow_pos (by omega)
 rcases Nat.lt_or_ge (2*base.length-(rowsF base i).length) 3 with h2 | h2
 ·omega
 ·have:=Nat.mul_le_mul_right (2^i) h2
  omega
theorem npF_le(l:List Coin)(n:Nat):npF l n≤n:=by
 unfold npF
 exact Nat.le_trans List.countP_le_length (by rw [List.length_take];omega)
theorem take_filter{α:Type}(l:List α)(n:Nat)(q:α→Bool):(l.take n).filter q=(l.filter q).take ((l.take n).countP q):=by
 have e:l.filter q=(l.take n).filter q++(l.drop n).filter q:=by rw [← List.filter_append,List.take_append_drop]
 rw [e,List.countP_eq_length_filter,List.take_left]
include hb
theorem np_pairs(i n:Nat):npF (rowsF base (i+1)) n≤(Ji (rowsF base i)).length∧((rowsF base (i+1)).take n).filter (fun c=>c.pair)=(Ji (rowsF base i)).take (npF (rowsF base (i+1)) n):=by
 have e:=take_filter (rowsF base (i+1)) n (fun c=>c.pair)
 have e2:(rowsF base (i+1)).filter (fun c=>c.pair)=Ji (rowsF base i):=rowF_pairs hb _ (rowsF_srt hb i)
 rw [e2] at e
 refine ⟨?_,e⟩
 rw [← e2,← List.countP_eq_length_filter]
 exact (List.take_sublist n (rowsF base (i+1))).countP_le
theorem np_two(i n:Nat):2*npF (rowsF base (i+1)) n≤(rowsF base i).length:=by
 have:=(np_pairs hb i n).1
 rw [pairsF_length] at this
 omega
theorem Vq(i n:Nat)(hn:n≤(rowsF base i).length):n-npF (rowsF base i) n≤base.length∧((rowsF base i).take n).filter (fun c=>!c.pair)=base.take (n-npF (rowsF base i) n):=by
 have e:=take_filter (rowsF base i) n (fun c=>!c.pair)
 rw [rowsF_singles hb] at e
 have hc:((rowsF base i).take n).countP (fun c=>!c.pair)=n-npF (rowsF base i) n:=by
  have h:=List.length_eq_countP_add_countP (fun c:Coin=>c.pair) (l:=(rowsF base i).take n)
  rw [List.length_take,Nat.min_eq_left hn] at h
  have h2:((rowsF base i).take n).countP (fun c=>!c.pair)=((rowsF base i).take n).countP (fun c=>decide (¬ c.pair=true)):=by
   congr 1;funext c;cases c.pair <;> rfl
  rw [h2]
  unfold npF
  omega
 rw [hc] at e
 refine ⟨?_,e⟩
 rw [← hc]
 have h3:=(List.take_sublist n (rowsF base i)).countP_le (p:=fun c=>!c.pair)
 rw [List.countP_eq_length_filter (l:=rowsF base i),rowsF_singles hb] at h3
 exact h3
theorem ns_falls(i n m:Nat)(hn:n≤(rowsF base (i+1)).length)(hm:m=2*npF (rowsF base (i+1)) n) :
 m-npF (rowsF base i) m≤n-npF (rowsF base (i+1)) n:=by
 subst hm
 have hs1:=Vq hb (i+1) n hn
 have hs0:=Vq hb i _ (np_two hb i n)
 have hp:=np_pairs hb i n
 obtain ⟨P,hP⟩:∃ P,P=npF (rowsF base (i+1)) n:=⟨_,rfl⟩
 obtain ⟨s1,h1⟩:∃ s,s=n-P:=⟨_,rfl⟩
 obtain ⟨s0,h0⟩:∃ s,s=2*P-npF (rowsF base i) (2*P):=⟨_,rfl⟩
 rw [← hP] at hs1 hs0 hp ⊢
 rw [← h1] at hs1 ⊢
 rw [← h0] at hs0 ⊢
 refine Nat.le_of_not_lt fun hlt=>?_
 have hk:s1<base.length:=by omega
 have hin:base[s1]∈(rowsF base i).take (2*P):=by
  have:base[s1]∈((rowsF base i).take (2*P)).filter (fun c=>!c.pair):=by
   rw [hs0.2]
   exact List.mem_take_iff_getElem.2 ⟨s1,by omega,rfl⟩
  exact (List.mem_filter.1 this).1
 have hpair:∀ (l:List Coin) (P:Nat) (c:Coin),(∀ c∈l,1≤c.w)→2*P≤l.length→c∈l.take (2*P)→∃ d∈(Ji l).take P,c.w<d.w:=by
  intro l
  induction l using Ji.induct with
  | case1 a b t ih=>
   intro P c hpos hl hc
   cases P with
   | zero=>simp at hc
   | succ P=>
    have e:2*(P+1)=2*P+1+1:=by omega
    rw [e,List.take_succ_cons,List.take_succ_cons] at hc
    rw [Ji,List.take_succ_cons]
    have ha:=hpos a (by simp)
    have hb:=hpos b (by simp)
    rcases List.mem_cons.1 hc with rfl | hc
    ·exact ⟨_,List.mem_cons_self,by show c.w<c.w+b.w;omega⟩
    ·rcases List.mem_cons.1 hc with rfl | hc
     ·exact ⟨_,List.mem_cons_self,by show c.w<a.w+c.w;omega⟩
     ·obtain ⟨d,hd,hlt⟩:=ih P c (fun c hc=>hpos c (by simp [hc])) (by simp at hl;omega) hc
      exact ⟨d,List.mem_cons_of_mem _ hd,hlt⟩
  | case2 l h=>
   intro P c _ hl hc
   have:P=0:=by
    match l,h with
    | [],_=>simp at hl;omega
    | [_],_=>simp at hl;omega
    | a::b::t,h=>exact absurd rfl (h a b t)
   subst this
   simp at hc
 obtain ⟨d,hd,hlt2⟩:=hpair (rowsF base i) P base[s1] (rowsF_pos hb i) (by rw [hP];exact np_two hb i n) hin
 rw [← hp.2] at hd
 have hd':=(List.mem_filter.1 hd).1
 have hall:base[s1]∈(rowsF base (i+1)).take n:=by
  have hmem:base[s1]∈rowsF base (i+1):=by
   have:base[s1]∈(rowsF base (i+1)).filter (fun c=>!c.pair):=by rw [rowsF_singles hb];exact List.getElem_mem _
   exact (List.mem_filter.1 this).1
  have hsp:=List.take_append_drop n (rowsF base (i+1))
  rw [← hsp] at hmem
  rcases List.mem_append.1 hmem with h | h
  ·exact h
  ·exfalso
   have:=(by rw [hsp];exact rowsF_srt hb (i+1):Srt Coin.w ((rowsF base (i+1)).take n++(rowsF base (i+1)).drop n)).across d hd' _ h
   omega
 have:base[s1]∈((rowsF base (i+1)).take n).filter (fun c=>!c.pair):=List.mem_filter.2 ⟨hall,by simp [hb.single _ (List.getElem_mem hk)]⟩
 rw [hs1.2] at this
 have hcount:(base.take (s1+1)).length≤s1:=by
  have hsub:∀ c∈base.take (s1+1),c.w≤base[s1].w:=by
   intro c hc
   obtain ⟨j,hj,rfl⟩:=List.getElem_of_mem hc
   rw [List.length_take] at hj
   rw [List.getElem_take]
   rcases Nat.lt_or_ge j s1 with h | h
   ·exact List.pairwise_iff_getElem.1 hb.srt j s1 (by omega) hk h
   ·have:j=s1:=by omega
    subst this;exact Int.le_refl _
  have hpre:(base.take (s1+1)).countP (fun c=>decide (c.w<d.w))=s1+1:=by
   rw [List.countP_eq_length.2 (fun c hc=>by have:=hsub c hc;simp;omega),List.length_take];omega
  have hle:base.countP (fun c=>decide (c.w<d.w))≤s1:=by
   have e1:base.countP (fun c=>decide (c.w<d.w))=(((rowsF base (i+1)).filter (fun c=>!c.pair))).countP (fun c=>decide (c.w<d.w)):=by rw [rowsF_singles hb]
   have e2:((rowsF base (i+1)).drop n).countP (fun c=>decide (c.w<d.w))=0:=by
    rw [List.countP_eq_zero]
    intro c hc
    have hsp:=List.take_append_drop n (rowsF base (i+1))
    have:=(by rw [hsp];exact rowsF_srt hb (i+1):Srt Coin.w ((rowsF base (i+1)).take n++(rowsF base (i+1)).drop n)).across d hd' _ hc
    simp;omega
   rw [e1,← List.take_append_drop n (rowsF base (i+1)),List.filter_append,List.countP_append,hs1.2]
   have e3:(((rowsF base (i+1)).drop n).filter (fun c=>!c.pair)).countP (fun c=>decide (c.w<d.w))=0:=by
    rw [List.countP_eq_zero] at e2 ⊢
    intro c hc
    exact e2 c (List.mem_filter.1 hc).1
   rw [e3]
   have:=List.countP_le_length (p:=fun c:Coin=>decide (c.w<d.w)) (l:=base.take s1)
   rw [List.length_take] at this
   omega
  have:=(List.take_sublist (s1+1) base).countP_le (p:=fun c:Coin=>decide (c.w<d.w))
  omega
 rw [List.length_take] at hcount
 omega
end
section
variable {base:List Coin} (hb:Base base)
def worthF(C:Nat→List Coin):Nat→Nat
 | 0=>(C 0).length
 | i+1=>worthF C i+(C (i+1)).length*2^(i+1)
def weighF(C:Nat→List Coin):Nat→Int
 | 0=>sumF Coin.w (C 0)
 | i+1=>weighF C i+sumF Coin.w (C (i+1))
include hb
omit hb in
theorem cntF_length(i n:Nat):(cntF base i n).length=i+1:=by
 induction i generalizing n with
 | zero=>rfl
 | succ i ih=>rw [cntF,List.length_cons,ih]
omit hb in
theorem cntF_head(i n:Nat):∃ t,cntF base i n=(n-npF (rowsF base i) n)::t:=by
 cases i with
 | zero=>exact ⟨[],rfl⟩
 | succ i=>exact ⟨_,rfl⟩
theorem cntF_le(i:Nat):∀ n,n≤(rowsF base i).length→∀ s∈cntF base i n,s≤base.length:=by
 induction i with
 | zero=>
  intro n hn s hs
  simp only [cntF,List.mem_singleton] at hs
  subst hs
  exact (Vq hb 0 n hn).1
 | succ i ih=>
  intro n hn s hs
  rw [cntF] at hs
  rcases List.mem_cons.1 hs with rfl | hs
  ·exact (Vq hb (i+1) n hn).1
  ·exact ih _ (np_two hb i n) s hs
theorem cntF_falls(i:Nat):∀ n,n≤(rowsF base i).length→(cntF base i n).Pairwise (fun a b=>b≤a):=by
 induction i with
 | zero=>intro n _;simp [cntF]
 | succ i ih=>
  intro n hn
  have h:=ih _ (np_two hb i n)
  rw [cntF]
  refine List.pairwise_cons.2 ⟨fun b hb'=>?_,h⟩
  have hf:=ns_falls hb i n _ hn rfl
  obtain ⟨t,ht⟩:=cntF_head (base:=base) i (2*npF (rowsF base (i+1)) n)
  rw [ht] at h hb'
  rcases List.mem_cons.1 hb' with rfl | hb'
  ·exact hf
  ·exact Nat.le_trans ((List.pairwise_cons.1 h).1 b hb') hf
theorem cntF_all(i:Nat)(h2:2≤base.length):∀ n,n≤(rowsF base i).length→2*base.length≤n+2→n-npF (rowsF base i) n=base.length:=by
 induction i with
 | zero=>
  intro n hn h
  have h1:=(Vq hb 0 n hn).1
  rw [rowsF_zero_np hb] at h1 ⊢
  omega
 | succ i ih=>
  intro n hn h
  have h1:=(Vq hb (i+1) n hn).1
  have hf:=ns_falls hb i n _ hn rfl
  have h3:=npF_le (rowsF base (i+1)) n
  rcases Nat.lt_or_ge (n-npF (rowsF base (i+1)) n) base.length with hlt | hge
  ·have:=ih _ (np_two hb i n) (by omega)
   omega
  ·omega
omit hb in
def krF:List Nat→Nat
 | []=>0
 | s::t=>s*2^t.length+krF t
theorem krF_cnt(i:Nat):∀ n,krF (cntF base i n)=n*2^i:=by
 induction i with
 | zero=>intro n;rw [cntF,rowsF_zero_np hb];simp [krF]
 | succ i ih=>
  intro n
  have h:=npF_le (rowsF base (i+1)) n
  rw [cntF,krF,ih,cntF_length,Nat.mul_comm 2,Nat.mul_assoc,Nat.mul_comm 2,← Nat.pow_succ,← Nat.add_mul,Nat.sub_add_cancel h]
end
def addF(s:Nat)(ls:List Nat):List Nat:=(ls.take s).map (· + 1)++ls.drop s
def lensF(cs:List Nat)(ls:List Nat):List Nat:=cs.foldl (fun ls s=>addF s ls) ls
theorem addF_length(s:Nat)(ls:List Nat):(addF s ls).length=ls.length:=by
 unfold addF
 rw [lJ,List.length_map,List.length_take,List.length_drop];omega
theorem addF_get(s:Nat)(ls:List Nat)(k:Nat):(addF s ls).getD k 0=if k<s∧k<ls.length then ls.getD k 0+1 else ls.getD k 0:=by
 unfold addF
 simp only [List.getD_eq_getElem?_getD]
 by_cases h:k<s∧k<ls.length
 ·rw [if_pos h,List.getElem?_append_left (by simp;omega),List.getElem?_map,List.getElem?_take,if_pos h.1,List.getElem?_eq_getElem h.2]
  rfl
 ·rw [if_neg h]
  rcases Nat.lt_or_ge k ls.length with h1 | h1
  ·rw [List.getElem?_append_right (by simp;omega),List.length_map,List.length_take,List.getElem?_drop]
   congr 2;omega
  ·rw [List.getElem?_eq_none (by simp;omega),List.getElem?_eq_none h1]
def kwF(ls:List Nat):Int:=sumF (fun l=>(2:Int)^(15-l)) ls
theorem kw_addF{s t:Nat}{ls:List Nat}(hs:s≤ls.length)(h:∀ k,k<s→ls.getD k 0=t)(ht:t+1≤15):kwF (addF s ls)=kwF ls-s*2^(14-t):=by
 have e:kwF ls=kwF (ls.take s)+kwF (ls.drop s):=by
  unfold kwF
  rw [← sumF_append,List.take_append_drop]
 have hall:∀ l∈ls.take s,l=t:=by
  intro l hl
  obtain ⟨k,hk,rfl⟩:=List.getElem_of_mem hl
  rw [List.length_take] at hk
  have:=h k (by omega)
  rw [List.getD_eq_getElem?_getD,List.getElem?_eq_getElem (by omega)] at this
  rw [List.getElem_take]
  exact this
 have e1:kwF (ls.take s)=s*2^(15-t):=by
  unfold kwF
  rw [Vc (g:=fun _=>(2:Int)^(15-t)) (fun l hl=>by rw [hall l hl]),sumF_const,List.length_take,Nat.min_eq_left hs]
 have e2:kwF ((ls.take s).map (· + 1))=s*2^(14-t):=by
  unfold kwF
  rw [sumF_map,Vc (g:=fun _=>(2:Int)^(14-t)) (fun l hl=>by rw [hall l hl,show 15-(t+1)=14-t by omega]),sumF_const,List.length_take,Nat.min_eq_left hs]
 have e3:(2:Int)^(15-t)=2^(14-t)+2^(14-t):=by
  rw [show 15-t=(14-t)+1 by omega,Int.pow_succ];omega
 unfold addF
 rw [show kwF ((ls.take s).map (· + 1)++ls.drop s)=kwF ((ls.take s).map (· + 1))+kwF (ls.drop s) from sumF_append _ _,e2,e,e1,e3,Int.mul_add]
 omega
theorem kw_lensF(cs:List Nat):∀ (t:Nat) (ls:List Nat),cs.Pairwise (fun a b=>b≤a)→(∀ s∈cs,s≤ls.length)→(∀ s∈cs,∀ k,k<s→ls.getD k 0=t)→t+cs.length≤15 →
 kwF (lensF cs ls)=kwF ls-krF cs*2^(15-t-cs.length):=by
 induction cs with
 | nil=>intro t ls _ _ _ _;simp [lensF,krF]
 | cons s cs ih=>
  intro t ls hp hle heq ht
  simp only [List.length_cons] at ht
  show kwF (lensF cs (addF s ls))=_
  rw [ih (t+1) (addF s ls) (List.pairwise_cons.1 hp).2 (fun x hx=>by rw [addF_length];exact hle x (by simp [hx])) (fun x hx k hk=>?_) (by omega),kw_addF (hle s (by simp)) (heq s (by simp)) (by omega),krF,List.length_cons]
  ·have e:(2:Int)^(14-t)=2^cs.length*2^(15-t-(cs.length+1)):=by
    rw [← Int.pow_add];congr 1;omega
   have e2:15-(t+1)-cs.length=15-t-(cs.length+1):=by omega
   rw [e2,e]
   simp only [Int.natCast_add,Int.natCast_mul,Int.natCast_pow,Int.add_mul,Int.mul_assoc,Int.cast_ofNat_Int]
   omega
  ·have h1:=(List.pairwise_cons.1 hp).1 x hx
   rw [addF_get,if_pos ⟨by omega,by have:=hle x (by simp [hx]);omega⟩,heq s (by simp) k (by omega)]
theorem lensF_le(cs:List Nat):∀ ls k,(lensF cs ls).getD k 0≤ls.getD k 0+cs.length:=by
 induction cs with
 | nil=>intro ls k;exact Nat.le_refl _
 | cons s cs ih=>
  intro ls k
  have:=ih (addF s ls) k
  show (lensF cs (addF s ls)).getD k 0≤_
  rw [addF_get] at this
  rw [List.length_cons]
  split at this <;> omega
theorem lensF_ge(cs:List Nat):∀ ls k,ls.getD k 0≤(lensF cs ls).getD k 0:=by
 induction cs with
 | nil=>intro ls k;exact Nat.le_refl _
 | cons s cs ih=>
  intro ls k
  have:=ih (addF s ls) k
  show _≤(lensF cs (addF s ls)).getD k 0
  rw [addF_get] at this
  split at this <;> omega
theorem rep_zero(n k:Nat):(List.replicate n 0).getD k 0=0:=by
 rw [List.getD_eq_getElem?_getD]
 rcases Nat.lt_or_ge k n with h | h
 ·rw [List.getElem?_replicate,if_pos h];rfl
 ·rw [List.getElem?_replicate,if_neg (by omega)];rfl
theorem whole{base:List Coin}(hb:Base base)(L:Nat)(h2:2≤base.length)(hL:1≤L∧L≤15)(hN:base.length≤2^L) :
 kwF (lensF (cntF base (L-1) (2*base.length-2)) (List.replicate base.length 0))=2^15 ∧
 ∀ k,k<base.length→1≤(lensF (cntF base (L-1) (2*base.length-2)) (List.replicate base.length 0)).getD k 0∧(lensF (cntF base (L-1) (2*base.length-2)) (List.replicate base.length 0)).getD k 0≤L:=by
 obtain ⟨i,rfl⟩:∃ i,L=i+1:=⟨L-1,by omega⟩
 rw [Nat.add_sub_cancel]
 have hn:2*base.length-2≤(rowsF base i).length:=by have:=rowsF_enough (base:=base) i hN;omega
 refine ⟨?_,fun k hk=>?_⟩
 ·rw [kw_lensF _ 0 _ (cntF_falls hb i _ hn) (fun s hs=>by rw [List.length_replicate];exact cntF_le hb i _ hn s hs) (fun s hs k _=>rep_zero _ _) (by rw [cntF_length];omega),krF_cnt hb,cntF_length]
  have e:kwF (List.replicate base.length 0)=base.length*2^15:=by
   unfold kwF
   rw [Vc (g:=fun _=>(2:Int)^15) (fun l hl=>by rw [(List.mem_replicate.1 hl).2]),sumF_const,List.length_replicate]
  rw [e]
  have e2:(((2*base.length-2)*2^i:Nat):Int)*2^(15-0-(i+1))=((2*base.length-2:Nat):Int)*2^14:=by
   rw [Int.natCast_mul,Int.mul_assoc,Int.natCast_pow,show ((2:Nat):Int)=2 by rfl,← Int.pow_add]
   congr 2;omega
  rw [e2]
  have:((2*base.length-2:Nat):Int)=2*base.length-2:=by omega
  rw [this]
  omega
 ·obtain ⟨t,ht⟩:=cntF_head (base:=base) i (2*base.length-2)
  constructor
  ·rw [ht,cntF_all hb i h2 _ hn (by omega)]
   have:=lensF_ge t (addF base.length (List.replicate base.length 0)) k
   rw [addF_get,if_pos ⟨hk,by simpa using hk⟩] at this
   show 1≤(lensF t (addF base.length (List.replicate base.length 0))).getD k 0
   omega
  ·have:=lensF_le (cntF base i (2*base.length-2)) (List.replicate base.length 0) k
   rw [cntF_length,rep_zero] at this
   omega
def frq(F:List Int)(x:Int):Int:=F.getD x.toNat 0
def usedN(F:List Int):Nat→List Int
 | 0=>[]
 | k+1=>if 0<F.getD k 0 then usedN F k++[(k:Int)] else usedN F k
def usedF(F:List Int):List Int:=usedN F F.length
def symsF(F:List Int):List Int:=sortF (frq F) (usedF F)
def coinOf(F:List Int)(s:Int):Coin:=⟨frq F s,false⟩
def baseF(F:List Int):List Coin:=(symsF F).map (coinOf F)
def bump1(o:List Int)(s:Int):List Int:=o.set s.toNat (o.getD s.toNat 0+1)
def bumpF(o:List Int)(l:List Int):List Int:=l.foldl bump1 o
def Qm(n:Nat):List Int:=List.replicate n 0
def outF(syms:List Int)(cs:List Nat)(o:List Int):List Int:=cs.foldl (fun o c=>bumpF o (syms.take c)) o
def Zz(F:List Int)(L:Nat):List Int:=
 if (symsF F).length<2 then bumpF (Qm F.length) (symsF F)
 else outF (symsF F) (cntF (baseF F) (L-1) (2*(symsF F).length-2)) (Qm F.length)
section
variable (F:List Int)
theorem usedN_mem(k:Nat):∀ x,x∈usedN F k↔∃ s:Nat,x=s∧s<k∧0<F.getD s 0:=by
 induction k with
 | zero=>intro x;simp [usedN]
 | succ k ih=>
  intro x
  rw [usedN]
  split
  ·next h=>
   rw [List.mem_append,List.mem_singleton,ih]
   constructor
   ·rintro (⟨s,rfl,h1,h2⟩ | rfl)
    ·exact ⟨s,rfl,by omega,h2⟩
    ·exact ⟨k,rfl,by omega,h⟩
   ·rintro ⟨s,rfl,h1,h2⟩
    rcases Nat.lt_or_ge s k with h3 | h3
    ·exact .inl ⟨s,rfl,h3,h2⟩
    ·right;congr 1;omega
  ·next h=>
   rw [ih]
   constructor
   ·rintro ⟨s,rfl,h1,h2⟩
    exact ⟨s,rfl,by omega,h2⟩
   ·rintro ⟨s,rfl,h1,h2⟩
    refine ⟨s,rfl,?_,h2⟩
    rcases Nat.lt_or_ge s k with h3 | h3
    ·exact h3
    ·have:s=k:=by omega
     subst this;exact absurd h2 h
theorem usedN_nodup(k:Nat):(usedN F k).Nodup:=by
 induction k with
 | zero=>simp [usedN]
 | succ k ih=>
  rw [usedN]
  split
  ·rw [List.nodup_append]
   refine ⟨ih,by simp,fun a ha b hb'=>?_⟩
   rw [usedN_mem] at ha
   obtain ⟨s,rfl,h1,_⟩:=ha
   rw [List.mem_singleton] at hb'
   subst hb'
   omega
  ·exact ih
theorem usedN_length(k:Nat):(usedN F k).length≤k:=by
 induction k with
 | zero=>simp [usedN]
 | succ k ih=>
  rw [usedN]
  split
  ·rw [lJ];simp;omega
  ·omega
theorem syms_perm:(usedF F).Perm (symsF F):=(Zo _).2.perm
theorem syms_srt:Srt (frq F) (symsF F):=(Zo _).1
theorem Kj(x:Int):x∈symsF F↔∃ s:Nat,x=s∧s<F.length∧0<F.getD s 0:=by
 rw [← (syms_perm F).mem_iff]
 exact usedN_mem F _ x
theorem syms_nodup:(symsF F).Nodup:=(syms_perm F).nodup_iff.1 (usedN_nodup F _)
theorem syms_length:(symsF F).length=(usedF F).length:=(syms_perm F).length_eq.symm
theorem Vb:(baseF F).length=(symsF F).length:=by unfold baseF;simp
theorem base_law:Base (baseF F):=by
 refine ⟨?_,?_,?_⟩
 ·intro c hc
  obtain ⟨s,_,rfl⟩:=List.mem_map.1 hc
  rfl
 ·exact List.pairwise_map.2 (syms_srt F)
 ·intro c hc
  obtain ⟨s,hs,rfl⟩:=List.mem_map.1 hc
  obtain ⟨n,rfl,_,h⟩:=(Kj F s).1 hs
  show 1≤F.getD (Int.toNat n) 0
  rw [Int.toNat_natCast]
  omega
end
theorem bump1_length(o:List Int)(s:Int):(bump1 o s).length=o.length:=by simp [bump1]
theorem Jl(l:List Int):∀ o,(bumpF o l).length=o.length:=by
 induction l with
 | nil=>intro _;rfl
 | cons s t ih=>intro o;show (bumpF (bump1 o s) t).length=_;rw [ih,bump1_length]
theorem bump1_get(o:List Int)(s j:Nat)(hs:s<o.length):(bump1 o s).getD j 0=o.getD j 0+if j=s then 1 else 0:=by
 unfold bump1
 simp only [List.getD_eq_getElem?_getD,Int.toNat_natCast]
 by_cases h:j=s
 ·subst h
  rw [List.getElem?_set_self hs,if_pos rfl]
  rfl
 ·rw [List.getElem?_set_ne (fun e=>h e.symm),if_neg h,Int.add_zero]
theorem Kh(l:List Int):∀ (o:List Int) (j:Nat),(∀ x∈l,∃ s:Nat,x=s∧s<o.length)→(bumpF o l).getD j 0=o.getD j 0+(l.countP fun x=>decide (x=(j:Int)):Nat):=by
 induction l with
 | nil=>intro o j _;simp [bumpF]
 | cons x t ih=>
  intro o j h
  obtain ⟨s,rfl,hs⟩:=h x (by simp)
  show (bumpF (bump1 o s) t).getD j 0=_
  rw [ih _ j (fun x hx=>by rw [bump1_length];exact h x (by simp [hx])),bump1_get o s j hs,List.countP_cons]
  by_cases hj:j=s
  ·subst hj;simp;omega
  ·have:¬ ((s:Int)=j):=by omega
   simp [hj,this]
theorem count_nodup{l:List Int}(h:l.Nodup)(x:Int):(l.countP fun y=>decide (y=x))=if x∈l then 1 else 0:=by
 induction l with
 | nil=>simp
 | cons a t ih=>
  rw [List.nodup_cons] at h
  rw [List.countP_cons,ih h.2]
  by_cases ha:a=x
  ·subst ha
   simp [h.1]
  ·have:¬ x=a:=fun e=>ha e.symm
   simp [ha,this]
structure OutRel (F o:List Int) (ls:List Nat):Prop where
 len:o.length=F.length
 lsl:ls.length=(symsF F).length
 get:∀ k (h:k<(symsF F).length),o.getD ((symsF F)[k]).toNat 0=ls.getD k 0
 zero:∀ j:Nat,(j:Int) ∉ symsF F→o.getD j 0=0
theorem out_start(F:List Int):OutRel F (Qm F.length) (List.replicate (symsF F).length 0):=by
 have hz:∀ j,(Qm F.length).getD j 0=0:=by
  intro j
  unfold Qm
  rw [List.getD_eq_getElem?_getD,List.getElem?_replicate]
  split <;> rfl
 exact ⟨by simp [Qm],by simp,fun k _=>by rw [hz,rep_zero];rfl,fun j _=>hz j⟩
theorem nodup_idx{l:List Int}(h:l.Nodup){i j:Nat}(hi:i<l.length)(hj:j<l.length)(e:l[i]=l[j]):i=j:=by
 rcases Nat.lt_trichotomy i j with h1 | h1 | h1
 ·exact absurd e (List.pairwise_iff_getElem.1 h i j hi hj h1)
 ·exact h1
 ·exact absurd e.symm (List.pairwise_iff_getElem.1 h j i hj hi h1)
theorem out_bump{F o:List Int}{ls:List Nat}(h:OutRel F o ls)(c:Nat):OutRel F (bumpF o ((symsF F).take c)) (addF c ls):=by
 have hin:∀ x∈(symsF F).take c,∃ s:Nat,x=s∧s<o.length:=fun x hx=>by
  obtain ⟨s,rfl,h1,_⟩:=(Kj F x).1 (List.mem_of_mem_take hx)
  exact ⟨s,rfl,by rw [h.len];exact h1⟩
 have hnd:((symsF F).take c).Nodup:=(syms_nodup F).sublist (List.take_sublist _ _)
 refine ⟨by rw [Jl,h.len],by rw [addF_length,h.lsl],fun k hk=>?_,fun j hj=>?_⟩
 ·rw [Kh _ _ _ hin,h.get k hk,addF_get,count_nodup hnd]
  have hpos:(((symsF F)[k]).toNat:Int)=(symsF F)[k]:=by
   obtain ⟨s,e,_⟩:=(Kj F ((symsF F)[k])).1 (List.getElem_mem _)
   rw [e];rfl
  rw [hpos]
  by_cases hc:k<c
  ·have h1:k<c∧k<ls.length:=⟨hc,by rw [h.lsl];exact hk⟩
   have h2:(symsF F)[k]∈(symsF F).take c:=List.mem_take_iff_getElem.2 ⟨k,by omega,rfl⟩
   rw [if_pos h1,if_pos h2]
   simp
  ·have h1:¬ (k<c∧k<ls.length):=fun hh=>hc hh.1
   have h2:¬ (symsF F)[k]∈(symsF F).take c:=by
    intro hm
    obtain ⟨j,hj,e⟩:=List.mem_take_iff_getElem.1 hm
    have:=nodup_idx (syms_nodup F) (by omega) hk e
    omega
   rw [if_neg h1,if_neg h2]
   simp
 ·rw [Kh _ _ _ hin,h.zero j hj,count_nodup hnd,if_neg (fun hm=>hj (List.mem_of_mem_take hm))]
  simp
theorem out_fold{F:List Int}(cs:List Nat):∀ {o:List Int} {ls:List Nat},OutRel F o ls→OutRel F (outF (symsF F) cs o) (lensF cs ls):=by
 induction cs with
 | nil=>intro o ls h;exact h
 | cons c cs ih=>intro o ls h;exact ih (out_bump h c)
def wtF(x:Int):Int:=if 0<x then 2^(15-x.toNat) else 0
theorem sum_range(l:List Int)(f:Int→Int):sumF f l=sumF (fun j:Nat=>f (l.getD j 0)) (List.range l.length):=by
 have e:l=(List.range l.length).map (fun j=>l.getD j 0):=by
  refine List.ext_getElem (by simp) fun i h1 h2=>?_
  simp [List.getD_eq_getElem?_getD,h1]
 conv=>lhs;rw [e]
 rw [sumF_map]
theorem used_range(F:List Int)(k:Nat):usedN F k=((List.range k).filter fun s=>decide (0<F.getD s 0)).map Int.ofNat:=by
 induction k with
 | zero=>rfl
 | succ k ih=>
  rw [usedN,List.range_succ,List.filter_append,List.map_append,← ih]
  split
  ·next h=>simp only [List.filter_cons,List.filter_nil,h,decide_true,if_true];rfl
  ·next h=>simp only [List.filter_cons,List.filter_nil,h,decide_false];simp
theorem sum_syms(F:List Int)(f:Nat→Int)(h:∀ j,j<F.length→¬ 0<F.getD j 0→f j=0):sumF f (List.range F.length)=sumF (fun x:Int=>f x.toNat) (symsF F):=by
 rw [← sumF_perm (syms_perm F)]
 unfold usedF
 rw [used_range,sumF_map,sumF_filter (fun s=>decide (0<F.getD s 0)) (List.range F.length)]
 have e:sumF f ((List.range F.length).filter fun x=>!decide (0<F.getD x 0))=0:=by
  rw [Vc (g:=fun _=>0) (fun j hj=>by
   have:=List.mem_filter.1 hj
   exact h j (List.mem_range.1 this.1) (by simpa using this.2)),sumF_const]
  simp
 rw [e,Int.add_zero]
 exact Vc fun x _=>by simp
def costF:List Int→List Int→Int
 | a::F,b::l=>a*b+costF F l
 | _,_=>0
theorem getD_self{ls:List Nat}:(List.range ls.length).map (fun k=>ls.getD k 0)=ls:=by
 refine List.ext_getElem (by simp) fun i h1 h2=>?_
 simp [List.getD_eq_getElem?_getD,h2]
theorem sum_places{α:Type}(f:α→Int)(l:List α)(g:Nat→Int)(h:∀ k (hk:k<l.length),f l[k]=g k):sumF f l=sumF g (List.range l.length):=by
 induction l generalizing g with
 | nil=>rfl
 | cons a t ih=>
  rw [List.length_cons,List.range_succ_eq_map,Je,Je,sumF_map,ih (fun k=>g (k+1)) (fun k hk=>h (k+1) (by simpa using hk))]
  have:=h 0 (by simp)
  simp only [List.getElem_cons_zero] at this
  rw [this]
section
variable {F:List Int} {L:Nat} (hF:∀ f∈F,0≤f) (hL:1≤L∧L≤15) (hU:(symsF F).length≤2^L)
theorem getD_nonneg(hF:∀ f∈F,0≤f)(j:Nat):0≤F.getD j 0:=by
 rw [List.getD_eq_getElem?_getD]
 rcases Nat.lt_or_ge j F.length with h | h
 ·rw [List.getElem?_eq_getElem h];exact hF _ (List.getElem_mem _)
 ·rw [List.getElem?_eq_none h];exact Int.le_refl _
theorem lengthsF_rel(F:List Int)(L:Nat):OutRel F (Zz F L) (if (symsF F).length<2 then addF (symsF F).length (List.replicate (symsF F).length 0) else lensF (cntF (baseF F) (L-1) (2*(baseF F).length-2)) (List.replicate (baseF F).length 0)):=by
 unfold Zz
 split
 ·have:=out_bump (out_start F) (symsF F).length
  rwa [List.take_length] at this
 ·rw [Vb]
  exact out_fold _ (out_start F)
theorem lengthsF_length(F:List Int)(L:Nat):(Zz F L).length=F.length:=(lengthsF_rel F L).len
theorem out_weight{o:List Int}{ls:List Nat}(h:OutRel F o ls)(h1:∀ k,k<ls.length→1≤ls.getD k 0):sumF wtF o=kwF ls:=by
 rw [sum_range,h.len,sum_syms F (fun j=>wtF (o.getD j 0)) (fun j _ hj=>by
  show wtF (o.getD j 0)=0
  rw [h.zero j (fun hm=>by
   obtain ⟨s,e,_,h2⟩:=(Kj F j).1 hm
   have:j=s:=by omega
   subst this;exact hj h2)];rfl)]
 unfold kwF
 rw [sum_places (fun x:Int=>wtF (o.getD x.toNat 0)) (symsF F) (fun k=>(2:Int)^(15-ls.getD k 0)) (fun k hk=>?_),← h.lsl]
 ·conv=>rhs;rw [← getD_self (ls:=ls),sumF_map]
 ·rw [h.get k hk]
  have:=h1 k (by rw [h.lsl];exact hk)
  unfold wtF
  rw [if_pos (by omega)]
  simp
include hL hU
theorem places_ok{ls:List Nat}(hls:ls=if (symsF F).length<2 then addF (symsF F).length (List.replicate (symsF F).length 0) else lensF (cntF (baseF F) (L-1) (2*(baseF F).length-2)) (List.replicate (baseF F).length 0)) :
 ∀ k,k<(symsF F).length→1≤ls.getD k 0∧ls.getD k 0≤L:=by
 intro k hk
 subst hls
 split
 ·rw [addF_get,if_pos ⟨hk,by simpa using hk⟩,rep_zero]
  omega
 ·next h=>
  have hw:=whole (base_law F) L (by rw [Vb];omega) hL (by rw [Vb];exact hU)
  rw [Vb] at hw ⊢
  exact hw.2 k hk
theorem lengthsF_range(hF:∀ f∈F,0≤f)(j:Nat)(hj:j<F.length):0≤(Zz F L).getD j 0∧(Zz F L).getD j 0≤L∧((Zz F L).getD j 0=0↔F.getD j 0=0):=by
 obtain ⟨ls,hls⟩:∃ ls,ls=if (symsF F).length<2 then addF (symsF F).length (List.replicate (symsF F).length 0) else lensF (cntF (baseF F) (L-1) (2*(baseF F).length-2)) (List.replicate (baseF F).length 0):=⟨_,rfl⟩
 have hr:=lengthsF_rel F L
 rw [← hls] at hr
 have hp:=places_ok (F:=F) hL hU hls
 have h0:=getD_nonneg hF j
 by_cases hm:(j:Int)∈symsF F
 ·obtain ⟨k,hk,e⟩:=List.getElem_of_mem hm
  have hg:=hr.get k hk
  rw [e] at hg
  simp only [Int.toNat_natCast] at hg
  have h1:=hp k hk
  obtain ⟨s,e2,_,h2⟩:=(Kj F j).1 hm
  have:j=s:=by omega
  subst this
  rw [hg]
  omega
 ·rw [hr.zero j hm]
  have:¬ 0<F.getD j 0:=fun h=>hm ((Kj F j).2 ⟨j,rfl,hj,h⟩)
  omega
theorem lengthsF_weight:sumF wtF (Zz F L)=if (symsF F).length<2 then ((symsF F).length:Int)*2^14 else 2^15:=by
 obtain ⟨ls,hls⟩:∃ ls,ls=if (symsF F).length<2 then addF (symsF F).length (List.replicate (symsF F).length 0) else lensF (cntF (baseF F) (L-1) (2*(baseF F).length-2)) (List.replicate (baseF F).length 0):=⟨_,rfl⟩
 have hr:=lengthsF_rel F L
 rw [← hls] at hr
 have hp:=places_ok (F:=F) hL hU hls
 rw [out_weight hr (fun k hk=>(hp k (by rw [← hr.lsl];exact hk)).1),hls]
 split
 ·next h=>
  rw [kw_addF (t:=0) (by simp) (fun k _=>rep_zero _ _) (by omega)]
  have e:kwF (List.replicate (symsF F).length 0)=(symsF F).length*2^15:=by
   unfold kwF
   rw [Vc (g:=fun _=>(2:Int)^15) (fun l hl=>by rw [(List.mem_replicate.1 hl).2]),sumF_const,List.length_replicate]
  rw [e]
  omega
 ·next h=>
  exact (whole (base_law F) L (by rw [Vb];omega) hL (by rw [Vb];exact hU)).1
end
theorem Za{F:List Int}{i:Nat}(h:i<F.length):F[i]?=some (F.getD i 0):=by
 rw [List.getD_eq_getElem?_getD,List.getElem?_eq_getElem h];rfl
theorem rd_len{w:World}{v:Value}{n:Nat}{F:List Int}(hr:Rd w 1 v n (nums F)):F.length=n:=by have:=hr.len;rw [Qg] at this;omega
def okLen(x:Int):Bool:=decide (0≤x)&&decide (x≤15)
def mayF(l:List Int):Bool:=decide (l.length≤320)&&l.all okLen
theorem mayF_len{l:List Int}(h:mayF l=true):l.length≤320∧∀ x∈l,0≤x∧x≤15:=by
 unfold mayF at h
 simp only [Bool.and_eq_true,decide_eq_true_eq,List.all_eq_true,okLen] at h
 exact ⟨h.1,fun x hx=>h.2 x hx⟩
theorem all_take_succ{p:Int→Bool}{F:List Int}{i:Nat}(h:i<F.length):(F.take (i+1)).all p=((F.take i).all p&&p (F.getD i 0)):=by
 rw [List.take_add_one,Za h,List.all_append]
 simp
def badF(f:Int):Bool:=decide (f<0∨4294967296<f)
def anyBad(F:List Int):Bool:=F.any badF
theorem rd_num{w w':World}{n:Nat}{F:List Int}{v:Value}{ps:List Piece}(hr:Rd w 1 v n (nums F))(H:Own w w' ps){i:Nat}(hi:i<F.length){a:Option Addr}{c:Nat}(hv:v=.slice a n c):∃ b o,a=some ⟨b,o,none⟩∧w'.cell? ⟨b,o+i,none⟩=some (.int .i64 (F.getD i 0)):=by
 subst hv
 obtain ⟨b,o,c',he,_⟩:=hr.some (by rw [Qg];omega)
 cases he
 exact ⟨b,o,rfl,(hr.old H).cell (Jj (by rw [List.getElem?_eq_getElem hi];simp [List.getD_eq_getElem?_getD,hi]))⟩
theorem rd_at{w w':World}{n:Nat}{F:List Int}{a:Option Addr}{c:Nat}{ps:List Piece}(hr:Rd w 1 (.slice a n c) n (nums F))(H:Own w w' ps){i:Nat}(hi:i<n):∃ b o,a=some ⟨b,o,none⟩∧w'.cell? ⟨b,o+i,none⟩=some (.int .i64 (F.getD i 0)):=
 rd_num hr H (by have:=hr.len;rw [Qg] at this;omega) rfl
def badArg(F:List Int)(L:Int):Bool:=decide (L<1)||decide (15<L)||decide (320<F.length)||anyBad F
def errF(F:List Int)(L:Int):Int:=if badArg F L then 1 else if 2^L.toNat<(usedF F).length then 3 else 0
def resF(F:List Int)(L:Int):List Int:=if errF F L=0 then Zz F L.toNat else []
def Zf(l:List Int):List Int:=(bumpF (Qm 16) l).set 0 0
theorem bump_bound(l:List Int):∀ (o:List Int) (j:Nat) (B:Int),(∀ j,0≤o.getD j 0∧o.getD j 0≤B)→0≤(bumpF o l).getD j 0∧(bumpF o l).getD j 0≤B+l.length:=by
 induction l with
 | nil=>intro o j B h;have:=h j;simp [bumpF] at this ⊢;omega
 | cons x t ih=>
  intro o j B h
  have h2:∀ j,0≤(bump1 o x).getD j 0∧(bump1 o x).getD j 0≤B+1:=by
   intro j
   unfold bump1
   have h1:=h j
   have h3:=h x.toNat
   rw [List.getD_eq_getElem?_getD,List.getElem?_set]
   rw [List.getD_eq_getElem?_getD] at h1
   split
   ·split
    ·simp;simp at h3;omega
    ·simp;have:=h 0;omega
   ·omega
  have:=ih (bump1 o x) j (B+1) h2
  show 0≤(bumpF (bump1 o x) t).getD j 0∧(bumpF (bump1 o x) t).getD j 0≤_
  rw [List.length_cons]
  omega
theorem Vg(n j:Nat):(Qm n).getD j 0=0:=by
 unfold Qm
 rw [List.getD_eq_getElem?_getD,List.getElem?_replicate]
 split <;> rfl
def leftL:Int→List Int→Int
 | n,[]=>n
 | n,k::t=>if 2*n-k<0 then -1 else leftL (2*n-k) t
def leftF(cs:List Int):Int:=leftL 1 (cs.drop 1)
theorem nums_set(o:List Int)(s:Nat)(x:Int):(nums o).set s (.int .i64 x)=nums (o.set s x):=by simp [nums,List.map_set]
theorem bump_take{o syms:List Int}{j:Nat}{x:Int}(hx:syms[j]?=some x):bumpF o (syms.take (j+1))=bump1 (bumpF o (syms.take j)) x:=by
 unfold bumpF
 rw [List.take_add_one,hx,List.foldl_append]
 rfl
theorem arr_set(cs:List Int)(k:Nat)(v:Int):(nums cs).toArray.setIfInBounds k (.int .i64 v)=(nums (cs.set k v)).toArray:=by
 rw [List.setIfInBounds_toArray,nums_set]
theorem arr_get{cs:List Int}{k:Nat}(h:k<cs.length):(nums cs).toArray[k]?=some (.int .i64 (cs.getD k 0)):=by
 rw [List.getElem?_toArray]
 exact Jj (Za h)
theorem arr_zero:(nums (Qm 16)).toArray=#[.int .i64 0,.int .i64 0,.int .i64 0,.int .i64 0,.int .i64 0,.int .i64 0,.int .i64 0,.int .i64 0,.int .i64 0,.int .i64 0,.int .i64 0,.int .i64 0,.int .i64 0,.int .i64 0,.int .i64 0,.int .i64 0]:=rfl
theorem nums_one(cs:List Int):∀ u∈nums cs,u.oneCell'=true:=by
 intro u hu
 obtain ⟨x,_,rfl⟩:=List.mem_map.1 hu
 rfl
theorem store_whole(a b:List Value)(h:b.length=a.length):(a.toArray.toList.take 0++b++a.toArray.toList.drop (0+b.length)).toArray=b.toArray:=by
 simp [h]
def cerrF(l:List Int):Int:=if mayF l then (if sumF wtF l≤2^15 then 0 else 2) else 1
theorem pow_pos_nat(d:Nat)(h:d≤15):∃ p:Int,(2:Int)^d=p∧1≤p∧p≤32768:=by
 refine ⟨_,rfl,?_,?_⟩
 ·have:(0:Int)<2^d:=Int.pow_pos (by omega)
  omega
 ·have:(2:Nat)^d≤2^15:=Nat.pow_le_pow_right (by omega) h
  have h2:((2^d:Nat):Int)≤((2^15:Nat):Int):=Int.ofNat_le.2 this
  simpa using h2
def cntL(l:List Int)(k:Nat):Nat:=l.countP fun x=>decide (x=(k:Int))
def lowT(n:Nat)(x:Int):Int:=if 0<x∧x<n then 2^(n-x.toNat) else 0
def lowF(l:List Int)(n:Nat):Int:=sumF (lowT n) l
def cntC(l:List Int)(k:Nat):Int:=if k=0 then 0 else cntL l k
def codeF(l:List Int)(s:Nat):Int:=if 0<l.getD s 0 then lowF l (l.getD s 0).toNat+cntL (l.take s) (l.getD s 0).toNat else 0
def Zc(l:List Int):List Int:=(List.range l.length).map (codeF l)
theorem codesF_length(l:List Int):(Zc l).length=l.length:=by simp [Zc]
theorem codesF_get{l:List Int}{s:Nat}(h:s<l.length):(Zc l).getD s 0=codeF l s:=by
 unfold Zc
 rw [List.getD_eq_getElem?_getD]
 simp [h]
section
variable {l:List Int}
theorem cntL_take_succ{k s:Nat}(h:s<l.length):cntL (l.take (s+1)) k=cntL (l.take s) k+if l.getD s 0=(k:Int) then 1 else 0:=by
 unfold cntL
 rw [List.take_add_one,Za h,List.countP_append]
 simp
theorem cntL_le(l:List Int)(k:Nat):cntL l k≤l.length:=List.countP_le_length
theorem cntL_take_le(l:List Int)(s k:Nat):cntL (l.take s) k≤cntL l k:=(List.take_sublist s l).countP_le
theorem lowT_nonneg(n:Nat)(x:Int):0≤lowT n x:=by
 unfold lowT
 split
 ·exact Int.le_of_lt (Int.pow_pos (by omega))
 ·exact Int.le_refl _
theorem lowF_nonneg(l:List Int)(n:Nat):0≤lowF l n:=sumF_nonneg fun x _=>lowT_nonneg n x
theorem lowF_zero(l:List Int):lowF l 0=0:=by
 unfold lowF
 rw [Vc (g:=fun _=>0) (fun x _=>by unfold lowT;rw [if_neg];rintro ⟨h1,h2⟩;have:x<0:=h2;omega),sumF_const]
 simp
theorem lowF_succ(l:List Int)(n:Nat):lowF l (n+1)=2*(lowF l n+cntC l n):=by
 have key:∀ x:Int,lowT (n+1) x=2*(lowT n x+if x=(n:Int)∧n≠0 then 1 else 0):=by
  intro x
  unfold lowT
  by_cases h1:0<x∧x<n
  ·rw [if_pos h1,if_pos ⟨h1.1,by omega⟩,if_neg (by omega),show n+1-x.toNat=(n-x.toNat)+1 by omega,Int.pow_succ]
   omega
  ·rw [if_neg h1]
   by_cases h2:x=(n:Int)∧n≠0
   ·rw [if_pos h2,if_pos ⟨by omega,by omega⟩]
    have:n+1-x.toNat=1:=by omega
    rw [this]
    rfl
   ·rw [if_neg h2,if_neg (by omega)]
    rfl
 unfold lowF
 rw [Vc (fun x _=>key x)]
 clear key
 have h2:∀ l:List Int,sumF (fun x=>2*(lowT n x+if x=(n:Int)∧n≠0 then 1 else 0)) l=2*(sumF (lowT n) l+cntC l n):=by
  intro l
  induction l with
  | nil=>simp [sumF,cntC,cntL]
  | cons x t ih=>
   rw [Je,ih,Je]
   unfold cntC cntL
   rw [List.countP_cons]
   by_cases hn:n=0
   ·simp [hn];omega
   ·by_cases hx:x=(n:Int)
    ·simp [hn,hx];omega
    ·simp [hn,hx];omega
 exact h2 l
theorem low_weight(hl:∀ x∈l,0≤x∧x≤15):lowF l 15+cntC l 15=sumF wtF l:=by
 have h:=lowF_succ l 15
 have key:lowF l 16=2*sumF wtF l:=by
  unfold lowF
  clear h
  induction l with
  | nil=>rfl
  | cons x t ih=>
   rw [Je,Je,ih fun y hy=>hl y (by simp [hy])]
   have:=hl x (by simp)
   have e:lowT 16 x=2*wtF x:=by
    unfold lowT wtF
    by_cases hx:0<x
    ·rw [if_pos ⟨hx,by omega⟩,if_pos hx,show 16-x.toNat=(15-x.toNat)+1 by omega,Int.pow_succ]
     omega
    ·rw [if_neg (by omega),if_neg hx];rfl
   rw [e]
   omega
 have e:lowF l (15+1)=lowF l 16:=rfl
 rw [e,key] at h
 omega
theorem cntC_nonneg(l:List Int)(k:Nat):0≤cntC l k:=by unfold cntC;split <;> omega
theorem low_far(l:List Int)(n:Nat):∀ d,2^(d+1)*(lowF l n+cntC l n)≤lowF l (n+1+d):=by
 intro d
 induction d with
 | zero=>rw [Nat.add_zero,lowF_succ];simp
 | succ d ih=>
  rw [← Nat.add_assoc,lowF_succ,Int.pow_succ]
  have:=cntC_nonneg l (n+1+d)
  have e:(2:Int)^(d+1)*2*(lowF l n+cntC l n)=2*(2^(d+1)*(lowF l n+cntC l n)):=by
   rw [Int.mul_comm (2^(d+1)) 2,Int.mul_assoc]
  rw [e]
  omega
theorem low_room(hl:∀ x∈l,0≤x∧x≤15)(hw:sumF wtF l≤2^15)(n:Nat)(hn:n≤15):lowF l n+cntC l n≤2^n:=by
 rw [← low_weight hl] at hw
 rcases Nat.lt_or_ge n 15 with h | h
 ·have h1:=low_far l n (14-n)
  have e:n+1+(14-n)=15:=by omega
  rw [e] at h1
  have h2:=cntC_nonneg l 15
  have h3:(2:Int)^(14-n+1)*(lowF l n+cntC l n)≤2^(14-n+1)*2^n:=by
   rw [← Int.pow_add,show 14-n+1+n=15 by omega]
   omega
  exact Int.le_of_mul_le_mul_left h3 (Int.pow_pos (by omega))
 ·have:n=15:=by omega
  subst this
  exact hw
theorem counts_get(hl:∀ x∈l,0≤x∧x≤15)(k:Nat)(hk:k<16):(Zf l).getD k 0=cntC l k:=by
 have hb:(bumpF (Qm 16) l).length=16:=by rw [Jl];simp [Qm]
 unfold Zf cntC
 rw [List.getD_eq_getElem?_getD,List.getElem?_set]
 by_cases h0:k=0
 ·subst h0
  rw [if_pos rfl,if_pos rfl,if_pos (by omega)]
  rfl
 ·rw [if_neg (fun e=>h0 e.symm),if_neg h0,← List.getD_eq_getElem?_getD,Kh _ _ _ (fun x hx=>⟨x.toNat,by have:=hl x hx;omega,by have:=hl x hx;simp [Qm];omega⟩),Vg]
  unfold cntL
  omega
theorem counts_length(l:List Int):(Zf l).length=16:=by unfold Zf;rw [List.length_set,Jl];simp [Qm]
theorem left_step(l:List Int)(hl:∀ x∈l,0≤x∧x≤15):∀ m j,j+m=15→lowF l j+cntC l j≤2^j →
 leftL (2^j-(lowF l j+cntC l j)) ((Zf l).drop (1+j))=if sumF wtF l≤2^15 then 2^15-sumF wtF l else -1:=by
 intro m
 induction m with
 | zero=>
  intro j hj hle
  have:j=15:=by omega
  subst this
  rw [List.drop_eq_nil_of_le (by rw [counts_length];omega),leftL]
  rw [low_weight hl] at hle ⊢
  rw [if_pos hle]
 | succ m ih=>
  intro j hj hle
  have hd:(Zf l).drop (1+j)=(Zf l).getD (1+j) 0::(Zf l).drop (1+(j+1)):=by
   have:=counts_length l
   rw [List.drop_eq_getElem_cons (by omega),List.getD_eq_getElem?_getD,List.getElem?_eq_getElem (by omega)]
   rfl
  rw [hd,leftL,counts_get hl _ (by omega)]
  have e:2*(2^j-(lowF l j+cntC l j))-cntC l (1+j)=2^(j+1)-(lowF l (j+1)+cntC l (j+1)):=by
   rw [lowF_succ,Int.pow_succ,Nat.add_comm 1 j]
   omega
  rw [e]
  by_cases hneg:2^(j+1)-(lowF l (j+1)+cntC l (j+1))<0
  ·rw [if_pos hneg,if_neg]
   intro hw
   have:=low_room hl hw (j+1) (by omega)
   omega
  ·rw [if_neg hneg]
   exact ih (j+1) (by omega) (by omega)
theorem left_law(hl:∀ x∈l,0≤x∧x≤15):leftF (Zf l)=if sumF wtF l≤2^15 then 2^15-sumF wtF l else -1:=by
 have:=left_step l hl 15 0 rfl (by rw [lowF_zero];simp [cntC])
 rw [lowF_zero] at this
 exact this
theorem code_lt{s:Nat}(hs:s<l.length)(h0:0<l.getD s 0):codeF l s+1≤lowF l (l.getD s 0).toNat+cntC l (l.getD s 0).toNat:=by
 unfold codeF cntC
 rw [if_pos h0,if_neg (by omega)]
 have h1:=cntL_take_succ (k:=(l.getD s 0).toNat) hs
 rw [if_pos (by omega)] at h1
 have h2:=cntL_take_le l (s+1) (l.getD s 0).toNat
 omega
theorem code_nonneg(s:Nat):0≤codeF l s:=by
 unfold codeF
 split
 ·have:=lowF_nonneg l (l.getD s 0).toNat;omega
 ·omega
theorem code_fits(hl:∀ x∈l,0≤x∧x≤15)(hw:sumF wtF l≤2^15){s:Nat}(hs:s<l.length)(h0:0<l.getD s 0):codeF l s<2^(l.getD s 0).toNat:=by
 have h1:=code_lt hs h0
 have hm:l.getD s 0∈l:=by rw [List.getD_eq_getElem?_getD,List.getElem?_eq_getElem hs];exact List.getElem_mem _
 have h2:=low_room hl hw (l.getD s 0).toNat (by have:=hl _ hm;omega)
 omega
def befT(l:List Int)(s t:Nat):Int:=if 0<l.getD t 0∧(l.getD t 0<l.getD s 0∨l.getD t 0=l.getD s 0∧t<s) then 2^(15-(l.getD t 0).toNat) else 0
def befN(l:List Int)(s:Nat):Nat→Int
 | 0=>0
 | k+1=>befN l s k+befT l s k
end
namespace SI
def ie(x:Int):List Value:=[.int .i64 x]
theorem e_length(x:Int):(ie x).length=1:=rfl
theorem e_one(x:Int):∀ u∈ie x,u.oneCell'=true:=by intro u hu;simp [ie] at hu;subst hu;rfl
abbrev Sl(v:Value)(l:List Int):Piece:=slc 3 1 v l.length (rows ie l)
theorem el{w:World}{b c i n:Nat}{l:List Int}{x:Int}(h:Rd w 1 (.slice (some ⟨b,0,none⟩) n c) n (rows ie l))(hx:l[i]?=some x) :
 w.cell? ⟨b,i,none⟩=some (.int .i64 x)∧True:=by
 have h0:=h.cell ((Jt ie e_length hx 0 (by omega)).trans rfl)
 rw [Nat.zero_add,Nat.mul_one] at h0
 exact ⟨h0,trivial⟩
theorem set_rows{l:List Int}{i:Nat}(hi:i<l.length)(y:Int):(rows ie l).take (i*1)++ie y++(rows ie l).drop (i*1+1)=rows ie (l.set i y):=(rows_set ie e_length hi y).symm
theorem set_swap{α:Type}(u v w:List α)(x y:α){i j:Nat}(hi:i=u.length)(hj:j=u.length+1+v.length) :
 ((u++x::(v++y::w)).set i y).set j x=u++y::(v++x::w):=by
 subst hi hj
 rw [List.set_append_right _ _ (Nat.le_refl _),Nat.sub_self,List.set_cons_zero,List.set_append_right _ _ (by omega),show u.length+1+v.length-u.length=v.length+1 by omega,List.set_cons_succ,List.set_append_right _ _ (Nat.le_refl _),Nat.sub_self,List.set_cons_zero]
theorem get_mid{α:Type}(u w:List α)(x:α){i:Nat}(hi:i=u.length):(u++x::w)[i]?=some x:=by
 subst hi
 rw [List.getElem?_append_right (Nat.le_refl _),Nat.sub_self];rfl
abbrev A:=Int
abbrev sL(g N c:Nat)(l:List Int):Piece:=slc 3 1 (.slice (some ⟨g,0,none⟩) N c) N (rows ie l)
open Go.Proofs.Tryz renaming func391 → fuswapRangeCmpFunc, ntmps391 → ntswapRangeCmpFunc
open Go.Proofs.YthekdeikodppkaaGreatDoor.SI renaming ie → eC
section
variable {w0 w:World} {ps:List Piece}
set_option maxRecDepth 100000 in
set_option maxHeartbeats 3200000 in
theorem swap_any:T_swap_any Int ie 3 1 391:=mk_swap_any _ _ _ _ _
end
end SI
end Go.Proofs.YthekdeikodppkaaGreatDoor
namespace Go.Proofs.YthekdeikodppkaaGreatDoor
open Go.RowKit
set_option maxRecDepth 1000000
def T_rotate_any(A:Type)(eC:A→List Value)(EL:TypeId)(SZ:Nat)(F_rotateCmpFunc:FuncId):Prop:=∀ ⦃w0:World⦄ ⦃w:World⦄ ⦃ps:List Piece⦄ ⦃g c N:Nat⦄ ⦃p x y q:List A⦄ ⦃a m b:Nat⦄ (cmp:Value) (ha:a=p.length) (hm:m=a+x.length) (hb:b=m+y.length) (hx0:0<x.length) (hy0:0<y.length) (hN:N=(p++x++y++q).length) (hNb:N≤1000000) (H:Own w0 w (slc EL SZ (.slice (some ⟨g,0,none⟩) N c) N (rows eC (p++x++y++q))::ps)),Calls Tryz.prog F_rotateCmpFunc #[.slice (some ⟨g,0,none⟩) N c,.int .i64 a,.int .i64 m,.int .i64 b,cmp] w (Ret fun _ w'=>Own w0 w' (slc EL SZ (.slice (some ⟨g,0,none⟩) N c) N (rows eC (p++y++x++q))::ps))
theorem mk_rotate_any(A:Type)(eC:A→List Value)(EL:TypeId)(SZ:Nat)(F_rotateCmpFunc:FuncId)(h:T_rotate_any A eC EL SZ F_rotateCmpFunc:=by
 unfold T_rotate_any
 intro w0 w ps g c N p x y q a m b cmp ha hm hb hx0 hy0 hN hNb H
 obtain ⟨T,hT⟩:∃ T,Hid (T=p++y++x++q):=⟨_,jd rfl⟩
 rw [← hT.out]
 have hbN:b≤N:=by rw [hN];simp only [lJ];omega
 obtain ⟨i0,hi0⟩:∃ i,Hid (x.length=i):=⟨_,rfl⟩
 obtain ⟨j0,hj0⟩:∃ j,Hid (y.length=j):=⟨_,rfl⟩
 rw [hi0.out] at hx0 hm
 rw [hj0.out] at hy0 hb
 have hNn:Hid ((p++x++y++q).length=N):=jd hN.symm
 have HP:=jd ha
 have ham:m=a+i0:=hm
 have hbm:b=m+j0:=hb
 clear ha hN
 go_enter furotateCmpFunc,ntrotateCmpFunc
 have e1:((m:Int)-(a:Int))=(i0:Int):=by omega
 have e2:((b:Int)-(m:Int))=(j0:Int):=by omega
 have hst:a+i0=m∧m+j0≤N:=⟨by omega,by omega⟩
 have HST:=jd hst
 have ham2:a≤m:=by omega
 have hmb2:m≤b:=by omega
 have hbN2:b≤N:=by omega
 clear ham hm hst hb hbN hbm
 go_upto_region 2 with (fail)
 go_loopw [10,11] (fun s10 s11 wx=>∃ (i j pl:Nat) (X Y P Q:List A),s10=.int .i64 i∧s11=.int .i64 j∧1≤i∧1≤j∧pl+i=m∧m+j≤N∧Hid (X.length=i)∧Hid (Y.length=j)∧Hid (P.length=pl)∧Hid ((P++X++Y++Q).length=N)∧Hid (T=P++Y++X++Q)∧Own w0 wx ((sL g N c (P++X++Y++Q))::ps)) (fun s10 s11 _=>(intOf s10).toNat+(intOf s11).toNat)
 case atStart=>exact ⟨i0,j0,a,x,y,p,q,by rw [← e1];try go_num,by rw [← e2];try go_num,by omega,by omega,HST.out.1,HST.out.2,hi0,hj0,jd HP.out.symm,hNn,hT,H⟩
 case round=>
  clear H hNn hT HP hi0 hj0 e1 e2
  obtain ⟨i,j,pl,X,Y,P,Q,rfl,rfl,hi,hj,hpl,hmj,hX,hY,hP,hLn,hT,H⟩:=hrel
  have em:((m:Int)-(i:Int))=(pl:Int):=by omega
  have hN1:(m:Int)+(j:Int)≤(N:Int):=by omega
  rcases Nat.lt_trichotomy i j with hij | hij | hij
  ·
   obtain ⟨d,rfl⟩:∃ d,j=d+i:=⟨j-i,by omega⟩
   obtain ⟨bd,hbd⟩:∃ bd,bd=m+d:=⟨_,rfl⟩
   have eb:((m:Int)+((d+i:Nat):Int)-(i:Int))=(bd:Int):=by omega
   have eb':((m:Int)+((d:Int)+(i:Int))-(i:Int))=(bd:Int):=by omega
   have ed:((d:Int)+(i:Int)-(i:Int))=(d:Int):=by omega
   obtain ⟨Y1,Y2,hYs,hY1⟩:=split_at Y d (by rw [hY.out];omega)
   subst hYs
   have hY2:Y2.length=i:=by have:=hY.out;rw [lJ] at this;omega
   have hne:((i:Int)==((d:Int)+(i:Int)))=false:=by simp;omega
   have hng:¬ ((d:Int)+(i:Int)<(i:Int)):=by omega
   have el1:P++X++(Y1++Y2)++Q=P++X++Y1++Y2++Q:=by simp
   rw [el1] at H
   have hLn':N=(P++X++Y1++Y2++Q).length:=by rw [← el1];exact hLn.out.symm
   have hNb':N≤1000000:=hNb
   have hsw:=swap_any (w0:=w0) (w:=wr) (ps:=ps) (g:=g) (c:=c) (N:=N) (p:=P) (x:=X) (m:=Y1) (y:=Y2) (q:=Q) (a:=pl) (b:=bd) (n:=i) cmp (by rw [hP.out]) (by rw [hX.out,hY1,hbd];omega) (by rw [hX.out]) (by rw [hY2,hX.out]) hLn' hNb H
   have HSW:=jd hsw
   have el2:P++Y2++Y1++X++Q=P++Y2++Y1++(X++Q):=by simp
   have hT':Hid (T=P++Y1++Y2++(X++Q)):=jd (by rw [hT.out];simp)
   have hX':Hid (Y2.length=i):=jd hY2
   have hY':Hid (Y1.length=d):=jd hY1
   have hLn2:Hid ((P++Y2++Y1++(X++Q)).length=N):=jd (by rw [hLn'];simp only [lJ];omega)
   rw [el2] at HSW
   clear hsw el1 el2 hLn' hY1 hY2 hT hX hY hLn hbd
   go_wp2_with fail
   refine HSW.out.mono ?_
   rintro e w3 ⟨_,rfl,H3⟩
   clear HSW H
   go_wp2
   go_roundw
   case rel=>exact ⟨i,d,pl,Y2,Y1,P,X++Q,rfl,by go_num,by omega,by omega,hpl,by omega,hX',hY',hP,hLn2,hT',H3⟩
   case measure=>simp [intOf];omega
  ·subst hij
   have hLn':N=(P++X++[]++Y++Q).length:=by have:=hLn.out;rw [← this];simp
   have H':Own w0 wr ((sL g N c (P++X++[]++Y++Q))::ps):=by simpa using H
   have hsw:=swap_any (w0:=w0) (w:=wr) (ps:=ps) (g:=g) (c:=c) (N:=N) (p:=P) (x:=X) (m:=[]) (y:=Y) (q:=Q) (a:=pl) (b:=m) (n:=i) cmp (by rw [hP.out]) (by rw [hX.out];simp;omega) (by rw [hX.out]) (by rw [hY.out,hX.out]) hLn' hNb H'
   have HSW:=jd hsw
   clear hsw H' hLn'
   go_wp2_with fail
   refine HSW.out.mono ?_
   rintro e w3 ⟨_,rfl,H3⟩
   clear HSW H
   go_wp2
   go_end0
   exact ⟨_,rfl,by rw [hT.out];simpa using H3⟩
  ·obtain ⟨d,rfl⟩:∃ d,i=j+d:=⟨i-j,by omega⟩
   obtain ⟨X1,X2,hXs,hX1⟩:=split_at X j (by rw [hX.out];omega)
   subst hXs
   have hX2:X2.length=d:=by have:=hX.out;rw [lJ] at this;omega
   have em':((m:Int)-((j:Int)+(d:Int)))=(pl:Int):=by omega
   have ed:((j:Int)+(d:Int)-(j:Int))=(d:Int):=by omega
   have hne:(((j:Int)+(d:Int))==(j:Int))=false:=by simp;omega
   have hng:((j:Int)<(j:Int)+(d:Int)):=by omega
   have el1:P++(X1++X2)++Y++Q=P++X1++X2++Y++Q:=by simp
   rw [el1] at H
   have hLn':N=(P++X1++X2++Y++Q).length:=by rw [← el1];exact hLn.out.symm
   have hsw:=swap_any (w0:=w0) (w:=wr) (ps:=ps) (g:=g) (c:=c) (N:=N) (p:=P) (x:=X1) (m:=X2) (y:=Y) (q:=Q) (a:=pl) (b:=m) (n:=j) cmp (by rw [hP.out]) (by rw [hX1,hX2];omega) (by rw [hX1]) (by rw [hY.out,hX1]) hLn' hNb H
   have HSW:=jd hsw
   have el2:P++Y++X2++X1++Q=(P++Y)++X2++X1++Q:=by simp
   have hT':Hid (T=(P++Y)++X1++X2++Q):=jd (by rw [hT.out];simp)
   have hX':Hid (X2.length=d):=jd hX2
   have hY':Hid (X1.length=j):=jd hX1
   have hP':Hid ((P++Y).length=pl+j):=jd (by rw [lJ,hP.out,hY.out])
   have hLn2:Hid (((P++Y)++X2++X1++Q).length=N):=jd (by rw [hLn'];simp only [lJ];omega)
   clear hsw el1 el2 hLn' hX1 hX2 hT hX hY hLn hP
   go_wp2_with fail
   refine HSW.out.mono ?_
   rintro e w3 ⟨_,rfl,H3⟩
   clear HSW H
   go_wp2
   go_roundw
   case rel=>exact ⟨d,j,pl+j,X2,X1,P++Y,Q,by go_num,rfl,by omega,by omega,by omega,by omega,hX',hY',hP',hLn2,hT',H3⟩
   case measure=>simp [intOf];omega):T_rotate_any A eC EL SZ F_rotateCmpFunc:=h
end Go.Proofs.YthekdeikodppkaaGreatDoor
namespace Go.Proofs.YthekdeikodppkaaGreatDoor
open Go.RowKit
namespace SI
theorem split_at{α:Type}(l:List α)(n:Nat)(h:n≤l.length):∃ a b,l=a++b∧a.length=n:=⟨l.take n,l.drop n,(List.take_append_drop n l).symm,by simp;omega⟩
open Go.Proofs.Tryz renaming func387 → furotateCmpFunc, ntmps387 → ntrotateCmpFunc
open Go.Proofs.YthekdeikodppkaaGreatDoor.SI renaming ie → eC
section
variable {w0 w:World} {ps:List Piece}
set_option maxRecDepth 100000 in
set_option maxHeartbeats 3200000 in
theorem rotate_any:T_rotate_any Int ie 3 1 387:=mk_rotate_any _ _ _ _ _
end
end SI
end Go.Proofs.YthekdeikodppkaaGreatDoor
namespace Go.Proofs.YthekdeikodppkaaGreatDoor
open Go.RowKit
set_option maxRecDepth 1000000
def T_insert_any(A:Type)(eC:A→List Value)(EL:TypeId)(SZ:Nat)(F_insertionSortCmpFunc:FuncId)(cf:Nat→Value)(Cmps:World→List Piece→Nat→(A→Prop)→(A→Int)→Prop):Prop:=∀ ⦃w0:World⦄ ⦃w:World⦄ ⦃ps:List Piece⦄ ⦃ok:A→Prop⦄ ⦃key:A→Int⦄ ⦃B:Nat⦄ ⦃g c N:Nat⦄ ⦃p s q:List A⦄ ⦃a b:Nat⦄ (hcmp:Cmps w0 ps B ok key) (hok:∀ x∈s,ok x) (ha:a=p.length) (hb:b=a+s.length) (hN:N=(p++s++q).length) (hNb:N≤1000000) (H:Own w0 w (slc EL SZ (.slice (some ⟨g,0,none⟩) N c) N (rows eC (p++s++q))::ps)),Calls Tryz.prog F_insertionSortCmpFunc #[.slice (some ⟨g,0,none⟩) N c,.int .i64 a,.int .i64 b,cf B] w (Ret fun _ w'=>∃ s',Srt key s'∧StEq key s s'∧Own w0 w' (slc EL SZ (.slice (some ⟨g,0,none⟩) N c) N (rows eC (p++s'++q))::ps))
theorem mk_insert_any(A:Type)(eC:A→List Value)(EL:TypeId)(SZ:Nat)(F_insertionSortCmpFunc:FuncId)(cf:Nat→Value)(Cmps:World→List Piece→Nat→(A→Prop)→(A→Int)→Prop)(h:T_insert_any A eC EL SZ F_insertionSortCmpFunc cf Cmps:=by
 unfold T_insert_any
 intro w0 w ps ok key B g c N p s q a b hcmp hok ha hb hN hNb H
 have hbN:b≤N:=by rw [hN];simp only [lJ];omega
 have hNc:N≤c:=by obtain ⟨_,_,e,h1,_⟩:=H.rd.shape;cases e;exact h1
 have hc2:c≤9223372036854775807:=by obtain ⟨_,_,e,_,h1⟩:=H.rd.shape;cases e;exact h1
 have HP:=jd ha
 have HB:=jd hb
 have HN:=jd hN
 have HC:=jd hcmp
 have HOK:=jd hok
 have hab:a≤b:=by omega
 clear ha hb hN hcmp hok
 go_enter fuinsertionSortCmpFunc,ntinsertionSortCmpFunc
 by_cases hs0:s.length=0
 ·have hs:s=[]:=eJ hs0
  have hba:Hid (b=a):=jd (by rw [HB.out,hs0];rfl)
  have hlt:¬ ((a:Int)+1<(b:Int)):=by rw [hba.out];omega
  subst hs
  clear hs0
  go_wp2_with fail
  go_loop [8] (fun s8=>s8=.int .i64 ((a:Int)+1)) (fun _=>0)
  case atStart=>go_num
  case round=>
   obtain rfl:=hrel
   go_wp2
   go_end0
   exact ⟨_,rfl,[],List.Pairwise.nil,StEq.refl _,by simpa using H⟩
 ·have hs1:a+1≤b:=by have:=HB.out;omega
  go_wp2_with fail
  go_loopw [8] (fun s8 wx=>∃ (i:Nat) (S1 S2 U:List A),a+1≤i∧i≤b∧s8=.int .i64 i∧Hid (s=S1++S2)∧Hid (a+S1.length=i)∧Hid (Srt key U)∧Hid (StEq key S1 U)∧Own w0 wx ((sL g N c (p++U++S2++q))::ps)) (fun s8 _=>b-(intOf s8).toNat)
  case atStart=>
   obtain ⟨x,s2,hs⟩:∃ x s2,s=x::s2:=by
    cases s with
    | nil=>simp at hs0
    | cons x s2=>exact ⟨x,s2,rfl⟩
   exact ⟨a+1,[x],s2,[x],by omega,hs1,by go_num,jd (by rw [hs];rfl),jd rfl,jd (List.pairwise_singleton ..),jd (StEq.refl _),by rw [hs] at H;simpa using H⟩
  case round=>
   clear H hs0
   obtain ⟨i,S1,S2,U,hi1,hi2,rfl,hs,hl,hU,hSU,H⟩:=hrel
   by_cases hib:i<b
   ·obtain ⟨x,S3,hS2⟩:∃ x S3,S2=x::S3:=by
     cases S2 with
     | nil=>exfalso;have h1:=HB.out;have h2:=hl.out;rw [hs.out] at h1;simp at h1;omega
     | cons x S3=>exact ⟨x,S3,rfl⟩
    subst hS2
    have hokx:ok x:=HOK.out x (by rw [hs.out];simp)
    have hokU:Hid (∀ u∈U,ok u):=jd fun u hu=>HOK.out u (by rw [hs.out];exact List.mem_append.2 (.inl (hSU.out.symm.mem hu)))
    have hUl:Hid (a+U.length=i):=jd (by rw [← hSU.out.length];exact hl.out)
    have hibI:(i:Int)<(b:Int):=by omega
    go_upto_block 1 with (fail)
    go_cut [] (fun wx=>∃ U',Hid (Srt key U')∧Hid (StEq key (S1++[x]) U')∧Own w0 wx ((sL g N c (p++U'++S3++q))::ps))
    case first=>
     go_wp2_with fail
     go_loopw [9] (fun s9 wx=>∃ (j:Nat) (U1 U2:List A),a≤j∧j≤i∧s9=.int .i64 j∧Hid (U=U1++U2)∧Hid (a+U1.length=j)∧Hid (∀ u∈U2,key x<key u)∧Own w0 wx ((sL g N c (p++U1++x::(U2++S3++q)))::ps)) (fun s9 _=>(intOf s9).toNat)
     case atStart=>exact ⟨i,U,[],by omega,by omega,rfl,jd (by simp),hUl,jd (by simp),by simpa using H⟩
     case round=>
      clear H
      obtain ⟨j,U1,U2,hj1,hj2,rfl,hU12,hU1,hgt,H⟩:=hrel
      have hfin:∀ wz,(∀ u∈U1,key u≤key x)→Own w0 wz ((sL g N c (p++U1++x::(U2++S3++q)))::ps)→∃ U',Hid (Srt key U')∧Hid (StEq key (S1++[x]) U')∧Own w0 wz ((sL g N c (p++U'++S3++q))::ps):=by
       intro wz hle h
       have hs':Srt key (U1++U2):=by rw [← hU12.out];exact hU.out
       have hm:=Mrg.one_right (y:=x) hs' hle hgt.out
       refine ⟨U1++x::U2,jd hm.1,jd (StEq.trans ((hSU.out.app (StEq.refl [x]))) (by rw [hU12.out];exact hm.2)),?_⟩
       simpa using h
      have HFIN:=jd hfin
      clear hfin
      by_cases hja:a<j
      ·obtain ⟨U3,u,hU3⟩:=last_split U1 (by have:=hU1.out;omega)
       subst hU3
       have hjl:j=(p++U3).length+1:=by
        have h1:=hU1.out
        have h2:=HP.out
        rw [lJ,List.length_singleton] at h1
        rw [lJ]
        omega
       have el1:p++(U3++[u])++x::(U2++S3++q)=(p++U3)++u::([]++x::(U2++S3++q)):=by simp
       rw [el1] at H HFIN
       have hg1:((p++U3)++u::([]++x::(U2++S3++q)))[j-1]?=some u:=get_mid _ _ _ (by omega)
       have hg2:((p++U3)++u::([]++x::(U2++S3++q)))[j]?=some x:=by
        have:(p++U3)++u::([]++x::(U2++S3++q))=((p++U3)++[u])++x::(U2++S3++q):=by simp
        rw [this]
        exact get_mid _ _ _ (by simp only [lJ,List.length_cons,List.length_nil] at hjl ⊢;omega)
       have hLn:((p++U3)++u::([]++x::(U2++S3++q))).length=N:=by
        have h1:=HN.out
        have h2:=hUl.out
        have h3:=hU12.out
        have h4:=hl.out
        rw [hs.out] at h1
        rw [h3] at h2
        simp only [lJ,List.length_cons,List.length_nil] at h1 h2 ⊢
        omega
       obtain ⟨j',rfl⟩:∃ j',j=j'+1:=⟨j-1,by omega⟩
       have hsw:=set_swap (p++U3) [] (U2++S3++q) u x (i:=j') (j:=j'+1) (by omega) (by simp only [List.length_nil];omega)
       rw [Nat.add_sub_cancel] at hg1
       obtain ⟨L,hL⟩:∃ L,Hid ((p++U3)++u::([]++x::(U2++S3++q))=L):=⟨_,jd rfl⟩
       rw [hL.out] at H hg1 hg2 hsw hLn HFIN
       have HG1:=jd hg1
       have HG2:=jd hg2
       have e1:=set_rows (l:=L) (i:=(j'+1)) (by rw [hLn];omega) u
       have e2:=(set_rows (l:=L.set (j'+1) u) (i:=j') (by rw [List.length_set,hLn];omega) x).trans (show rows eC ((L.set (j'+1) u).set j' x)=rows eC (p++U3++x::((u::U2)++S3++q)) from by rw [List.set_comm _ _ (by omega),hsw];simp)
       have E1:=jd e1
       have E2:=jd e2
       have hU3l:Hid (a+U3.length=j'):=jd (by have:=HP.out;simp only [lJ] at hjl;omega)
       have hoku:ok u:=hokU.out u (by rw [hU12.out];simp)
       have hcall:=fun (wz:World) (h:Own w0 wz ((sL g N c L)::ps))=>HC.out wz _ h x u hokx hoku
       have hcl:=cmpI_lt (key x) (key u)
       obtain ⟨cv,hcv⟩:∃ cv,Hid (cmpI (key x) (key u)=cv):=⟨_,rfl⟩
       simp only [hcv.out] at hcall hcl
       have HCALL:=jd hcall
       have hj1':a≤j':=by omega
       have hjaI:(a:Int)<(j':Int)+1:=by omega
       have hjN:(j':Int)+1<(N:Int):=by omega
       have hjT:((j':Int)+1).toNat=j'+1:=by omega
       have hjw:IntKind.i64.wrap (j':Int)=(j':Int):=IntWalk.i64_in _ ⟨by omega,by omega⟩
       have hjN0:(j':Int)<(N:Int):=by omega
       have hj0:(0:Int)≤(j':Int):=by omega
       have hjs:((j':Int)+1-1)=(j':Int):=by omega
       clear hg1 hg2 hsw hLn e1 e2 el1 hjl hL hcall hja hU1 hj1
       go_upto_region 4 with (fail)
       refine Qa (fun w1=>Own w0 w1 ((sL g N c L)::ps)) 16 (by kernel_rfl) (by kernel_rfl) H.drew ?_
       simp only [List.take_succ_cons,List.take_zero,List.drop_succ_cons,List.drop_zero]
       repeat
        first
        | (refine calm_value (v:=?_) (by decide) rfl (fun σ w1 hS=>?_) ?_
           rotate_left
           ·obtain ⟨c1,c1'⟩:=el hS.rd HG1.out;obtain ⟨c2,c2'⟩:=el hS.rd HG2.out
            first | (go_simp;rfl) | rfl
           simp only [Act.put,putC])
        | (refine calm_skip (by decide) rfl ?_
           simp only [Act.put,putC])
       refine calm_call (v:=.int .i64 cv) (by decide) rfl (fun w1=>(by go_simp;first | exact ⟨rfl,rfl⟩ | rfl)) (fun σ w1 hS=>?_) ?_
       ·refine (HCALL.out w1 hS).mono ?_
        rintro e w2 ⟨_,rfl,rfl,h2⟩
        exact ⟨rfl,hS.join h2⟩
       simp only [Act.put,putC]
       repeat
        first
        | (refine calm_value (v:=?_) (by decide) rfl (fun σ w1 hS=>?_) ?_
           rotate_left
           ·skip
            first | (go_simp;rfl) | rfl
           simp only [Act.put,putC])
        | (refine calm_skip (by decide) rfl ?_
           simp only [Act.put,putC])
       refine calm_nil ?_
       intro wd HD
       clear H
       by_cases hxu:key x<key u
       ·have hxu2:decide (key x<key u)=true:=by simp [hxu]
        have hgt2:Hid (∀ v∈u::U2,key x<key v):=jd fun v hv=>by
         rcases List.mem_cons.1 hv with rfl | hv
         ·exact hxu
         ·exact hgt.out v hv
        have hU':Hid (U=U3++(u::U2)):=jd (by rw [hU12.out];simp)
        rw [hxu2]
        clear hxu hxu2 HFIN hcl
        go_upto_region 6 with (fail)
        refine wp_region_pres (fun _ w1=>Own w0 w1 ((sL g N c L)::ps)) 14 [] [2,3,4] (by kernel_rfl) (by kernel_rfl) (by kernel_rfl) (by kernel_rfl) (fun _ _ d _ _ h=>by cases d <;> exact h) ⟨_,_,rfl,fun w=>(by first | rfl | (go_simp;rfl)),_,_,rfl,fun w=>(by first | rfl | (go_simp;rfl)),_,_,rfl,fun w=>(by first | rfl | (go_simp;rfl)),rfl⟩ HD.drew ?_
        simp only [List.take_succ_cons,List.take_zero,List.drop_succ_cons,List.drop_zero]
        repeat
         first
         | (refine calm_value (v:=?_) (by decide) rfl (fun σ w1 hS=>?_) ?_
            rotate_left
            ·obtain ⟨c1,c1'⟩:=el hS.rd HG1.out;obtain ⟨c2,c2'⟩:=el hS.rd HG2.out
             first | (go_simp;rfl) | rfl
            simp only [Act.put,putC])
         | (refine calm_skip (by decide) rfl ?_
            simp only [Act.put,putC])
        refine calm_nil ?_
        intro σ2 wd2 _ H2
        simp only [Jx,List.foldl_nil]
        clear HD
        go_wp2_with (first
         | (refine Jf rfl _ _ rfl (i:=j'+1) (by first | rfl | (rw [Nat.mul_one];rfl)) H2 (eC u) rfl (by kernel_rfl) rfl (by omega) (e_one u) ?_;clear H2;intro w5 H;rw [E1.out] at H)
         | (refine Jf rfl _ _ rfl (i:=j') (by first | rfl | (rw [Nat.mul_one];rfl)) H (eC x) rfl (by kernel_rfl) rfl (by omega) (e_one x) ?_;clear H;intro w6 H;rw [E2.out] at H))
        go_roundw
        case rel=>exact ⟨j',U3,u::U2,hj1',by omega,by go_num,hU',hU3l,hgt2,H⟩
        case measure=>simp [intOf]
       ·have hxu2:decide (key x<key u)=false:=by simp [hxu]
        rw [hxu2]
        have hle:Hid (∀ v∈U3++[u],key v≤key x):=jd fun v hv=>by
         have hs':Srt key ((U3++[u])++U2):=by rw [← hU12.out];exact hU.out
         rcases List.mem_append.1 hv with hv | hv
         ·have:=(hs'.left).across v hv u (by simp);omega
         ·simp at hv;subst hv;omega
        clear hxu hxu2 hcl
        go_wp2
        go_meet
        exact HFIN.out _ hle.out HD
      ·have hja2:j=a:=by omega
       have hU10:U1=[]:=by have:=hU1.out;exact eJ (by omega)
       subst hja2
       clear hja
       go_upto_region 4 with (fail)
       refine Qa (fun w1=>Own w0 w1 ((sL g N c (p++U1++x::(U2++S3++q)))::ps)) 16 (by kernel_rfl) (by kernel_rfl) H.drew ?_
       simp only [List.take_succ_cons,List.take_zero,List.drop_succ_cons,List.drop_zero]
       repeat
        first
        | (refine calm_value (v:=?_) (by decide) rfl (fun σ w1 hS=>?_) ?_
           rotate_left
           ·skip
            first | (go_simp;rfl) | rfl
           simp only [Act.put,putC])
        | (refine calm_skip (by decide) rfl ?_
           simp only [Act.put,putC])
       refine calm_nil ?_
       intro wd HD
       clear H
       go_wp2
       go_meet
       exact HFIN.out _ (by rw [hU10];simp) HD
    case rest=>
     clear H
     obtain ⟨U',hs',he',H⟩:=hcut
     go_wp2
     go_roundw
     case rel=>exact ⟨i+1,S1++[x],S3,U',by omega,by omega,by go_num,jd (by rw [hs.out];simp),jd (by rw [lJ,← Nat.add_assoc,hl.out];rfl),hs',he',H⟩
     case measure=>simp [intOf];omega
   ·have hib2:i=b:=by omega
    subst hib2
    have hS20:S2=[]:=by
     have h1:=HB.out;have h2:=hl.out
     rw [hs.out,lJ] at h1
     exact eJ (by omega)
    have hs1':s=S1:=by rw [hs.out,hS20,List.append_nil]
    rw [hS20,List.append_nil] at H
    have HE:=jd hs1'
    clear hS20 hs1'
    go_wp2
    go_end0
    exact ⟨_,rfl,U,hU.out,by rw [HE.out];exact hSU.out,H⟩):T_insert_any A eC EL SZ F_insertionSortCmpFunc cf Cmps:=h
end Go.Proofs.YthekdeikodppkaaGreatDoor
namespace Go.Proofs.YthekdeikodppkaaGreatDoor
open Go.RowKit
namespace SI
abbrev cf(B:Nat):Value:=.func (.func 329) #[] #[.pointer (some ⟨B,0,none⟩)]
abbrev ca(B:Nat)(x y:Int):Array Value:=#[.int .i64 x,.int .i64 y,.pointer (some ⟨B,0,none⟩)]
abbrev cg:Nat:=329
def Cmps(w0:World)(ps:List Piece)(B:Nat)(ok:Int→Prop)(key:Int→Int):Prop:=
 ∀ (wz:World) (row:Piece),Own w0 wz (row::ps)→∀ x y,ok x→ok y→Calls Tryz.prog cg (ca B x y) wz (Ret fun v w'=>v=.int .i64 (cmpI (key x) (key y))∧Own wz w' [])
open Go.Proofs.Tryz renaming func378 → fuinsertionSortCmpFunc, ntmps378 → ntinsertionSortCmpFunc
open Go.Proofs.YthekdeikodppkaaGreatDoor.SI renaming ie → eC
section
variable {w0 w:World} {ps:List Piece} {ok:Int→Prop} {key:Int→Int} {B:Nat}
set_option maxRecDepth 100000 in
set_option maxHeartbeats 3200000 in
theorem insert_any:T_insert_any Int ie 3 1 378 cf Cmps:=mk_insert_any _ _ _ _ _ _ _
end
end SI
end Go.Proofs.YthekdeikodppkaaGreatDoor
