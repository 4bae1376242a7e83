/-
  Texts of this claim, one behind the other: Functions known of their own accord; mac.Equal of equal texts; flate; flate; solid.Split; disk.Sync, known of its own accord; slices.Repeat of a text, known of its own accord; path.Check; filemap.Check; filemap.Put; solid.Squeeze; archive.Pack; archive.Pack of the one file 'a' that holds 'x', known of its own accord; TopBlocks; All the functions that are known of their own accord, together.
-/
import Derived.Test.YthekdeikodppkaaGreatDoorKb8
import Derived.KernelRfl
import Derived.Maps.RangeWalk
import Derived.Maps.RangeRun
import Derived.Shelf.Strings.Search3
import Derived.Lib.IndexLaws
import Derived.TacticsInMore
import Derived.LoopNIn
import Derived.LoopIn
set_option linter.unusedVariables false
namespace Go.Proofs.YthekdeikodppkaaGreatDoor
open Go.RowKit
noncomputable section
def FF:Funs:=fun f l=>match f,l with
 | 1,[a,b]=>(keyEnc (Qb a) (Qb b)).data.toList
 | 2,[a,b]=>(keyMac (Qb a) (Qb b)).data.toList
 | 3,[a]=>(keyHead (Qb a)).data.toList
 | 4,[k,t]=>(tagF (Qb k) (bn (Qb t))).data.toList
 | 5,[s]=>(leafF (Qb s)).data.toList
 | 6,[t]=>(shaF (bn (Qb t))).data.toList
 | _,_=>[]
theorem aBytes_back(x:ByteArray):Qb x.data.toList=x:=rfl
theorem Zg(l:List UInt8):(Qb l).size=l.length:=by simp [Qb,ByteArray.size]
def nz(t:Txt):Txt:=tcat t []
section
variable {F:Funs} {e:Env} {w0 w:World} {h:AH}
theorem nz_ok{t:Txt}(ht:ok F e t):ok F e (nz t)∧den F e (nz t)=den F e t:=by
 have:=tcat_ok ht (t:=[]) trivial
 refine ⟨this.1,?_⟩
 rw [nz,this.2];simp [den]
theorem op1_vr{f:Nat}{a:Txt}{x:ByteArray}(ha:ok F e a)(hx:F f [den F e a]=x.data.toList)(hs:x.size=32):VR F e (.txt [.op f [nz a] 0 32]) (.string x):=by
 obtain ⟨h1,h2⟩:=nz_ok ha
 have hl:(F f [den F e a]).length=32:=by rw [hx,Array.length_toList];exact hs
 have hd:dens F e [nz a]=[den F e a]:=by simp only [dens,h2]
 refine ⟨⟨⟨by omega,by rw [hd];omega,h1,trivial⟩,trivial⟩,?_⟩
 simp only [den,Ck.den,hd,cutL,List.append_nil,List.drop_zero]
 rw [List.take_of_length_le (by omega),hx,aBytes_back]
theorem op2_vr{f:Nat}{a b:Txt}{x:ByteArray}(ha:ok F e a)(hb:ok F e b)(hx:F f [den F e a,den F e b]=x.data.toList)(hs:x.size=32):VR F e (.txt [.op f [nz a,nz b] 0 32]) (.string x):=by
 obtain ⟨h1,h2⟩:=nz_ok ha
 obtain ⟨h3,h4⟩:=nz_ok hb
 have hl:(F f [den F e a,den F e b]).length=32:=by rw [hx,Array.length_toList];exact hs
 have hd:dens F e [nz a,nz b]=[den F e a,den F e b]:=by simp only [dens,h2,h4]
 refine ⟨⟨⟨by omega,by rw [hd];omega,h1,h3,trivial⟩,trivial⟩,?_⟩
 simp only [den,Ck.den,hd,cutL,List.append_nil,List.drop_zero]
 rw [List.take_of_length_le (by omega),hx,aBytes_back]
theorem prim_txt{f:FuncId}{P:Program}{vs:Array Value}{t:Txt}{x:ByteArray}(H:HR F e w0 w h)(hc:Calls P f vs w (fun en w'=>en=.returned (.string x)∧Own w w' []))(hv:VR F e (.txt t) (.string x)) :
 Calls P f vs w fun en w'=>∃ u,en=.returned u∧∃ e',e.le e'∧VR F e' (.txt t) u∧HR F e' w0 w' h:=
 hc.mono fun _ _ ⟨h1,h2⟩=>⟨_,h1,e,Env.le_refl _,hv,H.mono h2.below⟩
end
def prLeaf:Prims:=onPr 9 fun args h=>match args with
 | [.lit (.int .i64 32),.txt s]=>if Nat.ble (tlen s) 100000 then some (.ok (.txt [.op 5 [nz s] 0 32],h)) else none
 | _=>none
theorem prLeaf_ok:Qc FF Tryz.prog prLeaf:=by
 refine Qc.on fun args h v h' hr e w0 w vs H hv=>?_
 split at hr
 rotate_left
 ·cases hr
 rename_i s
 split at hr
 rotate_left
 ·cases hr
 rename_i hn
 cases hr
 obtain ⟨v1,l1,hl1,g1,v2,l2,hl2,g2,g3⟩:=hv
 obtain rfl:l2=[]:=g3
 subst hl2
 obtain rfl:vs=#[v1,v2]:=by apply Array.ext';exact hl1
 obtain rfl:v1=.int .i64 32:=g1
 obtain ⟨g2a,rfl⟩:=g2
 have hlen:=Zh g2a
 have hn':tlen s≤100000:=by simpa using hn
 exact prim_txt H (mkleaf_any (Qb (den FF e s)) (by rw [Zg];omega) w) (op1_vr g2a rfl (leaf_size _))
def prKeys:Prims:=onPr 18 fun args h=>match args with
 | [.txt a,.txt b]=>if Nat.ble (tlen a) 100000&&Nat.ble (tlen b) 100000 then some (.ok (.agg [.txt [.op 1 [nz a,nz b] 0 32],.txt [.op 2 [nz a,nz b] 0 32],.txt [.op 3 [nz a] 0 32]],h)) else none
 | _=>none
theorem prKeys_ok:Qc FF Tryz.prog prKeys:=by
 refine Qc.on fun args h v h' hr e w0 w vs H hv=>?_
 split at hr
 rotate_left
 ·cases hr
 rename_i a b
 split at hr
 rotate_left
 ·cases hr
 rename_i hn
 cases hr
 obtain ⟨v1,l1,hl1,g1,v2,l2,hl2,g2,g3⟩:=hv
 obtain rfl:l2=[]:=g3
 subst hl2
 obtain rfl:vs=#[v1,v2]:=by apply Array.ext';exact hl1
 obtain ⟨g1a,rfl⟩:=g1
 obtain ⟨g2a,rfl⟩:=g2
 have hl1:=Zh g1a
 have hl2:=Zh g2a
 simp only [Bool.and_eq_true,Nat.ble_eq] at hn
 refine (kdkeys_any (Qb (den FF e a)) (Qb (den FF e b)) (by rw [Zg];omega) (by rw [Zg];omega) w).mono ?_
 rintro en w' ⟨rfl,h2⟩
 refine ⟨_,rfl,e,Env.le_refl _,⟨_,rfl,?_⟩,H.mono h2.below⟩
 exact ⟨_,_,rfl,op2_vr g1a g2a rfl (keyEnc_size _ _),_,_,rfl,op2_vr g1a g2a rfl (keyMac_size _ _),_,_,rfl,op1_vr g1a rfl (keyHead_size _),rfl⟩
def txtsA:List AV→Option (List Txt)
 | []=>some []
 | .txt t::r=>(txtsA r).map (t :: ·)
 | _=>none
def argTxts(x:AV)(h:AH):Option (List Txt):=
 match x with
 | .lit (.slice none 0 0)=>some []
 | .slc b o n _ 1=>match h.bs[b]? with
  | some (.cells cs)=>if Nat.ble (o+n) cs.length then txtsA ((cs.drop o).take n) else none
  | _=>none
 | _=>none
def catA(l:List Txt):Txt:=l.foldr tcat []
section
variable {F:Funs} {e:Env} {w0 w:World} {h:AH}
theorem txtsA_vrs:∀ {cs:List AV} {l:List Txt} {vs:List Value},txtsA cs=some l→VRs F e cs vs→vs=txs (l.map fun t=>Qb (den F e t))∧∀ t∈l,ok F e t
 | [],l,vs,hl,hv=>by
  cases hl
  obtain rfl:vs=[]:=hv
  exact ⟨rfl,by simp⟩
 | a::cs,l,vs,hl,hv=>by
  obtain ⟨v,vs',rfl,g1,g2⟩:=hv
  cases a <;> simp only [txtsA] at hl <;> try (cases hl)
  rename_i t
  rw [Option.map_eq_some_iff] at hl
  obtain ⟨l',h1,rfl⟩:=hl
  obtain ⟨rfl,h3⟩:=txtsA_vrs h1 g2
  obtain ⟨g1a,rfl⟩:=g1
  refine ⟨rfl,?_⟩
  intro x hx
  rcases List.mem_cons.1 hx with rfl | hx
  ·exact g1a
  ·exact h3 x hx
theorem argTxts_rd(H:HR F e w0 w h){x:AV}{v:Value}{l:List Txt}(hl:argTxts x h=some l)(hv:VR F e x v):(∃ n,Rd w 1 v n (txs (l.map fun t=>Qb (den F e t))))∧∀ t∈l,ok F e t:=by
 unfold argTxts at hl
 split at hl
 ·cases hl
  obtain rfl:v=.slice none 0 0:=hv
  exact ⟨⟨0,Rd.nil w 1⟩,by simp⟩
 ·rename_i b o n c
  split at hl
  rotate_left
  ·cases hl
  rename_i cs hb
  split at hl
  rotate_left
  ·cases hl
  rename_i hon
  have hon':o+n≤cs.length:=by simpa using hon
  obtain ⟨B,k,m,c',o',hx,rfl,ho,h1,h2,h3,h4⟩:=hv
  obtain ⟨cur,ty,fz,vs,g1,g2,g3,g4,g5,g6,g7⟩:=H.at' hb hx
  have hvs:=VRs.take _ _ n (VRs.drop _ _ o g6)
  obtain ⟨he,hok⟩:=txtsA_vrs hl hvs
  refine ⟨⟨n,?_⟩,hok⟩
  rw [← he]
  have hlv:=VRs.length _ _ g6
  refine ⟨by rw [List.length_take,List.length_drop,hlv];omega,some ⟨B,o',none⟩,c',rfl,by omega,h4,by simp,?_⟩
  intro ad had j u hu
  obtain rfl:=Option.some.inj had
  rw [List.getElem?_take] at hu
  split at hu
  rotate_left
  ·cases hu
  rename_i hjn
  rw [List.getElem?_drop,← g7,List.getElem?_take] at hu
  split at hu
  rotate_left
  ·cases hu
  rw [List.getElem?_drop] at hu
  have ho2:o'=k+o:=by
   rcases ho with ho | ho
   ·exact ho
   ·omega
  rw [Addr.add_lit,ho2]
  simp only [World.cell?,g3]
  rw [← Array.getElem?_toList,← hu,show k+o+j=k+(o+j) by omega]
  rfl
 ·cases hl
theorem catA_ok:∀ {l:List Txt},(∀ t∈l,ok F e t)→ok F e (catA l)∧bn (Qb (den F e (catA l)))=bns (l.map fun t=>Qb (den F e t))
 | [],_=>⟨trivial,rfl⟩
 | t::l,h=>by
  obtain ⟨h1,h2⟩:=catA_ok fun x hx=>h x (List.mem_cons_of_mem _ hx)
  have h3:=tcat_ok (h t (by simp)) h1
  refine ⟨h3.1,?_⟩
  rw [show catA (t::l)=tcat t (catA l) from rfl,h3.2,List.map_cons,show bns (Qb (den F e t)::l.map fun t=>Qb (den F e t))=bn (Qb (den F e t))++bns (l.map fun t=>Qb (den F e t)) by simp [bns],← h2]
  simp [bn,Qb]
end
def prSum:Prims:=onPr 63 fun args h=>match args with
 | [x]=>match argTxts x h with
  | some l=>if Nat.ble (tlen (catA l)) 100000 then some (.ok (.txt [.op 6 [nz (catA l)] 0 32],h)) else none
  | none=>none
 | _=>none
theorem prSum_ok:Qc FF Tryz.prog prSum:=by
 refine Qc.on fun args h v h' hr e w0 w vs H hv=>?_
 split at hr
 rotate_left
 ·cases hr
 rename_i x
 split at hr
 rotate_left
 ·cases hr
 rename_i l hl
 split at hr
 rotate_left
 ·cases hr
 rename_i hn
 cases hr
 obtain ⟨v1,l1,hl1,g1,g3⟩:=hv
 obtain rfl:l1=[]:=g3
 obtain rfl:vs=#[v1]:=by apply Array.ext';exact hl1
 obtain ⟨⟨n,hrd⟩,hok⟩:=argTxts_rd H hl g1
 obtain ⟨h1,h2⟩:=catA_ok hok
 have hlen:=Zh h1
 have hn':tlen (catA l)≤100000:=by simpa using hn
 have hb:(bns (l.map fun t=>Qb (den FF e t))).length≤100000:=by rw [← h2,Qu,Zg];omega
 have hS:=shsums_any hrd (by omega)
 rw [← h2] at hS
 exact prim_txt H hS (op1_vr h1 rfl (shaF_size _))
def prTag:Prims:=onPr 48 fun args h=>match args with
 | [.txt k,x]=>match argTxts x h with
  | some l=>if Nat.ble (tlen (catA l)) 100000&&Nat.ble (tlen k) 100000 then some (.ok (.txt [.op 4 [nz k,nz (catA l)] 0 32],h)) else none
  | none=>none
 | _=>none
theorem prTag_ok:Qc FF Tryz.prog prTag:=by
 refine Qc.on fun args h v h' hr e w0 w vs H hv=>?_
 split at hr
 rotate_left
 ·cases hr
 rename_i k x
 split at hr
 rotate_left
 ·cases hr
 rename_i l hl
 split at hr
 rotate_left
 ·cases hr
 rename_i hn
 cases hr
 obtain ⟨v1,l1,hl1,g1,v2,l2,hl2,g2,g3⟩:=hv
 obtain rfl:l2=[]:=g3
 subst hl2
 obtain rfl:vs=#[v1,v2]:=by apply Array.ext';exact hl1
 obtain ⟨g1a,rfl⟩:=g1
 obtain ⟨⟨n,hrd⟩,hok⟩:=argTxts_rd H hl g2
 obtain ⟨h1,h2⟩:=catA_ok hok
 have hlen:=Zh h1
 have hlen2:=Zh g1a
 simp only [Bool.and_eq_true,Nat.ble_eq] at hn
 have hb:(bns (l.map fun t=>Qb (den FF e t))).length≤100000:=by rw [← h2,Qu,Zg];omega
 have hS:=mctag_any (key:=Qb (den FF e k)) (by rw [Zg];omega) hrd (by omega)
 rw [← h2] at hS
 exact prim_txt H hS (op2_vr g1a h1 rfl (tag_size _ _))
end
theorem xor_same(k:IntKind)(x:Int):bits BinOp.xor k x x=0:=by
 have h:bits BinOp.xor k x x=k.wrap 0:=by simp [bits]
 rw [h]
 cases k <;> decide
theorem or_zero:bits BinOp.or .i64 0 0=0:=by decide
set_option maxRecDepth 100000 in
theorem mcat_any(s:ByteArray)(i:Nat)(hi:i<s.size)(w:World) :
 Calls Tryz.prog 337 #[.string s,.int .i64 i] w (fun e w'=>e=.returned (.int .u8 ((bn s).getD i 0))∧w'=w):=by
 have hat:=@str_at s i hi
 obtain ⟨x,hx⟩:∃ c,Hid ((bn s).getD i 0=c):=⟨_,rfl⟩
 rw [hx.out] at hat ⊢
 obtain ⟨Z,hZ⟩:∃ Z,s.size=Z:=⟨_,rfl⟩
 rw [hZ] at hi
 have hI:(i:Int)<(Z:Int):=by omega
 go_enter Tryz.func337,Tryz.ntmps337
 go_wp2
 go_ret
 exact ⟨rfl,rfl⟩
set_option maxRecDepth 100000 in
set_option maxHeartbeats 3200000 in
theorem mcequal_any(s:ByteArray)(hs:s.size≤1000000)(w:World) :
 Calls Tryz.prog 288 #[.string s,.string s] w (fun e w'=>e=.returned (.tuple #[.bool true,.int .i64 s.size])∧Own w w' []):=by
 have H:=Own.start w
 have HA:=jd (fun i hi w=>mcat_any s i hi w)
 have hx1:=xor_same .i64 (s.size:Int)
 have hx2:=jd (xor_same .u8)
 have ho:=or_zero
 obtain ⟨Z,hZ⟩:∃ Z,s.size=Z:=⟨_,rfl⟩
 rw [hZ] at hs hx1 HA ⊢
 go_enter Tryz.func288,Tryz.ntmps288
 go_upto_block 0 with (fail)
 go_wp2_with fail
 go_loopw [7,20] (fun v7 v20 wx=>∃ i:Nat,v7=.int .i64 0∧v20=.int .i64 i∧i≤Z∧Own w wx []) (fun _ v20 _=>Z-(intOf v20).toNat)
 case atStart=>exact ⟨0,by go_num,by go_num,by omega,H⟩
 case round=>
  clear H
  obtain ⟨i,rfl,rfl,hi,H⟩:=hrel
  by_cases hiZ:i<Z
  ·have hI:(i:Int)<(Z:Int):=by omega
   have h1:=jd (HA.out i hiZ)
   obtain ⟨x,hx⟩:∃ c,Hid ((bn s).getD i 0=c):=⟨_,rfl⟩
   rw [hx.out] at h1
   have hx3:=hx2.out x
   go_wp2_with fail
   refine (h1.out _).mono ?_
   rintro e w2 ⟨rfl,hw⟩
   obtain rfl:wr=w2:=hw.symm
   go_wp2_with fail
   refine (h1.out _).mono ?_
   rintro e w2 ⟨rfl,hw⟩
   obtain rfl:wr=w2:=hw.symm
   go_wp2_with fail
   go_roundw
   case rel=>exact ⟨i+1,by go_num,by go_num,by omega,H⟩
   case measure=>simp [intOf];omega
  ·obtain rfl:i=Z:=by omega
   have hI:¬ (i:Int)<(i:Int):=by omega
   go_wp2
   go_ret2
   exact ⟨rfl,H⟩
noncomputable section
def prEqual:Prims:=onPr 288 fun args h=>match args with
 | [.txt a,.txt b]=>match teq a b with
  | some true=>fNat (tlen a) fun n=>if Nat.ble n 100000 then some (.ok (.tup [.lit (.bool true),.lit (.int .i64 (.ofNat n))],h)) else none
  | _=>none
 | _=>none
theorem prEqual_ok:Qc FF Tryz.prog prEqual:=by
 refine Qc.on fun args h v h' hr e w0 w vs H hv=>?_
 split at hr
 rotate_left
 ·cases hr
 rename_i a b
 split at hr
 rotate_left
 ·cases hr
 rename_i ht
 rw [fNat_eq] at hr
 split at hr
 rotate_left
 ·cases hr
 rename_i hn
 cases hr
 obtain ⟨v1,l1,hl1,g1,v2,l2,hl2,g2,g3⟩:=hv
 obtain rfl:l2=[]:=g3
 subst hl2
 obtain rfl:vs=#[v1,v2]:=by apply Array.ext';exact hl1
 obtain ⟨g1a,rfl⟩:=g1
 obtain ⟨g2a,rfl⟩:=g2
 have hd:=(teq_den g1a g2a ht).1 rfl
 rw [← hd]
 have hl:=Zh g1a
 have hn':tlen a≤100000:=by simpa using hn
 refine (mcequal_any (Qb (den FF e a)) (by rw [Zg];omega) w).mono ?_
 rintro en w' ⟨rfl,h2⟩
 refine ⟨_,rfl,e,Env.le_refl _,⟨_,rfl,?_⟩,H.mono h2.below⟩
 rw [Zg,hl]
 exact ⟨_,_,rfl,rfl,_,_,rfl,rfl,rfl⟩
end
set_option maxRecDepth 100000 in
set_option maxHeartbeats 25600000 in
theorem rich_any{w0 w:World}{ps:List Piece}{g:Nat}{bs:List Bool}{tv:Value}{l:List Tok}(last:Bool)(ht:Reads w0 ps 3 tv l.length (rows tcell l))(hs:∀ t∈l,TokOk t)(hln:l.length≤1000000)(H:Own w0 w (Wtr g bs::ps))(hl:bs.length+48*l.length≤35184372000000) :
 Calls Tryz.prog 192 #[.pointer (some ⟨g,0,none⟩),tv,.bool last] w (Ret fun _ w'=>Own w0 w' (Wtr g (bs++blockB l 2 last)::ps)):=by
 obtain ⟨ta,tc,rfl,ht1,ht2⟩:=(ht w H.drop).shape
 obtain ⟨L,hL⟩:∃ L,Hid (richL l=L):=⟨_,jd rfl⟩
 obtain ⟨D,hD⟩:∃ D,Hid (richD l=D):=⟨_,jd rfl⟩
 obtain ⟨RS,hRS⟩:∃ RS,Hid (richR l=RS):=⟨_,jd rfl⟩
 obtain ⟨RL,hRL⟩:∃ RL,Hid (runL RS=RL):=⟨_,jd rfl⟩
 obtain ⟨SO,hSO⟩:∃ SO,Hid (sortedF RL=SO):=⟨_,jd rfl⟩
 have mL:=richL_made hs hln
 have mD:=richD_made hs hln
 have okR:=richR_ok hs hln
 have lenR:=richR_len hs hln
 have oks:∀ t∈l,SymOk (richL l) (richD l) t:=fun t h=>rich_sym hs hln h
 have oL:=lit_ok hs hln
 have oD:=dist_ok hs hln
 have hB:Hid (bs++blockB l 2 last=bs++headB last 2++(sizesB L.length D.length SO.length++(lensB SO++(runsB RL RS++bodyB L D l)))):=jd (by
  unfold blockB richB
  rw [if_neg (by omega),hRS.out,hRL.out,hSO.out,hL.out,hD.out,List.append_assoc])
 rw [hB.out]
 rw [hRS.out] at okR lenR
 have mR:=runL_made okR (by omega)
 have m7:=sorted_7 okR (by omega)
 have mS:=sorted_len RL
 have oR:=run_ok okR (by omega)
 rw [hL.out] at mL oks
 rw [hD.out] at mD oks
 rw [hRL.out] at mR m7
 rw [hSO.out] at m7 mS
 obtain ⟨N,hN⟩:∃ N,Hid (l.length=N):=⟨_,jd rfl⟩
 have HS:=jd hs
 have HT:=jd ht
 have ML:=jd mL
 have MD:=jd mD
 have MR:=jd mR
 have M7:=jd m7
 have OKR:=jd okR
 have OKS:=jd oks
 have OL:=jd oL
 have OD:=jd oD
 have OR:=jd oR
 obtain ⟨hS1,hS2⟩:=mS
 have k0:=fun w1 h=>counted2_any (ht w1 h) hs hln
 rw [hN.out] at HT ht1 hl hln k0 ⊢
 have K0:=jd k0
 clear hs ht mL mD okR oks oL oD mR m7 oR k0
 go_enter Tryz.func192,Tryz.ntmps192
 go_wp2_with fail
 refine (K0.out _ H.drop).mono ?_
 rintro e w1 ⟨_,rfl,v1,u1,rfl,J⟩
 replace H:=H.join J
 clear J
 obtain ⟨a1,c1,rfl,-⟩:=H.rd.shape
 obtain ⟨a2,c2,rfl,-⟩:=(H.front 1 rfl).rd.shape
 have kl:=lengths_any (L:=15) H.rd (by omega)
 have hel:errF (litFq l) 15=0:=errF_ok (by omega) (by rw [litFq_len];omega) OL.out.freq (by rw [litFq_len];decide)
 have hed:errF (distFq l) 15=0:=errF_ok (by omega) (by rw [Zu];omega) OD.out.freq (by rw [Zu];decide)
 rw [hel] at kl
 have KL:=jd kl
 clear kl hel
 go_wp2_with fail
 refine KL.out.mono ?_
 rintro e w2 ⟨_,rfl,v3,rfl,J⟩
 replace H:=H.join J
 clear J KL
 have kd:=lengths_any (L:=15) (H.front 2 rfl).rd (by omega)
 rw [hed] at kd
 have KD:=jd kd
 clear kd hed
 rw [OL.out.len,litFq_len] at H
 obtain ⟨g3,c3,rfl,-⟩:=H.at (by rw [Qg,OL.out.len,litFq_len];omega)
 go_wp2_with fail
 refine KD.out.mono ?_
 rintro e w3 ⟨_,rfl,v4,rfl,J⟩
 replace H:=H.join J
 clear J KD
 rw [OD.out.len,Zu] at H
 obtain ⟨g4,c4,rfl,-⟩:=H.at (by rw [Qg,OD.out.len,Zu];omega)
 have H:Own w0 w3 (slc 3 1 (.slice (some ⟨g3,0,none⟩) 286 c3) 286 (nums (resF (litFq l) 15))::slc 3 1 (.slice (some ⟨g4,0,none⟩) 30 c4) 30 (nums (resF (distFq l) 15))::Wtr g bs::ps):=((((H.front 1 rfl).front 3 rfl).front 3 rfl).drop.drop)
 have kt:=fun w1 (h:Own w0 w1 (slc 3 1 (.slice (some ⟨g3,0,none⟩) 286 c3) 286 (nums (resF (litFq l) 15))::slc 3 1 (.slice (some ⟨g4,0,none⟩) 30 c4) 30 (nums (resF (distFq l) 15))::Wtr g bs::ps))=>trim_own 257 h (by rw [OL.out.len,litFq_len]) (by omega) (by omega)
 have kt2:=fun w1 (qs:List Piece) (h:Own w0 w1 (slc 3 1 (.slice (some ⟨g4,0,none⟩) 30 c4) 30 (nums (resF (distFq l) 15))::qs))=>trim_own 1 h (by rw [OD.out.len,Zu]) (by omega) (by omega)
 rw [show trimF (resF (litFq l) 15) 257=L from hL.out] at kt
 have hD2:trimF (resF (distFq l) 15) 1=D:=hD.out
 simp only [hD2] at kt2
 have KT:=jd kt
 have KT2:=jd kt2
 clear kt kt2 hD2
 go_wp2_with fail
 refine (KT.out _ H).mono ?_
 rintro e w4 ⟨_,rfl,rfl,H4⟩
 clear H
 go_wp2_with fail
 refine (KT2.out _ _ H4.swap).mono ?_
 rintro e w5 ⟨_,rfl,rfl,H⟩
 clear H4 KT KT2
 obtain ⟨nL,hnL⟩:∃ n,Hid (L.length=n):=⟨_,jd rfl⟩
 obtain ⟨nD,hnD⟩:∃ n,Hid (D.length=n):=⟨_,jd rfl⟩
 have hnL1:=ML.out.lo
 have hnL2:=ML.out.hi
 have hnD1:=MD.out.lo
 have hnD2:=MD.out.hi
 rw [hnL.out] at H hnL1 hnL2 ⊢
 rw [hnD.out] at H hnD1 hnD2 ⊢
 go_wp2_with fail
 have H5:=H.alloc (.cells #[.slice (some ⟨g3,0,none⟩) nL c3,.slice (some ⟨g4,0,none⟩) nD c4] 34)
 have hrow:Rd (w5.alloc (.cells #[.slice (some ⟨g3,0,none⟩) nL c3,.slice (some ⟨g4,0,none⟩) nD c4] 34)) 1 (.slice (some ⟨w5.heap.size,0,none⟩) 2 2) 2 [.slice (some ⟨g3,0,none⟩) nL c3,.slice (some ⟨g4,0,none⟩) nD c4]:=by
  refine ⟨rfl,_,_,rfl,Nat.le_refl _,by decide,by simp,fun ad had j u hu=>?_⟩
  obtain rfl:=Option.some.inj had
  rw [Addr.add_lit,Nat.zero_add,H5.cell]
  simpa using hu
 have hcc:=concat_any [L,D] [.slice (some ⟨g3,0,none⟩) nL c3,.slice (some ⟨g4,0,none⟩) nD c4] hrow rfl rfl (by omega) (fun k u X hu hX=>by
  match k with
  | 0=>cases hu;cases hX;rw [hnL.out];exact (H5.front 2 rfl).rd
  | 1=>cases hu;cases hX;rw [hnD.out];exact (H5.front 1 rfl).rd
  | k+2=>cases hu) (by simp [hnL.out,hnD.out];omega)
 have hfl:[L,D].flatten=L++D:=by simp
 have hfll:(L++D).length=nL+nD:=by rw [lJ,hnL.out,hnD.out]
 rw [hfl,hfll] at hcc
 have HCC:=jd hcc
 have H6:Own w0 (w5.alloc (.cells #[.slice (some ⟨g3,0,none⟩) nL c3,.slice (some ⟨g4,0,none⟩) nD c4] 34)) (slc 3 1 (.slice (some ⟨g3,0,none⟩) nL c3) nL (nums L)::slc 3 1 (.slice (some ⟨g4,0,none⟩) nD c4) nD (nums D)::Wtr g bs::ps):=(H5.drop).swap
 clear hcc hrow H5 H hfl hfll
 generalize w5.alloc _=w6 at *
 generalize w5.heap.size=gr at *
 refine HCC.out.mono ?_
 rintro e w7 ⟨v7,rfl,J⟩
 have H:=H6.join J
 clear J HCC H6
 have hrn:=runs_any H.rd (by omega)
 rw [show runsF (L++D)=RS by rw [← hRS.out,← hL.out,← hD.out];rfl] at hrn
 have HRN:=jd hrn
 clear hrn
 obtain ⟨a7,c7,rfl,-⟩:=H.rd.shape
 obtain ⟨nR,hnR⟩:∃ n,Hid (RS.length=n):=⟨_,jd rfl⟩
 rw [hnR.out] at HRN lenR
 go_wp2_with fail
 refine HRN.out.mono ?_
 rintro e w8 ⟨v8,rfl,J⟩
 have H8:=H.join J
 clear J HRN H
 obtain ⟨a8,c8,rfl,-⟩:=H8.rd.shape
 have H:Own w0 w8 (slc 390 3 (.slice a8 nR c8) nR (rows rcell RS)::slc 3 1 (.slice (some ⟨g3,0,none⟩) nL c3) nL (nums L)::slc 3 1 (.slice (some ⟨g4,0,none⟩) nD c4) nD (nums D)::Wtr g bs::ps):=((H8.front 1 rfl).drop)
 clear H8
 have hmk:∀ w:World,(Instr.makeSlice 34 (.int .i64 19) (.int .i64 19)).run Tryz.prog w=.ok (.slice (some ⟨w.heap.size,0,none⟩) 19 19) (w.alloc (.cells (madeCells #[.int .i64 0] 19) 3)):=run_make_row' _ _ _ 8 Tryz.underlying34 intInfo rfl .i64 .i64 19 (by omega) (by omega)
 go_upto_region 6 with (fail)
 have h9:=(H.alloc (.cells (madeCells #[.int .i64 0] 19) 3)).slc_mk (xs:=nums (runFq (RS.take 0))) (n:=19) (size:=1) (by rw [Qg,runFq_len]) (Nat.le_refl _) (by simp [maxLen]) (by simp [size_madeCells]) (by rw [toList_madeCells_one];rfl)
 clear H hmk
 generalize w8.alloc _=w9 at *
 generalize w8.heap.size=gf at *
 have H:=h9
 clear h9
 go_wp2_with fail
 go_loopw [53] (fun s53 wx=>∃ k:Nat,s53=.int .i64 k∧k≤nR∧Own w0 wx (slc 3 1 (.slice (some ⟨gf,0,none⟩) 19 19) 19 (nums (runFq (RS.take k)))::slc 390 3 (.slice a8 nR c8) nR (rows rcell RS)::slc 3 1 (.slice (some ⟨g3,0,none⟩) nL c3) nL (nums L)::slc 3 1 (.slice (some ⟨g4,0,none⟩) nD c4) nD (nums D)::Wtr g bs::ps)) (fun s53 _=>nR-(intOf s53).toNat)
 case atStart=>exact ⟨0,by go_num,by omega,H⟩
 case round=>
  clear H
  obtain ⟨k,rfl,hk,H⟩:=hrel
  by_cases hlt:k<nR
  ·have hI:(k:Int)<(nR:Int):=by omega
   obtain ⟨t,htk⟩:=Ql (l:=RS) (k:=k) (by rw [hnR.out];exact hlt)
   have hok:=OKR.out t (List.mem_of_getElem? htk)
   have hls:=made_freq RS k t htk
   obtain ⟨b,o,_,he2,-⟩:=(H.front 1 rfl).rd.some (by rw [Qp rcell rcell_length,hnR.out];omega)
   cases he2
   obtain ⟨c0,cc1,cc2⟩:=run_cells (H.front 1 rfl).rd htk
   have hkl:Hid (∀ j,0≤(runFq (RS.take k)).getD j 0∧(runFq (RS.take k)).getD j 0≤100000):=jd (fun j=>by
    rw [runFq_get (fun r h=>OKR.out r (List.mem_of_mem_take h))]
    have:=List.countP_le_length (p:=fun x:Int=>decide (x=(j:Int))) (l:=(RS.take k).map Run.sym)
    rw [List.length_map,List.length_take] at this
    omega)
   have hfl:=runFq_len (RS.take k)
   obtain ⟨hsy,-,-⟩:=hok
   obtain ⟨x,y,z⟩:=t
   simp only at c0 cc1 cc2 hsy hls
   obtain ⟨s,rfl⟩:∃ s:Nat,x=s:=⟨x.toNat,by omega⟩
   have hst:=nums_bump (runFq (RS.take k)) s
   rw [← hls] at hst
   have cf:=H.getc (Jj (Za (F:=runFq (RS.take k)) (i:=s) (by omega)))
   have hb:=hkl.out s
   obtain ⟨v,hv⟩:∃ v,(runFq (RS.take k)).getD s 0=v:=⟨_,rfl⟩
   rw [hv] at hb cf hst
   have hw:IntKind.i64.wrap (v+1)=v+1:=IntWalk.i64_in _ ⟨by omega,by omega⟩
   have hsI:(s:Int)<19:=by omega
   have HST:=jd hst
   have hs19:s<19:=by omega
   have CF:=jd (show (nums (runFq (RS.take k)))[s]?=some (.int .i64 v) by rw [← hv];exact Jj (Za (by omega)))
   clear htk hls hkl hfl hv hst cf
   go_upto_region 9 with (refine Qe (vs:=[.int .i64 s,.int .i64 y,.int .i64 z]) rfl _ _ rfl rfl (H.alloc _) rfl (by kernel_rfl) (by simp) (by simp;exact ⟨rfl,rfl,rfl⟩) rfl ?_;clear c0 cc1 cc2;intro w10 H10)
   clear H
   generalize wr.heap.size=tb at *
   have c0:=H10.cells
   have cf:=(H10.front 1 rfl).getc CF.out
   go_wp2_with (refine Ja rfl _ _ rfl rfl (H10.front 1 rfl) (.int .i64 (v+1)) rfl (by kernel_rfl) hs19 rfl ?_;clear H10 c0 cf;intro w11 H;rw [HST.out] at H)
   go_roundw
   case rel=>exact ⟨k+1,by go_num,by omega,H.swap.drop⟩
   case measure=>simp [intOf];omega
  ·obtain rfl:k=nR:=by omega
   have hI:¬ (k:Int)<(k:Int):=by omega
   have htk:RS.take k=RS:=List.take_of_length_le (by rw [hnR.out];exact Nat.le_refl _)
   rw [htk] at H
   have kl:=lengths_any (L:=7) H.rd (by omega)
   have hel:errF (runFq RS) 7=0:=errF_ok (by omega) (by rw [runFq_len];omega) OR.out.freq (by rw [runFq_len];decide)
   have hrl:resF (runFq RS) 7=RL:=hRL.out
   have hrll:RL.length=19:=by have:=MR.out.lo;have:=MR.out.hi;omega
   rw [hel,hrl,hrll] at kl
   have KL:=jd kl
   have HRLL:=jd hrll
   clear kl hel hrl htk hrll
   go_wp2_with fail
   refine KL.out.mono ?_
   rintro e w12 ⟨_,rfl,v5,rfl,J⟩
   replace H:=H.join J
   clear J KL
   obtain ⟨g5,c5,rfl,-⟩:=H.at (by rw [Qg,HRLL.out];omega)
   have H:Own w0 w12 (slc 3 1 (.slice (some ⟨g5,0,none⟩) 19 c5) 19 (nums RL)::slc 390 3 (.slice a8 k c8) k (rows rcell RS)::slc 3 1 (.slice (some ⟨g3,0,none⟩) nL c3) nL (nums L)::slc 3 1 (.slice (some ⟨g4,0,none⟩) nD c4) nD (nums D)::Wtr g bs::ps):=((H.front 1 rfl).drop)
   go_wp2_with fail
   refine (order_any _).mono ?_
   rintro e w13 ⟨_,rfl,rfl,J⟩
   have H:Own w0 w13 (slc 3 1 (.slice (some ⟨g5,0,none⟩) 19 c5) 19 (nums RL)::slc 390 3 (.slice a8 k c8) k (rows rcell RS)::slc 3 1 (.slice (some ⟨g3,0,none⟩) nL c3) nL (nums L)::slc 3 1 (.slice (some ⟨g4,0,none⟩) nD c4) nD (nums D)::Wtr g bs::ps):=H.join J
   clear J
   have hord:Hid (∀ j,j<19→(nums (ordF.map Int.ofNat)).toArray[j]?=some (.int .i64 ((ordF.getD j 0:Nat):Int))∧ordF.getD j 0<19):=jd (fun j hj=>by
    have:=(show ∀ j:Fin 19,ordF.getD j.1 0<19∧(ordF.map Int.ofNat)[j.1]?=some ((ordF.getD j.1 0:Nat):Int) by decide) ⟨j,hj⟩
    refine ⟨?_,this.1⟩
    rw [List.getElem?_toArray]
    exact Jj this.2)
   have hordl:Hid ((nums (ordF.map Int.ofNat)).toArray.size=19):=jd rfl
   generalize (nums (ordF.map Int.ofNat)).toArray=OA at *
   replace H:=H.nil 3 1
   go_wp2_with fail
   obtain ⟨MO,hMO0⟩:∃ MO,Hid ((ordF.map fun s=>RL.getD s 0)=MO):=⟨_,jd rfl⟩
   have hMO:Hid (MO.length=19):=jd (by rw [← hMO0.out,List.length_map];rfl)
   have hMg:Hid (∀ j,j<19→MO.getD j 0=RL.getD (ordF.getD j 0) 0):=jd (fun j hj=>by
    rw [← hMO0.out,List.getD_eq_getElem?_getD,List.getElem?_map,List.getD_eq_getElem?_getD (l:=ordF)]
    rw [List.getElem?_eq_getElem (show j<ordF.length from hj)]
    rfl)
   have hSO2:Hid (trimF MO 4=SO):=jd (by rw [← hMO0.out];exact hSO.out)
   go_loopw [18,71] (fun s18 s71 wx=>∃ i:Nat,s71=.int .i64 i∧i≤19∧Own w0 wx (slc 3 1 s18 i (nums (MO.take i))::slc 3 1 (.slice (some ⟨g5,0,none⟩) 19 c5) 19 (nums RL)::slc 390 3 (.slice a8 k c8) k (rows rcell RS)::slc 3 1 (.slice (some ⟨g3,0,none⟩) nL c3) nL (nums L)::slc 3 1 (.slice (some ⟨g4,0,none⟩) nD c4) nD (nums D)::Wtr g bs::ps)) (fun _ s71 _=>19-(intOf s71).toNat)
   case atStart=>exact ⟨0,by go_num,by omega,H⟩
   case round=>
    clear H
    obtain ⟨i,rfl,hi,H⟩:=hrel
    obtain ⟨a9,c9,rfl,-⟩:=H.rd.shape
    by_cases hi19:i<19
    ·have hiI:(i:Int)<19:=by omega
     obtain ⟨ho1,ho2⟩:=hord.out i hi19
     have hmg:=hMg.out i hi19
     have hsn:Hid (nums (MO.take i)++[.int .i64 (MO.getD i 0)]=nums (MO.take (i+1))):=jd (by
      rw [List.take_add_one,Za (by rw [hMO.out];exact hi19)];simp [nums])
     have cr:=(H.front 1 rfl).getc (Jj (Za (F:=RL) (i:=ordF.getD i 0) (by rw [HRLL.out];exact ho2)))
     rw [← hmg] at cr
     have hix:∀ w,(Instr.index 391 (.agg OA) (.int .i64 i)).run Tryz.prog w=.ok (.int .i64 ((ordF.getD i 0:Nat):Int)) w:=fun w=>run_index_arr _ _ 19 OA i _ w Tryz.underlying391 (fun w=>(int_one w).1) (fun w=>(int_one w).2) hi19 ho1
     have ho2I:((ordF.getD i 0:Nat):Int)<19:=by omega
     obtain ⟨oj,hoj⟩:∃ oj,ordF.getD i 0=oj:=⟨_,rfl⟩
     obtain ⟨mv,hmv⟩:∃ mv,MO.getD i 0=mv:=⟨_,rfl⟩
     rw [hoj] at ho1 ho2 ho2I cr hix
     rw [hmv] at hsn cr
     clear hoj hmv
     clear hmg
     go_wp2_with (at_builtin;refine Qf rfl _ _ rfl Tryz.underlying34 intInfo rfl (by decide) rfl H (news:=[.int .i64 mv]) rfl rfl rfl (by simp [Value.oneCell']) (by omega) (by omega) ?_;clear H cr;intro v' w' H;rw [hsn.out] at H;obtain ⟨a10,c10,rfl,-⟩:=H.rd.shape)
     go_roundw
     case rel=>exact ⟨i+1,by go_num,by omega,H⟩
     case measure=>simp [intOf];omega
    ·obtain rfl:i=19:=by omega
     have hiI:¬ (((19:Nat):Int)<19):=by omega
     rw [List.take_of_length_le (by rw [hMO.out];exact Nat.le_refl _)] at H
     obtain ⟨g6,c6,he6,-⟩:=H.at (by rw [Qg,hMO.out];omega)
     cases he6
     have kt:=fun w1 (h:Own w0 w1 (slc 3 1 (.slice (some ⟨g6,0,none⟩) 19 c9) 19 (nums MO)::slc 3 1 (.slice (some ⟨g5,0,none⟩) 19 c5) 19 (nums RL)::slc 390 3 (.slice a8 k c8) k (rows rcell RS)::slc 3 1 (.slice (some ⟨g3,0,none⟩) nL c3) nL (nums L)::slc 3 1 (.slice (some ⟨g4,0,none⟩) nD c4) nD (nums D)::Wtr g bs::ps))=>trim_own 4 h hMO.out (by omega) (by omega)
     rw [hSO2.out] at kt
     have KT:=jd kt
     clear kt
     go_wp2_with fail
     refine (KT.out _ H).mono ?_
     rintro e w14 ⟨_,rfl,rfl,H14⟩
     clear H KT
     obtain ⟨nS,hnS⟩:∃ n,Hid (SO.length=n):=⟨_,jd rfl⟩
     rw [hnS.out] at H14 hS1 hS2 ⊢
     have H:Own w0 w14 (Wtr g bs::slc 3 1 (.slice (some ⟨g6,0,none⟩) nS c9) nS (nums SO)::slc 3 1 (.slice (some ⟨g5,0,none⟩) 19 c5) 19 (nums RL)::slc 390 3 (.slice a8 k c8) k (rows rcell RS)::slc 3 1 (.slice (some ⟨g3,0,none⟩) nL c3) nL (nums L)::slc 3 1 (.slice (some ⟨g4,0,none⟩) nD c4) nD (nums D)::ps):=H14.front 5 rfl
     clear H14
     go_wp2_with fail
     have k1:=fun w1 h=>head_any (w:=w1) (w0:=w0) (ps:=slc 3 1 (.slice (some ⟨g6,0,none⟩) nS c9) nS (nums SO)::slc 3 1 (.slice (some ⟨g5,0,none⟩) 19 c5) 19 (nums RL)::slc 390 3 (.slice a8 k c8) k (rows rcell RS)::slc 3 1 (.slice (some ⟨g3,0,none⟩) nL c3) nL (nums L)::slc 3 1 (.slice (some ⟨g4,0,none⟩) nD c4) nD (nums D)::ps) (g:=g) (bs:=bs) last 2 (by omega) h (by omega)
     obtain ⟨W1,hW1⟩:∃ W,Hid (bs++headB last 2=W):=⟨_,jd rfl⟩
     have hW1l:W1.length=bs.length+3:=by rw [← hW1.out,lJ];simp [headB,Qd]
     rw [hW1.out] at k1
     have e1:(nL:Int)-256-1=(nL:Int)-257:=by omega
     have k2:=fun w1 h=>put_any (w:=w1) (w0:=w0) (ps:=slc 3 1 (.slice (some ⟨g6,0,none⟩) nS c9) nS (nums SO)::slc 3 1 (.slice (some ⟨g5,0,none⟩) 19 c5) 19 (nums RL)::slc 390 3 (.slice a8 k c8) k (rows rcell RS)::slc 3 1 (.slice (some ⟨g3,0,none⟩) nL c3) nL (nums L)::slc 3 1 (.slice (some ⟨g4,0,none⟩) nD c4) nD (nums D)::ps) (g:=g) (bs:=W1) ((nL:Int)-256-1) 5 (by omega) (by omega) h (by omega)
     have k3:=fun w1 h=>put_any (w:=w1) (w0:=w0) (ps:=slc 3 1 (.slice (some ⟨g6,0,none⟩) nS c9) nS (nums SO)::slc 3 1 (.slice (some ⟨g5,0,none⟩) 19 c5) 19 (nums RL)::slc 390 3 (.slice a8 k c8) k (rows rcell RS)::slc 3 1 (.slice (some ⟨g3,0,none⟩) nL c3) nL (nums L)::slc 3 1 (.slice (some ⟨g4,0,none⟩) nD c4) nD (nums D)::ps) (g:=g) (bs:=W1++Qj ((nL:Int)-257) 5) ((nD:Int)-1) 5 (by omega) (by omega) h (by rw [lJ,Qd];omega)
     have k4:=fun w1 h=>put_any (w:=w1) (w0:=w0) (ps:=slc 3 1 (.slice (some ⟨g6,0,none⟩) nS c9) nS (nums SO)::slc 3 1 (.slice (some ⟨g5,0,none⟩) 19 c5) 19 (nums RL)::slc 390 3 (.slice a8 k c8) k (rows rcell RS)::slc 3 1 (.slice (some ⟨g3,0,none⟩) nL c3) nL (nums L)::slc 3 1 (.slice (some ⟨g4,0,none⟩) nD c4) nD (nums D)::ps) (g:=g) (bs:=W1++Qj ((nL:Int)-257) 5++Qj ((nD:Int)-1) 5) ((nS:Int)-4) 4 (by omega) (by omega) h (by rw [lJ,lJ,Qd,Qd];omega)
     rw [show cut 5=5 from rfl,e1] at k2
     rw [show cut 5=5 from rfl] at k3
     rw [show cut 4=4 from rfl] at k4
     obtain ⟨W2,hW2⟩:∃ W,Hid (W1++Qj ((nL:Int)-257) 5++Qj ((nD:Int)-1) 5++Qj ((nS:Int)-4) 4=W):=⟨_,jd rfl⟩
     have hW2l:W2.length=bs.length+17:=by rw [← hW2.out];simp only [lJ,Qd];omega
     have hW2b:Hid (W1++sizesB nL nD nS=W2):=jd (by rw [← hW2.out];unfold sizesB;simp only [List.append_assoc])
     rw [hW2.out] at k4
     have hw1:IntKind.i64.wrap ((nL:Int)-256)=(nL:Int)-256:=IntWalk.i64_in _ ⟨by omega,by omega⟩
     have hw2:IntKind.i64.wrap ((nL:Int)-256-1)=(nL:Int)-257:=by rw [e1];exact IntWalk.i64_in _ ⟨by omega,by omega⟩
     have hw3:IntKind.i64.wrap ((nD:Int)-1)=(nD:Int)-1:=IntWalk.i64_in _ ⟨by omega,by omega⟩
     have hw4:IntKind.i64.wrap ((nS:Int)-4)=(nS:Int)-4:=IntWalk.i64_in _ ⟨by omega,by omega⟩
     have K1:=jd k1
     have K2:=jd k2
     have K3:=jd k3
     have K4:=jd k4
     clear k1 k2 k3 k4 e1
     refine (K1.out _ H).mono ?_
     rintro e w15 ⟨_,rfl,H15⟩
     clear H
     go_wp2_with fail
     refine (K2.out _ H15).mono ?_
     rintro e w16 ⟨_,rfl,H⟩
     clear H15
     go_wp2_with fail
     refine (K3.out _ H).mono ?_
     rintro e w17 ⟨_,rfl,H17⟩
     clear H
     go_wp2_with fail
     refine (K4.out _ H17).mono ?_
     rintro e w18 ⟨_,rfl,H⟩
     clear H17 K1 K2 K3 K4 hw1 hw2 hw3 hw4
     go_wp2_with fail
     go_loopw [105] (fun s105 wx=>∃ j:Nat,s105=.int .i64 j∧j≤nS∧Own w0 wx (Wtr g (W2++lensB (SO.take j))::slc 3 1 (.slice (some ⟨g6,0,none⟩) nS c9) nS (nums SO)::slc 3 1 (.slice (some ⟨g5,0,none⟩) 19 c5) 19 (nums RL)::slc 390 3 (.slice a8 k c8) k (rows rcell RS)::slc 3 1 (.slice (some ⟨g3,0,none⟩) nL c3) nL (nums L)::slc 3 1 (.slice (some ⟨g4,0,none⟩) nD c4) nD (nums D)::ps)) (fun s105 _=>nS-(intOf s105).toNat)
     case atStart=>exact ⟨0,by go_num,by omega,by simpa [lensB] using H⟩
     case round=>
      clear H
      obtain ⟨j,rfl,hj,H⟩:=hrel
      have hll:(lensB (SO.take j)).length≤3*19:=by
       have h1:=flat_le (f:=fun n=>Qj n 3) (b:=3) (SO.take j) (fun x _=>by rw [Qd];exact Nat.le_refl _)
       rw [List.length_take] at h1
       unfold lensB
       omega
      by_cases hjl:j<nS
      ·have hjI:(j:Int)<(nS:Int):=by omega
       have hjS:j<SO.length:=by rw [hnS.out];exact hjl
       have cs:=(H.front 1 rfl).getc (Jj (Za hjS))
       have hx7:=M7.out _ (mem_getD2 hjS)
       have hsn:Hid (W2++lensB (SO.take (j+1))=W2++lensB (SO.take j)++Qj (SO.getD j 0) 3):=jd (by rw [lensB_succ hjS,List.append_assoc])
       obtain ⟨xv,hxv⟩:∃ xv,SO.getD j 0=xv:=⟨_,rfl⟩
       rw [hxv] at cs hx7 hsn
       have k1:=fun w1 h=>put_any (w:=w1) (w0:=w0) (ps:=slc 3 1 (.slice (some ⟨g6,0,none⟩) nS c9) nS (nums SO)::slc 3 1 (.slice (some ⟨g5,0,none⟩) 19 c5) 19 (nums RL)::slc 390 3 (.slice a8 k c8) k (rows rcell RS)::slc 3 1 (.slice (some ⟨g3,0,none⟩) nL c3) nL (nums L)::slc 3 1 (.slice (some ⟨g4,0,none⟩) nD c4) nD (nums D)::ps) (g:=g) (bs:=W2++lensB (SO.take j)) xv 3 (by omega) (by omega) h (by rw [lJ];omega)
       rw [show cut 3=3 from rfl,← hsn.out] at k1
       have K1:=jd k1
       clear k1 hxv hll
       go_wp2_with fail
       refine (K1.out _ H).mono ?_
       rintro e w19 ⟨_,rfl,H19⟩
       clear H cs
       go_wp2_with fail
       go_roundw
       case rel=>exact ⟨j+1,by go_num,by omega,H19⟩
       case measure=>simp [intOf];omega
      ·obtain rfl:j=nS:=by omega
       have hjI:¬ (j:Int)<(j:Int):=by omega
       rw [List.take_of_length_le (by rw [hnS.out];exact Nat.le_refl _)] at H hll
       obtain ⟨W3,hW3⟩:∃ W,Hid (W2++lensB SO=W):=⟨_,jd rfl⟩
       have hW3l:W3.length≤bs.length+74:=by rw [← hW3.out,lJ];omega
       rw [hW3.out] at H
       have km:=fun w1 h=>made_any (w:=w1) (v:=.slice (some ⟨g5,0,none⟩) 19 c5) (n:=19) (L:=RL) h (by omega) MR.out.cerr
       rw [HRLL.out] at km
       have KM:=jd km
       clear km hll
       go_wp2_with fail
       refine (KM.out _ (H.front 2 rfl).rd).mono ?_
       rintro e w20 ⟨_,rfl,u11,rfl,J⟩
       replace H:=H.join J
       clear J KM
       obtain ⟨a11,c11,rfl,-⟩:=H.rd.shape
       go_upto_region 29 with (refine Qe (vs:=[.slice (some ⟨g5,0,none⟩) 19 c5,.slice a11 19 c11]) rfl _ _ rfl rfl (H.alloc _) rfl (by kernel_rfl) (by simp) (by simp;exact ⟨rfl,rfl⟩) rfl ?_;intro w21 H21)
       clear H
       generalize w20.heap.size=gc at *
       have H:Own w0 w21 (Wtr g W3::blk gc (.cells #[.slice (some ⟨g5,0,none⟩) 19 c5,.slice a11 19 c11] 298)::slc 3 1 (.slice a11 19 c11) 19 (nums (Zc RL))::slc 3 1 (.slice (some ⟨g6,0,none⟩) j c9) j (nums SO)::slc 3 1 (.slice (some ⟨g5,0,none⟩) 19 c5) 19 (nums RL)::slc 390 3 (.slice a8 k c8) k (rows rcell RS)::slc 3 1 (.slice (some ⟨g3,0,none⟩) nL c3) nL (nums L)::slc 3 1 (.slice (some ⟨g4,0,none⟩) nD c4) nD (nums D)::ps):=H21.front 2 rfl
       clear H21
       have hco:CodOk w0 (blk gc (.cells #[.slice (some ⟨g5,0,none⟩) 19 c5,.slice a11 19 c11] 298)::slc 3 1 (.slice a11 19 c11) 19 (nums (Zc RL))::slc 3 1 (.slice (some ⟨g6,0,none⟩) j c9) j (nums SO)::slc 3 1 (.slice (some ⟨g5,0,none⟩) 19 c5) 19 (nums RL)::slc 390 3 (.slice a8 k c8) k (rows rcell RS)::slc 3 1 (.slice (some ⟨g3,0,none⟩) nL c3) nL (nums L)::slc 3 1 (.slice (some ⟨g4,0,none⟩) nD c4) nD (nums D)::ps) (.slice (some ⟨g5,0,none⟩) 19 c5) (.slice a11 19 c11) RL:=⟨fun w' h=>by rw [HRLL.out];exact (h.front 3 rfl).rd,fun w' h=>by rw [HRLL.out];exact (h.front 1 rfl).rd,MR.out.all,MR.out.wt,by rw [HRLL.out];omega⟩
       have HCO:=jd hco
       have hbdR:∀ m,(runsB RL (RS.take m)).length≤22*632:=fun m=>by
        have h1:=flat_le (f:=runB RL) (b:=22) (RS.take m) (fun r hr=>by
         have h2:=cbits_le MR.out.all r.sym.toNat
         have h3:=(OKR.out r (List.mem_of_mem_take hr)).n
         unfold runB
         rw [lJ,Qd]
         omega)
        rw [List.length_take] at h1
        unfold runsB
        have:=hnR.out
        omega
       have HBR:=jd hbdR
       clear hco hbdR
       go_wp2_with fail
       go_loopw [117] (fun s117 wx=>∃ m:Nat,s117=.int .i64 m∧m≤k∧Own w0 wx (Wtr g (W3++runsB RL (RS.take m))::blk gc (.cells #[.slice (some ⟨g5,0,none⟩) 19 c5,.slice a11 19 c11] 298)::slc 3 1 (.slice a11 19 c11) 19 (nums (Zc RL))::slc 3 1 (.slice (some ⟨g6,0,none⟩) j c9) j (nums SO)::slc 3 1 (.slice (some ⟨g5,0,none⟩) 19 c5) 19 (nums RL)::slc 390 3 (.slice a8 k c8) k (rows rcell RS)::slc 3 1 (.slice (some ⟨g3,0,none⟩) nL c3) nL (nums L)::slc 3 1 (.slice (some ⟨g4,0,none⟩) nD c4) nD (nums D)::ps)) (fun s117 _=>k-(intOf s117).toNat)
       case atStart=>exact ⟨0,by go_num,by omega,by simpa [runsB] using H⟩
       case round=>
        clear H
        obtain ⟨m,rfl,hm,H⟩:=hrel
        have hbl:=HBR.out m
        by_cases hmk:m<k
        ·have hmI:(m:Int)<(k:Int):=by omega
         obtain ⟨t,htk⟩:=Ql (l:=RS) (k:=m) (by rw [hnR.out];exact hmk)
         have hok:=OKR.out t (List.mem_of_getElem? htk)
         have hps:=runL_pos OKR.out (by rw [hnR.out];omega) (List.mem_of_getElem? htk)
         rw [hRL.out] at hps
         obtain ⟨b,o,_,he2,-⟩:=(H.front 5 rfl).rd.some (by rw [Qp rcell rcell_length,hnR.out];omega)
         cases he2
         obtain ⟨c0,cc1,cc2⟩:=run_cells (H.front 5 rfl).rd htk
         have hsn:=runB_succ (ls:=RL) htk
         unfold runB at hsn
         obtain ⟨hsy,hrn1,hrv⟩:=hok
         obtain ⟨x,y,z⟩:=t
         simp only at c0 cc1 cc2 hsy hrn1 hrv hps hsn
         obtain ⟨x,rfl⟩:∃ s:Nat,x=s:=⟨x.toNat,by omega⟩
         obtain ⟨y,rfl⟩:∃ s:Nat,y=s:=⟨y.toNat,by omega⟩
         simp only [Int.toNat_natCast] at hps hsn hrv
         have hxl:=pos_lt hps
         have hz128:z<128:=by
          have:(2:Int)^y≤2^7:=pow2_le (by omega)
          omega
         have hsn2:Hid (W3++runsB RL (RS.take (m+1))=W3++runsB RL (RS.take m)++cbits RL x++Qj z y):=jd (by rw [hsn];simp only [List.append_assoc])
         obtain ⟨WB,hWB⟩:∃ W,Hid (W3++runsB RL (RS.take m)=W):=⟨_,jd rfl⟩
         have hWBl:WB.length≤bs.length+14000:=by rw [← hWB.out,lJ];omega
         rw [hWB.out] at H hsn2
         have hcx:=cbits_le MR.out.all x
         have k1:=fun (tb:Nat) w1 h=>cput_any (w:=w1) (HCO.out.mono (qs:=blk tb (.cells #[.int .i64 (x:Int),.int .i64 (y:Int),.int .i64 z] 390)::blk gc (.cells #[.slice (some ⟨g5,0,none⟩) 19 c5,.slice a11 19 c11] 298)::slc 3 1 (.slice a11 19 c11) 19 (nums (Zc RL))::slc 3 1 (.slice (some ⟨g6,0,none⟩) j c9) j (nums SO)::slc 3 1 (.slice (some ⟨g5,0,none⟩) 19 c5) 19 (nums RL)::slc 390 3 (.slice (some ⟨b,o,none⟩) k c8) k (rows rcell RS)::slc 3 1 (.slice (some ⟨g3,0,none⟩) nL c3) nL (nums L)::slc 3 1 (.slice (some ⟨g4,0,none⟩) nD c4) nD (nums D)::ps) fun w' h=>h.drop) hxl h (bs:=WB) (g:=g) (by omega)
         have k2:=fun (tb:Nat) w1 h=>put_any (w:=w1) (w0:=w0) (ps:=blk tb (.cells #[.int .i64 (x:Int),.int .i64 (y:Int),.int .i64 z] 390)::blk gc (.cells #[.slice (some ⟨g5,0,none⟩) 19 c5,.slice a11 19 c11] 298)::slc 3 1 (.slice a11 19 c11) 19 (nums (Zc RL))::slc 3 1 (.slice (some ⟨g6,0,none⟩) j c9) j (nums SO)::slc 3 1 (.slice (some ⟨g5,0,none⟩) 19 c5) 19 (nums RL)::slc 390 3 (.slice (some ⟨b,o,none⟩) k c8) k (rows rcell RS)::slc 3 1 (.slice (some ⟨g3,0,none⟩) nL c3) nL (nums L)::slc 3 1 (.slice (some ⟨g4,0,none⟩) nD c4) nD (nums D)::ps) (g:=g) (bs:=WB++cbits RL x) z (y:Int) (by omega) (by omega) h (by rw [lJ];omega)
         rw [cut_eq (by omega) (by omega),Int.toNat_natCast,← hsn2.out] at k2
         have K1:=jd k1
         have K2:=jd k2
         clear k1 k2 hsn hrv hps hbl htk hcx hxl
         go_upto_region 32 with (refine Qe (vs:=[.int .i64 x,.int .i64 y,.int .i64 z]) rfl _ _ rfl rfl (H.alloc _) rfl (by kernel_rfl) (by simp) (by simp;exact ⟨rfl,rfl,rfl⟩) rfl ?_;clear c0 cc1 cc2;intro w22 H22)
         clear H
         generalize wr.heap.size=tb at *
         have H:Own w0 w22 (Wtr g WB::blk tb (.cells #[.int .i64 (x:Int),.int .i64 (y:Int),.int .i64 z] 390)::blk gc (.cells #[.slice (some ⟨g5,0,none⟩) 19 c5,.slice a11 19 c11] 298)::slc 3 1 (.slice a11 19 c11) 19 (nums (Zc RL))::slc 3 1 (.slice (some ⟨g6,0,none⟩) j c9) j (nums SO)::slc 3 1 (.slice (some ⟨g5,0,none⟩) 19 c5) 19 (nums RL)::slc 390 3 (.slice (some ⟨b,o,none⟩) k c8) k (rows rcell RS)::slc 3 1 (.slice (some ⟨g3,0,none⟩) nL c3) nL (nums L)::slc 3 1 (.slice (some ⟨g4,0,none⟩) nD c4) nD (nums D)::ps):=H22.swap
         clear H22
         have c0:=(H.front 1 rfl).cells
         have cg:=(H.front 2 rfl).cells
         go_wp2_with fail
         refine (K1.out _ _ H).mono ?_
         rintro e w23 ⟨_,rfl,H23⟩
         clear H c0 cg
         have c0:=(H23.front 1 rfl).cells
         go_wp2_with fail
         refine (K2.out _ _ H23).mono ?_
         rintro e w24 ⟨_,rfl,H24⟩
         clear H23 c0
         have H:=(H24.front 1 rfl).drop
         clear H24
         go_wp2_with fail
         go_roundw
         case rel=>exact ⟨m+1,by go_num,by omega,H⟩
         case measure=>simp [intOf];omega
        ·obtain rfl:m=k:=by omega
         have hmI:¬ (m:Int)<(m:Int):=by omega
         rw [List.take_of_length_le (by rw [hnR.out];exact Nat.le_refl _)] at H hbl
         obtain ⟨W4,hW4⟩:∃ W,Hid (W3++runsB RL RS=W):=⟨_,jd rfl⟩
         have hW4l:W4.length≤bs.length+14000:=by rw [← hW4.out,lJ];omega
         rw [hW4.out] at H
         have kL:=fun w1 h=>made_any (w:=w1) (v:=.slice (some ⟨g3,0,none⟩) nL c3) (n:=nL) (L:=L) h (by omega) ML.out.cerr
         have kD:=fun w1 h=>made_any (w:=w1) (v:=.slice (some ⟨g4,0,none⟩) nD c4) (n:=nD) (L:=D) h (by omega) MD.out.cerr
         rw [hnL.out] at kL
         rw [hnD.out] at kD
         have KL:=jd kL
         have KD:=jd kD
         clear kL kD hbl
         go_wp2_with fail
         refine (KL.out _ (H.front 6 rfl).rd).mono ?_
         rintro e w25 ⟨_,rfl,u12,rfl,J⟩
         replace H:=H.join J
         clear J KL
         obtain ⟨a12,c12,rfl,-⟩:=H.rd.shape
         go_wp2_with fail
         refine (KD.out _ (H.front 8 rfl).rd).mono ?_
         rintro e w26 ⟨_,rfl,u13,rfl,J⟩
         replace H:=H.join J
         clear J KD
         obtain ⟨a13,c13,rfl,-⟩:=H.rd.shape
         have H:Own w0 w26 (Wtr g W4::slc 3 1 (.slice a13 nD c13) nD (nums (Zc D))::slc 3 1 (.slice a12 nL c12) nL (nums (Zc L))::slc 3 1 (.slice (some ⟨g3,0,none⟩) nL c3) nL (nums L)::slc 3 1 (.slice (some ⟨g4,0,none⟩) nD c4) nD (nums D)::ps):=(((((((H.front 2 rfl).front 7 rfl).front 7 rfl).front 7 rfl).front 7 rfl).front 7 rfl).drop.drop.drop.drop.drop)
         have cokL:CodOk w0 (slc 3 1 (.slice a13 nD c13) nD (nums (Zc D))::slc 3 1 (.slice a12 nL c12) nL (nums (Zc L))::slc 3 1 (.slice (some ⟨g3,0,none⟩) nL c3) nL (nums L)::slc 3 1 (.slice (some ⟨g4,0,none⟩) nD c4) nD (nums D)::ps) (.slice (some ⟨g3,0,none⟩) nL c3) (.slice a12 nL c12) L:=⟨fun w' h=>by rw [hnL.out];exact (h.front 2 rfl).rd,fun w' h=>by rw [hnL.out];exact (h.front 1 rfl).rd,ML.out.all,ML.out.wt,by rw [hnL.out];omega⟩
         have cokD:CodOk w0 (slc 3 1 (.slice a13 nD c13) nD (nums (Zc D))::slc 3 1 (.slice a12 nL c12) nL (nums (Zc L))::slc 3 1 (.slice (some ⟨g3,0,none⟩) nL c3) nL (nums L)::slc 3 1 (.slice (some ⟨g4,0,none⟩) nD c4) nD (nums D)::ps) (.slice (some ⟨g4,0,none⟩) nD c4) (.slice a13 nD c13) D:=⟨fun w' h=>by rw [hnD.out];exact (h.front 3 rfl).rd,fun w' h=>by rw [hnD.out];exact h.rd,MD.out.all,MD.out.wt,by rw [hnD.out];omega⟩
         have kb:=body_any cokL cokD (l:=l) (tv:=.slice ta N tc) (by rw [hN.out];exact HT.out.mono fun w' h=>h.drop.drop.drop.drop) OKS.out (by rw [hnL.out];omega) H (by rw [hN.out];omega)
         have KB:=jd kb
         have hfin:Hid (bs++headB last 2++(sizesB L.length D.length SO.length++(lensB SO++(runsB RL RS++bodyB L D l)))=W4++bodyB L D l):=jd (by
          rw [hnL.out,hnD.out,hnS.out,← hW4.out,← hW3.out,← hW2b.out,← hW1.out]
          simp only [List.append_assoc])
         clear kb cokL cokD
         go_wp2_with fail
         refine KB.out.mono ?_
         rintro e w27 ⟨_,rfl,H27⟩
         go_wp2_with fail
         go_end0
         rw [hfin.out]
         exact ⟨_,rfl,(((((H27.front 4 rfl).front 4 rfl).front 4 rfl).front 4 rfl).drop.drop.drop.drop)⟩
theorem blockB_ne{l:List Tok}{kind:Int}{last:Bool}(h:kind≠1):blockB l kind last=blockB l 2 last:=by
 unfold blockB
 rw [if_neg h,if_neg (by omega)]
theorem block_any{w0 w:World}{ps:List Piece}{g:Nat}{bs:List Bool}{tv:Value}{l:List Tok}(kind:Int)(last:Bool)(ht:Reads w0 ps 3 tv l.length (rows tcell l))(hs:∀ t∈l,TokOk t)(hln:l.length≤1000000)(H:Own w0 w (Wtr g bs::ps))(hl:bs.length+48*l.length≤35184372000000) :
 Calls Tryz.prog 130 #[.pointer (some ⟨g,0,none⟩),tv,.int .i64 kind,.bool last] w (Ret fun _ w'=>Own w0 w' (Wtr g (bs++blockB l kind last)::ps)):=by
 by_cases hk:kind=1
 ·subst hk
  exact block1_any last ht hs H (by omega)
 ·have hkb:(kind==1)=false:=by simpa using hk
  rw [blockB_ne hk]
  obtain ⟨ta,tc,rfl,ht1,ht2⟩:=(ht w H.drop).shape
  have k1:=rich_any (g:=g) (bs:=bs) last ht hs hln H hl
  have K1:=jd k1
  clear k1 ht hs hk
  generalize l.length=N at *
  go_enter Tryz.func130,Tryz.ntmps130
  go_wp2_with fail
  refine K1.out.mono ?_
  rintro e w1 ⟨_,rfl,H2⟩
  go_wp2_with fail
  go_end0
  exact ⟨_,rfl,H2⟩
def richF(s:ByteArray):ByteArray:=textOf (blockB (parse s) 2 true)
set_option maxRecDepth 100000 in
theorem richT_any{w:World}(s:ByteArray)(hs:s.size≤1000000) :
 Calls Tryz.prog 79 #[.string s] w (Ret fun r w'=>r=.string (richF s)∧Own w w' []):=by
 have H:=(Own.start w).newWtr
 obtain ⟨T,hT⟩:∃ T,Hid (parse s=T):=⟨_,rfl⟩
 have hok:=parse_ok s
 have hlen:=parse_len s
 unfold richF
 rw [hT.out] at hok hlen ⊢
 have HOK:=jd hok
 clear hok
 go_enter Tryz.func79,Tryz.ntmps79
 go_wp2_with fail
 generalize w.alloc _=w1 at *
 generalize w.heap.size=g at *
 refine (lzparse_any H hs).mono ?_
 rintro e w2 ⟨v,rfl,H2⟩
 rw [hT.out] at H2
 clear H
 obtain ⟨a,c,rfl,-⟩:=H2.rd.shape
 have hb:=block_any (l:=T) 2 true (fun w' h=>h.rd) HOK.out (by omega) H2.swap (by simp;omega)
 rw [List.nil_append] at hb
 have HB:=jd hb
 clear hb
 obtain ⟨N,hN⟩:∃ N,Hid (T.length=N):=⟨_,rfl⟩
 rw [hN.out] at HB ⊢
 go_wp2_with fail
 refine HB.out.mono ?_
 rintro e w3 ⟨_,rfl,H3⟩
 clear H2
 go_wp2_with fail
 refine (bytes_any H3).mono ?_
 rintro e w4 ⟨rfl,rfl⟩
 go_wp2_with fail
 go_ret
 exact ⟨_,rfl,rfl,H3.bare⟩
def Va(a b:ByteArray):ByteArray:=if b.size<a.size then b else a
def packF(s:ByteArray):ByteArray:=Va (Va (textOf (storeF s)) (simpleF s)) (richF s)
set_option maxRecDepth 100000 in
set_option maxHeartbeats 1600000 in
theorem pack_any{w:World}(s:ByteArray)(hs:s.size≤1000000) :
 Calls Tryz.prog 40 #[.string s] w (Ret fun r w'=>r=.string (packF s)∧Own w w' []):=by
 have H:=Own.start w
 obtain ⟨A,hA⟩:∃ A,Hid (textOf (storeF s)=A):=⟨_,jd rfl⟩
 obtain ⟨B,hB⟩:∃ B,Hid (simpleF s=B):=⟨_,jd rfl⟩
 obtain ⟨C,hC⟩:∃ C,Hid (richF s=C):=⟨_,jd rfl⟩
 obtain ⟨R,hR⟩:∃ R,Hid (Va (Va A B) C=R):=⟨_,jd rfl⟩
 have hP:packF s=R:=by unfold packF;rw [hA.out,hB.out,hC.out,hR.out]
 rw [hP]
 have k1:=fun w=>store_any (w:=w) s hs
 have k2:=fun w=>simple_any (w:=w) s hs
 have k3:=fun w=>richT_any (w:=w) s hs
 rw [hA.out] at k1
 rw [hB.out] at k2
 rw [hC.out] at k3
 have K1:=jd k1
 have K2:=jd k2
 have K3:=jd k3
 clear k1 k2 k3 hP hA hB hC
 go_enter Tryz.func40,Tryz.ntmps40
 go_wp2_with fail
 refine (K1.out _).mono ?_
 rintro e w1 ⟨_,rfl,rfl,J⟩
 replace H:=H.join J
 clear J
 go_wp2_with fail
 refine (K2.out _).mono ?_
 rintro e w2 ⟨_,rfl,rfl,J⟩
 replace H:=H.join J
 clear J
 go_wp2_with fail
 refine (K3.out _).mono ?_
 rintro e w3 ⟨_,rfl,rfl,J⟩
 replace H:=H.join J
 clear J K1 K2 K3
 go_upto_region 3 with (fail)
 have h9:=H.alloc (.cells #[.string B,.string C] 9)
 have H:Own w (w3.alloc (.cells #[.string B,.string C] 9)) (blk w3.heap.size (.cells #[.string B,.string C] 9)::[]):=h9
 clear h9
 generalize w3.alloc _=w4 at *
 generalize w3.heap.size=g at *
 go_loopw [3,14] (fun s3 s14 wx=>∃ (k:Nat) (X:ByteArray),s14=.int .i64 k∧s3=.string X∧(k=0∧Hid (X=A)∨k=1∧Hid (X=Va A B)∨k=2∧Hid (X=R))∧Own w wx (blk g (.cells #[.string B,.string C] 9)::[])) (fun _ s14 _=>2-(intOf s14).toNat)
 case atStart=>exact ⟨0,A,by go_num,rfl,.inl ⟨rfl,jd rfl⟩,H⟩
 case round=>
  clear H
  obtain ⟨k,X,rfl,rfl,hc,H⟩:=hrel
  rcases hc with ⟨rfl,hX⟩ | ⟨rfl,hX⟩ | ⟨rfl,hX⟩
  ·have c0:=H.cells
   have hs1:Hid (Va X B=Va A B):=jd (by rw [hX.out])
   by_cases hlt:B.size<X.size
   ·have hI:(B.size:Int)<(X.size:Int):=by omega
    have hn:Hid (B=Va A B):=jd (by rw [← hs1.out];unfold Va;rw [if_pos hlt])
    go_wp2_with fail
    go_roundw
    case rel=>exact ⟨1,B,by go_num,rfl,.inr (.inl ⟨rfl,hn⟩),H⟩
    case measure=>simp [intOf]
   ·have hI:¬ (B.size:Int)<(X.size:Int):=by omega
    have hn:Hid (X=Va A B):=jd (by rw [← hs1.out];unfold Va;rw [if_neg hlt])
    go_wp2_with fail
    go_roundw
    case rel=>exact ⟨1,X,by go_num,rfl,.inr (.inl ⟨rfl,hn⟩),H⟩
    case measure=>simp [intOf]
  ·have c0:=H.cells
   have hs1:Hid (Va X C=R):=jd (by rw [hX.out,hR.out])
   by_cases hlt:C.size<X.size
   ·have hI:(C.size:Int)<(X.size:Int):=by omega
    have hn:Hid (C=R):=jd (by rw [← hs1.out];unfold Va;rw [if_pos hlt])
    go_wp2_with fail
    go_roundw
    case rel=>exact ⟨2,C,by go_num,rfl,.inr (.inr ⟨rfl,hn⟩),H⟩
    case measure=>simp [intOf]
   ·have hI:¬ (C.size:Int)<(X.size:Int):=by omega
    have hn:Hid (X=R):=jd (by rw [← hs1.out];unfold Va;rw [if_neg hlt])
    go_wp2_with fail
    go_roundw
    case rel=>exact ⟨2,X,by go_num,rfl,.inr (.inr ⟨rfl,hn⟩),H⟩
    case measure=>simp [intOf]
  ·rw [hX.out] at *
   clear hX
   go_wp2_with fail
   go_ret
   exact ⟨_,rfl,rfl,H.bare⟩
def zrs(n:Nat):ByteArray:=⟨(List.replicate n (0:UInt8)).toArray⟩
theorem zrs_size(n:Nat):(zrs n).size=n:=by simp [zrs,ByteArray.size]
def splF(s:ByteArray):List ByteArray:=
 if _h:s.size=0 then [] else (s.extract 0 (min 192 s.size)++zrs (192-min 192 s.size))::splF (s.extract (min 192 s.size) s.size)
termination_by s.size
decreasing_by simp [ByteArray.size_extract];omega
theorem rep_any(n:Nat)(hn:n≤100000)(w:World) :
 Calls Tryz.prog 43 #[.string ⟨#[0]⟩,.int .i64 n] w (fun e w'=>e=.returned (.string (zrs n))∧Own w w' []):=by
 have:=Any.strings_Repeat (P:=Tryz.prog) Tryz.layRepeat Tryz.extraRepeat ⟨#[0]⟩ n w (by omega) (by simp [ByteArray.size];omega)
 refine this.mono ?_
 rintro en w' ⟨rfl,hb⟩
 refine ⟨?_,(Own.start w).mono hb⟩
 rw [show (⟨#[0]⟩:ByteArray).data.toList=[(0:UInt8)] from rfl,repeatL_zero]
 rfl
theorem toList_empty(R:ByteArray):R.toList.isEmpty=decide (R.size=0):=by
 rw [str_data R]
 obtain ⟨⟨l⟩⟩:=R
 cases l with
 | nil=>rfl
 | cons x r=>simp [ByteArray.size]
set_option maxRecDepth 100000 in
set_option maxHeartbeats 6400000 in
theorem split_any{w:World}{s:ByteArray}(hs:s.size≤1000000) :
 Calls Tryz.prog 19 #[.string s] w (Ret fun r w'=>Own w w' (slc 9 1 r (splF s).length (txs (splF s))::[])):=by
 obtain ⟨F,hF⟩:∃ F,Hid (splF s=F):=⟨_,rfl⟩
 rw [hF.out]
 have H:=(Own.start w).nil 9 1
 go_enter Tryz.func19,Tryz.ntmps19
 go_upto_block 0 with (fail)
 go_wp2_with fail
 go_loopw [0,3,4] (fun v0 v3 _ wx=>∃ (R:ByteArray) (L:List ByteArray) (k:Nat),v0=.string R∧Hid (F=L++splF R)∧R.size+k≤1000000∧Hid (L.length=k)∧Own w wx (slc 9 1 v3 k (txs L)::[])) (fun v0 _ _ _=>match v0 with | .string s=>s.size | _=>0)
 case atStart=>exact ⟨s,[],0,rfl,hF.symm,by omega,rfl,H⟩
 case round=>
  clear H hF
  obtain ⟨R,L,k,rfl,hcat,hR,hL,H⟩:=hrel
  obtain ⟨la,lc,rfl,hl1,hl2⟩:=H.rd.shape
  obtain ⟨Z,hZ⟩:∃ Z,R.size=Z:=⟨_,rfl⟩
  rw [hZ] at hR
  by_cases hz:Z=0
  ·have hRe:R=ByteArray.empty:=ByteArray.ext (Array.eq_empty_of_size_eq_zero (by rw [← hz,← hZ];rfl))
   subst hRe
   have hfin:Hid (F=L):=jd (by rw [hcat.out,splF,dif_pos (by rfl),List.append_nil])
   have e0:ByteArray.empty.toList.isEmpty=true:=by rw [toList_empty];rfl
   clear hcat
   go_wp2
   go_ret
   refine ⟨_,rfl,?_⟩
   rw [hfin.out,hL.out]
   exact H
  ·have e0:R.toList.isEmpty=false:=by
    rw [toList_empty]
    simp [hZ,hz]
   obtain ⟨m,hm⟩:∃ m,Hid (min 192 Z=m):=⟨_,rfl⟩
   have hmb:m≤192∧m≤Z∧1≤m:=by have:=hm.out;omega
   have hmI:min (192:Int) (Z:Int)=(m:Int):=by have:=hm.out;omega
   obtain ⟨q,hq⟩:∃ q,Hid (192-m=q):=⟨_,rfl⟩
   have hqI:(192:Int)-(m:Int)=(q:Int):=by have:=hq.out;omega
   have hq9:q≤100000:=by have:=hq.out;omega
   obtain ⟨C,hC⟩:∃ C,Hid (R.extract 0 m++zrs q=C):=⟨_,rfl⟩
   have hcat2:Hid (F=(L++[C])++splF (R.extract m Z)):=jd (by
    rw [hcat.out,splF,dif_neg (by rw [hZ];exact hz),hZ,hm.out,hq.out,hC.out,List.append_assoc];rfl)
   have hsn:Hid (txs (L++[C])=txs L++[.string C]):=jd (by rw [Zi];rfl)
   have hZ2:(R.extract m Z).size=Z-m:=by rw [ByteArray.size_extract];omega
   clear hcat
   go_wp2_with fail
   refine (rep_any q hq9 _).mono ?_
   rintro e w2 ⟨rfl,H2⟩
   replace H:=H.join H2
   rw [List.nil_append] at H
   clear H2
   have hsz1:(R.extract 0 m).size=m:=by rw [ByteArray.size_extract];omega
   have hsz2:=zrs_size q
   have hCI:R.extract 0 m++zrs q=C:=hC.out
   go_wp2_with (at_builtin;refine Qf (news:=[.string C]) rfl _ _ rfl Tryz.underlying26 strInfo rfl (by decide) rfl H rfl rfl rfl (by simp [Value.oneCell']) (by omega) (by omega) ?_;clear H;intro v' w' H)
   rw [← hsn.out] at H
   go_roundw
   case rel=>exact ⟨R.extract m Z,L++[C],k+1,rfl,hcat2,by omega,jd (by rw [lJ,hL.out];rfl),H⟩
   case measure=>show (R.extract m Z).size<R.size;omega
end Go.Proofs.YthekdeikodppkaaGreatDoor
namespace Go.Proofs.YthekdeikodppkaaGreatDoor
open Go.RowKit
open Go.ChangeMaps (setBlock)
noncomputable section
def entsA:List (AV × AV)→Option (List (Nat × Txt))
 | []=>some []
 | (.lit (.int .i64 (.ofNat i)),.txt t)::r=>(entsA r).map ((i,t) :: ·)
 | _::_=>none
def entP(p:Nat × Txt):AV × AV:=(.lit (.int .i64 (.ofNat p.1)),.txt p.2)
theorem entsA_eq:∀ {es:List (AV × AV)} {l:List (Nat × Txt)},entsA es=some l→es=l.map entP
 | [],l,h=>by cases h;rfl
 | x::r,l,h=>by
  unfold entsA at h
  split at h
  ·rename_i heq;cases heq
  ·rename_i i t r' heq
   cases heq
   rw [Option.map_eq_some_iff] at h
   obtain ⟨l',h1,rfl⟩:=h
   rw [entsA_eq h1];rfl
  ·cases h
def distB:List Nat→Bool
 | []=>true
 | a::r=>!(r.any (Nat.beq a))&&distB r
theorem distB_nodup:∀ {l:List Nat},distB l=true→l.Nodup
 | [],_=>by simp
 | a::r,h=>by
  simp only [distB,Bool.and_eq_true,Bool.not_eq_true',List.any_eq_false,Nat.beq_eq] at h
  rw [List.nodup_cons]
  exact ⟨fun hm=>h.1 a hm rfl,distB_nodup h.2⟩
def setL(old:List AV):List (Nat × Txt)→List AV
 | []=>old
 | p::r=>setL (old.set p.1 (.txt p.2)) r
theorem setL_other:∀ {l:List (Nat × Txt)} {old:List AV} {i:Nat},i ∉ l.map (·.1)→(setL old l)[i]?=old[i]?
 | [],_,_,_=>rfl
 | p::r,old,i,h=>by
  rw [List.map_cons,List.mem_cons,not_or] at h
  rw [setL,setL_other h.2,List.getElem?_set_ne (Ne.symm h.1)]
theorem setL_get:∀ {l:List (Nat × Txt)} {old:List AV} {p:Nat × Txt},(l.map (·.1)).Nodup→p∈l→p.1<old.length→(setL old l)[p.1]?=some (.txt p.2)
 | [],_,_,_,h,_=>by simp at h
 | q::r,old,p,hn,hm,hl=>by
  rw [List.map_cons,List.nodup_cons] at hn
  rw [setL]
  rcases List.mem_cons.1 hm with rfl | hm
  ·rw [setL_other hn.1,List.getElem?_set_self hl]
  ·exact setL_get hn.2 hm (by simpa using hl)
section
variable {F:Funs} {e:Env} {w0 w w':World} {h:AH} {P:Program}
theorem HR.apart(H:HR F e w0 w h)(r:Nat)(hsz:w.heap.size≤w'.heap.size)(hb:Below w0.heap.size w0 w')(hk:∀ j,j<w.heap.size→j≠r→w'.heap[j]?=w.heap[j]?)
 (hr:∀ (i:Nat) (o:AO) (x:Nat × Nat × Nat),h.bs[i]?=some o→e.bl[i]?=some x→o.live=true→x.1≠r):HR F e w0 w' h where
 below:=hb
 len:=H.len
 nv:=H.nv
 objs:=fun i o x h1 h2 h3=>by
  obtain ⟨g1,g2,g3⟩:=H.objs i o x h1 h2 h3
  exact ⟨g1,Nat.lt_of_lt_of_le g2 hsz,g3.of_heap (hk _ g2 (hr i o x h1 h2 h3))⟩
 inj:=H.inj
end
structure SyncI (ms:List MapEntry) (l:List (Nat × Txt)) (old cs:List AV) (seen:Array Nat):Prop where
 len:cs.length=old.length
 got:∀ (j:Nat) me p,ms[j]?=some me→l[j]?=some p→seen.contains me.born=true→cs[p.1]?=some (.txt p.2)
 rest:∀ i,(∀ (j:Nat) me p,ms[j]?=some me→l[j]?=some p→seen.contains me.born=true→p.1≠i)→cs[i]?=old[i]?
theorem SyncI.start(ms:List MapEntry)(l:List (Nat × Txt))(old:List AV):SyncI ms l old old #[]:=⟨rfl,fun _ _ _ _ _ h=>by simp at h,fun _ _=>rfl⟩
theorem SyncI.step{ms:List MapEntry}{l:List (Nat × Txt)}{old cs:List AV}{seen:Array Nat}(I:SyncI ms l old cs seen)(hnb:(ms.map (·.born)).Nodup)(hnd:(l.map (·.1)).Nodup){j:Nat}{me:MapEntry}{p:Nat × Txt}(h1:ms[j]?=some me)(h2:l[j]?=some p)(hp:p.1<old.length) :
 SyncI ms l old (cs.set p.1 (.txt p.2)) (seen.push me.born):=by
 have same:∀ (j':Nat) me' ,ms[j']?=some me'→me'.born=me.born→j'=j:=fun j' me' g1 g2=>by
  have a1:(ms.map (·.born))[j']?=some me.born:=by rw [List.getElem?_map,g1];simp [g2]
  have a2:(ms.map (·.born))[j]?=some me.born:=by rw [List.getElem?_map,h1];rfl
  exact (List.getElem?_inj (gJ a1).1 hnb).1 (a1.trans a2.symm)
 have same2:∀ (j':Nat) (p':Nat × Txt),l[j']?=some p'→p'.1=p.1→j'=j:=fun j' p' g1 g2=>by
  have a1:(l.map (·.1))[j']?=some p.1:=by rw [List.getElem?_map,g1];simp [g2]
  have a2:(l.map (·.1))[j]?=some p.1:=by rw [List.getElem?_map,h2];rfl
  exact (List.getElem?_inj (gJ a1).1 hnd).1 (a1.trans a2.symm)
 refine ⟨by rw [List.length_set];exact I.len,?_,?_⟩
 ·intro j' me' p' g1 g2 g3
  by_cases hj:p'.1=p.1
  ·obtain rfl:=same2 j' p' g2 hj
   rw [h2] at g2;cases g2
   rw [List.getElem?_set_self (by rw [I.len];exact hp)]
  ·rw [List.getElem?_set_ne (Ne.symm hj)]
   refine I.got j' me' p' g1 g2 ?_
   simp only [Array.contains_push,Bool.or_eq_true,beq_iff_eq] at g3
   rcases g3 with g3 | g3
   ·exact g3
   ·obtain rfl:=same j' me' g1 g3
    rw [h2] at g2;cases g2
    exact absurd rfl hj
 ·intro i hi
  have h3:p.1≠i:=hi j me p h1 h2 (by simp)
  rw [List.getElem?_set_ne h3]
  refine I.rest i fun j' me' p' g1 g2 g3=>hi j' me' p' g1 g2 ?_
  simp only [Array.contains_push,Bool.or_eq_true]
  exact .inl g3
theorem SyncI.done{ms:List MapEntry}{l:List (Nat × Txt)}{old cs:List AV}{seen:Array Nat}(I:SyncI ms l old cs seen)(hnd:(l.map (·.1)).Nodup)(hin:∀ p∈l,p.1<old.length)(hl:ms.length=l.length)(hall:∀ x∈ms,seen.contains x.born=true):cs=setL old l:=by
 apply List.ext_getElem?
 intro i
 by_cases hi:i∈l.map (·.1)
 ·obtain ⟨p,hp,rfl⟩:=List.mem_map.1 hi
  rw [setL_get hnd hp (hin p hp)]
  obtain ⟨j,hj⟩:=List.mem_iff_getElem?.1 hp
  have hjl:=(gJ hj).1
  have hme:=List.getElem?_eq_getElem (l:=ms) (i:=j) (by omega)
  exact I.got j _ p hme hj (hall _ (List.getElem_mem _))
 ·rw [setL_other hi]
  refine I.rest i fun j me p g1 g2 _ he=>hi ?_
  exact List.mem_map.2 ⟨p,List.mem_of_getElem? g2,he⟩
set_option maxRecDepth 100000 in
set_option maxHeartbeats 3200000 in
theorem sync_run{F:Funs}{call:Jq}(hc:CallOk F Tryz.prog call){e:Env}{w0 w:World}{vs:Array Value}{d o m n c cl:Nat}{h h1 h2:AH}{old rest:List AV}{es:List (AV × AV)}{l:List (Nat × Txt)}
 (c1:call 202 [.ptr d 0,.lit (.int .i64 (.ofNat 0))] h=.ok (.lit (.int .i64 (.ofNat 0)),h1)) (c2:call 215 [.ptr d 0] h1=.ok (.lit (.bool true),h2))
 (hd:h2.bs[d]?=some (.cells (.slc o 0 n c 1::.map m::rest))) (ho:h2.bs[o]?=some (.cells old)) (hm:h2.bs[m]?=some (.map es cl)) (hes:entsA es=some l)
 (hnd:(l.map (·.1)).Nodup) (hin:∀ p∈l,p.1<n) (hn:n≤old.length) (hdo:d≠o) (H:HR F e w0 w h) (hv:VRs F e [.ptr d 0] vs.toList) :
 Calls Tryz.prog 153 vs w fun en w'=>∃ u,en=.returned u∧∃ e',e.le e'∧VR F e' (.lit (.int .i64 (.ofNat 0))) u∧HR F e' w0 w' { h2 with bs:=(h2.bs.set o (.cells (setL old l))).set m (.map [] cl) }:=by
 obtain ⟨v1,l1,hl1,g1,g3⟩:=hv
 obtain rfl:l1=[]:=g3
 obtain rfl:vs=#[v1]:=by apply Array.ext';exact hl1
 have g1':=g1
 obtain ⟨B,k,sz,hbd,rfl⟩:=g1
 have hc1:=jd (hc _ _ _ _ _ c1 e w0 w #[.pointer (some ⟨B,k+0,none⟩),.int .i64 0] H ⟨_,_,rfl,g1',_,_,rfl,rfl,rfl⟩)
 have hc2:=jd (fun e1 w1 (hle:e.le e1) H1=>hc _ _ _ _ _ c2 e1 w0 w1 #[.pointer (some ⟨B,k+0,none⟩)] H1 ⟨_,_,rfl,VR.le hle _ _ g1',rfl⟩)
 rw [Nat.add_zero] at *
 clear c1 c2 hl1 g1'
 replace hbd:=jd hbd
 go_enter Tryz.func153,Tryz.ntmps153
 go_wp2_with fail
 refine hc1.out.mono ?_
 rintro en w1 ⟨u,rfl,e1,le1,hu,H1⟩
 obtain rfl:u=.int .i64 0:=hu
 have hc3:=jd (hc2.out e1 w1 le1 H1)
 clear hc1 hc2 H H1
 go_wp2_with fail
 refine hc3.out.mono ?_
 rintro en w2 ⟨u,rfl,e2,le2,hu,H⟩
 obtain rfl:u=.bool true:=hu
 clear hc3
 have le:=Env.le_trans le1 le2
 have hx:=Env.le_bl le hbd.out
 obtain ⟨s0,cs0,s0v⟩:=H.load hd hx (i:=0) rfl
 obtain ⟨s1,cs1,s1v⟩:=H.load hd hx (i:=1) rfl
 obtain ⟨Bo,ko,no,c',o',hxo,rfl,ho1,ho2,ho3,ho4,ho5⟩:=s0v
 obtain ⟨Bm,km,nm,hxm,rfl⟩:=s1v
 rw [Nat.add_zero] at cs0
 obtain ⟨p1,p2,ms,p3,p4,p5,p6⟩:=H.objs _ _ _ hm hxm rfl
 obtain ⟨q1,q2,-⟩:=H.objs _ _ _ ho hxo rfl
 obtain ⟨r1,r2,-⟩:=H.objs _ _ _ hd hx rfl
 dsimp only at p1 p2 p3 q1 q2 r1 r2
 have hlive:Hid (∀ (i:Nat) (q:AO) (x:Nat × Nat × Nat),h2.bs[i]?=some q→e2.bl[i]?=some x→q.live=true→x.1≠w2.heap.size):=jd fun i q x a1 a2 a3 hh=>by
  have:=(H.objs i q x a1 a2 a3).2.1;omega
 have hrg:(Instr.range 169 (.map (some Bm))).run Tryz.prog w2=.ok (.pointer (some ⟨w2.heap.size,0,none⟩)) (w2.alloc (.mapIter (some Bm) cl #[] cl)):=run_range_map w2 _ _ _ Bm ms.toArray cl Tryz.underlying169 p3
 have hes2:=entsA_eq hes
 have hml:ms.length=l.length:=by have:=VRs.length _ _ p4;rw [hes2] at this;simpa using this
 have hent:Hid (∀ (j:Nat) me,ms[j]?=some me→∃ p,l[j]?=some p∧me.key=.int .i64 (p.1:Nat)∧VR F e2 (.txt p.2) me.val):=jd fun j me hj=>by
  have hjl:=(gJ hj).1
  obtain ⟨p,hp⟩:∃ p,l[j]?=some p:=⟨_,List.getElem?_eq_getElem (by omega)⟩
  refine ⟨p,hp,?_,?_⟩
  ·obtain ⟨y,hy,hr⟩:=VRs.get _ _ j (entP p).1 p4 (by rw [hes2];simp [hp])
   rw [List.getElem?_map,hj] at hy
   cases hy
   exact hr
  ·obtain ⟨y,hy,hr⟩:=VRs.get _ _ j (entP p).2 p5 (by rw [hes2];simp [hp])
   rw [List.getElem?_map,hj] at hy
   cases hy
   exact hr
 obtain ⟨r,hr⟩:∃ r,w2.heap.size=r:=⟨_,rfl⟩
 rw [hr] at hlive hrg
 have hIt:(w2.alloc (.mapIter (some Bm) cl #[] cl)).heap[r]?=some (.mapIter (some Bm) cl #[] cl):=by rw [← hr];exact heap_alloc_new w2 _
 have hMp:(w2.alloc (.mapIter (some Bm) cl #[] cl)).heap[Bm]?=some (.map ms.toArray cl):=by rw [heap_alloc_old w2 _ p2];exact p3
 have hH:HR F e2 w0 (w2.alloc (.mapIter (some Bm) cl #[] cl)) { h2 with bs:=h2.bs.set o (.cells old) }:=by
  have:=H.mono ((Below.refl w2.heap.size w2).alloc (Nat.le_refl _) (.mapIter (some Bm) cl #[] cl))
  have hset:h2.bs.set o (.cells old)=h2.bs:=by
   apply List.ext_getElem?
   intro i
   rw [List.getElem?_set]
   split
   ·rename_i hi
    subst hi
    rw [ho,if_pos (gJ ho).1]
   ·rfl
  rw [hset];exact this
 have hsz:w2.heap.size<(w2.alloc (.mapIter (some Bm) cl #[] cl)).heap.size:=by simp
 have hrw0:w0.heap.size≤r:=by omega
 have hBmo:Bm≠Bo:=H.inj m o _ _ (Bm,km,nm) (Bo,ko,no) (by intro hh;subst hh;rw [ho] at hm;cases hm) hm ho rfl rfl hxm hxo
 have hBor:Bo≠r:=by omega
 have hBmr:Bm≠r:=by omega
 have hBr:B≠r:=by omega
 go_upto_block 0 with (fail)
 generalize hw3:w2.alloc (.mapIter (some Bm) cl #[] cl)=w3 at *
 clear hc H hrg hw3 p1 p2 p3 q1 q2 r1 r2 cs0 cs1
 replace hr:=jd hr
 go_wp2_with fail
 go_loopw [] (fun wr=>∃ seen cs c0,r<wr.heap.size∧wr.heap[r]?=some (.mapIter (some Bm) cl seen c0)∧cl≤c0∧wr.heap[Bm]?=some (.map ms.toArray cl)∧HR F e2 w0 wr { h2 with bs:=h2.bs.set o (.cells cs) }∧SyncI ms l old cs seen) (fun wr=>match wr.heap[r]? with | some (.mapIter _ _ seen _)=>(leftOf ms.toArray seen).size | _=>0)
 case atStart=>exact ⟨#[],old,cl,by have:=hr.out;omega,hIt,Nat.le_refl _,hMp,hH,SyncI.start _ _ _⟩
 case round=>
  clear hIt hMp hH hsz
  obtain ⟨seen,cs,c0,hrs,hIt,hc0,hMp,H,hI⟩:=hrel
  replace hI:=jd hI
  rcases run_next_at (P:=Tryz.prog) wr 0 r Bm cl c0 seen ms.toArray cl hIt hMp (fun x hx=>p6.1 x hx) hc0 with ⟨h0,hnx⟩ | ⟨me,hme,w4,hw4,hnx⟩
  ·have hfin:cs=setL old l:=hI.out.done hnd (fun q hq=>Nat.lt_of_lt_of_le (hin q hq) hn) hml (fun x hx=>all_seen ms.toArray seen h0 x hx)
   subst hfin
   have hd':(h2.bs.set o (.cells (setL old l)))[d]?=some (.cells (.slc o 0 n c 1::.map m::rest)):=by rw [List.getElem?_set_ne (Ne.symm hdo)];exact hd
   have hmo:o≠m:=by intro hh;subst hh;rw [ho] at hm;cases hm
   have hm':(h2.bs.set o (.cells (setL old l)))[m]?=some (.map es cl):=by rw [List.getElem?_set_ne hmo];exact hm
   obtain ⟨s1,cs1,B1,k1,n1,hx1,rfl⟩:=H.load hd' hx (i:=1) rfl
   rw [hxm] at hx1
   cases hx1
   have hcl:(Builtin.clear_ #[169] 0 #[.map (some Bm)]).run Tryz.prog wr=.ok (.tuple #[]) (setBlock wr Bm (.map #[] cl)):=by
    simp [Builtin.clear_,run_underlying Tryz.underlying169,MapKept.run_getObj_map hMp,MapKept.run_setObj_map _ hMp,setBlock]
   have hfinal:=H.setMap (clock':=cl) (es':=[]) (ms':=[]) hm' hxm rfl rfl ⟨by simp,by simp⟩
   clear hlive hent
   go_wp2
   go_ret
   exact ⟨_,rfl,e2,le,rfl,hfinal⟩
  ·obtain ⟨hm1,hm2⟩:=mem_left hme
   obtain ⟨j,hj⟩:=List.mem_iff_getElem?.1 hm1
   have hj':ms[j]?=some me:=hj
   obtain ⟨q,hq,hkey,hqok,hval⟩:=hent.out j me hj'
   obtain ⟨s,hs⟩:∃ s,Hid (Qb (den F e2 q.2)=s):=⟨_,rfl⟩
   rw [hs.out] at hval
   rw [hkey,hval] at hnx
   have hqn:=hin q (List.mem_of_getElem? hq)
   have hw4h:w4.heap=wr.heap:=by rcases hw4 with rfl | rfl <;> rfl
   have hw4b:Below w0.heap.size w0 w4:=by
    rcases hw4 with rfl | rfl
    ·exact H.below
    ·exact H.below.drew
   obtain ⟨w5,hw5⟩:∃ w5,setBlock w4 r (.mapIter (some Bm) cl (seen.push me.born) cl)=w5:=⟨_,rfl⟩
   have h5o:∀ x,x≠r→w5.heap[x]?=wr.heap[x]?:=fun x hxr=>by
    rw [← hw5,← hw4h];simp only [setBlock];rw [Array.getElem?_setIfInBounds_ne (Ne.symm hxr)]
   have h5r:w5.heap[r]?=some (.mapIter (some Bm) cl (seen.push me.born) cl):=by
    rw [← hw5];simp only [setBlock];rw [Array.getElem?_setIfInBounds_self_of_lt (by rw [hw4h];exact hrs)]
   have h5s:w5.heap.size=wr.heap.size:=by rw [← hw5,← hw4h];simp [setBlock]
   have h5b:Below w0.heap.size w0 w5:=hw4b.trans (by
    rw [← hw5]
    exact ⟨rfl,rfl,rfl,by simp [setBlock],fun x hx=>by simp only [setBlock];rw [Array.getElem?_setIfInBounds_ne (by omega)]⟩)
   rw [hw5] at hnx
   have H5:HR F e2 w0 w5 { h2 with bs:=h2.bs.set o (.cells cs) }:=H.apart r (by omega) h5b (fun x _ hxr=>h5o x hxr) (fun i a x a1 a2 a3=>by
    by_cases hio:i=o
    ·subst hio
     rw [hxo] at a2;cases a2
     exact hBor
    ·exact hlive.out i a x (by rw [List.getElem?_set_ne (Ne.symm hio)] at a1;exact a1) a2 a3)
   have hen:(Instr.entry (.pointer (some ⟨r,0,none⟩))).run Tryz.prog w5=.ok (.tuple #[.int .i64 (q.1:Nat),.string s]) w5:=by
    have:=run_entry_at (P:=Tryz.prog) w5 r Bm cl seen ms.toArray cl me h5r (by rw [h5o Bm hBmr];exact hMp) hm1 p6.2
    rw [hkey,hval] at this
    exact this
   have hd':(h2.bs.set o (.cells cs))[d]?=some (.cells (.slc o 0 n c 1::.map m::rest)):=by rw [List.getElem?_set_ne (Ne.symm hdo)];exact hd
   have ho':(h2.bs.set o (.cells cs))[o]?=some (.cells cs):=by rw [List.getElem?_set_self (gJ ho).1]
   obtain ⟨s1,cs1,B1,k1,n1,c'',o'',hx1,rfl,hz1,hz2,hz3,hz4,hz5⟩:=H5.load hd' hx (i:=0) rfl
   rw [hxo] at hx1
   cases hx1
   obtain rfl:o''=ko+0:=by rcases hz1 with hz | hz <;> omega
   have hstep:=jd (hI.out.step p6.2 hnd hj' hq (Nat.lt_of_lt_of_le hqn hn))
   have hcsl:=hI.out.len
   obtain ⟨⟨u0,hu0⟩,hf0,H6⟩:=H5.store (x:=.txt q.2) (v:=.string s) ho' hxo (i:=q.1) (by omega) ⟨hqok,by rw [hs.out]⟩
   rw [List.set_set] at H6
   have hmeas:=jd (left_shrinks ms.toArray seen me hme)
   rw [Nat.add_zero] at *
   obtain ⟨pi,pt⟩:=q
   dsimp only at *
   have hqI:(pi:Int)<(n:Int):=by omega
   have hq0:(0:Int)≤(pi:Int):=by omega
   clear hlive hent hme hm1 hm2 hj hj' hkey hval hw4 hw4h hw4b hw5 hI H5 H
   go_wp2_with fail
   have hset:∀ x,x≠Bo→(w5.setCell ⟨Bo,o''+pi,none⟩ (.string s)).heap[x]?=w5.heap[x]?:=fun x hx=>Below.heap_setCell _ _ _ _ hx
   refine ⟨⟨seen.push me.born,cs.set pi (.txt pt),cl,by simp [World.setCell];omega,by rw [hset r (Ne.symm hBor)];exact h5r,Nat.le_refl _,by rw [hset Bm hBmo,h5o Bm hBmr];exact hMp,H6,hstep.out⟩,?_⟩
   rw [hset r (Ne.symm hBor),h5r,hIt]
   exact hmeas.out
def syPr(call:Jq):Prims:=onPr 153 fun args h=>match args with
 | [.ptr d o0]=>if Nat.beq o0 0 then some (match call 202 [.ptr d 0,.lit (.int .i64 (.ofNat 0))] h with
  | .ok (.lit (.int .i64 (.ofNat e0)),h1)=>if Nat.beq e0 0 then match call 215 [.ptr d 0] h1 with
   | .ok (.lit (.bool true),h2)=>match h2.bs[d]? with
    | some (.cells (.slc o oo n c 1::.map m::rest))=>match h2.bs[o]?,h2.bs[m]? with
     | some (.cells old),some (.map es cl)=>match entsA es with
      | some l=>if Nat.beq oo 0&&distB (l.map (·.1))&&l.all (fun p=>Nat.blt p.1 n)&&Nat.ble n old.length && !Nat.beq d o then
       h2.setF o (.cells (setL old l)) fun h3=>h3.setF m (.map [] cl) fun h4=>.ok (.lit (.int .i64 (.ofNat 0)),h4)
       else .no [153,4]
      | none=>.no [153,3]
     | _,_=>.no [153,2]
    | _=>.no [153,1]
   | .ok _=>.no [153,7]
   | .no l=>.no l else .no [153,8]
  | .ok _=>.no [153,6]
  | .no l=>.no l) else none
 | _=>none
theorem syPr_ok{F:Funs}{call:Jq}(hc:CallOk F Tryz.prog call):Qc F Tryz.prog (syPr call):=by
 refine Qc.on fun args h v h' hr e w0 w vs H hv=>?_
 split at hr
 rotate_left
 ·cases hr
 rename_i d o0
 split at hr
 rotate_left
 ·cases hr
 rename_i hb0
 obtain rfl:o0=0:=by simpa using hb0
 replace hr:=Option.some.inj hr
 split at hr
 rotate_left
 ·cases hr
 ·cases hr
 rename_i e0 h1 hc1
 split at hr
 rotate_left
 ·cases hr
 rename_i hb1
 obtain rfl:e0=0:=by simpa using hb1
 split at hr
 rotate_left
 ·cases hr
 ·cases hr
 rename_i h2 hc2
 split at hr
 rotate_left
 ·cases hr
 rename_i o oo n c m rest hd
 split at hr
 rotate_left
 ·cases hr
 rename_i old es cl ho hm
 split at hr
 rotate_left
 ·cases hr
 rename_i l hl
 split at hr
 rotate_left
 ·cases hr
 rename_i hb
 simp only [AH.setF_eq] at hr
 cases hr
 simp only [Bool.and_eq_true,Bool.not_eq_true',Nat.ble_eq,List.all_eq_true,Nat.blt_eq,Nat.beq_eq] at hb
 obtain ⟨⟨⟨⟨rfl,hb2⟩,hb3⟩,hb4⟩,hb5⟩:=hb
 exact sync_run hc hc1 hc2 hd ho hm hl (distB_nodup hb2) hb3 hb4 (by intro hh;rw [hh] at hb5;simp at hb5) H hv
end
end Go.Proofs.YthekdeikodppkaaGreatDoor
namespace Go.Proofs.YthekdeikodppkaaGreatDoor
open Go.RowKit
theorem rep_spliceS(a:ByteArray){k n m:Nat}(h:n+m≤k):splice (txs (List.replicate n a++List.replicate (k-n) ⟨#[]⟩)) n (txs (List.replicate m a))=txs (List.replicate (n+m) a++List.replicate (k-(n+m)) ⟨#[]⟩):=by
 unfold splice txs
 rw [List.map_append,List.map_append,List.take_left' (by simp),List.drop_append,List.drop_eq_nil_of_le (by simp),List.nil_append]
 simp only [List.map_replicate,List.length_replicate,List.drop_replicate]
 rw [← List.append_assoc,List.replicate_append_replicate,show k-n-(n+m-n)=k-(n+m) by omega]
set_option maxRecDepth 100000 in
set_option maxHeartbeats 1600000 in
theorem repeatS_any{w:World}{v:Value}{a:ByteArray}(k:Nat)(hr:Rd w 1 v 1 (txs [a]))(hk:k≤1000000) :
 Calls Tryz.prog 94 #[v,.int .i64 k] w (Ret fun r w'=>Own w w' [slc 9 1 r k (txs (List.replicate k a))]):=by
 have H:=Own.start w
 obtain ⟨b,o,c,rfl,hc1,hc2⟩:=hr.some (by simp [txs])
 have c0:=hr.cell (u:=.string a) (j:=0) rfl
 have HC0:=jd c0
 clear hr c0
 have hmul:=mul_any k hk
 have HM:=jd hmul
 clear hmul
 have hkI:(k:Int)≤9223372036854775807:=by omega
 have hkw:IntKind.u64.wrap (k:Int)=(k:Int):=IntWalk.u64_in _ ⟨by omega,by omega⟩
 have hkw2:IntKind.i64.wrap (k:Int)=(k:Int):=IntWalk.i64_in _ ⟨by omega,by omega⟩
 have hmk:∀ w:World,(Instr.makeSlice 26 (.int .i64 k) (.int .i64 k)).run Tryz.prog w=.ok (.slice (some ⟨w.heap.size,0,none⟩) k k) (w.alloc (.cells (madeCells #[.string ⟨#[]⟩] k) 9)):=run_make_row' _ _ _ 16 Tryz.underlying26 strInfo rfl .i64 .i64 k (by omega) (by omega)
 go_enter Tryz.func94,Tryz.ntmps94
 go_wp2_with fail
 refine (HM.out _).mono ?_
 rintro e w2 ⟨_,rfl,rfl,H2⟩
 have H:=H.join H2
 clear H2
 go_upto_region 7 with (fail)
 have h1:=H.alloc (.cells (madeCells #[.string ⟨#[]⟩] k) 9)
 have H:Own w (w2.alloc (.cells (madeCells #[.string ⟨#[]⟩] k) 9)) [slc 9 1 (.slice (some ⟨w2.heap.size,0,none⟩) k k) k (txs (List.replicate 0 a++List.replicate (k-0) ⟨#[]⟩))]:=
  h1.slc_mk (by simp [txs]) (Nat.le_refl _) (by simp [maxLen];omega) (by simp [size_madeCells]) (by rw [toList_madeCells_one];simp [txs])
 have c0:=(show (w2.alloc (.cells (madeCells #[.string ⟨#[]⟩] k) 9)).cell? ⟨b,o+0,none⟩=some (.string a) by rw [H.oldCell (World.block_lt_of_cell? _ _ HC0.out)];exact HC0.out)
 clear h1
 generalize w2.alloc (.cells (madeCells #[.string ⟨#[]⟩] k) 9)=w3 at *
 obtain ⟨g,hg⟩:∃ g,w2.heap.size=g:=⟨_,rfl⟩
 rw [hg] at H ⊢
 clear hg hmk HM
 have hsrc:∀ j v,(txs (List.replicate (min k 1) a))[j]?=some v→w3.cell? ((⟨b,o,none⟩:Addr).add j)=some v:=fun j v hj=>by
  have hlt:=(gJ hj).1
  rw [Qr,List.length_replicate] at hlt
  have:j=0:=by omega
  subst this
  rw [Addr.add_lit,c0]
  have hk1:min k 1=1:=by omega
  rw [hk1] at hj
  exact hj
 obtain ⟨m1,hm1⟩:∃ m1,Hid (min k 1=m1):=⟨_,rfl⟩
 have hmin:m1=Nat.min 1 k:=by rw [← hm1.out];show min k 1=min 1 k;omega
 rw [hm1.out] at hsrc
 have HS:=jd hsrc
 have HMIN:=jd hmin
 have hm1k:m1≤k:=by rw [← hm1.out];omega
 have hm10:1≤k→1≤m1:=fun h=>by rw [← hm1.out];omega
 have HP:=jd hm10
 have HONE:Hid (∀ m:Nat,∀ v∈txs (List.replicate m a),v.oneCell'=true):=jd (fun m v hv=>by
  unfold txs at hv;obtain ⟨x,_,rfl⟩:=List.mem_map.1 hv;rfl)
 clear c0 hsrc hmin hm10
 go_wp2_with (refine wpList_copy_slc rfl _ _ _ _ rfl Tryz.underlying26 (by kernel_rfl) H _ _ _ _ _ _ rfl rfl 0 m1 (txs (List.replicate m1 a)) (by simp [txs]) HMIN.out (fun h=>⟨rfl,_,rfl,HS.out⟩) (by omega) (HONE.out m1) ?_;clear H;intro w4 H;rw [rep_spliceS a (by omega),Nat.zero_add] at H)
 go_loopw [8] (fun s8 wx=>∃ n:Nat,s8=.int .i64 n∧n≤k∧(1≤k→1≤n)∧Own w wx [slc 9 1 (.slice (some ⟨g,0,none⟩) k k) k (txs (List.replicate n a++List.replicate (k-n) ⟨#[]⟩))]) (fun s8 _=>k-(intOf s8).toNat)
 case atStart=>exact ⟨m1,by go_num,hm1k,HP.out,H⟩
 case round=>
  clear H
  obtain ⟨n,rfl,hn,hn1,H⟩:=hrel
  by_cases hlt:n<k
  ·have hI:(n:Int)<(k:Int):=by omega
   have hn1:=hn1 (by omega)
   obtain ⟨m,hm⟩:∃ m,Hid (min n (k-n)=m):=⟨_,rfl⟩
   have hm1:1≤m:=by rw [← hm.out];omega
   have hmk:n+m≤k:=by rw [← hm.out];omega
   have hmn:m≤n:=by rw [← hm.out];omega
   have hmin:m=Nat.min n (k-n):=hm.out.symm
   have HMIN2:=jd hmin
   have hsub:((k:Int)-(n:Int))=((k-n:Nat):Int):=by omega
   clear hmin
   have hcut:(n:Int)≤(k:Int):=by omega
   have hn0:n≠0:=by omega
   have hkn:k≠n:=by omega
   go_upto_region 9 with (fail)
   refine wp_region_pres (fun σ w1=>Own w w1 [slc 9 1 (.slice (some ⟨g,0,none⟩) k k) k (txs (List.replicate n a++List.replicate (k-n) ⟨#[]⟩))]) 7 [] [0] (by kernel_rfl) (by kernel_rfl) (by kernel_rfl) (by kernel_rfl) (fun _ _ d _ _ h=>by cases d <;> exact h) ⟨_,_,rfl,fun w=>(by first | rfl | (go_simp;rfl)),rfl⟩ H.drew ?_
   simp only [List.take_succ_cons,List.take_zero,List.drop_succ_cons,List.drop_zero]
   repeat
    first
    | (refine calm_value (v:=?_) (by decide) rfl (fun σ w1 hS=>?_) ?_
       rotate_left
       ·skip
        first | (go_simp;rfl) | rfl
       simp only [Act.put,putC])
    | (refine calm_skip (by decide) rfl ?_
       simp only [Act.put,putC])
   refine calm_nil ?_
   intro σ wd hσ HD
   clear H
   simp only [Jx,List.foldl_nil]
   have hsrc:∀ j v,(txs (List.replicate m a))[j]?=some v→wd.cell? ((⟨g,0,none⟩:Addr).add j)=some v:=fun j v hj=>by
    have hlt:=(gJ hj).1
    rw [Qr,List.length_replicate] at hlt
    rw [Addr.add_lit]
    refine HD.rd.cell ?_
    unfold txs at hj ⊢
    rw [List.map_append,List.getElem?_append_left (by simp;omega),← hj]
    simp only [List.map_replicate,List.getElem?_replicate]
    rw [if_pos (by omega),if_pos hlt]
   have HS2:=jd hsrc
   have hnm:IntKind.i64.wrap ((n:Int)+(m:Int))=((n+m:Nat):Int):=by rw [Int.natCast_add];exact IntWalk.i64_in _ ⟨by omega,by omega⟩
   clear hsrc
   go_wp2_with (refine wpList_copy_slc rfl _ _ _ _ rfl Tryz.underlying26 (by kernel_rfl) HD _ _ _ _ _ _ rfl rfl n m (txs (List.replicate m a)) (by simp [txs]) HMIN2.out (fun h=>⟨rfl,_,rfl,HS2.out⟩) (by omega) (HONE.out m) ?_;clear HD;intro w6 H;rw [rep_spliceS a (by omega)] at H)
   go_roundw
   case rel=>exact ⟨n+m,by go_num,by omega,fun _=>by omega,H⟩
   case measure=>simp [intOf];omega
  ·have hI:¬ (n:Int)<(k:Int):=by omega
   obtain rfl:n=k:=by omega
   rw [Nat.sub_self,List.replicate_zero,List.append_nil] at H
   go_wp2_with fail
   go_ret
   exact ⟨_,rfl,H⟩
section
variable {F:Funs} {e:Env} {w0 w w':World} {h:AH}
theorem HR.pushB(H:HR F e w0 w h){ao:AO}{B k n:Nat}{e':Env}(he:e'=⟨e.bl++[(B,k,n)],e.tx⟩)(hB:w.heap.size≤B)(hB2:B<w'.heap.size)
 (hbw:Below w.heap.size w w') (ho:OR F e' w' (B,k,n) ao):HR F e' w0 w' { h with bs:=h.bs++[ao] }:=by
 have hle:e.le e':=by rw [he];exact ⟨⟨_,rfl⟩,⟨[],by simp⟩⟩
 have hbl:e'.bl=e.bl++[(B,k,n)]:=by rw [he]
 have hl:=H.len
 have key:∀ (i:Nat) (o:AO) (x:Nat × Nat × Nat),(h.bs++[ao])[i]?=some o→e'.bl[i]?=some x→o.live=true→(i<h.bs.length∧h.bs[i]?=some o∧e.bl[i]?=some x∧x.1<w.heap.size)∨(i=h.bs.length∧x=(B,k,n)∧o=ao):=by
  intro i o x h1 h2 h3
  rcases Nat.lt_or_ge i h.bs.length with hi | hi
  ·rw [List.getElem?_append_left hi] at h1
   rw [hbl,List.getElem?_append_left (by omega)] at h2
   exact .inl ⟨hi,h1,h2,(H.objs i o x h1 h2 h3).2.1⟩
  ·rw [List.getElem?_append_right hi] at h1
   rw [hbl,List.getElem?_append_right (by omega)] at h2
   rw [hl] at h1
   cases hi':i-e.bl.length with
   | zero=>
    rw [hi'] at h1 h2
    simp at h1 h2
    exact .inr ⟨by omega,h2.symm,h1.symm⟩
   | succ m=>rw [hi'] at h1;simp at h1
 refine ⟨H.below.trans (hbw.mono H.below'),?_,?_,?_,?_⟩
 ·simp [hbl,hl]
 ·rw [he];exact H.nv
 ·intro i o' x h1 h2 h3
  rcases key i o' x h1 h2 h3 with ⟨-,a2,a3,a4⟩ | ⟨-,rfl,rfl⟩
  ·obtain ⟨g1,g2,g3⟩:=H.objs i o' x a2 a3 h3
   exact ⟨g1,Nat.lt_of_lt_of_le g2 hbw.size,(g3.le hle).of_heap (hbw.block _ g2)⟩
  ·exact ⟨Nat.le_trans H.below' hB,hB2,ho⟩
 ·intro i j o1 o2 x y hij h1 h2 l1 l2 b1 b2
  rcases key i o1 x h1 b1 l1 with ⟨a1,a2,a3,a4⟩ | ⟨a1,rfl,-⟩ <;> rcases key j o2 y h2 b2 l2 with ⟨c1,c2,c3,c4⟩ | ⟨c1,rfl,-⟩
  ·exact H.inj i j o1 o2 x y hij a2 c2 l1 l2 a3 c3
  ·intro hh;rw [hh] at a4;dsimp only at a4;omega
  ·intro hh;rw [← hh] at c4;dsimp only at c4;omega
  ·omega
theorem HR.made(H:HR F e w0 w h){t:TypeId}{v:Value}{n:Nat}{xs:List Value}{cs:List AV}(ho:Own w w' (slc t 1 v n xs::[]))(hn:0<n)(hcs:VRs F e cs xs) :
 ∃ e',e.le e'∧VR F e' (.slc h.bs.length 0 n n 1) v∧HR F e' w0 w' { h with bs:=h.bs++[.cells cs] }:=by
 rcases ho.slc_cases with ⟨-,rfl,-,-⟩ | ⟨g,cap,cur,rfl,hl,h1,h2,h3,h4,h5⟩
 ·omega
 ·rw [Nat.mul_one] at h3 h4
  have hle:e.le ⟨e.bl++[(g,0,cur.size)],e.tx⟩:=⟨⟨_,rfl⟩,⟨[],by simp⟩⟩
  refine ⟨_,hle,⟨g,0,cur.size,cap,0,?_,rfl,.inl rfl,Nat.le_refl _,h1,by omega,h2⟩,H.pushB rfl h5.block.2 (Array.getElem?_eq_some_iff.1 h5.block.1).1 h5.below ?_⟩
  ·rw [H.len];simp
  ·have hlv:=VRs.length _ _ hcs
   refine ⟨cur,t,(0,0),h5.block.1,rfl,by simp,xs,VRs.le hle _ _ hcs,?_⟩
   rw [List.drop_zero,← hlv,← h4,List.length_take,Array.length_toList,Nat.min_eq_left (by omega)]
theorem vrs_replicate{a:AV}{v:Value}(h:VR F e a v):∀ n,VRs F e (List.replicate n a) (List.replicate n v)
 | 0=>rfl
 | n+1=>⟨v,List.replicate n v,rfl,h,vrs_replicate h n⟩
end
noncomputable section
def prRep:Prims:=onPr 94 fun args h=>match args with
 | [x,.lit (.int .i64 (.ofNat n))]=>match argTxts x h with
  | some [t]=>if Nat.ble n 100000&&Nat.blt 0 n then fNat n fun n=>h.pushF (.cells (List.replicate n (.txt t))) fun h'=>some (.ok (.slc h.bs.length 0 n n 1,h')) else none
  | _=>none
 | _=>none
theorem prRep_ok{F:Funs}:Qc F Tryz.prog prRep:=by
 refine Qc.on fun args h v h' hr e w0 w vs H hv=>?_
 split at hr
 rotate_left
 ·cases hr
 rename_i x n
 split at hr
 rotate_left
 ·cases hr
 rename_i t hl
 split at hr
 rotate_left
 ·cases hr
 rename_i hn
 simp only [fNat_eq,AH.pushF_eq] at hr
 cases hr
 simp only [Bool.and_eq_true,Nat.ble_eq,Nat.blt_eq] at hn
 obtain ⟨v1,l1,hl1,g1,v2,l2,hl2,g2,g3⟩:=hv
 obtain rfl:l2=[]:=g3
 subst hl2
 obtain rfl:vs=#[v1,v2]:=by apply Array.ext';exact hl1
 obtain rfl:v2=.int .i64 (.ofNat n):=g2
 obtain ⟨⟨m,hrd⟩,hok⟩:=argTxts_rd H hl g1
 have hm:m=1:=by have:=hrd.len;simpa [txs] using this.symm
 subst hm
 refine (repeatS_any n hrd (by omega)).mono ?_
 rintro en w' ⟨u,rfl,ho⟩
 obtain ⟨e',h1,h2,h3⟩:=H.made (cs:=List.replicate n (.txt t)) ho (by omega) (by
  have:=vrs_replicate (F:=F) (e:=e) (a:=.txt t) (v:=.string (Qb (den F e t))) ⟨hok t (by simp),rfl⟩ n
  simpa [txs] using this)
 exact ⟨u,rfl,e',h1,h2,h3⟩
end
end Go.Proofs.YthekdeikodppkaaGreatDoor
namespace Go.Proofs
open Go.Shelf Go.RowKit
def Tryz.layContains_ren:Go.Shelf.Ren:=⟨fun | 144=>183 | 143=>258 | 219=>317 | 217=>352 | 225=>353 | 224=>354 | 267=>355 | 266=>376 | 314=>377 | n=>n,fun | 9=>9 | 4=>4 | 3=>3 | 5=>5 | 46=>81 | 146=>229 | 51=>228 | n=>n,fun | 1=>0 | n=>n⟩
theorem Tryz.layContains:Go.Proofs.Lays.n144 Tryz.prog Tryz.layContains_ren:={
 mixed:=by kernel_rfl
 f143:=Tryz.func258.trans (congrArg some (by kernel_rfl))
 f144:=Tryz.func183.trans (congrArg some (by kernel_rfl))
 f217:=Tryz.func352.trans (congrArg some (by kernel_rfl))
 f219:=Tryz.func317.trans (congrArg some (by kernel_rfl))
 f224:=Tryz.func354.trans (congrArg some (by kernel_rfl))
 f225:=Tryz.func353.trans (congrArg some (by kernel_rfl))
 f266:=Tryz.func376.trans (congrArg some (by kernel_rfl))
 f267:=Tryz.func355.trans (congrArg some (by kernel_rfl))
 f314:=Tryz.func377.trans (congrArg some (by kernel_rfl))
 t3:=Tryz.underlying3
 a3:=Tryz.isAgg3
 z3:=Tryz.sizeOf3
 v3:=Tryz.zeroValue3
 t4:=Tryz.underlying4
 a4:=Tryz.isAgg4
 z4:=Tryz.sizeOf4
 v4:=Tryz.zeroValue4
 t5:=Tryz.underlying5
 a5:=Tryz.isAgg5
 z5:=Tryz.sizeOf5
 v5:=Tryz.zeroValue5
 t9:=Tryz.underlying9
 a9:=Tryz.isAgg9
 z9:=Tryz.sizeOf9
 v9:=Tryz.zeroValue9
 t46:=Tryz.underlying81
 a46:=Tryz.isAgg81
 z46:=Tryz.sizeOf81
 v46:=Tryz.zeroValue81
 t51:=Tryz.underlying228
 a51:=Tryz.isAgg228
 z51:=Tryz.sizeOf228
 v51:=Tryz.zeroValue228
 t146:=Tryz.underlying229
 a146:=Tryz.isAgg229
 z146:=Tryz.sizeOf229
 v146:=Tryz.zeroValue229
 g1:=by kernel_rfl }
def Tryz.layIdx_ren:Go.Shelf.Ren:=⟨fun | 219=>317 | 217=>352 | 225=>353 | 224=>354 | 267=>355 | 266=>376 | 314=>377 | n=>n,fun | 9=>9 | 3=>3 | 4=>4 | 5=>5 | 46=>81 | 146=>229 | 51=>228 | n=>n,fun | 1=>0 | n=>n⟩
theorem Tryz.layIdx:Go.Proofs.Lays.n219 Tryz.prog Tryz.layIdx_ren:={
 mixed:=by kernel_rfl
 f217:=Tryz.func352.trans (congrArg some (by kernel_rfl))
 f219:=Tryz.func317.trans (congrArg some (by kernel_rfl))
 f224:=Tryz.func354.trans (congrArg some (by kernel_rfl))
 f225:=Tryz.func353.trans (congrArg some (by kernel_rfl))
 f266:=Tryz.func376.trans (congrArg some (by kernel_rfl))
 f267:=Tryz.func355.trans (congrArg some (by kernel_rfl))
 f314:=Tryz.func377.trans (congrArg some (by kernel_rfl))
 t3:=Tryz.underlying3
 a3:=Tryz.isAgg3
 z3:=Tryz.sizeOf3
 v3:=Tryz.zeroValue3
 t4:=Tryz.underlying4
 a4:=Tryz.isAgg4
 z4:=Tryz.sizeOf4
 v4:=Tryz.zeroValue4
 t5:=Tryz.underlying5
 a5:=Tryz.isAgg5
 z5:=Tryz.sizeOf5
 v5:=Tryz.zeroValue5
 t9:=Tryz.underlying9
 a9:=Tryz.isAgg9
 z9:=Tryz.sizeOf9
 v9:=Tryz.zeroValue9
 t46:=Tryz.underlying81
 a46:=Tryz.isAgg81
 z46:=Tryz.sizeOf81
 v46:=Tryz.zeroValue81
 t51:=Tryz.underlying228
 a51:=Tryz.isAgg228
 z51:=Tryz.sizeOf228
 v51:=Tryz.zeroValue228
 t146:=Tryz.underlying229
 a146:=Tryz.isAgg229
 z146:=Tryz.sizeOf229
 v146:=Tryz.zeroValue229
 g1:=by kernel_rfl }
end Go.Proofs
namespace Go.Proofs.YthekdeikodppkaaGreatDoor
open Go.RowKit
def cutI(s:ByteArray):Int:=Lib.indexByte s.data.toList 47
theorem cutI_cases(s:ByteArray):cutI s = -1∨∃ k:Nat,cutI s=k∧k<s.size:=by
 have h:=Lib.indexByte_ge s.data.toList 47
 by_cases h0:cutI s = -1
 ·exact .inl h0
 ·right
  have h1:0≤cutI s:=by unfold cutI at h0 ⊢;omega
  obtain ⟨k,hk⟩:=Int.eq_ofNat_of_zero_le h1
  refine ⟨k,hk,?_⟩
  have:=(Lib.indexByte_some (o:=k) hk).1
  have:=(gJ this).1
  simpa using this
def cutA(s:ByteArray):ByteArray:=if cutI s<0 then s else s.extract 0 (cutI s).toNat
def cutB(s:ByteArray):ByteArray:=if cutI s<0 then ⟨#[]⟩ else s.extract ((cutI s).toNat+1) s.size
def cutM(s:ByteArray):Bool:=decide (0≤cutI s)
def pbad(s:ByteArray):Bool:=s.toList.isEmpty||s.toList==[46]||s.toList==[46,46]
def okG:Nat→ByteArray→Bool
 | 0,s=>!pbad s
 | f+1,s=>if cutI s<0 then !pbad s else !pbad (cutA s)&&okG f (cutB s)
def pathF(p:ByteArray):Bool:=decide (0<p.size)&&decide (p.size≤4096)&&decide (Lib.indexByte p.data.toList 0<0)&&okG p.size p
set_option maxRecDepth 100000 in
set_option maxHeartbeats 3200000 in
theorem cut1_any(s:ByteArray)(hs:s.size≤1000000)(w:World) :
 Calls Tryz.prog 260 #[.string s,.string ⟨#[47]⟩] w (Ret fun r w'=>r=.tuple #[.string (cutA s),.string (cutB s),.bool (cutM s)]∧Own w w' []):=by
 have H:=Own.start w
 have HC:=jd (Any.stringslite_Index_one (P:=Tryz.prog) Tryz.layIdx s 47 w)
 have hX:Calls Tryz.prog 318 #[.string s,.string ⟨#[47]⟩] w (Ret fun r w'=>r=.tuple #[.string (cutA s),.string (cutB s),.bool (cutM s)]∧Own w w' []):=by
  obtain ⟨Z,hZ⟩:∃ Z,s.size=Z:=⟨_,rfl⟩
  obtain ⟨A,hA⟩:∃ A,Hid (cutA s=A):=⟨_,rfl⟩
  obtain ⟨B,hB⟩:∃ A,Hid (cutB s=A):=⟨_,rfl⟩
  obtain ⟨M,hM⟩:∃ A,Hid (cutM s=A):=⟨_,rfl⟩
  rw [hA.out,hB.out,hM.out]
  rw [show Lib.indexByte s.data.toList 47=cutI s from rfl] at HC
  rcases cutI_cases s with h | ⟨k,h,hk⟩
  ·have eA:A=s:=by rw [← hA.out,cutA,if_pos (by omega)]
   have eB:B=⟨#[]⟩:=by rw [← hB.out,cutB,if_pos (by omega)]
   have eM:M=false:=by rw [← hM.out,cutM];simp;omega
   subst eA;subst eB;subst eM
   rw [h] at HC
   clear h hA hB hM
   go_enter Tryz.func318,Tryz.ntmps318
   go_wp2_with fail
   refine HC.out.mono ?_
   rintro e w2 ⟨rfl,hw2⟩
   obtain rfl:w=w2:=hw2.symm
   go_wp2
   go_ret3
   exact ⟨_,rfl,rfl,H⟩
  ·have eA:s.extract 0 k=A:=by rw [← hA.out,cutA,if_neg (by omega),h];rfl
   obtain ⟨q,hq⟩:∃ q,Hid (k+1=q):=⟨_,rfl⟩
   have eB:s.extract q Z=B:=by rw [← hB.out,cutB,if_neg (by omega),h,hZ,← hq.out];rfl
   have eM:M=true:=by rw [← hM.out,cutM];simp;omega
   subst eM
   rw [h] at HC
   replace h:=jd h
   rw [hZ] at hk hs
   have e1:IntKind.i64.wrap ((k:Int)+1)=(q:Int):=by have:=hq.out;rw [IntWalk.i64_in _ ⟨by omega,by omega⟩];omega
   have hk2:q≤Z:=by have:=hq.out;omega
   have hk3:(q:Int)≤(Z:Int):=by omega
   have hk5:(0:Int)≤(q:Int):=by omega
   have hk4:(k:Int)≤(Z:Int):=by omega
   have hk0:(0:Int)≤(k:Int):=by omega
   clear hA hB hM
   go_enter Tryz.func318,Tryz.ntmps318
   go_wp2_with fail
   refine HC.out.mono ?_
   rintro e w2 ⟨rfl,hw2⟩
   obtain rfl:w=w2:=hw2.symm
   go_upto_region 3 with (fail)
   refine Qa (fun w1=>Own w w1 []) 11 (by kernel_rfl) (by kernel_rfl) H.drew ?_
   simp only [List.take_succ_cons,List.take_zero,List.drop_succ_cons,List.drop_zero]
   repeat
    first
    | (refine calm_value (v:=?_) (by decide) rfl (fun σ w1 hS=>?_) ?_
       rotate_left
       ·skip
        first | (go_simp;rfl) | rfl
       simp only [Act.put,putC])
    | (refine calm_skip (by decide) rfl ?_
       simp only [Act.put,putC])
   refine calm_nil ?_
   intro wd HD
   go_wp2
   go_ret3
   exact ⟨_,rfl,rfl,HD⟩
 replace hX:=jd hX
 clear HC
 go_enter Tryz.func260,Tryz.ntmps260
 go_wp2_with fail
 refine hX.out.mono ?_
 rintro e w2 ⟨_,rfl,rfl,H2⟩
 go_wp2
 go_ret3
 exact ⟨_,rfl,rfl,H2⟩
theorem pathF_part{f:Nat}{s:ByteArray}(hf:s.size≤f)(hbad:pbad (cutA s)=false)(hm:cutM s=true):∃ g,okG f s=okG g (cutB s)∧(cutB s).size≤g∧(cutB s).size<s.size:=by
 have h0:0≤cutI s:=by simpa [cutM] using hm
 rcases cutI_cases s with h | ⟨k,h,hk⟩
 ·omega
 ·cases f with
  | zero=>omega
  | succ f=>
   have hB:(cutB s).size=s.size-(k+1):=by rw [cutB,if_neg (by omega),ByteArray.size_extract,h];simp only [Int.toNat_natCast];omega
   refine ⟨f,?_,by omega,by omega⟩
   rw [okG,if_neg (by omega),hbad];rfl
theorem pathF_last{f:Nat}{s:ByteArray}(hm:cutM s=false):okG f s = !pbad (cutA s):=by
 have h0:cutI s<0:=by simpa [cutM] using hm
 have hA:cutA s=s:=by rw [cutA,if_pos h0]
 cases f with
 | zero=>rw [okG,hA]
 | succ f=>rw [okG,if_pos h0,hA]
theorem pathF_bad{f:Nat}{s:ByteArray}(hf:s.size≤f)(hbad:pbad (cutA s)=true):okG f s=false:=by
 by_cases hm:cutM s=true
 ·have h0:0≤cutI s:=by simpa [cutM] using hm
  rcases cutI_cases s with h | ⟨k,h,hk⟩
  ·omega
  ·cases f with
   | zero=>omega
   | succ f=>rw [okG,if_neg (by omega),hbad];rfl
 ·rw [pathF_last (by simpa using hm),hbad];rfl
set_option maxRecDepth 100000 in
set_option maxHeartbeats 6400000 in
attribute [local go_sem] Oper.semAt_some in
theorem parts_in{w0:World}{p:ByteArray}(hp:p.size≤1000000)(E B:Nat)(l D:Nat)(rA rZ:Obj)(W:World)
 (hY:∀ (i:ByteArray) (x:ByteArray) (W:World),Own w0 W (blk l rA::blk D dfr::[blk E (.cells #[.int .i64 0] 29),blk B (.cells #[.string i] 9)])→YieldAt Fence.wide (3-1-1) Tryz.prog l #[.string x] W fun e W'=>
   ((!pbad x)=true∧e=.returned (.bool true)∧Own w0 W' (blk l rA::blk D dfr::[blk E (.cells #[.int .i64 0] 29),blk B (.cells #[.string i] 9)]))∨((!pbad x)=false∧e=.returned (.bool false)∧Own w0 W' (blk l rZ::blk D dfr::[blk E (.cells #[.int .i64 5] 29),blk B (.cells #[.string i] 9)])))
 (H:Own w0 W (blk l rA::blk D dfr::[blk E (.cells #[.int .i64 0] 29),blk B (.cells #[.string p] 9)])) :
 CallsIn Fence.wide (3-1) Tryz.prog 259 (#[.func (.yield l) #[] #[]]++#[.pointer (some ⟨B,0,none⟩)]) W fun e W'=>(∃ v,e=.returned v) ∧
  ((okG p.size p=true∧∃ i,Own w0 W' (blk l rA::blk D dfr::[blk E (.cells #[.int .i64 0] 29),blk B (.cells #[.string i] 9)]))∨(okG p.size p=false∧∃ i,Own w0 W' (blk l rZ::blk D dfr::[blk E (.cells #[.int .i64 5] 29),blk B (.cells #[.string i] 9)]))):=by
 obtain ⟨G,hG⟩:∃ G,Hid (okG p.size p=G):=⟨_,rfl⟩
 rw [hG.out]
 have hcut:=jd fun s hs w=>callsIn_wide (n:=1).2 (cut1_any s hs w)
 replace hY:=jd hY
 refine callsIn_of_wp Tryz.func259 rfl trivial ?_ rfl
 simp only [Tryz.ntmps259,List.size_toArray,List.length_cons,List.length_nil,Nat.reduceAdd,Nat.reduceSub,Array.replicate_succ,Array.replicate_zero,List.push_toArray,List.append_toArray,List.nil_append,List.cons_append]
 gi_wp2
 gi_loopw [] (fun wr=>∃ (f:Nat) (r:ByteArray),r.size≤f∧r.size≤1000000∧Hid (okG f r=G)∧Own w0 wr (blk l rA::blk D dfr::[blk E (.cells #[.int .i64 0] 29),blk B (.cells #[.string r] 9)])) (fun wr=>match wr.cell? ⟨B,0,none⟩ with | some (.string s)=>s.size | _=>0)
 case atStart=>exact ⟨p.size,p,Nat.le_refl _,hp,hG,H⟩
 case round=>
  clear H hG
  obtain ⟨f,r,hrf,hr6,hok,H⟩:=hrel
  have H':=H
  replace H':=jd H'
  have c0:wr.cell? ⟨B,0,none⟩=some (.string r):=(H.front 3 rfl).cells 0
  have hp1:=jd (fun h1 h2=>pathF_part (f:=f) (s:=r) hrf h1 h2)
  have hp2:=jd (fun h1=>pathF_last (f:=f) (s:=r) h1)
  have hp3:=jd (fun h1=>pathF_bad (f:=f) (s:=r) hrf h1)
  have HC:=jd (hcut.out r hr6 wr)
  obtain ⟨x,hx⟩:∃ x,Hid (cutA r=x):=⟨_,rfl⟩
  obtain ⟨y,hy⟩:∃ x,Hid (cutB r=x):=⟨_,rfl⟩
  obtain ⟨m,hm⟩:∃ x,Hid (cutM r=x):=⟨_,rfl⟩
  rw [hx.out,hm.out,hy.out] at hp1
  rw [hx.out,hm.out] at hp2
  rw [hx.out] at hp3
  rw [hx.out,hm.out,hy.out] at HC
  clear hcut hx hy hm hrf
  gi_wp2_with fail
  refine ⟨trivial,HC.out.mono ?_⟩
  rintro e w2 ⟨_,rfl,rfl,H2⟩
  replace H:=H.join H2
  rw [List.nil_append] at H
  clear H2 HC c0
  obtain ⟨fn,tmps,assign,body,hy2,hR⟩:=hY.out r x w2 H
  replace hR:=jd hR
  gi_wp2_with fail
  refine hR.out.mono ?_
  rintro e w3 (⟨hb,rfl,H3⟩ | ⟨hb,rfl,H3⟩)
  ·have hb2:pbad x=false:=by simpa using hb
   have c0:w3.cell? ⟨B,0,none⟩=some (.string r):=(H3.front 3 rfl).cells 0
   have f0:=(H3.front 3 rfl).free 0
   clear hy2 hR H hb
   cases m
   ·have hG:G=true:=by rw [← hok.out,hp2.out rfl,hb2];rfl
    replace hG:=jd hG
    gi_wp2
    refine bodyPost_ret (results_none rfl _ _ _) rfl ?_
    exact ⟨⟨_,rfl⟩,.inl ⟨hG.out,r,H3⟩⟩
   ·obtain ⟨g,e1,e2,e3⟩:=hp1.out hb2 rfl
    replace e1:=jd e1
    replace e3:=jd e3
    gi_wp2
    have H4:=(H3.front 3 rfl).set 0 (.string y)
    have c4:=H4.cells 0
    rw [show (#[Value.string r].setIfInBounds 0 (.string y))[0]?=some (.string y) from rfl] at c4
    have H5:=((((H4.front 3 rfl).front 3 rfl).front 3 rfl))
    have c1:=(Own.front 3 H'.out rfl).cells 0
    rw [show (#[Value.string r])[0]?=some (.string r) from rfl] at c1
    refine ⟨⟨g,y,e2,by have:=e3.out;omega,jd (by rw [← e1.out];exact hok.out),H5⟩,?_⟩
    rw [c4,c1]
    exact e3.out
  ·have hb2:pbad x=true:=by simpa using hb
   have hG:G=false:=by rw [← hok.out,hp3.out hb2]
   replace hG:=jd hG
   clear hy2 hR H hb
   gi_wp2
   refine bodyPost_ret (results_none rfl _ _ _) rfl ?_
   exact ⟨⟨_,rfl⟩,.inr ⟨hG.out,r,H3⟩⟩
set_option maxRecDepth 100000 in
theorem partsm_any(p:ByteArray)(w:World):Calls Tryz.prog 184 #[.string p] w (fun e w'=>e=.returned (.func (.func 259) #[] #[.pointer (some ⟨w.heap.size,0,none⟩)])∧w'=w.alloc (.cells #[.string p] 9)):=by
 go_enter Tryz.func184,Tryz.ntmps184
 go_wp2
 go_ret
 exact ⟨rfl,rfl⟩
theorem err_load{w:World}{g:Nat}{x:Int}(h:w.cell? ⟨g,0,none⟩=some (.int .i64 x)):(loadVar 29 ⟨g,0,none⟩).run Tryz.prog w=.ok (.int .i64 x) w:=by
 go_simp
set_option maxRecDepth 100000 in
set_option maxHeartbeats 6400000 in
attribute [local go_sem] Oper.semAt_some in
theorem pacheck_any(p:ByteArray)(hp:p.size≤140737488351232)(w:World) :
 Calls Tryz.prog 118 #[.string p] w (fun e w'=>e=.returned (.int .i64 (if pathF p then 0 else 5))∧Own w w' []):=by
 obtain ⟨G,hG⟩:∃ G,Hid (pathF p=G):=⟨_,rfl⟩
 rw [hG.out]
 have HC:=jd (fun w=>callsIn_wide (n:=2).2 (Any.strings_Contains_one (P:=Tryz.prog) Tryz.layContains p 0 w))
 have HP:=jd (fun w=>callsIn_wide (n:=2).2 (partsm_any p w))
 obtain ⟨Z,hZ⟩:∃ Z,p.size=Z:=⟨_,rfl⟩
 have hemp:=jd (toList_empty p)
 rw [hZ] at hp hemp
 have H:=(Own.start w).alloc (.cells #[.int .i64 0] 29)
 refine (callsIn_wide (n:=3)).1 ?_
 refine callsIn_of_wp_marks Tryz.func118 rfl trivial ?_ rfl
 simp only [Tryz.ntmps118,List.size_toArray,List.length_cons,List.length_nil,Nat.reduceAdd,Nat.reduceSub,Array.replicate_succ,Array.replicate_zero,List.push_toArray,List.append_toArray,List.nil_append,List.cons_append]
 have c0:=H.cells 0
 have f0:=H.free 0
 by_cases h0:Z=0
 ·have hE:p.toList.isEmpty=true:=by rw [hemp.out];simp [h0]
  have hG0:G=false:=by rw [← hG.out,pathF,hZ,h0];rfl
  subst hG0
  gi_wp2_with fail
  refine ⟨trivial,?_⟩
  gi_wp2
  exact ⟨_,Zm rfl _ _ _ _ rfl (err_load (x:=5) (((Own.start w).alloc (.cells #[.int .i64 5] 29)).cells 0)),rfl,(Own.start w).alloc' _⟩
 ·have hE:p.toList.isEmpty=false:=by rw [hemp.out];simp [h0]
  by_cases h4:4096<Z
  ·have hG0:G=false:=by rw [← hG.out,pathF,hZ];simp;omega
   subst hG0
   have h4I:(4096:Int)<(Z:Int):=by omega
   gi_wp2_with fail
   refine ⟨trivial,?_⟩
   gi_wp2
   exact ⟨_,Zm rfl _ _ _ _ rfl (err_load (x:=5) (((Own.start w).alloc (.cells #[.int .i64 5] 29)).cells 0)),rfl,(Own.start w).alloc' _⟩
  ·have h4I:¬ (4096:Int)<(Z:Int):=by omega
   obtain ⟨b,hb⟩:∃ b,Hid (decide (0≤Lib.indexByte p.data.toList 0)=b):=⟨_,rfl⟩
   rw [hb.out] at HC
   cases b
   ·have hG2:Hid (okG p.size p=G):=jd (by
     have:=of_decide_eq_false hb.out
     rw [← hG.out,pathF,hZ,decide_eq_true (show 0<Z by omega),decide_eq_true (show Z≤4096 by omega),decide_eq_true (show Lib.indexByte p.data.toList 0<0 by omega)];rfl)
    clear hG hb
    gi_wp2_with fail
    refine ⟨trivial,(HC.out _).mono ?_⟩
    rintro e w2 ⟨rfl,rfl⟩
    gi_wp2_with fail
    refine ⟨trivial,(HP.out _).mono ?_⟩
    rintro e w2 ⟨rfl,rfl⟩
    gi_wp2_with fail
    replace H:=H.alloc (.cells #[.string p] 9)
    rw [World.size_alloc] at H
    obtain ⟨B,hB⟩:∃ B,w.heap.size+1=B:=⟨_,rfl⟩
    rw [hB] at H ⊢
    generalize w.alloc _=w1 at *
    generalize w1.alloc _=w2 at *
    generalize w.heap.size=E at *
    clear hB
    have hIT:=fun (l D:Nat) (rA rZ:Obj) (W:World)=>parts_in (w0:=w) (p:=p) (by omega) E B l D rA rZ W
    rw [hG2.out] at hIT
    clear HC HP
    refine wpIn_range_pieces (w0:=w) rfl (by omega) (gf:=259) (lb:=#[.pointer (some ⟨B,0,none⟩)]) rfl trivial (enters_of Tryz.func259 (by kernel_rfl) rfl)
     (fun x:ByteArray=>Value.string x) rfl (fun x=>!pbad x) G (fun i=>[blk E (.cells #[.int .i64 0] 29),blk B (.cells #[.string i] 9)]) (fun i=>[blk E (.cells #[.int .i64 5] 29),blk B (.cells #[.string i] 9)]) p H.swap
     (fun x=>{ tmps:=#[.string p,undef,.pointer (some ⟨E,0,none⟩),.string x,.string p,.bool false,.bool false,.string p,.int .i64 Z,.bool false,.bool false,.bool false,.string p,.bool false,.bool false,.string p,.func (.func 259) #[] #[.pointer (some ⟨B,0,none⟩)],.string x,undef,undef,undef,undef,undef,undef,undef,undef,undef,undef],defers:=[] }) ?assign ?body hIT ?done ?stop
    case assign=>
     intro l x W K hK
     gi_wp2
     exact hK
    case body=>
     intro l D rc i x W H
     have c1:=(H.front 2 rfl).cells 0
     have f1:=(H.front 2 rfl).free 0
     rw [show (#[Value.int .i64 0])[0]?=some (.int .i64 0) from rfl] at c1
     have hb:=jd (show pbad x=(x.toList.isEmpty||x.toList==[46]||x.toList==[46,46]) from rfl)
     have fin:Own w (W.setCell ⟨E,0,none⟩ (.int .i64 5)) (blk l rc::blk D dfr::[blk E (.cells #[.int .i64 5] 29),blk B (.cells #[.string i] 9)]):=by
      have H2:=(H.front 2 rfl).set 0 (.int .i64 5)
      exact (((H2.front 2 rfl).front 2 rfl))
     replace fin:=jd fin
     cases e1:x.toList.isEmpty
     ·cases e2:(x.toList==[46])
      ·cases e3:(x.toList==[46,46])
       ·have hbx:pbad x=false:=by rw [hb.out,e1,e2,e3];rfl
        gi_wp2
       ·have hbx:pbad x=true:=by rw [hb.out,e3];simp
        gi_wp2
        exact fin.out
      ·have hbx:pbad x=true:=by rw [hb.out,e2];simp
       gi_wp2
       exact fin.out
     ·have hbx:pbad x=true:=by rw [hb.out,e1];rfl
      gi_wp2
      exact fin.out
    case done=>
     intro hg D i W H
     have c1:=(H.front 1 rfl).cells 0
     have f1:=(H.front 1 rfl).free 0
     rw [show (#[Value.int .i64 0])[0]?=some (.int .i64 0) from rfl] at c1
     gi_wp2
     have H2:=((H.front 1 rfl).set 0 (.int .i64 0)).front 1 rfl
     have H3:=H2.turn (w':=World.putObj (W.setCell ⟨E,0,none⟩ (.int .i64 0)) D (.deferred none)) rfl rfl rfl (by simp) (World.putObj_heap_same (Array.getElem?_eq_some_iff.1 H2.block.1).1) (fun k _ hk=>World.putObj_heap_other hk)
     refine ⟨by simp,.inl ⟨_,_,rfl,run_takeDeferred H2.block.1,_,Zm rfl _ _ _ _ rfl (err_load (x:=0) ((H3.front 1 rfl).cells 0)),?_,H3.bare⟩⟩
     first | rfl | (rw [hg];rfl)
    case stop=>
     intro hg D i W H
     gi_wp2
     all_goals
      have H3:=H.turn (w':=World.putObj W D (.deferred none)) rfl rfl rfl (by simp) (World.putObj_heap_same (Array.getElem?_eq_some_iff.1 H.block.1).1) (fun k _ hk=>World.putObj_heap_other hk)
      refine ⟨by simp,.inl ⟨_,_,rfl,run_takeDeferred H.block.1,_,Zm rfl _ _ _ _ rfl (err_load (x:=5) ((H3.front 1 rfl).cells 0)),?_,H3.bare⟩⟩
      first | rfl | (rw [hg];rfl)
   ·have hG0:G=false:=by
     have:=of_decide_eq_true hb.out
     rw [← hG.out,pathF,hZ,decide_eq_false (show ¬ Lib.indexByte p.data.toList 0<0 by omega)];simp
    subst hG0
    gi_wp2_with fail
    refine ⟨trivial,(HC.out _).mono ?_⟩
    rintro e w2 ⟨rfl,rfl⟩
    gi_wp2
    exact ⟨_,Zm rfl _ _ _ _ rfl (err_load (x:=5) (((Own.start w).alloc (.cells #[.int .i64 5] 29)).cells 0)),rfl,(Own.start w).alloc' _⟩
end Go.Proofs.YthekdeikodppkaaGreatDoor
namespace Go.Proofs.YthekdeikodppkaaGreatDoor
open Go.RowKit
def fgood(x:FileP):Prop:=pathF x.path=true∧x.data.size≤1048576
def CheckPost(l:List FileP)(e:Int):Prop:=(e=0→l.length≤64∧∀ x∈l,fgood x)∧(l.length≤1→(∀ x∈l,fgood x)→e=0)
theorem pathF_size{p:ByteArray}(h:pathF p=true):p.size≤4096:=by
 simp only [pathF,Bool.and_eq_true,decide_eq_true_eq] at h
 exact h.1.1.2
set_option maxRecDepth 100000 in
set_option maxHeartbeats 6400000 in
theorem fcheck_any{w:World}{v:Value}{n:Nat}{l:List FileP}(hr:Rd w 2 v n (rows fe l))(hn:n≤1000000)(hs:∀ x∈l,x.path.size≤1000000∧x.data.size≤1000000000) :
 Calls Tryz.prog 73 #[v] w (Ret fun r w'=>∃ e:Int,r=.int .i64 e∧CheckPost l e∧Own w w' []):=by
 have hl:l.length=n:=by have:=hr.len;rw [Qp fe (k:=2) SF.e_length] at this;omega
 obtain ⟨a,c,rfl,hc1,hc2⟩:=hr.shape
 have hX:Hid (∀ w' qs,Own w w' qs→∀ k x,l[k]?=some x→∃ b o,a=some ⟨b,o,none⟩∧w'.cell? ⟨b,o+k*2,none⟩=some (.string x.path)∧w'.cell? ⟨b,o+k*2+1,none⟩=some (.string x.data)):=jd fun w' qs h k x hx=>by
  have hkn:=(gJ hx).1
  obtain ⟨b,o,c',e,-⟩:=Rd.some hr (by rw [Qp fe (k:=2) SF.e_length];omega)
  cases e
  have h0:=Rd.cell (hr.old h.bare) (j:=k*2) (u:=.string x.path) (by have:=Jt fe SF.e_length hx 0 (by omega);rw [Nat.add_zero] at this;rw [this];rfl)
  have h1:=Rd.cell (hr.old h.bare) (j:=k*2+1) (u:=.string x.data) (by rw [Jt fe SF.e_length hx 1 (by omega)];rfl)
  exact ⟨b,o,rfl,h0,h1⟩
 have H:=Own.start w
 clear hr
 go_enter Tryz.func73,Tryz.ntmps73
 by_cases h64:64<n
 ·have hI:(64:Int)<(n:Int):=by omega
  go_wp2
  go_ret
  exact ⟨_,rfl,3,rfl,⟨fun e=>absurd e (by decide),fun h=>by omega⟩,H⟩
 have hI:¬ (64:Int)<(n:Int):=by omega
 go_upto_block 0 with (fail)
 go_cut [] (fun wx=>Hid (∀ x∈l,fgood x)∧Own w wx [])
 case first=>
  go_wp2_with fail
  go_loopw [15] (fun v15 wx=>∃ k:Nat,v15=.int .i64 k∧k≤n∧Hid (∀ x∈l.take k,fgood x)∧Own w wx []) (fun v15 _=>n-(intOf v15).toNat)
  case atStart=>exact ⟨0,rfl,by omega,jd (by simp),H⟩
  case round=>
   clear H
   obtain ⟨k,rfl,hk,hg,H⟩:=hrel
   by_cases hkn:k<n
   ·have hI2:(k:Int)<(n:Int):=by omega
    have hk0:(0:Int)≤(k:Int):=by omega
    obtain ⟨x,hx⟩:∃ x,l[k]?=some x:=Ql (by omega)
    obtain ⟨b,o,rfl,c0,c1⟩:=hX.out _ _ H k x hx
    have hxs:=hs x (List.mem_of_getElem? hx)
    have hxm:=jd (List.mem_of_getElem? hx)
    have hS2:Hid (fgood x→∀ y∈l.take (k+1),fgood y):=jd fun h y hy=>by
     rw [List.take_add_one,hx] at hy
     rcases List.mem_append.1 hy with hy | hy
     ·exact hg.out y hy
     ·obtain rfl:y=x:=by simpa using hy
      exact h
    obtain ⟨p,d⟩:=x
    dsimp only at c0 c1 hxs
    have HP:=jd (fun w=>pacheck_any p (by omega) w)
    have H2:=H.alloc (.cells #[.string p,.string d] 47)
    obtain ⟨D,hD⟩:∃ Z,d.size=Z:=⟨_,rfl⟩
    clear hX hx hg
    go_wp2_with fail
    generalize wr.alloc _=w1 at *
    generalize wr.heap.size=g at *
    refine (HP.out w1).mono ?_
    rintro e w2 ⟨rfl,H3⟩
    replace H3:=H2.join H3
    rw [List.nil_append] at H3
    clear H2 H HP c0 c1
    have c1:w2.cell? ⟨g,1,none⟩=some (.string d):=by rw [H3.cells];rfl
    obtain ⟨G,hG⟩:∃ G,Hid (pathF p=G):=⟨_,rfl⟩
    rw [hG.out]
    cases G
    ·have hbad:Hid (¬ ∀ x∈l,fgood x):=jd fun h=>by
      have:=(h _ hxm.out).1
      rw [show pathF (FileP.mk p d).path=false from hG.out] at this
      cases this
     clear hG
     go_wp2
     go_ret
     exact ⟨_,rfl,5,rfl,⟨fun e=>absurd e (by decide),fun _ h=>absurd h hbad.out⟩,H3.drop⟩
    ·by_cases hD4:1048576<D
     ·have hDI:(1048576:Int)<(D:Int):=by omega
      have hbad:Hid (¬ ∀ x∈l,fgood x):=jd fun h=>by
       have:=(h _ hxm.out).2
       rw [show (FileP.mk p d).data.size=D from hD] at this
       omega
      clear hG
      go_wp2
      go_ret
      exact ⟨_,rfl,3,rfl,⟨fun e=>absurd e (by decide),fun _ h=>absurd h hbad.out⟩,H3.drop⟩
     ·have hDI:¬ (1048576:Int)<(D:Int):=by omega
      have hS3:=jd (hS2.out ⟨hG.out,by show d.size≤_;omega⟩)
      clear hG hS2
      go_wp2
      go_roundw
      case rel=>exact ⟨k+1,by go_num,by omega,hS3,H3.drop⟩
      case measure=>simp [intOf];omega
   ·obtain rfl:k=n:=by omega
    have hI2:¬ (k:Int)<(k:Int):=by omega
    rw [List.take_of_length_le (by omega)] at hg
    go_wp2
    go_meet
    exact ⟨hg,H⟩
 case rest=>
  obtain ⟨hgood,H2⟩:=hcut
  clear H
  go_wp2_with fail
  go_loopw [32] (fun v32 wx=>∃ k:Nat,v32=.int .i64 k∧k≤n∧Own w wx []) (fun v32 _=>n-(intOf v32).toNat)
  case atStart=>exact ⟨0,rfl,by omega,H2⟩
  case round=>
   clear H2
   obtain ⟨k,rfl,hk,H⟩:=hrel
   by_cases hkn:k<n
   ·have hI2:(k:Int)<(n:Int):=by omega
    have hk0:(0:Int)≤(k:Int):=by omega
    obtain ⟨x,hx⟩:∃ x,l[k]?=some x:=Ql (by omega)
    obtain ⟨b,o,rfl,c0,c1⟩:=hX.out _ _ H k x hx
    obtain ⟨m,hm⟩:∃ m,Hid (n-(k+1)=m):=⟨_,rfl⟩
    obtain ⟨xp,xd⟩:=x
    dsimp only at c0 c1
    have e1:IntKind.i64.wrap ((k:Int)+1)=((k+1:Nat):Int):=by rw [IntWalk.i64_in _ ⟨by omega,by omega⟩];omega
    obtain ⟨q,hq⟩:∃ q,Hid (k+1=q):=⟨_,rfl⟩
    rw [hq.out] at e1
    have hqn:q≤n:=by have:=hq.out;omega
    have hmq:Hid (m=n-q):=jd (by have:=hq.out;have:=hm.out;omega)
    have hmI:m+q=n:=by have:=hmq.out;omega
    obtain ⟨a2,ha2⟩:∃ a2,Hid ((if c=q then some (⟨b,o,none⟩:Addr) else some ⟨b,o+q*2,none⟩)=a2):=⟨_,rfl⟩
    have hsl:∀ w,(Instr.sliceAt 22 (.slice (some ⟨b,o,none⟩) n c) (some (.int .i64 (q:Int))) none none).run Tryz.prog w=.ok (.slice a2 m (c-q)) w:=fun w=>by
     refine slc_low (P:=Tryz.prog) (ty:=22) (size:=2) (by kernel_rfl) (fun _=>by kernel_rfl) hqn ?_ w
     unfold sliced
     rw [← ha2.out,hmq.out]
     split
     ·rfl
     ·rw [Option.map_some,Addr.add_lit]
    have H2:=H.alloc (.cells #[.string xp,.string xd] 47)
    have hl2:=jd (show 0<m→1<l.length by have:=hq.out;omega)
    have hqk:=jd hq.out
    clear hq hm hmq
    go_wp2_with fail
    generalize wr.alloc _=w1 at *
    generalize wr.heap.size=g at *
    clear c0 c1 H
    go_loopw [42] (fun v42 wx=>∃ j:Nat,v42=.int .i64 j∧j≤m∧Own w wx (blk g (.cells #[.string xp,.string xd] 47)::[])) (fun v42 _=>m-(intOf v42).toNat)
    case atStart=>exact ⟨0,rfl,by omega,H2⟩
    case round=>
     clear H2
     obtain ⟨j,rfl,hj,H⟩:=hrel
     by_cases hjm:j<m
     ·have hj1:(j:Int)<(m:Int):=by omega
      have hj0:(0:Int)≤(j:Int):=by omega
      have hcq:¬ c=q:=by omega
      obtain rfl:some (⟨b,o+q*2,none⟩:Addr)=a2:=by rw [← ha2.out,if_neg hcq]
      obtain ⟨y,hy⟩:∃ x,l[q+j]?=some x:=Ql (by omega)
      obtain ⟨b',o',e,d0,d1⟩:=hX.out _ _ H (q+j) y hy
      cases e
      rw [show o+(q+j)*2=o+q*2+j*2 by omega] at d0 d1
      have hl3:=jd (hl2.out (by omega))
      obtain ⟨yp,yd⟩:=y
      dsimp only at d0 d1
      have H2:=H.alloc (.cells #[.string yp,.string yd] 47)
      have c0:wr.cell? ⟨g,0,none⟩=some (.string xp):=by rw [H.cells];rfl
      have c1:wr.cell? ⟨g,1,none⟩=some (.string xd):=by rw [H.cells];rfl
      have HC1:=jd (fun w=>clash_any ⟨xp,xd⟩ ⟨yp,yd⟩ w)
      have HC2:=jd (fun w=>clash_any ⟨yp,yd⟩ ⟨xp,xd⟩ w)
      clear hX hy hsl ha2
      go_upto_region 18 with (fail)
      generalize wr.alloc _=w3 at *
      generalize wr.heap.size=g2 at *
      clear c0 c1 d0 d1
      have c0:w3.cell? ⟨g,0,none⟩=some (.string xp):=by rw [H2.swap.cells];rfl
      have c1:w3.cell? ⟨g,1,none⟩=some (.string xd):=by rw [H2.swap.cells];rfl
      have d0:w3.cell? ⟨g2,0,none⟩=some (.string yp):=by rw [H2.cells];rfl
      have d1:w3.cell? ⟨g2,1,none⟩=some (.string yd):=by rw [H2.cells];rfl
      go_wp2_with fail
      refine (HC1.out w3).mono ?_
      rintro e w4 ⟨_,rfl,⟨b1,rfl⟩,H4⟩
      replace H4:=H2.join H4
      rw [List.nil_append] at H4
      clear H2 H HC1 c0 c1 d0 d1
      cases b1
      ·have c0:w4.cell? ⟨g,0,none⟩=some (.string xp):=by rw [H4.swap.cells];rfl
       have c1:w4.cell? ⟨g,1,none⟩=some (.string xd):=by rw [H4.swap.cells];rfl
       have d0:w4.cell? ⟨g2,0,none⟩=some (.string yp):=by rw [H4.cells];rfl
       have d1:w4.cell? ⟨g2,1,none⟩=some (.string yd):=by rw [H4.cells];rfl
       go_wp2_with fail
       refine (HC2.out w4).mono ?_
       rintro e w5 ⟨_,rfl,⟨b2,rfl⟩,H5⟩
       replace H5:=H4.join H5
       rw [List.nil_append] at H5
       clear H4 HC2 c0 c1 d0 d1
       cases b2
       ·go_wp2
        go_roundw
        case rel=>exact ⟨j+1,by go_num,by omega,H5.drop⟩
        case measure=>simp [intOf];omega
       ·go_wp2
        go_ret
        exact ⟨_,rfl,6,rfl,⟨fun e=>absurd e (by decide),fun h=>by have:=hl3.out;omega⟩,H5.bare⟩
      ·go_wp2
       go_ret
       exact ⟨_,rfl,6,rfl,⟨fun e=>absurd e (by decide),fun h=>by have:=hl3.out;omega⟩,H4.bare⟩
     ·obtain rfl:j=m:=by omega
      have hj1:¬ (j:Int)<(j:Int):=by omega
      go_wp2_with fail
      go_roundw
      case rel=>exact ⟨q,by have:=hqk.out;go_num,hqn,H.drop⟩
      case measure=>have:=hqk.out;simp [intOf];omega
   ·obtain rfl:k=n:=by omega
    have hI2:¬ (k:Int)<(k:Int):=by omega
    go_wp2
    go_ret
    exact ⟨_,rfl,0,rfl,⟨fun _=>⟨by omega,hgood.out⟩,fun _ _=>rfl⟩,H⟩
def fpsL(l:List FileP):List Int:=l.flatMap fun x=>bn (textF x.path)++bn (textF x.data)
def fpL(l:List FileP):List Int:=bn (numF l.length)++fpsL (sortF fkey l)
def putF(l:List FileP):ByteArray:=strOfNums (fpL l)
theorem fpsL_length:∀ (l:List FileP),(∀ x∈l,fgood x)→(fpsL l).length≤flSumF l+10*l.length
 | [],_=>by simp [fpsL]
 | x::l,h=>by
  have ih:=fpsL_length l fun y hy=>h y (by simp [hy])
  have hx:=h x (by simp)
  have h1:=textF_size (s:=x.path) (by have:=pathF_size hx.1;omega)
  have h2:=textF_size (s:=x.data) (by have:=hx.2;omega)
  simp only [fpsL,List.flatMap_cons,lJ,Qu,flSumF,List.map_cons,List.sum_cons,List.length_cons] at ih ⊢
  omega
theorem sort_mem{l:List FileP}{x:FileP}(h:x∈sortF fkey l):x∈l:=(Zo (key:=fkey) l).2.perm.mem_iff.2 h
theorem sort_length(l:List FileP):(sortF fkey l).length=l.length:=((Zo (key:=fkey) l).2.length).symm
theorem sort_sum(l:List FileP):flSumF (sortF fkey l)=flSumF l:=by
 unfold flSumF
 exact (((Zo (key:=fkey) l).2.perm.map _).sum_nat).symm
theorem putF_size{l:List FileP}(h:∀ x∈l,fgood x)(hn:l.length≤64):(putF l).size≤flSumF l+645:=by
 have h1:=fpsL_length (sortF fkey l) fun x hx=>h x (sort_mem hx)
 have h2:=numF_size (n:=l.length) (by omega)
 rw [sort_length,sort_sum] at h1
 rw [putF,strOfNums_size,fpL,lJ,Qu]
 omega
theorem fpsL_take{l:List FileP}{k:Nat}{x:FileP}(hx:l[k]?=some x):fpsL (l.take (k+1))=fpsL (l.take k)++bn (textF x.path)++bn (textF x.data):=by
 rw [List.take_add_one,hx]
 simp [fpsL]
def PutPost(l:List FileP)(s:ByteArray)(e:Int):Prop:=CheckPost l e∧(e=0→s=putF l)
set_option maxRecDepth 100000 in
set_option maxHeartbeats 6400000 in
theorem fmput_any{w:World}{v:Value}{n:Nat}{l:List FileP}(hr:Rd w 2 v n (rows fe l))(hn:n≤1000000)(hs:∀ x∈l,x.path.size≤1000000∧x.data.size≤1000000000) :
 Calls Tryz.prog 39 #[v] w (Ret fun r w'=>∃ (s:ByteArray) (e:Int),r=.tuple #[.string s,.int .i64 e]∧PutPost l s e∧Own w w' []):=by
 have hl:l.length=n:=by have:=hr.len;rw [Qp fe (k:=2) SF.e_length] at this;omega
 have HC:=jd (fcheck_any hr hn hs)
 have HS:=jd fun w' (h:Own w w' []) hok=>fmsort_any (hr.old h) hn hok
 obtain ⟨a,c,rfl,hc1,hc2⟩:=hr.shape
 clear hr hs
 go_enter Tryz.func39,Tryz.ntmps39
 go_wp2_with fail
 refine HC.out.mono ?_
 rintro e w1 ⟨_,rfl,e,rfl,hp,H⟩
 replace hp:=jd hp
 by_cases he:e=0
 rotate_left
 ·have heI:(e==0)=false:=by simp [he]
  have heJ:(e != 0)=true:=by simp [he]
  go_wp2
  go_ret2
  exact ⟨_,rfl,_,e,rfl,⟨hp.out,fun h=>absurd h he⟩,H⟩
 subst he
 obtain ⟨hn64,hgood⟩:=hp.out.1 rfl
 rw [hl] at hn64
 have HS2:=jd fun w' h=>HS.out w' h fun x hx=>pathF_size (hgood x hx).1
 obtain ⟨S,hS⟩:∃ S,Hid (sortF fkey l=S):=⟨_,rfl⟩
 have hSl:S.length=n:=by rw [← hS.out,sort_length,hl]
 have hSg:Hid (∀ x∈S,fgood x):=jd (by rw [← hS.out];exact fun x hx=>hgood x (sort_mem hx))
 rw [hS.out] at HS2
 obtain ⟨R,hR⟩:∃ R,Hid (putF l=R):=⟨_,rfl⟩
 obtain ⟨F,hF⟩:∃ F,Hid (numF n=F):=⟨_,rfl⟩
 have hRe:Hid (strOfNums (bn F++fpsL S)=R):=jd (by rw [← hR.out,putF,fpL,hl,hF.out,hS.out])
 have hF5:F.size≤5:=by rw [← hF.out];exact numF_size (by omega)
 have H1:=H.made [.int .i64 n] 3 1 1 rfl (by decide)
 have HN:=jd (ennum_any n (by omega) H1.rd)
 rw [hF.out] at HN
 clear HS HC hS hF
 replace hgood:=jd hgood
 go_wp2_with fail
 generalize w1.alloc _=w2 at *
 refine HN.out.mono ?_
 rintro e w3 ⟨rfl,H3⟩
 replace H3:=(H1.join H3).bare
 clear H1 HN H
 go_wp2_with (refine wpList_bytesOf2 rfl _ rfl Tryz.underlying9 Tryz.underlying58 Tryz.underlying5 rfl (by omega) H3 ?_;clear H3;intro v4 w4 H3)
 refine (HS2.out w4 H3.bare).mono ?_
 rintro e w5 ⟨r,rfl,H5⟩
 replace H5:=H3.join H5
 replace H5:Own w w5 (slc 47 2 r n (rows fe S)::slf 5 v4 F.size (bts (bn F))::[]):=H5
 clear H3 HS2
 obtain ⟨sa,sc,rfl,hsc1,hsc2⟩:=H5.rd.shape
 go_wp2_with fail
 go_loopw [5,21] (fun v5 v21 wx=>∃ k m:Nat,v21=.int .i64 k∧k≤n∧m≤5+1200000*k∧Own w wx (slc 47 2 (.slice sa n sc) n (rows fe S)::slf 5 v5 m (bts (bn F++fpsL (S.take k)))::[])) (fun _ v21 _=>n-(intOf v21).toNat)
 case atStart=>exact ⟨0,F.size,rfl,by omega,by omega,by simpa [fpsL] using H5⟩
 case round=>
  clear H5
  obtain ⟨k,m,rfl,hk,hm,H⟩:=hrel
  obtain ⟨a5,c5,rfl,g1,g2⟩:=H.swap.slf_rd.shape
  by_cases hkn:k<n
  ·have hI2:(k:Int)<(n:Int):=by omega
   have hk0:(0:Int)≤(k:Int):=by omega
   obtain ⟨x,hx⟩:∃ x,S[k]?=some x:=Ql (by omega)
   have hrd:=H.rd
   obtain ⟨b,o,c',e,-⟩:=Rd.some hrd (by rw [Qp fe (k:=2) SF.e_length];omega)
   cases e
   have h0:wr.cell? ⟨b,o+k*2,none⟩=_:=Rd.cell hrd (j:=k*2) (u:=.string x.path) (by have:=Jt fe SF.e_length hx 0 (by omega);rw [Nat.add_zero] at this;rw [this];rfl)
   have h1:wr.cell? ⟨b,o+k*2+1,none⟩=_:=Rd.cell hrd (j:=k*2+1) (u:=.string x.data) (by rw [Jt fe SF.e_length hx 1 (by omega)];rfl)
   clear hrd
   have hxg:=hSg.out x (List.mem_of_getElem? hx)
   have hxp:=pathF_size hxg.1
   have hxd:=hxg.2
   have hst:=jd (fpsL_take hx)
   clear hxg
   obtain ⟨p,d⟩:=x
   dsimp only at h0 h1 hxp hxd hst
   have HP:=jd (fun w=>entext_any p (by omega) w)
   have HD:=jd (fun w=>entext_any d (by omega) w)
   have hp5:=textF_size (s:=p) (by omega)
   have hd5:=textF_size (s:=d) (by omega)
   obtain ⟨P,hP⟩:∃ Z,Hid (textF p=Z):=⟨_,rfl⟩
   obtain ⟨D,hD⟩:∃ Z,Hid (textF d=Z):=⟨_,rfl⟩
   rw [hP.out] at HP hp5 hst
   rw [hD.out] at HD hd5 hst
   have hP2:P.size≤5000:=by omega
   have hD2:D.size≤1048600:=by omega
   have H2:=H.alloc (.cells #[.string p,.string d] 47)
   clear hx hP hD hp5 hd5 hxp hxd
   go_upto_region 8 with (fail)
   generalize wr.alloc _=w1 at *
   generalize wr.heap.size=g at *
   clear h0 h1 H
   have c0:w1.cell? ⟨g,0,none⟩=some (.string p):=by rw [H2.cells];rfl
   go_wp2_with fail
   refine (HP.out w1).mono ?_
   rintro e w2 ⟨rfl,H3⟩
   replace H3:=H2.join H3
   rw [List.nil_append] at H3
   replace H3:=((H3.front 2 rfl))
   clear H2 HP c0
   go_upto_region 9 with (at_builtin;refine wpList_append_slf rfl _ _ rfl Tryz.underlying58 u8Info rfl rfl H3 rfl (Src.ofString _ Tryz.underlying9 P) (by omega) ?_;clear H3;intro v6 w6 H3)
   rw [show byteCells P=bts (bn P) by simp [byteCells,bts,bn],← Zv] at H3
   have c1:w6.cell? ⟨g,1,none⟩=some (.string d):=by rw [(H3.front 1 rfl).cells];rfl
   obtain ⟨a6,c6,rfl,g3,g4⟩:=H3.slf_rd.shape
   go_wp2_with fail
   refine (HD.out w6).mono ?_
   rintro e w7 ⟨rfl,H7⟩
   replace H7:=H3.join H7
   rw [List.nil_append] at H7
   clear H3 HD c1
   go_wp2_with (at_builtin;refine wpList_append_slf rfl _ _ rfl Tryz.underlying58 u8Info rfl rfl H7 rfl (Src.ofString _ Tryz.underlying9 D) (by omega) ?_;clear H7;intro v8 w8 H7)
   rw [show byteCells D=bts (bn D) by simp [byteCells,bts,bn],← Zv] at H7
   obtain ⟨a8,c8,rfl,g5,g6⟩:=H7.slf_rd.shape
   have H8:=(((H7.front 2 rfl).front 2 rfl).drop)
   go_roundw
   case rel=>exact ⟨k+1,m+P.size+D.size,by go_num,by omega,by omega,by rw [hst.out,← List.append_assoc,← List.append_assoc];exact H8⟩
   case measure=>simp [intOf];omega
  ·obtain rfl:k=n:=by omega
   have hI2:¬ (k:Int)<(k:Int):=by omega
   rw [List.take_of_length_le (by omega)] at H
   have hs2:=Js (P:=Tryz.prog) 58 9 Tryz.underlying58 Tryz.underlying5 Tryz.underlying9 H.swap.slf_rd
   rw [hRe.out] at hs2
   go_wp2
   go_ret2
   exact ⟨_,rfl,R,0,rfl,⟨hp.out,fun _=>hR.out.symm⟩,H.bare⟩
def SqPost(l:List FileP)(t:ByteArray)(n e:Int):Prop:=
 (e=0→t=packF (putF l)∧n=(putF l).size∧t.size≤49152)∧(l.length≤1→(∀ x∈l,fgood x)→(packF (putF l)).size≤49152→e=0)
set_option maxRecDepth 100000 in
set_option maxHeartbeats 6400000 in
theorem squeeze_any{w:World}{v:Value}{n:Nat}{l:List FileP}(hr:Rd w 2 v n (rows fe l))(hn:n≤1000000)(hs:∀ x∈l,x.path.size≤1000000∧x.data.size≤1000000000)(h25:flSumF l≤2500) :
 Calls Tryz.prog 17 #[v] w (Ret fun r w'=>∃ (t:ByteArray) (n e:Int),r=.tuple #[.string t,.int .i64 n,.int .i64 e]∧SqPost l t n e∧Own w w' []):=by
 have hPut:=jd (fmput_any hr hn hs)
 have hSz:=jd (fun h1 h2=>putF_size (l:=l) h1 h2)
 obtain ⟨a,c,rfl,hc1,hc2⟩:=hr.shape
 clear hr hs
 go_enter Tryz.func17,Tryz.ntmps17
 go_wp2_with fail
 refine hPut.out.mono ?_
 rintro e w1 ⟨_,rfl,s,e,rfl,hp,H⟩
 clear hPut
 replace hp:=jd hp
 by_cases he:e=0
 ·subst he
  obtain ⟨h64,hgood⟩:=hp.out.1.1 rfl
  have hs9:=hSz.out hgood h64
  rw [← hp.out.2 rfl] at hs9
  have hsP:=jd (hp.out.2 rfl)
  have HP:=jd (pack_any (w:=w1) s (by omega))
  obtain ⟨T,hT⟩:∃ T,Hid (packF s=T):=⟨_,rfl⟩
  rw [hT.out] at HP
  obtain ⟨Z,hZ⟩:∃ Z,s.size=Z:=⟨_,rfl⟩
  obtain ⟨Y,hY⟩:∃ Z,T.size=Z:=⟨_,rfl⟩
  replace hgood:=jd hgood
  go_wp2_with fail
  refine HP.out.mono ?_
  rintro e w2 ⟨_,rfl,rfl,H2⟩
  by_cases h:49152<Y
  ·have hI:(49152:Int)<(Y:Int):=by omega
   go_wp2
   go_ret3
   exact ⟨_,rfl,_,_,_,rfl,⟨fun e=>absurd e (by decide),fun _ _ h2=>by rw [← hsP.out,hT.out] at h2;omega⟩,(H.join H2).bare⟩
  ·have hI:¬ (49152:Int)<(Y:Int):=by omega
   go_wp2
   go_ret3
   exact ⟨_,rfl,_,_,_,rfl,⟨fun _=>⟨by rw [← hsP.out,hT.out],by rw [← hsP.out,hZ],by omega⟩,fun _ _ _=>rfl⟩,(H.join H2).bare⟩
 ·have heI:(e==0)=false:=by simp [he]
  have heJ:(e != 0)=true:=by simp [he]
  go_wp2
  go_ret3
  exact ⟨_,rfl,_,_,_,rfl,⟨fun h=>absurd h he,fun h1 h2 _=>absurd (hp.out.1.2 h1 h2) he⟩,H⟩
theorem splF_sizes:∀ (k:Nat) (s:ByteArray),s.size≤k→(∀ c∈splF s,c.size=192)∧(splF s).length*192<s.size+192∧(0<s.size→0<(splF s).length)
 | 0,s,h=>by
  rw [splF,dif_pos (by omega)]
  exact ⟨by simp,by simp,by omega⟩
 | k+1,s,h=>by
  by_cases h0:s.size=0
  ·rw [splF,dif_pos h0]
   exact ⟨by simp,by simp,by omega⟩
  ·have hm:(s.extract (min 192 s.size) s.size).size=s.size-min 192 s.size:=by rw [ByteArray.size_extract];omega
   obtain ⟨h1,h2,-⟩:=splF_sizes k (s.extract (min 192 s.size) s.size) (by omega)
   rw [splF,dif_neg h0]
   refine ⟨fun c hc=>?_,?_,by simp⟩
   ·rcases List.mem_cons.1 hc with rfl | hc
    ·rw [ByteArray.size_append,ByteArray.size_extract,zrs_size];omega
    ·exact h1 c hc
   ·rw [List.length_cons,hm] at *;omega
theorem textOf_pos{bs:List Bool}(h:0<bs.length):0<(textOf bs).size:=by
 rw [textOf_size];unfold Qq;omega
theorem head_length(b:Bool)(k:Int):0<(headB b k).length:=by simp [headB]
theorem storeB_pos:∀ (f:Nat) (t:ByteArray) (bs:List Bool),0<bs.length∨0<f→0<(storeB f t bs).length
 | 0,t,bs,h=>by rw [storeB];omega
 | f+1,t,bs,h=>by
  rw [storeB]
  split
  ·simp only [lJ,Qd];omega
  ·refine storeB_pos f _ _ (.inl ?_)
   simp only [lJ,Qd];omega
theorem pack_pos(s:ByteArray):0<(packF s).size:=by
 have h1:=textOf_pos (storeB_pos (s.size+1) s [] (.inr (by omega)))
 have h2:0<(simpleF s).size:=by
  unfold simpleF
  exact textOf_pos (by rw [blockB,if_pos rfl,lJ];have:=head_length true 1;omega)
 have h3:0<(richF s).size:=by
  unfold richF
  exact textOf_pos (by rw [blockB,if_neg (by decide),lJ];have:=head_length true 2;omega)
 unfold packF Va
 split <;> split <;> first | exact h1 | exact h2 | exact h3
def sealsF(ke km:ByteArray)(l:List ByteArray):List ByteArray:=l.mapIdx fun i c=>sealF ke km i c
theorem seals_length(ke km:ByteArray)(l:List ByteArray):(sealsF ke km l).length=l.length:=by simp [sealsF]
theorem seals_get{ke km:ByteArray}{l:List ByteArray}{k:Nat}{c:ByteArray}(h:l[k]?=some c):(sealsF ke km l)[k]?=some (sealF ke km k c):=by
 simp [sealsF,h]
theorem seals_sizes{ke km:ByteArray}{l:List ByteArray}(h:∀ c∈l,c.size=192):∀ b∈sealsF ke km l,b.size=224:=by
 intro b hb
 obtain ⟨k,hk⟩:=List.mem_iff_getElem?.1 hb
 have hk2:k<l.length:=by have:=(gJ hk).1;rwa [seals_length] at this
 rw [seals_get (List.getElem?_eq_getElem hk2)] at hk
 obtain rfl:=Option.some.inj hk
 exact seal_size _ _ _ (h _ (List.getElem_mem hk2))
theorem res_cell_tmp{P:Program}{fn:Func}{p q:Tmp}{ty:TypeId}(h:fn.results=#[.cell p ty,.tmp q])(tmps:Array Value)(w:World)(g:Nat)(v:Value)
 (hp:tmps.getD p undef=.pointer (some ⟨g,0,none⟩)) (hl:(loadVar ty ⟨g,0,none⟩).run P w=.ok v w):(results fn tmps).run P w=.ok (.tuple #[v,tmps.getD q undef]) w:=by
 have hp':tmps[p]?.getD undef=.pointer (some ⟨g,0,none⟩):=by simpa using hp
 simp only [results,h]
 simp [hp',asAddr,hl]
def arcC(id:Int)(salt:ByteArray)(n bytes raw:Int)(root tag:ByteArray)(v:Value):List Value:=[.int .i64 id,.string salt,.int .i64 n,.int .i64 bytes,.int .i64 raw,.string root,.string tag,v]
structure Packed (secret salt:ByteArray) (id:Int) (l:List FileP) (bl:List ByteArray) (bytes raw:Nat) (tag:ByteArray):Prop where
 hbl:bl=sealsF (keyEnc secret salt) (keyMac secret salt) (splF (packF (putF l)))
 hbytes:bytes=(packF (putF l)).size
 hraw:raw=(putF l).size
 htag:tag=htagF (keyHead secret) id salt bl.length bytes raw (mroot (bl.map leafF))
def PkPost(w:World)(secret salt:ByteArray)(id:Int)(l:List FileP)(r:Value)(w':World):Prop:=
 (∃ e:Int,r=.tuple #[.agg #[.int .i64 0,.string ⟨#[]⟩,.int .i64 0,.int .i64 0,.int .i64 0,.string ⟨#[]⟩,.string ⟨#[]⟩,.slice none 0 0],.int .i64 e]∧e≠0∧((∀ x∈l,fgood x)→l.length≤1→49152<(packF (putF l)).size)∧Own w w' []) ∨
 (∃ (bl:List ByteArray) (bytes raw:Nat) (tag:ByteArray) (v:Value),r=.tuple #[.agg (arcC id salt bl.length bytes raw (mroot (bl.map leafF)) tag v).toArray,.int .i64 0]∧Packed secret salt id l bl bytes raw tag∧bytes≤49152∧Own w w' (slc 9 1 v bl.length (txs bl)::[]))
set_option maxRecDepth 100000 in
set_option maxHeartbeats 12800000 in
theorem pack_arc{w:World}{v:Value}{n:Nat}{l:List FileP}(secret salt:ByteArray)(id:Int)(hsec:secret.size≤1000000)(hsalt:salt.size=16)(hid:1≤id∧id≤4294967295)
 (hr:Rd w 2 v n (rows fe l)) (hn:n≤1000000) (hs:∀ x∈l,x.path.size≤1000000∧x.data.size≤1000000000) (h25:flSumF l≤2500) :
 Calls Tryz.prog 5 #[.string secret,.string salt,.int .i64 id,v] w (Ret fun r w'=>PkPost w secret salt id l r w'):=by
 have hl:l.length=n:=by have:=hr.len;rw [Qp fe (k:=2) SF.e_length] at this;omega
 have HS:=jd fun w' (h:Own w w' [])=>squeeze_any (hr.old h) hn hs h25
 obtain ⟨a,c,rfl,hc1,hc2⟩:=hr.shape
 clear hr hs
 obtain ⟨hid1,hid2⟩:=hid
 have hidI:¬ id<1:=by omega
 have hidJ:¬ 4294967295<id:=by omega
 have hsI:(salt.size:Int)=16:=by omega
 have H:=(Own.start w).alloc (.cells #[.int .i64 0,.string ⟨#[]⟩,.int .i64 0,.int .i64 0,.int .i64 0,.string ⟨#[]⟩,.string ⟨#[]⟩,.slice none 0 0] 28)
 go_enter Tryz.func5,Tryz.ntmps5
 go_upto_region 1 with (fail)
 generalize w.alloc _=w1 at *
 generalize w.heap.size=R at *
 have hKE:=jd (keyEnc_size secret salt)
 have hKM:=jd (keyMac_size secret salt)
 have hKH:=jd (keyHead_size secret)
 have HK:=jd (fun w=>kdkeys_any secret salt (by omega) (by omega) w)
 have hPK:Hid (∀ bl bytes raw tag,bl=sealsF (keyEnc secret salt) (keyMac secret salt) (splF (packF (putF l)))→bytes=(packF (putF l)).size→raw=(putF l).size→tag=htagF (keyHead secret) id salt bl.length bytes raw (mroot (bl.map leafF))→Packed secret salt id l bl bytes raw tag):=jd fun _ _ _ _ h1 h2 h3 h4=>⟨h1,h2,h3,h4⟩
 obtain ⟨ke,hke⟩:∃ x,Hid (keyEnc secret salt=x):=⟨_,rfl⟩
 obtain ⟨km,hkm⟩:∃ x,Hid (keyMac secret salt=x):=⟨_,rfl⟩
 obtain ⟨kh,hkh⟩:∃ x,Hid (keyHead secret=x):=⟨_,rfl⟩
 rw [hke.out,hkm.out,hkh.out] at HK
 rw [hke.out] at hKE
 rw [hkm.out] at hKM
 rw [hkh.out] at hKH
 rw [hke.out,hkm.out,hkh.out] at hPK
 clear hke hkm hkh
 go_wp2_with fail
 refine (HS.out w1 H.bare).mono ?_
 rintro e w2 ⟨_,rfl,t,raw,e,rfl,hp,H2⟩
 replace H2:=H.join H2
 rw [List.nil_append] at H2
 clear H HS
 replace hp:=jd hp
 have hld:∀ (w':World) (cs:List Value) (qs:List Piece),Own w w' (blk R (.cells cs.toArray 28)::qs)→cs.length=8→(loadVar 28 ⟨R,0,none⟩).run Tryz.prog w'=.ok (.agg cs.toArray) w':=fun w' cs qs h hc=>run_loadVar_row w' R _ _ _ _ _ h.block.1 Tryz.underlying28 rfl (by rw [List.size_toArray,hc];kernel_rfl)
 replace hld:=jd hld
 by_cases he:e=0
 rotate_left
 ·have heI:(e==0)=false:=by simp [he]
  have heJ:(e != 0)=true:=by simp [he]
  go_wp2_with (refine Qe rfl _ _ rfl rfl H2 (vs:=[.int .i64 0,.string ⟨#[]⟩,.int .i64 0,.int .i64 0,.int .i64 0,.string ⟨#[]⟩,.string ⟨#[]⟩,.slice none 0 0]) rfl (by kernel_rfl) (by simp) (by simp [Value.oneCell']) rfl ?_;clear H2;intro w3 H3)
  refine bodyPost_ret (res_cell_tmp rfl _ _ R _ rfl (hld.out _ _ _ H3 rfl)) rfl ?_
  exact ⟨_,rfl,.inl ⟨e,rfl,he,fun h1 h2=>Nat.lt_of_not_le fun h3=>he (hp.out.2 h2 h1 h3),H3.bare⟩⟩
 subst he
 obtain ⟨ht,hraw,ht49⟩:=hp.out.1 rfl
 obtain ⟨spl1,spl2,spl3⟩:=splF_sizes t.size t (Nat.le_refl _)
 have hN1:=jd (spl3 (by rw [ht];exact pack_pos _))
 clear spl3
 rw [← ht] at hPK
 obtain ⟨rw',hrw'⟩:∃ r:Nat,Hid ((putF l).size=r):=⟨_,rfl⟩
 rw [hrw'.out] at hPK hraw
 subst hraw
 have HSp:=jd (fun w=>split_any (w:=w) (s:=t) (by omega))
 obtain ⟨Z,hZ⟩:∃ Z,t.size=Z:=⟨_,rfl⟩
 rw [hZ] at ht49 spl2 hPK
 obtain ⟨L,hL⟩:∃ L,Hid (splF t=L):=⟨_,rfl⟩
 rw [hL.out] at HSp spl1 spl2 hPK hN1
 obtain ⟨N,hN⟩:∃ N,L.length=N:=⟨_,rfl⟩
 rw [hN] at HSp spl2 hN1
 have hN256:N≤256:=by omega
 obtain ⟨B,hB⟩:∃ B,Hid (sealsF ke km L=B):=⟨_,rfl⟩
 have hBl:B.length=N:=by rw [← hB.out,seals_length,hN]
 have hB224:Hid (∀ b∈B,b.size=224):=jd (by rw [← hB.out];exact seals_sizes spl1)
 have hBk:Hid (∀ (k:Nat) x,L[k]?=some x→B[k]?=some (sealF ke km k x)):=jd (fun k x h=>by rw [← hB.out];exact seals_get h)
 rw [hB.out] at hPK
 have hPK2:=jd (fun tag=>hPK.out B Z rw' tag rfl rfl rfl)
 rw [hBl] at hPK2
 replace spl1:=jd spl1
 clear hPK hB ht hp hrw' spl2 hL
 go_wp2_with fail
 refine (HK.out w2).mono ?_
 rintro e w3 ⟨rfl,H3⟩
 replace H3:=H2.join H3
 rw [List.nil_append] at H3
 clear H2 HK
 have H4:=(H3.alloc (.cells #[.string ke,.string km,.string kh] 51))
 go_upto_region 7 with (fail)
 generalize w3.alloc _=w4 at *
 generalize w3.heap.size=gk at *
 clear H3
 have H5:=(H4.alloc (.cells #[.int .i64 0,.string ⟨#[]⟩,.int .i64 0,.int .i64 0,.int .i64 0,.string ⟨#[]⟩,.string ⟨#[]⟩,.slice none 0 0] 28))
 go_upto_region 8 with (fail)
 generalize w4.alloc _=w5 at *
 generalize w4.heap.size=ga at *
 clear H4
 go_wp2_with fail
 refine (HSp.out w5).mono ?_
 rintro e w6 ⟨_,rfl,H6⟩
 replace H6:=H5.join H6
 replace H6:=H6.swap
 clear H5 HSp
 rename_i rv
 obtain ⟨ra,rc,rfl,hrc1,hrc2⟩:=(H6.front 1 rfl).rd.shape
 go_wp2_with fail
 go_loopw [47] (fun v47 wx=>∃ (k:Nat) (v:Value),v47=.int .i64 k∧k≤N∧Own w wx (blk ga (.cells #[.int .i64 0,.string ⟨#[]⟩,.int .i64 0,.int .i64 0,.int .i64 0,.string ⟨#[]⟩,.string ⟨#[]⟩,v] 28)::slc 9 1 v k (txs (B.take k))::slc 9 1 (.slice ra N rc) N (txs L)::blk gk (.cells #[.string ke,.string km,.string kh] 51)::blk R (.cells #[.int .i64 0,.string ⟨#[]⟩,.int .i64 0,.int .i64 0,.int .i64 0,.string ⟨#[]⟩,.string ⟨#[]⟩,.slice none 0 0] 28)::[])) (fun v47 _=>N-(intOf v47).toNat)
 case atStart=>exact ⟨0,.slice none 0 0,rfl,by omega,(H6.nil 9 1).swap⟩
 case round=>
  clear H6
  obtain ⟨k,v,rfl,hk,H⟩:=hrel
  by_cases hkN:k<N
  ·have hI2:(k:Int)<(N:Int):=by omega
   have hk0:(0:Int)≤(k:Int):=by omega
   obtain ⟨x,hx⟩:∃ x,L[k]?=some x:=Ql (by omega)
   have hrd:=(H.front 2 rfl).rd
   obtain ⟨b,o,c',e,-⟩:=Rd.some hrd (by rw [Qr];omega)
   cases e
   have h0:wr.cell? ⟨b,o+k,none⟩=some (.string x):=Rd.cell hrd (j:=k) (u:=.string x) (by rw [txs_get hx])
   clear hrd
   have hx192:=spl1.out x (List.mem_of_getElem? hx)
   have hst:Hid (txs (B.take (k+1))=txs (B.take k)++[.string (sealF ke km k x)]):=jd (by
    rw [List.take_add_one,hBk.out k x hx,Zi];rfl)
   have HB:=jd (fun w=>blseal_any ke km kh x (by rw [hKE.out]) (by rw [hKM.out];omega) hx192 k (by omega) w)
   unfold keysV at HB
   obtain ⟨y,hy⟩:∃ y,Hid (sealF ke km k x=y):=⟨_,rfl⟩
   rw [hy.out] at HB hst
   obtain ⟨va,vc,rfl,g1,g2⟩:=(H.front 1 rfl).rd.shape
   have c0:=(H.front 3 rfl).cells
   clear hx hx192 hy
   go_wp2_with fail
   refine (HB.out wr).mono ?_
   rintro e w2 ⟨rfl,H2⟩
   replace H2:=H.join H2
   rw [List.nil_append] at H2
   clear H HB h0 c0
   have c1:=H2.cells
   have H3:=((H2.front 1 rfl))
   clear H2
   go_wp2_with (first
    | (at_builtin;refine Qf (news:=[.string y]) rfl _ _ rfl Tryz.underlying26 strInfo rfl (by decide) rfl H3 rfl rfl rfl (by simp [Value.oneCell']) (by omega) (by omega) ?_;clear H3 c1;intro v' w' H3;obtain ⟨va2,vc2,rfl,g3,g4⟩:=H3.rd.shape)
    | (refine Jd rfl _ _ rfl rfl H3.swap rfl (by kernel_rfl) (by simp) ?_;clear H3;intro w7 H3))
   refine ⟨⟨k+1,.slice va2 (k+1) vc2,by go_num,by omega,?_⟩,by simp [intOf];omega⟩
   rw [hst.out]
   exact H3
  ·obtain rfl:k=N:=by omega
   have hI2:¬ (k:Int)<(k:Int):=by omega
   rw [List.take_of_length_le (by omega)] at H
   obtain ⟨va,vc,rfl,g1,g2⟩:=(H.front 1 rfl).rd.shape
   obtain ⟨M,hM⟩:∃ M,Hid (mroot (B.map leafF)=M):=⟨_,rfl⟩
   have hM32:M.size=32:=by rw [← hM.out];exact root_32 _ (by rw [List.length_map,hBl];exact hN1.out) (fun s hs=>by obtain ⟨x,-,rfl⟩:=List.mem_map.1 hs;exact leaf_size x)
   obtain ⟨T,hT⟩:∃ T,Hid (htagF kh id salt k Z rw' M=T):=⟨_,rfl⟩
   have hP3:=jd (hPK2.out T (by rw [hM.out,hT.out]))
   obtain ⟨ps,hps⟩:∃ ps:List Piece,ps=(blk ga (.cells #[.int .i64 0,.string ⟨#[]⟩,.int .i64 0,.int .i64 0,.int .i64 0,.string ⟨#[]⟩,.string ⟨#[]⟩,.slice va k vc] 28)::slc 9 1 (.slice va k vc) k (txs B)::blk gk (.cells #[.string ke,.string km,.string kh] 51)::blk R (.cells #[.int .i64 0,.string ⟨#[]⟩,.int .i64 0,.int .i64 0,.int .i64 0,.string ⟨#[]⟩,.string ⟨#[]⟩,.slice none 0 0] 28)::[]):=⟨_,rfl⟩
   have H2:Own w wr ps:=by rw [hps];exact ((H.front 2 rfl).drop)
   have k2:Hid (∀ w1,Own w w1 ps→Calls Tryz.prog 22 #[.slice va k vc] w1 (fun e w2=>e=.returned (.string M)∧Own w w2 ps)):=jd fun w1 h=>by
    have:=arroot_any (w:=w1) (l:=B) (n:=k) (v:=.slice va k vc) (by rw [hps] at h;exact (h.front 1 rfl).rd) (by omega) (fun s hs=>by have:=hB224.out s hs;omega)
    rw [hM.out] at this
    exact this.mono fun e w2 g=>⟨g.1,h.join g.2⟩
   have k3:Hid (∀ w1,Own w w1 ps→Calls Tryz.prog 21 #[.string kh,.agg #[.int .i64 id,.string salt,.int .i64 k,.int .i64 Z,.int .i64 rw',.string M,.string ⟨#[]⟩]] w1 (fun e w2=>e=.returned (.agg #[.int .i64 id,.string salt,.int .i64 k,.int .i64 Z,.int .i64 rw',.string M,.string T])∧Own w w2 ps)):=jd fun w1 h=>by
    have:=hdsign_any kh id salt k Z rw' M ⟨#[]⟩ (by rw [hKH.out];omega) hsalt hM32 w1
    rw [hT.out] at this
    exact this.mono fun e w2 g=>⟨g.1,h.join g.2⟩
   have cS:Hid (∀ w1,Own w w1 ps→w1.cell? ⟨gk,2,none⟩=some (.string kh)∧w1.cell? ⟨ga,7,none⟩=some (.slice va k vc)):=jd fun w1 h=>by
    rw [hps] at h
    exact ⟨by rw [(h.front 2 rfl).cells];rfl,by rw [h.cells];rfl⟩
   have hM2:=hM
   clear hPK2 hM hT H hBk spl1
   go_upto_region 14 with (fail)
   refine Qa (fun w1=>Own w w1 ps) 15 (by kernel_rfl) (by kernel_rfl) H2.drew ?_
   simp only [List.take_succ_cons,List.take_zero,List.drop_succ_cons,List.drop_zero]
   repeat
    first
    | (refine calm_value (v:=?_) (by decide) rfl (fun σ w1 hS=>?_) ?_
       rotate_left
       ·obtain ⟨c0,c1⟩:=cS.out _ hS
        first | (go_simp;rfl) | rfl
       simp only [Act.put,putC])
    | (refine calm_skip (by decide) rfl ?_
       simp only [Act.put,putC])
   refine calm_call (v:=.string M) (by decide) rfl (fun w1=>(by go_simp)) (fun σ w1 hS=>k2.out w1 hS) ?_
   simp only [Act.put,putC]
   repeat
    first
    | (refine calm_value (v:=?_) (by decide) rfl (fun σ w1 hS=>?_) ?_
       rotate_left
       ·obtain ⟨c0,c1⟩:=cS.out _ hS
        first | (go_simp;rfl) | rfl
       simp only [Act.put,putC])
    | (refine calm_skip (by decide) rfl ?_
       simp only [Act.put,putC])
   refine calm_call (v:=.agg #[.int .i64 id,.string salt,.int .i64 k,.int .i64 Z,.int .i64 rw',.string M,.string T]) (by decide) rfl (fun w1=>(by go_simp)) (fun σ w1 hS=>k3.out w1 hS) ?_
   simp only [Act.put,putC]
   repeat
    first
    | (refine calm_value (v:=?_) (by decide) rfl (fun σ w1 hS=>?_) ?_
       rotate_left
       ·obtain ⟨c0,c1⟩:=cS.out _ hS
        first | (go_simp;rfl) | rfl
       simp only [Act.put,putC])
    | (refine calm_skip (by decide) rfl ?_
       simp only [Act.put,putC])
   refine calm_nil ?_
   intro wd HD
   rw [hps] at HD
   clear k2 k3 cS hps H2
   go_upto_region 15 with (refine Qe rfl _ _ rfl rfl HD (vs:=[.int .i64 id,.string salt,.int .i64 k,.int .i64 Z,.int .i64 rw',.string M,.string T]) rfl (by kernel_rfl) (by simp) (by simp [Value.oneCell']) rfl ?_;clear HD;intro w7 HD)
   simp only [Act.put]
   replace HD:Own w w7 (blk ga (.cells #[.int .i64 id,.string salt,.int .i64 k,.int .i64 Z,.int .i64 rw',.string M,.string T,.slice va k vc] 28)::slc 9 1 (.slice va k vc) k (txs B)::blk gk (.cells #[.string ke,.string km,.string kh] 51)::blk R (.cells #[.int .i64 0,.string ⟨#[]⟩,.int .i64 0,.int .i64 0,.int .i64 0,.string ⟨#[]⟩,.string ⟨#[]⟩,.slice none 0 0] 28)::[]):=HD
   have c0:=HD.cells
   have H3:=HD.front 3 rfl
   go_wp2_with (refine Qe rfl _ _ rfl rfl H3 (vs:=[.int .i64 id,.string salt,.int .i64 k,.int .i64 Z,.int .i64 rw',.string M,.string T,.slice va k vc]) rfl (by kernel_rfl) (by simp) (by simp [Value.oneCell']) rfl ?_;clear H3 HD c0;intro w9 H3)
   replace H3:Own w w9 (blk R (.cells [.int .i64 id,.string salt,.int .i64 k,.int .i64 Z,.int .i64 rw',.string M,.string T,.slice va k vc].toArray 28)::blk ga (.cells #[.int .i64 id,.string salt,.int .i64 k,.int .i64 Z,.int .i64 rw',.string M,.string T,.slice va k vc] 28)::slc 9 1 (.slice va k vc) k (txs B)::blk gk (.cells #[.string ke,.string km,.string kh] 51)::[]):=H3
   refine bodyPost_ret (res_cell_tmp rfl _ _ R _ rfl (hld.out _ _ _ H3 rfl)) rfl ?_
   refine ⟨_,rfl,.inr ⟨B,Z,rw',T,.slice va k vc,?_,hP3.out,ht49,?_⟩⟩
   ·rw [hBl,hM2.out];rfl
   ·rw [hBl];exact ((((H3.front 3 rfl).front 2 rfl).front 2 rfl).drop.drop.drop)
def fileAX:FileP:=⟨⟨#[97]⟩,⟨#[120]⟩⟩
theorem ax_good:fgood fileAX:=⟨by kernel_rfl,by decide⟩
set_option maxRecDepth 100000 in
theorem ax_raw:(putF [fileAX]).size=5:=by kernel_rfl
set_option maxRecDepth 100000 in
theorem ax_size:(packF (putF [fileAX])).size=7:=by kernel_rfl
theorem fix1:fixF 1 4=⟨#[0,0,0,1]⟩:=by kernel_rfl
theorem fix2:fixF 1 2=⟨#[0,1]⟩:=by kernel_rfl
theorem fix3:fixF 7 4=⟨#[0,0,0,7]⟩:=by kernel_rfl
theorem fix4:fixF 5 4=⟨#[0,0,0,5]⟩:=by kernel_rfl
noncomputable section
def axFlds(salt root:Txt):Txt:=tcat [.by [83,76,71,49,0,0,0,1]] (tcat salt (tcat [.by [0,1,0,0,0,7,0,0,0,5]] root))
theorem axFlds_ok{F:Funs}{e:Env}{salt root:Txt}(hs:ok F e salt)(hr:ok F e root):ok F e (axFlds salt root)∧Qb (den F e (axFlds salt root))=fldF 1 (Qb (den F e salt)) 1 7 5 (Qb (den F e root)):=by
 have h1:=tcat_ok (F:=F) (e:=e) (s:=[.by [0,1,0,0,0,7,0,0,0,5]]) (t:=root) ⟨by intro x hx;revert x;decide,trivial⟩ hr
 have h2:=tcat_ok (F:=F) (e:=e) hs h1.1
 have h3:=tcat_ok (F:=F) (e:=e) (s:=[.by [83,76,71,49,0,0,0,1]]) ⟨by intro x hx;revert x;decide,trivial⟩ h2.1
 refine ⟨h3.1,?_⟩
 rw [axFlds,h3.2,h2.2,h1.2]
 unfold fldF
 rw [fix1,fix2,fix3,fix4]
 apply ByteArray.ext
 apply Array.ext'
 simp [Qb,den,Ck.den]
def axPr:Prims:=onPr 5 fun args h=>match args with
 | [.txt sec,.txt salt,.lit (.int .i64 (.ofNat 1)),.slc b 0 1 c 2]=>match h.bs[b]? with
  | some (.cells (.txt [.by [97]]::.txt [.by [120]]::rest))=>
   if Nat.beq (tlen salt) 16&&Nat.ble (tlen sec) 1000 then
    fNat h.nv fun k=>fPush h.bs (.cells [.txt [.vr k 0 224]]) fun bs=>fNat (k+1) fun k2=>
     fAV (.agg [.lit (.int .i64 (.ofNat 1)),.txt salt,.lit (.int .i64 (.ofNat 1)),.lit (.int .i64 (.ofNat 7)),.lit (.int .i64 (.ofNat 5)),.txt [.op 5 [nz [.vr k 0 224]] 0 32],
      .txt [.op 4 [nz [.op 3 [nz sec] 0 32],nz (axFlds salt [.op 5 [nz [.vr k 0 224]] 0 32])] 0 32],.slc h.bs.length 0 1 1 1]) fun a=>some (.ok (.tup [a,.lit (.int .i64 (.ofNat 0))],⟨bs,k2⟩))
   else none
  | _=>none
 | _=>none
theorem axPr_ok:Qc FF Tryz.prog axPr:=by
 refine Qc.on fun args h v h' hr e w0 w vs H hv=>?_
 split at hr
 rotate_left
 ·cases hr
 rename_i sec salt b c
 split at hr
 rotate_left
 ·cases hr
 rename_i rest hb
 split at hr
 rotate_left
 ·cases hr
 rename_i hn
 simp only [fNat_eq,fPush_eq,fAV_eq] at hr
 cases hr
 simp only [Bool.and_eq_true,Nat.ble_eq,Nat.beq_eq] at hn
 obtain ⟨hsl,hsec⟩:=hn
 obtain ⟨v1,l1,hl1,g1,v2,l2,hl2,g2,v3,l3,hl3,g3,v4,l4,hl4,g4,g5⟩:=hv
 obtain rfl:l4=[]:=g5
 subst hl4;subst hl3;subst hl2
 obtain rfl:vs=#[v1,v2,v3,v4]:=by apply Array.ext';exact hl1
 obtain ⟨g1a,rfl⟩:=g1
 obtain ⟨g2a,rfl⟩:=g2
 obtain rfl:v3=.int .i64 1:=g3
 have hlen1:=Zh g1a
 have hlen2:=Zh g2a
 obtain ⟨B,k,m,c',o',hx,rfl,ho,q1,q2,q3,q4⟩:=g4
 obtain rfl:o'=k+0:=by rcases ho with ho | ho <;> omega
 obtain ⟨u0,cu0,r0⟩:=H.load hb hx (i:=0) rfl
 obtain ⟨u1,cu1,r1⟩:=H.load hb hx (i:=1) rfl
 have e0:u0=.string ⟨#[97]⟩:=by rw [r0.2];rfl
 have e1:u1=.string ⟨#[120]⟩:=by rw [r1.2];rfl
 subst e0;subst e1
 have hrd:Rd w 2 (.slice (some ⟨B,o',none⟩) 1 c') 1 (rows fe [fileAX]):=by
  refine ⟨rfl,_,_,rfl,by omega,q4,by simp,?_⟩
  intro ad had j u hu
  obtain rfl:=Option.some.inj had
  rw [Addr.add_lit]
  match j,hu with
  | 0,hu=>cases hu;exact cu0
  | 1,hu=>cases hu;exact cu1
  | j+2,hu=>simp [rows,fe] at hu
 have hP:=pack_arc (Qb (den FF e sec)) (Qb (den FF e salt)) 1 (by rw [Zg];omega) (by rw [Zg];omega) ⟨by decide,by decide⟩ hrd (by decide) (by intro x hx;rw [show x=fileAX by simpa using hx];exact ⟨by decide,by decide⟩) (by decide)
 refine hP.mono ?_
 rintro en w' ⟨u,rfl,hpk⟩
 rcases hpk with ⟨_,-,-,hbad,-⟩ | ⟨bl,by0,rw0,tg,sv,rfl,hpk,-,ho⟩
 ·have:=hbad (by intro x hx;rw [show x=fileAX by simpa using hx];exact ax_good) (by decide)
  rw [ax_size] at this
  omega
 ·obtain ⟨p1,p2,p3,p4⟩:=hpk
  rw [ax_size] at p2
  rw [ax_raw] at p3
  subst p2;subst p3
  have hL1:bl.length=1:=by
   obtain ⟨-,s2,s3⟩:=splF_sizes _ (packF (putF [fileAX])) (Nat.le_refl _)
   have:=s3 (pack_pos _)
   rw [p1,seals_length]
   rw [ax_size] at s2
   omega
  have hB224:∀ x∈bl,x.size=224:=by rw [p1];exact seals_sizes (splF_sizes _ _ (Nat.le_refl _)).1
  obtain ⟨blk0,rfl⟩:∃ x,bl=[x]:=List.length_eq_one_iff.1 hL1
  have hs224:blk0.data.toList.length=224:=by rw [Array.length_toList];exact hB224 blk0 (by simp)
  have H1:=H.text blk0.data.toList
  have hle1:e.le ⟨e.bl,e.tx++[blk0.data.toList]⟩:=⟨⟨[],by simp⟩,⟨_,rfl⟩⟩
  have hvr:VR FF ⟨e.bl,e.tx++[blk0.data.toList]⟩ (.txt [.vr h.nv 0 224]) (.string blk0):=by
   have hget:(e.tx++[blk0.data.toList])[h.nv]?=some blk0.data.toList:=by rw [H.nv,List.getElem?_append_right (Nat.le_refl _)];simp
   refine ⟨⟨⟨blk0.data.toList,hget,by omega,by omega⟩,trivial⟩,?_⟩
   simp only [den,Ck.den,cutL,List.append_nil,List.drop_zero,List.getD_eq_getElem?_getD,hget,Option.getD_some]
   rw [List.take_of_length_le (by omega),aBytes_back]
  obtain ⟨e',hle2,hsv,H2⟩:=H1.made (cs:=[.txt [.vr h.nv 0 224]]) ho (by simp) ⟨_,[],rfl,hvr,rfl⟩
  have hle:=Env.le_trans hle1 hle2
  have hroot:VR FF e' (.txt [.op 5 [nz [.vr h.nv 0 224]] 0 32]) (.string (leafF blk0)):=by
   have:=VR.le hle2 _ _ hvr
   exact op1_vr this.1 (by
    have h2:=this.2
    rw [Value.string.injEq] at h2
    show (leafF (Qb (den FF e' [.vr h.nv 0 224]))).data.toList=_
    rw [← h2]) (leaf_size _)
  have hsec2:=VR.le hle _ _ (show VR FF e (.txt sec) _ from ⟨g1a,rfl⟩)
  have hsalt2:=VR.le hle _ _ (show VR FF e (.txt salt) _ from ⟨g2a,rfl⟩)
  have hm1:mroot ([blk0].map leafF)=leafF blk0:=by rw [mroot,List.map_cons,List.map_nil,rootF_one]
  rw [hm1] at p4
  have hkh:VR FF e' (.txt [.op 3 [nz sec] 0 32]) (.string (keyHead (Qb (den FF e sec)))):=op1_vr hsec2.1 (by rw [den_le hle sec g1a];rfl) (keyHead_size _)
  obtain ⟨f1,f2⟩:=axFlds_ok hsalt2.1 hroot.1
  have hroot2:Qb (den FF e' [.op 5 [nz [.vr h.nv 0 224]] 0 32])=leafF blk0:=(Value.string.inj hroot.2).symm
  have hkh2:Qb (den FF e' [.op 3 [nz sec] 0 32])=keyHead (Qb (den FF e sec)):=(Value.string.inj hkh.2).symm
  rw [hroot2,den_le hle salt g2a] at f2
  have htag:VR FF e' (.txt [.op 4 [nz [.op 3 [nz sec] 0 32],nz (axFlds salt [.op 5 [nz [.vr h.nv 0 224]] 0 32])] 0 32]) (.string tg):=by
   refine op2_vr hkh.1 f1 ?_ (by rw [p4];exact tag_size _ _)
   show (tagF (Qb (den FF e' [.op 3 [nz sec] 0 32])) (bn (Qb (den FF e' (axFlds salt [.op 5 [nz [.vr h.nv 0 224]] 0 32]))))).data.toList=_
   rw [hkh2,f2,p4]
   rfl
  refine ⟨_,rfl,e',hle,⟨_,rfl,_,_,rfl,⟨_,rfl,?_⟩,_,_,rfl,rfl,rfl⟩,?_⟩
  ·rw [hm1]
   exact ⟨_,_,rfl,rfl,_,_,rfl,hsalt2,_,_,rfl,rfl,_,_,rfl,rfl,_,_,rfl,rfl,_,_,rfl,hroot,_,_,rfl,htag,_,_,rfl,hsv,rfl⟩
  ·exact H2
end
def wantF(p:Nat→Bool)(i:Nat):List Nat:=(List.range i).filter p
theorem want_succ(p:Nat→Bool)(i:Nat):wantF p (i+1)=wantF p i++(if p i then [i] else []):=by
 simp only [wantF,List.range_succ,List.filter_append]
 cases h:p i <;> simp [h]
theorem want_lt{p:Nat→Bool}{i x:Nat}(h:x∈wantF p i):x<i:=by
 simp [wantF] at h
 exact h.1
theorem want_pair(p:Nat→Bool)(i:Nat):(wantF p i).Pairwise (· < ·):=by
 unfold wantF
 exact List.Pairwise.filter _ List.pairwise_lt_range
theorem mem_sum{x:FileP}:∀ {l:List FileP},x∈l→x.path.size+x.data.size≤flSumF l
 | [],h=>by simp at h
 | y::l,h=>by
  rw [show flSumF (y::l)=(y.path.size+y.data.size)+flSumF l from rfl]
  rcases List.mem_cons.1 h with rfl | h
  ·omega
  ·have:=mem_sum h;omega
theorem packed_facts{secret salt:ByteArray}{id:Int}{l:List FileP}{bl:List ByteArray}{bytes raw:Nat}{tag:ByteArray}(h:Packed secret salt id l bl bytes raw tag)(h49:bytes≤49152):1≤bl.length∧bl.length≤256∧∀ b∈bl,b.size=224:=by
 obtain ⟨h1,h2,-,-⟩:=h
 obtain ⟨g1,g2,g3⟩:=splF_sizes _ (packF (putF l)) (Nat.le_refl _)
 have:=g3 (pack_pos _)
 rw [h1,seals_length]
 refine ⟨this,by omega,seals_sizes g1⟩
set_option maxRecDepth 100000 in
set_option maxHeartbeats 12800000 in
theorem topblocks_any(hAw:∀ w,Calls Tryz.prog 7 #[] w (fun e w'=>e=.returned (.bool true)∧Own w w' []))
 {w:World} {a:Option Addr} {n c:Nat} {l:List FileP} (secret salt:ByteArray) (bts0 m0:Int) (h1:secret.size≤140737488351232) (h2:salt.size≤140737488351232) (hm0:-9223372036854775808≤m0∧m0≤9223372036854775807)
 (hb0:-9223372036854775808≤bts0∧bts0≤9223372036854775807)
 (hr:Rd w 2 (.slice a n c) n (rows fe l)) (hs:∀ x∈l,x.path.size≤9223372036854775807∧x.data.size≤9223372036854775807) :
 Calls Tryz.prog 3 #[.string secret,.string salt,.slice a n c,.int .i64 bts0,.int .i64 m0] w (fun e w'=>e=.returned (.bool true)∧Own w w' []):=by
 have HF:=jd (files_any hr hs)
 replace hAw:=jd hAw
 obtain ⟨Z,hZ⟩:∃ Z,secret.size=Z:=⟨_,rfl⟩
 rw [hZ] at h1
 have hln:l.length=n:=by have:=hr.len;rw [Qp fe (k:=2) SF.e_length] at this;omega
 go_enter Tryz.func3,Tryz.ntmps3
 go_wp2_with fail
 refine HF.out.mono ?_
 rintro e w1 ⟨_,rfl,k,hkn,hk70,rfl,H,hsum⟩
 clear HF
 go_upto_if 29 with (fail)
 go_cut [0] (fun v0 wx=>∃ sc:ByteArray,v0=.string sc∧sc.size≤100∧Own w wx [])
 case first=>
  by_cases h100:100<Z
  ·have hI:(100:Int)<(Z:Int):=by omega
   go_wp2
   go_meet
   exact ⟨_,rfl,by rw [ByteArray.size_extract];omega,H⟩
  ·have hI:¬ (100:Int)<(Z:Int):=by omega
   go_wp2
   go_meet
   exact ⟨_,rfl,by omega,H⟩
 case rest=>
  obtain ⟨sc,rfl,hsc,H2⟩:=hcut
  clear H
  have hr2:Rd w 2 (.slice a k c) k (rows fe (l.take k)):=by
   have:=hr.take hkn
   rwa [rows_take fe SF.e_length] at this
  obtain ⟨l2,hl2⟩:∃ l2,l.take k=l2:=⟨_,rfl⟩
  rw [hl2] at hr2 hsum
  have hl2s:∀ x∈l2,x.path.size≤1000000∧x.data.size≤1000000000:=fun x hx=>by have:=mem_sum hx;omega
  have HP:=jd fun w' (h:Own w w' []) st hst=>pack_arc (n:=k) (l:=l2) sc st 1 (by omega) hst ⟨by omega,by omega⟩ (hr2.old h) (by omega) hl2s hsum
  have HS:=jd fun w=>salt_any salt h2 w
  clear hr hs hr2 hl2 hl2s hsum
  go_wp2_with fail
  refine (HS.out wc).mono ?_
  rintro e w2 ⟨_,rfl,st,rfl,hst,H3⟩
  replace H3:=(H2.join H3).bare
  have HP2:=jd (HP.out w2 H3 st hst)
  clear HP HS H2
  go_wp2_with fail
  refine HP2.out.mono ?_
  rintro e w3 ⟨_,rfl,hp⟩
  clear HP2
  rcases hp with ⟨e,rfl,he,-,H4⟩ | ⟨bl,by0,rw0,tg,v,rfl,hpk,hb49,H4⟩
  ·replace H4:=H3.join H4
   have heI:(e==0)=false:=by simp [he]
   have heJ:(e != 0)=true:=by simp [he]
   go_wp2_with (refine Qe rfl _ _ rfl rfl (H4.alloc _) (vs:=[.int .i64 0,.string ⟨#[]⟩,.int .i64 0,.int .i64 0,.int .i64 0,.string ⟨#[]⟩,.string ⟨#[]⟩,.slice none 0 0]) rfl (by kernel_rfl) (by simp) (by simp [Value.oneCell']) rfl ?_;clear H4;intro w5 H4)
   refine (hAw.out _).mono ?_
   rintro e w6 ⟨rfl,H6⟩
   go_wp2
   go_ret
   exact ⟨rfl,(H4.join H6).bare⟩
  ·obtain ⟨hN1,hN256,hbs⟩:=packed_facts hpk hb49
   replace H4:=H3.join H4
   rw [List.append_nil] at H4
   obtain ⟨N,hN⟩:∃ N,bl.length=N:=⟨_,rfl⟩
   obtain ⟨S,hS⟩:∃ S,Hid (bl.map leafF=S):=⟨_,rfl⟩
   have hSl:S.length=N:=by rw [← hS.out,List.length_map,hN]
   have hS32:Hid (∀ s∈S,s.size=32):=jd fun s hs=>by
    rw [← hS.out] at hs
    obtain ⟨x,-,rfl⟩:=List.mem_map.1 hs
    exact leaf_size x
   have hSk:Hid (∀ (k:Nat) x,bl[k]?=some x→S[k]?=some (leafF x)):=jd fun k x h=>by rw [← hS.out,List.getElem?_map,h];rfl
   obtain ⟨R,hR⟩:∃ R,Hid (mroot S=R):=⟨_,rfl⟩
   rw [hN] at H4
   rw [hS.out,hR.out,hN]
   rw [hN] at hN1 hN256
   obtain ⟨ba,bc,rfl,hbc1,hbc2⟩:=H4.rd.shape
   clear hpk hb49 H3 hS
   unfold arcC
   have hN0:((N:Int)==0)=false:=by simp;omega
   replace hbs:=jd hbs
   go_upto_region 10 with (refine Qe rfl _ _ rfl rfl (H4.alloc _) (vs:=[.int .i64 1,.string st,.int .i64 N,.int .i64 by0,.int .i64 rw0,.string R,.string tg,.slice ba N bc]) rfl (by kernel_rfl) (by simp) (by simp [Value.oneCell']) rfl ?_;clear H4;intro w5 H4;have c0:=H4.cells)
   generalize w3.heap.size=ga at *
   have c5:w5.cell? ⟨ga,5,none⟩=some (.string R):=by rw [c0];rfl
   replace c0:w5.cell? ⟨ga,7,none⟩=some (.slice (ba) N bc):=by rw [c0];rfl
   replace H4:Own w w5 (blk ga (.cells #[.int .i64 1,.string st,.int .i64 N,.int .i64 by0,.int .i64 rw0,.string R,.string tg,.slice ba N bc] 28)::slc 9 1 (.slice ba N bc) N (txs bl)::[]):=H4
   go_wp2_with fail
   refine (grnew_any w5).mono ?_
   rintro e w6 ⟨_,rfl,gt,rfl,H6⟩
   replace H6:=H4.join H6
   clear H4 c0 c5
   obtain ⟨m,hm⟩:∃ m:Nat,Hid (((m:Nat):Int)=1+((m0.tmod N+N).tmod N)):=⟨_,jd (Int.toNat_of_nonneg (by have:=Int.tmod_nonneg (a:=m0.tmod N+N) (N:Int) (by have:=Int.lt_tmod_of_pos m0 (b:=(N:Int)) (by omega);omega);omega))⟩
   have hm1:1≤m:=by
    have:=hm.out
    have:=Int.tmod_nonneg (a:=m0.tmod N+N) (N:Int) (by have:=Int.lt_tmod_of_pos m0 (b:=(N:Int)) (by omega);omega)
    omega
   have hmN:m≤N:=by
    have:=hm.out
    have:=Int.tmod_lt_of_pos (m0.tmod N+N) (b:=(N:Int)) (by omega)
    omega
   have hlt:=Int.lt_tmod_of_pos m0 (b:=(N:Int)) (by omega)
   have hlt2:=Int.tmod_lt_of_pos m0 (b:=(N:Int)) (by omega)
   have hw1:wrap64 (m0.tmod N+N)=m0.tmod N+N:=by unfold wrap64;omega
   have hw2:Hid (wrap64 (1+(wrap64 (m0.tmod N+N)).tmod N)=(m:Int)):=jd (by
    rw [hw1,← hm.out]
    have:=hm.out
    unfold wrap64;omega)
   clear hlt hlt2 hw1
   go_upto_region 15 with (fail)
   rw [hw2.out]
   clear hw2 hm
   go_upto_block 0 with (fail)
   obtain ⟨pd,hpd⟩:∃ pd:Nat→Bool,Hid (pd=fun i=>bits BinOp.and IntKind.i64 (bts0/2^(i%62)) 1==1):=⟨_,jd rfl⟩
   go_wp2_with fail
   go_loopw [14,15,16,18,19,20] (fun v14 v15 v16 v18 v19 _ wx=>∃ (i:Nat) (fr:ByteArray),v19=.int .i64 i∧i≤N∧v18=.string fr∧Hid (m≤i→fr=mroot (S.take m))∧Own w wx (Grw gt (S.take i)::slc 9 1 v14 i (txs (S.take i))::slc 3 1 v16 (wantF pd i).length (nts (wantF pd i))::slc 9 1 v15 (wantF pd i).length (txs ((wantF pd i).map fun i=>S.getD i ByteArray.empty))::blk ga (.cells #[.int .i64 1,.string st,.int .i64 N,.int .i64 by0,.int .i64 rw0,.string R,.string tg,.slice ba N bc] 28)::slc 9 1 (.slice ba N bc) N (txs bl)::[])) (fun _ _ _ _ v19 _ _=>N-(intOf v19).toNat)
   case atStart=>
    refine ⟨0,⟨#[]⟩,rfl,by omega,rfl,jd (fun h=>by omega),?_⟩
    have h7:=((H6.nil 9 1).nil 3 1).nil 9 1
    exact ((((h7.front 1 rfl).front 2 rfl).front 3 rfl))
   case round=>
    clear H6
    obtain ⟨i,fr,rfl,hi,rfl,hfr,H⟩:=hrel
    obtain ⟨W,hW⟩:∃ W,Hid (wantF pd i=W):=⟨_,rfl⟩
    rw [hW.out] at H
    obtain ⟨wl,hwl⟩:∃ wl,W.length=wl:=⟨_,rfl⟩
    have hwl9:wl≤i:=by
     rw [← hwl,← hW.out]
     exact Nat.le_trans (List.length_filter_le _ _) (by rw [List.length_range];exact Nat.le_refl _)
    rw [hwl] at H
    by_cases hiN:i<N
    ·have hI2:(i:Int)<(N:Int):=by omega
     have hi0:(0:Int)≤(i:Int):=by omega
     obtain ⟨x,hx⟩:∃ x,bl[i]?=some x:=Ql (by omega)
     have hxs:=hbs.out x (List.mem_of_getElem? hx)
     have hSx:=hSk.out i x hx
     have hrd:=(H.front 5 rfl).rd
     obtain ⟨b,o,c',e,-⟩:=Rd.some hrd (by rw [Qr];omega)
     cases e
     have h0:wr.cell? ⟨b,o+i,none⟩=some (.string x):=Rd.cell hrd (j:=i) (u:=.string x) (by rw [txs_get hx])
     have c0:wr.cell? ⟨ga,7,none⟩=some (.slice (some ⟨b,o,none⟩) N bc):=by rw [(H.front 4 rfl).cells];rfl
     have HL:=jd (mkleaf_any x (by omega) wr)
     obtain ⟨y,hy⟩:∃ y,Hid (leafF x=y):=⟨_,rfl⟩
     rw [hy.out] at HL hSx
     have hy32:y.size=32:=by rw [← hy.out];exact leaf_size x
     have hst:Hid (S.take (i+1)=S.take i++[y]):=jd (by rw [List.take_add_one,hSx];rfl)
     have hgy:Hid (S.getD i ByteArray.empty=y):=jd (by rw [List.getD_eq_getElem?_getD,hSx];rfl)
     clear hrd hx hy hSx
     obtain ⟨a14,c14,rfl,g1,g2⟩:=(H.front 1 rfl).rd.shape
     obtain ⟨a16,c16,rfl,g3,g4⟩:=(H.front 2 rfl).rd.shape
     obtain ⟨a15,c15,rfl,g5,g6⟩:=(H.front 3 rfl).rd.shape
     go_wp2_with fail
     refine HL.out.mono ?_
     rintro e w7 ⟨rfl,H7⟩
     replace H7:=H.join H7
     rw [List.nil_append] at H7
     clear H HL h0 c0
     have H8:=((H7.front 1 rfl))
     clear H7
     go_wp2_with (at_builtin;refine Qf (news:=[.string y]) rfl _ _ rfl Tryz.underlying26 strInfo rfl (by decide) rfl H8 rfl rfl rfl (by simp [Value.oneCell']) (by omega) (by omega) ?_;clear H8;intro v' w' H8)
     obtain ⟨a14',c14',rfl,g1',g2'⟩:=H8.rd.shape
     rw [show txs (S.take i)++[.string y]=txs (S.take (i+1)) by rw [hst.out,Zi];rfl] at H8
     have hGA:=jd (gradd_any (l:=S.take i) y hy32 (fun s hs=>hS32.out s (List.mem_of_mem_take hs)) (by rw [List.length_take];omega) H8.swap)
     rw [← hst.out] at hGA
     clear H8
     go_wp2_with fail
     refine hGA.out.mono ?_
     rintro e w9 ⟨_,rfl,rfl,H9⟩
     clear hGA
     have hW2:=jd (want_succ pd i)
     rw [hW.out] at hW2
     go_upto_if 81 with (fail)
     go_cut [15,16] (fun v15 v16 wx=>Own w wx (Grw gt (S.take (i+1))::slc 9 1 (.slice a14' (i+1) c14') (i+1) (txs (S.take (i+1)))::slc 3 1 v16 (wantF pd (i+1)).length (nts (wantF pd (i+1)))::slc 9 1 v15 (wantF pd (i+1)).length (txs ((wantF pd (i+1)).map fun i=>S.getD i ByteArray.empty))::blk ga (.cells #[.int .i64 1,.string st,.int .i64 N,.int .i64 by0,.int .i64 rw0,.string R,.string tg,.slice (some ⟨b,o,none⟩) N bc] 28)::slc 9 1 (.slice (some ⟨b,o,none⟩) N bc) N (txs bl)::[]))
     case first=>
      cases hpi:pd i
      ·have hbit:(bits BinOp.and IntKind.i64 (bts0/2^(i%62)) 1==1)=false:=by rw [hpd.out] at hpi;exact hpi
       rw [hpi] at hW2
       simp only [Bool.false_eq_true,if_false,List.append_nil] at hW2
       go_wp2_with fail
       go_meet
       rw [hW2.out,hwl]
       exact H9
      ·have hbit:(bits BinOp.and IntKind.i64 (bts0/2^(i%62)) 1==1)=true:=by rw [hpd.out] at hpi;exact hpi
       rw [hpi] at hW2
       simp only [if_true] at hW2
       have H10:=((H9.front 2 rfl))
       clear H9
       go_wp2_with (first
        | (at_builtin;refine Qf (news:=[.int .i64 i]) rfl _ _ rfl Tryz.underlying34 intInfo rfl (by decide) rfl H10 rfl rfl rfl (by simp [Value.oneCell']) (by omega) (by omega) ?_;clear H10;intro v16' w10 H10;obtain ⟨a16',c16',rfl,g3',g4'⟩:=H10.rd.shape;have H11:=((H10.front 3 rfl));clear H10)
        | (at_builtin;refine Qf (news:=[.string y]) rfl _ _ rfl Tryz.underlying26 strInfo rfl (by decide) rfl H11 rfl rfl rfl (by simp [Value.oneCell']) (by omega) (by omega) ?_;clear H11;intro v15' w11 H11;obtain ⟨a15',c15',rfl,g5',g6'⟩:=H11.rd.shape))
       go_meet
       have H12:=((((H11.front 1 rfl).front 3 rfl).front 3 rfl))
       rw [hW2.out,lJ,hwl,List.map_append,Zi]
       simp only [List.map_cons,List.map_nil,hgy.out]
       rw [show nts (W++[i])=nts W++[.int .i64 i] by simp [nts]]
       exact H12
     case rest=>
      clear H9 hW2
      have hiw:IntKind.i64.wrap ((i:Int)+1)=((i+1:Nat):Int):=by rw [IntWalk.i64_in _ ⟨by omega,by omega⟩];omega
      obtain ⟨q,hq⟩:∃ q,i+1=q:=⟨_,rfl⟩
      rw [hq] at hcut hiw ⊢
      have hqN:q≤N:=by omega
      have hqi:i<q∧N-q<N-i:=by omega
      replace hq:=jd hq
      have hSq:(S.take q).length=q:=by rw [List.length_take];omega
      by_cases hmi:m=q
      ·subst hmi
       have hmiI:((m:Int)==(m:Int))=true:=by simp
       have hR2:=jd (grroot_any (l:=S.take m) (fun s hs=>hS32.out s (List.mem_of_mem_take hs)) (by omega) (by omega) hcut)
       go_wp2_with fail
       refine hR2.out.mono ?_
       rintro e w12 ⟨rfl,H12⟩
       replace H12:=hcut.join H12
       rw [List.nil_append] at H12
       clear hR2 hcut
       go_wp2_with fail
       go_roundw
       case rel=>exact ⟨m,_,by go_num,by omega,rfl,jd (fun _=>rfl),H12⟩
       case measure=>simp [intOf];omega
      ·have hmiI:((q:Int)==(m:Int))=false:=by simp;omega
       go_wp2_with fail
       go_roundw
       case rel=>exact ⟨q,fr,by go_num,by omega,rfl,jd (fun h=>hfr.out (by have:=hq.out;omega)),hcut⟩
       case measure=>simp [intOf];omega
    ·obtain rfl:i=N:=by omega
     have hI2:¬ (i:Int)<(i:Int):=by omega
     obtain rfl:=hfr.out hmN
     rw [List.take_of_length_le (by omega)] at H
     have hWp:Hid (W.Pairwise (· < ·)):=jd (by rw [← hW.out];exact want_pair _ _)
     have hWb:Hid (∀ x∈W,x<i):=jd (by rw [← hW.out];exact fun x hx=>want_lt hx)
     obtain ⟨a14,c14,rfl,g1,g2⟩:=(H.front 1 rfl).rd.shape
     obtain ⟨a16,c16,rfl,g3,g4⟩:=(H.front 2 rfl).rd.shape
     obtain ⟨a15,c15,rfl,g5,g6⟩:=(H.front 3 rfl).rd.shape
     obtain ⟨ps,hps⟩:∃ ps:List Piece,ps=(Grw gt S::slc 9 1 (.slice a14 i c14) i (txs S)::slc 3 1 (.slice a16 wl c16) wl (nts W)::slc 9 1 (.slice a15 wl c15) wl (txs (W.map fun i=>S.getD i ByteArray.empty))::blk ga (.cells #[.int .i64 1,.string st,.int .i64 i,.int .i64 by0,.int .i64 rw0,.string R,.string tg,.slice ba i bc] 28)::slc 9 1 (.slice ba i bc) i (txs bl)::[]):=⟨_,rfl⟩
     have H2:Own w wr ps:=by rw [hps];exact H
     have k2:Hid (∀ w1,Own w w1 ps→Calls Tryz.prog 11 #[.pointer (some ⟨gt,0,none⟩)] w1 (fun e w2=>e=.returned (.string R)∧Own w w2 ps)):=jd fun w1 h=>by
      rw [hps] at h
      have:=grroot_any (l:=S) hS32.out (by omega) (by omega) h
      rw [hR.out] at this
      rw [hps]
      exact this.mono fun e w2 g=>⟨g.1,h.join g.2⟩
     have cS:Hid (∀ w1,Own w w1 ps→w1.cell? ⟨ga,5,none⟩=some (.string R)):=jd fun w1 h=>by
      rw [hps] at h
      rw [(h.front 4 rfl).cells];rfl
     go_upto_region 27 with (fail)
     refine Qa (fun w1=>Own w w1 ps) 5 (by kernel_rfl) (by kernel_rfl) H2.drew ?_
     simp only [List.take_succ_cons,List.take_zero,List.drop_succ_cons,List.drop_zero]
     repeat
      first
      | (refine calm_value (v:=?_) (by decide) rfl (fun σ w1 hS=>?_) ?_
         rotate_left
         ·have c5:=cS.out _ hS
          first | (go_simp;rfl) | rfl
         simp only [Act.put,putC])
      | (refine calm_skip (by decide) rfl ?_
         simp only [Act.put,putC])
     refine calm_call (v:=.string R) (by decide) rfl (fun w1=>(by go_simp)) (fun σ w1 hS=>k2.out w1 hS) ?_
     simp only [Act.put,putC]
     repeat
      first
      | (refine calm_value (v:=?_) (by decide) rfl (fun σ w1 hS=>?_) ?_
         rotate_left
         ·have c5:=cS.out _ hS
          first | (go_simp;rfl) | rfl
         simp only [Act.put,putC])
      | (refine calm_skip (by decide) rfl ?_
         simp only [Act.put,putC])
     refine calm_nil ?_
     intro wd HD
     clear H2 k2 H
     have c5:=cS.out _ HD
     rw [hps] at HD
     have hCP:=jd (csprove_any (m:=m) (l:=S) (by omega) hm1 hmN (HD.front 1 rfl).rd (fun s hs=>by have:=hS32.out s hs;omega))
     go_wp2_with fail
     refine hCP.out.mono ?_
     rintro e w12 ⟨_,rfl,u,rfl,H12⟩
     have hCC:=jd (cscheck_any (m:=m) (l:=S) (by omega) hm1 hmN hSl hS32.out H12.rd)
     replace H12:=HD.join H12
     clear HD hCP c5
     obtain ⟨ua,uc,e,hu1,hu2⟩:=H12.rd.shape
     obtain rfl:=e
     obtain ⟨ml,hml⟩:∃ x,Hid ((msub m S true).length=x):=⟨_,rfl⟩
     obtain ⟨MS,hMS⟩:∃ x,Hid (txs (msub m S true)=x):=⟨_,rfl⟩
     rw [hml.out,hMS.out] at H12
     rw [hml.out,hR.out] at hCC
     have c5:w12.cell? ⟨ga,5,none⟩=some (.string R):=by rw [(H12.front 5 rfl).cells];rfl
     rw [hml.out]
     go_wp2_with fail
     refine hCC.out.mono ?_
     rintro e w13 ⟨rfl,H13⟩
     replace H13:=H12.join H13
     rw [List.nil_append] at H13
     clear H12 hCC c5 cS hps
     by_cases hw0:wl=0
     ·have hw0I:((wl:Int)==0)=true:=by simp [hw0]
      go_wp2_with fail
      refine (hAw.out _).mono ?_
      rintro e w14 ⟨rfl,H14⟩
      go_wp2
      go_ret
      exact ⟨rfl,(H13.join H14).bare⟩
     ·have hw0I:((wl:Int)==0)=false:=by simp [hw0]
      have hMP:=jd (muProve_any (n:=i) (m:=wl) (l:=S) (want:=W) (by omega) (by omega) (by omega) (H13.front 2 rfl).rd (H13.front 3 rfl).rd (fun s hs=>by have:=hS32.out s hs;omega) hWp.out hWb.out (by omega))
      go_wp2_with fail
      refine hMP.out.mono ?_
      rintro e w14 ⟨_,rfl,q,rfl,H14⟩
      have hrq:=H14.rd
      replace H14:=H13.join H14
      clear H13 hMP
      have hMC:=jd (mucheck_any (l:=S) (want:=W) (n:=i) (by omega) (by omega) hSl (by intro h;rw [h] at hwl;exact hw0 hwl.symm) hWp.out hWb.out hS32.out (by rw [hwl];exact (H14.front 4 rfl).rd) (by rw [hwl];exact (H14.front 5 rfl).rd) hrq)
      obtain ⟨qa,qc,e,hq1,hq2⟩:=hrq.shape
      obtain rfl:=e
      obtain ⟨pl,hpl⟩:∃ x,Hid ((Zr W S).length=x):=⟨_,rfl⟩
      rw [hpl.out,hR.out] at hMC
      have c5:w14.cell? ⟨ga,5,none⟩=some (.string R):=by rw [(H14.front 6 rfl).cells];rfl
      rw [hpl.out]
      clear hrq
      go_wp2_with fail
      refine hMC.out.mono ?_
      rintro e w15 ⟨rfl,H15⟩
      replace H15:=H14.join H15
      clear H14 hMC c5
      go_wp2_with fail
      refine (hAw.out _).mono ?_
      rintro e w16 ⟨rfl,H16⟩
      go_wp2
      go_ret
      exact ⟨rfl,(H15.join H16).bare⟩
noncomputable section
def pr0:Prims:=orPr prRepeat (orPr prTrim (orPr prLeaf (orPr prKeys (orPr prSum (orPr prTag (orPr prEqual (orPr prRep axPr)))))))
theorem pr0_ok:Qc FF Tryz.prog pr0:=prRepeat_ok.or (prTrim_ok.or (prLeaf_ok.or (prKeys_ok.or (prSum_ok.or (prTag_ok.or (prEqual_ok.or (prRep_ok.or axPr_ok)))))))
theorem Qk:Tryz.prog.follows .mixedOrders=true:=by kernel_rfl
def pr1:Prims:=orPr (syPr (aRun Tryz.prog pr0 200 20)) pr0
theorem pr1_ok:Qc FF Tryz.prog pr1:=(syPr_ok (Qt Qk pr0_ok 200 20)).or pr0_ok
def pr2:Prims:=orPr (dPr Tryz.prog 146 (aRun Tryz.prog pr1 200 20) (fun ops tm h=>aDraw Tryz.prog (aRun Tryz.prog pr1 200 20) ops tm h) 200) pr1
theorem Jn:Qc FF Tryz.prog pr2:=(Qc.defer (Qt Qk pr1_ok 200 20) (aDraw_ok Qk (Qt Qk pr1_ok 200 20)) _ _).or pr1_ok
end
end Go.Proofs.YthekdeikodppkaaGreatDoor
