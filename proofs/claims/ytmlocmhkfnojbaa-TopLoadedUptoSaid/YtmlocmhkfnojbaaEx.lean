/- The example of the tokens: what seven tokens cost. No condition beyond those typed in each theorem. -/
import Derived.Test.YtmlocmhkfnojbaaD5
import Derived.Test.YtmlocmhkfnojbaaFn3
namespace Go.Proofs.Try.V.Cv
open Go.Vi Go.Proofs Go.RowKit
set_option maxRecDepth 100000
def NO:Int:=1152921504606846976
def qgO(c:Nat->Int)(t:Nat):List Int:=(List.range t).map c++List.replicate (1008-t) NO
theorem mixR_len{c:Nat->Int}{t:Nat}(h:t<=1008):(qgO c t).length=1008:=by unfold qgO;simp;omega
theorem mixR_set{c:Nat->Int}{t:Nat}(h:t<1008)(v:Int):(qgO c t).set t v=(List.range t).map c++v::List.replicate (1008-(t+1)) NO:=by
 unfold qgO
 rw[List.set_append,if_neg (by simp),List.length_map,List.length_range,Nat.sub_self,show 1008-t=(1008-(t+1))+1 by omega,List.replicate_succ]
 rfl
theorem qjK{c:Nat->Int}{t:Nat}:(List.range t).map c++c t::List.replicate (1008-(t+1)) NO=qgO c (t+1):=by
 unfold qgO
 rw[List.range_succ,List.map_append,List.append_assoc]
 rfl
theorem gI{α R:Type}{l:List α}{i:Nat}{x:α}(h:l[i]? = some x)(k:α->Option R):qs l (i:Int) k=k x:=by
 unfold qs
 rw[if_pos (by omega),Int.toNat_natCast,h]
theorem gN{α R:Type}{l:List α}{i:Nat}(h:i<l.length)(k:α->Option R):qs l (i:Int) k=k l[i]:=gI (List.getElem?_eq_getElem h) k
theorem wk{x:Int}{n:Nat}(h:x=n)(hn:n<=100000000):IntKind.wrap .i64 x=(n:Int):=by rw[h];exact wr (by omega) (by omega)
abbrev BT:=List (Int×Int)
theorem qmm{l:BT}{i e:Nat}{p:Int}{O:List (List Int)}{c d:Nat->Int}(hl:l[i]? = some ((e:Int),p))(hi:i+1<O.length)(hi2:i<100)(he:1<=e/\e<=1000)(hd:O[i+1]? = some ((List.range 1008).map d))
  (hc:∀t,t<1008->c t=if e<=t/\c (t-e)<NO then min (d t) (c (t-e)+p)else d t) (hb:∀t,t<1008->c t<NO->-1000000000<=c t+p/\c t+p<=1000000000) (n most:Int):∀(k N t:Nat),t+k=1008->
  L50_13 (N+k+1) ((l,n,most,(i:Int),1008,(t:Int),()),(O.set i (qgO c t),()),())=some ((l,n,most,(i:Int),()),(O.set i ((List.range 1008).map c),()),())
 |0,N,t,h=>by
  obtain rfl:t=1008:=by omega
  show B50_13 (N+0) (L50_13 (N+0)) l n most (i:Int) 1008 ((1008:Nat):Int) (O.set i (qgO c 1008))=_
  unfold B50_13
  rw[decide_eq_false (by omega),cond_false]
  simp[qgO]
 |k+1,N,t,h=>by
  have ih:=qmm hl hi hi2 he hd hc hb n most k N (t+1) (by omega)
  show B50_13 (N+(k+1)) (L50_13 (N+(k+1))) l n most (i:Int) 1008 (t:Int) (O.set i (qgO c t))=_
  unfold B50_13
  have hlen:∀r:List Int,(O.set i r).length=O.length:=λr=>List.length_set
  have hat:∀r:List Int,(O.set i r)[i]? = some r:=λr=>List.getElem?_set_self (by omega)
  have hnx:∀r:List Int,(O.set i r)[i+1]? = some ((List.range 1008).map d):=λr=>by rw[List.getElem?_set_ne (by omega)];exact hd
  have hdt:((List.range 1008).map d)[t]? = some (d t):=by simp[show t<1008 by omega]
  have hmt:(qgO c t)[t]? = some NO:=by
   unfold qgO
   rw[List.getElem?_append_right (by simp),List.length_map,List.length_range,Nat.sub_self,List.getElem?_replicate]
   simp[show 0<1008-t by omega]
  have hset:∀r r':List Int,(O.set i r).set i r'=O.set i r':=λr r'=>List.set_set ..
  have hm1:∀v:Int,((List.range t).map c++v::List.replicate (1008-(t+1)) NO).length=1008:=λv=>by simp;omega
  have hm2:∀v:Int,((List.range t).map c++v::List.replicate (1008-(t+1)) NO)[t]? = some v:=λv=>by
   rw[List.getElem?_append_right (by simp),List.length_map,List.length_range,Nat.sub_self]
   rfl
  have hm3:∀(v:Int) (j:Nat),j<t->((List.range t).map c++v::List.replicate (1008-(t+1)) NO)[j]? = some (c j):=λv j hj=>by
   rw[List.getElem?_append_left (by simpa using hj)]
   simp[hj]
  have hm4:∀v v':Int,((List.range t).map c++v::List.replicate (1008-(t+1)) NO).set t v'=(List.range t).map c++v'::List.replicate (1008-(t+1)) NO:=λv v'=>by
   rw[List.set_append,if_neg (by simp),List.length_map,List.length_range,Nat.sub_self]
   rfl
  have w1:IntKind.wrap .i64 ((i:Int)+1)=((i+1:Nat):Int):=wk (by omega) (by omega)
  have w2:IntKind.wrap .i64 ((t:Int)+1)=((t+1:Nat):Int):=wk (by omega) (by omega)
  have a1:∀{R:Type} (r:List Int) (z:Option R),inR (i:Int) (O.set i r).length z=z:=λr z=>qaS (by omega) (by rw[hlen];omega) z
  have a2:∀{R:Type} (r:List Int) (z:Option R),inR ((i+1:Nat):Int) (O.set i r).length z=z:=λr z=>qaS (by omega) (by rw[hlen];omega) z
  have a3:∀{R:Type} (z:Option R),inR (t:Int) ((List.range 1008).map d).length z=z:=λz=>qaS (by omega) (by simp;omega) z
  have a4:∀{R:Type} (z:Option R),inR (t:Int) (qgO c t).length z=z:=λz=>qaS (by omega) (by rw[mixR_len (by omega)];omega) z
  have a5:∀{R:Type} (v:Int) (z:Option R),inR (t:Int) ((List.range t).map c++v::List.replicate (1008-(t+1)) NO).length z=z:=λv z=>qaS (by omega) (by rw[hm1];omega) z
  have fin:d t=c t->L50_13 (N+(k+1)) ((l,n,most,(i:Int),1008,((t+1:Nat):Int),()),(O.set i ((List.range t).map c++d t::List.replicate (1008-(t+1)) NO),()),())=some ((l,n,most,(i:Int),()),(O.set i ((List.range 1008).map c),()),()):=λe=>by
   rw[e,qjK]
   exact ih
  rw[decide_eq_true (by omega),cond_true,a1,w1,a2,gI (hnx _),a3,gI (hnx _),gI hdt,gI (hat _),a4,gI (hat _),gI hmt,gI hl]
  simp only[Int.toNat_natCast,hset,mixR_set (show t<1008 by omega)]
  rw[wr (by omega) (by omega)]
  have hct:=hc t (by omega)
  by_cases het:e<=t
  ·have hj:(t:Int)-(e:Int)=((t-e:Nat):Int):=by omega
   have a6:∀{R:Type} (v:Int) (z:Option R),inR ((t-e:Nat):Int) ((List.range t).map c++v::List.replicate (1008-(t+1)) NO).length z=z:=λv z=>qaS (by omega) (by rw[hm1];omega) z
   rw[decide_eq_true (by omega),cond_true,hj,a1,gI (hat _),a6,gI (hat _),gI (hm3 _ _ (by omega))]
   by_cases hlt:c (t-e)<NO
   ·have hbb:=hb (t-e) (by omega) hlt
    rw[if_pos ⟨het,hlt⟩]at hct
    rw[decide_eq_true (show c (t-e)<1152921504606846976 from hlt),cond_true]
    simp only[a1,gI (hat _),a5,a6,gI (hm2 _),gI (hm3 _ (t-e) (by omega)),gI hl,qcf,hset,hm4,w2]
    rw[wr (by omega) (by omega),<-hct,qjK]
    exact ih
   ·rw[decide_eq_false (show ¬c (t-e)<1152921504606846976 from hlt),cond_false,w2]
    rw[if_neg (λh=>hlt h.2)]at hct
    exact fin hct.symm
  ·rw[decide_eq_false (by omega),cond_false,w2]
   rw[if_neg (λh=>het h.1)]at hct
   exact fin hct.symm
def c2(t:Nat):Int:=if t=0 then 0 else NO
def c1(t:Nat):Int:=if t%6=0 then((1000*(t/6):Nat):Int)else NO
def c0(t:Nat):Int:=((200*(t%6)+1000*(t/6):Nat):Int)
def exB:BT:=[(1,200),(6,1000)]
def qaR(c:Nat->Int):List Int:=(List.range 1008).map c
theorem row1(n most:Int)(N:Nat):L50_13 (N+1009) ((exB,n,most,1,1008,0,()),([List.replicate 1008 NO,List.replicate 1008 NO,qaR c2],()),())=some ((exB,n,most,1,()),([List.replicate 1008 NO,qaR c1,qaR c2],()),()):=
 qmm (l:=exB) (i:=1) (e:=6) (p:=1000) (O:=[List.replicate 1008 NO,[],qaR c2]) (c:=c1) (d:=c2) rfl (by decide) (by omega) (by omega) rfl (λt ht=>by
  unfold c1 c2 NO
  split<;>split<;>(try split)<;>(try split)<;>omega) (λt ht h=>by
  unfold c1 at *
  split at h
  ·rename_i h6;rw[if_pos h6];omega
  ·omega) n most 1008 N 0 (by omega)
theorem row0(n most:Int)(N:Nat):L50_13 (N+1009) ((exB,n,most,0,1008,0,()),([List.replicate 1008 NO,qaR c1,qaR c2],()),())=some ((exB,n,most,0,()),([qaR c0,qaR c1,qaR c2],()),()):=
 qmm (l:=exB) (i:=0) (e:=1) (p:=200) (O:=[[],qaR c1,qaR c2]) (c:=c0) (d:=c1) rfl (by decide) (by omega) (by omega) rfl (λt ht=>by
  unfold c0 c1 NO
  split<;>(try split)<;>omega) (λt ht h=>by
  unfold c0 at *
  omega) n most 1008 N 0 (by omega)
theorem qnm{O:List (List Int)}(h0:O[0]? = some (qaR c0)):∀(k N t:Nat),t+k=1008->7<=t->L50_22 (N+k+1) ((exB,1007,7,(t:Int),()),(O,()),())=some ((exB,7,()),(O,()),())
 |0,N,t,h,_=>by
  obtain rfl:t=1008:=by omega
  rfl
 |k+1,N,t,h,h7=>by
  show B50_22 (N+(k+1)) (L50_22 (N+(k+1))) exB 1007 7 (t:Int) O=_
  unfold B50_22
  have hl:(qaR c0).length=1008:=by simp[qaR]
  have hO:0<O.length:=(List.getElem?_eq_some_iff.1 h0).1
  have a1:∀{R:Type} (z:Option R),inR (0:Int) O.length z=z:=λz=>qaS (by omega) (by omega) z
  have a2:∀{R:Type} (z:Option R),inR (t:Int) (qaR c0).length z=z:=λz=>qaS (by omega) (by rw[hl];omega) z
  have a3:∀{R:Type} (z:Option R),inR (7:Int) (qaR c0).length z=z:=λz=>qaS (by omega) (by rw[hl];omega) z
  have g0:∀{R:Type} (z:List Int->Option R),qs O (0:Int) z=z (qaR c0):=λz=>gI (i:=0) h0 z
  have gt:∀{R:Type} (z:Int->Option R),qs (qaR c0) (t:Int) z=z (c0 t):=λz=>gI (by simp[qaR,show t<1008 by omega]) z
  have g10:∀{R:Type} (z:Int->Option R),qs (qaR c0) (7:Int) z=z (c0 7):=λz=>gI (i:=7) (by simp[qaR]) z
  rw[decide_eq_true (by omega),cond_true]
  simp only[a1,a2,a3,g0,gt,g10]
  rw[decide_eq_false (show ¬c0 t<c0 7 by unfold c0;omega),cond_false,wk (n:=t+1) (by omega) (by omega)]
  exact qnm h0 k N (t+1) (by omega) (by omega)
noncomputable def M71:Nat->(Int×Unit)×((List Int)×Unit)×Unit->Option (((Unit)×((List Int)×Unit)×Unit))
 |0,_=>none
 |n+1,d=>cond (decide (d.1.1<(d.2.1.1.length:Int))) (leK 0 d.1.1 (leK d.1.1 (d.2.1.1.length:Int) (leK 0 d.1.1 (leK d.1.1 (d.2.1.1.length:Int) (M71 n (((IntKind.wrap .i64 (d.1.1+((min (d.2.1.1.take d.1.1.toNat).length (d.2.1.1.length-d.1.1.toNat):Nat):Int))),()),((qcz d.2.1.1 (d.2.1.1.take d.1.1.toNat) d.1.1.toNat),()),())))))) (some ((),(d.2.1.1,()),()))
theorem M71_eq:∀n,L62_8 n=M71 n
 |0=>rfl
 |n+1=>by
  funext d
  show B62_8 n (L62_8 n) d.1.1 d.2.1.1=_
  unfold B62_8
  rw[M71_eq n]
  simp only[qcE,qaf,qag]
  rfl
theorem g62_row:g62 ([NO],1008,())=some ((List.replicate 1008 NO,()),()):=by
 unfold g62 F62
 rw[M71_eq]
 kernel_rfl
theorem qkL{n:Int}(N:Nat){t:Nat}(ht:t<3){O:List (List Int)}(hO:O.length=3):L50_4 (N+1) ((exB,n,1007,3,(t:Int),()),(O,()),())=L50_4 N ((exB,n,1007,3,((t+1:Nat):Int),()),(O.set t (List.replicate 1008 NO),()),()):=by
 show B50_4 N (L50_4 N) exB n 1007 3 (t:Int) O=_
 unfold B50_4
 have h71:g62 ([1152921504606846976],(IntKind.wrap .i64 ((1007:Int)+1)),())=some ((List.replicate 1008 NO,()),()):=g62_row
 rw[decide_eq_true (by omega),cond_true,h71]
 simp only[dk]
 rw[qaS (by omega) (by rw[hO];omega),gN (by rw[hO];omega),wk (n:=t+1) (by omega) (by omega),Int.toNat_natCast]
theorem fill_ok(n:Int)(N:Nat):L50_4 (N+4) ((exB,n,1007,3,0,()),([[],[],[]],()),())=some ((exB,n,1007,()),([List.replicate 1008 NO,List.replicate 1008 NO,List.replicate 1008 NO],()),()):=by
 rw[show(0:Int)=((0:Nat):Int)from rfl,qkL (N+3) (by omega) rfl,qkL (N+2) (by omega) rfl,qkL (N+1) (by omega) rfl]
 rfl
theorem g3_0{R:Type}(a b c:List Int)(z:List Int->Option R):qs [a,b,c] (0:Int) z=z a:=rfl
theorem g3_1{R:Type}(a b c:List Int)(z:List Int->Option R):qs [a,b,c] (1:Int) z=z b:=rfl
theorem g3_2{R:Type}(a b c:List Int)(z:List Int->Option R):qs [a,b,c] (2:Int) z=z c:=rfl
theorem gz{R:Type}(z:Int->Option R):qs (List.replicate 1008 NO) (0:Int) z=z NO:=gI (i:=0) (x:=NO) rfl z
theorem tab_st{n:Int}{N:Nat}{i:Int}(hi:i=0\/i=1){a b c a' b' c':List Int}(ha:a.length=1008)(hb:b.length=1008)(h:L50_13 N ((exB,n,1007,i,1008,0,()),([a,b,c],()),())=some ((exB,n,1007,i,()),([a',b',c'],()),())):
  L50_10 (N+1) ((exB,n,1007,i,()),([a,b,c],()),())=L50_10 N ((exB,n,1007,i-1,()),([a',b',c'],()),()):=by
 show B50_10 N (L50_10 N) exB n 1007 i [a,b,c]=_
 unfold B50_10
 rw[decide_eq_true (by omega),cond_true,qaS (by omega) (by simp;omega)]
 have hw:IntKind.wrap .i64 (i-1)=i-1:=wr (by omega) (by omega)
 rcases hi with rfl|rfl
 ·rw[g3_0,ha]
  have h':L50_13 N ((exB,n,1007,0,((1008:Nat):Int),0,()),([a,b,c],()),())=_:=h
  rw[h']
  simp only[dk,hw]
 ·rw[g3_1,hb]
  have h':L50_13 N ((exB,n,1007,1,((1008:Nat):Int),0,()),([a,b,c],()),())=_:=h
  rw[h']
  simp only[dk,hw]
theorem tab_ok(n:Int)(N:Nat):L50_10 (N+1012) ((exB,n,1007,1,()),([List.replicate 1008 NO,List.replicate 1008 NO,qaR c2],()),())=some ((exB,n,1007,()),([qaR c0,qaR c1,qaR c2],()),()):=by
 rw[tab_st (N:=N+1011) (.inr rfl) (List.length_replicate ..) (List.length_replicate ..) (row1 n 1007 (N+2)),show(1:Int)-1=0 from rfl,tab_st (N:=N+1010) (.inl rfl) (List.length_replicate ..) (by simp[qaR]) (row0 n 1007 (N+1))]
 rfl
theorem count_ok:L50_31 qn ((1200,7,exB,2,0,()),([qaR c0,qaR c1,qaR c2],[0,0],()),())=some ((1200,()),([1,1],()),()):=by kernel_rfl
theorem row2:(List.replicate 1008 NO).set 0 0=qaR c2:=by kernel_rfl
theorem e4:L50_4 qn ((exB,7,1007,3,0,()),([[],[],[]],()),())=some ((exB,7,1007,()),([List.replicate 1008 NO,List.replicate 1008 NO,List.replicate 1008 NO],()),()):=by
 obtain⟨N,h⟩:=fu 4 (by omega)
 rw[h]
 exact fill_ok 7 N
theorem e10:L50_10 qn ((exB,7,1007,1,()),([List.replicate 1008 NO,List.replicate 1008 NO,qaR c2],()),())=some ((exB,7,1007,()),([qaR c0,qaR c1,qaR c2],()),()):=by
 obtain⟨N,h⟩:=fu 1012 (by omega)
 rw[h]
 exact tab_ok 7 N
theorem e22:L50_22 qn ((exB,1007,7,7,()),([qaR c0,qaR c1,qaR c2],()),())=some ((exB,7,()),([qaR c0,qaR c1,qaR c2],()),()):=by
 obtain⟨N,h⟩:=fu 1002 (by omega)
 rw[h]
 exact qnm (O:=[qaR c0,qaR c1,qaR c2]) rfl 1001 N 7 (by omega) (by omega)
theorem h3{R:Type}(a b c:List Int){i:Int}(z:Option R)(h:0<=i/\i<3):inR i [a,b,c].length z=z:=qaS h.1 (by simp;omega) z
theorem k1{R:Type}{a b:Int}(z:Option R)(h:a<=b):leK a b z=z:=by unfold leK;rw[if_pos h]
theorem k2{R:Type}{a:Int}(z:Option R)(h:0<=a/\a<=100):ql a z=z:=by rw[jR,if_pos (by omega)]
theorem F50_ex{n:Nat}{Z r0 r1 r2:List Int}(h4:L50_4 n ((exB,7,1007,3,0,()),([[],[],[]],()),())=some ((exB,7,1007,()),([Z,Z,Z],()),()))(hZ:Z.length=1008)(hz:Z.set 0 0=r2)
  (h10:L50_10 n ((exB,7,1007,1,()),([Z,Z,r2],()),())=some ((exB,7,1007,()),([r0,r1,r2],()),())) (h22:L50_22 n ((exB,1007,7,7,()),([r0,r1,r2],()),())=some ((exB,7,()),([r0,r1,r2],()),()))
  (hl:r0.length=1008) (h7:r0[7]? = some 1200) (h31:L50_31 n ((1200,7,exB,2,0,()),([r0,r1,r2],[0,0],()),())=some ((1200,()),([1,1],()),())):F50 n exB 7=some (([1,1],1200,()),()):=by
 have w3:IntKind.wrap .i64 ((2:Int)+1)=3:=by decide
 have w7:IntKind.wrap .i64 ((7:Int)+1000)=1007:=by decide
 have w1:IntKind.wrap .i64 ((2:Int)-1)=1:=by decide
 have r3:List.replicate (3:Int).toNat ([]:List Int)=[[],[],[]]:=rfl
 have r2':List.replicate (2:Int).toNat (0:Int)=[0,0]:=rfl
 have s2:∀a b c d:List Int,[a,b,c].set (2:Int).toNat d=[a,b,d]:=λ_ _ _ _=>rfl
 have s0:Z.set (0:Int).toNat 0=r2:=hz
 have hx:(exB.length:Int)=2:=rfl
 have k3:(([[],[],[]]:List (List Int)).length:Int)=3:=rfl
 have gz:∀{R:Type} (z:Int->Option R),qs Z (0:Int) z=z (Z[0]'(by omega)):=λz=>gN (i:=0) (by omega) z
 have g10:∀{R:Type} (z:Int->Option R),qs r0 (7:Int) z=z 1200:=λz=>gI (i:=7) h7 z
 unfold F50
 simp only[hx,w3,w7,r3]
 rw[k1 _ (by omega),k1 _ (by omega),k2 _ (by omega),k3,h4]
 simp only[dk,hx,w1]
 rw[h3 _ _ _ _ (by omega),g3_2,qaS (by omega) (by omega),g3_2,gz,s0,s2,h10]
 simp only[dk]
 rw[h22]
 simp only[dk]
 rw[h3 _ _ _ _ (by omega),g3_0,qaS (by omega) (by omega),g3_0,g10,show((1200:Int)==1152921504606846976)=false from rfl,cond_false]
 simp only[hx]
 rw[k1 _ (by omega),k1 _ (by omega),k2 _ (by omega),r2',h31]
 rfl
theorem g50_ex:g50 (exB,7,())=some (([1,1],1200,()),()):=
 F50_ex e4 (List.length_replicate ..) row2 e10 e22 (by simp[qaR]) (by simp[qaR];rfl) count_ok
theorem qkR:g5 ()=some ((true,()),()):=by
 have e26:g28 ((0,0,[5],[0],exB,0,0,1),())=some ((0,()),()):=by kernel_rfl
 have e28:g30 ((0,0,[5],[0],exB,0,0,1),7,())=some (([1,1],1200,0,()),()):=by
  show qa (g50 (exB,7,())) _=_
  rw[g50_ex]
  rfl
 have e13:g12 ((0,0,[5],[0],exB,0,0,1),7,())=some (([1,1],1200,0,()),()):=by
  unfold g12 F12
  simp only
  rw[e26]
  simp only[dk]
  rw[show((0:Int) !=0)=false from rfl,cond_false,show g29 (7,0,1000,())=some ((true,()),())from by kernel_rfl]
  simp only[dk,Bool.not_true,cond_false]
  rw[e28]
  rfl
 have e14:g13 ([1,1],[1,1],())=some ((true,()),()):=by kernel_rfl
 show qa (g12 ((0,0,[5],[0],exB,0,0,1),7,())) _=_
 rw[e13]
 show qa (g13 ([1,1],[1,1],())) _=_
 rw[e14]
 rfl
end Go.Proofs.Try.V.Cv
