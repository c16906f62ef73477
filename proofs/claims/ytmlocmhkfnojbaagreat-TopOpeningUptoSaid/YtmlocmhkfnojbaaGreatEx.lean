/- The example of the tokens: what seven tokens cost. No condition beyond those typed in each theorem. -/
import Derived.Test.YtmlocmhkfnojbaaGreatD5
import Derived.Test.YtmlocmhkfnojbaaGreatFn4
namespace Go.Proofs.Tryz.V.Cv
open Go.Vi Go.Proofs Go.RowKit
set_option maxRecDepth 100000
def NO:Int:=1152921504606846976
def xJ(c:Nat->Int)(t:Nat):List Int:=(List.range t).map c++List.replicate (1008-t) NO
theorem BG{c:Nat->Int}{t:Nat}(h:t<=1008):(xJ c t).length=1008:=by unfold xJ;simp;omega
theorem BF{c:Nat->Int}{t:Nat}(h:t<1008)(v:Int):(xJ c t).set t v=(List.range t).map c++v::List.replicate (1008-(t+1)) NO:=by
 unfold xJ
 rw[List.set_append,if_neg (by simp),List.length_map,List.length_range,Nat.sub_self,show 1008-t=(1008-(t+1))+1 by omega,List.replicate_succ]
 rfl
theorem qki{c:Nat->Int}{t:Nat}:(List.range t).map c++c t::List.replicate (1008-(t+1)) NO=xJ c (t+1):=by
 unfold xJ
 rw[List.range_succ,List.map_append,List.append_assoc]
 rfl
theorem gI{α R:Type}{l:List α}{i:Nat}{x:α}(h:l[i]? = some x)(k:α->Option R):qn l (i:Int) k=k x:=by
 unfold qn
 rw[if_pos (by omega),Int.toNat_natCast,h]
theorem gN{α R:Type}{l:List α}{i:Nat}(h:i<l.length)(k:α->Option R):qn l (i:Int) k=k l[i]:=gI (List.getElem?_eq_getElem h) k
theorem wk{x:Int}{n:Nat}(h:x=n)(hn:n<=100000000):IntKind.wrap .i64 x=(n:Int):=by rw[h];exact wr (by omega) (by omega)
abbrev BT:=List (Int×Int)
theorem qmU{l:BT}{i e:Nat}{p:Int}{O:List (List Int)}{c d:Nat->Int}(hl:l[i]? = some ((e:Int),p))(hi:i+1<O.length)(hi2:i<100)(he:1<=e/\e<=1000)(hd:O[i+1]? = some ((List.range 1008).map d))
  (hc:∀t,t<1008->c t=if e<=t/\c (t-e)<NO then min (d t) (c (t-e)+p)else d t) (hb:∀t,t<1008->c t<NO->-1000000000<=c t+p/\c t+p<=1000000000) (n most:Int):∀(k N t:Nat),t+k=1008->
  ek (N+k+1) ((l,n,most,(i:Int),1008,(t:Int),()),(O.set i (xJ c t),()),())=some ((l,n,most,(i:Int),()),(O.set i ((List.range 1008).map c),()),())
 |0,N,t,h=>by
  obtain rfl:t=1008:=by omega
  show nw (N+0) (ek (N+0)) l n most (i:Int) 1008 ((1008:Nat):Int) (O.set i (xJ c 1008))=_
  unfold nw
  rw[decide_eq_false (by omega),cond_false]
  simp[xJ]
 |k+1,N,t,h=>by
  have ih:=qmU hl hi hi2 he hd hc hb n most k N (t+1) (by omega)
  show nw (N+(k+1)) (ek (N+(k+1))) l n most (i:Int) 1008 (t:Int) (O.set i (xJ c t))=_
  unfold nw
  have hlen:∀r:List Int,(O.set i r).length=O.length:=λr=>List.length_set
  have CK:∀r:List Int,(O.set i r)[i]? = some r:=λr=>List.getElem?_set_self (by omega)
  have Cp:∀r:List Int,(O.set i r)[i+1]? = some ((List.range 1008).map d):=λr=>by rw[List.getElem?_set_ne (by omega)];exact hd
  have hdt:((List.range 1008).map d)[t]? = some (d t):=by simp[show t<1008 by omega]
  have uO:(xJ c t)[t]? = some NO:=by
   unfold xJ
   rw[List.getElem?_append_right (by simp),List.length_map,List.length_range,Nat.sub_self,List.getElem?_replicate]
   simp[show 0<1008-t by omega]
  have iY:∀r r':List Int,(O.set i r).set i r'=O.set i r':=λr r'=>List.set_set ..
  have Sf:∀v:Int,((List.range t).map c++v::List.replicate (1008-(t+1)) NO).length=1008:=λv=>by simp;omega
  have sg:∀v:Int,((List.range t).map c++v::List.replicate (1008-(t+1)) NO)[t]? = some v:=λv=>by
   rw[List.getElem?_append_right (by simp),List.length_map,List.length_range,Nat.sub_self]
   rfl
  have hm3:∀(v:Int) (j:Nat),j<t->((List.range t).map c++v::List.replicate (1008-(t+1)) NO)[j]? = some (c j):=λv j hj=>by
   rw[List.getElem?_append_left (by simpa using hj)]
   simp[hj]
  have hm4:∀v v':Int,((List.range t).map c++v::List.replicate (1008-(t+1)) NO).set t v'=(List.range t).map c++v'::List.replicate (1008-(t+1)) NO:=λv v'=>by
   rw[List.set_append,if_neg (by simp),List.length_map,List.length_range,Nat.sub_self]
   rfl
  have w1:IntKind.wrap .i64 ((i:Int)+1)=((i+1:Nat):Int):=wk (by omega) (by omega)
  have w2:IntKind.wrap .i64 ((t:Int)+1)=((t+1:Nat):Int):=wk (by omega) (by omega)
  have a1:∀{R:Type} (r:List Int) (z:Option R),bx (i:Int) (O.set i r).length z=z:=λr z=>kw (by omega) (by rw[hlen];omega) z
  have a2:∀{R:Type} (r:List Int) (z:Option R),bx ((i+1:Nat):Int) (O.set i r).length z=z:=λr z=>kw (by omega) (by rw[hlen];omega) z
  have a3:∀{R:Type} (z:Option R),bx (t:Int) ((List.range 1008).map d).length z=z:=λz=>kw (by omega) (by simp;omega) z
  have a4:∀{R:Type} (z:Option R),bx (t:Int) (xJ c t).length z=z:=λz=>kw (by omega) (by rw[BG (by omega)];omega) z
  have a5:∀{R:Type} (v:Int) (z:Option R),bx (t:Int) ((List.range t).map c++v::List.replicate (1008-(t+1)) NO).length z=z:=λv z=>kw (by omega) (by rw[Sf];omega) z
  have fin:d t=c t->ek (N+(k+1)) ((l,n,most,(i:Int),1008,((t+1:Nat):Int),()),(O.set i ((List.range t).map c++d t::List.replicate (1008-(t+1)) NO),()),())=some ((l,n,most,(i:Int),()),(O.set i ((List.range 1008).map c),()),()):=λe=>by
   rw[e,qki]
   exact ih
  rw[decide_eq_true (by omega),cond_true,a1,w1,a2,gI (Cp _),a3,gI (Cp _),gI hdt,gI (CK _),a4,gI (CK _),gI uO,gI hl]
  simp only[Int.toNat_natCast,iY,BF (show t<1008 by omega)]
  rw[wr (by omega) (by omega)]
  have Si:=hc t (by omega)
  by_cases het:e<=t
  ·have hj:(t:Int)-(e:Int)=((t-e:Nat):Int):=by omega
   have a6:∀{R:Type} (v:Int) (z:Option R),bx ((t-e:Nat):Int) ((List.range t).map c++v::List.replicate (1008-(t+1)) NO).length z=z:=λv z=>kw (by omega) (by rw[Sf];omega) z
   rw[decide_eq_true (by omega),cond_true,hj,a1,gI (CK _),a6,gI (CK _),gI (hm3 _ _ (by omega))]
   by_cases hlt:c (t-e)<NO
   ·have zC:=hb (t-e) (by omega) hlt
    rw[if_pos ⟨het,hlt⟩]at Si
    rw[decide_eq_true (show c (t-e)<1152921504606846976 from hlt),cond_true]
    simp only[a1,gI (CK _),a5,a6,gI (sg _),gI (hm3 _ (t-e) (by omega)),gI hl,Hr,iY,hm4,w2]
    rw[wr (by omega) (by omega),<-Si,qki]
    exact ih
   ·rw[decide_eq_false (show ¬c (t-e)<1152921504606846976 from hlt),cond_false,w2]
    rw[if_neg (λh=>hlt h.2)]at Si
    exact fin Si.symm
  ·rw[decide_eq_false (by omega),cond_false,w2]
   rw[if_neg (λh=>het h.1)]at Si
   exact fin Si.symm
def c2(t:Nat):Int:=if t=0 then 0 else NO
def c1(t:Nat):Int:=if t%6=0 then((1000*(t/6):Nat):Int)else NO
def c0(t:Nat):Int:=((200*(t%6)+1000*(t/6):Nat):Int)
def eV:BT:=[(1,200),(6,1000)]
def eT(c:Nat->Int):List Int:=(List.range 1008).map c
theorem aah(n most:Int)(N:Nat):ek (N+1009) ((eV,n,most,1,1008,0,()),([List.replicate 1008 NO,List.replicate 1008 NO,eT c2],()),())=some ((eV,n,most,1,()),([List.replicate 1008 NO,eT c1,eT c2],()),()):=
 qmU (l:=eV) (i:=1) (e:=6) (p:=1000) (O:=[List.replicate 1008 NO,[],eT c2]) (c:=c1) (d:=c2) rfl (by decide) (by omega) (by omega) rfl (λt ht=>by
  unfold c1 c2 NO
  split<;>split<;>(try split)<;>(try split)<;>omega) (λt ht h=>by
  unfold c1 at *
  split at h
  ·rename_i h6;rw[if_pos h6];omega
  ·omega) n most 1008 N 0 (by omega)
theorem aai(n most:Int)(N:Nat):ek (N+1009) ((eV,n,most,0,1008,0,()),([List.replicate 1008 NO,eT c1,eT c2],()),())=some ((eV,n,most,0,()),([eT c0,eT c1,eT c2],()),()):=
 qmU (l:=eV) (i:=0) (e:=1) (p:=200) (O:=[[],eT c1,eT c2]) (c:=c0) (d:=c1) rfl (by decide) (by omega) (by omega) rfl (λt ht=>by
  unfold c0 c1 NO
  split<;>(try split)<;>omega) (λt ht h=>by
  unfold c0 at *
  omega) n most 1008 N 0 (by omega)
theorem qnW{O:List (List Int)}(h0:O[0]? = some (eT c0)):∀(k N t:Nat),t+k=1008->7<=t->iF (N+k+1) ((eV,1007,7,(t:Int),()),(O,()),())=some ((eV,7,()),(O,()),())
 |0,N,t,h,_=>by
  obtain rfl:t=1008:=by omega
  rfl
 |k+1,N,t,h,h7=>by
  show vV (N+(k+1)) (iF (N+(k+1))) eV 1007 7 (t:Int) O=_
  unfold vV
  have hl:(eT c0).length=1008:=by simp[eT]
  have hO:0<O.length:=(List.getElem?_eq_some_iff.1 h0).1
  have a1:∀{R:Type} (z:Option R),bx (0:Int) O.length z=z:=λz=>kw (by omega) (by omega) z
  have a2:∀{R:Type} (z:Option R),bx (t:Int) (eT c0).length z=z:=λz=>kw (by omega) (by rw[hl];omega) z
  have a3:∀{R:Type} (z:Option R),bx (7:Int) (eT c0).length z=z:=λz=>kw (by omega) (by rw[hl];omega) z
  have g0:∀{R:Type} (z:List Int->Option R),qn O (0:Int) z=z (eT c0):=λz=>gI (i:=0) h0 z
  have gt:∀{R:Type} (z:Int->Option R),qn (eT c0) (t:Int) z=z (c0 t):=λz=>gI (by simp[eT,show t<1008 by omega]) z
  have g7:∀{R:Type} (z:Int->Option R),qn (eT c0) (7:Int) z=z (c0 7):=λz=>gI (i:=7) (by simp[eT]) z
  rw[decide_eq_true (by omega),cond_true]
  simp only[a1,a2,a3,g0,gt,g7]
  rw[decide_eq_false (show ¬c0 t<c0 7 by unfold c0;omega),cond_false,wk (n:=t+1) (by omega) (by omega)]
  exact qnW h0 k N (t+1) (by omega) (by omega)
noncomputable def M71:Nat->(Int×Unit)×((List Int)×Unit)×Unit->Option (((Unit)×((List Int)×Unit)×Unit))
 |0,_=>none
 |n+1,d=>cond (decide (d.1.1<(d.2.1.1.length:Int))) (bO 0 d.1.1 (bO d.1.1 (d.2.1.1.length:Int) (bO 0 d.1.1 (bO d.1.1 (d.2.1.1.length:Int) (M71 n (((IntKind.wrap .i64 (d.1.1+((min (d.2.1.1.take d.1.1.toNat).length (d.2.1.1.length-d.1.1.toNat):Nat):Int))),()),((sH d.2.1.1 (d.2.1.1.take d.1.1.toNat) d.1.1.toNat),()),())))))) (some ((),(d.2.1.1,()),()))
theorem DZ:∀n,uo n=M71 n
 |0=>rfl
 |n+1=>by
  funext d
  show Fm n (uo n) d.1.1 d.2.1.1=_
  unfold Fm
  rw[DZ n]
  simp only[vg,Gh,Gg]
  rfl
theorem Jb:WH ([NO],1008,())=some ((List.replicate 1008 NO,()),()):=by
 unfold WH F71
 rw[DZ]
 kernel_rfl
theorem qlf{n:Int}(N:Nat){t:Nat}(ht:t<3){O:List (List Int)}(hO:O.length=3):jh (N+1) ((eV,n,1007,3,(t:Int),()),(O,()),())=jh N ((eV,n,1007,3,((t+1:Nat):Int),()),(O.set t (List.replicate 1008 NO),()),()):=by
 show Fx N (jh N) eV n 1007 3 (t:Int) O=_
 unfold Fx
 have h71:WH ([1152921504606846976],(IntKind.wrap .i64 ((1007:Int)+1)),())=some ((List.replicate 1008 NO,()),()):=Jb
 rw[decide_eq_true (by omega),cond_true,h71]
 simp only[dk]
 rw[kw (by omega) (by rw[hO];omega),gN (by rw[hO];omega),wk (n:=t+1) (by omega) (by omega),Int.toNat_natCast]
theorem Jg(n:Int)(N:Nat):jh (N+4) ((eV,n,1007,3,0,()),([[],[],[]],()),())=some ((eV,n,1007,()),([List.replicate 1008 NO,List.replicate 1008 NO,List.replicate 1008 NO],()),()):=by
 rw[show(0:Int)=((0:Nat):Int)from rfl,qlf (N+3) (by omega) rfl,qlf (N+2) (by omega) rfl,qlf (N+1) (by omega) rfl]
 rfl
theorem OA{R:Type}(a b c:List Int)(z:List Int->Option R):qn [a,b,c] (0:Int) z=z a:=rfl
theorem abN{R:Type}(a b c:List Int)(z:List Int->Option R):qn [a,b,c] (1:Int) z=z b:=rfl
theorem WL{R:Type}(a b c:List Int)(z:List Int->Option R):qn [a,b,c] (2:Int) z=z c:=rfl
theorem gz{R:Type}(z:Int->Option R):qn (List.replicate 1008 NO) (0:Int) z=z NO:=gI (i:=0) (x:=NO) rfl z
theorem Af{n:Int}{N:Nat}{i:Int}(hi:i=0\/i=1){a b c a' b' c':List Int}(ha:a.length=1008)(hb:b.length=1008)(h:ek N ((eV,n,1007,i,1008,0,()),([a,b,c],()),())=some ((eV,n,1007,i,()),([a',b',c'],()),())):
  fQ (N+1) ((eV,n,1007,i,()),([a,b,c],()),())=fQ N ((eV,n,1007,i-1,()),([a',b',c'],()),()):=by
 show vW N (fQ N) eV n 1007 i [a,b,c]=_
 unfold vW
 rw[decide_eq_true (by omega),cond_true,kw (by omega) (by simp;omega)]
 have hw:IntKind.wrap .i64 (i-1)=i-1:=wr (by omega) (by omega)
 rcases hi with rfl|rfl
 ·rw[OA,ha]
  have h':ek N ((eV,n,1007,0,((1008:Nat):Int),0,()),([a,b,c],()),())=_:=h
  rw[h']
  simp only[dk,hw]
 ·rw[abN,hb]
  have h':ek N ((eV,n,1007,1,((1008:Nat):Int),0,()),([a,b,c],()),())=_:=h
  rw[h']
  simp only[dk,hw]
theorem LW(n:Int)(N:Nat):fQ (N+1012) ((eV,n,1007,1,()),([List.replicate 1008 NO,List.replicate 1008 NO,eT c2],()),())=some ((eV,n,1007,()),([eT c0,eT c1,eT c2],()),()):=by
 rw[Af (N:=N+1011) (.inr rfl) (List.length_replicate ..) (List.length_replicate ..) (aah n 1007 (N+2)),show(1:Int)-1=0 from rfl,Af (N:=N+1010) (.inl rfl) (List.length_replicate ..) (by simp[eT]) (aai n 1007 (N+1))]
 rfl
theorem Ds:mY qk ((1200,7,eV,2,0,()),([eT c0,eT c1,eT c2],[0,0],()),())=some ((1200,()),([1,1],()),()):=by kernel_rfl
theorem Tm:(List.replicate 1008 NO).set 0 0=eT c2:=by kernel_rfl
theorem e4:jh qk ((eV,7,1007,3,0,()),([[],[],[]],()),())=some ((eV,7,1007,()),([List.replicate 1008 NO,List.replicate 1008 NO,List.replicate 1008 NO],()),()):=by
 obtain⟨N,h⟩:=fu 4 (by omega)
 rw[h]
 exact Jg 7 N
theorem oe:fQ qk ((eV,7,1007,1,()),([List.replicate 1008 NO,List.replicate 1008 NO,eT c2],()),())=some ((eV,7,1007,()),([eT c0,eT c1,eT c2],()),()):=by
 obtain⟨N,h⟩:=fu 1012 (by omega)
 rw[h]
 exact LW 7 N
theorem Dg:iF qk ((eV,1007,7,7,()),([eT c0,eT c1,eT c2],()),())=some ((eV,7,()),([eT c0,eT c1,eT c2],()),()):=by
 obtain⟨N,h⟩:=fu 1002 (by omega)
 rw[h]
 exact qnW (O:=[eT c0,eT c1,eT c2]) rfl 1001 N 7 (by omega) (by omega)
theorem h3{R:Type}(a b c:List Int){i:Int}(z:Option R)(h:0<=i/\i<3):bx i [a,b,c].length z=z:=kw h.1 (by simp;omega) z
theorem k1{R:Type}{a b:Int}(z:Option R)(h:a<=b):bO a b z=z:=by unfold bO;rw[if_pos h]
theorem k2{R:Type}{a:Int}(z:Option R)(h:0<=a/\a<=100):qo a z=z:=by rw[jQ,if_pos (by omega)]
theorem PK{n:Nat}{Z r0 r1 r2:List Int}(h4:jh n ((eV,7,1007,3,0,()),([[],[],[]],()),())=some ((eV,7,1007,()),([Z,Z,Z],()),()))(hZ:Z.length=1008)(hz:Z.set 0 0=r2)
  (h10:fQ n ((eV,7,1007,1,()),([Z,Z,r2],()),())=some ((eV,7,1007,()),([r0,r1,r2],()),())) (h22:iF n ((eV,1007,7,7,()),([r0,r1,r2],()),())=some ((eV,7,()),([r0,r1,r2],()),()))
  (hl:r0.length=1008) (h7:r0[7]? = some 1200) (Oi:mY n ((1200,7,eV,2,0,()),([r0,r1,r2],[0,0],()),())=some ((1200,()),([1,1],()),())):F49 n eV 7=some (([1,1],1200,()),()):=by
 have w3:IntKind.wrap .i64 ((2:Int)+1)=3:=by decide
 have w7:IntKind.wrap .i64 ((7:Int)+1000)=1007:=by decide
 have w1:IntKind.wrap .i64 ((2:Int)-1)=1:=by decide
 have r3:List.replicate (3:Int).toNat ([]:List Int)=[[],[],[]]:=rfl
 have r2':List.replicate (2:Int).toNat (0:Int)=[0,0]:=rfl
 have s2:∀a b c d:List Int,[a,b,c].set (2:Int).toNat d=[a,b,d]:=λ_ _ _ _=>rfl
 have s0:Z.set (0:Int).toNat 0=r2:=hz
 have hx:(eV.length:Int)=2:=rfl
 have k3:(([[],[],[]]:List (List Int)).length:Int)=3:=rfl
 have gz:∀{R:Type} (z:Int->Option R),qn Z (0:Int) z=z (Z[0]'(by omega)):=λz=>gN (i:=0) (by omega) z
 have g7:∀{R:Type} (z:Int->Option R),qn r0 (7:Int) z=z 1200:=λz=>gI (i:=7) h7 z
 unfold F49
 simp only[hx,w3,w7,r3]
 rw[k1 _ (by omega),k1 _ (by omega),k2 _ (by omega),k3,h4]
 simp only[dk,hx,w1]
 rw[h3 _ _ _ _ (by omega),WL,kw (by omega) (by omega),WL,gz,s0,s2,h10]
 simp only[dk]
 rw[h22]
 simp only[dk]
 rw[h3 _ _ _ _ (by omega),OA,kw (by omega) (by omega),OA,g7,show((1200:Int)==1152921504606846976)=false from rfl,cond_false]
 simp only[hx]
 rw[k1 _ (by omega),k1 _ (by omega),k2 _ (by omega),r2',Oi]
 rfl
theorem Oy:g49 (eV,7,())=some (([1,1],1200,()),()):=
 PK e4 (List.length_replicate ..) Tm oe Dg (by simp[eT]) (by simp[eT];rfl) Ds
theorem qln:g5 ()=some ((true,()),()):=by
 have Ls:g26 ((0,0,[5],[0],eV,0,0,1),())=some ((0,()),()):=by kernel_rfl
 have e28:g28 ((0,0,[5],[0],eV,0,0,1),7,())=some (([1,1],1200,0,()),()):=by
  show qa (g49 (eV,7,())) _=_
  rw[Oy]
  rfl
 have Xa:g13 ((0,0,[5],[0],eV,0,0,1),7,())=some (([1,1],1200,0,()),()):=by
  unfold g13 F13
  simp only
  rw[Ls]
  simp only[dk]
  rw[show((0:Int) !=0)=false from rfl,cond_false,show zH (7,0,1000,())=some ((true,()),())from by kernel_rfl]
  simp only[dk,Bool.not_true,cond_false]
  rw[e28]
  rfl
 have zJ:g14 ([1,1],[1,1],())=some ((true,()),()):=by kernel_rfl
 show qa (g13 ((0,0,[5],[0],eV,0,0,1),7,())) _=_
 rw[Xa]
 show qa (g14 ([1,1],[1,1],())) _=_
 rw[zJ]
 rfl
end Go.Proofs.Tryz.V.Cv
