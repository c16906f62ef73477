/- The contracts of functions of the program, printed by program from the interpreter: each says what a call returns. No condition beyond those typed in each theorem. -/
import Derived.Test.YtmlocmhkfnojbaaGreatFn3
namespace Go.Proofs.Tryz.V
noncomputable section
open Go.Vi
set_option maxRecDepth 100000
def F37(_n:Nat)(bJ:eo)(Xb:Int):Option ((eo×Unit)×(Unit)):=
  qa (g64 (bJ.2,(λv1=>qa (g65 (v1,Xb,())) λy2=>some y2.1.1),())) λy3=>cond (decide (y3.1.1>=0)) (bO 0 y3.1.1 (bO y3.1.1 (bJ.2.length:Int) (some (((bJ.1,(bJ.2.take y3.1.1.toNat)),()),())))) (some ((bJ,()),()))
def g37(d:eo×Int×Unit):Option ((eo×Unit)×(Unit)):=F37 qk d.1 d.2.1
def p37:qS:=⟨[.v (.str ny),.v zI],[.v (.str ny)],g37⟩
def c37:jB:=⟨18,bV,[],[(64,UO),(65,χ)],[],[],[],[],[],[],[],[],[],[],none,[],[],[],none,none,[]⟩
theorem PY(n:Nat)(d):qL c37 n Tryz.f37 (body Tryz.f37) p37.ps p37.rs d=F37 n d.1 d.2.1:=by kernel_rfl
theorem h37:qJ Tryz.prog 37 p37:=hQ (aa:=c37) (qz qB (qf h64 (qf h65 qq)) rfl (by kernel_rfl)) Tryz.func37 (by kernel_rfl) (qE (by kernel_rfl)) (by kernel_rfl) (PY qk)
def F24(_n:Nat)(rL:sw)(dO:(List bM))(fA:Int):Option ((eo×Int×Unit)×(Unit)):=
  qa (g35 (rL,dO,())) λy1=>cond (y1.1.2.2.1 !=0) (some ((y1.1.1,y1.1.2.2.1,()),())) (qa (rB (fA,0,10000,())) λy2=>cond (!y2.1.1) (some ((y1.1.1,1,()),())) (qa (g37 (y1.1.1,fA,())) λy3=>some ((y3.1.1,0,()),())))
def g24(d:sw×(List bM)×Int×Unit):Option ((eo×Int×Unit)×(Unit)):=F24 qk d.1 d.2.1 d.2.2.1
def p24:qS:=⟨[.v LC,.v GL,.v zI],[.v (.str ny),.v zI],g24⟩
def c24:jB:=⟨31,bV,[],[(35,p35),(36,Gv),(37,p37)],[],[],[],[],[],[],[],[],[],[],none,[],[],[],none,none,[]⟩
theorem Qk(n:Nat)(d):qL c24 n Tryz.f24 (body Tryz.f24) p24.ps p24.rs d=F24 n d.1 d.2.1 d.2.2.1:=by kernel_rfl
theorem h24:qJ Tryz.prog 24 p24:=hQ (aa:=c24) (qz qB (qf h35 (qf Oh (qf h37 qq))) rfl (by kernel_rfl)) Tryz.func24 (by kernel_rfl) (qE (by kernel_rfl)) (by kernel_rfl) (Qk qk)
def F38(_n:Nat)(sD:Int)(aaO:Bool)(t_2:(List Int)):Option ((Unit)×sy):=
  cond aaO (qo ((t_2.length:Int)+[sD].length) (some ((),((t_2++[sD]),())))) (some ((),(t_2,())))
def WM(d:Int×Bool×(List Int)×Unit):Option ((Unit)×sy):=F38 qk d.1 d.2.1 d.2.2.1
def p38:qS:=⟨[.v zI,.v .bool,.m pI],[],WM⟩
def c38:jB:=⟨10,bV,[],[],[],[],[],[],[],[],[],[],[],[],none,[],[],[],none,none,[]⟩
theorem PX(n:Nat)(d):qL c38 n Tryz.f38 (body Tryz.f38) p38.ps p38.rs d=F38 n d.1 d.2.1 d.2.2.1:=by kernel_rfl
theorem h38:qJ Tryz.prog 38 p38:=hQ (aa:=c38) (qz qB (qq) rfl (by kernel_rfl)) Tryz.func38 (by kernel_rfl) (qE (by kernel_rfl)) (by kernel_rfl) (PX qk)
def XA(_n:Nat)(L:(Int×(bM->Option Bool)×Int×Unit)->Option (X×(Int×Unit)))(kJ:bM)(vb:Int)(lC:(bM->Option Bool))(FS:Int):Option (X×(Int×Unit)):=
  qa (lC kJ) λy2=>cond y2 (some (.ret,(kJ.1,()))) (cond (kJ.2.1==6) (cond (kJ.2.2.1==vb) (some (.ret,((-1),()))) (L (vb,lC,FS,()))) (L (vb,lC,FS,())))
def DV(n:Nat):List bM->(Int×(bM->Option Bool)×Int×Unit)->Option (X×(Int×Unit))
  |[],d=>some (.norm,(d.2.2.1,()))
  |x::r,d=>XA n (DV n r) x d.1 d.2.1 d.2.2.1
def Tz:qc5:=⟨.str iJ,[4,5,6],[.r zI,.r (.fn (.str iJ) .bool),.m zI],[.norm,.ret],DV⟩
def F41(n:Nat)(bJ:eo)(bN:Int)(zP:(bM->Option Bool)):Option fS:=
  qa (Ib.Vb.p.g (bJ,())) λy1=>qa y1.1.1 λq3=>qa (Ib.yb.g (q3,())) λl5=>qa (DV n l5 (bN,zP,(0:Int),())) λo4=>cond (X.same .norm o4.1) (some (((-1),()),())) (cond (X.same .ret o4.1) (some ((o4.2.1,()),())) (none))
def g41(d:eo×Int×(bM->Option Bool)×Unit):Option fS:=F41 qk d.1 d.2.1 d.2.2.1
def UR:qS:=⟨[.v (.str ny),.v zI,.v (.fn (.str iJ) .bool)],[.v zI],g41⟩
def c41:jB:=⟨27,bV,[],[],[],[],[],[(90,Ib.yb)],[(2,Tz)],[(68,Ib.Vb)],[],[],[],[],none,[],[],[],none,none,[]⟩
theorem PU(n:Nat)(d):qL c41 n Tryz.f41 (body Tryz.f41) UR.ps UR.rs d=F41 n d.1 d.2.1 d.2.2.1:=by kernel_rfl
theorem DU(n:Nat)(x r d):(Tz).g n (x::r) d=run c41 n (DI (nth 0 (jI (body Tryz.f41)))) (Mw Tz [10] d x) (G_ (JZ c41 Tz n (Jr (nth 0 (jI (body Tryz.f41)))) r d) Mf):=by kernel_rfl
theorem aaf:jI (body Tryz.f41)=[nth 0 (jI (body Tryz.f41))]:=by kernel_rfl
theorem h41:qJ Tryz.prog 41 UR:=Zd mixed (aa:=c41) (qz qB (qq) rfl (by kernel_rfl) (TE (TU Ib.k68 TD))) (YK Ib.wK wJ) Tryz.func41 rfl rfl (by kernel_rfl) rfl (qE (by kernel_rfl)) (by rw[aaf];simp only[List.forall_mem_cons];exact⟨Un (key:=2) (li:=Tz) (pl:=[10]) (by kernel_rfl) rfl (by kernel_rfl) (by kernel_rfl) (qE (by kernel_rfl)) (λ_ _=>rfl) DU,λ_ h=>by cases h⟩) (by kernel_rfl) (λd y h=>⟨qk,(PU qk d).trans h⟩)
def F89(_n:Nat)(nx:bM)(t_1:Int):Option cr:=
  cond (nx.2.1==1) (some (((nx.2.2.1==t_1),()),())) (some ((false,()),()))
def g89(d:bM×Int×Unit):Option cr:=F89 qk d.1 d.2.1
def ZU:qS:=⟨[.v (.str iJ),.r zI],[.v .bool],g89⟩
def c89:jB:=⟨13,bV,[],[],[],[],[],[],[],[],[],[],[],[],none,[],[],[],none,none,[]⟩
theorem Pb(n:Nat)(d):qL c89 n Tryz.f89 (body Tryz.f89) ZU.ps ZU.rs d=F89 n d.1 d.2.1:=by kernel_rfl
theorem h89:qJ Tryz.prog 89 ZU:=hQ (aa:=c89) (qz qB (qq) rfl (by kernel_rfl)) Tryz.func89 (by kernel_rfl) (qE (by kernel_rfl)) (by kernel_rfl) (Pb qk)
def F66(_n:Nat)(bJ:eo)(ff:Int):Option fS:=
  qn bJ.1.1 ff λe1=>qa (g41 (bJ,e1.1,(λv2=>qa (g89 (v2,ff,())) λy3=>some y3.1.1),())) λy4=>cond (decide (y4.1.1<0)) (some (((-1),()),())) (qn bJ.1.1 ff λe5=>some (((IntKind.wrap .i64 ((IntKind.wrap .i64 (y4.1.1+e5.2.1))-1)),()),()))
def g66(d:eo×Int×Unit):Option fS:=F66 qk d.1 d.2.1
def υ:qS:=⟨[.v (.str ny),.v zI],[.v zI],g66⟩
def c66:jB:=⟨28,bV,[],[(41,UR),(89,ZU)],[],[],[],[],[],[],[],[],[],[],none,[],[],[],none,none,[]⟩
theorem Pv(n:Nat)(d):qL c66 n Tryz.f66 (body Tryz.f66) υ.ps υ.rs d=F66 n d.1 d.2.1:=by kernel_rfl
theorem h66:qJ Tryz.prog 66 υ:=hQ (aa:=c66) (qz qB (qf h41 (qf h89 qq)) rfl (by kernel_rfl)) Tryz.func66 (by kernel_rfl) (qE (by kernel_rfl)) (by kernel_rfl) (Pv qk)
def X_(_n:Nat)(L:(Int×Int×(List kU)×Int×Int×Unit)×(eo×Unit)×Unit->Option (dZ))(bN:Int)(Dp:Int)(kJ:List kU)(lI:Int)(fF:Int)(ez:sw×(List bM)):Option (dZ):=
  cond (decide (fF<lI)) (qn kJ fF λe1=>cond (e1.1==bN) (qa (g66 (ez,fF,())) λy2=>L ((bN,(min Dp y2.1.1),kJ,lI,(IntKind.wrap .i64 (fF+1)),()),(ez,()),())) (L ((bN,Dp,kJ,lI,(IntKind.wrap .i64 (fF+1)),()),(ez,()),()))) (some ((Dp,()),(),()))
def EI:Nat->(Int×Int×(List kU)×Int×Int×Unit)×(eo×Unit)×Unit->Option (dZ)
  |0,_=>none
  |n+1,d=>X_ n (EI n) d.1.1 d.1.2.1 d.1.2.2.1 d.1.2.2.2.1 d.1.2.2.2.2.1 d.2.1.1
def tF:jL:=⟨⟨[(1,.v zI),(2,.c (.ptr 2 [])),(5,.v zI),(10,.v LQ),(11,.v zI),(12,.v zI)],[(2,false,.str ny)],none⟩,[(.exit 0,⟨[(5,.v zI)],[],none⟩)],EI⟩
def F39(n:Nat)(bJ:eo)(bN:Int):Option fS:=
  qa (EI n ((bN,10000,bJ.1.1,(bJ.1.1.length:Int),0,()),(bJ,()),())) λo3=>some ((o3.1.1,()),())
def g39(d:eo×Int×Unit):Option fS:=F39 qk d.1 d.2.1
def p39:qS:=⟨[.v (.str ny),.v zI],[.v zI],g39⟩
def c39:jB:=⟨28,bV,[],[(66,υ)],[(3,tF)],[],[],[],[],[],[],[],[],[],none,[],[],[],none,none,[]⟩
theorem PW(n:Nat)(d):qL c39 n Tryz.f39 (body Tryz.f39) p39.ps p39.rs d=F39 n d.1 d.2.1:=by kernel_rfl
theorem EH(n:Nat)(d):(tF).g (n+1) d=run c39 n (nth 0 (qe (body Tryz.f39))) ((tF).ins.fill d) (qV (tF) n):=by kernel_rfl
theorem aay:qe (body Tryz.f39)=[nth 0 (qe (body Tryz.f39))]:=by kernel_rfl
theorem h39:qJ Tryz.prog 39 p39:=hQ (aa:=c39) (qz qB (qf h66 qq) rfl (by kernel_rfl)) Tryz.func39 (by kernel_rfl) (by rw[aay];simp only[List.forall_mem_cons];exact⟨qP (key:=3) (li:=tF) (by kernel_rfl) rfl (λ_=>rfl) (EH),λ_ h=>by cases h⟩) (by kernel_rfl) (PW qk)
def XX(_n:Nat)(L:Ym×(eo×(List Int)×Unit)×Unit->Option (nH))(FS:List bM)(kI:Int)(eP:Int)(gy:sw×(List bM))(ez:List Int):Option (nH):=
  cond (decide (eP<kI)) (qn FS eP λe1=>cond (e1.2.1==2) (qa (g87 (gy,eP,())) λy2=>cond (!y2.1.1) (qo ((ez.length:Int)+[eP].length) (L ((FS,kI,(IntKind.wrap .i64 (eP+1)),()),(gy,(ez++[eP]),()),()))) (L ((FS,kI,(IntKind.wrap .i64 (eP+1)),()),(gy,ez,()),()))) (L ((FS,kI,(IntKind.wrap .i64 (eP+1)),()),(gy,ez,()),()))) (some ((),(ez,()),()))
def Es:Nat->Ym×(eo×(List Int)×Unit)×Unit->Option (nH)
  |0,_=>none
  |n+1,d=>XX n (Es n) d.1.1 d.1.2.1 d.1.2.2.1 d.2.1.1 d.2.1.2.1
def tn:jL:=⟨⟨[(1,.c (.ptr 1 [])),(2,.c (.view 2 [])),(6,.v GL),(7,.v zI),(8,.v zI)],[(1,false,.str ny),(2,true,.list true 3 zI)],none⟩,[(.exit 0,⟨[(2,.c (.view 2 []))],[(2,true,.list true 3 zI)],none⟩)],Es⟩
def F67(n:Nat)(bJ:eo):Option zY:=
  qa (Es n ((bJ.2,(bJ.2.length:Int),0,()),(bJ,([]:List Int),()),())) λo3=>some ((o3.2.1.1,()),())
def g67(d:eo×Unit):Option zY:=F67 qk d.1
def π:qS:=⟨[.v (.str ny)],[.own 3 zI],g67⟩
def c67:jB:=⟨28,bV,[],[(87,UN)],[(2,tn)],[],[],[],[],[],[],[],[],[],none,[],[],[],none,none,[]⟩
theorem Pu(n:Nat)(d):qL c67 n Tryz.f67 (body Tryz.f67) π.ps π.rs d=F67 n d.1:=by kernel_rfl
theorem Er(n:Nat)(d):(tn).g (n+1) d=run c67 n (nth 0 (qe (body Tryz.f67))) ((tn).ins.fill d) (qV (tn) n):=by kernel_rfl
theorem aar:qe (body Tryz.f67)=[nth 0 (qe (body Tryz.f67))]:=by kernel_rfl
theorem h67:qJ Tryz.prog 67 π:=hQ (aa:=c67) (qz qB (qf h87 qq) rfl (by kernel_rfl)) Tryz.func67 (by kernel_rfl) (by rw[aar];simp only[List.forall_mem_cons];exact⟨qP (key:=2) (li:=tn) (by kernel_rfl) rfl (λ_=>rfl) (Er),λ_ h=>by cases h⟩) (by kernel_rfl) (Pu qk)
def XZ(_n:Nat)(L:Yi×(eo×(List Int)×(List Int)×Unit)×Unit->Option (nH))(bN:Int)(lI:Int)(fF:Int)(ez:sw×(List bM))(iy:List Int)(kZ:List Int):Option (nH):=
  cond (decide (fF<lI)) (bx fF kZ.length (qn kZ fF λe2=>qn ez.2 e2 λe3=>cond (e3.2.2.1==bN) (bx e3.2.2.2.1 4 (qn iy e3.2.2.2.1 λe4=>bx e3.2.2.2.1 4 (qn iy e3.2.2.2.1 λ_=>L ((bN,lI,(IntKind.wrap .i64 (fF+1)),()),(ez,(iy.set e3.2.2.2.1.toNat (IntKind.wrap .i64 (e4+1))),kZ,()),())))) (L ((bN,lI,(IntKind.wrap .i64 (fF+1)),()),(ez,iy,kZ,()),())))) (some ((),(iy,()),()))
def EC:Nat->Yi×(eo×(List Int)×(List Int)×Unit)×Unit->Option (nH)
  |0,_=>none
  |n+1,d=>XZ n (EC n) d.1.1 d.1.2.1 d.1.2.2.1 d.2.1.1 d.2.1.2.1 d.2.1.2.2.1
def tx:jL:=⟨⟨[(1,.v zI),(2,.c (.ptr 2 [])),(5,.c (.ptr 5 [])),(10,.c (.view 11000 [])),(11,.v zI),(12,.v zI)],[(2,false,.str ny),(5,false,.arr 4 zI),(11000,true,.list true 3 zI)],none⟩,[(.exit 0,⟨[(5,.c (.ptr 5 []))],[(5,false,.arr 4 zI)],none⟩)],EC⟩
def F40(n:Nat)(bJ:eo)(bN:Int):Option cr:=
  qa (g67 (bJ,())) λy1=>qa (EC n ((bN,(y1.1.1.length:Int),0,()),(bJ,(List.replicate 4 (0:Int)),y1.1.1,()),())) λo6=>bx 3 4 (qn o6.2.1.1 3 λe7=>cond (e7==0) (bx 2 4 (qn o6.2.1.1 2 λe8=>some (((decide (e8<=1)),()),()))) (some ((false,()),())))
def g40(d:eo×Int×Unit):Option cr:=F40 qk d.1 d.2.1
def p40:qS:=⟨[.v (.str ny),.v zI],[.v .bool],g40⟩
def c40:jB:=⟨40,bV,[],[(67,π)],[(3,tx)],[],[],[],[],[],[],[],[],[],none,[],[],[],none,none,[]⟩
theorem PV(n:Nat)(d):qL c40 n Tryz.f40 (body Tryz.f40) p40.ps p40.rs d=F40 n d.1 d.2.1:=by kernel_rfl
theorem EB(n:Nat)(d):(tx).g (n+1) d=run c40 n (nth 0 (qe (body Tryz.f40))) ((tx).ins.fill d) (qV (tx) n):=by kernel_rfl
theorem aax:qe (body Tryz.f40)=[nth 0 (qe (body Tryz.f40))]:=by kernel_rfl
theorem h40:qJ Tryz.prog 40 p40:=hQ (aa:=c40) (qz qB (qf h67 qq) rfl (by kernel_rfl)) Tryz.func40 (by kernel_rfl) (by rw[aax];simp only[List.forall_mem_cons];exact⟨qP (key:=3) (li:=tx) (by kernel_rfl) rfl (λ_=>rfl) (EB),λ_ h=>by cases h⟩) (by kernel_rfl) (PV qk)
def F42(_n:Nat)(nx:bM)(t_1:Int):Option cr:=
  cond (nx.2.1==4) (some (((nx.2.2.1==t_1),()),())) (some ((false,()),()))
def g42(d:bM×Int×Unit):Option cr:=F42 qk d.1 d.2.1
def p42:qS:=⟨[.v (.str iJ),.r zI],[.v .bool],g42⟩
def c42:jB:=⟨13,bV,[],[],[],[],[],[],[],[],[],[],[],[],none,[],[],[],none,none,[]⟩
theorem PT(n:Nat)(d):qL c42 n Tryz.f42 (body Tryz.f42) p42.ps p42.rs d=F42 n d.1 d.2.1:=by kernel_rfl
theorem h42:qJ Tryz.prog 42 p42:=hQ (aa:=c42) (qz qB (qq) rfl (by kernel_rfl)) Tryz.func42 (by kernel_rfl) (qE (by kernel_rfl)) (by kernel_rfl) (PT qk)
def Xz(_n:Nat)(L:u_->Option (X×(Int×Unit)))(eP:bM)(vc:Int)(Td:Int):Option (X×(Int×Unit)):=
  cond (eP.2.1==5) (cond (eP.2.2.1==vc) (some (.ret,(eP.2.2.2.1,()))) (L (vc,Td,()))) (L (vc,Td,()))
def DT(n:Nat):List bM->u_->Option (X×(Int×Unit))
  |[],d=>some (.norm,(d.2.1,()))
  |x::r,d=>Xz n (DT n r) x d.1 d.2.1
def TA:qc5:=⟨.str iJ,[3,4],[.r zI,.m zI],[.norm,.ret],DT⟩
def F43(n:Nat)(bJ:eo)(bN:Int):Option fS:=
  qa (Ib.Vb.p.g (bJ,())) λy1=>qa y1.1.1 λq2=>qa (Ib.yb.g (q2,())) λl4=>qa (DT n l4 (bN,(0:Int),())) λo3=>cond (X.same .norm o3.1) (qn bJ.1.2.2 bN λe5=>some ((e5,()),())) (cond (X.same .ret o3.1) (some ((o3.2.1,()),())) (none))
def g43(d:eo×Int×Unit):Option fS:=F43 qk d.1 d.2.1
def p43:qS:=⟨[.v (.str ny),.v zI],[.v zI],g43⟩
def c43:jB:=⟨26,bV,[],[],[],[],[],[(90,Ib.yb)],[(2,TA)],[(68,Ib.Vb)],[],[],[],[],none,[],[],[],none,none,[]⟩
theorem PS(n:Nat)(d):qL c43 n Tryz.f43 (body Tryz.f43) p43.ps p43.rs d=F43 n d.1 d.2.1:=by kernel_rfl
theorem DS(n:Nat)(x r d):(TA).g n (x::r) d=run c43 n (DI (nth 0 (jI (body Tryz.f43)))) (Mw TA [8] d x) (G_ (JZ c43 TA n (Jr (nth 0 (jI (body Tryz.f43)))) r d) Mf):=by kernel_rfl
theorem aae:jI (body Tryz.f43)=[nth 0 (jI (body Tryz.f43))]:=by kernel_rfl
theorem h43:qJ Tryz.prog 43 p43:=Zd mixed (aa:=c43) (qz qB (qq) rfl (by kernel_rfl) (TE (TU Ib.k68 TD))) (YK Ib.wK wJ) Tryz.func43 rfl rfl (by kernel_rfl) rfl (qE (by kernel_rfl)) (by rw[aae];simp only[List.forall_mem_cons];exact⟨Un (key:=2) (li:=TA) (pl:=[8]) (by kernel_rfl) rfl (by kernel_rfl) (by kernel_rfl) (qE (by kernel_rfl)) (λ_ _=>rfl) DS,λ_ h=>by cases h⟩) (by kernel_rfl) (λd y h=>⟨qk,(PS qk d).trans h⟩)
def F25(_n:Nat)(bJ:eo)(bN:Int)(fA:Int):Option zY:=
  qa (g39 (bJ,bN,())) λy1=>qa (WM (1,(decide (y1.1.1<fA)),([]:List Int),())) λy2=>qa (g40 (bJ,bN,())) λy3=>qa (WM (2,(!y3.1.1),y2.2.1,())) λy4=>qa (g41 (bJ,bN,(λv5=>qa (g42 (v5,bN,())) λy6=>some y6.1.1),())) λy7=>qa (WM (3,(y7.1.1 !=fA),y4.2.1,())) λy8=>qa (g43 (bJ,bN,())) λy9=>qa (WM (4,(decide (y9.1.1<fA)),y8.2.1,())) λQJ=>some ((QJ.2.1,()),())
def g25(d:eo×Int×Int×Unit):Option zY:=F25 qk d.1 d.2.1 d.2.2.1
def p25:qS:=⟨[.v (.str ny),.v zI,.v zI],[.v gu],g25⟩
def c25:jB:=⟨38,bV,[(6,.list true 3 zI)],[(38,p38),(39,p39),(40,p40),(41,UR),(42,p42),(43,p43)],[],[],[],[],[],[],[],[],[],[],none,[],[],[],none,none,[]⟩
theorem Qj(n:Nat)(d):qL c25 n Tryz.f25 (body Tryz.f25) p25.ps p25.rs d=F25 n d.1 d.2.1 d.2.2.1:=by kernel_rfl
theorem h25:qJ Tryz.prog 25 p25:=hQ (aa:=c25) (qz qB (qf h38 (qf h39 (qf h40 (qf h41 (qf h42 (qf h43 qq)))))) rfl (by kernel_rfl)) Tryz.func25 (by kernel_rfl) (qE (by kernel_rfl)) (by kernel_rfl) (Qj qk)
def Yb(_n:Nat)(L:Yi×((List Int)×eo×Unit)×Unit->Option (nH))(fA:Int)(xG:Int)(iP:Int)(pY:List Int)(o_8:sw×(List bM)):Option (nH):=
  cond (decide (iP<xG)) (qa (g25 (o_8,iP,fA,())) λy2=>cond ((y2.1.1.length:Int)==0) (qo ((pY.length:Int)+[iP].length) (L ((fA,xG,(IntKind.wrap .i64 (iP+1)),()),((pY++[iP]),o_8,()),()))) (L ((fA,xG,(IntKind.wrap .i64 (iP+1)),()),(pY,o_8,()),()))) (some ((),(pY,()),()))
def Fa:Nat->Yi×((List Int)×eo×Unit)×Unit->Option (nH)
  |0,_=>none
  |n+1,d=>Yb n (Fa n) d.1.1 d.1.2.1 d.1.2.2.1 d.2.1.1 d.2.1.2.1
def tQ:jL:=⟨⟨[(2,.v zI),(6,.c (.view 6 [])),(8,.c (.ptr 8 [])),(23,.v zI),(24,.v zI)],[(6,true,.list true 3 zI),(8,false,.str ny)],none⟩,[(.exit 0,⟨[(6,.c (.view 6 []))],[(6,true,.list true 3 zI)],none⟩)],Fa⟩
def F10(n:Nat)(rL:sw)(dO:(List bM))(fA:Int):Option QR:=
  qa (g24 (rL,dO,fA,())) λy1=>cond (y1.1.2.1 !=0) (some ((([]:List Int),y1.1.2.1,()),())) (qa (Fa n ((fA,(y1.1.1.1.2.2.length:Int),0,()),(([]:List Int),y1.1.1,()),())) λo3=>some ((o3.2.1.1,0,()),()))
def g10(d:sw×(List bM)×Int×Unit):Option QR:=F10 qk d.1 d.2.1 d.2.2.1
def p10:qS:=⟨[.v LC,.v GL,.v zI],[.own 3 zI,.v zI],g10⟩
def c10:jB:=⟨39,bV,[],[(24,p24),(25,p25)],[(5,tQ)],[],[],[],[],[],[],[],[],[],none,[],[],[],none,none,[]⟩
theorem QB(n:Nat)(d):qL c10 n Tryz.f10 (body Tryz.f10) p10.ps p10.rs d=F10 n d.1 d.2.1 d.2.2.1:=by kernel_rfl
theorem E_(n:Nat)(d):(tQ).g (n+1) d=run c10 n (nth 0 (qe (body Tryz.f10))) ((tQ).ins.fill d) (qV (tQ) n):=by kernel_rfl
theorem aaK:qe (body Tryz.f10)=[nth 0 (qe (body Tryz.f10))]:=by kernel_rfl
theorem h10:qJ Tryz.prog 10 p10:=hQ (aa:=c10) (qz qB (qf h24 (qf h25 qq)) rfl (by kernel_rfl)) Tryz.func10 (by kernel_rfl) (by rw[aaK];simp only[List.forall_mem_cons];exact⟨qP (key:=5) (li:=tQ) (by kernel_rfl) rfl (λ_=>rfl) (E_),λ_ h=>by cases h⟩) (by kernel_rfl) (QB qk)
def we(_n:Nat)(L:((Option ko)×Int×Int×Int×Int×Int×(List Int)×Int×Int×Unit)×SY×Unit->Option uBt)(SG:Option ko)(lT:Int)(UL:Int)(oS:Int)(sC:Int)(ga:Int)(iN:List Int)(Ah:Int)(lE:Int)(gy:ux×xC)(xY:List Int)(gK:List Int):Option uBt:=
  cond (decide (lE<Ah)) (qn iN lE λe7=>bx e7 xY.length (qn xY e7 λe8=>L ((SG,lT,UL,(max oS e8),sC,ga,iN,Ah,(IntKind.wrap .i64 (lE+1)),()),(gy,xY,gK,()),()))) (some ((SG,lT,UL,oS,sC,ga,()),(gy,xY,gK,()),()))
def iH:Nat->((Option ko)×Int×Int×Int×Int×Int×(List Int)×Int×Int×Unit)×SY×Unit->Option uBt
  |0,_=>none
  |n+1,d=>we n (iH n) d.1.1 d.1.2.1 d.1.2.2.1 d.1.2.2.2.1 d.1.2.2.2.2.1 d.1.2.2.2.2.2.1 d.1.2.2.2.2.2.2.1 d.1.2.2.2.2.2.2.2.1 d.1.2.2.2.2.2.2.2.2.1 d.2.1.1 d.2.1.2.1 d.2.1.2.2.1
def mh:jL:=⟨⟨[(1,.c (.ptr 1 [])),(4,.v (.ptr ot)),(8,.c (.view 36 [])),(9,.v zI),(11,.v zI),(12,.v zI),(37,.c (.view 25000 [])),(38,.v zI),(39,.v zI),(51,.v gu),(52,.v zI),(53,.v zI)],[(1,false,.str gR),(36,true,.list true 3 zI),(25000,true,.list true 3 zI)],none⟩,[(.exit 2,⟨[(1,.c (.ptr 1 [])),(4,.v (.ptr ot)),(8,.c (.view 36 [])),(9,.v zI),(11,.v zI),(12,.v zI),(37,.c (.view 25000 [])),(38,.v zI),(39,.v zI)],[(1,false,.str gR),(36,true,.list true 3 zI),(25000,true,.list true 3 zI)],none⟩)],iH⟩
def wg(n:Nat)(L:((Option ko)×Int×Int×Int×Unit)×SY×Unit->Option (dZ))(SG:Option ko)(lT:Int)(sC:Int)(ga:Int)(gy:ux×xC)(xY:List Int)(gK:List Int):Option (dZ):=
  cond (decide (ga<sC)) (bx ga gK.length (qn gK ga λe4=>qa SG λq5=>qn q5.1.1 e4 λe6=>qa (iH n ((SG,lT,e4,0,sC,ga,e6.2.2.2,(e6.2.2.2.length:Int),0,()),(gy,xY,gK,()),())) λo9=>qa o9.1.1 λUJ=>qn UJ.2.1 o9.1.2.2.1 λOM=>cond (decide ((OM.length:Int)>0)) (qa o9.1.1 λKv=>qn Kv.2.1 o9.1.2.2.1 λXa=>qn Xa 0 λzJ=>bx zJ o9.2.1.2.1.length (qn o9.2.1.2.1 zJ λe15=>qn o9.2.1.1.1 o9.1.2.2.1 λDh=>bx o9.1.2.2.1 o9.2.1.2.1.length (qn o9.2.1.2.1 o9.1.2.2.1 λ_=>sF (o9.2.1.2.1.set o9.1.2.2.1.toNat (IntKind.wrap .i64 ((max o9.1.2.2.2.1 e15)+Dh.2.1))) λz18=>bx o9.1.2.2.1 z18.length (qn z18 o9.1.2.2.1 λOK=>L ((o9.1.1,(max o9.1.2.1 OK),o9.1.2.2.2.2.1,(IntKind.wrap .i64 (o9.1.2.2.2.2.2.1+1)),()),(o9.2.1.1,z18,o9.2.1.2.2.1,()),()))))) (qn o9.2.1.1.1 o9.1.2.2.1 λe20=>bx o9.1.2.2.1 o9.2.1.2.1.length (qn o9.2.1.2.1 o9.1.2.2.1 λ_=>sF (o9.2.1.2.1.set o9.1.2.2.1.toNat (IntKind.wrap .i64 (o9.1.2.2.2.1+e20.2.1))) λz22=>bx o9.1.2.2.1 z22.length (qn z22 o9.1.2.2.1 λWZ=>L ((o9.1.1,(max o9.1.2.1 WZ),o9.1.2.2.2.2.1,(IntKind.wrap .i64 (o9.1.2.2.2.2.2.1+1)),()),(o9.2.1.1,z22,o9.2.1.2.2.1,()),())))))) (some ((lT,()),(),()))
def iI:Nat->((Option ko)×Int×Int×Int×Unit)×SY×Unit->Option (dZ)
  |0,_=>none
  |n+1,d=>wg n (iI n) d.1.1 d.1.2.1 d.1.2.2.1 d.1.2.2.2.1 d.2.1.1 d.2.1.2.1 d.2.1.2.2.1
def mi:jL:=⟨⟨[(1,.c (.ptr 1 [])),(4,.v (.ptr ot)),(8,.c (.view 36 [])),(9,.v zI),(37,.c (.view 25000 [])),(38,.v zI),(39,.v zI)],[(1,false,.str gR),(36,true,.list true 3 zI),(25000,true,.list true 3 zI)],none⟩,[(.exit 0,⟨[(9,.v zI)],[],none⟩)],iI⟩
def F11(n:Nat)(bW:gr):Option JP:=
  qa (g19 (bW,())) λy1=>cond (!y1.1.2.1) (some ((0,80,()),())) (qa y1.1.1 λq2=>qa (g21 (q2,())) λy3=>cond (decide ((y3.1.1.length:Int)<(bW.1.length:Int))) (some ((0,3,()),())) (bO 0 (bW.1.length:Int) (bO (bW.1.length:Int) (bW.1.length:Int) (qo (bW.1.length:Int) (qa (iI n ((y1.1.1,0,(y3.1.1.length:Int),0,()),(bW,(List.replicate (bW.1.length:Int).toNat (0:Int)),y3.1.1,()),())) λo24=>some ((o24.1.1,0,()),()))))))
def g11(d:gr×Unit):Option JP:=F11 qk d.1
def p11:qS:=⟨[.v (.str gR)],[.v zI,.v zI],g11⟩
def Xq:jB:=⟨106,bV,[],[(19,UU),(21,UT)],[(14,mh),(10,mi)],[],[],[],[],[],[],[],[],[],none,[],[],[],none,none,[]⟩
theorem QA(n:Nat)(d):qL Xq n Tryz.f11 (body Tryz.f11) p11.ps p11.rs d=F11 n d.1:=by kernel_rfl
theorem yV(n:Nat)(d):(mi).g (n+1) d=run Xq n (nth 0 (qe (body Tryz.f11))) ((mi).ins.fill d) (qV (mi) n):=by kernel_rfl
theorem yU(n:Nat)(d):(mh).g (n+1) d=run Xq n (nth 1 (qe (body Tryz.f11))) ((mh).ins.fill d) (qV (mh) n):=by kernel_rfl
theorem aaJ:qe (body Tryz.f11)=[nth 0 (qe (body Tryz.f11)),nth 1 (qe (body Tryz.f11))]:=by kernel_rfl
theorem d11:qs Xq (body Tryz.f11)=true:=by kernel_rfl
theorem h11:qJ Tryz.prog 11 p11:=hQ (aa:=Xq) (qz qB (qf h19 (qf h21 qq)) rfl (by kernel_rfl)) Tryz.func11 (by kernel_rfl) (by rw[aaJ];simp only[List.forall_mem_cons];exact⟨qP (key:=10) (li:=mi) (by kernel_rfl) rfl (λ_=>rfl) (yV),qP (key:=14) (li:=mh) (by kernel_rfl) rfl (λ_=>rfl) (yU),λ_ h=>by cases h⟩) d11 (QA qk)
def QH(_n:Nat)(L:(nJ×f_×uW×Int×Unit)×(Unit)×Unit->Option (rQ ⊕ uCm))(l_1:List (Int×bM))(m_3:(List Bool)×(List bM))(iy:(List gr)×LR)(i_7:Int):Option (rQ ⊕ uCm):=
  cond (decide (i_7<(iy.1.length:Int))) (qn iy.1 i_7 λe7=>qa (g6 (e7,())) λy8=>cond (y8.1.1 !=0) (qa (g5 ()) λy9=>some (.inl ((y9.1.1,()),(),()))) (L ((l_1,m_3,iy,(IntKind.wrap .i64 (i_7+1)),()),(),()))) (some (.inr ((l_1,m_3,iy,()),(),())))
def rN:Nat->(nJ×f_×uW×Int×Unit)×(Unit)×Unit->Option (rQ ⊕ uCm)
  |0,_=>none
  |n+1,d=>QH n (rN n) d.1.1 d.1.2.1 d.1.2.2.1 d.1.2.2.2.1
def BX:jL:=⟨⟨[(1,.v zZ),(3,.r (.str ou)),(5,.r (.str yY)),(7,.v zI)],[],none⟩,[(.ret,⟨[(6,.v .bool)],[],none⟩),(.exit 0,⟨[(1,.v zZ),(3,.r (.str ou)),(5,.r (.str yY))],[],none⟩)],rN⟩
def FC(_n:Nat)(L:QL×SV×Unit->Option (rQ ⊕ ((uW×Unit)×SV×Unit)))(iy:(List gr)×LR)(ri:Int)(gi:(List kU)×((List Int)×(List Int)))(j_:List bM)(cB:List Int):Option (rQ ⊕ ((uW×Unit)×SV×Unit)):=
  cond (decide (ri<(iy.1.length:Int))) (qo ((gi.2.2.length:Int)+[1].length) (qn iy.1 ri λDh=>qa (g9 (Dh,iy.2.1,())) λFN=>cond (FN.1.2.1==1) (qa (g5 ()) λSI=>some (.inl ((SI.1.1,()),(),()))) (cond (FN.1.2.1==0) (bx ri cB.length (qn cB ri λOK=>cond (decide ((IntKind.wrap .i64 (OK+FN.1.1))<=iy.2.2.2.2)) (qo ((j_.length:Int)+[(1,4,ri,(0:Int),(0:Int))].length) (L ((iy,(IntKind.wrap .i64 (ri+1)),()),((gi.1,(gi.2.1,(gi.2.2++[1]))),(j_++[(1,4,ri,(0:Int),(0:Int))]),cB,()),()))) (L ((iy,(IntKind.wrap .i64 (ri+1)),()),((gi.1,(gi.2.1,(gi.2.2++[1]))),j_,cB,()),())))) (L ((iy,(IntKind.wrap .i64 (ri+1)),()),((gi.1,(gi.2.1,(gi.2.2++[1]))),j_,cB,()),()))))) (some (.inr ((iy,()),(gi,j_,cB,()),())))
def gF:Nat->QL×SV×Unit->Option (rQ ⊕ ((uW×Unit)×SV×Unit))
  |0,_=>none
  |n+1,d=>FC n (gF n) d.1.1 d.1.2.1 d.2.1.1 d.2.1.2.1 d.2.1.2.2.1
def tD:jL:=⟨⟨[(5,.r (.str yY)),(8,.c (.view 76000 [])),(10,.c (.ptr 10 [])),(11,.c (.view 11 [])),(12,.v zI)],[(10,false,.str Yh),(11,true,.list true 49 (.str iJ)),(76000,true,.list true 3 zI)],none⟩,[(.ret,⟨[(6,.v .bool)],[],none⟩),(.exit 2,⟨[(5,.r (.str yY)),(8,.c (.view 76000 [])),(10,.c (.ptr 10 [])),(11,.c (.view 11 []))],[(10,false,.str Yh),(11,true,.list true 49 (.str iJ)),(76000,true,.list true 3 zI)],none⟩)],gF⟩
def FA(_n:Nat)(L:QL×((List Bool)×(List Int)×(List Int)×Unit)×Unit->Option (rQ ⊕ ((uW×Unit)×JQ×Unit)))(iy:(List gr)×LR)(tV:Int)(gU:List Bool)(cB:List Int)(dV:List Int):Option (rQ ⊕ ((uW×Unit)×JQ×Unit)):=
  cond (decide (tV<(dV.length:Int))) (bx tV dV.length (qn dV tV λe24=>cond (decide (e24<0)) (some (.inl ((false,()),(),()))) (bx tV dV.length (qn dV tV λe25=>cond (decide (e25>=(gU.length:Int))) (some (.inl ((false,()),(),()))) (bx tV dV.length (qn dV tV λLs=>bx Ls gU.length (qn gU Ls λ_=>L ((iy,(IntKind.wrap .i64 (tV+1)),()),((gU.set Ls.toNat true),cB,dV,()),())))))))) (some (.inr ((iy,()),(gU,cB,()),())))
def py:Nat->QL×((List Bool)×(List Int)×(List Int)×Unit)×Unit->Option (rQ ⊕ ((uW×Unit)×JQ×Unit))
  |0,_=>none
  |n+1,d=>FA n (py n) d.1.1 d.1.2.1 d.2.1.1 d.2.1.2.1 d.2.1.2.2.1
def tC:jL:=⟨⟨[(5,.r (.str yY)),(8,.c (.view 76000 [])),(15,.c (.view 136000 [])),(16,.c (.view 143 [])),(17,.v zI)],[(143,true,.list true 4 .bool),(76000,true,.list true 3 zI),(136000,true,.list true 3 zI)],none⟩,[(.ret,⟨[(6,.v .bool)],[],none⟩),(.exit 4,⟨[(5,.r (.str yY)),(8,.c (.view 76000 [])),(16,.c (.view 143 []))],[(143,true,.list true 4 .bool),(76000,true,.list true 3 zI)],none⟩)],py⟩
def Fy(_n:Nat)(L:(uW×Int×Int×Int×Int×Int×Unit)×JQ×Unit->Option uCd)(iy:(List gr)×LR)(tU:Int)(AF:Int)(WU:Int)(DK:Int)(MW:Int)(gU:List Bool)(cB:List Int):Option uCd:=
  qn iy.1 tU λe33=>cond (decide (MW<(e33.1.length:Int))) (qn iy.1 tU λe34=>qn e34.1 MW λWX=>L ((iy,tU,AF,WU,(IntKind.wrap .i64 (DK+WX.2.1)),(IntKind.wrap .i64 (MW+1)),()),(gU,cB,()),())) (some ((iy,tU,AF,WU,DK,()),(gU,cB,()),()))
def mZ:Nat->(uW×Int×Int×Int×Int×Int×Unit)×JQ×Unit->Option uCd
  |0,_=>none
  |n+1,d=>Fy n (mZ n) d.1.1 d.1.2.1 d.1.2.2.1 d.1.2.2.2.1 d.1.2.2.2.2.1 d.1.2.2.2.2.2.1 d.2.1.1 d.2.1.2.1
def tA:jL:=⟨⟨[(5,.r (.str yY)),(8,.c (.view 76000 [])),(16,.c (.view 143 [])),(18,.v zI),(19,.v zI),(20,.v zI),(21,.v zI),(22,.v zI)],[(143,true,.list true 4 .bool),(76000,true,.list true 3 zI)],none⟩,[(.exit 8,⟨[(5,.r (.str yY)),(8,.c (.view 76000 [])),(16,.c (.view 143 [])),(18,.v zI),(19,.v zI),(20,.v zI),(21,.v zI)],[(143,true,.list true 4 .bool),(76000,true,.list true 3 zI)],none⟩)],mZ⟩
def Fz(n:Nat)(L:QL×JQ×Unit->Option (rQ ⊕ gP))(iy:(List gr)×LR)(tU:Int)(gU:List Bool)(cB:List Int):Option (rQ ⊕ gP):=
  cond (decide (tU<(iy.1.length:Int))) (qn iy.1 tU λWY=>qa (g11 (WY,())) λy32=>qa (mZ n ((iy,tU,y32.1.1,y32.1.2.1,0,0,()),(gU,cB,()),())) λdI=>bx dI.1.2.1 dI.2.1.1.length (qn dI.2.1.1 dI.1.2.1 λe37=>cond e37 (cond (dI.1.2.2.2.1 !=0) (some (.inl ((false,()),(),()))) (bx dI.1.2.1 dI.2.1.2.1.length (qn dI.2.1.2.1 dI.1.2.1 λe38=>cond (decide ((IntKind.wrap .i64 (e38+dI.1.2.2.1))>dI.1.1.2.2.2.2)) (some (.inl ((false,()),(),()))) (bx dI.1.2.1 dI.2.1.1.length (qn dI.2.1.1 dI.1.2.1 λe39=>cond (!e39) (cond (dI.1.2.2.2.1==0) (bx dI.1.2.1 dI.2.1.2.1.length (qn dI.2.1.2.1 dI.1.2.1 λSD=>cond (decide ((IntKind.wrap .i64 (SD+dI.1.2.2.2.2.1))<=dI.1.1.2.2.2.2)) (some (.inl ((false,()),(),()))) (L ((dI.1.1,(IntKind.wrap .i64 (dI.1.2.1+1)),()),(dI.2.1.1,dI.2.1.2.1,()),())))) (L ((dI.1.1,(IntKind.wrap .i64 (dI.1.2.1+1)),()),(dI.2.1.1,dI.2.1.2.1,()),()))) (L ((dI.1.1,(IntKind.wrap .i64 (dI.1.2.1+1)),()),(dI.2.1.1,dI.2.1.2.1,()),()))))))) (bx dI.1.2.1 dI.2.1.1.length (qn dI.2.1.1 dI.1.2.1 λe41=>cond (!e41) (cond (dI.1.2.2.2.1==0) (bx dI.1.2.1 dI.2.1.2.1.length (qn dI.2.1.2.1 dI.1.2.1 λe42=>cond (decide ((IntKind.wrap .i64 (e42+dI.1.2.2.2.2.1))<=dI.1.1.2.2.2.2)) (some (.inl ((false,()),(),()))) (L ((dI.1.1,(IntKind.wrap .i64 (dI.1.2.1+1)),()),(dI.2.1.1,dI.2.1.2.1,()),())))) (L ((dI.1.1,(IntKind.wrap .i64 (dI.1.2.1+1)),()),(dI.2.1.1,dI.2.1.2.1,()),()))) (L ((dI.1.1,(IntKind.wrap .i64 (dI.1.2.1+1)),()),(dI.2.1.1,dI.2.1.2.1,()),())))))) (some (.inr ((),(),())))
def m_:Nat->QL×JQ×Unit->Option (rQ ⊕ gP)
  |0,_=>none
  |n+1,d=>Fz n (m_ n) d.1.1 d.1.2.1 d.2.1.1 d.2.1.2.1
def tB:jL:=⟨⟨[(5,.r (.str yY)),(8,.c (.view 76000 [])),(16,.c (.view 143 [])),(18,.v zI)],[(143,true,.list true 4 .bool),(76000,true,.list true 3 zI)],none⟩,[(.ret,⟨[(6,.v .bool)],[],none⟩),(.exit 6,⟨[],[],none⟩)],m_⟩
def F3(n:Nat)(gj:f_)(l_1:nJ)(ez:uW):Option cr:=
  qa (g4 (gj,l_1,())) λy1=>cond y1.1.1 (qa (g5 ()) λy2=>some ((y2.1.1,()),())) (cond (decide ((l_1.length:Int)>6)) (qa (g5 ()) λy3=>some ((y3.1.1,()),())) (cond ((ez.1.length:Int) !=(l_1.length:Int)) (qa (g5 ()) λy4=>some ((y4.1.1,()),())) (cond (decide (ez.2.2.2.2>1073741824)) (qa (g5 ()) λy5=>some ((y5.1.1,()),())) (cond (decide (ez.2.2.2.2<(-1073741824))) (qa (g5 ()) λy6=>some ((y6.1.1,()),())) (qa (rN n ((l_1,gj,ez,0,()),(),())) λrY=>fD rY (λd11=>some ((d11.1.1,()),())) (λd12=>vg (λ(FO:(f_×Unit)×(Unit)) (LG:((List Int)×Int×Unit)×(Unit))=>cond (LG.1.2.1 !=0) (qa (g5 ()) λLF=>some ((LF.1.1,()),())) (cond ((LG.1.1.length:Int) !=(d12.1.1.length:Int)) (some ((false,()),())) (qa (gF n ((d12.1.2.2.1,0,()),((([]:List kU),[0],([]:List Int)),([]:List bM),LG.1.1,()),())) λkL=>fD kL (λd21=>some ((d21.1.1,()),())) (λd22=>qa (g10 (d22.2.1.1,d22.2.1.2.1,1,())) λYd=>cond (Yd.1.2.1 !=0) (some ((false,()),())) (bO 0 (d22.1.1.1.length:Int) (bO (d22.1.1.1.length:Int) (d22.1.1.1.length:Int) (qo (d22.1.1.1.length:Int) (qa (py n ((d22.1.1,0,()),((List.replicate (d22.1.1.1.length:Int).toNat false),d22.2.1.2.2.1,Yd.1.1,()),())) λo28=>fD o28 (λd29=>some ((d29.1.1,()),())) (λd30=>qa (m_ n ((d30.1.1,0,()),(d30.2.1.1,d30.2.1.2.1,()),())) λo43=>fD o43 (λd44=>some ((d44.1.1,()),())) (λ_=>qa (g5 ()) λy46=>some ((y46.1.1,()),()))))))))))) λE=>qv [qa (g8 (d12.1.2.1,())) λFO=>qo ((([]:List (Int×bM)).length:Int)+d12.1.1.length) (qa (g7 (FO.1.1,(([]:List (Int×bM))++d12.1.1),d12.1.2.2.1.2.2.1,d12.1.2.2.1.2.2.2.1,())) λLG=>E FO LG),qa (g8 (d12.1.2.1,())) λy47=>qo ((([]:List (Int×bM)).length:Int)+d12.1.1.length) (qa (g7 (y47.1.1,(([]:List (Int×bM))++d12.1.1),d12.1.2.2.1.2.2.1,d12.1.2.2.1.2.2.2.1,())) λy48=>E y47 y48)]))))))
def g3(d:f_×nJ×uW×Unit):Option cr:=F3 qk d.1 d.2.1 d.2.2.1
def p3:qS:=⟨[.v (.str ou),.v zZ,.v (.str yY)],[.v .bool],g3⟩
def c3:jB:=⟨251,bV,[(3,.str ou),(5,.str yY),(10,.str Yh),(87,.str Yh),(70,.list true 57 Ys)],[(4,p4),(5,p5),(6,p6),(7,p7),(8,p8),(9,p9),(10,p10),(11,p11)],[(4,BX),(16,tD),(29,tC),(40,tA),(35,tB)],[],[8],[],[],[],[],[],[],[],none,[],[],[],none,none,[]⟩
theorem XL(n:Nat)(d):qL c3 n Tryz.f3 (body Tryz.f3) p3.ps p3.rs d=F3 n d.1 d.2.1 d.2.2.1:=by kernel_rfl
theorem JA(n:Nat)(d):(BX).g (n+1) d=run c3 n (nth 0 (qe (body Tryz.f3))) ((BX).ins.fill d) (qV (BX) n):=by kernel_rfl
theorem EG(n:Nat)(d):(tD).g (n+1) d=run c3 n (nth 1 (qe (body Tryz.f3))) ((tD).ins.fill d) (qV (tD) n):=by kernel_rfl
theorem EF(n:Nat)(d):(tC).g (n+1) d=run c3 n (nth 2 (qe (body Tryz.f3))) ((tC).ins.fill d) (qV (tC) n):=by kernel_rfl
theorem EE(n:Nat)(d):(tB).g (n+1) d=run c3 n (nth 3 (qe (body Tryz.f3))) ((tB).ins.fill d) (qV (tB) n):=by kernel_rfl
theorem ED(n:Nat)(d):(tA).g (n+1) d=run c3 n (nth 4 (qe (body Tryz.f3))) ((tA).ins.fill d) (qV (tA) n):=by kernel_rfl
theorem ls3:qe (body Tryz.f3)=[nth 0 (qe (body Tryz.f3)),nth 1 (qe (body Tryz.f3)),nth 2 (qe (body Tryz.f3)),nth 3 (qe (body Tryz.f3)),nth 4 (qe (body Tryz.f3))]:=by kernel_rfl
theorem h3:qJ Tryz.prog 3 p3:=hQ (aa:=c3) (qz qB (qf h4 (qf h5 (qf h6 (qf h7 (qf h8 (qf h9 (qf h10 (qf h11 qq)))))))) rfl (by kernel_rfl)) Tryz.func3 (by kernel_rfl) (by rw[ls3];simp only[List.forall_mem_cons];exact⟨qP (key:=4) (li:=BX) (by kernel_rfl) rfl (λ_=>rfl) (JA),qP (key:=16) (li:=tD) (by kernel_rfl) rfl (λ_=>rfl) (EG),qP (key:=29) (li:=tC) (by kernel_rfl) rfl (λ_=>rfl) (EF),qP (key:=35) (li:=tB) (by kernel_rfl) rfl (λ_=>rfl) (EE),qP (key:=40) (li:=tA) (by kernel_rfl) rfl (λ_=>rfl) (ED),λ_ h=>by cases h⟩) (by kernel_rfl) (XL qk)
end
end Go.Proofs.Tryz.V
