/- The contracts of functions of the program, printed by program from the interpreter: each says what a call returns. No condition beyond those typed in each theorem. -/
import Derived.Test.YtmlocmhkfnojbaaGreatMk
import Derived.Test.YtmlocmhkfnojbaaGreatHl
import Derived.Test.YtmlocmhkfnojbaaGreatProg
namespace Go.Proofs.Tryz.V
noncomputable section
open Go.Vi
set_option maxRecDepth 100000
abbrev zI:Ty:=.int .i64
abbrev eS:Ty:=.pair zI zI
abbrev iJ:Ty:=.pair zI (.pair zI (.pair zI eS))
abbrev LB:Ty:=.str (.pair zI (.pair zI (.pair zI .bool)))
abbrev dZ:Type:=(Int×Unit)×(Unit)×Unit
abbrev cr:Type:=(Bool×Unit)×(Unit)
abbrev dQ:Type:=List (Int×Int)
abbrev gu:Ty:=.list false 3 zI
abbrev fS:Type:=(Int×Unit)×(Unit)
abbrev gP:Type:=(Unit)×(Unit)×Unit
abbrev sA:Type:=(Int×Int)×(Int×Int)
abbrev kU:Type:=Int×(Int×(Int×Bool))
abbrev sw:Type:=(List kU)×((List Int)×(List Int))
abbrev JR:Type:=Int×(Int×((List Int)×((List Int)×(dQ×(Int×(Int×Int))))))
abbrev rQ:Type:=(Bool×Unit)×(Unit)×Unit
abbrev uy:Ty:=.list false 59 (.str eS)
abbrev xD:Type:=(List (List Int))×Unit
abbrev Ys:Ty:=.str (.pair zI iJ)
abbrev sy:Type:=(List Int)×Unit
abbrev nH:Type:=(Unit)×sy×Unit
abbrev u_:Type:=Int×Int×Unit
abbrev pI:Ty:=.list true 3 zI
abbrev QT:Ty:=.pair zI (.pair zI (.pair gu (.pair gu (.pair uy (.pair zI eS)))))
abbrev z_:Ty:=.pair (.str eS) (.str eS)
abbrev Am:Ty:=.str z_
abbrev JQ:Type:=(List Bool)×(List Int)×Unit
abbrev xC:Type:=Int×(List (List Int))
abbrev QS:Type:=((dQ×Int×Int×Unit)×xD×Unit)
abbrev SX:Type:=Int×Int×(List (List Int))×Int×Int×Unit
abbrev Yr:Ty:=.pair zI (.pair zI (.pair zI gu))
abbrev LU:Type:=(List Int)×(List Bool)×Unit
abbrev GL:Ty:=.list false 49 (.str iJ)
abbrev LS:Type:=dQ×Int×Int×Int×Unit
abbrev QR:Type:=((List Int)×Int×Unit)×(Unit)
abbrev zZ:Ty:=.list false 57 Ys
abbrev LR:Type:=Int×(Int×(Int×Int))
abbrev bM:Type:=Int×LR
abbrev f_:Type:=(List Bool)×(List bM)
abbrev uV:Type:=f_×(Int×bM)
abbrev eo:Type:=sw×(List bM)
abbrev nJ:Type:=List (Int×bM)
abbrev LQ:Ty:=.list false 145 LB
abbrev LC:Ty:=.str (.pair LQ (.pair gu gu))
abbrev ny:Ty:=.pair LC GL
abbrev SV:Type:=sw×(List bM)×(List Int)×Unit
abbrev SU:Ty:=.pair LC (.list true 49 (.str iJ))
abbrev SS:Type:=Int×(Int×(Int×(List Int)))
abbrev ux:Type:=List SS
abbrev gr:Type:=ux×xC
abbrev uW:Type:=(List gr)×LR
abbrev FP:Type:=gr×(List Bool)×Unit
abbrev SY:Type:=gr×(List Int)×(List Int)×Unit
abbrev QO:Type:=(Unit)×(gr×Unit)×Unit
abbrev LP:Type:=gr×(List Int)×Unit
abbrev Yp:Type:=((List Int)×Int×Int×Unit)×(Unit)
abbrev SR:Type:=Int×ux×Int×Int×Unit
abbrev zY:Type:=sy×(Unit)
abbrev uCd:Type:=((uW×Int×Int×Int×Int×Unit)×JQ×Unit)
abbrev Yn:Type:=(List (List Int))×(List (List Int))
abbrev ko:Type:=gr×Yn
abbrev yX:Type:=((Option ko)×Bool×Unit)×(Unit)×Unit
abbrev S_:Type:=Int×(Option ko)×Int×Unit
abbrev uBt:Type:=(((Option ko)×Int×Int×Int×Int×Int×Unit)×SY×Unit)
abbrev LO:Type:=ko×(List Int)×Unit
abbrev Yq:Type:=Int×(Option ko)×Int×Int×Int×Unit
abbrev Yo:Type:=((Option ko)×Bool×Unit)×(Unit)
abbrev LN:Ty:=.list false 4 .bool
abbrev LM:Ty:=.list false 38 gu
abbrev zTi:Ty:=.pair LM LM
abbrev uCh:Type:=((Bool×Unit)×((Int×Int)×Unit)×Unit)
abbrev Ym:Type:=(List bM)×Int×Int×Unit
abbrev QN:Type:=Int×(Int×sA)
abbrev QM:Type:=(S_×FP×dQ)
abbrev uCl:Type:=((Int×(Option ko)×Unit)×FP×dQ)
abbrev uCm:Type:=(nJ×f_×uW×Unit)×(Unit)×Unit
abbrev Yl:Type:=(Unit)×((List sA)×Unit)
abbrev QL:Type:=uW×Int×Unit
abbrev JP:Type:=u_×(Unit)
abbrev uCq:Type:=Int×Int×dQ×Int×Int×Unit
abbrev uCr:Type:=(List (List Int))×(List Int)×Unit
abbrev uBl:Type:=(uCq×uCr×Unit)
abbrev Yk:Ty:=.list false 102 (.str iJ)
abbrev ou:Ty:=.pair LN Yk
abbrev xB:Ty:=.pair (.str ou) Ys
abbrev uCt:Type:=(Int×Unit)×(gr×Unit)×Unit
abbrev Yj:Ty:=.list false 53 (.str Yr)
abbrev gR:Ty:=.pair Yj (.pair zI LM)
abbrev yY:Ty:=.pair (.list false 37 (.str gR)) (.pair zI (.pair zI eS))
abbrev ot:Ty:=.str (.pair (.str gR) zTi)
abbrev SZ:Ty:=.pair (.str gR) (.pair (.list true 38 gu) (.list true 38 pI))
abbrev uCv:Type:=((dQ×Int×Unit)×xD×Unit)
abbrev Yi:Type:=Int×Int×Int×Unit
abbrev Yh:Ty:=.pair LQ (.pair gu pI)
abbrev SQ:Type:=Int×uV×Unit
abbrev Yg:Ty:=.pair zI (.pair zI z_)
abbrev uDa:Type:=((Unit)×(dQ×Unit)×Unit)
def bV:List (Nat×Ty):=[(2,.int .i64),(3,.int .i64),(4,.bool),(5,.int .u8),(6,.int .u8),(7,.str (.pair zI (.pair zI (.pair .bool (.int .u8))))),(20,.ext false 2 158 0),(22,.list false 4 .bool),(23,.list false 102 (.str iJ)),(25,.str ou),(26,.list false 57 Ys),(27,.list false 37 (.str gR)),(29,.str yY),(32,.int .i64),(34,.list false 53 (.str Yr)),(35,.list false 38 gu),(37,.str gR),(38,.list false 3 zI),(42,.list false 145 LB),(44,.str (.pair LQ (.pair gu gu))),(45,.list false 49 (.str iJ)),(49,.str iJ),(53,.str Yr),(57,.str (.pair zI iJ)),(59,.str eS),(60,.list false 59 (.str eS)),(62,.str QT),(67,.ptr (.str (.pair (.ext false 5 94 0) gu))),(72,.ptr ot),(75,.list false 4 .bool),(83,.str ny),(88,.str (.pair (.str gR) zTi)),(91,.ext false 5 94 0),(93,.str (.pair (.ext false 5 94 0) gu)),(94,.list false 100 (.str eS)),(97,.str xB),(100,.str eS),(102,.str iJ),(111,.fn zI .bool),(113,.fn (.str iJ) .bool),(117,.fn (.str eS) .bool),(124,.str eS),(127,.ext false 0 131 124),(129,.list false 131 (.str eS)),(131,.str eS),(134,.bQ (.str eS) (.str eS) zI),(139,.str Yg),(145,.str (.pair zI (.pair zI (.pair zI .bool)))),(146,.arr 4 zI),(153,.fn (.str iJ) .bool),(155,.ext false 1 131 3),(156,.ptr (.list false 158 (.str z_))),(158,.str z_),(160,.list false 158 (.str z_)),(162,.ext false 4 156 158),(169,.int .u64),(173,.fn LB .bool),(193,.int .u32),(195,.int .u64)]
theorem qB:Aa Tryz.prog bV=true:=by kernel_rfl
theorem mixed:Tryz.prog.follows .mixedOrders=true:=by kernel_rfl
theorem hQ{aa:jB}{f:FuncId}{fn:Func}{p:qS}(hc:qx Tryz.prog aa)(hf:Tryz.prog.funcs[f]? = some fn)(ha:(fn.body.isSome&&(Nat.beq fn.ntmps aa.nt&&(!(fn.name == "runtime.NumGoroutine")&&Nat.ble p.ps.length aa.nt)))=true)(hl:∀b∈qe (body fn),Kk aa b)(hd:qs aa (body fn)=true)(he:∀d,qL aa qk fn (body fn) p.ps p.rs d=p.g d):qJ Tryz.prog f p:=by
  simp only[Bool.and_eq_true,Bool.not_eq_true']at ha
  exact qn6 mixed hc hf ha.1 (Nat.eq_of_beq_eq_true ha.2.1) ha.2.2.1 ha.2.2.2 hl hd (λd y h=>⟨qk,(he d).trans h⟩)
def F12(_n:Nat)(gj:f_):Option cr:=
  cond (decide ((gj.1.length:Int)>20)) (some ((true,()),())) (some (((decide ((gj.2.length:Int)>40)),()),()))
def g12(d:f_×Unit):Option cr:=F12 qk d.1
def p12:qS:=⟨[.v (.str ou)],[.v .bool],g12⟩
def c12:jB:=⟨13,bV,[],[],[],[],[],[],[],[],[],[],[],[],none,[],[],[],none,none,[]⟩
theorem Qz(n:Nat)(d):qL c12 n Tryz.f12 (body Tryz.f12) p12.ps p12.rs d=F12 n d.1:=by kernel_rfl
theorem d12:qs c12 (body Tryz.f12)=true:=by kernel_rfl
theorem h12:qJ Tryz.prog 12 p12:=hQ (aa:=c12) (qz qB (qq) rfl (by kernel_rfl)) Tryz.func12 (by kernel_rfl) (qE (by kernel_rfl)) d12 (Qz qk)
def QE(_n:Nat)(L:(nJ×Int×Unit)×(Unit)×Unit->Option (rQ ⊕ gP))(l_1:List (Int×bM))(yc:Int):Option (rQ ⊕ gP):=
  cond (decide (yc<(l_1.length:Int))) (qn l_1 yc λe2=>cond (decide (e2.2.2.2.2.1>60)) (qn l_1 yc λe3=>cond (decide (e3.2.2.2.2.1<=500)) (some (.inl ((true,()),(),()))) (L ((l_1,(IntKind.wrap .i64 (yc+1)),()),(),()))) (L ((l_1,(IntKind.wrap .i64 (yc+1)),()),(),()))) (some (.inr ((),(),())))
def mX:Nat->(nJ×Int×Unit)×(Unit)×Unit->Option (rQ ⊕ gP)
  |0,_=>none
  |n+1,d=>QE n (mX n) d.1.1 d.1.2.1
def BW:jL:=⟨⟨[(1,.v zZ),(5,.v zI)],[],none⟩,[(.ret,⟨[(4,.v .bool)],[],none⟩),(.exit 0,⟨[],[],none⟩)],mX⟩
def F4(n:Nat)(gj:f_)(l_1:nJ):Option cr:=
  qa (g12 (gj,())) λy1=>cond y1.1.1 (some ((true,()),())) (cond (decide ((gj.1.length:Int)>5)) (some ((true,()),())) (cond (decide ((gj.2.length:Int)>8)) (some ((true,()),())) (cond (decide ((l_1.length:Int)>12)) (some ((true,()),())) (qa (mX n ((l_1,0,()),(),())) λo4=>fD o4 (λd5=>some ((d5.1.1,()),())) (λ_=>some ((false,()),()))))))
def g4(d:f_×nJ×Unit):Option cr:=F4 qk d.1 d.2.1
def p4:qS:=⟨[.v (.str ou),.v zZ],[.v .bool],g4⟩
def c4:jB:=⟨45,bV,[],[(12,p12)],[(4,BW)],[],[],[],[],[],[],[],[],[],none,[],[],[],none,none,[]⟩
theorem XJ(n:Nat)(d):qL c4 n Tryz.f4 (body Tryz.f4) p4.ps p4.rs d=F4 n d.1 d.2.1:=by kernel_rfl
theorem Jz(n:Nat)(d):(BW).g (n+1) d=run c4 n (nth 0 (qe (body Tryz.f4))) ((BW).ins.fill d) (qV (BW) n):=by kernel_rfl
theorem ls4:qe (body Tryz.f4)=[nth 0 (qe (body Tryz.f4))]:=by kernel_rfl
theorem d4:qs c4 (body Tryz.f4)=true:=by kernel_rfl
theorem h4:qJ Tryz.prog 4 p4:=hQ (aa:=c4) (qz qB (qf h12 qq) rfl (by kernel_rfl)) Tryz.func4 (by kernel_rfl) (by rw[ls4];simp only[List.forall_mem_cons];exact⟨qP (key:=4) (li:=BW) (by kernel_rfl) rfl (λ_=>rfl) (Jz),λ_ h=>by cases h⟩) d4 (XJ qk)
def F27(_n:Nat)(nD:Int)(iW:Int)(fK:Int):Option cr:=
  cond (decide (nD>=iW)) (some (((decide (nD<=fK)),()),())) (some ((false,()),()))
def zH(d:Int×Int×Int×Unit):Option cr:=F27 qk d.1 d.2.1 d.2.2.1
def MY:qS:=⟨[.v zI,.v zI,.v zI],[.v .bool],zH⟩
def c27:jB:=⟨15,bV,[],[],[],[],[],[],[],[],[],[],[],[],none,[],[],[],none,none,[]⟩
theorem Qh(n:Nat)(d):qL c27 n Tryz.f27 (body Tryz.f27) MY.ps MY.rs d=F27 n d.1 d.2.1 d.2.2.1:=by kernel_rfl
theorem d27:qs c27 (body Tryz.f27)=true:=by kernel_rfl
theorem h27:qJ Tryz.prog 27 MY:=hQ (aa:=c27) (qz qB (qq) rfl (by kernel_rfl)) Tryz.func27 (by kernel_rfl) (qE (by kernel_rfl)) d27 (Qh qk)
def F45(_n:Nat)(nD:Int)(t_1:Int)(t_2:Int):Option cr:=
  qa (zH (nD,t_1,t_2,())) λy1=>some (((!y1.1.1),()),())
def g45(d:Int×Int×Int×Unit):Option cr:=F45 qk d.1 d.2.1 d.2.2.1
def p45:qS:=⟨[.v zI,.r zI,.r zI],[.v .bool],g45⟩
def c45:jB:=⟨10,bV,[],[(27,MY)],[],[],[],[],[],[],[],[],[],[],none,[],[],[],none,none,[]⟩
theorem PP(n:Nat)(d):qL c45 n Tryz.f45 (body Tryz.f45) p45.ps p45.rs d=F45 n d.1 d.2.1 d.2.2.1:=by kernel_rfl
theorem h45:qJ Tryz.prog 45 p45:=hQ (aa:=c45) (qz qB (qf h27 qq) rfl (by kernel_rfl)) Tryz.func45 (by kernel_rfl) (qE (by kernel_rfl)) (by kernel_rfl) (PP qk)
def Ft(_n:Nat)(L:((List Int)×(Int->Option Bool)×Int×Int×Unit)×(Unit)×Unit->Option (dZ ⊕ gP))(aW:List Int)(gL:Int->Option Bool)(kI:Int)(eP:Int):Option (dZ ⊕ gP):=
  cond (decide (eP<kI)) (qn aW eP λe1=>qa (gL e1) λy2=>cond y2 (some (.inl ((eP,()),(),()))) (L ((aW,gL,kI,(IntKind.wrap .i64 (eP+1)),()),(),()))) (some (.inr ((),(),())))
def mW:Nat->((List Int)×(Int->Option Bool)×Int×Int×Unit)×(Unit)×Unit->Option (dZ ⊕ gP)
  |0,_=>none
  |n+1,d=>Ft n (mW n) d.1.1 d.1.2.1 d.1.2.2.1 d.1.2.2.2.1
def tk:jL:=⟨⟨[(0,.v gu),(1,.v (.fn zI .bool)),(7,.v zI),(8,.v zI)],[],none⟩,[(.ret,⟨[(4,.v zI)],[],none⟩),(.exit 0,⟨[],[],none⟩)],mW⟩
def F69(n:Nat)(aW:(List Int))(gL:(Int->Option Bool)):Option fS:=
  qa (mW n ((aW,gL,(aW.length:Int),0,()),(),())) λo3=>fD o3 (λd4=>some ((d4.1.1,()),())) (λ_=>some (((-1),()),()))
def g69(d:(List Int)×(Int->Option Bool)×Unit):Option fS:=F69 qk d.1 d.2.1
def ξ:qS:=⟨[.v gu,.v (.fn zI .bool)],[.v zI],g69⟩
def c69:jB:=⟨19,bV,[],[],[(2,tk)],[],[],[],[],[],[],[],[],[],none,[],[],[],none,none,[]⟩
theorem Pr(n:Nat)(d):qL c69 n Tryz.f69 (body Tryz.f69) ξ.ps ξ.rs d=F69 n d.1 d.2.1:=by kernel_rfl
theorem Ep(n:Nat)(d):(tk).g (n+1) d=run c69 n (nth 0 (qe (body Tryz.f69))) ((tk).ins.fill d) (qV (tk) n):=by kernel_rfl
theorem aaq:qe (body Tryz.f69)=[nth 0 (qe (body Tryz.f69))]:=by kernel_rfl
theorem h69:qJ Tryz.prog 69 ξ:=hQ (aa:=c69) (qz qB (qq) rfl (by kernel_rfl)) Tryz.func69 (by kernel_rfl) (by rw[aaq];simp only[List.forall_mem_cons];exact⟨qP (key:=2) (li:=tk) (by kernel_rfl) rfl (λ_=>rfl) (Ep),λ_ h=>by cases h⟩) (by kernel_rfl) (Pr qk)
def F46(_n:Nat)(aW:(List Int))(gL:(Int->Option Bool)):Option cr:=
  qa (g69 (aW,gL,())) λy1=>some (((decide (y1.1.1>=0)),()),())
def Lo(d:(List Int)×(Int->Option Bool)×Unit):Option cr:=F46 qk d.1 d.2.1
def RX:qS:=⟨[.v gu,.v (.fn zI .bool)],[.v .bool],Lo⟩
def c46:jB:=⟨9,bV,[],[(69,ξ)],[],[],[],[],[],[],[],[],[],[],none,[],[],[],none,none,[]⟩
theorem PO(n:Nat)(d):qL c46 n Tryz.f46 (body Tryz.f46) RX.ps RX.rs d=F46 n d.1 d.2.1:=by kernel_rfl
theorem h46:qJ Tryz.prog 46 RX:=hQ (aa:=c46) (qz qB (qf h69 qq) rfl (by kernel_rfl)) Tryz.func46 (by kernel_rfl) (qE (by kernel_rfl)) (by kernel_rfl) (PO qk)
def XW(_n:Nat)(L:(dQ×((Int×Int)->Option Bool)×Int×Int×Unit)×(Unit)×Unit->Option (dZ ⊕ gP))(aW:List (Int×Int))(gL:(Int×Int)->Option Bool)(kI:Int)(eP:Int):Option (dZ ⊕ gP):=
  cond (decide (eP<kI)) (qn aW eP λe1=>qa (gL e1) λy2=>cond y2 (some (.inl ((eP,()),(),()))) (L ((aW,gL,kI,(IntKind.wrap .i64 (eP+1)),()),(),()))) (some (.inr ((),(),())))
def Ek:Nat->(dQ×((Int×Int)->Option Bool)×Int×Int×Unit)×(Unit)×Unit->Option (dZ ⊕ gP)
  |0,_=>none
  |n+1,d=>XW n (Ek n) d.1.1 d.1.2.1 d.1.2.2.1 d.1.2.2.2.1
def td:jL:=⟨⟨[(0,.v uy),(1,.v (.fn (.str eS) .bool)),(7,.v zI),(8,.v zI)],[],none⟩,[(.ret,⟨[(4,.v zI)],[],none⟩),(.exit 0,⟨[],[],none⟩)],Ek⟩
def F70(n:Nat)(aW:dQ)(gL:((Int×Int)->Option Bool)):Option fS:=
  qa (Ek n ((aW,gL,(aW.length:Int),0,()),(),())) λo3=>fD o3 (λd4=>some ((d4.1.1,()),())) (λ_=>some (((-1),()),()))
def g70(d:dQ×((Int×Int)->Option Bool)×Unit):Option fS:=F70 qk d.1 d.2.1
def ν:qS:=⟨[.v uy,.v (.fn (.str eS) .bool)],[.v zI],g70⟩
def c70:jB:=⟨19,bV,[],[],[(2,td)],[],[],[],[],[],[],[],[],[],none,[],[],[],none,none,[]⟩
theorem Pq(n:Nat)(d):qL c70 n Tryz.f70 (body Tryz.f70) ν.ps ν.rs d=F70 n d.1 d.2.1:=by kernel_rfl
theorem Ej(n:Nat)(d):(td).g (n+1) d=run c70 n (nth 0 (qe (body Tryz.f70))) ((td).ins.fill d) (qV (td) n):=by kernel_rfl
theorem aap:qe (body Tryz.f70)=[nth 0 (qe (body Tryz.f70))]:=by kernel_rfl
theorem h70:qJ Tryz.prog 70 ν:=hQ (aa:=c70) (qz qB (qq) rfl (by kernel_rfl)) Tryz.func70 (by kernel_rfl) (by rw[aap];simp only[List.forall_mem_cons];exact⟨qP (key:=2) (li:=td) (by kernel_rfl) rfl (λ_=>rfl) (Ej),λ_ h=>by cases h⟩) (by kernel_rfl) (Pq qk)
def F47(_n:Nat)(aW:dQ)(gL:((Int×Int)->Option Bool)):Option cr:=
  qa (g70 (aW,gL,())) λy1=>some (((decide (y1.1.1>=0)),()),())
def g47(d:dQ×((Int×Int)->Option Bool)×Unit):Option cr:=F47 qk d.1 d.2.1
def p47:qS:=⟨[.v uy,.v (.fn (.str eS) .bool)],[.v .bool],g47⟩
def c47:jB:=⟨9,bV,[],[(70,ν)],[],[],[],[],[],[],[],[],[],[],none,[],[],[],none,none,[]⟩
theorem PN(n:Nat)(d):qL c47 n Tryz.f47 (body Tryz.f47) p47.ps p47.rs d=F47 n d.1 d.2.1:=by kernel_rfl
theorem h47:qJ Tryz.prog 47 p47:=hQ (aa:=c47) (qz qB (qf h70 qq) rfl (by kernel_rfl)) Tryz.func47 (by kernel_rfl) (qE (by kernel_rfl)) (by kernel_rfl) (PN qk)
def F48(_n:Nat)(rL:(Int×Int))(t_1:JR):Option cr:=
  qa (zH (rL.1,1,1000,())) λy1=>cond (!y1.1.1) (some ((true,()),())) (qa (zH (rL.2,1,1000000,())) λy2=>cond (!y2.1.1) (some ((true,()),())) (some (((decide ((IntKind.wrap .i64 (t_1.2.2.2.2.2.1*rL.1))>rL.2)),()),())))
def g48(d:(Int×Int)×JR×Unit):Option cr:=F48 qk d.1 d.2.1
def p48:qS:=⟨[.v (.str eS),.r (.str QT)],[.v .bool],g48⟩
def c48:jB:=⟨24,bV,[],[(27,MY)],[],[],[],[],[],[],[],[],[],[],none,[],[],[],none,none,[]⟩
theorem PM(n:Nat)(d):qL c48 n Tryz.f48 (body Tryz.f48) p48.ps p48.rs d=F48 n d.1 d.2.1:=by kernel_rfl
theorem h48:qJ Tryz.prog 48 p48:=hQ (aa:=c48) (qz qB (qf h27 qq) rfl (by kernel_rfl)) Tryz.func48 (by kernel_rfl) (qE (by kernel_rfl)) (by kernel_rfl) (PM qk)
def F26(_n:Nat)(lq:JR):Option fS:=
  qa (zH ((lq.2.2.1.length:Int),1,8,())) λy1=>cond (!y1.1.1) (some ((10,()),())) (cond ((lq.2.2.2.1.length:Int) !=(lq.2.2.1.length:Int)) (some ((10,()),())) (qa (zH (lq.1,0,20,())) λy2=>cond (!y2.1.1) (some ((10,()),())) (qa (zH (lq.2.1,0,12,())) λy3=>cond (!y3.1.1) (some ((10,()),())) (cond (decide ((lq.2.2.2.2.1.length:Int)>6)) (some ((10,()),())) (qa (Mk.m44.p.g (0,100000,())) λy4=>qa (Lo (lq.2.2.1,(λv5=>qa y4.1.1 λq7=>qa y4.1.2.1 λq8=>qa (g45 (v5,q7,q8,())) λy6=>some y6.1.1),())) λy9=>cond y9.1.1 (some ((10,()),())) (qa (Mk.m44.p.g (0,1000000,())) λQJ=>qa (Lo (lq.2.2.2.1,(λv11=>qa QJ.1.1 λRU=>qa QJ.1.2.1 λq14=>qa (g45 (v11,RU,q14,())) λSK=>some SK.1.1),())) λLF=>cond LF.1.1 (some ((10,()),())) (qa (zH (lq.2.2.2.2.2.1,0,1000,())) λSJ=>cond (!SJ.1.1) (some ((10,()),())) (qa (zH (lq.2.2.2.2.2.2.1,0,1000000,())) λFN=>cond (!FN.1.1) (some ((10,()),())) (qa (zH (lq.2.2.2.2.2.2.2,1,1440,())) λSI=>cond (!SI.1.1) (some ((10,()),())) (qa (g47 (lq.2.2.2.2.1,(λv19=>qa (g48 (v19,lq,())) λSH=>some SH.1.1),())) λy21=>cond y21.1.1 (some ((10,()),())) (some ((0,()),()))))))))))))
def g26(d:JR×Unit):Option fS:=F26 qk d.1
def p26:qS:=⟨[.v (.str QT)],[.v zI],g26⟩
def c26:jB:=⟨78,bV,[(1,.str QT)],[(27,MY),(45,p45),(46,RX),(47,p47),(48,p48)],[],[],[3],[],[],[(44,Mk.m44)],[],[],[],[],none,[],[],[],none,none,[]⟩
theorem Qi(n:Nat)(d):qL c26 n Tryz.f26 (body Tryz.f26) p26.ps p26.rs d=F26 n d.1:=by kernel_rfl
theorem d26:qs c26 (body Tryz.f26)=true:=by kernel_rfl
theorem h26:qJ Tryz.prog 26 p26:=hQ (aa:=c26) (qz qB (qf h27 (qf h45 (qf h46 (qf h47 (qf h48 qq))))) rfl (by kernel_rfl) (TE (TU Mk.k44 TD))) Tryz.func26 (by kernel_rfl) (qE (by kernel_rfl)) d26 (Qi qk)
def XN(_n:Nat)(nx:Int)(LD:Int):Option JP:=
  p_ 32 (p_ 32 (sF (IntKind.wrap .u64 ((FV .and .u64 nx 4294967295)*(FV .and .u64 LD 4294967295))) λz1=>p_ 32 (sF (IntKind.wrap .u64 ((IntKind.wrap .u64 ((pO .u64 nx 32)*(FV .and .u64 LD 4294967295)))+(pO .u64 z1 32))) λz2=>p_ 32 (sF (IntKind.wrap .u64 ((FV .and .u64 z2 4294967295)+(IntKind.wrap .u64 ((FV .and .u64 nx 4294967295)*(pO .u64 LD 32))))) λz3=>p_ 32 (sF (IntKind.wrap .u64 ((IntKind.wrap .u64 ((IntKind.wrap .u64 ((pO .u64 nx 32)*(pO .u64 LD 32)))+(pO .u64 z2 32)))+(pO .u64 z3 32))) λz4=>some ((z4,(IntKind.wrap .u64 (nx*LD)),()),()))))))
def WQ(d:Int×Int×Unit):Option JP:=XN qk d.1 d.2.1
def HL:qS:=⟨[.v (.int .u64),.v (.int .u64)],[.v (.int .u64),.v (.int .u64)],WQ⟩
def Xp:jB:=⟨51,bV,[],[],[],[],[],[],[],[],[],[],[],[],none,[],[],[],none,none,[]⟩
theorem JI(n:Nat)(d):qL Xp n Tryz.f112 (body Tryz.f112) HL.ps HL.rs d=XN n d.1 d.2.1:=by kernel_rfl
theorem abI:qJ Tryz.prog 112 HL:=hQ (aa:=Xp) (qz qB (qq) rfl (by kernel_rfl)) Tryz.func112 (by kernel_rfl) (qE (by kernel_rfl)) (by kernel_rfl) (JI qk)
def F92(_n:Nat)(nx:Int)(LD:Int):Option JP:=
  qa (WQ (nx,LD,())) λy1=>some ((y1.1.1,y1.1.2.1,()),())
def g92(d:Int×Int×Unit):Option JP:=F92 qk d.1 d.2.1
def ZT:qS:=⟨[.v (.int .u64),.v (.int .u64)],[.v (.int .u64),.v (.int .u64)],g92⟩
def c92:jB:=⟨30,bV,[],[(112,HL)],[],[],[],[],[],[],[],[],[],[],none,[],[],[],none,none,[]⟩
theorem Pa(n:Nat)(d):qL c92 n Tryz.f92 (body Tryz.f92) ZT.ps ZT.rs d=F92 n d.1 d.2.1:=by kernel_rfl
theorem h92:qJ Tryz.prog 92 ZT:=hQ (aa:=c92) (qz qB (qf abI qq) rfl (by kernel_rfl)) Tryz.func92 (by kernel_rfl) (qE (by kernel_rfl)) (by kernel_rfl) (Pa qk)
def Fm(_n:Nat)(L:(Int×Unit)×sy×Unit->Option (nH))(wG:Int)(fJ:List Int):Option (nH):=
  cond (decide (wG<(fJ.length:Int))) (vg (L (((IntKind.wrap .i64 (wG+((min (fJ.take wG.toNat).length (fJ.length-wG.toNat):Nat):Int))),()),((sH fJ (fJ.take wG.toNat) wG.toNat),()),())) λE=>qv [bO 0 wG (bO wG (fJ.length:Int) (bO 0 wG (bO wG (fJ.length:Int) (E)))),bO 0 wG (bO wG (fJ.length:Int) (bO 0 wG (bO wG (fJ.length:Int) (E))))]) (some ((),(fJ,()),()))
def uo:Nat->(Int×Unit)×sy×Unit->Option (nH)
  |0,_=>none
  |n+1,d=>Fm n (uo n) d.1.1 d.2.1.1
def tc:jL:=⟨⟨[(7,.c (.view 30 [])),(8,.v zI)],[(30,true,.list true 3 zI)],none⟩,[(.exit 0,⟨[(7,.c (.view 30 []))],[(30,true,.list true 3 zI)],none⟩)],uo⟩
def F71(n:Nat)(nx:(List Int))(xe:Int):Option zY:=
  cond (decide (xe<0)) (none) (qa (g92 ((IntKind.wrap .u64 (nx.length:Int)),(IntKind.wrap .u64 xe),())) λy1=>cond (decide (y1.1.1>0)) (none) (cond (decide (y1.1.2.1>9223372036854775807)) (none) (bO 0 (IntKind.wrap .i64 y1.1.2.1) (bO (IntKind.wrap .i64 y1.1.2.1) (IntKind.wrap .i64 y1.1.2.1) (qo (IntKind.wrap .i64 y1.1.2.1) (sF ((min nx.length ((List.replicate (IntKind.wrap .i64 y1.1.2.1).toNat (0:Int)).length-(0:Int).toNat):Nat):Int) λz2=>qa (uo n ((z2,()),((sH (List.replicate (IntKind.wrap .i64 y1.1.2.1).toNat (0:Int)) nx (0:Int).toNat),()),())) λo3=>some ((o3.2.1.1,()),())))))))
def WH(d:(List Int)×Int×Unit):Option zY:=F71 qk d.1 d.2.1
def κ:qS:=⟨[.v gu,.v zI],[.own 3 zI],WH⟩
def c71:jB:=⟨48,bV,[],[(92,ZT)],[(8,tc)],[],[9],[],[],[],[],[],[],[],none,[],[],[],none,none,[]⟩
theorem Pp(n:Nat)(d):qL c71 n Tryz.f71 (body Tryz.f71) κ.ps κ.rs d=F71 n d.1 d.2.1:=by kernel_rfl
theorem Ei(n:Nat)(d):(tc).g (n+1) d=run c71 n (nth 0 (qe (body Tryz.f71))) ((tc).ins.fill d) (qV (tc) n):=by kernel_rfl
theorem aao:qe (body Tryz.f71)=[nth 0 (qe (body Tryz.f71))]:=by kernel_rfl
theorem h71:qJ Tryz.prog 71 κ:=hQ (aa:=c71) (qz qB (qf h92 qq) rfl (by kernel_rfl)) Tryz.func71 (by kernel_rfl) (by rw[aao];simp only[List.forall_mem_cons];exact⟨qP (key:=8) (li:=tc) (by kernel_rfl) rfl (λ_=>rfl) (Ei),λ_ h=>by cases h⟩) (by kernel_rfl) (Pp qk)
def Fx(_n:Nat)(L:(dQ×Int×Int×Int×Int×Unit)×xD×Unit->Option QS)(bJ:List (Int×Int))(n_1:Int)(cV:Int)(iP:Int)(Al:Int)(aZ:List (List Int)):Option QS:=
  cond (decide (Al<iP)) (qa (WH ([1152921504606846976],(IntKind.wrap .i64 (cV+1)),())) λy1=>bx Al aZ.length (qn aZ Al λ_=>L ((bJ,n_1,cV,iP,(IntKind.wrap .i64 (Al+1)),()),((aZ.set Al.toNat y1.1.1),()),()))) (some ((bJ,n_1,cV,()),(aZ,()),()))
def jh:Nat->(dQ×Int×Int×Int×Int×Unit)×xD×Unit->Option QS
  |0,_=>none
  |n+1,d=>Fx n (jh n) d.1.1 d.1.2.1 d.1.2.2.1 d.1.2.2.2.1 d.1.2.2.2.2.1 d.2.1.1
def tw:jL:=⟨⟨[(0,.v uy),(1,.v zI),(6,.v zI),(7,.c (.view 22 [])),(24,.v zI),(25,.v zI)],[(22,true,.list true 38 pI)],none⟩,[(.exit 0,⟨[(0,.v uy),(1,.v zI),(6,.v zI),(7,.c (.view 22 []))],[(22,true,.list true 38 pI)],none⟩)],jh⟩
def nw(_n:Nat)(L:(dQ×Int×Int×Int×Int×Int×Unit)×xD×Unit->Option ((LS×xD×Unit)))(bJ:List (Int×Int))(n_1:Int)(cV:Int)(er:Int)(lE:Int)(cw:Int)(aZ:List (List Int)):Option ((LS×xD×Unit)):=
  cond (decide (cw<lE)) (bx er aZ.length (bx (IntKind.wrap .i64 (er+1)) aZ.length (qn aZ (IntKind.wrap .i64 (er+1)) λe8=>bx cw e8.length (qn aZ (IntKind.wrap .i64 (er+1)) λe9=>qn e9 cw λoe=>qn aZ er λOM=>bx cw OM.length (qn aZ er λsn=>qn sn cw λ_=>qn bJ er λzJ=>cond (decide ((IntKind.wrap .i64 (cw-zJ.1))>=0)) (bx er (aZ.set er.toNat (sn.set cw.toNat oe)).length (qn (aZ.set er.toNat (sn.set cw.toNat oe)) er λe15=>bx (IntKind.wrap .i64 (cw-zJ.1)) e15.length (qn (aZ.set er.toNat (sn.set cw.toNat oe)) er λDh=>qn Dh (IntKind.wrap .i64 (cw-zJ.1)) λe17=>cond (decide (e17<1152921504606846976)) (bx er (aZ.set er.toNat (sn.set cw.toNat oe)).length (bx er (aZ.set er.toNat (sn.set cw.toNat oe)).length (qn (aZ.set er.toNat (sn.set cw.toNat oe)) er λe18=>bx cw e18.length (qn (aZ.set er.toNat (sn.set cw.toNat oe)) er λOK=>qn OK cw λe20=>bx er (aZ.set er.toNat (sn.set cw.toNat oe)).length (qn (aZ.set er.toNat (sn.set cw.toNat oe)) er λe21=>bx (IntKind.wrap .i64 (cw-zJ.1)) e21.length (qn (aZ.set er.toNat (sn.set cw.toNat oe)) er λDg=>qn Dg (IntKind.wrap .i64 (cw-zJ.1)) λWZ=>qn bJ er λe24=>qn (aZ.set er.toNat (sn.set cw.toNat oe)) er λe25=>bx cw e25.length (qn (aZ.set er.toNat (sn.set cw.toNat oe)) er λLs=>qn Ls cw λ_=>sF ((aZ.set er.toNat (sn.set cw.toNat oe)).set er.toNat (Ls.set cw.toNat (min e20 (IntKind.wrap .i64 (WZ+e24.2))))) λz28=>L ((bJ,n_1,cV,er,lE,(IntKind.wrap .i64 (cw+1)),()),(z28,()),())))))))) (L ((bJ,n_1,cV,er,lE,(IntKind.wrap .i64 (cw+1)),()),((aZ.set er.toNat (sn.set cw.toNat oe)),()),()))))) (L ((bJ,n_1,cV,er,lE,(IntKind.wrap .i64 (cw+1)),()),((aZ.set er.toNat (sn.set cw.toNat oe)),()),()))))))) (some ((bJ,n_1,cV,er,()),(aZ,()),()))
def ek:Nat->(dQ×Int×Int×Int×Int×Int×Unit)×xD×Unit->Option ((LS×xD×Unit))
  |0,_=>none
  |n+1,d=>nw n (ek n) d.1.1 d.1.2.1 d.1.2.2.1 d.1.2.2.2.1 d.1.2.2.2.2.1 d.1.2.2.2.2.2.1 d.2.1.1
def lZ:jL:=⟨⟨[(0,.v uy),(1,.v zI),(6,.v zI),(7,.c (.view 22 [])),(9,.v zI),(53,.v zI),(54,.v zI)],[(22,true,.list true 38 pI)],none⟩,[(.exit 4,⟨[(0,.v uy),(1,.v zI),(6,.v zI),(7,.c (.view 22 [])),(9,.v zI)],[(22,true,.list true 38 pI)],none⟩)],ek⟩
def vW(n:Nat)(L:LS×xD×Unit->Option QS)(bJ:List (Int×Int))(n_1:Int)(cV:Int)(er:Int)(aZ:List (List Int)):Option QS:=
  cond (decide (er>=0)) (bx er aZ.length (qn aZ er λe7=>qa (ek n ((bJ,n_1,cV,er,(e7.length:Int),0,()),(aZ,()),())) λUY=>L ((UY.1.1,UY.1.2.1,UY.1.2.2.1,(IntKind.wrap .i64 (UY.1.2.2.2.1-1)),()),(UY.2.1.1,()),()))) (some ((bJ,n_1,cV,()),(aZ,()),()))
def fQ:Nat->LS×xD×Unit->Option QS
  |0,_=>none
  |n+1,d=>vW n (fQ n) d.1.1 d.1.2.1 d.1.2.2.1 d.1.2.2.2.1 d.2.1.1
def l_:jL:=⟨⟨[(0,.v uy),(1,.v zI),(6,.v zI),(7,.c (.view 22 [])),(9,.v zI)],[(22,true,.list true 38 pI)],none⟩,[(.exit 2,⟨[(0,.v uy),(1,.v zI),(6,.v zI),(7,.c (.view 22 []))],[(22,true,.list true 38 pI)],none⟩)],fQ⟩
def vV(_n:Nat)(L:LS×xD×Unit->Option uCv)(bJ:List (Int×Int))(cV:Int)(aP:Int)(pK:Int)(aZ:List (List Int)):Option uCv:=
  cond (decide (pK<=cV)) (bx 0 aZ.length (qn aZ 0 λWY=>bx pK WY.length (qn aZ 0 λe32=>qn e32 pK λe33=>bx 0 aZ.length (qn aZ 0 λe34=>bx aP e34.length (qn aZ 0 λWX=>qn WX aP λe36=>cond (decide (e33<e36)) (L ((bJ,cV,pK,(IntKind.wrap .i64 (pK+1)),()),(aZ,()),())) (L ((bJ,cV,aP,(IntKind.wrap .i64 (pK+1)),()),(aZ,()),()))))))) (some ((bJ,aP,()),(aZ,()),()))
def iF:Nat->LS×xD×Unit->Option uCv
  |0,_=>none
  |n+1,d=>vV n (iF n) d.1.1 d.1.2.1 d.1.2.2.1 d.1.2.2.2.1 d.2.1.1
def lY:jL:=⟨⟨[(0,.v uy),(6,.v zI),(7,.c (.view 22 [])),(12,.v zI),(13,.v zI)],[(22,true,.list true 38 pI)],none⟩,[(.exit 6,⟨[(0,.v uy),(7,.c (.view 22 [])),(12,.v zI)],[(22,true,.list true 38 pI)],none⟩)],iF⟩
def QF(_n:Nat)(L:(Int×Int×Int×Int×dQ×Int×Int×Unit)×((Int×Int)×(List (List Int))×(List Int)×Unit)×Unit->Option uBl)(fH:Int)(aP:Int)(iA:Int)(Iq:Int)(lH:List (Int×Int))(lG:Int)(fT:Int)(nT:Int×Int)(aZ:List (List Int))(ca:List Int):Option uBl:=
  cond (decide (aP>=nT.1)) (bx iA aZ.length (qn aZ iA λe45=>bx (IntKind.wrap .i64 (aP-nT.1)) e45.length (qn aZ iA λe46=>qn e46 (IntKind.wrap .i64 (aP-nT.1)) λe47=>cond (decide (e47<1152921504606846976)) (bx iA aZ.length (qn aZ iA λe48=>bx (IntKind.wrap .i64 (aP-nT.1)) e48.length (qn aZ iA λe49=>qn e49 (IntKind.wrap .i64 (aP-nT.1)) λe50=>cond ((IntKind.wrap .i64 (e50+nT.2))==Iq) (bx iA ca.length (qn ca iA λe51=>bx iA ca.length (qn ca iA λ_=>bx iA aZ.length (qn aZ iA λe53=>bx (IntKind.wrap .i64 (aP-nT.1)) e53.length (qn aZ iA λe54=>qn e54 (IntKind.wrap .i64 (aP-nT.1)) λe55=>L ((fH,(IntKind.wrap .i64 (aP-nT.1)),iA,e55,lH,lG,fT,()),(nT,aZ,(ca.set iA.toNat (IntKind.wrap .i64 (e51+1))),()),())))))) (some ((fH,aP,lH,lG,fT,()),(aZ,ca,()),()))))) (some ((fH,aP,lH,lG,fT,()),(aZ,ca,()),()))))) (some ((fH,aP,lH,lG,fT,()),(aZ,ca,()),()))
def vS:Nat->(Int×Int×Int×Int×dQ×Int×Int×Unit)×((Int×Int)×(List (List Int))×(List Int)×Unit)×Unit->Option uBl
  |0,_=>none
  |n+1,d=>QF n (vS n) d.1.1 d.1.2.1 d.1.2.2.1 d.1.2.2.2.1 d.1.2.2.2.2.1 d.1.2.2.2.2.2.1 d.1.2.2.2.2.2.2.1 d.2.1.1 d.2.1.2.1 d.2.1.2.2.1
def lW:jL:=⟨⟨[(4,.c (.view 4000149 [])),(5,.v zI),(7,.c (.view 22 [])),(12,.v zI),(14,.v zI),(15,.c (.ptr 15 [])),(16,.v zI),(150,.v uy),(151,.v zI),(152,.v zI)],[(15,false,.str eS),(22,true,.list true 38 pI),(4000149,true,.list true 3 zI)],none⟩,[(.exit 10,⟨[(4,.c (.view 4000149 [])),(5,.v zI),(7,.c (.view 22 [])),(12,.v zI),(150,.v uy),(151,.v zI),(152,.v zI)],[(22,true,.list true 38 pI),(4000149,true,.list true 3 zI)],none⟩)],vS⟩
def QG(n:Nat)(L:uCq×uCr×Unit->Option (((Int×Unit)×sy×Unit)))(fH:Int)(aP:Int)(lH:List (Int×Int))(lG:Int)(fT:Int)(aZ:List (List Int))(ca:List Int):Option (((Int×Unit)×sy×Unit)):=
  cond (decide (fT<lG)) (qn lH fT λe41=>bx fT aZ.length (qn aZ fT λe42=>bx aP e42.length (qn aZ fT λe43=>qn e43 aP λe44=>qa (vS n ((fH,aP,fT,e44,lH,lG,fT,()),(e41,aZ,ca,()),())) λNj=>L ((Nj.1.1,Nj.1.2.1,Nj.1.2.2.1,Nj.1.2.2.2.1,(IntKind.wrap .i64 (Nj.1.2.2.2.2.1+1)),()),(Nj.2.1.1,Nj.2.1.2.1,()),())))) (some ((fH,()),(ca,()),()))
def mY:Nat->uCq×uCr×Unit->Option (((Int×Unit)×sy×Unit))
  |0,_=>none
  |n+1,d=>QG n (mY n) d.1.1 d.1.2.1 d.1.2.2.1 d.1.2.2.2.1 d.1.2.2.2.2.1 d.2.1.1 d.2.1.2.1
def lX:jL:=⟨⟨[(4,.c (.view 4000149 [])),(5,.v zI),(7,.c (.view 22 [])),(12,.v zI),(150,.v uy),(151,.v zI),(152,.v zI)],[(22,true,.list true 38 pI),(4000149,true,.list true 3 zI)],none⟩,[(.exit 8,⟨[(4,.c (.view 4000149 [])),(5,.v zI)],[(4000149,true,.list true 3 zI)],none⟩)],mY⟩
def F49(n:Nat)(bJ:dQ)(n_1:Int):Option QR:=
  bO 0 (IntKind.wrap .i64 ((bJ.length:Int)+1)) (bO (IntKind.wrap .i64 ((bJ.length:Int)+1)) (IntKind.wrap .i64 ((bJ.length:Int)+1)) (qo (IntKind.wrap .i64 ((bJ.length:Int)+1)) (qa (jh n ((bJ,n_1,(IntKind.wrap .i64 (n_1+1000)),((List.replicate (IntKind.wrap .i64 ((bJ.length:Int)+1)).toNat ([]:List Int)).length:Int),0,()),((List.replicate (IntKind.wrap .i64 ((bJ.length:Int)+1)).toNat ([]:List Int)),()),())) λo3=>bx (o3.1.1.length:Int) o3.2.1.1.length (qn o3.2.1.1 (o3.1.1.length:Int) λe4=>bx 0 e4.length (qn o3.2.1.1 (o3.1.1.length:Int) λe5=>qn e5 0 λ_=>qa (fQ n ((o3.1.1,o3.1.2.1,o3.1.2.2.1,(IntKind.wrap .i64 ((o3.1.1.length:Int)-1)),()),((o3.2.1.1.set (o3.1.1.length:Int).toNat (e5.set (0:Int).toNat 0)),()),())) λUX=>qa (iF n ((UX.1.1,UX.1.2.2.1,UX.1.2.1,UX.1.2.1,()),(UX.2.1.1,()),())) λwE=>bx 0 wE.2.1.1.length (qn wE.2.1.1 0 λe38=>bx wE.1.2.1 e38.length (qn wE.2.1.1 0 λe39=>qn e39 wE.1.2.1 λSD=>cond (SD==1152921504606846976) (none) (bO 0 (wE.1.1.length:Int) (bO (wE.1.1.length:Int) (wE.1.1.length:Int) (qo (wE.1.1.length:Int) (qa (mY n ((SD,wE.1.2.1,wE.1.1,(wE.1.1.length:Int),0,()),(wE.2.1.1,(List.replicate (wE.1.1.length:Int).toNat (0:Int)),()),())) λo57=>some ((o57.2.1.1,o57.1.1,()),()))))))))))))
def g49(d:dQ×Int×Unit):Option QR:=F49 qk d.1 d.2.1
def p49:qS:=⟨[.v uy,.v zI],[.sure true 3 zI,.v zI],g49⟩
def Lu:jB:=⟨218,bV,[(22,.list true 38 pI),(4,.bool)],[(71,κ)],[(4,tw),(13,lZ),(10,l_),(22,lY),(34,lW),(31,lX)],[],[1000149],[],[],[],[],[],[],[],none,[],[],[],none,none,[]⟩
theorem PL(n:Nat)(d):qL Lu n Tryz.f49 (body Tryz.f49) p49.ps p49.rs d=F49 n d.1 d.2.1:=by kernel_rfl
theorem EA(n:Nat)(d):(tw).g (n+1) d=run Lu n (nth 0 (qe (body Tryz.f49))) ((tw).ins.fill d) (qV (tw) n):=by kernel_rfl
theorem yP(n:Nat)(d):(l_).g (n+1) d=run Lu n (nth 1 (qe (body Tryz.f49))) ((l_).ins.fill d) (qV (l_) n):=by kernel_rfl
theorem yO(n:Nat)(d):(lZ).g (n+1) d=run Lu n (nth 2 (qe (body Tryz.f49))) ((lZ).ins.fill d) (qV (lZ) n):=by kernel_rfl
theorem yN(n:Nat)(d):(lY).g (n+1) d=run Lu n (nth 3 (qe (body Tryz.f49))) ((lY).ins.fill d) (qV (lY) n):=by kernel_rfl
theorem yM(n:Nat)(d):(lX).g (n+1) d=run Lu n (nth 4 (qe (body Tryz.f49))) ((lX).ins.fill d) (qV (lX) n):=by kernel_rfl
theorem yL(n:Nat)(d):(lW).g (n+1) d=run Lu n (nth 5 (qe (body Tryz.f49))) ((lW).ins.fill d) (qV (lW) n):=by kernel_rfl
theorem aaw:qe (body Tryz.f49)=[nth 0 (qe (body Tryz.f49)),nth 1 (qe (body Tryz.f49)),nth 2 (qe (body Tryz.f49)),nth 3 (qe (body Tryz.f49)),nth 4 (qe (body Tryz.f49)),nth 5 (qe (body Tryz.f49))]:=by kernel_rfl
theorem h49:qJ Tryz.prog 49 p49:=hQ (aa:=Lu) (qz qB (qf h71 qq) rfl (by kernel_rfl)) Tryz.func49 (by kernel_rfl) (by rw[aaw];simp only[List.forall_mem_cons];exact⟨qP (key:=4) (li:=tw) (by kernel_rfl) rfl (λ_=>rfl) (EA),qP (key:=10) (li:=l_) (by kernel_rfl) rfl (λ_=>rfl) (yP),qP (key:=13) (li:=lZ) (by kernel_rfl) rfl (λ_=>rfl) (yO),qP (key:=22) (li:=lY) (by kernel_rfl) rfl (λ_=>rfl) (yN),qP (key:=31) (li:=lX) (by kernel_rfl) rfl (λ_=>rfl) (yM),qP (key:=34) (li:=lW) (by kernel_rfl) rfl (λ_=>rfl) (yL),λ_ h=>by cases h⟩) (by kernel_rfl) (PL qk)
def F28(_n:Nat)(lq:JR)(n_1:Int):Option Yp:=
  qa (g49 (lq.2.2.2.2.1,n_1,())) λy1=>some ((y1.1.1,y1.1.2.1,0,()),())
def g28(d:JR×Int×Unit):Option Yp:=F28 qk d.1 d.2.1
def p28:qS:=⟨[.v (.str QT),.v zI],[.own 3 zI,.v zI,.v zI],g28⟩
def c28:jB:=⟨20,bV,[],[(49,p49)],[],[],[],[],[],[],[],[],[],[],none,[],[],[],none,none,[]⟩
theorem Qg(n:Nat)(d):qL c28 n Tryz.f28 (body Tryz.f28) p28.ps p28.rs d=F28 n d.1 d.2.1:=by kernel_rfl
theorem h28:qJ Tryz.prog 28 p28:=hQ (aa:=c28) (qz qB (qf h49 qq) rfl (by kernel_rfl)) Tryz.func28 (by kernel_rfl) (qE (by kernel_rfl)) (by kernel_rfl) (Qg qk)
def F13(_n:Nat)(lq:JR)(n_1:Int):Option Yp:=
  qa (g26 (lq,())) λy1=>cond (y1.1.1 !=0) (some ((([]:List Int),0,y1.1.1,()),())) (qa (zH (n_1,0,1000,())) λy2=>cond (!y2.1.1) (some ((([]:List Int),0,1,()),())) (qa (g28 (lq,n_1,())) λy3=>some ((y3.1.1,y3.1.2.1,y3.1.2.2.1,()),())))
def g13(d:JR×Int×Unit):Option Yp:=F13 qk d.1 d.2.1
def p13:qS:=⟨[.v (.str QT),.v zI],[.own 3 zI,.v zI,.v zI],g13⟩
def c13:jB:=⟨22,bV,[],[(26,p26),(27,MY),(28,p28)],[],[],[],[],[],[],[],[],[],[],none,[],[],[],none,none,[]⟩
theorem Qv(n:Nat)(d):qL c13 n Tryz.f13 (body Tryz.f13) p13.ps p13.rs d=F13 n d.1 d.2.1:=by kernel_rfl
theorem d13:qs c13 (body Tryz.f13)=true:=by kernel_rfl
theorem h13:qJ Tryz.prog 13 p13:=hQ (aa:=c13) (qz qB (qf h26 (qf h27 (qf h28 qq))) rfl (by kernel_rfl)) Tryz.func13 (by kernel_rfl) (qE (by kernel_rfl)) d13 (Qv qk)
def Ya(_n:Nat)(L:((List Int)×(List Int)×Int×Unit)×(Unit)×Unit->Option (rQ ⊕ gP))(sr:List Int)(b_1:List Int)(yc:Int):Option (rQ ⊕ gP):=
  cond (decide (yc<(sr.length:Int))) (qn sr yc λe1=>qn b_1 yc λe2=>cond (e1 !=e2) (some (.inl ((false,()),(),()))) (L ((sr,b_1,(IntKind.wrap .i64 (yc+1)),()),(),()))) (some (.inr ((),(),())))
def EZ:Nat->((List Int)×(List Int)×Int×Unit)×(Unit)×Unit->Option (rQ ⊕ gP)
  |0,_=>none
  |n+1,d=>Ya n (EZ n) d.1.1 d.1.2.1 d.1.2.2.1
def tP:jL:=⟨⟨[(0,.v gu),(1,.v gu),(5,.v zI)],[],none⟩,[(.ret,⟨[(4,.v .bool)],[],none⟩),(.exit 0,⟨[],[],none⟩)],EZ⟩
def F14(n:Nat)(sr:(List Int))(b_1:(List Int)):Option cr:=
  cond ((sr.length:Int) !=(b_1.length:Int)) (some ((false,()),())) (qa (EZ n ((sr,b_1,0,()),(),())) λo3=>fD o3 (λd4=>some ((d4.1.1,()),())) (λ_=>some ((true,()),())))
def g14(d:(List Int)×(List Int)×Unit):Option cr:=F14 qk d.1 d.2.1
def p14:qS:=⟨[.v gu,.v gu],[.v .bool],g14⟩
def c14:jB:=⟨26,bV,[],[],[(4,tP)],[],[],[],[],[],[],[],[],[],none,[],[],[],none,none,[]⟩
theorem Qu(n:Nat)(d):qL c14 n Tryz.f14 (body Tryz.f14) p14.ps p14.rs d=F14 n d.1 d.2.1:=by kernel_rfl
theorem EY(n:Nat)(d):(tP).g (n+1) d=run c14 n (nth 0 (qe (body Tryz.f14))) ((tP).ins.fill d) (qV (tP) n):=by kernel_rfl
theorem aaI:qe (body Tryz.f14)=[nth 0 (qe (body Tryz.f14))]:=by kernel_rfl
theorem h14:qJ Tryz.prog 14 p14:=hQ (aa:=c14) (qz qB (qq) rfl (by kernel_rfl)) Tryz.func14 (by kernel_rfl) (by rw[aaI];simp only[List.forall_mem_cons];exact⟨qP (key:=4) (li:=tP) (by kernel_rfl) rfl (λ_=>rfl) (EY),λ_ h=>by cases h⟩) (by kernel_rfl) (Qu qk)
def F5(_n:Nat):Option cr:=
  sF ((0:Int),(0:Int),[5],[0],[(1,200),(6,1000)],(0:Int),(0:Int),1) λz1=>qa (g13 (z1,7,())) λy2=>cond (y2.1.2.2.1==0) (cond (y2.1.2.1==1200) (qa (g14 (y2.1.1,[1,1],())) λy3=>some ((y3.1.1,()),())) (some ((false,()),()))) (some ((false,()),()))
def g5(_d:Unit):Option cr:=F5 qk 
def p5:qS:=⟨[],[.v .bool],g5⟩
def c5:jB:=⟨28,bV,[],[(13,p13),(14,p14)],[],[],[],[],[],[],[],[],[],[],none,[],[],[],none,none,[]⟩
theorem XI(n:Nat)(d):qL c5 n Tryz.f5 (body Tryz.f5) p5.ps p5.rs d=F5 n:=by kernel_rfl
theorem d5:qs c5 (body Tryz.f5)=true:=by kernel_rfl
theorem h5:qJ Tryz.prog 5 p5:=hQ (aa:=c5) (qz qB (qf h13 (qf h14 qq)) rfl (by kernel_rfl)) Tryz.func5 (by kernel_rfl) (qE (by kernel_rfl)) d5 (XI qk)
def F15(_n:Nat)(nD:Int)(iW:Int)(fK:Int):Option cr:=
  cond (decide (nD>=iW)) (some (((decide (nD<=fK)),()),())) (some ((false,()),()))
def g15(d:Int×Int×Int×Unit):Option cr:=F15 qk d.1 d.2.1 d.2.2.1
def p15:qS:=⟨[.v zI,.v zI,.v zI],[.v .bool],g15⟩
def c15:jB:=⟨15,bV,[],[],[],[],[],[],[],[],[],[],[],[],none,[],[],[],none,none,[]⟩
theorem Qt(n:Nat)(d):qL c15 n Tryz.f15 (body Tryz.f15) p15.ps p15.rs d=F15 n d.1 d.2.1 d.2.2.1:=by kernel_rfl
theorem d15:qs c15 (body Tryz.f15)=true:=by kernel_rfl
theorem h15:qJ Tryz.prog 15 p15:=hQ (aa:=c15) (qz qB (qq) rfl (by kernel_rfl)) Tryz.func15 (by kernel_rfl) (qE (by kernel_rfl)) d15 (Qt qk)
def Fs(_n:Nat)(L:u_×(gr×SS×Unit)×Unit->Option (dZ ⊕ uCt))(KB:Int)(Kz:Int)(gy:ux×xC)(fI:Int×(Int×(Int×(List Int)))):Option (dZ ⊕ uCt):=
  cond (decide (Kz<(fI.2.2.2.length:Int))) (qn fI.2.2.2 Kz λe6=>qa (g15 (e6,0,(IntKind.wrap .i64 ((gy.1.length:Int)-1)),())) λy7=>cond (!y7.1.1) (some (.inl ((80,()),(),()))) (qn fI.2.2.2 Kz λe8=>cond (e8==KB) (some (.inl ((80,()),(),()))) (cond (decide (Kz>0)) (qn fI.2.2.2 Kz λe9=>qn fI.2.2.2 (IntKind.wrap .i64 (Kz-1)) λoe=>cond (decide (e9<=oe)) (some (.inl ((80,()),(),()))) (L ((KB,(IntKind.wrap .i64 (Kz+1)),()),(gy,fI,()),()))) (L ((KB,(IntKind.wrap .i64 (Kz+1)),()),(gy,fI,()),()))))) (some (.inr ((KB,()),(gy,()),())))
def mV:Nat->u_×(gr×SS×Unit)×Unit->Option (dZ ⊕ uCt)
  |0,_=>none
  |n+1,d=>Fs n (mV n) d.1.1 d.1.2.1 d.2.1.1 d.2.1.2.1
def tj:jL:=⟨⟨[(1,.c (.ptr 1 [])),(3,.v zI),(4,.c (.ptr 4 [])),(5,.v zI)],[(1,false,.str gR),(4,false,.str Yr)],none⟩,[(.ret,⟨[(2,.v zI)],[],none⟩),(.exit 2,⟨[(1,.c (.ptr 1 [])),(3,.v zI)],[(1,false,.str gR)],none⟩)],mV⟩
def QD(n:Nat)(L:(Int×Unit)×(gr×Unit)×Unit->Option (dZ ⊕ QO))(KB:Int)(gy:ux×xC):Option (dZ ⊕ QO):=
  cond (decide (KB<(gy.1.length:Int))) (qn gy.1 KB λe2=>qa (g15 (e2.1,1,1000000,())) λy3=>cond (!y3.1.1) (some (.inl ((80,()),(),()))) (qa (g15 (e2.2.1,1,100,())) λy4=>cond (!y4.1.1) (some (.inl ((80,()),(),()))) (qa (g15 (e2.2.2.1,0,9,())) λy5=>cond (!y5.1.1) (some (.inl ((80,()),(),()))) (qa (mV n ((KB,0,()),(gy,e2,()),())) λo11=>fD o11 (λd12=>some (.inl ((d12.1.1,()),(),()))) (λd13=>L (((IntKind.wrap .i64 (d13.1.1+1)),()),(d13.2.1.1,()),())))))) (some (.inr ((),(gy,()),())))
def vQ:Nat->(Int×Unit)×(gr×Unit)×Unit->Option (dZ ⊕ QO)
  |0,_=>none
  |n+1,d=>QD n (vQ n) d.1.1 d.2.1.1
def BV:jL:=⟨⟨[(1,.c (.ptr 1 [])),(3,.v zI)],[(1,false,.str gR)],none⟩,[(.ret,⟨[(2,.v zI)],[],none⟩),(.exit 0,⟨[(1,.c (.ptr 1 []))],[(1,false,.str gR)],none⟩)],vQ⟩
def Fp(_n:Nat)(L:u_×LP×Unit->Option (dZ ⊕ ((Int×Unit)×LP×Unit)))(JO:Int)(i_8:Int)(gy:ux×xC)(eY:List Int):Option (dZ ⊕ ((Int×Unit)×LP×Unit)):=
  qn gy.2.2 JO λe17=>cond (decide (i_8<(e17.length:Int))) (qn gy.2.2 JO λe18=>qn e18 i_8 λOK=>qa (g15 (OK,0,(IntKind.wrap .i64 ((gy.1.length:Int)-1)),())) λSH=>cond (!SH.1.1) (some (.inl ((80,()),(),()))) (qn gy.2.2 JO λe21=>qn e21 i_8 λDg=>bx Dg eY.length (qn eY Dg λWZ=>bx Dg eY.length (qn eY Dg λ_=>L ((JO,(IntKind.wrap .i64 (i_8+1)),()),(gy,(eY.set Dg.toNat (IntKind.wrap .i64 (WZ+1))),()),()))))) (some (.inr ((JO,()),(gy,eY,()),())))
def je:Nat->u_×LP×Unit->Option (dZ ⊕ ((Int×Unit)×LP×Unit))
  |0,_=>none
  |n+1,d=>Fp n (je n) d.1.1 d.1.2.1 d.2.1.1 d.2.1.2.1
def tg:jL:=⟨⟨[(1,.c (.ptr 1 [])),(6,.c (.view 102 [])),(7,.v zI),(8,.v zI)],[(1,false,.str gR),(102,true,.list true 3 zI)],none⟩,[(.ret,⟨[(2,.v zI)],[],none⟩),(.exit 6,⟨[(1,.c (.ptr 1 [])),(6,.c (.view 102 [])),(7,.v zI)],[(1,false,.str gR),(102,true,.list true 3 zI)],none⟩)],je⟩
def Fq(n:Nat)(L:(Int×Unit)×LP×Unit->Option (dZ ⊕ nH))(JO:Int)(gy:ux×xC)(eY:List Int):Option (dZ ⊕ nH):=
  cond (decide (JO<(gy.2.2.length:Int))) (qa (je n ((JO,0,()),(gy,eY,()),())) λo25=>fD o25 (λd26=>some (.inl ((d26.1.1,()),(),()))) (λd27=>L (((IntKind.wrap .i64 (d27.1.1+1)),()),(d27.2.1.1,d27.2.1.2.1,()),()))) (some (.inr ((),(eY,()),())))
def jf:Nat->(Int×Unit)×LP×Unit->Option (dZ ⊕ nH)
  |0,_=>none
  |n+1,d=>Fq n (jf n) d.1.1 d.2.1.1 d.2.1.2.1
def th:jL:=⟨⟨[(1,.c (.ptr 1 [])),(6,.c (.view 102 [])),(7,.v zI)],[(1,false,.str gR),(102,true,.list true 3 zI)],none⟩,[(.ret,⟨[(2,.v zI)],[],none⟩),(.exit 4,⟨[(6,.c (.view 102 []))],[(102,true,.list true 3 zI)],none⟩)],jf⟩
def Fo(_n:Nat)(L:(Int×Unit)×sy×Unit->Option (dZ ⊕ gP))(er:Int)(eY:List Int):Option (dZ ⊕ gP):=
  cond (decide (er<(eY.length:Int))) (bx er eY.length (qn eY er λWY=>cond (WY !=1) (some (.inl ((80,()),(),()))) (L (((IntKind.wrap .i64 (er+1)),()),(eY,()),())))) (some (.inr ((),(),())))
def mU:Nat->(Int×Unit)×sy×Unit->Option (dZ ⊕ gP)
  |0,_=>none
  |n+1,d=>Fo n (mU n) d.1.1 d.2.1.1
def tf:jL:=⟨⟨[(6,.c (.view 102 [])),(9,.v zI)],[(102,true,.list true 3 zI)],none⟩,[(.ret,⟨[(2,.v zI)],[],none⟩),(.exit 8,⟨[],[],none⟩)],mU⟩
def F6(n:Nat)(bW:gr):Option fS:=
  cond (decide ((bW.1.length:Int)>16)) (some ((80,()),())) (cond (decide ((bW.2.2.length:Int)>6)) (some ((80,()),())) (qa (g15 (bW.2.1,1,1000000,())) λy1=>cond (!y1.1.1) (some ((80,()),())) (qa (vQ n ((0,()),(bW,()),())) λNk=>fD Nk (λd15=>some ((d15.1.1,()),())) (λd16=>bO 0 (d16.2.1.1.1.length:Int) (bO (d16.2.1.1.1.length:Int) (d16.2.1.1.1.length:Int) (qo (d16.2.1.1.1.length:Int) (qa (jf n ((0,()),(d16.2.1.1,(List.replicate (d16.2.1.1.1.length:Int).toNat (0:Int)),()),())) λo28=>fD o28 (λd29=>some ((d29.1.1,()),())) (λd30=>qa (mU n ((0,()),(d30.2.1.1,()),())) λo32=>fD o32 (λd33=>some ((d33.1.1,()),())) (λ_=>some ((0,()),()))))))))))
def g6(d:gr×Unit):Option fS:=F6 qk d.1
def p6:qS:=⟨[.v (.str gR)],[.v zI],g6⟩
def c6:jB:=⟨158,bV,[],[(15,p15)],[(10,tj),(4,BV),(19,tg),(16,th),(25,tf)],[],[],[],[],[],[],[],[],[],none,[],[],[],none,none,[]⟩
theorem XH(n:Nat)(d):qL c6 n Tryz.f6 (body Tryz.f6) p6.ps p6.rs d=F6 n d.1:=by kernel_rfl
theorem Jy(n:Nat)(d):(BV).g (n+1) d=run c6 n (nth 0 (qe (body Tryz.f6))) ((BV).ins.fill d) (qV (BV) n):=by kernel_rfl
theorem Eo(n:Nat)(d):(tj).g (n+1) d=run c6 n (nth 1 (qe (body Tryz.f6))) ((tj).ins.fill d) (qV (tj) n):=by kernel_rfl
theorem En(n:Nat)(d):(th).g (n+1) d=run c6 n (nth 2 (qe (body Tryz.f6))) ((th).ins.fill d) (qV (th) n):=by kernel_rfl
theorem Em(n:Nat)(d):(tg).g (n+1) d=run c6 n (nth 3 (qe (body Tryz.f6))) ((tg).ins.fill d) (qV (tg) n):=by kernel_rfl
theorem El(n:Nat)(d):(tf).g (n+1) d=run c6 n (nth 4 (qe (body Tryz.f6))) ((tf).ins.fill d) (qV (tf) n):=by kernel_rfl
theorem ls6:qe (body Tryz.f6)=[nth 0 (qe (body Tryz.f6)),nth 1 (qe (body Tryz.f6)),nth 2 (qe (body Tryz.f6)),nth 3 (qe (body Tryz.f6)),nth 4 (qe (body Tryz.f6))]:=by kernel_rfl
theorem h6:qJ Tryz.prog 6 p6:=hQ (aa:=c6) (qz qB (qf h15 qq) rfl (by kernel_rfl)) Tryz.func6 (by kernel_rfl) (by rw[ls6];simp only[List.forall_mem_cons];exact⟨qP (key:=4) (li:=BV) (by kernel_rfl) rfl (λ_=>rfl) (Jy),qP (key:=10) (li:=tj) (by kernel_rfl) rfl (λ_=>rfl) (Eo),qP (key:=16) (li:=th) (by kernel_rfl) rfl (λ_=>rfl) (En),qP (key:=19) (li:=tg) (by kernel_rfl) rfl (λ_=>rfl) (Em),qP (key:=25) (li:=tf) (by kernel_rfl) rfl (λ_=>rfl) (El),λ_ h=>by cases h⟩) (by kernel_rfl) (XH qk)
def F30(_n:Nat)(nD:Int)(iW:Int)(fK:Int):Option cr:=
  cond (decide (nD>=iW)) (some (((decide (nD<=fK)),()),())) (some ((false,()),()))
def wY(d:Int×Int×Int×Unit):Option cr:=F30 qk d.1 d.2.1 d.2.2.1
def Kx:qS:=⟨[.v zI,.v zI,.v zI],[.v .bool],wY⟩
def c30:jB:=⟨15,bV,[],[],[],[],[],[],[],[],[],[],[],[],none,[],[],[],none,none,[]⟩
theorem Qe(n:Nat)(d):qL c30 n Tryz.f30 (body Tryz.f30) Kx.ps Kx.rs d=F30 n d.1 d.2.1 d.2.2.1:=by kernel_rfl
theorem d30:qs c30 (body Tryz.f30)=true:=by kernel_rfl
theorem WC:qJ Tryz.prog 30 Kx:=hQ (aa:=c30) (qz qB (qq) rfl (by kernel_rfl)) Tryz.func30 (by kernel_rfl) (qE (by kernel_rfl)) d30 (Qe qk)
def F52(_n:Nat)(gj:f_)(n_1:Int):Option cr:=
  qa (wY (n_1,0,(IntKind.wrap .i64 ((gj.1.length:Int)-1)),())) λy1=>some ((y1.1.1,()),())
def Ow(d:f_×Int×Unit):Option cr:=F52 qk d.1 d.2.1
def RW:qS:=⟨[.v (.str ou),.v zI],[.v .bool],Ow⟩
def c52:jB:=⟨11,bV,[],[(30,Kx)],[],[],[],[],[],[],[],[],[],[],none,[],[],[],none,none,[]⟩
theorem PG(n:Nat)(d):qL c52 n Tryz.f52 (body Tryz.f52) RW.ps RW.rs d=F52 n d.1 d.2.1:=by kernel_rfl
theorem h52:qJ Tryz.prog 52 RW:=hQ (aa:=c52) (qz qB (qf WC qq) rfl (by kernel_rfl)) Tryz.func52 (by kernel_rfl) (qE (by kernel_rfl)) (by kernel_rfl) (PG qk)
def F72(_n:Nat)(AL:bM)(t_1:f_):Option cr:=
  qa (Ow (t_1,AL.1,())) λy1=>cond (!y1.1.1) (some ((true,()),())) (qa (Ow (t_1,AL.2.1,())) λy2=>cond (!y2.1.1) (some ((true,()),())) (cond (AL.1==AL.2.1) (some ((true,()),())) (qa (wY (AL.2.2.1,1,500,())) λy3=>cond (!y3.1.1) (some ((true,()),())) (qa (wY (AL.2.2.2.1,0,1000,())) λy4=>cond (!y4.1.1) (some ((true,()),())) (qa (wY (AL.2.2.2.2,0,1000,())) λy5=>some (((!y5.1.1),()),()))))))
def WG(d:bM×f_×Unit):Option cr:=F72 qk d.1 d.2.1
def θ:qS:=⟨[.v (.str iJ),.r (.str ou)],[.v .bool],WG⟩
def c72:jB:=⟨41,bV,[],[(30,Kx),(52,RW)],[],[],[],[],[],[],[],[],[],[],none,[],[],[],none,none,[]⟩
theorem Po(n:Nat)(d):qL c72 n Tryz.f72 (body Tryz.f72) θ.ps θ.rs d=F72 n d.1 d.2.1:=by kernel_rfl
theorem h72:qJ Tryz.prog 72 θ:=hQ (aa:=c72) (qz qB (qf WC (qf h52 qq)) rfl (by kernel_rfl)) Tryz.func72 (by kernel_rfl) (qE (by kernel_rfl)) (by kernel_rfl) (Po qk)
def Fl(_n:Nat)(L:((List bM)×(bM->Option Bool)×Int×Int×Unit)×(Unit)×Unit->Option (dZ ⊕ gP))(aW:List bM)(gL:bM->Option Bool)(kI:Int)(eP:Int):Option (dZ ⊕ gP):=
  cond (decide (eP<kI)) (qn aW eP λe1=>qa (gL e1) λy2=>cond y2 (some (.inl ((eP,()),(),()))) (L ((aW,gL,kI,(IntKind.wrap .i64 (eP+1)),()),(),()))) (some (.inr ((),(),())))
def o_:Nat->((List bM)×(bM->Option Bool)×Int×Int×Unit)×(Unit)×Unit->Option (dZ ⊕ gP)
  |0,_=>none
  |n+1,d=>Fl n (o_ n) d.1.1 d.1.2.1 d.1.2.2.1 d.1.2.2.2.1
def s_:jL:=⟨⟨[(0,.v Yk),(1,.v (.fn (.str iJ) .bool)),(7,.v zI),(8,.v zI)],[],none⟩,[(.ret,⟨[(4,.v zI)],[],none⟩),(.exit 0,⟨[],[],none⟩)],o_⟩
def F93(n:Nat)(aW:(List bM))(gL:(bM->Option Bool)):Option fS:=
  qa (o_ n ((aW,gL,(aW.length:Int),0,()),(),())) λo3=>fD o3 (λd4=>some ((d4.1.1,()),())) (λ_=>some (((-1),()),()))
def g93(d:(List bM)×(bM->Option Bool)×Unit):Option fS:=F93 qk d.1 d.2.1
def ZS:qS:=⟨[.v Yk,.v (.fn (.str iJ) .bool)],[.v zI],g93⟩
def c93:jB:=⟨19,bV,[],[],[(2,s_)],[],[],[],[],[],[],[],[],[],none,[],[],[],none,none,[]⟩
theorem O_(n:Nat)(d):qL c93 n Tryz.f93 (body Tryz.f93) ZS.ps ZS.rs d=F93 n d.1 d.2.1:=by kernel_rfl
theorem Ef(n:Nat)(d):(s_).g (n+1) d=run c93 n (nth 0 (qe (body Tryz.f93))) ((s_).ins.fill d) (qV (s_) n):=by kernel_rfl
theorem aam:qe (body Tryz.f93)=[nth 0 (qe (body Tryz.f93))]:=by kernel_rfl
theorem h93:qJ Tryz.prog 93 ZS:=hQ (aa:=c93) (qz qB (qq) rfl (by kernel_rfl)) Tryz.func93 (by kernel_rfl) (by rw[aam];simp only[List.forall_mem_cons];exact⟨qP (key:=2) (li:=s_) (by kernel_rfl) rfl (λ_=>rfl) (Ef),λ_ h=>by cases h⟩) (by kernel_rfl) (O_ qk)
def F73(_n:Nat)(aW:(List bM))(gL:(bM->Option Bool)):Option cr:=
  qa (g93 (aW,gL,())) λy1=>some (((decide (y1.1.1>=0)),()),())
def g73(d:(List bM)×(bM->Option Bool)×Unit):Option cr:=F73 qk d.1 d.2.1
def η:qS:=⟨[.v Yk,.v (.fn (.str iJ) .bool)],[.v .bool],g73⟩
def c73:jB:=⟨9,bV,[],[(93,ZS)],[],[],[],[],[],[],[],[],[],[],none,[],[],[],none,none,[]⟩
theorem Pn(n:Nat)(d):qL c73 n Tryz.f73 (body Tryz.f73) η.ps η.rs d=F73 n d.1 d.2.1:=by kernel_rfl
theorem h73:qJ Tryz.prog 73 η:=hQ (aa:=c73) (qz qB (qf h93 qq) rfl (by kernel_rfl)) Tryz.func73 (by kernel_rfl) (qE (by kernel_rfl)) (by kernel_rfl) (Pn qk)
def F50(_n:Nat)(gj:f_):Option fS:=
  qa (wY ((gj.1.length:Int),1,12,())) λy1=>cond (!y1.1.1) (some ((90,()),())) (cond (decide ((gj.2.length:Int)>30)) (some ((90,()),())) (qa (g73 (gj.2,(λv2=>qa (WG (v2,gj,())) λy3=>some y3.1.1),())) λy4=>cond y4.1.1 (some ((90,()),())) (some ((0,()),()))))
def WJ(d:f_×Unit):Option fS:=F50 qk d.1
def UQ:qS:=⟨[.v (.str ou)],[.v zI],WJ⟩
def c50:jB:=⟨22,bV,[],[(30,Kx),(72,θ),(73,η)],[],[],[],[],[],[],[],[],[],[],none,[],[],[],none,none,[]⟩
theorem PJ(n:Nat)(d):qL c50 n Tryz.f50 (body Tryz.f50) UQ.ps UQ.rs d=F50 n d.1:=by kernel_rfl
theorem h50:qJ Tryz.prog 50 UQ:=hQ (aa:=c50) (qz qB (qf WC (qf h72 (qf h73 qq))) rfl (by kernel_rfl)) Tryz.func50 (by kernel_rfl) (qE (by kernel_rfl)) (by kernel_rfl) (PJ qk)
def Fw(_n:Nat)(L:(nJ×Int×Int×Unit)×(f_×Unit)×Unit->Option (dZ ⊕ gP))(pK:List (Int×bM))(Tg:Int)(LY:Int)(ez:(List Bool)×(List bM)):Option (dZ ⊕ gP):=
  cond (decide (LY<Tg)) (qn pK LY λe2=>qa (wY (e2.1,0,1000,())) λy3=>cond (!y3.1.1) (some (.inl ((91,()),(),()))) (qa (wY (e2.2.1,0,1000,())) λy4=>cond (!y4.1.1) (some (.inl ((91,()),(),()))) (qa (Ow (ez,e2.2.2.1,())) λy5=>cond (!y5.1.1) (some (.inl ((91,()),(),()))) (qa (wY (e2.2.2.2.1,0,2000,())) λy6=>cond (!y6.1.1) (some (.inl ((91,()),(),()))) (qa (wY (e2.2.2.2.2.1,1,500,())) λy7=>cond (!y7.1.1) (some (.inl ((91,()),(),()))) (qa (wY (e2.2.2.2.2.2,1,500,())) λy8=>cond (!y8.1.1) (some (.inl ((91,()),(),()))) (L ((pK,Tg,(IntKind.wrap .i64 (LY+1)),()),(ez,()),())))))))) (some (.inr ((),(),())))
def jg:Nat->(nJ×Int×Int×Unit)×(f_×Unit)×Unit->Option (dZ ⊕ gP)
  |0,_=>none
  |n+1,d=>Fw n (jg n) d.1.1 d.1.2.1 d.1.2.2.1 d.2.1.1
def tv:jL:=⟨⟨[(2,.c (.ptr 2 [])),(13,.v zZ),(14,.v zI),(15,.v zI)],[(2,false,.str ou)],none⟩,[(.ret,⟨[(4,.v zI)],[],none⟩),(.exit 0,⟨[],[],none⟩)],jg⟩
def F51(n:Nat)(gj:f_)(l_1:nJ):Option fS:=
  qa (WJ (gj,())) λy1=>cond (y1.1.1 !=0) (some ((y1.1.1,()),())) (qa (jg n ((l_1,(l_1.length:Int),0,()),(gj,()),())) λo9=>fD o9 (λd10=>some ((d10.1.1,()),())) (λ_=>some ((0,()),())))
def g51(d:f_×nJ×Unit):Option fS:=F51 qk d.1 d.2.1
def p51:qS:=⟨[.v (.str ou),.v zZ],[.v zI],g51⟩
def c51:jB:=⟨55,bV,[],[(30,Kx),(50,UQ),(52,RW)],[(5,tv)],[],[],[],[],[],[],[],[],[],none,[],[],[],none,none,[]⟩
theorem PI(n:Nat)(d):qL c51 n Tryz.f51 (body Tryz.f51) p51.ps p51.rs d=F51 n d.1 d.2.1:=by kernel_rfl
theorem Ez(n:Nat)(d):(tv).g (n+1) d=run c51 n (nth 0 (qe (body Tryz.f51))) ((tv).ins.fill d) (qV (tv) n):=by kernel_rfl
theorem aav:qe (body Tryz.f51)=[nth 0 (qe (body Tryz.f51))]:=by kernel_rfl
theorem h51:qJ Tryz.prog 51 p51:=hQ (aa:=c51) (qz qB (qf WC (qf h50 (qf h52 qq))) rfl (by kernel_rfl)) Tryz.func51 (by kernel_rfl) (by rw[aav];simp only[List.forall_mem_cons];exact⟨qP (key:=5) (li:=tv) (by kernel_rfl) rfl (λ_=>rfl) (Ez),λ_ h=>by cases h⟩) (by kernel_rfl) (PI qk)
def F29(_n:Nat)(gj:f_)(ee:Int)(l_2:nJ):Option fS:=
  qa (WJ (gj,())) λy1=>cond (y1.1.1 !=0) (some ((y1.1.1,()),())) (cond (decide ((l_2.length:Int)>8)) (some ((2,()),())) (qa (g51 (gj,l_2,())) λy2=>cond (y2.1.1 !=0) (some ((y2.1.1,()),())) (qa (Ow (gj,ee,())) λy3=>cond (!y3.1.1) (some ((1,()),())) (some ((0,()),())))))
def g29(d:f_×Int×nJ×Unit):Option fS:=F29 qk d.1 d.2.1 d.2.2.1
def p29:qS:=⟨[.v (.str ou),.v zI,.v zZ],[.v zI],g29⟩
def c29:jB:=⟨27,bV,[],[(50,UQ),(51,p51),(52,RW)],[],[],[],[],[],[],[],[],[],[],none,[],[],[],none,none,[]⟩
theorem Qf(n:Nat)(d):qL c29 n Tryz.f29 (body Tryz.f29) p29.ps p29.rs d=F29 n d.1 d.2.1 d.2.2.1:=by kernel_rfl
theorem d29:qs c29 (body Tryz.f29)=true:=by kernel_rfl
theorem h29:qJ Tryz.prog 29 p29:=hQ (aa:=c29) (qz qB (qf h50 (qf h51 (qf h52 qq))) rfl (by kernel_rfl)) Tryz.func29 (by kernel_rfl) (qE (by kernel_rfl)) d29 (Qf qk)
def XM(_n:Nat)(aW:(List sA)):Option fS:=
  some (((aW.length:Int),()),())
def abO(d:(List sA)×Unit):Option fS:=XM qk d.1
def Nc:qS:=⟨[.v (.list false 158 (.str z_))],[.v zI],abO⟩
def Xo:jB:=⟨5,bV,[],[],[],[],[],[],[],[],[],[],[],[],none,[],[],[],none,none,[]⟩
theorem JH(n:Nat)(d):qL Xo n Tryz.f136 (body Tryz.f136) Nc.ps Nc.rs d=XM n d.1:=by kernel_rfl
theorem abH:qJ Tryz.prog 136 Nc:=hQ (aa:=Xo) (qz qB (qq) rfl (by kernel_rfl)) Tryz.func136 (by kernel_rfl) (qE (by kernel_rfl)) (by kernel_rfl) (JH qk)
namespace Hx
open Go.Vi Go.Proofs Go.Shelf Go.RowKit
set_option maxRecDepth 100000
theorem lay:laidOutB Tryz.prog=true:=by kernel_rfl
theorem Nr(x y:Int)(h1:lN x=true)(h2:lN y=true):keyOf Tryz.prog 131 (.agg #[.int .i64 x,.int .i64 y])=some (.string (keyBytes [.int .i64 x,.int .i64 y])):=by
  have hk:Tryz.prog.keyType 131=true:=by kernel_rfl
  have hc:Tryz.prog.cellsOf 131=2:=by kernel_rfl
  have hc3:Tryz.prog.cellsOf 3=1:=by kernel_rfl
  have hw:∀x,lN x=true->(Lit.int .i64 x).wf=true:=by
    intro x hx
    have:=Uj.1 hx
    show(decide ((-9223372036854775808:Int)<=x)&&decide (x<=(9223372036854775807:Int)))=true
    simp
    omega
  obtain⟨m,hm⟩:∃m,Tryz.prog.types.size+1=m+2:=⟨Tryz.prog.types.size-1,by have:0<Tryz.prog.types.size:=of_decide_eq_true (by kernel_rfl);omega⟩
  have h3:∀x,lN x=true->Tryz.prog.keyLits (m+1) 3 [.int .i64 x]=some [.int .i64 x]:=by
    intro x hx
    simp[Program.keyLits,Tryz.underlying3,hw x hx]
  unfold keyOf
  rw[Tryz.underlying131]
  simp only[hk,Value.formed,Tryz.underlying131,hc,Bool.true_and]
  rw[hm]
  unfold Program.keyLits
  simp[Tryz.underlying131,hc,hc3,Value.cells,h3 x h1,h3 y h2]
abbrev bG:=(Int×Int)×(Int×Int)
theorem Md(P:Program)(w:World)(H:FH)(x:bG):qm P Am w H x (sG x) []:=
  ⟨[_,_],[_,_],[],[],rfl,rfl,⟨[_],[_],[],[],rfl,rfl,⟨rfl,rfl⟩,⟨rfl,rfl⟩⟩,⟨[_],[_],[],[],rfl,rfl,⟨rfl,rfl⟩,⟨rfl,rfl⟩⟩⟩
theorem Mb{P:Program}{w:World}{H:FH}{x:bG}{cs:List Value}{fp:List Nat}(h:qm P Am w H x cs fp):cs=sG x/\fp=[]:=by
  obtain⟨_,_,_,_,rfl,rfl,⟨_,_,_,_,rfl,rfl,⟨rfl,rfl⟩,⟨rfl,rfl⟩⟩,⟨_,_,_,_,rfl,rfl,⟨rfl,rfl⟩,⟨rfl,rfl⟩⟩⟩:=h
  exact⟨rfl,rfl⟩
theorem Zl(P:Program)(w:World)(H:FH):∀l:List bG,qd (qm P Am w H) l (l.map sG).flatten []
  |[]=>⟨rfl,rfl⟩
  |x::l=>⟨sG x,(l.map sG).flatten,[],[],by simp,rfl,Md P w H x,Zl P w H l⟩
theorem qg5{P:Program}{w:World}{H:FH}:∀{l:List bG} {xs:List Value} {fp:List Nat},qd (qm P Am w H) l xs fp->xs=(l.map sG).flatten/\fp=[]
  |[],_,_,⟨h1,h2⟩=>⟨h1,h2⟩
  |_::l,_,_,⟨c,xs',f,aC,e1,e2,h1,h2⟩=>by
    obtain⟨h3,h4⟩:=qg5 h2
    obtain⟨h5,h6⟩:=Mb h1
    rw[e1,e2,h3,h4,h5,h6]
    exact⟨by simp,rfl⟩
theorem qnS{P:Program}{w:World}{ax:Value}{l:List bG}(h:w.ownsRow 0 158 4 ax l.length (l.map sG).flatten):∃H:FH,cI H w/\qm P (.list false 158 Am) w H l [ax] []:=by
  rcases h.2 with⟨rfl,h0⟩|⟨g,cap,cur,rfl,_,hg,h1,h2,h3,h4⟩
  · refine⟨λ_=>none,(λb c hb=>by cases hb),rfl,none,0,?_,by omega,.inl (List.eq_nil_of_length_eq_zero h0)⟩
    rw[h0]
  · classical
    refine⟨λb=>if b=g then some (.cells cur)else none,?_,rfl,some ⟨g,0,none⟩,cap,rfl,h1,.inr ⟨g,0,cur,rfl,if_pos rfl,?_⟩⟩
    · intro b c hb
      simp only at hb
      split at hb
      · rename_i e
        cases hb
        subst e
        exact⟨_,_,hg⟩
      · cases hb
    · have:ct cur 0 (l.length*Am.size)=(l.map sG).flatten:=by
        show(cur.toList.drop 0).take (l.length*4)=_
        rw[List.drop_zero,h4]
      rw[this]
      exact Zl P w _ l
theorem Za{w:World}{l:List bG}{v:Value}{fp:List Nat}(h:ic 156 158 w l [v] fp):∃b tt ax,v = .iface 156 (.pointer (some ⟨b,0,none⟩))/\fp=b::ax.ownBlock.toList/\w.heap[b]? = some (.cells #[ax] tt (0,0))/\w.ownsRow 0 158 4 ax l.length (l.map sG).flatten:=by
  obtain⟨b,tt,ax,e,h2,h3,h4⟩:=h
  exact⟨b,tt,ax,by injection e,h2,h3,h4⟩
theorem Uc{w:World}{b:Nat}{ax:Value}{tt:TypeId}(hb:w.heap[b]? = some (.cells #[ax] tt (0,0))):(Go.loadVar 160 ⟨b,0,none⟩).run Tryz.prog w = .ok ax w:=by
  have:=qc1 (P:=Tryz.prog) (t:=160) (τ:=.list false 158 Am) (by show(cQ Tryz.prog (.list false 158 Am)).1 160=true;kernel_rfl) hb (o:=0) rfl
  exact this
theorem qnV{w:World}{l:List bG}{v:Value}{fp:List Nat}(h:ic 156 158 w l [v] fp):∃ax,(callMethod v "Len" #[]).run Tryz.prog w = .ok (.enter 136 #[ax]) w/\Calls Tryz.prog 136 #[ax] w λe w'=>e = .returned (.int .i64 (l.length:Int))/\jO jA w w':=by
  obtain⟨b,tt,ax,rfl,rfl,hb,hrow⟩:=Za h
  refine⟨ax,?_,?_⟩
  · have e:(callMethod (.iface 156 (.pointer (some ⟨b,0,none⟩))) "Len" #[]).run Tryz.prog w=((do let v <-Go.loadVar 160 ⟨b,0,none⟩;callFunc 136 (#[v] ++ #[])):Sem Next).run Tryz.prog w:=by kernel_rfl
    rw[e,Sem.run_bind,Uc hb]
    exact wy (qX Tryz.func136 rfl (by kernel_rfl)) _ _
  · obtain⟨H,hok,an⟩:=qnS (P:=Tryz.prog) hrow
    refine(abH.2 (l,()) (((l.length:Int),()),()) rfl w H [ax] [qA] hok ⟨ax,[],qA,[],rfl,rfl,rfl,rfl,⟨[ax],rfl,an⟩,rfl,rfl⟩ (by simp[qc,qA]) (by simp[qc,qA])).mono ?_
    rintro e w' ⟨us,H2,ag,aJ,rfl,hm,_,_,_,hres,_⟩
    obtain⟨v,vs',φ,iL,rfl,rfl,_,_,⟨cs,rfl,hc,_⟩,rfl,rfl⟩:=hres
    exact⟨by rw[hc];rfl,hm.mono (λb hb=>by simp[qc,qA]at hb)⟩
def xq0:XQ:=⟨156,158,74,75,λ_=>none,λ_ _=>none⟩
theorem jo:yG Tryz.prog xq0 where
  wrap:=⟨by kernel_rfl,by kernel_rfl⟩
  kS w v xT:=by kernel_rfl
  len w l v fp h:=by
    obtain⟨ax,h1,h2⟩:=qnV h
    exact⟨136,#[ax],h1,h2⟩
  eO:=⟨qX Tryz.func74 rfl (by kernel_rfl),qX Tryz.func75 rfl (by kernel_rfl)⟩
  pop _ _ _ _ _ _ _ _ h:=by cases h
  push _ _ _ _ _ _ _ _ h:=by cases h
end Hx
theorem wI:Go.Vi.nv Tryz.prog 131 where
  keyed:=Maps.Keyed.of_law (deep_law_laid Hx.lay (m:=2) (by omega) (of_decide_eq_true (by kernel_rfl)) (by kernel_rfl) (by kernel_rfl))
  key q h1 h2:=⟨_,Hx.Nr q.1 q.2 h1 h2⟩
def xA(_n:Nat)(L:(Int×(List Int)×Int×Int×Unit)×(Unit)×Unit->Option (dZ ⊕ dZ))(uU:Int)(FS:List Int)(kI:Int)(eP:Int):Option (dZ ⊕ dZ):=
  cond (decide (eP<kI)) (qn FS eP λe1=>cond (e1 !=uU) (some (.inl ((e1,()),(),()))) (L ((uU,FS,kI,(IntKind.wrap .i64 (eP+1)),()),(),()))) (some (.inr ((uU,()),(),())))
def pc:Nat->(Int×(List Int)×Int×Int×Unit)×(Unit)×Unit->Option (dZ ⊕ dZ)
  |0,_=>none
  |n+1,d=>xA n (pc n) d.1.1 d.1.2.1 d.1.2.2.1 d.1.2.2.2.1
def ta:jL:=⟨⟨[(3,.v zI),(6,.v gu),(7,.v zI),(8,.v zI)],[],none⟩,[(.ret,⟨[(2,.v zI)],[],none⟩),(.exit 0,⟨[(3,.v zI)],[],none⟩)],pc⟩
def F76(n:Nat)(zU:(List Int)):Option fS:=
  qa (pc n ((0,zU,(zU.length:Int),0,()),(),())) λo2=>fD o2 (λd3=>some ((d3.1.1,()),())) (λd4=>some ((d4.1.1,()),()))
def g76(d:(List Int)×Unit):Option fS:=F76 qk d.1
def Z':qS:=⟨[.v gu],[.v zI],g76⟩
def c76:jB:=⟨18,bV,[],[],[(3,ta)],[],[],[],[],[],[],[],[],[],none,[],[],[],none,none,[]⟩
theorem Pm(n:Nat)(d):qL c76 n Tryz.f76 (body Tryz.f76) Z'.ps Z'.rs d=F76 n d.1:=by kernel_rfl
theorem Eh(n:Nat)(d):(ta).g (n+1) d=run c76 n (nth 0 (qe (body Tryz.f76))) ((ta).ins.fill d) (qV (ta) n):=by kernel_rfl
theorem aan:qe (body Tryz.f76)=[nth 0 (qe (body Tryz.f76))]:=by kernel_rfl
theorem h76:qJ Tryz.prog 76 Z':=hQ (aa:=c76) (qz qB (qq) rfl (by kernel_rfl)) Tryz.func76 (by kernel_rfl) (by rw[aan];simp only[List.forall_mem_cons];exact⟨qP (key:=3) (li:=ta) (by kernel_rfl) rfl (λ_=>rfl) (Eh),λ_ h=>by cases h⟩) (by kernel_rfl) (Pm qk)
def F55(_n:Nat)(c_0:(Int×Int))(d_1:(Int×Int)):Option fS:=
  qa (g76 ([(IntKind.wrap .i64 (c_0.1-d_1.1)),(IntKind.wrap .i64 (c_0.2-d_1.2))],())) λy1=>some ((y1.1.1,()),())
def Ln(d:(Int×Int)×(Int×Int)×Unit):Option fS:=F55 qk d.1 d.2.1
def MX:qS:=⟨[.v (.str eS),.v (.str eS)],[.v zI],Ln⟩
def c55:jB:=⟨17,bV,[],[(76,Z')],[],[],[],[],[],[],[],[],[],[],none,[],[],[],none,none,[]⟩
theorem PD(n:Nat)(d):qL c55 n Tryz.f55 (body Tryz.f55) MX.ps MX.rs d=F55 n d.1 d.2.1:=by kernel_rfl
theorem h55:qJ Tryz.prog 55 MX:=hQ (aa:=c55) (qz qB (qf h76 qq) rfl (by kernel_rfl)) Tryz.func55 (by kernel_rfl) (qE (by kernel_rfl)) (by kernel_rfl) (PD qk)
end
end Go.Proofs.Tryz.V
