/- The contracts of functions of the program, printed by program from the interpreter: each says what a call returns. No condition beyond those typed in each theorem. -/
import Derived.Test.YtmlocmhkfnojbaaMk
import Derived.Test.YtmlocmhkfnojbaaHl
import Derived.Test.YtmlocmhkfnojbaaVi41
import Derived.Test.YtmlocmhkfnojbaaProg
namespace Go.Proofs.Try.V
noncomputable section
open Go.Vi
set_option maxRecDepth 100000
abbrev zI:Ty:=.int .i64
abbrev zTe:Ty:=.pair zI zI
abbrev zTa:Ty:=.pair zI (.pair zI (.pair zI zTe))
abbrev zTj:Type:=Int×(Int×(Int×(List Int)))
abbrev uAb:Type:=List (Int×Int)
abbrev uAd:Type:=(Bool×Unit)×(Unit)
abbrev uAe:Ty:=.list false 3 zI
abbrev zTf:Ty:=.str (.pair zI (.pair zI (.pair zI uAe)))
abbrev zTh:Ty:=.list false 37 uAe
abbrev uAf:Type:=(Int×Int)×(Int×Int)
abbrev uAg:Type:=(Bool×Unit)×(Unit)×Unit
abbrev uAh:Type:=(Int×Unit)×(Unit)×Unit
abbrev uAi:Type:=(List (List Int))×Unit
abbrev uAl:Type:=(Unit)×(Unit)×Unit
abbrev uAn:Type:=(Int×Unit)×(Unit)
abbrev uAo:Ty:=.list false 54 (.str zTe)
abbrev uAp:Type:=(List Int)×Unit
abbrev uAr:Type:=Int×(Int×Int)
abbrev zTc:Type:=Int×(Int×uAr)
abbrev uAc:Type:=(List Bool)×(List zTc)
abbrev zTl:Type:=uAc×(Int×zTc)
abbrev uAk:Type:=Int×(Int×((List Int)×((List Int)×(uAb×uAr))))
abbrev uAq:Type:=List (Int×zTc)
abbrev uAs:Ty:=.list true 3 zI
abbrev zTk:Ty:=.pair zI (.pair uAs uAs)
abbrev uAt:Ty:=.pair zI (.pair zI (.pair uAe (.pair uAe (.pair uAo (.pair zI zTe)))))
abbrev uAv:Type:=Int×Int×Int×Int×Unit
abbrev uAw:Ty:=.pair (.str zTe) (.str zTe)
abbrev uAx:Ty:=.list false 39 zTf
abbrev zTb:Ty:=.pair uAx (.pair zI zTh)
abbrev uAu:Ty:=.str (.pair (.str zTb) (.pair zTh zTh))
abbrev uAy:Ty:=.pair (.str zTb) (.pair zI zTe)
abbrev uBb:Ty:=.pair (.str zTb) (.pair (.list true 37 uAe) (.list true 37 uAs))
abbrev uBc:Ty:=.list false 112 (.str zTe)
abbrev uBe:Type:=((uAb×Int×Int×Unit)×uAi×Unit)
abbrev uBf:Type:=Int×Int×(List (List Int))×Int×Int×Unit
abbrev uBg:Type:=Int×Int×Unit
abbrev uBh:Type:=(List Int)×(List Bool)×Unit
abbrev uBj:Type:=uAb×Int×Int×Int×Unit
abbrev uBk:Type:=(List (List Int))×uAb×Int×Int×Unit
abbrev uBl:Type:=((Unit)×uAp×Unit)
abbrev uBm:Type:=Int×(List zTj)×Int×Int×Unit
abbrev uBp:Ty:=.pair zI zTa
abbrev uAj:Ty:=.str uBp
abbrev uBq:Type:=((List Int)×Int×Int×Unit)×(Unit)
abbrev uBr:Ty:=.pair uAx zTk
abbrev uBt:Ty:=.list false 27 uAj
abbrev uBv:Type:=(List (List Int))×(List (List Int))
abbrev uBw:Type:=((List Int)×Int×Unit)×(Unit)
abbrev uBx:Type:=(uAb×Unit)×(uAc×(Int×zTc)×Unit)×Unit
abbrev uBy:Type:=uAv×(Unit)×Unit
abbrev uCa:Type:=((Bool×Unit)×((Int×Int)×Unit)×Unit)
abbrev uCb:Type:=Int×(List (List Int))
abbrev zTd:Type:=(List zTj)×uCb
abbrev zTi:Type:=zTd×uBv
abbrev zTm:Type:=uAc×(Int×zTc)×(zTd×uAr)×Unit
abbrev uAm:Type:=((Option zTi)×Bool×Unit)×(Unit)×Unit
abbrev uBa:Type:=(Int×zTc)×(zTd×uAr)×uAc×uAq×(Int×zTc)×Unit
abbrev uBn:Type:=zTd×Int×(List (List Int))×Unit
abbrev uBo:Type:=zTi×(List Int)×Unit
abbrev uBs:Type:=(Int×Unit)×((zTd×uAr)×uAc×uAq×Unit)×Unit
abbrev uBu:Type:=((Option zTi)×Bool×Unit)×(Unit)
abbrev uBz:Type:=(Unit)×zTm×Unit
abbrev uCc:Type:=(Int×Unit)×((Int×Int)×Unit)×Unit
abbrev uCd:Type:=Int×(Int×uAf)
abbrev uCe:Type:=(Unit)×((List uAf)×Unit)
abbrev uCf:Type:=Int×Int×uAb×Int×Int×Unit
abbrev uCg:Type:=(List (List Int))×(List Int)×Unit
abbrev uBi:Type:=(uCf×uCg×Unit)
abbrev uCi:Ty:=.list false 114 (.str zTa)
abbrev uAa:Ty:=.pair (.list false 4 .bool) uCi
abbrev uBd:Ty:=.pair (.str uAa) uAj
abbrev uCj:Type:=uAp×(Unit)
abbrev uCk:Type:=((uAb×Int×Unit)×uAi×Unit)
abbrev uCl:Type:=Int×zTl×Unit
abbrev uCm:Ty:=.pair zI (.pair zI uAw)
abbrev uCn:Type:=Int×((List Int)×(List Int))
abbrev zTg:Type:=(List zTj)×uCn
abbrev uAz:Type:=(Bool×Unit)×(zTg×Unit)
abbrev uCh:Type:=(Bool×Unit)×(zTg×Unit)×Unit
abbrev uCo:Type:=((Unit)×(uAb×Unit)×Unit)
def tyT:List (Nat×Ty):=[(2,.int .i64),(3,.int .i64),(4,.bool),(5,.int .u8),(6,.int .u8),(7,.str (.pair zI (.pair zI (.pair .bool (.int .u8))))),(20,.ext false 2 132 0),(22,.list false 4 .bool),(23,.list false 114 (.str zTa)),(25,.str uAa),(27,.str uBp),(28,.list false 39 zTf),(29,.list false 37 uAe),(31,.str zTb),(33,.str uAy),(35,.list false 27 uAj),(37,.list false 3 zI),(39,.str (.pair zI (.pair zI (.pair zI uAe)))),(40,.int .i64),(44,.list false 112 (.str zTe)),(54,.str zTe),(55,.list false 54 (.str zTe)),(57,.str uAt),(61,.ptr uAu),(66,.list false 4 .bool),(70,.fn zTf .bool),(71,.ptr (.str (.pair uAx (.pair zI (.pair uAe uAe))))),(73,.str (.pair uAx (.pair zI (.pair uAe uAe)))),(77,.str uBd),(80,.ptr (.str (.pair (.ext false 5 44 0) uAe))),(87,.str (.pair (.str zTb) (.pair zTh zTh))),(95,.str zTe),(98,.ext false 0 102 95),(100,.list false 102 (.str zTe)),(102,.str zTe),(105,.fn2 (.str zTe) (.str zTe) zI),(110,.str uCm),(112,.str zTe),(114,.str zTa),(116,.ext false 5 44 0),(118,.str (.pair (.ext false 5 44 0) uAe)),(119,.fn zI .bool),(123,.fn (.str zTe) .bool),(127,.fn (.str zTa) .bool),(129,.ext false 1 102 3),(130,.ptr (.list false 132 (.str uAw))),(132,.str uAw),(134,.list false 132 (.str uAw)),(136,.ext false 4 130 132),(143,.int .u64),(162,.int .u32),(164,.int .u64)]
theorem qM:tysB Try.prog tyT=true:=by kernel_rfl
theorem mixed:Try.prog.follows .mixedOrders=true:=by kernel_rfl
theorem hQ{cfg:jG}{f:FuncId}{fn:Func}{p:jE}(hc:qu Try.prog cfg)(hf:Try.prog.funcs[f]? = some fn)(ha:(fn.body.isSome&&(Nat.beq fn.ntmps cfg.nt&&(!(fn.name == "runtime.NumGoroutine")&&Nat.ble p.ps.length cfg.nt)))=true)(hl:∀b∈qj (body fn),qcZ cfg b)(hd:qD cfg (body fn)=true)(he:∀d,jC cfg qn fn (body fn) p.ps p.rs d=p.g d):qZ Try.prog f p:=by
  simp only[Bool.and_eq_true,Bool.not_eq_true']at ha
  exact qnA mixed hc hf ha.1 (Nat.eq_of_beq_eq_true ha.2.1) ha.2.2.1 ha.2.2.2 hl hd (λd y h=>⟨qn,(he d).trans h⟩)
def F11(_n:Nat)(m_0:uAc):Option uAd:=
  cond (decide ((m_0.1.length:Int)>20)) (some ((true,()),())) (some (((decide ((m_0.2.length:Int)>40)),()),()))
def g11(d:uAc×Unit):Option uAd:=F11 qn d.1
def p11:jE:=⟨[.v (.str uAa)],[.v .bool],g11⟩
def c11:jG:=⟨13,tyT,[],[],[],[],[],[],[],[],[],[],[],[],none,[],[],[],none,none,[]⟩
theorem F11_eq(n:Nat)(d):jC c11 n Try.f11 (body Try.f11) p11.ps p11.rs d=F11 n d.1:=by kernel_rfl
theorem d11:qD c11 (body Try.f11)=true:=by kernel_rfl
theorem h11:qZ Try.prog 11 p11:=hQ (cfg:=c11) (qL qM (qC) rfl (by kernel_rfl)) Try.func11 (by kernel_rfl) (qT (by kernel_rfl)) d11 (F11_eq qn)
def B4_4(_n:Nat)(L:(uAq×Int×Unit)×(Unit)×Unit->Option (uAg ⊕ uAl))(l_1:List (Int×zTc))(i_5:Int):Option (uAg ⊕ uAl):=
  cond (decide (i_5<(l_1.length:Int))) (qs l_1 i_5 λe2=>cond (decide (e2.2.2.2.2.1>60)) (qs l_1 i_5 λe3=>cond (decide (e3.2.2.2.2.1<=500)) (some (.inl ((true,()),(),()))) (L ((l_1,(IntKind.wrap .i64 (i_5+1)),()),(),()))) (L ((l_1,(IntKind.wrap .i64 (i_5+1)),()),(),()))) (some (.inr ((),(),())))
def L4_4:Nat->(uAq×Int×Unit)×(Unit)×Unit->Option (uAg ⊕ uAl)
  |0,_=>none
  |n+1,d=>B4_4 n (L4_4 n) d.1.1 d.1.2.1
def l4_4:j7:=⟨⟨[(1,.v uBt),(5,.v zI)],[],none⟩,[(.ret,⟨[(4,.v .bool)],[],none⟩),(.exit 0,⟨[],[],none⟩)],L4_4⟩
def F4(n:Nat)(m_0:uAc)(l_1:uAq):Option uAd:=
  qa (g11 (m_0,())) λy1=>cond y1.1.1 (some ((true,()),())) (cond (decide ((m_0.1.length:Int)>5)) (some ((true,()),())) (cond (decide ((m_0.2.length:Int)>8)) (some ((true,()),())) (cond (decide ((l_1.length:Int)>12)) (some ((true,()),())) (qa (L4_4 n ((l_1,0,()),(),())) λo4=>qbk o4 (λd5=>some ((d5.1.1,()),())) (λ_=>some ((false,()),()))))))
def g4(d:uAc×uAq×Unit):Option uAd:=F4 qn d.1 d.2.1
def p4:jE:=⟨[.v (.str uAa),.v uBt],[.v .bool],g4⟩
def c4:jG:=⟨45,tyT,[],[(11,p11)],[(4,l4_4)],[],[],[],[],[],[],[],[],[],none,[],[],[],none,none,[]⟩
theorem F4_eq(n:Nat)(d):jC c4 n Try.f4 (body Try.f4) p4.ps p4.rs d=F4 n d.1 d.2.1:=by kernel_rfl
theorem L4_4_eq(n:Nat)(d):(l4_4).g (n+1) d=run c4 n (nth 0 (qj (body Try.f4))) ((l4_4).ins.fill d) (jH (l4_4) n):=by kernel_rfl
theorem ls4:qj (body Try.f4)=[nth 0 (qj (body Try.f4))]:=by kernel_rfl
theorem d4:qD c4 (body Try.f4)=true:=by kernel_rfl
theorem h4:qZ Try.prog 4 p4:=hQ (cfg:=c4) (qL qM (qo h11 qC) rfl (by kernel_rfl)) Try.func4 (by kernel_rfl) (by rw[ls4];simp only[List.forall_mem_cons];exact⟨jB (key:=4) (li:=l4_4) (by kernel_rfl) rfl (λ_=>rfl) (L4_4_eq),λ_ h=>by cases h⟩) d4 (F4_eq qn)
def F29(_n:Nat)(n_0:Int)(low_1:Int)(high_2:Int):Option uAd:=
  cond (decide (n_0>=low_1)) (some (((decide (n_0<=high_2)),()),())) (some ((false,()),()))
def g29(d:Int×Int×Int×Unit):Option uAd:=F29 qn d.1 d.2.1 d.2.2.1
def p29:jE:=⟨[.v zI,.v zI,.v zI],[.v .bool],g29⟩
def c29:jG:=⟨15,tyT,[],[],[],[],[],[],[],[],[],[],[],[],none,[],[],[],none,none,[]⟩
theorem F29_eq(n:Nat)(d):jC c29 n Try.f29 (body Try.f29) p29.ps p29.rs d=F29 n d.1 d.2.1 d.2.2.1:=by kernel_rfl
theorem h29:qZ Try.prog 29 p29:=hQ (cfg:=c29) (qL qM (qC) rfl (by kernel_rfl)) Try.func29 (by kernel_rfl) (qT (by kernel_rfl)) (by kernel_rfl) (F29_eq qn)
def F46(_n:Nat)(n_0:Int)(t_1:Int)(t_2:Int):Option uAd:=
  qa (g29 (n_0,t_1,t_2,())) λy1=>some (((!y1.1.1),()),())
def g46(d:Int×Int×Int×Unit):Option uAd:=F46 qn d.1 d.2.1 d.2.2.1
def p46:jE:=⟨[.v zI,.r zI,.r zI],[.v .bool],g46⟩
def c46:jG:=⟨10,tyT,[],[(29,p29)],[],[],[],[],[],[],[],[],[],[],none,[],[],[],none,none,[]⟩
theorem F46_eq(n:Nat)(d):jC c46 n Try.f46 (body Try.f46) p46.ps p46.rs d=F46 n d.1 d.2.1 d.2.2.1:=by kernel_rfl
theorem h46:qZ Try.prog 46 p46:=hQ (cfg:=c46) (qL qM (qo h29 qC) rfl (by kernel_rfl)) Try.func46 (by kernel_rfl) (qT (by kernel_rfl)) (by kernel_rfl) (F46_eq qn)
def B60_2(_n:Nat)(L:((List Int)×(Int->Option Bool)×Int×Int×Unit)×(Unit)×Unit->Option (uAh ⊕ uAl))(s_0:List Int)(f_1:Int->Option Bool)(t_7:Int)(t_8:Int):Option (uAh ⊕ uAl):=
  cond (decide (t_8<t_7)) (qs s_0 t_8 λe1=>qa (f_1 e1) λy2=>cond y2 (some (.inl ((t_8,()),(),()))) (L ((s_0,f_1,t_7,(IntKind.wrap .i64 (t_8+1)),()),(),()))) (some (.inr ((),(),())))
def L60_2:Nat->((List Int)×(Int->Option Bool)×Int×Int×Unit)×(Unit)×Unit->Option (uAh ⊕ uAl)
  |0,_=>none
  |n+1,d=>B60_2 n (L60_2 n) d.1.1 d.1.2.1 d.1.2.2.1 d.1.2.2.2.1
def l60_2:j7:=⟨⟨[(0,.v uAe),(1,.v (.fn zI .bool)),(7,.v zI),(8,.v zI)],[],none⟩,[(.ret,⟨[(4,.v zI)],[],none⟩),(.exit 0,⟨[],[],none⟩)],L60_2⟩
def F60(n:Nat)(s_0:(List Int))(f_1:(Int->Option Bool)):Option uAn:=
  qa (L60_2 n ((s_0,f_1,(s_0.length:Int),0,()),(),())) λo3=>qbk o3 (λd4=>some ((d4.1.1,()),())) (λ_=>some (((-1),()),()))
def g60(d:(List Int)×(Int->Option Bool)×Unit):Option uAn:=F60 qn d.1 d.2.1
def p60:jE:=⟨[.v uAe,.v (.fn zI .bool)],[.v zI],g60⟩
def c60:jG:=⟨19,tyT,[],[],[(2,l60_2)],[],[],[],[],[],[],[],[],[],none,[],[],[],none,none,[]⟩
theorem F60_eq(n:Nat)(d):jC c60 n Try.f60 (body Try.f60) p60.ps p60.rs d=F60 n d.1 d.2.1:=by kernel_rfl
theorem L60_2_eq(n:Nat)(d):(l60_2).g (n+1) d=run c60 n (nth 0 (qj (body Try.f60))) ((l60_2).ins.fill d) (jH (l60_2) n):=by kernel_rfl
theorem ls60:qj (body Try.f60)=[nth 0 (qj (body Try.f60))]:=by kernel_rfl
theorem h60:qZ Try.prog 60 p60:=hQ (cfg:=c60) (qL qM (qC) rfl (by kernel_rfl)) Try.func60 (by kernel_rfl) (by rw[ls60];simp only[List.forall_mem_cons];exact⟨jB (key:=2) (li:=l60_2) (by kernel_rfl) rfl (λ_=>rfl) (L60_2_eq),λ_ h=>by cases h⟩) (by kernel_rfl) (F60_eq qn)
def F47(_n:Nat)(s_0:(List Int))(f_1:(Int->Option Bool)):Option uAd:=
  qa (g60 (s_0,f_1,())) λy1=>some (((decide (y1.1.1>=0)),()),())
def g47(d:(List Int)×(Int->Option Bool)×Unit):Option uAd:=F47 qn d.1 d.2.1
def p47:jE:=⟨[.v uAe,.v (.fn zI .bool)],[.v .bool],g47⟩
def c47:jG:=⟨9,tyT,[],[(60,p60)],[],[],[],[],[],[],[],[],[],[],none,[],[],[],none,none,[]⟩
theorem F47_eq(n:Nat)(d):jC c47 n Try.f47 (body Try.f47) p47.ps p47.rs d=F47 n d.1 d.2.1:=by kernel_rfl
theorem h47:qZ Try.prog 47 p47:=hQ (cfg:=c47) (qL qM (qo h60 qC) rfl (by kernel_rfl)) Try.func47 (by kernel_rfl) (qT (by kernel_rfl)) (by kernel_rfl) (F47_eq qn)
def B61_2(_n:Nat)(L:(uAb×((Int×Int)->Option Bool)×Int×Int×Unit)×(Unit)×Unit->Option (uAh ⊕ uAl))(s_0:List (Int×Int))(f_1:(Int×Int)->Option Bool)(t_7:Int)(t_8:Int):Option (uAh ⊕ uAl):=
  cond (decide (t_8<t_7)) (qs s_0 t_8 λe1=>qa (f_1 e1) λy2=>cond y2 (some (.inl ((t_8,()),(),()))) (L ((s_0,f_1,t_7,(IntKind.wrap .i64 (t_8+1)),()),(),()))) (some (.inr ((),(),())))
def L61_2:Nat->(uAb×((Int×Int)->Option Bool)×Int×Int×Unit)×(Unit)×Unit->Option (uAh ⊕ uAl)
  |0,_=>none
  |n+1,d=>B61_2 n (L61_2 n) d.1.1 d.1.2.1 d.1.2.2.1 d.1.2.2.2.1
def l61_2:j7:=⟨⟨[(0,.v uAo),(1,.v (.fn (.str zTe) .bool)),(7,.v zI),(8,.v zI)],[],none⟩,[(.ret,⟨[(4,.v zI)],[],none⟩),(.exit 0,⟨[],[],none⟩)],L61_2⟩
def F61(n:Nat)(s_0:uAb)(f_1:((Int×Int)->Option Bool)):Option uAn:=
  qa (L61_2 n ((s_0,f_1,(s_0.length:Int),0,()),(),())) λo3=>qbk o3 (λd4=>some ((d4.1.1,()),())) (λ_=>some (((-1),()),()))
def g61(d:uAb×((Int×Int)->Option Bool)×Unit):Option uAn:=F61 qn d.1 d.2.1
def p61:jE:=⟨[.v uAo,.v (.fn (.str zTe) .bool)],[.v zI],g61⟩
def c61:jG:=⟨19,tyT,[],[],[(2,l61_2)],[],[],[],[],[],[],[],[],[],none,[],[],[],none,none,[]⟩
theorem F61_eq(n:Nat)(d):jC c61 n Try.f61 (body Try.f61) p61.ps p61.rs d=F61 n d.1 d.2.1:=by kernel_rfl
theorem L61_2_eq(n:Nat)(d):(l61_2).g (n+1) d=run c61 n (nth 0 (qj (body Try.f61))) ((l61_2).ins.fill d) (jH (l61_2) n):=by kernel_rfl
theorem ls61:qj (body Try.f61)=[nth 0 (qj (body Try.f61))]:=by kernel_rfl
theorem h61:qZ Try.prog 61 p61:=hQ (cfg:=c61) (qL qM (qC) rfl (by kernel_rfl)) Try.func61 (by kernel_rfl) (by rw[ls61];simp only[List.forall_mem_cons];exact⟨jB (key:=2) (li:=l61_2) (by kernel_rfl) rfl (λ_=>rfl) (L61_2_eq),λ_ h=>by cases h⟩) (by kernel_rfl) (F61_eq qn)
def F48(_n:Nat)(s_0:uAb)(f_1:((Int×Int)->Option Bool)):Option uAd:=
  qa (g61 (s_0,f_1,())) λy1=>some (((decide (y1.1.1>=0)),()),())
def g48(d:uAb×((Int×Int)->Option Bool)×Unit):Option uAd:=F48 qn d.1 d.2.1
def p48:jE:=⟨[.v uAo,.v (.fn (.str zTe) .bool)],[.v .bool],g48⟩
def c48:jG:=⟨9,tyT,[],[(61,p61)],[],[],[],[],[],[],[],[],[],[],none,[],[],[],none,none,[]⟩
theorem F48_eq(n:Nat)(d):jC c48 n Try.f48 (body Try.f48) p48.ps p48.rs d=F48 n d.1 d.2.1:=by kernel_rfl
theorem h48:qZ Try.prog 48 p48:=hQ (cfg:=c48) (qL qM (qo h61 qC) rfl (by kernel_rfl)) Try.func48 (by kernel_rfl) (qT (by kernel_rfl)) (by kernel_rfl) (F48_eq qn)
def F49(_n:Nat)(b_0:(Int×Int))(t_1:uAk):Option uAd:=
  qa (g29 (b_0.1,1,1000,())) λy1=>cond (!y1.1.1) (some ((true,()),())) (qa (g29 (b_0.2,1,1000000,())) λy2=>cond (!y2.1.1) (some ((true,()),())) (some (((decide ((IntKind.wrap .i64 (t_1.2.2.2.2.2.1*b_0.1))>b_0.2)),()),())))
def g49(d:(Int×Int)×uAk×Unit):Option uAd:=F49 qn d.1 d.2.1
def p49:jE:=⟨[.v (.str zTe),.r (.str uAt)],[.v .bool],g49⟩
def c49:jG:=⟨24,tyT,[],[(29,p29)],[],[],[],[],[],[],[],[],[],[],none,[],[],[],none,none,[]⟩
theorem F49_eq(n:Nat)(d):jC c49 n Try.f49 (body Try.f49) p49.ps p49.rs d=F49 n d.1 d.2.1:=by kernel_rfl
theorem h49:qZ Try.prog 49 p49:=hQ (cfg:=c49) (qL qM (qo h29 qC) rfl (by kernel_rfl)) Try.func49 (by kernel_rfl) (qT (by kernel_rfl)) (by kernel_rfl) (F49_eq qn)
def F28(_n:Nat)(f_0:uAk):Option uAn:=
  qa (g29 ((f_0.2.2.1.length:Int),1,8,())) λy1=>cond (!y1.1.1) (some ((10,()),())) (cond ((f_0.2.2.2.1.length:Int) !=(f_0.2.2.1.length:Int)) (some ((10,()),())) (qa (g29 (f_0.1,0,20,())) λy2=>cond (!y2.1.1) (some ((10,()),())) (qa (g29 (f_0.2.1,0,12,())) λy3=>cond (!y3.1.1) (some ((10,()),())) (cond (decide ((f_0.2.2.2.2.1.length:Int)>6)) (some ((10,()),())) (qa (Mk.m45.p.g (0,100000,())) λy4=>qa (g47 (f_0.2.2.1,(λv5=>qa y4.1.1 λq7=>qa y4.1.2.1 λq8=>qa (g46 (v5,q7,q8,())) λy6=>some y6.1.1),())) λy9=>cond y9.1.1 (some ((10,()),())) (qa (Mk.m45.p.g (0,1000000,())) λy10=>qa (g47 (f_0.2.2.2.1,(λv11=>qa y10.1.1 λq13=>qa y10.1.2.1 λq14=>qa (g46 (v11,q13,q14,())) λy12=>some y12.1.1),())) λy15=>cond y15.1.1 (some ((10,()),())) (qa (g29 (f_0.2.2.2.2.2.1,0,1000,())) λy16=>cond (!y16.1.1) (some ((10,()),())) (qa (g29 (f_0.2.2.2.2.2.2.1,0,1000000,())) λy17=>cond (!y17.1.1) (some ((10,()),())) (qa (g29 (f_0.2.2.2.2.2.2.2,1,1440,())) λy18=>cond (!y18.1.1) (some ((10,()),())) (qa (g48 (f_0.2.2.2.2.1,(λv19=>qa (g49 (v19,f_0,())) λy20=>some y20.1.1),())) λy21=>cond y21.1.1 (some ((10,()),())) (some ((0,()),()))))))))))))
def g28(d:uAk×Unit):Option uAn:=F28 qn d.1
def p28:jE:=⟨[.v (.str uAt)],[.v zI],g28⟩
def c28:jG:=⟨78,tyT,[(1,.str uAt)],[(29,p29),(46,p46),(47,p47),(48,p48),(49,p49)],[],[],[3],[],[],[(45,Mk.m45)],[],[],[],[],none,[],[],[],none,none,[]⟩
theorem F28_eq(n:Nat)(d):jC c28 n Try.f28 (body Try.f28) p28.ps p28.rs d=F28 n d.1:=by kernel_rfl
theorem h28:qZ Try.prog 28 p28:=hQ (cfg:=c28) (qL qM (qo h29 (qo h46 (qo h47 (qo h48 (qo h49 qC))))) rfl (by kernel_rfl) (mk_ok (qmJ Mk.k45 mkNil))) Try.func28 (by kernel_rfl) (qT (by kernel_rfl)) (by kernel_rfl) (F28_eq qn)
def F84(_n:Nat)(x_0:Int)(y_1:Int):Option (uBg×(Unit)):=
  negK 32 (negK 32 (qbA (IntKind.wrap .u64 ((qft .and .u64 x_0 4294967295)*(qft .and .u64 y_1 4294967295))) λz1=>negK 32 (qbA (IntKind.wrap .u64 ((IntKind.wrap .u64 ((shrI .u64 x_0 32)*(qft .and .u64 y_1 4294967295)))+(shrI .u64 z1 32))) λz2=>negK 32 (qbA (IntKind.wrap .u64 ((qft .and .u64 z2 4294967295)+(IntKind.wrap .u64 ((qft .and .u64 x_0 4294967295)*(shrI .u64 y_1 32))))) λz3=>negK 32 (qbA (IntKind.wrap .u64 ((IntKind.wrap .u64 ((IntKind.wrap .u64 ((shrI .u64 x_0 32)*(shrI .u64 y_1 32)))+(shrI .u64 z2 32)))+(shrI .u64 z3 32))) λz4=>some ((z4,(IntKind.wrap .u64 (x_0*y_1)),()),()))))))
def g84(d:Int×Int×Unit):Option (uBg×(Unit)):=F84 qn d.1 d.2.1
def p84:jE:=⟨[.v (.int .u64),.v (.int .u64)],[.v (.int .u64),.v (.int .u64)],g84⟩
def c84:jG:=⟨51,tyT,[],[],[],[],[],[],[],[],[],[],[],[],none,[],[],[],none,none,[]⟩
theorem F84_eq(n:Nat)(d):jC c84 n Try.f84 (body Try.f84) p84.ps p84.rs d=F84 n d.1 d.2.1:=by kernel_rfl
theorem h84:qZ Try.prog 84 p84:=hQ (cfg:=c84) (qL qM (qC) rfl (by kernel_rfl)) Try.func84 (by kernel_rfl) (qT (by kernel_rfl)) (by kernel_rfl) (F84_eq qn)
def F77(_n:Nat)(x_0:Int)(y_1:Int):Option (uBg×(Unit)):=
  qa (g84 (x_0,y_1,())) λy1=>some ((y1.1.1,y1.1.2.1,()),())
def g77(d:Int×Int×Unit):Option (uBg×(Unit)):=F77 qn d.1 d.2.1
def p77:jE:=⟨[.v (.int .u64),.v (.int .u64)],[.v (.int .u64),.v (.int .u64)],g77⟩
def c77:jG:=⟨30,tyT,[],[(84,p84)],[],[],[],[],[],[],[],[],[],[],none,[],[],[],none,none,[]⟩
theorem F77_eq(n:Nat)(d):jC c77 n Try.f77 (body Try.f77) p77.ps p77.rs d=F77 n d.1 d.2.1:=by kernel_rfl
theorem h77:qZ Try.prog 77 p77:=hQ (cfg:=c77) (qL qM (qo h84 qC) rfl (by kernel_rfl)) Try.func77 (by kernel_rfl) (qT (by kernel_rfl)) (by kernel_rfl) (F77_eq qn)
def B62_8(_n:Nat)(L:(Int×Unit)×uAp×Unit->Option uBl)(n_8:Int)(o_30:List Int):Option uBl:=
  cond (decide (n_8<(o_30.length:Int))) (qcE (L (((IntKind.wrap .i64 (n_8+((min (o_30.take n_8.toNat).length (o_30.length-n_8.toNat):Nat):Int))),()),((qcz o_30 (o_30.take n_8.toNat) n_8.toNat),()),())) λE=>qc [leK 0 n_8 (leK n_8 (o_30.length:Int) (leK 0 n_8 (leK n_8 (o_30.length:Int) (E)))),leK 0 n_8 (leK n_8 (o_30.length:Int) (leK 0 n_8 (leK n_8 (o_30.length:Int) (E))))]) (some ((),(o_30,()),()))
def L62_8:Nat->(Int×Unit)×uAp×Unit->Option uBl
  |0,_=>none
  |n+1,d=>B62_8 n (L62_8 n) d.1.1 d.2.1.1
def l62_8:j7:=⟨⟨[(7,.c (.view 30 [])),(8,.v zI)],[(30,true,.list true 3 zI)],none⟩,[(.exit 0,⟨[(7,.c (.view 30 []))],[(30,true,.list true 3 zI)],none⟩)],L62_8⟩
def F62(n:Nat)(x_0:(List Int))(count_1:Int):Option uCj:=
  cond (decide (count_1<0)) (none) (qa (g77 ((IntKind.wrap .u64 (x_0.length:Int)),(IntKind.wrap .u64 count_1),())) λy1=>cond (decide (y1.1.1>0)) (none) (cond (decide (y1.1.2.1>9223372036854775807)) (none) (leK 0 (IntKind.wrap .i64 y1.1.2.1) (leK (IntKind.wrap .i64 y1.1.2.1) (IntKind.wrap .i64 y1.1.2.1) (ql (IntKind.wrap .i64 y1.1.2.1) (qbA ((min x_0.length ((List.replicate (IntKind.wrap .i64 y1.1.2.1).toNat (0:Int)).length-(0:Int).toNat):Nat):Int) λz2=>qa (L62_8 n ((z2,()),((qcz (List.replicate (IntKind.wrap .i64 y1.1.2.1).toNat (0:Int)) x_0 (0:Int).toNat),()),())) λo3=>some ((o3.2.1.1,()),())))))))
def g62(d:(List Int)×Int×Unit):Option uCj:=F62 qn d.1 d.2.1
def p62:jE:=⟨[.v uAe,.v zI],[.own 3 zI],g62⟩
def c62:jG:=⟨48,tyT,[],[(77,p77)],[(8,l62_8)],[],[9],[],[],[],[],[],[],[],none,[],[],[],none,none,[]⟩
theorem F62_eq(n:Nat)(d):jC c62 n Try.f62 (body Try.f62) p62.ps p62.rs d=F62 n d.1 d.2.1:=by kernel_rfl
theorem L62_8_eq(n:Nat)(d):(l62_8).g (n+1) d=run c62 n (nth 0 (qj (body Try.f62))) ((l62_8).ins.fill d) (jH (l62_8) n):=by kernel_rfl
theorem ls62:qj (body Try.f62)=[nth 0 (qj (body Try.f62))]:=by kernel_rfl
theorem h62:qZ Try.prog 62 p62:=hQ (cfg:=c62) (qL qM (qo h77 qC) rfl (by kernel_rfl)) Try.func62 (by kernel_rfl) (by rw[ls62];simp only[List.forall_mem_cons];exact⟨jB (key:=8) (li:=l62_8) (by kernel_rfl) rfl (λ_=>rfl) (L62_8_eq),λ_ h=>by cases h⟩) (by kernel_rfl) (F62_eq qn)
def B50_4(_n:Nat)(L:(uAb×Int×Int×Int×Int×Unit)×uAi×Unit->Option uBe)(l_0:List (Int×Int))(n_1:Int)(most_6:Int)(t_24:Int)(t_25:Int)(o_22:List (List Int)):Option uBe:=
  cond (decide (t_25<t_24)) (qa (g62 ([1152921504606846976],(IntKind.wrap .i64 (most_6+1)),())) λy1=>inR t_25 o_22.length (qs o_22 t_25 λ_=>L ((l_0,n_1,most_6,t_24,(IntKind.wrap .i64 (t_25+1)),()),((o_22.set t_25.toNat y1.1.1),()),()))) (some ((l_0,n_1,most_6,()),(o_22,()),()))
def L50_4:Nat->(uAb×Int×Int×Int×Int×Unit)×uAi×Unit->Option uBe
  |0,_=>none
  |n+1,d=>B50_4 n (L50_4 n) d.1.1 d.1.2.1 d.1.2.2.1 d.1.2.2.2.1 d.1.2.2.2.2.1 d.2.1.1
def l50_4:j7:=⟨⟨[(0,.v uAo),(1,.v zI),(6,.v zI),(7,.c (.view 22 [])),(24,.v zI),(25,.v zI)],[(22,true,.list true 37 uAs)],none⟩,[(.exit 0,⟨[(0,.v uAo),(1,.v zI),(6,.v zI),(7,.c (.view 22 []))],[(22,true,.list true 37 uAs)],none⟩)],L50_4⟩
def B50_13(_n:Nat)(L:(uAb×Int×Int×Int×Int×Int×Unit)×uAi×Unit->Option ((uBj×uAi×Unit)))(l_0:List (Int×Int))(n_1:Int)(most_6:Int)(i_9:Int)(t_53:Int)(t_54:Int)(o_22:List (List Int)):Option ((uBj×uAi×Unit)):=
  cond (decide (t_54<t_53)) (inR i_9 o_22.length (inR (IntKind.wrap .i64 (i_9+1)) o_22.length (qs o_22 (IntKind.wrap .i64 (i_9+1)) λe8=>inR t_54 e8.length (qs o_22 (IntKind.wrap .i64 (i_9+1)) λe9=>qs e9 t_54 λe10=>qs o_22 i_9 λe11=>inR t_54 e11.length (qs o_22 i_9 λe12=>qs e12 t_54 λ_=>qs l_0 i_9 λe14=>cond (decide ((IntKind.wrap .i64 (t_54-e14.1))>=0)) (inR i_9 (o_22.set i_9.toNat (e12.set t_54.toNat e10)).length (qs (o_22.set i_9.toNat (e12.set t_54.toNat e10)) i_9 λe15=>inR (IntKind.wrap .i64 (t_54-e14.1)) e15.length (qs (o_22.set i_9.toNat (e12.set t_54.toNat e10)) i_9 λe16=>qs e16 (IntKind.wrap .i64 (t_54-e14.1)) λe17=>cond (decide (e17<1152921504606846976)) (inR i_9 (o_22.set i_9.toNat (e12.set t_54.toNat e10)).length (inR i_9 (o_22.set i_9.toNat (e12.set t_54.toNat e10)).length (qs (o_22.set i_9.toNat (e12.set t_54.toNat e10)) i_9 λe18=>inR t_54 e18.length (qs (o_22.set i_9.toNat (e12.set t_54.toNat e10)) i_9 λe19=>qs e19 t_54 λe20=>inR i_9 (o_22.set i_9.toNat (e12.set t_54.toNat e10)).length (qs (o_22.set i_9.toNat (e12.set t_54.toNat e10)) i_9 λe21=>inR (IntKind.wrap .i64 (t_54-e14.1)) e21.length (qs (o_22.set i_9.toNat (e12.set t_54.toNat e10)) i_9 λe22=>qs e22 (IntKind.wrap .i64 (t_54-e14.1)) λe23=>qs l_0 i_9 λe24=>qs (o_22.set i_9.toNat (e12.set t_54.toNat e10)) i_9 λe25=>inR t_54 e25.length (qs (o_22.set i_9.toNat (e12.set t_54.toNat e10)) i_9 λe26=>qs e26 t_54 λ_=>qbA ((o_22.set i_9.toNat (e12.set t_54.toNat e10)).set i_9.toNat (e26.set t_54.toNat (min e20 (IntKind.wrap .i64 (e23+e24.2))))) λz28=>L ((l_0,n_1,most_6,i_9,t_53,(IntKind.wrap .i64 (t_54+1)),()),(z28,()),())))))))) (L ((l_0,n_1,most_6,i_9,t_53,(IntKind.wrap .i64 (t_54+1)),()),((o_22.set i_9.toNat (e12.set t_54.toNat e10)),()),()))))) (L ((l_0,n_1,most_6,i_9,t_53,(IntKind.wrap .i64 (t_54+1)),()),((o_22.set i_9.toNat (e12.set t_54.toNat e10)),()),()))))))) (some ((l_0,n_1,most_6,i_9,()),(o_22,()),()))
def L50_13:Nat->(uAb×Int×Int×Int×Int×Int×Unit)×uAi×Unit->Option ((uBj×uAi×Unit))
  |0,_=>none
  |n+1,d=>B50_13 n (L50_13 n) d.1.1 d.1.2.1 d.1.2.2.1 d.1.2.2.2.1 d.1.2.2.2.2.1 d.1.2.2.2.2.2.1 d.2.1.1
def l50_13:j7:=⟨⟨[(0,.v uAo),(1,.v zI),(6,.v zI),(7,.c (.view 22 [])),(9,.v zI),(53,.v zI),(54,.v zI)],[(22,true,.list true 37 uAs)],none⟩,[(.exit 4,⟨[(0,.v uAo),(1,.v zI),(6,.v zI),(7,.c (.view 22 [])),(9,.v zI)],[(22,true,.list true 37 uAs)],none⟩)],L50_13⟩
def B50_10(n:Nat)(L:uBj×uAi×Unit->Option uBe)(l_0:List (Int×Int))(n_1:Int)(most_6:Int)(i_9:Int)(o_22:List (List Int)):Option uBe:=
  cond (decide (i_9>=0)) (inR i_9 o_22.length (qs o_22 i_9 λe7=>qa (L50_13 n ((l_0,n_1,most_6,i_9,(e7.length:Int),0,()),(o_22,()),())) λo29=>L ((o29.1.1,o29.1.2.1,o29.1.2.2.1,(IntKind.wrap .i64 (o29.1.2.2.2.1-1)),()),(o29.2.1.1,()),()))) (some ((l_0,n_1,most_6,()),(o_22,()),()))
def L50_10:Nat->uBj×uAi×Unit->Option uBe
  |0,_=>none
  |n+1,d=>B50_10 n (L50_10 n) d.1.1 d.1.2.1 d.1.2.2.1 d.1.2.2.2.1 d.2.1.1
def l50_10:j7:=⟨⟨[(0,.v uAo),(1,.v zI),(6,.v zI),(7,.c (.view 22 [])),(9,.v zI)],[(22,true,.list true 37 uAs)],none⟩,[(.exit 2,⟨[(0,.v uAo),(1,.v zI),(6,.v zI),(7,.c (.view 22 []))],[(22,true,.list true 37 uAs)],none⟩)],L50_10⟩
def B50_22(_n:Nat)(L:uBj×uAi×Unit->Option uCk)(l_0:List (Int×Int))(most_6:Int)(tokens_12:Int)(t_13:Int)(o_22:List (List Int)):Option uCk:=
  cond (decide (t_13<=most_6)) (inR 0 o_22.length (qs o_22 0 λe31=>inR t_13 e31.length (qs o_22 0 λe32=>qs e32 t_13 λe33=>inR 0 o_22.length (qs o_22 0 λe34=>inR tokens_12 e34.length (qs o_22 0 λe35=>qs e35 tokens_12 λe36=>cond (decide (e33<e36)) (L ((l_0,most_6,t_13,(IntKind.wrap .i64 (t_13+1)),()),(o_22,()),())) (L ((l_0,most_6,tokens_12,(IntKind.wrap .i64 (t_13+1)),()),(o_22,()),()))))))) (some ((l_0,tokens_12,()),(o_22,()),()))
def L50_22:Nat->uBj×uAi×Unit->Option uCk
  |0,_=>none
  |n+1,d=>B50_22 n (L50_22 n) d.1.1 d.1.2.1 d.1.2.2.1 d.1.2.2.2.1 d.2.1.1
def l50_22:j7:=⟨⟨[(0,.v uAo),(6,.v zI),(7,.c (.view 22 [])),(12,.v zI),(13,.v zI)],[(22,true,.list true 37 uAs)],none⟩,[(.exit 6,⟨[(0,.v uAo),(7,.c (.view 22 [])),(12,.v zI)],[(22,true,.list true 37 uAs)],none⟩)],L50_22⟩
def B50_34(_n:Nat)(L:(Int×Int×Int×Int×uAb×Int×Int×Unit)×((Int×Int)×(List (List Int))×(List Int)×Unit)×Unit->Option uBi)(price_5:Int)(tokens_12:Int)(i_14:Int)(left_16:Int)(t_150:List (Int×Int))(t_151:Int)(t_152:Int)(o_15:Int×Int)(o_22:List (List Int))(o_4000149:List Int):Option uBi:=
  cond (decide (tokens_12>=o_15.1)) (inR i_14 o_22.length (qs o_22 i_14 λe45=>inR (IntKind.wrap .i64 (tokens_12-o_15.1)) e45.length (qs o_22 i_14 λe46=>qs e46 (IntKind.wrap .i64 (tokens_12-o_15.1)) λe47=>cond (decide (e47<1152921504606846976)) (inR i_14 o_22.length (qs o_22 i_14 λe48=>inR (IntKind.wrap .i64 (tokens_12-o_15.1)) e48.length (qs o_22 i_14 λe49=>qs e49 (IntKind.wrap .i64 (tokens_12-o_15.1)) λe50=>cond ((IntKind.wrap .i64 (e50+o_15.2))==left_16) (inR i_14 o_4000149.length (qs o_4000149 i_14 λe51=>inR i_14 o_4000149.length (qs o_4000149 i_14 λ_=>inR i_14 o_22.length (qs o_22 i_14 λe53=>inR (IntKind.wrap .i64 (tokens_12-o_15.1)) e53.length (qs o_22 i_14 λe54=>qs e54 (IntKind.wrap .i64 (tokens_12-o_15.1)) λe55=>L ((price_5,(IntKind.wrap .i64 (tokens_12-o_15.1)),i_14,e55,t_150,t_151,t_152,()),(o_15,o_22,(o_4000149.set i_14.toNat (IntKind.wrap .i64 (e51+1))),()),())))))) (some ((price_5,tokens_12,t_150,t_151,t_152,()),(o_22,o_4000149,()),()))))) (some ((price_5,tokens_12,t_150,t_151,t_152,()),(o_22,o_4000149,()),()))))) (some ((price_5,tokens_12,t_150,t_151,t_152,()),(o_22,o_4000149,()),()))
def L50_34:Nat->(Int×Int×Int×Int×uAb×Int×Int×Unit)×((Int×Int)×(List (List Int))×(List Int)×Unit)×Unit->Option uBi
  |0,_=>none
  |n+1,d=>B50_34 n (L50_34 n) d.1.1 d.1.2.1 d.1.2.2.1 d.1.2.2.2.1 d.1.2.2.2.2.1 d.1.2.2.2.2.2.1 d.1.2.2.2.2.2.2.1 d.2.1.1 d.2.1.2.1 d.2.1.2.2.1
def l50_34:j7:=⟨⟨[(4,.c (.view 4000149 [])),(5,.v zI),(7,.c (.view 22 [])),(12,.v zI),(14,.v zI),(15,.c (.ptr 15 [])),(16,.v zI),(150,.v uAo),(151,.v zI),(152,.v zI)],[(15,false,.str zTe),(22,true,.list true 37 uAs),(4000149,true,.list true 3 zI)],none⟩,[(.exit 10,⟨[(4,.c (.view 4000149 [])),(5,.v zI),(7,.c (.view 22 [])),(12,.v zI),(150,.v uAo),(151,.v zI),(152,.v zI)],[(22,true,.list true 37 uAs),(4000149,true,.list true 3 zI)],none⟩)],L50_34⟩
def B50_31(n:Nat)(L:uCf×uCg×Unit->Option (((Int×Unit)×uAp×Unit)))(price_5:Int)(tokens_12:Int)(t_150:List (Int×Int))(t_151:Int)(t_152:Int)(o_22:List (List Int))(o_4000149:List Int):Option (((Int×Unit)×uAp×Unit)):=
  cond (decide (t_152<t_151)) (qs t_150 t_152 λe41=>inR t_152 o_22.length (qs o_22 t_152 λe42=>inR tokens_12 e42.length (qs o_22 t_152 λe43=>qs e43 tokens_12 λe44=>qa (L50_34 n ((price_5,tokens_12,t_152,e44,t_150,t_151,t_152,()),(e41,o_22,o_4000149,()),())) λo56=>L ((o56.1.1,o56.1.2.1,o56.1.2.2.1,o56.1.2.2.2.1,(IntKind.wrap .i64 (o56.1.2.2.2.2.1+1)),()),(o56.2.1.1,o56.2.1.2.1,()),())))) (some ((price_5,()),(o_4000149,()),()))
def L50_31:Nat->uCf×uCg×Unit->Option (((Int×Unit)×uAp×Unit))
  |0,_=>none
  |n+1,d=>B50_31 n (L50_31 n) d.1.1 d.1.2.1 d.1.2.2.1 d.1.2.2.2.1 d.1.2.2.2.2.1 d.2.1.1 d.2.1.2.1
def l50_31:j7:=⟨⟨[(4,.c (.view 4000149 [])),(5,.v zI),(7,.c (.view 22 [])),(12,.v zI),(150,.v uAo),(151,.v zI),(152,.v zI)],[(22,true,.list true 37 uAs),(4000149,true,.list true 3 zI)],none⟩,[(.exit 8,⟨[(4,.c (.view 4000149 [])),(5,.v zI)],[(4000149,true,.list true 3 zI)],none⟩)],L50_31⟩
def F50(n:Nat)(l_0:uAb)(n_1:Int):Option uBw:=
  leK 0 (IntKind.wrap .i64 ((l_0.length:Int)+1)) (leK (IntKind.wrap .i64 ((l_0.length:Int)+1)) (IntKind.wrap .i64 ((l_0.length:Int)+1)) (ql (IntKind.wrap .i64 ((l_0.length:Int)+1)) (qa (L50_4 n ((l_0,n_1,(IntKind.wrap .i64 (n_1+1000)),((List.replicate (IntKind.wrap .i64 ((l_0.length:Int)+1)).toNat ([]:List Int)).length:Int),0,()),((List.replicate (IntKind.wrap .i64 ((l_0.length:Int)+1)).toNat ([]:List Int)),()),())) λo3=>inR (o3.1.1.length:Int) o3.2.1.1.length (qs o3.2.1.1 (o3.1.1.length:Int) λe4=>inR 0 e4.length (qs o3.2.1.1 (o3.1.1.length:Int) λe5=>qs e5 0 λ_=>qa (L50_10 n ((o3.1.1,o3.1.2.1,o3.1.2.2.1,(IntKind.wrap .i64 ((o3.1.1.length:Int)-1)),()),((o3.2.1.1.set (o3.1.1.length:Int).toNat (e5.set (0:Int).toNat 0)),()),())) λo30=>qa (L50_22 n ((o30.1.1,o30.1.2.2.1,o30.1.2.1,o30.1.2.1,()),(o30.2.1.1,()),())) λo37=>inR 0 o37.2.1.1.length (qs o37.2.1.1 0 λe38=>inR o37.1.2.1 e38.length (qs o37.2.1.1 0 λe39=>qs e39 o37.1.2.1 λe40=>cond (e40==1152921504606846976) (none) (leK 0 (o37.1.1.length:Int) (leK (o37.1.1.length:Int) (o37.1.1.length:Int) (ql (o37.1.1.length:Int) (qa (L50_31 n ((e40,o37.1.2.1,o37.1.1,(o37.1.1.length:Int),0,()),(o37.2.1.1,(List.replicate (o37.1.1.length:Int).toNat (0:Int)),()),())) λo57=>some ((o57.2.1.1,o57.1.1,()),()))))))))))))
def g50(d:uAb×Int×Unit):Option uBw:=F50 qn d.1 d.2.1
def p50:jE:=⟨[.v uAo,.v zI],[.sure true 3 zI,.v zI],g50⟩
def c50:jG:=⟨218,tyT,[(22,.list true 37 uAs),(4,.bool)],[(62,p62)],[(4,l50_4),(13,l50_13),(10,l50_10),(22,l50_22),(34,l50_34),(31,l50_31)],[],[1000149],[],[],[],[],[],[],[],none,[],[],[],none,none,[]⟩
theorem F50_eq(n:Nat)(d):jC c50 n Try.f50 (body Try.f50) p50.ps p50.rs d=F50 n d.1 d.2.1:=by kernel_rfl
theorem L50_4_eq(n:Nat)(d):(l50_4).g (n+1) d=run c50 n (nth 0 (qj (body Try.f50))) ((l50_4).ins.fill d) (jH (l50_4) n):=by kernel_rfl
theorem L50_10_eq(n:Nat)(d):(l50_10).g (n+1) d=run c50 n (nth 1 (qj (body Try.f50))) ((l50_10).ins.fill d) (jH (l50_10) n):=by kernel_rfl
theorem L50_13_eq(n:Nat)(d):(l50_13).g (n+1) d=run c50 n (nth 2 (qj (body Try.f50))) ((l50_13).ins.fill d) (jH (l50_13) n):=by kernel_rfl
theorem L50_22_eq(n:Nat)(d):(l50_22).g (n+1) d=run c50 n (nth 3 (qj (body Try.f50))) ((l50_22).ins.fill d) (jH (l50_22) n):=by kernel_rfl
theorem L50_31_eq(n:Nat)(d):(l50_31).g (n+1) d=run c50 n (nth 4 (qj (body Try.f50))) ((l50_31).ins.fill d) (jH (l50_31) n):=by kernel_rfl
theorem L50_34_eq(n:Nat)(d):(l50_34).g (n+1) d=run c50 n (nth 5 (qj (body Try.f50))) ((l50_34).ins.fill d) (jH (l50_34) n):=by kernel_rfl
theorem ls50:qj (body Try.f50)=[nth 0 (qj (body Try.f50)),nth 1 (qj (body Try.f50)),nth 2 (qj (body Try.f50)),nth 3 (qj (body Try.f50)),nth 4 (qj (body Try.f50)),nth 5 (qj (body Try.f50))]:=by kernel_rfl
theorem h50:qZ Try.prog 50 p50:=hQ (cfg:=c50) (qL qM (qo h62 qC) rfl (by kernel_rfl)) Try.func50 (by kernel_rfl) (by rw[ls50];simp only[List.forall_mem_cons];exact⟨jB (key:=4) (li:=l50_4) (by kernel_rfl) rfl (λ_=>rfl) (L50_4_eq),jB (key:=10) (li:=l50_10) (by kernel_rfl) rfl (λ_=>rfl) (L50_10_eq),jB (key:=13) (li:=l50_13) (by kernel_rfl) rfl (λ_=>rfl) (L50_13_eq),jB (key:=22) (li:=l50_22) (by kernel_rfl) rfl (λ_=>rfl) (L50_22_eq),jB (key:=31) (li:=l50_31) (by kernel_rfl) rfl (λ_=>rfl) (L50_31_eq),jB (key:=34) (li:=l50_34) (by kernel_rfl) rfl (λ_=>rfl) (L50_34_eq),λ_ h=>by cases h⟩) (by kernel_rfl) (F50_eq qn)
def F30(_n:Nat)(f_0:uAk)(n_1:Int):Option uBq:=
  qa (g50 (f_0.2.2.2.2.1,n_1,())) λy1=>some ((y1.1.1,y1.1.2.1,0,()),())
def g30(d:uAk×Int×Unit):Option uBq:=F30 qn d.1 d.2.1
def p30:jE:=⟨[.v (.str uAt),.v zI],[.own 3 zI,.v zI,.v zI],g30⟩
def c30:jG:=⟨20,tyT,[],[(50,p50)],[],[],[],[],[],[],[],[],[],[],none,[],[],[],none,none,[]⟩
theorem F30_eq(n:Nat)(d):jC c30 n Try.f30 (body Try.f30) p30.ps p30.rs d=F30 n d.1 d.2.1:=by kernel_rfl
theorem h30:qZ Try.prog 30 p30:=hQ (cfg:=c30) (qL qM (qo h50 qC) rfl (by kernel_rfl)) Try.func30 (by kernel_rfl) (qT (by kernel_rfl)) (by kernel_rfl) (F30_eq qn)
def F12(_n:Nat)(f_0:uAk)(n_1:Int):Option uBq:=
  qa (g28 (f_0,())) λy1=>cond (y1.1.1 !=0) (some ((([]:List Int),0,y1.1.1,()),())) (qa (g29 (n_1,0,1000,())) λy2=>cond (!y2.1.1) (some ((([]:List Int),0,1,()),())) (qa (g30 (f_0,n_1,())) λy3=>some ((y3.1.1,y3.1.2.1,y3.1.2.2.1,()),())))
def g12(d:uAk×Int×Unit):Option uBq:=F12 qn d.1 d.2.1
def p12:jE:=⟨[.v (.str uAt),.v zI],[.own 3 zI,.v zI,.v zI],g12⟩
def c12:jG:=⟨22,tyT,[],[(28,p28),(29,p29),(30,p30)],[],[],[],[],[],[],[],[],[],[],none,[],[],[],none,none,[]⟩
theorem F12_eq(n:Nat)(d):jC c12 n Try.f12 (body Try.f12) p12.ps p12.rs d=F12 n d.1 d.2.1:=by kernel_rfl
theorem d12:qD c12 (body Try.f12)=true:=by kernel_rfl
theorem h12:qZ Try.prog 12 p12:=hQ (cfg:=c12) (qL qM (qo h28 (qo h29 (qo h30 qC))) rfl (by kernel_rfl)) Try.func12 (by kernel_rfl) (qT (by kernel_rfl)) d12 (F12_eq qn)
def B13_4(_n:Nat)(L:((List Int)×(List Int)×Int×Unit)×(Unit)×Unit->Option (uAg ⊕ uAl))(a_0:List Int)(b_1:List Int)(i_5:Int):Option (uAg ⊕ uAl):=
  cond (decide (i_5<(a_0.length:Int))) (qs a_0 i_5 λe1=>qs b_1 i_5 λe2=>cond (e1 !=e2) (some (.inl ((false,()),(),()))) (L ((a_0,b_1,(IntKind.wrap .i64 (i_5+1)),()),(),()))) (some (.inr ((),(),())))
def L13_4:Nat->((List Int)×(List Int)×Int×Unit)×(Unit)×Unit->Option (uAg ⊕ uAl)
  |0,_=>none
  |n+1,d=>B13_4 n (L13_4 n) d.1.1 d.1.2.1 d.1.2.2.1
def l13_4:j7:=⟨⟨[(0,.v uAe),(1,.v uAe),(5,.v zI)],[],none⟩,[(.ret,⟨[(4,.v .bool)],[],none⟩),(.exit 0,⟨[],[],none⟩)],L13_4⟩
def F13(n:Nat)(a_0:(List Int))(b_1:(List Int)):Option uAd:=
  cond ((a_0.length:Int) !=(b_1.length:Int)) (some ((false,()),())) (qa (L13_4 n ((a_0,b_1,0,()),(),())) λo3=>qbk o3 (λd4=>some ((d4.1.1,()),())) (λ_=>some ((true,()),())))
def g13(d:(List Int)×(List Int)×Unit):Option uAd:=F13 qn d.1 d.2.1
def p13:jE:=⟨[.v uAe,.v uAe],[.v .bool],g13⟩
def c13:jG:=⟨26,tyT,[],[],[(4,l13_4)],[],[],[],[],[],[],[],[],[],none,[],[],[],none,none,[]⟩
theorem F13_eq(n:Nat)(d):jC c13 n Try.f13 (body Try.f13) p13.ps p13.rs d=F13 n d.1 d.2.1:=by kernel_rfl
theorem L13_4_eq(n:Nat)(d):(l13_4).g (n+1) d=run c13 n (nth 0 (qj (body Try.f13))) ((l13_4).ins.fill d) (jH (l13_4) n):=by kernel_rfl
theorem ls13:qj (body Try.f13)=[nth 0 (qj (body Try.f13))]:=by kernel_rfl
theorem d13:qD c13 (body Try.f13)=true:=by kernel_rfl
theorem h13:qZ Try.prog 13 p13:=hQ (cfg:=c13) (qL qM (qC) rfl (by kernel_rfl)) Try.func13 (by kernel_rfl) (by rw[ls13];simp only[List.forall_mem_cons];exact⟨jB (key:=4) (li:=l13_4) (by kernel_rfl) rfl (λ_=>rfl) (L13_4_eq),λ_ h=>by cases h⟩) d13 (F13_eq qn)
def F5(_n:Nat):Option uAd:=
  qbA ((0:Int),(0:Int),[5],[0],[(1,200),(6,1000)],(0:Int),(0:Int),1) λz1=>qa (g12 (z1,7,())) λy2=>cond (y2.1.2.2.1==0) (cond (y2.1.2.1==1200) (qa (g13 (y2.1.1,[1,1],())) λy3=>some ((y3.1.1,()),())) (some ((false,()),()))) (some ((false,()),()))
def g5(_d:Unit):Option uAd:=F5 qn 
def p5:jE:=⟨[],[.v .bool],g5⟩
def c5:jG:=⟨28,tyT,[],[(12,p12),(13,p13)],[],[],[],[],[],[],[],[],[],[],none,[],[],[],none,none,[]⟩
theorem F5_eq(n:Nat)(d):jC c5 n Try.f5 (body Try.f5) p5.ps p5.rs d=F5 n:=by kernel_rfl
theorem d5:qD c5 (body Try.f5)=true:=by kernel_rfl
theorem h5:qZ Try.prog 5 p5:=hQ (cfg:=c5) (qL qM (qo h12 (qo h13 qC)) rfl (by kernel_rfl)) Try.func5 (by kernel_rfl) (qT (by kernel_rfl)) d5 (F5_eq qn)
def F15(_n:Nat)(n_0:Int)(low_1:Int)(high_2:Int):Option uAd:=
  cond (decide (n_0>=low_1)) (some (((decide (n_0<=high_2)),()),())) (some ((false,()),()))
def g15(d:Int×Int×Int×Unit):Option uAd:=F15 qn d.1 d.2.1 d.2.2.1
def p15:jE:=⟨[.v zI,.v zI,.v zI],[.v .bool],g15⟩
def c15:jG:=⟨15,tyT,[],[],[],[],[],[],[],[],[],[],[],[],none,[],[],[],none,none,[]⟩
theorem F15_eq(n:Nat)(d):jC c15 n Try.f15 (body Try.f15) p15.ps p15.rs d=F15 n d.1 d.2.1 d.2.2.1:=by kernel_rfl
theorem h15:qZ Try.prog 15 p15:=hQ (cfg:=c15) (qL qM (qC) rfl (by kernel_rfl)) Try.func15 (by kernel_rfl) (qT (by kernel_rfl)) (by kernel_rfl) (F15_eq qn)
def F31(_n:Nat)(s_0:(List Int)):Option uCj:=
  nilK s_0.length λb1=>cond b1 (some ((([]:List Int),()),())) (ql ((([]:List Int).length:Int)+s_0.length) (some (((([]:List Int)++s_0),()),())))
def g31(d:(List Int)×Unit):Option (uAp×Unit):=ql (d.1.length:Int) (some ((d.1,()),()))
def p31:jE:=⟨[.v uAe],[.own 3 zI],g31⟩
def c31:jG:=⟨8,tyT,[],[],[],[],[],[],[],[],[],[],[],[],none,[],[],[],none,none,[]⟩
theorem F31_eq(n:Nat)(d):jC c31 n Try.f31 (body Try.f31) p31.ps p31.rs d=F31 n d.1:=by kernel_rfl
theorem h31:qZ Try.prog 31 p31:=qnA mixed (cfg:=c31) (qL qM (qC) rfl (by kernel_rfl)) Try.func31 rfl rfl (by kernel_rfl) rfl (qT (by kernel_rfl)) (by kernel_rfl) (λd y h=>⟨qn,(F31_eq qn d).trans (by
  change g31 d=some y at h
  unfold g31 at h
  rw[jR]at h
  split at h
  · rename_i hl
    cases h
    unfold F31
    refine nilK_of (λh0=>?_) ?_
    · rw[List.eq_nil_of_length_eq_zero h0];rfl
    · rw[cond_false,jR,if_pos (by simpa using hl)];rfl
  · cases h)⟩)
def rev_ren:Go.Shelf.Ren:=⟨fun|112=>32|n=>n,fun|28=>37|n=>n,λn=>n⟩
theorem rev_lays:Go.Proofs.Lays.n112 Try.prog rev_ren:={mixed:=by kernel_rfl,f112:=by kernel_rfl,t0:=by kernel_rfl,a0:=λw=>by kernel_rfl,z0:=λw=>by kernel_rfl,v0:=λw=>by kernel_rfl,t3:=by kernel_rfl,a3:=λw=>by kernel_rfl,z3:=λw=>by kernel_rfl,v3:=λw=>by kernel_rfl,t4:=by kernel_rfl,a4:=λw=>by kernel_rfl,z4:=λw=>by kernel_rfl,v4:=λw=>by kernel_rfl,t28:=by kernel_rfl,a28:=λw=>by kernel_rfl,z28:=λw=>by kernel_rfl,v28:=λw=>by kernel_rfl}
def g32(d:(List Int)×Unit):Option (Unit×(List Int)×Unit):=some ((),(d.1.reverse,()))
def p32:jE:=⟨[.mr 3 zI],[],g32⟩
theorem h32:qZ Try.prog 32 p32:=qkh rev_lays (qY Try.func32 rfl (by kernel_rfl)) 3
def B16_10(_n:Nat)(L:(Int×Int×(List Int)×(List (List Int))×Int×Int×(List Int)×Int×Int×Unit)×uBo×Unit->Option (uAm ⊕ (uBf×uBo×Unit)))(n_6:Int)(many_8:Int)(van_11:List Int)(t_31:List (List Int))(t_32:Int)(t_33:Int)(t_37:List Int)(t_38:Int)(t_39:Int)(o_23:zTd×uBv)(o_30:List Int):Option (uAm ⊕ (uBf×uBo×Unit)):=
  cond (decide (t_39<t_38)) (qs t_37 t_39 λe3=>qa (g15 (e3,0,(IntKind.wrap .i64 (n_6-1)),())) λy4=>cond (!y4.1.1) (some (.inl ((none,false,()),(),()))) (inR e3 o_30.length (qs o_30 e3 λe5=>cond (decide (e5>0)) (some (.inl ((none,false,()),(),()))) (inR e3 o_30.length (qs o_30 e3 λ_=>leK 0 (IntKind.wrap .i64 (t_39+1)) (leK (IntKind.wrap .i64 (t_39+1)) (van_11.length:Int) (inR e3 o_23.2.1.length (qs o_23.2.1 e3 λ_=>qbA (o_23.1,((o_23.2.1.set e3.toNat (van_11.drop (IntKind.wrap .i64 (t_39+1)).toNat)),o_23.2.2)) λz8=>qcE (λ(y9:uAp×(Unit))=>inR e3 (((z8.1,(z8.2.1,(z8.2.2.set e3.toNat y9.1.1))).2).2).length (qs (((z8.1,(z8.2.1,(z8.2.2.set e3.toNat y9.1.1))).2).2) e3 λe11=>qa (g32 (e11,())) λy12=>qs (((z8.1,(z8.2.1,(z8.2.2.set e3.toNat y9.1.1))).2).2) e3 λ_=>qbA ((z8.1,(z8.2.1,(z8.2.2.set e3.toNat y9.1.1))).1,(((z8.1,(z8.2.1,(z8.2.2.set e3.toNat y9.1.1))).2).1,((((z8.1,(z8.2.1,(z8.2.2.set e3.toNat y9.1.1))).2).2).set e3.toNat y12.2.1))) λz14=>L ((n_6,(IntKind.wrap .i64 (many_8+1)),van_11,t_31,t_32,t_33,t_37,t_38,(IntKind.wrap .i64 (t_39+1)),()),(z14,(o_30.set e3.toNat 1),()),()))) λE=>leK 0 t_39 (leK t_39 (van_11.length:Int) (qc [qa (g31 ((van_11.take t_39.toNat),())) λy9=>inR e3 z8.2.2.length (qs z8.2.2 e3 λ_=>E y9),qa (g31 ((van_11.take t_39.toNat),())) λy15=>inR e3 z8.2.2.length (qs z8.2.2 e3 λ_=>E y15)])))))))))) (some (.inr ((n_6,many_8,t_31,t_32,t_33,()),(o_23,o_30,()),())))
def L16_10:Nat->(Int×Int×(List Int)×(List (List Int))×Int×Int×(List Int)×Int×Int×Unit)×uBo×Unit->Option (uAm ⊕ (uBf×uBo×Unit))
  |0,_=>none
  |n+1,d=>B16_10 n (L16_10 n) d.1.1 d.1.2.1 d.1.2.2.1 d.1.2.2.2.1 d.1.2.2.2.2.1 d.1.2.2.2.2.2.1 d.1.2.2.2.2.2.2.1 d.1.2.2.2.2.2.2.2.1 d.1.2.2.2.2.2.2.2.2.1 d.2.1.1 d.2.1.2.1
def l16_10:j7:=⟨⟨[(6,.v zI),(7,.c (.ptr 23 [])),(8,.v zI),(9,.c (.view 30 [])),(11,.v uAe),(31,.v zTh),(32,.v zI),(33,.v zI),(37,.v uAe),(38,.v zI),(39,.v zI)],[(23,false,.str uBb),(30,true,.list true 3 zI)],none⟩,[(.ret,⟨[(4,.v (.ptr uAu)),(5,.v .bool)],[],none⟩),(.exit 2,⟨[(6,.v zI),(7,.c (.ptr 23 [])),(8,.v zI),(9,.c (.view 30 [])),(31,.v zTh),(32,.v zI),(33,.v zI)],[(23,false,.str uBb),(30,true,.list true 3 zI)],none⟩)],L16_10⟩
def B16_7(n:Nat)(L:uBf×uBo×Unit->Option (uAm ⊕ (uBg×(zTi×Unit)×Unit)))(n_6:Int)(many_8:Int)(t_31:List (List Int))(t_32:Int)(t_33:Int)(o_23:zTd×uBv)(o_30:List Int):Option (uAm ⊕ (uBg×(zTi×Unit)×Unit)):=
  cond (decide (t_33<t_32)) (qs t_31 t_33 λe2=>qa (L16_10 n ((n_6,many_8,e2,t_31,t_32,t_33,e2,(e2.length:Int),0,()),(o_23,o_30,()),())) λo17=>qbk o17 (λd18=>some (.inl ((d18.1.1,d18.1.2.1,()),(),()))) (λd19=>L ((d19.1.1,d19.1.2.1,d19.1.2.2.1,d19.1.2.2.2.1,(IntKind.wrap .i64 (d19.1.2.2.2.2.1+1)),()),(d19.2.1.1,d19.2.1.2.1,()),()))) (some (.inr ((n_6,many_8,()),(o_23,()),())))
def L16_7:Nat->uBf×uBo×Unit->Option (uAm ⊕ (uBg×(zTi×Unit)×Unit))
  |0,_=>none
  |n+1,d=>B16_7 n (L16_7 n) d.1.1 d.1.2.1 d.1.2.2.1 d.1.2.2.2.1 d.1.2.2.2.2.1 d.2.1.1 d.2.1.2.1
def l16_7:j7:=⟨⟨[(6,.v zI),(7,.c (.ptr 23 [])),(8,.v zI),(9,.c (.view 30 [])),(31,.v zTh),(32,.v zI),(33,.v zI)],[(23,false,.str uBb),(30,true,.list true 3 zI)],none⟩,[(.ret,⟨[(4,.v (.ptr uAu)),(5,.v .bool)],[],none⟩),(.exit 0,⟨[(6,.v zI),(7,.c (.ptr 23 [])),(8,.v zI)],[(23,false,.str uBb)],none⟩)],L16_7⟩
def F16(n:Nat)(k_0:zTd)(vans_1:(List (List Int))):Option uBu:=
  qcE (qbA ((((k_0,(List.replicate (k_0.1.length:Int).toNat ([]:List Int)),(List.replicate (k_0.1.length:Int).toNat ([]:List Int))).1).1,((((k_0,(List.replicate (k_0.1.length:Int).toNat ([]:List Int)),(List.replicate (k_0.1.length:Int).toNat ([]:List Int))).1).2).1,vans_1)),(k_0,(List.replicate (k_0.1.length:Int).toNat ([]:List Int)),(List.replicate (k_0.1.length:Int).toNat ([]:List Int))).2) λz1=>leK 0 (k_0.1.length:Int) (leK (k_0.1.length:Int) (k_0.1.length:Int) (ql (k_0.1.length:Int) (qa (L16_7 n (((k_0.1.length:Int),0,vans_1,(vans_1.length:Int),0,()),(z1,(List.replicate (k_0.1.length:Int).toNat (0:Int)),()),())) λo20=>qbk o20 (λd21=>some ((d21.1.1,d21.1.2.1,()),())) (λd22=>some (((some d22.2.1.1),(d22.1.2.1==d22.1.1),()),())))))) λE=>qc [qc [leK 0 (k_0.1.length:Int) (leK (k_0.1.length:Int) (k_0.1.length:Int) (ql (k_0.1.length:Int) (leK 0 (k_0.1.length:Int) (leK (k_0.1.length:Int) (k_0.1.length:Int) (ql (k_0.1.length:Int) (E)))))),leK 0 (k_0.1.length:Int) (leK (k_0.1.length:Int) (k_0.1.length:Int) (ql (k_0.1.length:Int) (leK 0 (k_0.1.length:Int) (leK (k_0.1.length:Int) (k_0.1.length:Int) (ql (k_0.1.length:Int) (E))))))],leK 0 (k_0.1.length:Int) (leK (k_0.1.length:Int) (k_0.1.length:Int) (ql (k_0.1.length:Int) (qc [leK 0 (k_0.1.length:Int) (leK (k_0.1.length:Int) (k_0.1.length:Int) (ql (k_0.1.length:Int) (E))),leK 0 (k_0.1.length:Int) (leK (k_0.1.length:Int) (k_0.1.length:Int) (ql (k_0.1.length:Int) (E)))]))),leK 0 (k_0.1.length:Int) (leK (k_0.1.length:Int) (k_0.1.length:Int) (ql (k_0.1.length:Int) (qc [leK 0 (k_0.1.length:Int) (leK (k_0.1.length:Int) (k_0.1.length:Int) (ql (k_0.1.length:Int) (E))),leK 0 (k_0.1.length:Int) (leK (k_0.1.length:Int) (k_0.1.length:Int) (ql (k_0.1.length:Int) (E)))])))]
def g16(d:zTd×(List (List Int))×Unit):Option uBu:=F16 qn d.1 d.2.1
def p16:jE:=⟨[.v (.str zTb),.v zTh],[.v (.ptr uAu),.v .bool],g16⟩
def c16:jG:=⟨95,tyT,[(21,.list true 37 uAs),(22,.str uBb)],[(15,p15),(31,p31),(32,p32)],[(10,l16_10),(7,l16_7)],[],[2,17],[],[],[],[],[],[],[],none,[],[],[],none,none,[]⟩
theorem F16_eq(n:Nat)(d):jC c16 n Try.f16 (body Try.f16) p16.ps p16.rs d=F16 n d.1 d.2.1:=by kernel_rfl
theorem L16_7_eq(n:Nat)(d):(l16_7).g (n+1) d=run c16 n (nth 0 (qj (body Try.f16))) ((l16_7).ins.fill d) (jH (l16_7) n):=by kernel_rfl
theorem L16_10_eq(n:Nat)(d):(l16_10).g (n+1) d=run c16 n (nth 1 (qj (body Try.f16))) ((l16_10).ins.fill d) (jH (l16_10) n):=by kernel_rfl
theorem ls16:qj (body Try.f16)=[nth 0 (qj (body Try.f16)),nth 1 (qj (body Try.f16))]:=by kernel_rfl
theorem h16:qZ Try.prog 16 p16:=hQ (cfg:=c16) (qL qM (qo h15 (qo h31 (qo h32 qC))) rfl (by kernel_rfl)) Try.func16 (by kernel_rfl) (by rw[ls16];simp only[List.forall_mem_cons];exact⟨jB (key:=7) (li:=l16_7) (by kernel_rfl) rfl (λ_=>rfl) (L16_7_eq),jB (key:=10) (li:=l16_10) (by kernel_rfl) rfl (λ_=>rfl) (L16_10_eq),λ_ h=>by cases h⟩) (by kernel_rfl) (F16_eq qn)
def B14_11(_n:Nat)(L:(Int×Int×Int×(List zTj)×Int×Int×(List Int)×Int×Int×Unit)×(zTd×Unit)×Unit->Option (uAm ⊕ (uBm×(zTd×Unit)×Unit)))(n_4:Int)(i_5:Int)(last_7:Int)(t_28:List zTj)(t_29:Int)(t_30:Int)(t_52:List Int)(t_53:Int)(t_54:Int)(o_1:(List zTj)×uCb):Option (uAm ⊕ (uBm×(zTd×Unit)×Unit)):=
  cond (decide (t_54<t_53)) (qs t_52 t_54 λe6=>cond (decide (e6<=last_7)) (some (.inl ((none,false,()),(),()))) (cond (decide (e6>=n_4)) (some (.inl ((none,false,()),(),()))) (cond (e6==i_5) (some (.inl ((none,false,()),(),()))) (L ((n_4,i_5,e6,t_28,t_29,t_30,t_52,t_53,(IntKind.wrap .i64 (t_54+1)),()),(o_1,()),()))))) (some (.inr ((n_4,t_28,t_29,t_30,()),(o_1,()),())))
def L14_11:Nat->(Int×Int×Int×(List zTj)×Int×Int×(List Int)×Int×Int×Unit)×(zTd×Unit)×Unit->Option (uAm ⊕ (uBm×(zTd×Unit)×Unit))
  |0,_=>none
  |n+1,d=>B14_11 n (L14_11 n) d.1.1 d.1.2.1 d.1.2.2.1 d.1.2.2.2.1 d.1.2.2.2.2.1 d.1.2.2.2.2.2.1 d.1.2.2.2.2.2.2.1 d.1.2.2.2.2.2.2.2.1 d.1.2.2.2.2.2.2.2.2.1 d.2.1.1
def l14_11:j7:=⟨⟨[(1,.c (.ptr 1 [])),(4,.v zI),(5,.v zI),(7,.v zI),(28,.v uAx),(29,.v zI),(30,.v zI),(52,.v uAe),(53,.v zI),(54,.v zI)],[(1,false,.str zTb)],none⟩,[(.ret,⟨[(2,.v (.ptr uAu)),(3,.v .bool)],[],none⟩),(.exit 2,⟨[(1,.c (.ptr 1 [])),(4,.v zI),(28,.v uAx),(29,.v zI),(30,.v zI)],[(1,false,.str zTb)],none⟩)],L14_11⟩
def B14_5(n:Nat)(L:uBm×(zTd×Unit)×Unit->Option (uAm ⊕ ((Unit)×(zTd×Unit)×Unit)))(n_4:Int)(t_28:List zTj)(t_29:Int)(t_30:Int)(o_1:(List zTj)×uCb):Option (uAm ⊕ ((Unit)×(zTd×Unit)×Unit)):=
  cond (decide (t_30<t_29)) (qs t_28 t_30 λe2=>qa (g15 (e2.1,1,1000000,())) λy3=>cond (!y3.1.1) (some (.inl ((none,false,()),(),()))) (qa (g15 (e2.2.1,1,100,())) λy4=>cond (!y4.1.1) (some (.inl ((none,false,()),(),()))) (qa (g15 (e2.2.2.1,0,9,())) λy5=>cond (!y5.1.1) (some (.inl ((none,false,()),(),()))) (qa (L14_11 n ((n_4,t_30,(-1),t_28,t_29,t_30,e2.2.2.2,(e2.2.2.2.length:Int),0,()),(o_1,()),())) λo7=>qbk o7 (λd8=>some (.inl ((d8.1.1,d8.1.2.1,()),(),()))) (λd9=>L ((d9.1.1,d9.1.2.1,d9.1.2.2.1,(IntKind.wrap .i64 (d9.1.2.2.2.1+1)),()),(d9.2.1.1,()),())))))) (some (.inr ((),(o_1,()),())))
def L14_5:Nat->uBm×(zTd×Unit)×Unit->Option (uAm ⊕ ((Unit)×(zTd×Unit)×Unit))
  |0,_=>none
  |n+1,d=>B14_5 n (L14_5 n) d.1.1 d.1.2.1 d.1.2.2.1 d.1.2.2.2.1 d.2.1.1
def l14_5:j7:=⟨⟨[(1,.c (.ptr 1 [])),(4,.v zI),(28,.v uAx),(29,.v zI),(30,.v zI)],[(1,false,.str zTb)],none⟩,[(.ret,⟨[(2,.v (.ptr uAu)),(3,.v .bool)],[],none⟩),(.exit 0,⟨[(1,.c (.ptr 1 []))],[(1,false,.str zTb)],none⟩)],L14_5⟩
def F14(n:Nat)(k_0:zTd):Option uBu:=
  cond (decide ((k_0.1.length:Int)>16)) (some ((none,false,()),())) (cond (decide ((k_0.2.2.length:Int)>6)) (some ((none,false,()),())) (qa (g15 (k_0.2.1,1,1000000,())) λy1=>cond (!y1.1.1) (some ((none,false,()),())) (qa (L14_5 n (((k_0.1.length:Int),k_0.1,(k_0.1.length:Int),0,()),(k_0,()),())) λo10=>qbk o10 (λd11=>some ((d11.1.1,d11.1.2.1,()),())) (λd12=>qa (g16 (d12.2.1.1,d12.2.1.1.2.2,())) λy13=>some ((y13.1.1,y13.1.2.1,()),())))))
def g14(d:zTd×Unit):Option uBu:=F14 qn d.1
def p14:jE:=⟨[.v (.str zTb)],[.v (.ptr uAu),.v .bool],g14⟩
def c14:jG:=⟨80,tyT,[],[(15,p15),(16,p16)],[(11,l14_11),(5,l14_5)],[],[],[],[],[],[],[],[],[],none,[],[],[],none,none,[]⟩
theorem F14_eq(n:Nat)(d):jC c14 n Try.f14 (body Try.f14) p14.ps p14.rs d=F14 n d.1:=by kernel_rfl
theorem L14_5_eq(n:Nat)(d):(l14_5).g (n+1) d=run c14 n (nth 0 (qj (body Try.f14))) ((l14_5).ins.fill d) (jH (l14_5) n):=by kernel_rfl
theorem L14_11_eq(n:Nat)(d):(l14_11).g (n+1) d=run c14 n (nth 1 (qj (body Try.f14))) ((l14_11).ins.fill d) (jH (l14_11) n):=by kernel_rfl
theorem ls14:qj (body Try.f14)=[nth 0 (qj (body Try.f14)),nth 1 (qj (body Try.f14))]:=by kernel_rfl
theorem h14:qZ Try.prog 14 p14:=hQ (cfg:=c14) (qL qM (qo h15 (qo h16 qC)) rfl (by kernel_rfl)) Try.func14 (by kernel_rfl) (by rw[ls14];simp only[List.forall_mem_cons];exact⟨jB (key:=5) (li:=l14_5) (by kernel_rfl) rfl (λ_=>rfl) (L14_5_eq),jB (key:=11) (li:=l14_11) (by kernel_rfl) rfl (λ_=>rfl) (L14_11_eq),λ_ h=>by cases h⟩) (by kernel_rfl) (F14_eq qn)
def F63(_n:Nat)(p_0:Int)(t_1:(List Bool)):Option uAd:=
  qs t_1 p_0 λe1=>some (((!e1),()),())
def g63(d:Int×(List Bool)×Unit):Option uAd:=F63 qn d.1 d.2.1
def p63:jE:=⟨[.v zI,.r (.list false 4 .bool)],[.v .bool],g63⟩
def c63:jG:=⟨9,tyT,[],[],[],[],[],[],[],[],[],[],[],[],none,[],[],[],none,none,[]⟩
theorem F63_eq(n:Nat)(d):jC c63 n Try.f63 (body Try.f63) p63.ps p63.rs d=F63 n d.1 d.2.1:=by kernel_rfl
theorem h63:qZ Try.prog 63 p63:=hQ (cfg:=c63) (qL qM (qC) rfl (by kernel_rfl)) Try.func63 (by kernel_rfl) (qT (by kernel_rfl)) (by kernel_rfl) (F63_eq qn)
def F51(_n:Nat)(s_0:(List Bool))(l_1:(List Int)):Option uAd:=
  qa (g47 (l_1,(λv1=>qa (g63 (v1,s_0,())) λy2=>some y2.1.1),())) λy3=>some (((!y3.1.1),()),())
def g51(d:(List Bool)×(List Int)×Unit):Option uAd:=F51 qn d.1 d.2.1
def p51:jE:=⟨[.v (.list false 4 .bool),.v uAe],[.v .bool],g51⟩
def c51:jG:=⟨9,tyT,[],[(47,p47),(63,p63)],[],[],[],[],[],[],[],[],[],[],none,[],[],[],none,none,[]⟩
theorem F51_eq(n:Nat)(d):jC c51 n Try.f51 (body Try.f51) p51.ps p51.rs d=F51 n d.1 d.2.1:=by kernel_rfl
theorem h51:qZ Try.prog 51 p51:=hQ (cfg:=c51) (qL qM (qo h47 (qo h63 qC)) rfl (by kernel_rfl)) Try.func51 (by kernel_rfl) (qT (by kernel_rfl)) (by kernel_rfl) (F51_eq qn)
def F33(_n:Nat)(y_0:zTi)(s_1:(List Bool))(p_2:Int):Option uAd:=
  qs s_1 p_2 λe1=>cond (!e1) (qs y_0.1.1 p_2 λe2=>qa (g51 (s_1,e2.2.2.2,())) λy3=>cond y3.1.1 (qs y_0.1.1 p_2 λe4=>cond (decide (e4.1<=y_0.1.2.1)) (qs y_0.2.1 p_2 λe5=>qa (g51 (s_1,e5,())) λy6=>some ((y6.1.1,()),())) (some ((false,()),()))) (some ((false,()),()))) (some ((false,()),()))
def g33(d:zTi×(List Bool)×Int×Unit):Option uAd:=F33 qn d.1 d.2.1 d.2.2.1
def p33:jE:=⟨[.r uAu,.v (.list false 4 .bool),.v zI],[.v .bool],g33⟩
def c33:jG:=⟨53,tyT,[],[(51,p51)],[],[],[],[],[],[],[],[],[],[],none,[],[],[],none,none,[]⟩
theorem F33_eq(n:Nat)(d):jC c33 n Try.f33 (body Try.f33) p33.ps p33.rs d=F33 n d.1 d.2.1 d.2.2.1:=by kernel_rfl
theorem h33:qZ Try.prog 33 p33:=hQ (cfg:=c33) (qL qM (qo h51 qC) rfl (by kernel_rfl)) Try.func33 (by kernel_rfl) (qT (by kernel_rfl)) (by kernel_rfl) (F33_eq qn)
def B17_3(_n:Nat)(L:(zTi×Int×Unit)×uBh×Unit->Option (((Unit)×uBh×Unit)))(y_0:zTd×uBv)(p_4:Int)(o_2:List Int)(o_11:List Bool):Option (((Unit)×uBh×Unit)):=
  cond (decide (p_4<(o_11.length:Int))) (qa (g33 (y_0,o_11,p_4,())) λy1=>cond y1.1.1 (inR p_4 o_11.length (qs o_11 p_4 λ_=>ql ((o_2.length:Int)+[p_4].length) (L ((y_0,(IntKind.wrap .i64 ((-1)+1)),()),((o_2++[p_4]),(o_11.set p_4.toNat true),()),())))) (L ((y_0,(IntKind.wrap .i64 (p_4+1)),()),(o_2,o_11,()),()))) (some ((),(o_2,o_11,()),()))
def L17_3:Nat->(zTi×Int×Unit)×uBh×Unit->Option (((Unit)×uBh×Unit))
  |0,_=>none
  |n+1,d=>B17_3 n (L17_3 n) d.1.1 d.1.2.1 d.2.1.1 d.2.1.2.1
def l17_3:j7:=⟨⟨[(0,.r uAu),(2,.c (.view 2 [])),(3,.c (.view 11 [])),(4,.v zI)],[(2,true,.list true 3 zI),(11,true,.list true 4 .bool)],none⟩,[(.exit 0,⟨[(2,.c (.view 2 [])),(3,.c (.view 11 []))],[(2,true,.list true 3 zI),(11,true,.list true 4 .bool)],none⟩)],L17_3⟩
def F17(n:Nat)(y_0:zTi):Option (uBh×(Unit)):=
  leK 0 (y_0.1.1.length:Int) (leK (y_0.1.1.length:Int) (y_0.1.1.length:Int) (ql (y_0.1.1.length:Int) (qa (L17_3 n ((y_0,0,()),(([]:List Int),(List.replicate (y_0.1.1.length:Int).toNat false),()),())) λo3=>some ((o3.2.1.1,o3.2.1.2.1,()),()))))
def g17(d:zTi×Unit):Option (uBh×(Unit)):=F17 qn d.1
def p17:jE:=⟨[.r uAu],[.own 3 zI,.own 4 .bool],g17⟩
def c17:jG:=⟨31,tyT,[],[(33,p33)],[(3,l17_3)],[],[],[],[],[],[],[],[],[],none,[],[],[],none,none,[]⟩
theorem F17_eq(n:Nat)(d):jC c17 n Try.f17 (body Try.f17) p17.ps p17.rs d=F17 n d.1:=by kernel_rfl
theorem L17_3_eq(n:Nat)(d):(l17_3).g (n+1) d=run c17 n (nth 0 (qj (body Try.f17))) ((l17_3).ins.fill d) (jH (l17_3) n):=by kernel_rfl
theorem ls17:qj (body Try.f17)=[nth 0 (qj (body Try.f17))]:=by kernel_rfl
theorem h17:qZ Try.prog 17 p17:=hQ (cfg:=c17) (qL qM (qo h33 qC) rfl (by kernel_rfl)) Try.func17 (by kernel_rfl) (by rw[ls17];simp only[List.forall_mem_cons];exact⟨jB (key:=3) (li:=l17_3) (by kernel_rfl) rfl (λ_=>rfl) (L17_3_eq),λ_ h=>by cases h⟩) (by kernel_rfl) (F17_eq qn)
def B34_2(_n:Nat)(L:((List zTj)×(zTj->Option Bool)×Int×Int×Unit)×(Unit)×Unit->Option (uAh ⊕ uAl))(s_0:List zTj)(f_1:zTj->Option Bool)(t_7:Int)(t_8:Int):Option (uAh ⊕ uAl):=
  cond (decide (t_8<t_7)) (qs s_0 t_8 λe1=>qa (f_1 e1) λy2=>cond y2 (some (.inl ((t_8,()),(),()))) (L ((s_0,f_1,t_7,(IntKind.wrap .i64 (t_8+1)),()),(),()))) (some (.inr ((),(),())))
def L34_2:Nat->((List zTj)×(zTj->Option Bool)×Int×Int×Unit)×(Unit)×Unit->Option (uAh ⊕ uAl)
  |0,_=>none
  |n+1,d=>B34_2 n (L34_2 n) d.1.1 d.1.2.1 d.1.2.2.1 d.1.2.2.2.1
def l34_2:j7:=⟨⟨[(0,.v uAx),(1,.v (.fn zTf .bool)),(7,.v zI),(8,.v zI)],[],none⟩,[(.ret,⟨[(4,.v zI)],[],none⟩),(.exit 0,⟨[],[],none⟩)],L34_2⟩
def F34(n:Nat)(s_0:(List zTj))(f_1:(zTj->Option Bool)):Option uAn:=
  qa (L34_2 n ((s_0,f_1,(s_0.length:Int),0,()),(),())) λo3=>qbk o3 (λd4=>some ((d4.1.1,()),())) (λ_=>some (((-1),()),()))
def g34(d:(List zTj)×(zTj->Option Bool)×Unit):Option uAn:=F34 qn d.1 d.2.1
def p34:jE:=⟨[.v uAx,.v (.fn zTf .bool)],[.v zI],g34⟩
def c34:jG:=⟨19,tyT,[],[],[(2,l34_2)],[],[],[],[],[],[],[],[],[],none,[],[],[],none,none,[]⟩
theorem F34_eq(n:Nat)(d):jC c34 n Try.f34 (body Try.f34) p34.ps p34.rs d=F34 n d.1 d.2.1:=by kernel_rfl
theorem L34_2_eq(n:Nat)(d):(l34_2).g (n+1) d=run c34 n (nth 0 (qj (body Try.f34))) ((l34_2).ins.fill d) (jH (l34_2) n):=by kernel_rfl
theorem ls34:qj (body Try.f34)=[nth 0 (qj (body Try.f34))]:=by kernel_rfl
theorem h34:qZ Try.prog 34 p34:=hQ (cfg:=c34) (qL qM (qC) rfl (by kernel_rfl)) Try.func34 (by kernel_rfl) (by rw[ls34];simp only[List.forall_mem_cons];exact⟨jB (key:=2) (li:=l34_2) (by kernel_rfl) rfl (λ_=>rfl) (L34_2_eq),λ_ h=>by cases h⟩) (by kernel_rfl) (F34_eq qn)
def F18(_n:Nat)(s_0:(List zTj))(f_1:(zTj->Option Bool)):Option uAd:=
  qa (g34 (s_0,f_1,())) λy1=>some (((decide (y1.1.1>=0)),()),())
def g18(d:(List zTj)×(zTj->Option Bool)×Unit):Option uAd:=F18 qn d.1 d.2.1
def p18:jE:=⟨[.v uAx,.v (.fn zTf .bool)],[.v .bool],g18⟩
def c18:jG:=⟨9,tyT,[],[(34,p34)],[],[],[],[],[],[],[],[],[],[],none,[],[],[],none,none,[]⟩
theorem F18_eq(n:Nat)(d):jC c18 n Try.f18 (body Try.f18) p18.ps p18.rs d=F18 n d.1 d.2.1:=by kernel_rfl
theorem d18:qD c18 (body Try.f18)=true:=by kernel_rfl
theorem h18:qZ Try.prog 18 p18:=hQ (cfg:=c18) (qL qM (qo h34 qC) rfl (by kernel_rfl)) Try.func18 (by kernel_rfl) (qT (by kernel_rfl)) d18 (F18_eq qn)
def F19(_n:Nat)(p_0:zTj)(t_1:Int):Option uAd:=
  some (((decide (p_0.1>t_1)),()),())
def g19(d:zTj×Int×Unit):Option uAd:=F19 qn d.1 d.2.1
def p19:jE:=⟨[.v zTf,.r zI],[.v .bool],g19⟩
def c19:jG:=⟨8,tyT,[],[],[],[],[],[],[],[],[],[],[],[],none,[],[],[],none,none,[]⟩
theorem F19_eq(n:Nat)(d):jC c19 n Try.f19 (body Try.f19) p19.ps p19.rs d=F19 n d.1 d.2.1:=by kernel_rfl
theorem d19:qD c19 (body Try.f19)=true:=by kernel_rfl
theorem h19:qZ Try.prog 19 p19:=hQ (cfg:=c19) (qL qM (qC) rfl (by kernel_rfl)) Try.func19 (by kernel_rfl) (qT (by kernel_rfl)) d19 (F19_eq qn)
def B20_5(rec:zTg×Unit->Option uAz)(_n:Nat)(L:(Int×Int×Int×Unit)×(zTg×Unit)×Unit->Option (uCh ⊕ ((Unit)×(zTg×Unit)×Unit)))(w_3:Int)(t_33:Int)(t_34:Int)(o_0p:(List zTj)×uCn):Option (uCh ⊕ ((Unit)×(zTg×Unit)×Unit)):=
  cond (decide (t_34<t_33)) (inR t_34 o_0p.2.2.1.length (qs o_0p.2.2.1 t_34 λe2=>cond (decide ((IntKind.wrap .i64 (e2+w_3))>o_0p.2.1)) (L ((w_3,t_33,(IntKind.wrap .i64 (t_34+1)),()),(o_0p,()),())) (inR t_34 o_0p.2.2.1.length (qs o_0p.2.2.1 t_34 λe3=>inR t_34 o_0p.2.2.1.length (qs o_0p.2.2.1 t_34 λ_=>qbA (o_0p.1,(o_0p.2.1,((o_0p.2.2.1.set t_34.toNat (IntKind.wrap .i64 (e3+w_3))),o_0p.2.2.2))) λz5=>ql ((z5.2.2.2.length:Int)+[t_34].length) (qa (rec ((z5.1,(z5.2.1,(z5.2.2.1,(z5.2.2.2++[t_34])))),())) λy6=>cond y6.1.1 (some (.inl ((true,()),(y6.2.1,()),()))) (leK 0 (IntKind.wrap .i64 ((y6.2.1.2.2.2.length:Int)-1)) (leK (IntKind.wrap .i64 ((y6.2.1.2.2.2.length:Int)-1)) (y6.2.1.2.2.2.length:Int) (qbA (y6.2.1.1,(y6.2.1.2.1,(y6.2.1.2.2.1,(y6.2.1.2.2.2.take (IntKind.wrap .i64 ((y6.2.1.2.2.2.length:Int)-1)).toNat)))) λz7=>inR t_34 z7.2.2.1.length (qs z7.2.2.1 t_34 λe8=>inR t_34 z7.2.2.1.length (qs z7.2.2.1 t_34 λ_=>qbA (z7.1,(z7.2.1,((z7.2.2.1.set t_34.toNat (IntKind.wrap .i64 (e8-w_3))),z7.2.2.2))) λz10=>L ((w_3,t_33,(IntKind.wrap .i64 (t_34+1)),()),(z10,()),())))))))))))) (some (.inr ((),(o_0p,()),())))
def L20_5(rec:zTg×Unit->Option uAz):Nat->(Int×Int×Int×Unit)×(zTg×Unit)×Unit->Option (uCh ⊕ ((Unit)×(zTg×Unit)×Unit))
  |0,_=>none
  |n+1,d=>B20_5 rec n (L20_5 rec n) d.1.1 d.1.2.1 d.1.2.2.1 d.2.1.1
def l20_5(rec:zTg×Unit->Option uAz):j7:=⟨⟨[(0,.c (.ptr 10000000 [])),(3,.v zI),(32,.c (.view 10000000 [.R,.R,.L])),(33,.v zI),(34,.v zI),(3000000,.c (.gh 0 (.view 10000000 [.R,.R,.L])))],[(10000000,false,.str uBr)],none⟩,[(.ret,⟨[(2,.v .bool),(3000000,.c (.gh 0 (.view 10000000 [.R,.R,.L])))],[(10000000,false,.str uBr)],none⟩),(.exit 0,⟨[(3000000,.c (.gh 0 (.view 10000000 [.R,.R,.L])))],[(10000000,false,.str uBr)],none⟩)],L20_5 rec⟩
def F20(rec:zTg×Unit->Option uAz)(n:Nat)(x_0:zTg):Option uAz:=
  cond ((x_0.2.2.2.length:Int)==(x_0.1.length:Int)) (some ((true,()),(x_0,()))) (qs x_0.1 (x_0.2.2.2.length:Int) λe1=>qa (L20_5 rec n ((e1.1,(x_0.2.2.1.length:Int),0,()),(x_0,()),())) λo11=>qbk o11 (λd12=>some ((d12.1.1,()),(d12.2.1.1,()))) (λd13=>some ((false,()),(d13.2.1.1,()))))
def G20:Nat->zTg×Unit->Option uAz
  |0,_=>none
  |m+1,d=>F20 (G20 m) qn d.1
def g20:zTg×Unit->Option uAz:=G20 qn
def p20:jE:=⟨[.m (.str uBr)],[.v .bool],g20⟩
def c20(rec:zTg×Unit->Option uAz):jG:=⟨94,tyT,[],[],[(5,l20_5 rec)],[],[],[],[],[],[],[(20,⟨.str uBr,[.v .bool],rec,[.R,.R,.L],[32,3000000]⟩)],[],[],none,[],[],[],none,none,[]⟩
theorem F20_eq(rec:zTg×Unit->Option uAz)(n:Nat)(d):qnb (c20 rec) n Try.f20 (body Try.f20) ⟨.str uBr,[.v .bool],rec,[.R,.R,.L],[32,3000000]⟩ d=F20 rec n d.1:=by kernel_rfl
theorem L20_5_eq(rec:zTg×Unit->Option uAz)(n:Nat)(d):(l20_5 rec).g (n+1) d=run (c20 rec) n (nth 0 (qj (body Try.f20))) ((l20_5 rec).ins.fill d) (jH (l20_5 rec) n):=by kernel_rfl
theorem ls20:qj (body Try.f20)=[nth 0 (qj (body Try.f20))]:=by kernel_rfl
theorem d20(rec:zTg×Unit->Option uAz):qD (c20 rec) (body Try.f20)=true:=by kernel_rfl
theorem hm20:∀m,qma Try.prog 20 ⟨.str uBr,[.v .bool],(G20 m),[.R,.R,.L],[32,3000000]⟩
  |0=>⟨qY Try.func20 rfl (by kernel_rfl),λd y h=>by cases h⟩
  |m+1=>by
    have ih:=hm20 m
    exact fn_doneK mixed (cfg:=c20 (G20 m)) (qL qM (qC) rfl (by kernel_rfl) (hkp:=keepOne ih)) Try.func20 rfl rfl (by kernel_rfl) rfl rfl rfl (by rw[ls20];simp only[List.forall_mem_cons];exact⟨jB (key:=5) (li:=l20_5 (G20 m)) (by kernel_rfl) rfl (λ_=>rfl) (L20_5_eq (G20 m)),λ_ h=>by cases h⟩) (d20 (G20 m)) (λd y h=>⟨qn,(F20_eq (G20 m) qn d).trans h⟩)
theorem h20:qZ Try.prog 20 p20:=(hm20 qn).good
end
end Go.Proofs.Try.V
