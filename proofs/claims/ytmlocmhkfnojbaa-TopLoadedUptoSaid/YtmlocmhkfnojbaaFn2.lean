/- The contracts of functions of the program, printed by program from the interpreter: each says what a call returns. No condition beyond those typed in each theorem. -/
import Derived.Test.YtmlocmhkfnojbaaFn1
namespace Go.Proofs.Try.V
noncomputable section
open Go.Vi
set_option maxRecDepth 100000
def B6_10(_n:Nat)(L:uBg×uBn×Unit->Option (((Unit)×uBn×Unit)))(t_35:Int)(t_36:Int)(o_2:(List zTj)×uCb)(o_3:Int)(o_8:List (List Int)):Option (((Unit)×uBn×Unit)):=
  cond (decide (t_36<t_35)) (ql ((o_8.length:Int)+[[t_36]].length) (L ((t_35,(IntKind.wrap .i64 (t_36+1)),()),(o_2,o_3,(o_8++[[t_36]]),()),()))) (some ((),(o_2,o_3,o_8,()),()))
def L6_10:Nat->uBg×uBn×Unit->Option (((Unit)×uBn×Unit))
  |0,_=>none
  |n+1,d=>B6_10 n (L6_10 n) d.1.1 d.1.2.1 d.2.1.1 d.2.1.2.1 d.2.1.2.2.1
def l6_10:j7:=⟨⟨[(2,.c (.ptr 2 [])),(3,.c (.ptr 3 [])),(8,.c (.view 8 [])),(35,.v zI),(36,.v zI)],[(2,false,.str zTb),(3,false,.int .i64),(8,true,.list true 37 uAe)],none⟩,[(.exit 0,⟨[(2,.c (.ptr 2 [])),(3,.c (.ptr 3 [])),(8,.c (.view 8 []))],[(2,false,.str zTb),(3,false,.int .i64),(8,true,.list true 37 uAe)],none⟩)],L6_10⟩
def B6_24(_n:Nat)(L:(Int×Unit)×(zTg×(List (List Int))×(List Int)×Unit)×Unit->Option (((Unit)×uAi×Unit)))(i_17:Int)(o_76:(List zTj)×uCn)(o_81:List (List Int))(o_54000:List Int):Option (((Unit)×uAi×Unit)):=
  cond (decide (i_17>=0)) (inR i_17 o_54000.length (qs o_54000 i_17 λe12=>inR e12 o_76.2.2.2.length (qs o_76.2.2.2 e12 λe13=>qa (inR e13 o_81.length (inR i_17 o_54000.length (qs o_54000 i_17 λe14=>qc [qs o_81 e13 λe15=>ql ((e15.length:Int)+[e14].length) (inR e13 o_81.length (eqK e13 e13 (qs o_81 e13 λ_=>some ((i_17,()),(o_76,(o_81.set e13.toNat (e15++[e14])),o_54000,()),())))),qs o_81 e13 λe17=>ql ((e17.length:Int)+[e14].length) (inR e13 o_81.length (eqK e13 e13 (qs o_81 e13 λ_=>some ((i_17,()),(o_76,(o_81.set e13.toNat (e17++[e14])),o_54000,()),()))))]))) λd19=>L (((IntKind.wrap .i64 (d19.1.1-1)),()),(d19.2.1.1,d19.2.1.2.1,d19.2.1.2.2.1,()),())))) (some ((),(o_81,()),()))
def L6_24:Nat->(Int×Unit)×(zTg×(List (List Int))×(List Int)×Unit)×Unit->Option (((Unit)×uAi×Unit))
  |0,_=>none
  |n+1,d=>B6_24 n (L6_24 n) d.1.1 d.2.1.1 d.2.1.2.1 d.2.1.2.2.1
def l6_24:j7:=⟨⟨[(12,.c (.view 54000 [])),(15,.c (.ptr 76 [])),(16,.c (.view 81 [])),(17,.v zI)],[(76,false,.str uBr),(81,true,.list true 37 uAs),(54000,true,.list true 3 zI)],none⟩,[(.exit 4,⟨[(16,.c (.view 81 []))],[(81,true,.list true 37 uAs)],none⟩)],L6_24⟩
def B6_20(n:Nat)(L:(Int×Unit)×(zTd×Int×(List Int)×Unit)×Unit->Option (((Int×Unit)×uAi×Unit)))(many_14:Int)(o_2:(List zTj)×uCb)(o_3:Int)(o_54000:List Int):Option (((Int×Unit)×uAi×Unit)):=
  qa (qc [qc [leK 0 many_14 (leK many_14 many_14 (ql many_14 (some ((many_14,()),(o_2,o_3,(o_2.1,o_3,(List.replicate many_14.toNat (0:Int)),([]:List Int)),o_54000,()),())))),leK 0 many_14 (leK many_14 many_14 (ql many_14 (some ((many_14,()),(o_2,o_3,(o_2.1,o_3,(List.replicate many_14.toNat (0:Int)),([]:List Int)),o_54000,()),()))))],qc [leK 0 many_14 (leK many_14 many_14 (ql many_14 (some ((many_14,()),(o_2,o_3,(o_2.1,o_3,(List.replicate many_14.toNat (0:Int)),([]:List Int)),o_54000,()),())))),leK 0 many_14 (leK many_14 many_14 (ql many_14 (some ((many_14,()),(o_2,o_3,(o_2.1,o_3,(List.replicate many_14.toNat (0:Int)),([]:List Int)),o_54000,()),()))))],leK 0 many_14 (leK many_14 many_14 (ql many_14 (some ((many_14,()),(o_2,o_3,(o_2.1,o_3,(List.replicate many_14.toNat (0:Int)),([]:List Int)),o_54000,()),()))))]) λd10=>qa (g20 (d10.2.1.2.2.1,())) λy11=>cond (!y11.1.1) (L (((IntKind.wrap .i64 (d10.1.1+1)),()),(d10.2.1.1,d10.2.1.2.1,d10.2.1.2.2.2.1,()),())) (leK 0 d10.1.1 (leK d10.1.1 d10.1.1 (ql d10.1.1 (qa (L6_24 n (((IntKind.wrap .i64 ((d10.2.1.2.2.2.1.length:Int)-1)),()),(y11.2.1,(List.replicate d10.1.1.toNat ([]:List Int)),d10.2.1.2.2.2.1,()),())) λo20=>some ((0,()),(o20.2.1.1,()),())))))
def L6_20:Nat->(Int×Unit)×(zTd×Int×(List Int)×Unit)×Unit->Option (((Int×Unit)×uAi×Unit))
  |0,_=>none
  |n+1,d=>B6_20 n (L6_20 n) d.1.1 d.2.1.1 d.2.1.2.1 d.2.1.2.2.1
def l6_20:j7:=⟨⟨[(2,.c (.ptr 2 [])),(3,.c (.ptr 3 [])),(12,.c (.view 54000 [])),(14,.v zI)],[(2,false,.str zTb),(3,false,.int .i64),(54000,true,.list true 3 zI)],none⟩,[(.ret,⟨[(4,.c (.view 81 [])),(5,.v zI)],[(81,true,.list true 37 uAs)],none⟩)],L6_20⟩
def F6(n:Nat)(k_0:zTd)(room_1:Int):Option (((List (List Int))×Int×Unit)×(Unit)):=
  qa (g14 (k_0,())) λy1=>cond (!y1.1.2.1) (some ((([]:List (List Int)),80,()),())) (qa (g15 (room_1,1,1000000,())) λy2=>cond (!y2.1.1) (some ((([]:List (List Int)),1,()),())) (cond (decide ((k_0.1.length:Int)>8)) (some ((([]:List (List Int)),2,()),())) (qa (L6_10 n (((k_0.1.length:Int),0,()),(k_0,room_1,([]:List (List Int)),()),())) λo3=>qa (g16 (o3.2.1.1,o3.2.1.2.2.1,())) λy4=>qa y4.1.1 λq5=>qa (g17 (q5,())) λy6=>cond (decide ((y6.1.1.length:Int)<(o3.2.1.1.1.length:Int))) (some ((([]:List (List Int)),3,()),())) (qa (g18 (o3.2.1.1.1,(λv7=>qa (g19 (v7,o3.2.1.2.1,())) λy8=>some y8.1.1),())) λy9=>cond y9.1.1 (some ((([]:List (List Int)),3,()),())) (qa (L6_20 n ((0,()),(o3.2.1.1,o3.2.1.2.1,y6.1.1,()),())) λo21=>some ((o21.2.1.1,o21.1.1,()),()))))))
def g6(d:zTd×Int×Unit):Option (((List (List Int))×Int×Unit)×(Unit)):=F6 qn d.1 d.2.1
def p6:jE:=⟨[.v (.str zTb),.v zI],[.v zTh,.v zI],g6⟩
def c6:jG:=⟨113,tyT,[(75,.str uBr),(81,.list true 37 uAs)],[(14,p14),(15,p15),(16,p16),(17,p17),(18,p18),(19,p19),(20,p20)],[(10,l6_10),(24,l6_24),(20,l6_20)],[],[20,27],[],[],[],[],[],[],[(20,⟨[(2,.c (.ptr 2 [])),(3,.c (.ptr 3 [])),(12,.c (.view 54000 [])),(14,.v zI),(15,.c (.ptr 76 []))],[(2,false,.str zTb),(3,false,.int .i64),(76,false,.str uBr),(54000,true,.list true 3 zI)],none⟩),(27,⟨[(12,.c (.view 54000 [])),(15,.c (.ptr 76 [])),(16,.c (.view 81 [])),(17,.v zI)],[(76,false,.str uBr),(81,true,.list true 37 uAs),(54000,true,.list true 3 zI)],none⟩)],none,[],[],[],none,none,[]⟩
theorem F6_eq(n:Nat)(d):jC c6 n Try.f6 (body Try.f6) p6.ps p6.rs d=F6 n d.1 d.2.1:=by kernel_rfl
theorem L6_10_eq(n:Nat)(d):(l6_10).g (n+1) d=run c6 n (nth 0 (qj (body Try.f6))) ((l6_10).ins.fill d) (jH (l6_10) n):=by kernel_rfl
theorem L6_20_eq(n:Nat)(d):(l6_20).g (n+1) d=run c6 n (nth 1 (qj (body Try.f6))) ((l6_20).ins.fill d) (jH (l6_20) n):=by kernel_rfl
theorem L6_24_eq(n:Nat)(d):(l6_24).g (n+1) d=run c6 n (nth 2 (qj (body Try.f6))) ((l6_24).ins.fill d) (jH (l6_24) n):=by kernel_rfl
theorem ls6:qj (body Try.f6)=[nth 0 (qj (body Try.f6)),nth 1 (qj (body Try.f6)),nth 2 (qj (body Try.f6))]:=by kernel_rfl
theorem h6:qZ Try.prog 6 p6:=hQ (cfg:=c6) (qL qM (qo h14 (qo h15 (qo h16 (qo h17 (qo h18 (qo h19 (qo h20 qC))))))) rfl (by kernel_rfl)) Try.func6 (by kernel_rfl) (by rw[ls6];simp only[List.forall_mem_cons];exact⟨jB (key:=10) (li:=l6_10) (by kernel_rfl) rfl (λ_=>rfl) (L6_10_eq),jB (key:=20) (li:=l6_20) (by kernel_rfl) rfl (λ_=>rfl) (L6_20_eq),jB (key:=24) (li:=l6_24) (by kernel_rfl) rfl (λ_=>rfl) (L6_24_eq),λ_ h=>by cases h⟩) (by kernel_rfl) (F6_eq qn)
def F7(_n:Nat)(m_0:uAc):Option ((uAc×Unit)×(Unit)):=
  qcE (some ((((([]:List Bool)++m_0.1),(([]:List zTc)++m_0.2)),()),())) λE=>qc [qc [ql ((([]:List Bool).length:Int)+m_0.1.length) (ql ((([]:List zTc).length:Int)+m_0.2.length) (E)),ql ((([]:List Bool).length:Int)+m_0.1.length) (ql ((([]:List zTc).length:Int)+m_0.2.length) (E))],ql ((([]:List Bool).length:Int)+m_0.1.length) (ql ((([]:List zTc).length:Int)+m_0.2.length) (E))]
def g7(d:uAc×Unit):Option ((uAc×Unit)×(Unit)):=F7 qn d.1
def p7:jE:=⟨[.v (.str uAa)],[.v (.str uAa)],g7⟩
def c7:jG:=⟨12,tyT,[(1,.str uAa),(6,.list true 4 .bool),(10,.list true 114 (.str zTa))],[],[],[],[1],[],[],[],[],[],[],[],none,[],[],[],none,none,[]⟩
theorem F7_eq(n:Nat)(d):jC c7 n Try.f7 (body Try.f7) p7.ps p7.rs d=F7 n d.1:=by kernel_rfl
theorem h7:qZ Try.prog 7 p7:=hQ (cfg:=c7) (qL qM (qC) rfl (by kernel_rfl)) Try.func7 (by kernel_rfl) (qT (by kernel_rfl)) (by kernel_rfl) (F7_eq qn)
def F43(_n:Nat)(n_0:Int)(low_1:Int)(high_2:Int):Option uAd:=
  cond (decide (n_0>=low_1)) (some (((decide (n_0<=high_2)),()),())) (some ((false,()),()))
def g43(d:Int×Int×Int×Unit):Option uAd:=F43 qn d.1 d.2.1 d.2.2.1
def p43:jE:=⟨[.v zI,.v zI,.v zI],[.v .bool],g43⟩
def c43:jG:=⟨15,tyT,[],[],[],[],[],[],[],[],[],[],[],[],none,[],[],[],none,none,[]⟩
theorem F43_eq(n:Nat)(d):jC c43 n Try.f43 (body Try.f43) p43.ps p43.rs d=F43 n d.1 d.2.1 d.2.2.1:=by kernel_rfl
theorem h43:qZ Try.prog 43 p43:=hQ (cfg:=c43) (qL qM (qC) rfl (by kernel_rfl)) Try.func43 (by kernel_rfl) (qT (by kernel_rfl)) (by kernel_rfl) (F43_eq qn)
def F36(_n:Nat)(m_0:uAc)(n_1:Int):Option uAd:=
  qa (g43 (n_1,0,(IntKind.wrap .i64 ((m_0.1.length:Int)-1)),())) λy1=>some ((y1.1.1,()),())
def g36(d:uAc×Int×Unit):Option uAd:=F36 qn d.1 d.2.1
def p36:jE:=⟨[.v (.str uAa),.v zI],[.v .bool],g36⟩
def c36:jG:=⟨11,tyT,[],[(43,p43)],[],[],[],[],[],[],[],[],[],[],none,[],[],[],none,none,[]⟩
theorem F36_eq(n:Nat)(d):jC c36 n Try.f36 (body Try.f36) p36.ps p36.rs d=F36 n d.1 d.2.1:=by kernel_rfl
theorem h36:qZ Try.prog 36 p36:=hQ (cfg:=c36) (qL qM (qo h43 qC) rfl (by kernel_rfl)) Try.func36 (by kernel_rfl) (qT (by kernel_rfl)) (by kernel_rfl) (F36_eq qn)
def F52(_n:Nat)(r_0:zTc)(t_1:uAc):Option uAd:=
  qa (g36 (t_1,r_0.1,())) λy1=>cond (!y1.1.1) (some ((true,()),())) (qa (g36 (t_1,r_0.2.1,())) λy2=>cond (!y2.1.1) (some ((true,()),())) (cond (r_0.1==r_0.2.1) (some ((true,()),())) (qa (g43 (r_0.2.2.1,1,500,())) λy3=>cond (!y3.1.1) (some ((true,()),())) (qa (g43 (r_0.2.2.2.1,0,1000,())) λy4=>cond (!y4.1.1) (some ((true,()),())) (qa (g43 (r_0.2.2.2.2,0,1000,())) λy5=>some (((!y5.1.1),()),()))))))
def g52(d:zTc×uAc×Unit):Option uAd:=F52 qn d.1 d.2.1
def p52:jE:=⟨[.v (.str zTa),.r (.str uAa)],[.v .bool],g52⟩
def c52:jG:=⟨41,tyT,[],[(36,p36),(43,p43)],[],[],[],[],[],[],[],[],[],[],none,[],[],[],none,none,[]⟩
theorem F52_eq(n:Nat)(d):jC c52 n Try.f52 (body Try.f52) p52.ps p52.rs d=F52 n d.1 d.2.1:=by kernel_rfl
theorem h52:qZ Try.prog 52 p52:=hQ (cfg:=c52) (qL qM (qo h36 (qo h43 qC)) rfl (by kernel_rfl)) Try.func52 (by kernel_rfl) (qT (by kernel_rfl)) (by kernel_rfl) (F52_eq qn)
def B64_2(_n:Nat)(L:((List zTc)×(zTc->Option Bool)×Int×Int×Unit)×(Unit)×Unit->Option (uAh ⊕ uAl))(s_0:List zTc)(f_1:zTc->Option Bool)(t_7:Int)(t_8:Int):Option (uAh ⊕ uAl):=
  cond (decide (t_8<t_7)) (qs s_0 t_8 λe1=>qa (f_1 e1) λy2=>cond y2 (some (.inl ((t_8,()),(),()))) (L ((s_0,f_1,t_7,(IntKind.wrap .i64 (t_8+1)),()),(),()))) (some (.inr ((),(),())))
def L64_2:Nat->((List zTc)×(zTc->Option Bool)×Int×Int×Unit)×(Unit)×Unit->Option (uAh ⊕ uAl)
  |0,_=>none
  |n+1,d=>B64_2 n (L64_2 n) d.1.1 d.1.2.1 d.1.2.2.1 d.1.2.2.2.1
def l64_2:j7:=⟨⟨[(0,.v uCi),(1,.v (.fn (.str zTa) .bool)),(7,.v zI),(8,.v zI)],[],none⟩,[(.ret,⟨[(4,.v zI)],[],none⟩),(.exit 0,⟨[],[],none⟩)],L64_2⟩
def F64(n:Nat)(s_0:(List zTc))(f_1:(zTc->Option Bool)):Option uAn:=
  qa (L64_2 n ((s_0,f_1,(s_0.length:Int),0,()),(),())) λo3=>qbk o3 (λd4=>some ((d4.1.1,()),())) (λ_=>some (((-1),()),()))
def g64(d:(List zTc)×(zTc->Option Bool)×Unit):Option uAn:=F64 qn d.1 d.2.1
def p64:jE:=⟨[.v uCi,.v (.fn (.str zTa) .bool)],[.v zI],g64⟩
def c64:jG:=⟨19,tyT,[],[],[(2,l64_2)],[],[],[],[],[],[],[],[],[],none,[],[],[],none,none,[]⟩
theorem F64_eq(n:Nat)(d):jC c64 n Try.f64 (body Try.f64) p64.ps p64.rs d=F64 n d.1 d.2.1:=by kernel_rfl
theorem L64_2_eq(n:Nat)(d):(l64_2).g (n+1) d=run c64 n (nth 0 (qj (body Try.f64))) ((l64_2).ins.fill d) (jH (l64_2) n):=by kernel_rfl
theorem ls64:qj (body Try.f64)=[nth 0 (qj (body Try.f64))]:=by kernel_rfl
theorem h64:qZ Try.prog 64 p64:=hQ (cfg:=c64) (qL qM (qC) rfl (by kernel_rfl)) Try.func64 (by kernel_rfl) (by rw[ls64];simp only[List.forall_mem_cons];exact⟨jB (key:=2) (li:=l64_2) (by kernel_rfl) rfl (λ_=>rfl) (L64_2_eq),λ_ h=>by cases h⟩) (by kernel_rfl) (F64_eq qn)
def F53(_n:Nat)(s_0:(List zTc))(f_1:(zTc->Option Bool)):Option uAd:=
  qa (g64 (s_0,f_1,())) λy1=>some (((decide (y1.1.1>=0)),()),())
def g53(d:(List zTc)×(zTc->Option Bool)×Unit):Option uAd:=F53 qn d.1 d.2.1
def p53:jE:=⟨[.v uCi,.v (.fn (.str zTa) .bool)],[.v .bool],g53⟩
def c53:jG:=⟨9,tyT,[],[(64,p64)],[],[],[],[],[],[],[],[],[],[],none,[],[],[],none,none,[]⟩
theorem F53_eq(n:Nat)(d):jC c53 n Try.f53 (body Try.f53) p53.ps p53.rs d=F53 n d.1 d.2.1:=by kernel_rfl
theorem h53:qZ Try.prog 53 p53:=hQ (cfg:=c53) (qL qM (qo h64 qC) rfl (by kernel_rfl)) Try.func53 (by kernel_rfl) (qT (by kernel_rfl)) (by kernel_rfl) (F53_eq qn)
def F35(_n:Nat)(m_0:uAc):Option uAn:=
  qa (g43 ((m_0.1.length:Int),1,12,())) λy1=>cond (!y1.1.1) (some ((90,()),())) (cond (decide ((m_0.2.length:Int)>30)) (some ((90,()),())) (qa (g53 (m_0.2,(λv2=>qa (g52 (v2,m_0,())) λy3=>some y3.1.1),())) λy4=>cond y4.1.1 (some ((90,()),())) (some ((0,()),()))))
def g35(d:uAc×Unit):Option uAn:=F35 qn d.1
def p35:jE:=⟨[.v (.str uAa)],[.v zI],g35⟩
def c35:jG:=⟨22,tyT,[],[(43,p43),(52,p52),(53,p53)],[],[],[],[],[],[],[],[],[],[],none,[],[],[],none,none,[]⟩
theorem F35_eq(n:Nat)(d):jC c35 n Try.f35 (body Try.f35) p35.ps p35.rs d=F35 n d.1:=by kernel_rfl
theorem h35:qZ Try.prog 35 p35:=hQ (cfg:=c35) (qL qM (qo h43 (qo h52 (qo h53 qC))) rfl (by kernel_rfl)) Try.func35 (by kernel_rfl) (qT (by kernel_rfl)) (by kernel_rfl) (F35_eq qn)
def B23_5(_n:Nat)(L:(uAq×Int×Int×Unit)×(uAc×Unit)×Unit->Option (uAh ⊕ uAl))(t_13:List (Int×zTc))(t_14:Int)(t_15:Int)(o_2:(List Bool)×(List zTc)):Option (uAh ⊕ uAl):=
  cond (decide (t_15<t_14)) (qs t_13 t_15 λe2=>qa (g43 (e2.1,0,1000,())) λy3=>cond (!y3.1.1) (some (.inl ((91,()),(),()))) (qa (g43 (e2.2.1,0,1000,())) λy4=>cond (!y4.1.1) (some (.inl ((91,()),(),()))) (qa (g36 (o_2,e2.2.2.1,())) λy5=>cond (!y5.1.1) (some (.inl ((91,()),(),()))) (qa (g43 (e2.2.2.2.1,0,2000,())) λy6=>cond (!y6.1.1) (some (.inl ((91,()),(),()))) (qa (g43 (e2.2.2.2.2.1,1,500,())) λy7=>cond (!y7.1.1) (some (.inl ((91,()),(),()))) (qa (g43 (e2.2.2.2.2.2,1,500,())) λy8=>cond (!y8.1.1) (some (.inl ((91,()),(),()))) (L ((t_13,t_14,(IntKind.wrap .i64 (t_15+1)),()),(o_2,()),())))))))) (some (.inr ((),(),())))
def L23_5:Nat->(uAq×Int×Int×Unit)×(uAc×Unit)×Unit->Option (uAh ⊕ uAl)
  |0,_=>none
  |n+1,d=>B23_5 n (L23_5 n) d.1.1 d.1.2.1 d.1.2.2.1 d.2.1.1
def l23_5:j7:=⟨⟨[(2,.c (.ptr 2 [])),(13,.v uBt),(14,.v zI),(15,.v zI)],[(2,false,.str uAa)],none⟩,[(.ret,⟨[(4,.v zI)],[],none⟩),(.exit 0,⟨[],[],none⟩)],L23_5⟩
def F23(n:Nat)(m_0:uAc)(l_1:uAq):Option uAn:=
  qa (g35 (m_0,())) λy1=>cond (y1.1.1 !=0) (some ((y1.1.1,()),())) (qa (L23_5 n ((l_1,(l_1.length:Int),0,()),(m_0,()),())) λo9=>qbk o9 (λd10=>some ((d10.1.1,()),())) (λ_=>some ((0,()),())))
def g23(d:uAc×uAq×Unit):Option uAn:=F23 qn d.1 d.2.1
def p23:jE:=⟨[.v (.str uAa),.v uBt],[.v zI],g23⟩
def c23:jG:=⟨55,tyT,[],[(35,p35),(36,p36),(43,p43)],[(5,l23_5)],[],[],[],[],[],[],[],[],[],none,[],[],[],none,none,[]⟩
theorem F23_eq(n:Nat)(d):jC c23 n Try.f23 (body Try.f23) p23.ps p23.rs d=F23 n d.1 d.2.1:=by kernel_rfl
theorem L23_5_eq(n:Nat)(d):(l23_5).g (n+1) d=run c23 n (nth 0 (qj (body Try.f23))) ((l23_5).ins.fill d) (jH (l23_5) n):=by kernel_rfl
theorem ls23:qj (body Try.f23)=[nth 0 (qj (body Try.f23))]:=by kernel_rfl
theorem h23:qZ Try.prog 23 p23:=hQ (cfg:=c23) (qL qM (qo h35 (qo h36 (qo h43 qC))) rfl (by kernel_rfl)) Try.func23 (by kernel_rfl) (by rw[ls23];simp only[List.forall_mem_cons];exact⟨jB (key:=5) (li:=l23_5) (by kernel_rfl) rfl (λ_=>rfl) (L23_5_eq),λ_ h=>by cases h⟩) (by kernel_rfl) (F23_eq qn)
def F21(_n:Nat)(m_0:uAc)(to_1:Int)(l_2:uAq):Option uAn:=
  qa (g35 (m_0,())) λy1=>cond (y1.1.1 !=0) (some ((y1.1.1,()),())) (cond (decide ((l_2.length:Int)>8)) (some ((2,()),())) (qa (g23 (m_0,l_2,())) λy2=>cond (y2.1.1 !=0) (some ((y2.1.1,()),())) (qa (g36 (m_0,to_1,())) λy3=>cond (!y3.1.1) (some ((1,()),())) (some ((0,()),())))))
def g21(d:uAc×Int×uAq×Unit):Option uAn:=F21 qn d.1 d.2.1 d.2.2.1
def p21:jE:=⟨[.v (.str uAa),.v zI,.v uBt],[.v zI],g21⟩
def c21:jG:=⟨27,tyT,[],[(23,p23),(35,p35),(36,p36)],[],[],[],[],[],[],[],[],[],[],none,[],[],[],none,none,[]⟩
theorem F21_eq(n:Nat)(d):jC c21 n Try.f21 (body Try.f21) p21.ps p21.rs d=F21 n d.1 d.2.1 d.2.2.1:=by kernel_rfl
theorem h21:qZ Try.prog 21 p21:=hQ (cfg:=c21) (qL qM (qo h23 (qo h35 (qo h36 qC))) rfl (by kernel_rfl)) Try.func21 (by kernel_rfl) (qT (by kernel_rfl)) (by kernel_rfl) (F21_eq qn)
def F103(_n:Nat)(s_0:(List uAf)):Option uAn:=
  some (((s_0.length:Int),()),())
def g103(d:(List uAf)×Unit):Option uAn:=F103 qn d.1
def p103:jE:=⟨[.v (.list false 132 (.str uAw))],[.v zI],g103⟩
def c103:jG:=⟨5,tyT,[],[],[],[],[],[],[],[],[],[],[],[],none,[],[],[],none,none,[]⟩
theorem F103_eq(n:Nat)(d):jC c103 n Try.f103 (body Try.f103) p103.ps p103.rs d=F103 n d.1:=by kernel_rfl
theorem h103:qZ Try.prog 103 p103:=hQ (cfg:=c103) (qL qM (qC) rfl (by kernel_rfl)) Try.func103 (by kernel_rfl) (qT (by kernel_rfl)) (by kernel_rfl) (F103_eq qn)
namespace Hx
open Go.Vi Go.Proofs Go.Shelf Go.RowKit
set_option maxRecDepth 100000
theorem lay:laidOutB Try.prog=true:=by kernel_rfl
theorem key102(x y:Int)(h1:qdi x=true)(h2:qdi y=true):keyOf Try.prog 102 (.agg #[.int .i64 x,.int .i64 y])=some (.string (keyBytes [.int .i64 x,.int .i64 y])):=by
  have hk:Try.prog.keyType 102=true:=by kernel_rfl
  have hc:Try.prog.cellsOf 102=2:=by kernel_rfl
  have hc3:Try.prog.cellsOf 3=1:=by kernel_rfl
  have hw:∀x,qdi x=true->(Lit.int .i64 x).wf=true:=by
    intro x hx
    have:=qeH.1 hx
    show(decide ((-9223372036854775808:Int)<=x)&&decide (x<=(9223372036854775807:Int)))=true
    simp
    omega
  obtain⟨m,hm⟩:∃m,Try.prog.types.size+1=m+2:=⟨Try.prog.types.size-1,by have:0<Try.prog.types.size:=of_decide_eq_true (by kernel_rfl);omega⟩
  have h3:∀x,qdi x=true->Try.prog.keyLits (m+1) 3 [.int .i64 x]=some [.int .i64 x]:=by
    intro x hx
    simp[Program.keyLits,Try.underlying3,hw x hx]
  unfold keyOf
  rw[Try.underlying102]
  simp only[hk,Value.formed,Try.underlying102,hc,Bool.true_and]
  rw[hm]
  unfold Program.keyLits
  simp[Try.underlying102,hc,hc3,Value.cells,h3 x h1,h3 y h2]
abbrev Stp:=(Int×Int)×(Int×Int)
abbrev tSt:Ty:=.str uAw
theorem rep_st(P:Program)(w:World)(H:FH)(x:Stp):qm P tSt w H x (qcD x) []:=
  ⟨[_,_],[_,_],[],[],rfl,rfl,⟨[_],[_],[],[],rfl,rfl,⟨rfl,rfl⟩,⟨rfl,rfl⟩⟩,⟨[_],[_],[],[],rfl,rfl,⟨rfl,rfl⟩,⟨rfl,rfl⟩⟩⟩
theorem st_rep{P:Program}{w:World}{H:FH}{x:Stp}{cs:List Value}{fp:List Nat}(h:qm P tSt w H x cs fp):cs=qcD x/\fp=[]:=by
  obtain⟨_,_,_,_,rfl,rfl,⟨_,_,_,_,rfl,rfl,⟨rfl,rfl⟩,⟨rfl,rfl⟩⟩,⟨_,_,_,_,rfl,rfl,⟨rfl,rfl⟩,⟨rfl,rfl⟩⟩⟩:=h
  exact⟨rfl,rfl⟩
theorem qfb(P:Program)(w:World)(H:FH):∀l:List Stp,qe (qm P tSt w H) l (l.map qcD).flatten []
  |[]=>⟨rfl,rfl⟩
  |x::l=>⟨qcD x,(l.map qcD).flatten,[],[],by simp,rfl,rep_st P w H x,qfb P w H l⟩
theorem qgF{P:Program}{w:World}{H:FH}:∀{l:List Stp} {xs:List Value} {fp:List Nat},qe (qm P tSt w H) l xs fp->xs=(l.map qcD).flatten/\fp=[]
  |[],_,_,⟨h1,h2⟩=>⟨h1,h2⟩
  |_::l,_,_,⟨c,xs',f,fp',e1,e2,h1,h2⟩=>by
    obtain⟨h3,h4⟩:=qgF h2
    obtain⟨h5,h6⟩:=st_rep h1
    rw[e1,e2,h3,h4,h5,h6]
    exact⟨by simp,rfl⟩
theorem qnh{P:Program}{w:World}{hdr:Value}{l:List Stp}(h:w.ownsRow 0 132 4 hdr l.length (l.map qcD).flatten):∃H:FH,HOk H w/\qm P (.list false 132 tSt) w H l [hdr] []:=by
  rcases h.2 with⟨rfl,h0⟩|⟨g,cap,cur,rfl,_,hg,h1,h2,h3,h4⟩
  · refine⟨λ_=>none,(λb c hb=>by cases hb),rfl,none,0,?_,by omega,.inl (List.eq_nil_of_length_eq_zero h0)⟩
    rw[h0]
  · classical
    refine⟨λb=>if b=g then some (.cells cur)else none,?_,rfl,some ⟨g,0,none⟩,cap,rfl,h1,.inr ⟨g,0,cur,rfl,if_pos rfl,?_⟩⟩
    · intro b c hb
      simp only at hb
      split at hb
      · rename_i e
        cases hb
        subst e
        exact⟨_,_,hg⟩
      · cases hb
    · have:seg cur 0 (l.length*tSt.size)=(l.map qcD).flatten:=by
        show(cur.toList.drop 0).take (l.length*4)=_
        rw[List.drop_zero,h4]
      rw[this]
      exact qfb P w _ l
theorem qf5{w:World}{l:List Stp}{v:Value}{fp:List Nat}(h:qbZ 130 132 w l [v] fp):∃b tt hdr,v = .iface 130 (.pointer (some ⟨b,0,none⟩))/\fp=b::hdr.ownBlock.toList/\w.heap[b]? = some (.cells #[hdr] tt (0,0))/\w.ownsRow 0 132 4 hdr l.length (l.map qcD).flatten:=by
  obtain⟨b,tt,hdr,e,h2,h3,h4⟩:=h
  exact⟨b,tt,hdr,by injection e,h2,h3,h4⟩
theorem qgc{w:World}{b:Nat}{hdr:Value}{tt:TypeId}(hb:w.heap[b]? = some (.cells #[hdr] tt (0,0))):(Go.loadVar 134 ⟨b,0,none⟩).run Try.prog w = .ok hdr w:=by
  have:=qcJ (P:=Try.prog) (t:=134) (τ:=.list false 132 tSt) (by show(tyB Try.prog (.list false 132 tSt)).1 134=true;kernel_rfl) hb (o:=0) rfl
  exact this
theorem qnk{w:World}{l:List Stp}{v:Value}{fp:List Nat}(h:qbZ 130 132 w l [v] fp):∃hdr,(callMethod v "Len" #[]).run Try.prog w = .ok (.enter 103 #[hdr]) w/\Calls Try.prog 103 #[hdr] w λe w'=>e = .returned (.int .i64 (l.length:Int))/\jM qV w w':=by
  obtain⟨b,tt,hdr,rfl,rfl,hb,hrow⟩:=qf5 h
  refine⟨hdr,?_,?_⟩
  · have e:(callMethod (.iface 130 (.pointer (some ⟨b,0,none⟩))) "Len" #[]).run Try.prog w=((do let v <-Go.loadVar 134 ⟨b,0,none⟩;callFunc 103 (#[v] ++ #[])):Sem Next).run Try.prog w:=by kernel_rfl
    rw[e,Sem.run_bind,qgc hb]
    exact qaJ (qY Try.func103 rfl (by kernel_rfl)) _ _
  · obtain⟨H,hok,hrep⟩:=qnh (P:=Try.prog) hrow
    refine(h103.2 (l,()) (((l.length:Int),()),()) rfl w H [hdr] [qw] hok ⟨hdr,[],qw,[],rfl,rfl,rfl,rfl,⟨[hdr],rfl,hrep⟩,rfl,rfl⟩ (by simp[qd,qw]) (by simp[qd,qw])).mono ?_
    rintro e w' ⟨us,H2,Φs',Ψs,rfl,hm,_,_,_,hres,_⟩
    obtain⟨v,vs',φ,Φs2,rfl,rfl,_,_,⟨cs,rfl,hc,_⟩,rfl,rfl⟩:=hres
    exact⟨by rw[hc];rfl,hm.mono (λb hb=>by simp[qd,qw]at hb)⟩
def xq0:XQ:=⟨130,132,54,55,λ_=>none,λ_ _=>none⟩
theorem xq0_ok:XqOK Try.prog xq0 where
  wrap:=⟨by kernel_rfl,by kernel_rfl⟩
  asrt w v xT:=by kernel_rfl
  len w l v fp h:=by
    obtain⟨hdr,h1,h2⟩:=qnk h
    exact⟨103,#[hdr],h1,h2⟩
  callable:=⟨qY Try.func54 rfl (by kernel_rfl),qY Try.func55 rfl (by kernel_rfl)⟩
  pop _ _ _ _ _ _ _ _ h:=by cases h
  push _ _ _ _ _ _ _ _ h:=by cases h
end Hx
theorem kp102:Go.Vi.KeyP Try.prog 102 where
  keyed:=Maps.Keyed.of_law (deep_law_laid Hx.lay (m:=2) (by omega) (of_decide_eq_true (by kernel_rfl)) (by kernel_rfl) (by kernel_rfl))
  key q h1 h2:=⟨_,Hx.key102 q.1 q.2 h1 h2⟩
def B56_3(_n:Nat)(L:(Int×(List Int)×Int×Int×Unit)×(Unit)×Unit->Option (uAh ⊕ uAh))(zero_3:Int)(t_6:List Int)(t_7:Int)(t_8:Int):Option (uAh ⊕ uAh):=
  cond (decide (t_8<t_7)) (qs t_6 t_8 λe1=>cond (e1 !=zero_3) (some (.inl ((e1,()),(),()))) (L ((zero_3,t_6,t_7,(IntKind.wrap .i64 (t_8+1)),()),(),()))) (some (.inr ((zero_3,()),(),())))
def L56_3:Nat->(Int×(List Int)×Int×Int×Unit)×(Unit)×Unit->Option (uAh ⊕ uAh)
  |0,_=>none
  |n+1,d=>B56_3 n (L56_3 n) d.1.1 d.1.2.1 d.1.2.2.1 d.1.2.2.2.1
def l56_3:j7:=⟨⟨[(3,.v zI),(6,.v uAe),(7,.v zI),(8,.v zI)],[],none⟩,[(.ret,⟨[(2,.v zI)],[],none⟩),(.exit 0,⟨[(3,.v zI)],[],none⟩)],L56_3⟩
def F56(n:Nat)(vals_0:(List Int)):Option uAn:=
  qa (L56_3 n ((0,vals_0,(vals_0.length:Int),0,()),(),())) λo2=>qbk o2 (λd3=>some ((d3.1.1,()),())) (λd4=>some ((d4.1.1,()),()))
def g56(d:(List Int)×Unit):Option uAn:=F56 qn d.1
def p56:jE:=⟨[.v uAe],[.v zI],g56⟩
def c56:jG:=⟨18,tyT,[],[],[(3,l56_3)],[],[],[],[],[],[],[],[],[],none,[],[],[],none,none,[]⟩
theorem F56_eq(n:Nat)(d):jC c56 n Try.f56 (body Try.f56) p56.ps p56.rs d=F56 n d.1:=by kernel_rfl
theorem L56_3_eq(n:Nat)(d):(l56_3).g (n+1) d=run c56 n (nth 0 (qj (body Try.f56))) ((l56_3).ins.fill d) (jH (l56_3) n):=by kernel_rfl
theorem ls56:qj (body Try.f56)=[nth 0 (qj (body Try.f56))]:=by kernel_rfl
theorem h56:qZ Try.prog 56 p56:=hQ (cfg:=c56) (qL qM (qC) rfl (by kernel_rfl)) Try.func56 (by kernel_rfl) (by rw[ls56];simp only[List.forall_mem_cons];exact⟨jB (key:=3) (li:=l56_3) (by kernel_rfl) rfl (λ_=>rfl) (L56_3_eq),λ_ h=>by cases h⟩) (by kernel_rfl) (F56_eq qn)
def F39(_n:Nat)(c_0:(Int×Int))(d_1:(Int×Int)):Option uAn:=
  qa (g56 ([(IntKind.wrap .i64 (c_0.1-d_1.1)),(IntKind.wrap .i64 (c_0.2-d_1.2))],())) λy1=>some ((y1.1.1,()),())
def g39(d:(Int×Int)×(Int×Int)×Unit):Option uAn:=F39 qn d.1 d.2.1
def p39:jE:=⟨[.v (.str zTe),.v (.str zTe)],[.v zI],g39⟩
def c39:jG:=⟨17,tyT,[],[(56,p56)],[],[],[],[],[],[],[],[],[],[],none,[],[],[],none,none,[]⟩
theorem F39_eq(n:Nat)(d):jC c39 n Try.f39 (body Try.f39) p39.ps p39.rs d=F39 n d.1 d.2.1:=by kernel_rfl
theorem h39:qZ Try.prog 39 p39:=hQ (cfg:=c39) (qL qM (qo h56 qC) rfl (by kernel_rfl)) Try.func39 (by kernel_rfl) (qT (by kernel_rfl)) (by kernel_rfl) (F39_eq qn)
namespace Hs
open Go.Shelf Go.RowKit Go.Lib Go.Sort Go.Vi
def or2(x y:Int):Int:=if x≠0 then x else y
set_option maxHeartbeats 1000000 in
theorem cmpOr(g:Nat)(x y:Int)(W:World)(t:TypeId)(hg:W.heap[g]? = some (.cells #[.int .i64 x,.int .i64 y] t (0,0))):Calls Try.prog 56 #[.slice (some ⟨g,0,none⟩) 2 2] W λe w'=>e = .returned (.int .i64 (or2 x y))/\w'=W:=by
  have c0:W.cell? ⟨g,0,none⟩=some (.int .i64 x):=by simp[World.cell?,hg]
  have c1:W.cell? ⟨g,1,none⟩=some (.int .i64 y):=by simp[World.cell?,hg]
  go_enter Try.func56,Try.ntmps56
  go_wp2
  refine wp_loop_rounds 3 ?_
  rw[rounds_succ]
  go_wp2
  · rename_i hx
    have hx:x≠0:=by simpa using hx
    go_ret
    exact⟨by simp[or2,hx],rfl⟩
  rename_i hx
  have hx:x=0:=by simpa using hx
  rw[rounds_succ]
  go_wp2
  · rename_i hy
    have hy:y≠0:=by simpa using hy
    go_ret
    exact⟨by simp[or2,hx],rfl⟩
  rename_i hy
  have hy:y=0:=by simpa using hy
  rw[rounds_succ]
  go_wp2
  go_ret
  exact⟨by simp[or2,hx,hy],rfl⟩
def inS(n:Int):Prop:=-1000000000000<=n/\n<=1000000000000
set_option maxHeartbeats 1000000 in
theorem cmp39(c d:Int×Int)(W:World)(h1:inS c.1)(h2:inS c.2)(h3:inS d.1)(h4:inS d.2):
    Calls Try.prog 39 #[jN c,jN d] W λe w'=>e = .returned (.int .i64 (or2 (c.1-d.1) (c.2-d.2)))/\∃q os',w'=grow (W.drewN q) os':=by
  obtain⟨c1,c2⟩:=c
  obtain⟨d1,d2⟩:=d
  unfold inS at h1 h2 h3 h4
  simp only at h1 h2 h3 h4 ⊢
  have hw1:wrap64 (c1-d1)=c1-d1:=by unfold wrap64;omega
  have hw2:wrap64 (c2-d2)=c2-d2:=by unfold wrap64;omega
  have hb:∀(o1 o2 o3:Obj),(((W.alloc o1).alloc o2).alloc o3).heap[W.heap.size+1+1]? = some o3:=by
    intro o1 o2 o3
    have h:=Array.getElem?_push_size (xs:=((W.alloc o1).alloc o2).heap) (x:=o3)
    have e:((W.alloc o1).alloc o2).heap.size=W.heap.size+1+1:=by
      unfold World.alloc
      rw[Array.size_push,Array.size_push]
    rw[e]at h
    exact h
  unfold jN
  go_enter Try.func39,Try.ntmps39
  go_wp2_with (go_at_call 56;refine(cmpOr _ _ _ _ 3 (hb _ _ _)).mono ?_;rintro e w' ⟨rfl,rfl⟩)
  go_ret
  exact⟨rfl,0,_,by rw[alloc_eq_grow,alloc_eq_grow,alloc_eq_grow,grow_grow,grow_grow];rfl⟩
set_option maxHeartbeats 2000000 in
set_option maxRecDepth 100000 in
theorem qof(hkp:KeyP Try.prog 102){l:List (XK×XK)}(p q:XK)(W:World){b0 o b:Nat}(hc:W.cell? ⟨b0,o,none⟩=some (.map (some b)))(hm:qeu Try.prog 102 jN W b l)
    (hp1:qdi p.1=true) (hp2:qdi p.2=true) (hq1:qdi q.1=true) (hq2:qdi q.2=true)
    (h1:inS ((qX l q).getD (0,0)).1) (h2:inS ((qX l q).getD (0,0)).2) (h3:inS ((qX l p).getD (0,0)).1) (h4:inS ((qX l p).getD (0,0)).2):
    Calls Try.prog 41 #[jN p,jN q,.pointer (some ⟨b0,o,none⟩)] W λe w'=>e = .returned (.int .i64 (or2 (((qX l q).getD (0,0)).1-((qX l p).getD (0,0)).1) (((qX l q).getD (0,0)).2-((qX l p).getD (0,0)).2)))/\∃q os',w'=grow (W.drewN q) os':=by
  have mixed:Try.prog.follows .mixedOrders=true:=by kernel_rfl
  have hT:Try.prog.underlying 98=some (.map 102 95):=by kernel_rfl
  obtain⟨p1,p2⟩:=p
  obtain⟨q1,q2⟩:=q
  have hbl:b0<W.heap.size:=by
    unfold World.cell? at hc
    split at hc
    · rename_i h;exact(Array.getElem?_eq_some_iff.1 h).1
    · cases hc
  obtain⟨eb,nb,hbk,hbF⟩:=hm.fz
  have hbs:b<W.heap.size:=(Array.getElem?_eq_some_iff.1 hbk).1
  have hmg:∀(w':World),w'.heap[b]? = W.heap[b]?->qeu Try.prog 102 jN w' b l:=λw' e=>hm.block e
  unfold jN
  go_enter Try.func41,Try.ntmps41
  go_wp2_with fail
  obtain⟨o1,ho1⟩:∃o1,o1=Obj.cells #[Value.int .i64 p1,Value.int .i64 p2] 102:=⟨_,rfl⟩
  obtain⟨o2,ho2⟩:∃o2,o2=Obj.cells #[Value.int .i64 q1,Value.int .i64 q2] 102:=⟨_,rfl⟩
  rw[<-ho1,<-ho2]
  obtain⟨V,hV⟩:∃V,V=(W.alloc o1).alloc o2:=⟨_,rfl⟩
  have hVs:V.heap.size=W.heap.size+2:=by rw[hV];simp
  have hg1:V.heap[W.heap.size]? = some o1:=by
    rw[hV,heap_alloc_old _ _ (by simp),heap_alloc_new]
  have hg2:V.heap[W.heap.size+1]? = some o2:=by
    have:=heap_alloc_new (W.alloc o1) o2
    rw[World.size_alloc]at this
    rw[hV];exact this
  have hold:∀k,k<W.heap.size->V.heap[k]? = W.heap[k]?:=λk hk=>by
    rw[hV,heap_alloc_old _ _ (by simp;omega),heap_alloc_old _ _ hk]
  have hgr:∀n os k,k<V.heap.size->(grow (V.drewN n) os).heap[k]? = V.heap[k]?:=λn os k hk=>by
    show(V.heap++os)[k]? = _
    rw[Array.getElem?_append_left hk]
  have f0:∀n os,(grow (V.drewN n) os).cell? ⟨b0,o,none⟩=some (.map (some b)):=λn os=>by
    have e:(grow (V.drewN n) os).heap[b0]? = W.heap[b0]?:=by rw[hgr _ _ _ (by omega),hold _ hbl]
    unfold World.cell? at hc ⊢
    simp only[e]
    exact hc
  have f1:∀n os,(grow (V.drewN n) os).cell? ⟨W.heap.size,0,none⟩=some (.int .i64 p1):=λn os=>by
    have e:(grow (V.drewN n) os).heap[W.heap.size]? = some o1:=by rw[hgr _ _ _ (by omega),hg1]
    simp[World.cell?,e,ho1]
  have f2:∀n os,(grow (V.drewN n) os).cell? ⟨W.heap.size,1,none⟩=some (.int .i64 p2):=λn os=>by
    have e:(grow (V.drewN n) os).heap[W.heap.size]? = some o1:=by rw[hgr _ _ _ (by omega),hg1]
    simp[World.cell?,e,ho1]
  have f3:∀n os,(grow (V.drewN n) os).cell? ⟨W.heap.size+1,0,none⟩=some (.int .i64 q1):=λn os=>by
    have e:(grow (V.drewN n) os).heap[W.heap.size+1]? = some o2:=by rw[hgr _ _ _ (by omega),hg2]
    simp[World.cell?,e,ho2]
  have f4:∀n os,(grow (V.drewN n) os).cell? ⟨W.heap.size+1,1,none⟩=some (.int .i64 q2):=λn os=>by
    have e:(grow (V.drewN n) os).heap[W.heap.size+1]? = some o2:=by rw[hgr _ _ _ (by omega),hg2]
    simp[World.cell?,e,ho2]
  have hMg:∀n os,qeu Try.prog 102 jN (grow (V.drewN n) os) b l:=λn os=>hm.block (by rw[hgr _ _ _ (by omega),hold _ hbs])
  have l1:∀n os,(Instr.lookup 98 (.map (some b)) (.agg #[.int .i64 p1,.int .i64 p2]) false).run Try.prog (grow (V.drewN n) os) = .ok (jN ((qX l (p1,p2)).getD (0,0))) (grow (V.drewN n) os):=λn os=>
    ((hMg n os).look hkp hT (z0:=((0:Int),(0:Int))) (q:=(p1,p2)) (Try.zeroValue95 _) hp1 hp2).2
  have l2:∀n os,(Instr.lookup 98 (.map (some b)) (.agg #[.int .i64 q1,.int .i64 q2]) false).run Try.prog (grow (V.drewN n) os) = .ok (jN ((qX l (q1,q2)).getD (0,0))) (grow (V.drewN n) os):=λn os=>
    ((hMg n os).look hkp hT (z0:=((0:Int),(0:Int))) (q:=(q1,q2)) (Try.zeroValue95 _) hq1 hq2).2
  obtain⟨cp,hcp⟩:∃cp,cp=(qX l (p1,p2)).getD (0,0):=⟨_,rfl⟩
  obtain⟨cq,hcq⟩:∃cq,cq=(qX l (q1,q2)).getD (0,0):=⟨_,rfl⟩
  rw[<-hcp]at l1 h3 h4
  rw[<-hcq]at l2 h1 h2
  have hcg:∀n os,Calls Try.prog 39 #[jN cq,jN cp] (grow (V.drewN n) os) λe w'=>e = .returned (.int .i64 (or2 (cq.1-cp.1) (cq.2-cp.2)))/\∃q os',w'=grow ((grow (V.drewN n) os).drewN q) os':=λn os=>cmp39 cq cp _ h1 h2 h3 h4
  have fin:∀n os,∃q os',grow (V.drewN n) os=grow (W.drewN q) os':=λn os=>⟨n,#[o1,o2]++os,by
    rw[hV,alloc_eq_grow,alloc_eq_grow,grow_grow]
    show grow (grow (W.drewN n) _) os=_
    rw[grow_grow];rfl⟩
  rw[<-hV]
  have FIN:Aside _:=fin
  have HCP:Hid (cp=(qX l (p1,p2)).getD (0,0)/\cq=(qX l (q1,q2)).getD (0,0)):=⟨hcp,hcq⟩
  clear hMg hgr hold hg1 hg2 hm hmg hc hV hVs ho1 ho2 fin hcp hcq h1 h2 h3 h4 hbk hbF hbs hbl
  go_quiet_grown (refine Calls.grown_of (hcg _ _))
  go_wp2_with fail
  go_ret
  rw[<-HCP.out.1,<-HCP.out.2]
  exact⟨rfl,FIN.out _ _⟩
theorem or2_neg(x y:Int):or2 x y<0↔x<0\/(x=0/\y<0):=by
  unfold or2
  split
  · omega
  · omega
def okP(m:List (XK×XK))(p:XK):Prop:=qdi p.1=true/\qdi p.2=true/\inS ((qX m p).getD (0,0)).1/\inS ((qX m p).getD (0,0)).2
def cfP(m:List (XK×XK))(x y:XK):Int:=or2 (((qX m y).getD (0,0)).1-((qX m x).getD (0,0)).1) (((qX m y).getD (0,0)).2-((qX m x).getD (0,0)).2)
theorem qhJ(m:List (XK×XK))(x y:{p // okP m p}):ltOf (λx y:{p // okP m p}=>cfP m x.1 y.1) x y=decide (cfP m x.1 y.1<0):=rfl
theorem swoP(m:List (XK×XK)):SWO (ltOf λx y:{p // okP m p}=>cfP m x.1 y.1) where
  irrefl x:=by rw[qhJ];unfold cfP;rw[decide_eq_false_iff_not,or2_neg];omega
  trans x y z h1 h2:=by rw[qhJ]at *;unfold cfP at *;rw[decide_eq_true_eq,or2_neg]at *;omega
  ntrans x y z h1 h2:=by rw[qhJ]at *;unfold cfP at *;rw[decide_eq_false_iff_not,or2_neg]at *;omega
def srtP(m:List (XK×XK))[Inhabited {p // okP m p}](d:Array {p // okP m p}):List XK:=
  (pdq (ltOf λx y:{p // okP m p}=>cfP m x.1 y.1) d 0 d.size (Lib.bitLen d.size) true true).toList.map (·.1)
def srtA(m:List (XK×XK)):List {p // okP m p}->Option (List XK)
  |[]=>none
  |x::r=>some (@srtP m ⟨x⟩ (x::r).toArray)
theorem att{α:Type}{P:α->Prop}(l:List α)(h:∀x∈l,P x):(l.attachWith P h).map (·.1)=l:=by
  apply List.ext_getElem
  · simp
  · intro i h1 h2
    simp
theorem qnM{m:List (XK×XK)}[Inhabited {p // okP m p}](d:Array {p // okP m p}):(srtP m d).Perm (d.toList.map (·.1))/\(srtP m d).Pairwise λx y=>¬cfP m y x<0:=by
  obtain⟨hp,hs⟩:=pdq_sorts (ltOf λx y:{p // okP m p}=>cfP m x.1 y.1) (swoP m) d 0 d.size (Lib.bitLen d.size) true true (Nat.zero_le _) (Nat.le_refl _) (Or.inl rfl)
  unfold srtP
  generalize pdq (ltOf λx y:{p // okP m p}=>cfP m x.1 y.1) d 0 d.size (Lib.bitLen d.size) true true=d' at hp hs ⊢
  have hds:d'.size=d.size:=hp.1
  have hperm:d'.toList.Perm d.toList:=by
    have h5:=hp.2.2
    rw[Array.toList_extract,Array.toList_extract]at h5
    simpa[List.extract_eq_take_drop,hds,List.take_of_length_le]using h5
  refine⟨hperm.map _,?_⟩
  rw[List.pairwise_map,List.pairwise_iff_getElem]
  intro i j hi hj hij
  have hj':j<d'.size:=by simpa using hj
  have h5:=hs i j (Nat.zero_le _) hij (by omega)
  rw[getElem!_pos d' i (by omega),getElem!_pos d' j hj']at h5
  rw[qhJ,decide_eq_false_iff_not]at h5
  simpa using h5
def srt(o:Option (List (XK×XK)))(l:List (Int×Int)):Option uAb:=
  match o with
  |none=>none
  |some m=>open Classical in if h:l.length<=1000000/\∀p∈l,okP m p then srtA m (l.attachWith (okP m) h.2)else none
theorem srt_some{m:List (XK×XK)}{l:List (Int×Int)}(h1:l.length<=1000000)(h2:∀p∈l,okP m p)(hne:l≠[]):∃l',srt (some m) l=some l'/\l'.Perm l/\l'.Pairwise λx y=>¬cfP m y x<0:=by
  have h:l.length<=1000000/\∀p∈l,okP m p:=⟨h1,h2⟩
  have e2:=att l h.2
  have e3:srt (some m) l=srtA m (l.attachWith (okP m) h.2):=by
    unfold srt
    dsimp only
    rw[dif_pos h]
  rw[e3]
  revert e2
  generalize l.attachWith (okP m) h.2=la
  intro e2
  cases la with
  |nil=>exact absurd e2.symm hne
  |cons x r=>
    obtain⟨hp,hs⟩:=@qnM m ⟨x⟩ (x::r).toArray
    refine⟨_,rfl,?_,hs⟩
    rw[<-e2]
    exact hp
theorem qnL{m:List (XK×XK)}{l l2:List (Int×Int)}(h:srt (some m) l=some l2):l.length<=1000000/\l≠[]/\∃(i:Inhabited {p // okP m p}) (d:Array {p // okP m p}),d.toList.map (·.1)=l/\ @srtP m i d=l2:=by
  unfold srt at h
  dsimp only at h
  split at h
  case isFalse=>cases h
  rename_i hall
  have e2:=att l hall.2
  revert e2 h
  generalize l.attachWith (okP m) hall.2=la
  intro h e2
  cases la with
  |nil=>cases h
  |cons x r=>exact⟨hall.1,by rw[<-e2];simp,⟨x⟩,_,e2,Option.some.inj h⟩
def xs:XS:=⟨40,41,.ext false 0 102 95,102,.str zTe,srt⟩
theorem qmi(hkp:KeyP Try.prog 102){m:List (XK×XK)}{l l2:List (Int×Int)}(hsrt:srt (some m) l=some l2){w:World}{H:FH}{b o:Nat}{blk:Array Value}{φ:qB}(hok:HOk H w)(hHb:H b=some (.cells blk))(hrep:qm Try.prog (.ext false 0 102 95) w H (some m:Option (List (XK×XK))) (seg blk o 1) [])
    (hobj:qK Try.prog w H ⟨true,.list true 102 (.str zTe),l⟩ φ) (hfr:∀c∈φ.fp,H c=none/\c<w.heap.size):
    Calls Try.prog 40 #[φ.hdr,.func (.func 41) #[] #[.pointer (some ⟨b,o,none⟩)]] w λe w'=>e = .returned (.tuple #[])/\jM (· ∈φ.fp) w w'/\qK Try.prog w' H ⟨true,.list true 102 (.str zTe),l2⟩ φ:=by
  obtain⟨bm,hseg,_,c,hHm,hmF⟩:=hrep
  have hseg:seg blk o 1=[.map (some bm)]:=hseg
  obtain⟨tb,fb,hwb⟩:=hok b _ hHb
  have hmX:qeu Try.prog 102 jN w bm m:=hmF.mapX (hok bm c hHm)
  have hcell:w.cell? ⟨b,o,none⟩=some (.map (some bm)):=by
    have:blk[o]? = some (.map (some bm)):=by
      unfold seg at hseg
      have h:=congrArg (·[0]?) hseg
      simpa using h
    simp[World.cell?,hwb,this]
  obtain⟨hlim,hne,inst,da,hdl,hsrt⟩:=qnL hsrt
  have hds:da.size=l.length:=by rw[<-hdl];simp
  let t:Ty:=.pair zI zI
  have hbs:(Ty.str t).isBare=true:=rfl
  rcases qkl hbs hobj with⟨hl0,hh⟩|⟨g,cap,cur,hh,hfp,hg,h1,h2,h3,h4⟩
  · exact absurd hl0 hne
  have hgf:H g=none:=(hfr g (by rw[hfp];simp)).1
  have hbg:b≠g:=λe=>by rw[e,hgf]at hHb;cases hHb
  have hmg:bm≠g:=λe=>by rw[e,hgf]at hHm;cases hHm
  have hk:∀x:{p // okP m p},(qao t x.1).length=t.size:=λx=>qm.length (P:=Try.prog) t (qcs t rfl w H x.1)
  have hk1:∀x:{p // okP m p},∀u∈qao t x.1,u.oneCell'=true:=λx=>qm.one (P:=Try.prog) t (qcs t rfl w H x.1)
  have hmap:∀lb:List {p // okP m p},(lb.map λx=>qao t x.1).flatten=((lb.map (·.1)).map (qao (.str t))).flatten:=λlb=>by
    rw[List.map_map];rfl
  have hH:HoldsK (λx:{p // okP m p}=>qao t x.1) t.size w g 0 da:=by
    intro j hj
    have hj':j<l.length*(Ty.str t).size:=by
      have h:j<l.length*t.size:=by rw[<-hds];exact Nat.lt_of_lt_of_eq hj (size_flatK _ _ _)
      exact h
    have hf:=qiX (λx:{p // okP m p}=>qao t x.1) hk da
    refine⟨?_,?_⟩
    · rw[qy hg,Nat.zero_add,<-Array.getElem?_toList]
      have h5:(flatK (λx:{p // okP m p}=>qao t x.1) t.size da).toList[j]? = cur.toList[j]?:=by
        rw[hf,hmap,hdl,<-h4,List.getElem?_take,if_pos hj']
      rw[<-h5,Array.getElem?_toList,getElem!_pos _ j hj]
      exact Array.getElem?_eq_getElem _
    · simp[World.frozen?,hg]
  have hcmp:CmpLays Try.prog 41 #[.pointer (some ⟨b,o,none⟩)] (λx:{p // okP m p}=>qao t x.1) t.size (λx y=>cfP m x.1 y.1) g 0 da.size w:=by
    intro n os dk hdk x y
    have hgw:(Sort.ahead w n).heap[g]? = some (.cells cur 102 (0,0)):=hg
    have hW:∀k,k<w.heap.size->k≠g->(sortWorldK (λx:{p // okP m p}=>qao t x.1) t.size w g 0 n dk os).heap[k]? = w.heap[k]?:=by
      intro k hkl hkg
      have hsize:(putRowK (λx:{p // okP m p}=>qao t x.1) t.size (Sort.ahead w n) g 0 dk).heap.size=w.heap.size:=size_putRowK _ _ _ _ _ _
      unfold sortWorldK
      show((putRowK (λx:{p // okP m p}=>qao t x.1) t.size (Sort.ahead w n) g 0 dk).heap++os)[k]? = _
      rw[Array.getElem?_append_left (by rw[hsize];exact hkl)]
      exact(qeD id (Sort.ahead w n) g (flatK (λx:{p // okP m p}=>qao t x.1) t.size dk) hgw).2 k hkg
    generalize sortWorldK (λx:{p // okP m p}=>qao t x.1) t.size w g 0 n dk os=W at hW ⊢
    have hlb:b<w.heap.size:=(Array.getElem?_eq_some_iff.1 hwb).1
    have hlm:bm<w.heap.size:=(hok bm c hHm).lt
    obtain⟨⟨x1,x2⟩,hx⟩:=x
    obtain⟨⟨y1,y2⟩,hy⟩:=y
    exact qof hkp (x1,x2) (y1,y2) W (by unfold World.cell? at hcell ⊢;rw[hW b hlb hbg];exact hcell) (hmX.block (hW bm hlm hmg)) hx.1 hx.2.1 hy.1 hy.2.1 hy.2.2.1 hy.2.2.2 hx.2.2.1 hx.2.2.2
  have hc:=Go.Proofs.AnyQ.slices_SortFunc_eq Try.sortP t.size (λw=>by kernel_rfl) (λw=>by kernel_rfl) (λx:{p // okP m p}=>qao t x.1) hk hk1 (λx y=>cfP m x.1 y.1) (swoP m) 41 #[.pointer (some ⟨b,o,none⟩)] g 0 cap da w
    (enters_of Try.func41 (by kernel_rfl) rfl) hcmp hH (Array.getElem?_eq_some_iff.1 hg).1 (by rw[hds];omega)
  have hsrt:(pdq (ltOf λx y:{p // okP m p}=>cfP m x.1 y.1) da 0 l.length (Lib.bitLen l.length) true true).toList.map (·.1)=l2:=by rw[<-hds];exact hsrt
  rw[hds]at hc
  rw[hh]
  refine hc.mono ?_
  rintro e w' ⟨rfl,n,os,rfl⟩
  obtain⟨hp,_⟩:=pdq_sorts (ltOf λx y:{p // okP m p}=>cfP m x.1 y.1) (swoP m) da 0 l.length (Lib.bitLen l.length) true true (Nat.zero_le _) (by rw[hds];exact Nat.le_refl _) (Or.inl rfl)
  generalize pdq (ltOf λx y:{p // okP m p}=>cfP m x.1 y.1) da 0 l.length (Lib.bitLen l.length) true true=d' at hp hsrt ⊢
  have hl2:d'.toList.map (·.1)=l2:=hsrt
  have hd's:d'.size=l.length:=hp.1.trans hds
  obtain⟨hm,ho⟩:=row_put (P:=Try.prog) (l':=l2) hbs hobj hh hfp hg h1 h2 h3 (by rw[<-hl2,List.length_map,Array.length_toList,hd's]) (F:=flatK (λx:{p // okP m p}=>qao t x.1) t.size d') (by
    rw[qiX _ hk,hmap,hl2]) n os
  exact⟨rfl,hm,ho⟩
theorem xs_ok:XsOK Try.prog xs where
  callable:=qY Try.func40 rfl (by kernel_rfl)
  sort x l l2 hsrt w H b o blk φ hok hHb hrep hobj hnd hfr:=by
    have hsrt:srt x l=some l2:=hsrt
    cases x with
    |none=>cases hsrt
    |some m=>exact qmi kp102 hsrt hok hHb hrep hobj hfr
end Hs
def F104(_n:Nat)(s_0:(List uAf))(i_1:Int)(k_2:Int):Option uAd:=
  qs s_0 i_1 λe1=>qs s_0 k_2 λe2=>qa (g39 (e1.2,e2.2,())) λy3=>some (((decide (y3.1.1<0)),()),())
def g104(d:(List uAf)×Int×Int×Unit):Option uAd:=F104 qn d.1 d.2.1 d.2.2.1
def p104:jE:=⟨[.v (.list false 132 (.str uAw)),.v zI,.v zI],[.v .bool],g104⟩
def c104:jG:=⟨19,tyT,[],[(39,p39)],[],[],[],[],[],[],[],[],[],[],none,[],[],[],none,none,[]⟩
theorem F104_eq(n:Nat)(d):jC c104 n Try.f104 (body Try.f104) p104.ps p104.rs d=F104 n d.1 d.2.1 d.2.2.1:=by kernel_rfl
theorem h104:qZ Try.prog 104 p104:=hQ (cfg:=c104) (qL qM (qo h39 qC) rfl (by kernel_rfl)) Try.func104 (by kernel_rfl) (qT (by kernel_rfl)) (by kernel_rfl) (F104_eq qn)
def F105(_n:Nat)(s_0:(List uAf)):Option (((XK×XK)×Unit)×((List uAf)×Unit)):=
  qcE (λ(e1:(Int×Int)×(Int×Int))=>qcE (some ((e1,()),((s_0.take (IntKind.wrap .i64 ((s_0.length:Int)-1)).toNat),()))) λE=>qc [leK 0 (IntKind.wrap .i64 ((s_0.length:Int)-1)) (leK (IntKind.wrap .i64 ((s_0.length:Int)-1)) (s_0.length:Int) (E)),leK 0 (IntKind.wrap .i64 ((s_0.length:Int)-1)) (leK (IntKind.wrap .i64 ((s_0.length:Int)-1)) (s_0.length:Int) (E))]) λE=>qc [qc [qc [inR (IntKind.wrap .i64 ((s_0.length:Int)-1)) s_0.length (qc [qs s_0 (IntKind.wrap .i64 ((s_0.length:Int)-1)) λe1=>E e1,qs s_0 (IntKind.wrap .i64 ((s_0.length:Int)-1)) λe2=>E e2]),inR (IntKind.wrap .i64 ((s_0.length:Int)-1)) s_0.length (qs s_0 (IntKind.wrap .i64 ((s_0.length:Int)-1)) λe3=>E e3)],inR (IntKind.wrap .i64 ((s_0.length:Int)-1)) s_0.length (qs s_0 (IntKind.wrap .i64 ((s_0.length:Int)-1)) λe4=>E e4)],qc [qc [inR (IntKind.wrap .i64 ((s_0.length:Int)-1)) s_0.length (qc [qs s_0 (IntKind.wrap .i64 ((s_0.length:Int)-1)) λe5=>E e5,qs s_0 (IntKind.wrap .i64 ((s_0.length:Int)-1)) λe6=>E e6]),inR (IntKind.wrap .i64 ((s_0.length:Int)-1)) s_0.length (qs s_0 (IntKind.wrap .i64 ((s_0.length:Int)-1)) λe7=>E e7)],qc [inR (IntKind.wrap .i64 ((s_0.length:Int)-1)) s_0.length (qc [qs s_0 (IntKind.wrap .i64 ((s_0.length:Int)-1)) λe8=>E e8,qs s_0 (IntKind.wrap .i64 ((s_0.length:Int)-1)) λe9=>E e9]),inR (IntKind.wrap .i64 ((s_0.length:Int)-1)) s_0.length (qs s_0 (IntKind.wrap .i64 ((s_0.length:Int)-1)) λe10=>E e10)],qc [inR (IntKind.wrap .i64 ((s_0.length:Int)-1)) s_0.length (qs s_0 (IntKind.wrap .i64 ((s_0.length:Int)-1)) λe11=>E e11),inR (IntKind.wrap .i64 ((s_0.length:Int)-1)) s_0.length (qs s_0 (IntKind.wrap .i64 ((s_0.length:Int)-1)) λe12=>E e12)]],qc [inR (IntKind.wrap .i64 ((s_0.length:Int)-1)) s_0.length (qs s_0 (IntKind.wrap .i64 ((s_0.length:Int)-1)) λe13=>E e13),inR (IntKind.wrap .i64 ((s_0.length:Int)-1)) s_0.length (qs s_0 (IntKind.wrap .i64 ((s_0.length:Int)-1)) λe14=>E e14)]]
def g105(d:(List uAf)×Unit):Option (((XK×XK)×Unit)×((List uAf)×Unit)):=F105 qn d.1
def p105:jE:=⟨[.m (.list true 132 (.str uAw))],[.v (.ext false 2 132 0)],g105⟩
def c105:jG:=⟨27,tyT,[],[],[],[],[1,2],[],[],[],[],[],[],[],none,[],[],[],some Hx.xq0,none,[]⟩
theorem F105_eq(n:Nat)(d):jC c105 n Try.f105 (body Try.f105) p105.ps p105.rs d=F105 n d.1:=by kernel_rfl
theorem h105:qZ Try.prog 105 p105:=hQ (cfg:=c105) (qL qM (qC) rfl (by kernel_rfl) (hqu:=qms Hx.xq0_ok)) Try.func105 (by kernel_rfl) (qT (by kernel_rfl)) (by kernel_rfl) (F105_eq qn)
def F106(_n:Nat)(s_0:(List uAf))(x_1:(XK×XK)):Option uCe:=
  qcE (some ((),((s_0++[x_1]),()))) λE=>qc [ql ((s_0.length:Int)+[x_1].length) (E),qc [ql ((s_0.length:Int)+[x_1].length) (E),ql ((s_0.length:Int)+[x_1].length) (E)]]
def g106(d:(List uAf)×(XK×XK)×Unit):Option uCe:=F106 qn d.1 d.2.1
def p106:jE:=⟨[.m (.list true 132 (.str uAw)),.v (.ext false 2 132 0)],[],g106⟩
def c106:jG:=⟨13,tyT,[],[],[],[],[0],[],[],[],[],[],[],[],none,[],[],[],some Hx.xq0,none,[]⟩
theorem F106_eq(n:Nat)(d):jC c106 n Try.f106 (body Try.f106) p106.ps p106.rs d=F106 n d.1 d.2.1:=by kernel_rfl
theorem h106:qZ Try.prog 106 p106:=hQ (cfg:=c106) (qL qM (qC) rfl (by kernel_rfl) (hqu:=qms Hx.xq0_ok)) Try.func106 (by kernel_rfl) (qT (by kernel_rfl)) (by kernel_rfl) (F106_eq qn)
def F107(_n:Nat)(s_0:List uAf)(i_1:Int)(k_2:Int):Option uCe:=
  inR k_2 s_0.length (qs s_0 k_2 λe1=>inR i_1 s_0.length (qs s_0 i_1 λe2=>inR i_1 s_0.length (qs s_0 i_1 λ_=>inR k_2 (s_0.set i_1.toNat e1).length (qs (s_0.set i_1.toNat e1) k_2 λ_=>some ((),(((s_0.set i_1.toNat e1).set k_2.toNat e2),()))))))
def g107(d:(List uAf)×Int×Int×Unit):Option uCe:=F107 qn d.1 d.2.1 d.2.2.1
def p107:jE:=⟨[.mr 132 (.str uAw),.v zI,.v zI],[],g107⟩
def c107:jG:=⟨20,tyT,[],[],[],[],[0],[],[],[],[],[],[],[],none,[],[],[],none,none,[]⟩
theorem F107_eq(n:Nat)(d):jC c107 n Try.f107 (body Try.f107) p107.ps p107.rs d=F107 n d.1 d.2.1 d.2.2.1:=by kernel_rfl
theorem h107:qZ Try.prog 107 p107:=hQ (cfg:=c107) (qL qM (qC) rfl (by kernel_rfl)) Try.func107 (by kernel_rfl) (qT (by kernel_rfl)) (by kernel_rfl) (F107_eq qn)
namespace Hp
open Go.Vi Go.Proofs Go.Shelf Go.RowKit Hx
set_option maxRecDepth 100000
theorem qmO{w:World}{l:List Stp}{hdr:Value}(hrow:w.ownsRow 0 132 4 hdr l.length (l.map qcD).flatten){i k:Int}{b:Bool}(hg:g104 (l,i,k,())=some ((b,()),())):
    Calls Try.prog 104 #[hdr,.int .i64 i,.int .i64 k] w λe w'=>e = .returned (.bool b)/\jM qV w w':=by
  obtain⟨H,hok,hrep⟩:=qnh (P:=Try.prog) hrow
  refine(h104.2 (l,i,k,()) _ hg w H [hdr,.int .i64 i,.int .i64 k] [qw,qw,qw] hok ⟨hdr,_,qw,_,rfl,rfl,rfl,rfl,⟨[hdr],rfl,hrep⟩,_,_,qw,_,rfl,rfl,rfl,rfl,⟨[.int .i64 i],rfl,rfl,rfl⟩,_,_,qw,_,rfl,rfl,rfl,rfl,⟨[.int .i64 k],rfl,rfl,rfl⟩,rfl,rfl⟩ (by simp[qd,qw]) (by simp[qd,qw])).mono ?_
  rintro e w' ⟨us,H2,Φs',Ψs,rfl,hm,_,_,_,hres,_⟩
  obtain⟨v,vs',φ,Φs2,rfl,rfl,_,_,⟨cs,rfl,hc,_⟩,rfl,rfl⟩:=hres
  exact⟨by rw[hc];rfl,hm.mono (λb hb=>by simp[qd,qw]at hb)⟩
theorem qmf{w:World}{l l':List Stp}{hdr:Value}(hrow:w.ownsRow 0 132 4 hdr l.length (l.map qcD).flatten){i k:Int}(hg:g107 (l,i,k,())=some ((),l',())):
    Calls Try.prog 107 #[hdr,.int .i64 i,.int .i64 k] w λe w'=>e = .returned (.tuple #[])/\jM (· ∈hdr.ownBlock.toList) w w'/\w'.ownsRow 0 132 4 hdr l'.length (l'.map qcD).flatten:=by
  have hlt:∀g,hdr.ownBlock=some g->g<w.heap.size:=λg hg=>(World.ownsRow.lt hrow g hg).2
  have hfps:qd [⟨0,hdr,hdr.ownBlock.toList⟩,qw,qw]=hdr.ownBlock.toList:=by simp[qd,qw]
  have hobj:qK Try.prog w (λ_=>none) ⟨true,.list true 132 tSt,l⟩ ⟨0,hdr,hdr.ownBlock.toList⟩:=qK.of_list rfl (by cases hdr.ownBlock<;>simp) ⟨hdr,_,[],rfl,by simp,hrow,qfb Try.prog w _ l⟩
  refine(h107.2 (l,i,k,()) _ hg w (λ_=>none) [hdr,.int .i64 i,.int .i64 k] [⟨0,hdr,hdr.ownBlock.toList⟩,qw,qw] (λb c hb=>by cases hb)
    ⟨hdr,_,_,_,rfl,rfl,rfl,hobj,_,_,qw,_,rfl,rfl,rfl,rfl,⟨[.int .i64 i],rfl,rfl,rfl⟩,_,_,qw,_,rfl,rfl,rfl,rfl,⟨[.int .i64 k],rfl,rfl,rfl⟩,rfl,rfl⟩ (by rw[hfps];cases hdr.ownBlock<;>simp)
    (by rw[hfps];intro b hb;exact⟨rfl,hlt b (by simpa using hb)⟩)).mono ?_
  rintro e w' ⟨us,H2,Φs',Ψs,rfl,hm,_,_,_,hres,hmu,_,_⟩
  obtain⟨rfl,_⟩:=hres
  obtain⟨v1,vs1,φ1,Φs1,e1,rfl,hv1,hobj1,_⟩:=hmu
  rw[hfps]at hm
  obtain⟨rfl,_⟩:hdr=v1/\[Value.int .i64 i,.int .i64 k]=vs1:=by
    injection e1 with e2 e3
    exact⟨e2,e3⟩
  have hr:=qK.row_list hobj1
  rw[<-hv1]at hr
  obtain⟨hdr2,xs,f2,e4,e5,hown,hch⟩:=hr
  obtain⟨hx,_⟩:=qgF hch
  obtain rfl:hdr=hdr2:=by injection e4
  subst hx
  exact⟨rfl,hm,hown⟩
theorem qbU{w:World}{l:List Stp}{v:Value}{fp:List Nat}(h:qbZ 130 132 w l [v] fp)(hnd:fp.Nodup):∃b hdr,v = .iface 130 (.pointer (some ⟨b,0,none⟩))/\
    (method (296) 130 (.pointer (some ⟨b,0,none⟩)) "Less").run Try.prog w = .ok (104,hdr) w/\(method (296) 130 (.pointer (some ⟨b,0,none⟩)) "Swap").run Try.prog w = .ok (107,hdr) w/\(method (296) 130 (.pointer (some ⟨b,0,none⟩)) "Len").run Try.prog w = .ok (103,hdr) w/\
    (∀i k r,g104 (l,i,k,())=some ((r,()),())->Calls Try.prog 104 #[hdr,.int .i64 i,.int .i64 k] w λe w'=>e = .returned (.bool r)/\jM qV w w'/\qbZ 130 132 w' l [v] fp)/\
    (∀i k l',g107 (l,i,k,())=some ((),l',())->Calls Try.prog 107 #[hdr,.int .i64 i,.int .i64 k] w λe w'=>e = .returned (.tuple #[])/\jM (· ∈fp) w w'/\qbZ 130 132 w' l' [v] fp)/\
    Calls Try.prog 103 #[hdr] w λe w'=>e = .returned (.int .i64 (l.length:Int))/\jM qV w w'/\qbZ 130 132 w' l [v] fp:=by
  obtain⟨bq,tt,hdr,rfl,rfl,hb,hrow⟩:=qf5 h
  have hst:∀w',jM qV w w'->qbZ 130 132 w' l [.iface 130 (.pointer (some ⟨bq,0,none⟩))] (bq::hdr.ownBlock.toList):=λw' hm=>
    ⟨bq,tt,hdr,rfl,rfl,(hm.block bq (Array.getElem?_eq_some_iff.1 hb).1 (λh=>h)).trans hb,qcw hrow (λb hb'=>hm.block b (World.ownsRow.lt hrow b (by simpa using hb')).2 (λh=>h))⟩
  refine⟨bq,hdr,rfl,?_,?_,?_,?_,?_,?_⟩
  · have e:(method (296) 130 (.pointer (some ⟨bq,0,none⟩)) "Less").run Try.prog w=((do let v <-Go.loadVar 134 ⟨bq,0,none⟩;pure (104,v)):Sem (FuncId×Value)).run Try.prog w:=by kernel_rfl
    rw[e,Sem.run_bind,qgc hb];rfl
  · have e:(method (296) 130 (.pointer (some ⟨bq,0,none⟩)) "Swap").run Try.prog w=((do let v <-Go.loadVar 134 ⟨bq,0,none⟩;pure (107,v)):Sem (FuncId×Value)).run Try.prog w:=by kernel_rfl
    rw[e,Sem.run_bind,qgc hb];rfl
  · have e:(method (296) 130 (.pointer (some ⟨bq,0,none⟩)) "Len").run Try.prog w=((do let v <-Go.loadVar 134 ⟨bq,0,none⟩;pure (103,v)):Sem (FuncId×Value)).run Try.prog w:=by kernel_rfl
    rw[e,Sem.run_bind,qgc hb];rfl
  · intro i k r hg
    refine(qmO hrow hg).mono ?_
    rintro e w' ⟨he,hm⟩
    exact⟨he,hm,hst w' hm⟩
  · intro i k l' hg
    refine(qmf hrow hg).mono ?_
    rintro e w' ⟨he,hm,hown⟩
    refine⟨he,hm.mono (λb hb=>List.mem_cons_of_mem _ hb),bq,tt,hdr,rfl,rfl,?_,hown⟩
    rw[hm.block bq (Array.getElem?_eq_some_iff.1 hb).1 (λhh=>(List.nodup_cons.1 hnd).1 hh)]
    exact hb
  · obtain⟨hdr2,e1,hc⟩:=qnk h
    have e2:hdr2=hdr:=by
      have e:(callMethod (.iface 130 (.pointer (some ⟨bq,0,none⟩))) "Len" #[]).run Try.prog w=((do let v <-Go.loadVar 134 ⟨bq,0,none⟩;callFunc 103 (#[v] ++ #[])):Sem Next).run Try.prog w:=by kernel_rfl
      rw[e,Sem.run_bind,qgc hb]at e1
      have e3:=(qaJ (P:=Try.prog) (qY Try.func103 rfl (by kernel_rfl)) (#[hdr] ++ #[]) w).symm.trans e1
      injection e3 with e3
      injection e3 with _ e3
      have e4:=congrArg Array.toList e3
      simp at e4
      exact e4.symm
    rw[e2]at hc
    refine hc.mono ?_
    rintro e w' ⟨he,hm⟩
    exact⟨he,hm,hst w' hm⟩
theorem qnj{w:World}{l:List Stp}{b:Nat}{tt:TypeId}{hdr:Value}(hb:w.heap[b]? = some (.cells #[hdr] tt (0,0)))(hrow:w.ownsRow 0 132 4 hdr l.length (l.map qcD).flatten)(hnd:(b::hdr.ownBlock.toList).Nodup):
    qK Try.prog w (λ_=>none) ⟨false,.list true 132 tSt,l⟩ ⟨b,.nilFunc,b::hdr.ownBlock.toList⟩:=
  ⟨rfl,hnd,#[hdr],tt,hdr.ownBlock.toList,hb,⟨hdr,_,[],rfl,by simp,hrow,qfb Try.prog w _ l⟩,rfl⟩
theorem qno{w:World}{H:FH}{l:List Stp}{φ:qB}(h:qK Try.prog w H ⟨false,.list true 132 tSt,l⟩ φ):qbZ 130 132 w l [.iface 130 (.pointer (some ⟨φ.b,0,none⟩))] φ.fp/\φ.fp.Nodup:=by
  obtain⟨_,hnd,blk,t,fp',hb,⟨hdr,xs,f2,e1,e2,hown,hch⟩,e3⟩:=h
  obtain⟨hx,rfl⟩:=qgF hch
  subst hx
  have e:blk = #[hdr]:=by
    apply Array.ext'
    exact e1
  subst e
  rw[List.append_nil]at e2
  exact⟨⟨φ.b,t,hdr,rfl,by rw[e3,e2],hb,hown⟩,hnd⟩
theorem que_mpop{w:World}{l l':List Stp}{x:Stp}{v:Value}{fp:List Nat}(h:qbZ 130 132 w l [v] fp)(hnd:fp.Nodup)(hg:g105 (l,())=some ((x,()),l',())):∃b,v = .iface 130 (.pointer (some ⟨b,0,none⟩))/\
    Calls Try.prog 105 #[.pointer (some ⟨b,0,none⟩)] w λe w'=>e = .returned (.iface 132 (qcO x))/\∃fp',jM (· ∈fp) w w'/\qbZ 130 132 w' l' [v] fp'/\fp'.Nodup/\∀b∈fp',b∈fp\/w.heap.size<=b:=by
  obtain⟨bq,tt,hdr,rfl,rfl,hb,hrow⟩:=qf5 h
  refine⟨bq,rfl,?_⟩
  · have hfps:qd [⟨bq,.nilFunc,bq::hdr.ownBlock.toList⟩]=bq::hdr.ownBlock.toList:=by simp[qd]
    refine(h105.2 (l,()) _ hg w (λ_=>none) [.pointer (some ⟨bq,0,none⟩)] [⟨bq,.nilFunc,bq::hdr.ownBlock.toList⟩] (λb c hb=>by cases hb) ⟨_,_,_,_,rfl,rfl,rfl,qnj hb hrow hnd,rfl,rfl⟩ (by rw[hfps];exact hnd)
      (by rw[hfps];intro b hb';rcases List.mem_cons.1 hb' with rfl|hb';exact⟨rfl,(Array.getElem?_eq_some_iff.1 hb).1⟩;exact⟨rfl,(World.ownsRow.lt hrow b (by simpa using hb')).2⟩)).mono ?_
    rintro e w' ⟨us,H2,Φs',Ψs,rfl,hm,_,_,_,hres,hmu,hnd2,hall⟩
    obtain⟨v1,vs',φ,Φs2,rfl,rfl,_,hφ,⟨cs,rfl,hc,_⟩,rfl,rfl⟩:=hres
    obtain⟨v2,vs2,φ2,Φs3,e1,rfl,hv2,hobj,e2,rfl⟩:=hmu
    rw[hfps]at hm hall
    obtain⟨hq,hn⟩:=qno hobj
    have e3:φ2.b=bq:=by
      injection e1 with e4 _
      rw[hv2]at e4
      injection e4 with e4
      injection e4 with e4
      injection e4 with e4
      exact e4.symm
    rw[e3]at hq
    refine⟨by rw[hc];rfl,φ2.fp,hm,hq,hn,λb hb=>(hall b (by simpa[qd,hφ]using hb)).2.1⟩
theorem qnT{w:World}{l l':List Stp}{x:Stp}{v:Value}{fp:List Nat}(h:qbZ 130 132 w l [v] fp)(hnd:fp.Nodup)(hg:g106 (l,x,())=some ((),l',())):∃b,v = .iface 130 (.pointer (some ⟨b,0,none⟩))/\
    Calls Try.prog 106 #[.pointer (some ⟨b,0,none⟩),.iface 132 (qcO x)] w λe w'=>e = .returned (.tuple #[])/\∃fp',jM (· ∈fp) w w'/\qbZ 130 132 w' l' [v] fp'/\fp'.Nodup/\∀b∈fp',b∈fp\/w.heap.size<=b:=by
  obtain⟨bq,tt,hdr,rfl,rfl,hb,hrow⟩:=qf5 h
  refine⟨bq,rfl,?_⟩
  · have hfps:qd [⟨bq,.nilFunc,bq::hdr.ownBlock.toList⟩,qw]=bq::hdr.ownBlock.toList:=by simp[qd,qw]
    refine(h106.2 (l,x,()) _ hg w (λ_=>none) [.pointer (some ⟨bq,0,none⟩),.iface 132 (qcO x)] [⟨bq,.nilFunc,bq::hdr.ownBlock.toList⟩,qw] (λb c hb=>by cases hb) ⟨_,_,_,_,rfl,rfl,rfl,qnj hb hrow hnd,_,_,qw,_,rfl,rfl,rfl,rfl,⟨[.iface 132 (qcO x)],rfl,rfl,rfl⟩,rfl,rfl⟩ (by rw[hfps];exact hnd)
      (by rw[hfps];intro b hb';rcases List.mem_cons.1 hb' with rfl|hb';exact⟨rfl,(Array.getElem?_eq_some_iff.1 hb).1⟩;exact⟨rfl,(World.ownsRow.lt hrow b (by simpa using hb')).2⟩)).mono ?_
    rintro e w' ⟨us,H2,Φs',Ψs,rfl,hm,_,_,_,hres,hmu,hnd2,hall⟩
    obtain⟨rfl,rfl⟩:=hres
    obtain⟨v2,vs2,φ2,Φs3,e1,rfl,hv2,hobj,hmu2⟩:=hmu
    rw[hfps]at hm hall
    obtain⟨hq,hn⟩:=qno hobj
    have e3:φ2.b=bq:=by
      injection e1 with e4 _
      rw[hv2]at e4
      injection e4 with e4
      injection e4 with e4
      injection e4 with e4
      exact e4.symm
    rw[e3]at hq
    refine⟨rfl,φ2.fp,hm,hq,hn,λb hb=>(hall b ?_).2.1⟩
    show b∈qd ([]++φ2::Φs3)
    simp[qd,hb]
end Hp
namespace Hp
open Go.Vi Go.Proofs Go.Shelf Go.RowKit Hx
attribute [local go_sem] Oper.semAt_some
set_option maxRecDepth 100000
def intOf:Value->Int
  |.int _ n=>n
  |_=>0
def upL:Nat->List Stp->Int->Option (List Stp)
  |0,_,_=>none
  |m+1,l,j=>if(j-1).tdiv 2=j then some l else qa (g104 (l,j,(j-1).tdiv 2,())) λr=>if r.1.1=false then some l else qa (g107 (l,(j-1).tdiv 2,j,())) λr=>upL m r.2.1 ((j-1).tdiv 2)
set_option maxHeartbeats 2000000 in
theorem up_walk{v:Value}{l':List Stp}{fp:List Nat}{w:World}{m:Nat}{l:List Stp}{j:Int}(h:qbZ 130 132 w l [v] fp)(hnd:fp.Nodup)(h0:0<=j)(h1:j<=1000000000000)(hup:upL m l j=some l'):
    Calls Try.prog 66 #[v,.int .i64 j] w λe w'=>e = .returned (.tuple #[])/\jM (· ∈fp) w w'/\qbZ 130 132 w' l' [v] fp:=by
  refine(callsIn_wide (n:=0)).1 (callsIn_of_wp Try.func66 rfl trivial ?_ rfl)
  simp only[Try.ntmps66,List.size_toArray,List.length_cons,List.length_nil,Nat.reduceAdd,Nat.reduceSub,Array.replicate_succ,Array.replicate_zero,List.push_toArray,List.append_toArray,List.nil_append,List.cons_append]
  obtain⟨bq,hdr0,rfl,_⟩:=qbU h hnd
  have e104:∀args w,(callFunc 104 args).run Try.prog w = .ok (.enter 104 args) w:=λargs w=>qaJ (qY Try.func104 rfl (by kernel_rfl)) args w
  have e107:∀args w,(callFunc 107 args).run Try.prog w = .ok (.enter 107 args) w:=λargs w=>qaJ (qY Try.func107 rfl (by kernel_rfl)) args w
  gi_wp2
  gi_loopw [1] (λi wr=>∃(m:Nat) (l2:List Stp) (j2:Int),i = .int .i64 j2/\0<=j2/\j2<=j/\qbZ 130 132 wr l2 [.iface 130 (.pointer (some ⟨bq,0,none⟩))] fp/\upL m l2 j2=some l'/\jM (· ∈fp) w wr) (λi _=>(intOf i).toNat)
  case atStart=>exact⟨m,l,j,rfl,h0,Int.le_refl _,h,hup,jM.refl _ _⟩
  case round=>
    obtain⟨m,l2,j2,rfl,k0,k1,hq,hu,hm⟩:=hrel
    obtain⟨bq2,hdr,e1,mL,mS,_,cL,cS,_⟩:=qbU hq hnd
    obtain rfl:bq=bq2:=by
      injection e1 with _ e1
      injection e1 with e1
      injection e1 with e1
      injection e1
    cases m with
    |zero=>cases hu
    |succ m=>
    unfold upL at hu
    by_cases hij:(j2-1).tdiv 2=j2
    · rw[if_pos hij]at hu
      have hul:=Option.some.inj hu
      gi_wp2
      all_goals (refine⟨λ_ _=>trivial,?_⟩;gi_wp2;go_end0;exact⟨rfl,hm,by rw[<-hul];exact hq⟩)
    · rw[if_neg hij,qi]at hu
      obtain⟨⟨⟨r,⟨⟩⟩,⟨⟩⟩,hr,hu⟩:=Option.bind_eq_some_iff.1 hu
      simp only at hu
      have hne:((j2-1).tdiv 2==j2)=false:=by simpa using hij
      obtain⟨hb1,hb2⟩:0<=(j2-1).tdiv 2/\(j2-1).tdiv 2<j2:=by
        rcases Int.lt_or_le 0 j2 with h|h
        · have e:(j2-1).tdiv 2=(j2-1)/2:=Int.tdiv_eq_ediv_of_nonneg (by omega)
          rw[e];omega
        · obtain rfl:j2=0:=by omega
          exact absurd rfl hij
      gi_wp2
      all_goals
        first
        |refine⟨trivial,(callsIn_wide (n:=0)).2 ((cL _ _ _ hr).mono ?_)⟩
        |refine⟨trivial,rfl,(callsIn_wide (n:=0)).2 ((cL _ _ _ hr).mono ?_)⟩
        |(refine⟨λ_ _=>trivial,?_⟩;gi_wp2;refine⟨rfl,(callsIn_wide (n:=0)).2 ((cL _ _ _ hr).mono ?_)⟩)
        rintro e wa ⟨rfl,hma,hqa⟩
        have hma':jM (· ∈fp) w wa:=hm.trans (hma.mono (λ_ h=>h.elim))
        clear mS mL cL cS
        obtain⟨bq2,hdr,e1,_,mS,_,_,cS,_⟩:=qbU hqa hnd
        obtain rfl:bq=bq2:=by
          injection e1 with _ e1
          injection e1 with e1
          injection e1 with e1
          injection e1
        cases r with
        |false=>
          rw[if_pos rfl]at hu
          have hul:=Option.some.inj hu
          gi_wp2
          go_end0
          exact⟨rfl,hma',by rw[<-hul];exact hqa⟩
        |true=>
          rw[if_neg (by simp),qi]at hu
          obtain⟨⟨⟨⟩,l3,⟨⟩⟩,hs,hu⟩:=Option.bind_eq_some_iff.1 hu
          simp only at hu
          gi_wp2
          all_goals
            first
            |refine⟨trivial,(callsIn_wide (n:=0)).2 ((cS _ _ _ hs).mono ?_)⟩
            |refine⟨trivial,rfl,(callsIn_wide (n:=0)).2 ((cS _ _ _ hs).mono ?_)⟩
            |(refine⟨λ_ _=>trivial,?_⟩;gi_wp2;refine⟨rfl,(callsIn_wide (n:=0)).2 ((cS _ _ _ hs).mono ?_)⟩)
            rintro e wb ⟨rfl,hmb,hqb⟩
            gi_wp2
            go_roundw
            case rel=>exact⟨m,l3,(j2-1).tdiv 2,rfl,by omega,by omega,hqb,hu,hma'.trans hmb⟩
            case measure=>simp[intOf];omega
def dnL:Nat->List Stp->Int->Int->Option (List Stp)
  |0,_,_,_=>none
  |m+1,l,i,n=>if n<=2*i+1 then some l else
      qa (if 2*i+1+1<n then(g104 (l,2*i+1+1,2*i+1,())).map (·.1.1)else some false) λb=>
      qa (g104 (l,cond b (2*i+1+1) (2*i+1),i,())) λr=>if r.1.1=false then some l else
      qa (g107 (l,i,cond b (2*i+1+1) (2*i+1),())) λy=>dnL m y.2.1 (cond b (2*i+1+1) (2*i+1)) n
set_option maxHeartbeats 4000000 in
theorem dn_walk{v:Value}{l':List Stp}{fp:List Nat}{w:World}{m:Nat}{l:List Stp}{i n:Int}(h:qbZ 130 132 w l [v] fp)(hnd:fp.Nodup)(h0:0<=i)(hi1:i<=1000000000000)(hn1:n<=1000000000000)(hdn:dnL m l i n=some l'):
    Calls Try.prog 65 #[v,.int .i64 i,.int .i64 n] w λe w'=>(∃r,e = .returned r)/\jM (· ∈fp) w w'/\qbZ 130 132 w' l' [v] fp:=by
  refine(callsIn_wide (n:=0)).1 (callsIn_of_wp Try.func65 rfl trivial ?_ rfl)
  simp only[Try.ntmps65,List.size_toArray,List.length_cons,List.length_nil,Nat.reduceAdd,Nat.reduceSub,Array.replicate_succ,Array.replicate_zero,List.push_toArray,List.append_toArray,List.nil_append,List.cons_append]
  obtain⟨bq,hdr0,rfl,_⟩:=qbU h hnd
  have e104:∀args w,(callFunc 104 args).run Try.prog w = .ok (.enter 104 args) w:=λargs w=>qaJ (qY Try.func104 rfl (by kernel_rfl)) args w
  have e107:∀args w,(callFunc 107 args).run Try.prog w = .ok (.enter 107 args) w:=λargs w=>qaJ (qY Try.func107 rfl (by kernel_rfl)) args w
  gi_wp2
  gi_loopw [7] (λx wr=>∃(m:Nat) (l2:List Stp) (i2:Int),x = .int .i64 i2/\(0<=i2/\i2<=1000000000000)/\qbZ 130 132 wr l2 [.iface 130 (.pointer (some ⟨bq,0,none⟩))] fp/\dnL m l2 i2 n=some l'/\jM (· ∈fp) w wr) (λx _=>(n-intOf x).toNat)
  case atStart=>exact⟨m,l,i,rfl,⟨h0,hi1⟩,h,hdn,jM.refl _ _⟩
  case round=>
    obtain⟨m,l2,i2,rfl,⟨k0,k1⟩,hq,hu,hm⟩:=hrel
    obtain⟨bq2,hdr,e1,mL,mS,_,cL,cS,_⟩:=qbU hq hnd
    obtain rfl:bq=bq2:=by
      injection e1 with _ e1
      injection e1 with e1
      injection e1 with e1
      injection e1
    cases m with
    |zero=>cases hu
    |succ m=>
    unfold dnL at hu
    by_cases hn:n<=2*i2+1
    · rw[if_pos hn]at hu
      have hul:=Option.some.inj hu
      gi_wp2
      all_goals
        try (refine⟨λ_ _=>trivial,?_⟩;gi_wp2)
        go_ret
        exact⟨⟨_,rfl⟩,hm,by rw[<-hul];exact hq⟩
    · rw[if_neg hn,qi]at hu
      obtain⟨b,hb,hu⟩:=Option.bind_eq_some_iff.1 hu
      by_cases h2:2*i2+1+1<n
      · rw[if_pos h2]at hb
        obtain⟨⟨⟨b',⟨⟩⟩,⟨⟩⟩,hbb,e2⟩:=Option.map_eq_some_iff.1 hb
        simp only at e2
        subst e2
        gi_wp2
        all_goals
          first
          |refine⟨trivial,(callsIn_wide (n:=0)).2 ((cL _ _ _ hbb).mono ?_)⟩
          |refine⟨trivial,rfl,(callsIn_wide (n:=0)).2 ((cL _ _ _ hbb).mono ?_)⟩
          |(refine⟨λ_ _=>trivial,?_⟩;gi_wp2;refine⟨rfl,(callsIn_wide (n:=0)).2 ((cL _ _ _ hbb).mono ?_)⟩)
          |(gi_wp2;refine⟨rfl,(callsIn_wide (n:=0)).2 ((cL _ _ _ hbb).mono ?_)⟩)
          rintro e wa ⟨rfl,hma,hqa⟩
          have hma':jM (· ∈fp) w wa:=hm.trans (hma.mono (λ_ h=>h.elim))
          clear mL mS cL cS
          obtain⟨bq2,hdr,e1,mL,mS,_,cL,cS,_⟩:=qbU hqa hnd
          obtain rfl:bq=bq2:=by
            injection e1 with _ e1
            injection e1 with e1
            injection e1 with e1
            injection e1
          cases b' with
          |true=>
            rw[qi]at hu
            obtain⟨⟨⟨r,⟨⟩⟩,⟨⟩⟩,hr,hu⟩:=Option.bind_eq_some_iff.1 hu
            simp only[cond_true,cond_false]at hu hr
            gi_wp2
            all_goals
              first
              |refine⟨trivial,(callsIn_wide (n:=0)).2 ((cL _ _ _ hr).mono ?_)⟩
              |refine⟨trivial,rfl,(callsIn_wide (n:=0)).2 ((cL _ _ _ hr).mono ?_)⟩
              |(refine⟨λ_ _=>trivial,?_⟩;gi_wp2;refine⟨rfl,(callsIn_wide (n:=0)).2 ((cL _ _ _ hr).mono ?_)⟩)
              |(gi_wp2;refine⟨rfl,(callsIn_wide (n:=0)).2 ((cL _ _ _ hr).mono ?_)⟩)
              rintro e wc ⟨rfl,hmc,hqc⟩
              have hmc':jM (· ∈fp) w wc:=(hma').trans (hmc.mono (λ_ h=>h.elim))
              clear mL mS cL cS
              obtain⟨bq2,hdr,e1,mL,mS,_,cL,cS,_⟩:=qbU hqc hnd
              obtain rfl:bq=bq2:=by
                injection e1 with _ e1
                injection e1 with e1
                injection e1 with e1
                injection e1
              cases r with
              |false=>
                rw[if_pos rfl]at hu
                have hul:=Option.some.inj hu
                gi_wp2
                all_goals
                  try (refine⟨λ_ _=>trivial,?_⟩;gi_wp2)
                  go_ret
                  exact⟨⟨_,rfl⟩,hmc',by rw[<-hul];exact hqc⟩
              |true=>
                rw[if_neg (by simp),qi]at hu
                obtain⟨⟨⟨⟩,l3,⟨⟩⟩,hs,hu⟩:=Option.bind_eq_some_iff.1 hu
                simp only[cond_true,cond_false]at hu hs
                gi_wp2
                all_goals
                  first
                  |refine⟨trivial,(callsIn_wide (n:=0)).2 ((cS _ _ _ hs).mono ?_)⟩
                  |refine⟨trivial,rfl,(callsIn_wide (n:=0)).2 ((cS _ _ _ hs).mono ?_)⟩
                  |(refine⟨λ_ _=>trivial,?_⟩;gi_wp2;refine⟨rfl,(callsIn_wide (n:=0)).2 ((cS _ _ _ hs).mono ?_)⟩)
                  |(gi_wp2;refine⟨rfl,(callsIn_wide (n:=0)).2 ((cS _ _ _ hs).mono ?_)⟩)
                  rintro e wd ⟨rfl,hmd,hqd⟩
                  gi_wp2
                  go_roundw
                  case rel=>exact⟨m,l3,2*i2+1+1,rfl,by omega,hqd,hu,hmc'.trans hmd⟩
                  case measure=>simp[intOf];omega
          |false=>
            rw[qi]at hu
            obtain⟨⟨⟨r,⟨⟩⟩,⟨⟩⟩,hr,hu⟩:=Option.bind_eq_some_iff.1 hu
            simp only[cond_true,cond_false]at hu hr
            gi_wp2
            all_goals
              first
              |refine⟨trivial,(callsIn_wide (n:=0)).2 ((cL _ _ _ hr).mono ?_)⟩
              |refine⟨trivial,rfl,(callsIn_wide (n:=0)).2 ((cL _ _ _ hr).mono ?_)⟩
              |(refine⟨λ_ _=>trivial,?_⟩;gi_wp2;refine⟨rfl,(callsIn_wide (n:=0)).2 ((cL _ _ _ hr).mono ?_)⟩)
              |(gi_wp2;refine⟨rfl,(callsIn_wide (n:=0)).2 ((cL _ _ _ hr).mono ?_)⟩)
              rintro e wc ⟨rfl,hmc,hqc⟩
              have hmc':jM (· ∈fp) w wc:=(hma').trans (hmc.mono (λ_ h=>h.elim))
              clear mL mS cL cS
              obtain⟨bq2,hdr,e1,mL,mS,_,cL,cS,_⟩:=qbU hqc hnd
              obtain rfl:bq=bq2:=by
                injection e1 with _ e1
                injection e1 with e1
                injection e1 with e1
                injection e1
              cases r with
              |false=>
                rw[if_pos rfl]at hu
                have hul:=Option.some.inj hu
                gi_wp2
                all_goals
                  try (refine⟨λ_ _=>trivial,?_⟩;gi_wp2)
                  go_ret
                  exact⟨⟨_,rfl⟩,hmc',by rw[<-hul];exact hqc⟩
              |true=>
                rw[if_neg (by simp),qi]at hu
                obtain⟨⟨⟨⟩,l3,⟨⟩⟩,hs,hu⟩:=Option.bind_eq_some_iff.1 hu
                simp only[cond_true,cond_false]at hu hs
                gi_wp2
                all_goals
                  first
                  |refine⟨trivial,(callsIn_wide (n:=0)).2 ((cS _ _ _ hs).mono ?_)⟩
                  |refine⟨trivial,rfl,(callsIn_wide (n:=0)).2 ((cS _ _ _ hs).mono ?_)⟩
                  |(refine⟨λ_ _=>trivial,?_⟩;gi_wp2;refine⟨rfl,(callsIn_wide (n:=0)).2 ((cS _ _ _ hs).mono ?_)⟩)
                  |(gi_wp2;refine⟨rfl,(callsIn_wide (n:=0)).2 ((cS _ _ _ hs).mono ?_)⟩)
                  rintro e wd ⟨rfl,hmd,hqd⟩
                  gi_wp2
                  go_roundw
                  case rel=>exact⟨m,l3,2*i2+1,rfl,by omega,hqd,hu,hmc'.trans hmd⟩
                  case measure=>simp[intOf];omega
      · rw[if_neg h2]at hb
        cases hb
        gi_wp2
        all_goals
          refine⟨λ_ _=>trivial,?_⟩
          rw[qi]at hu
          obtain⟨⟨⟨r,⟨⟩⟩,⟨⟩⟩,hr,hu⟩:=Option.bind_eq_some_iff.1 hu
          simp only[cond_true,cond_false]at hu hr
          gi_wp2
          all_goals
            first
            |refine⟨trivial,(callsIn_wide (n:=0)).2 ((cL _ _ _ hr).mono ?_)⟩
            |refine⟨trivial,rfl,(callsIn_wide (n:=0)).2 ((cL _ _ _ hr).mono ?_)⟩
            |(refine⟨λ_ _=>trivial,?_⟩;gi_wp2;refine⟨rfl,(callsIn_wide (n:=0)).2 ((cL _ _ _ hr).mono ?_)⟩)
            |(gi_wp2;refine⟨rfl,(callsIn_wide (n:=0)).2 ((cL _ _ _ hr).mono ?_)⟩)
            rintro e wc ⟨rfl,hmc,hqc⟩
            have hmc':jM (· ∈fp) w wc:=(hm).trans (hmc.mono (λ_ h=>h.elim))
            clear mL mS cL cS
            obtain⟨bq2,hdr,e1,mL,mS,_,cL,cS,_⟩:=qbU hqc hnd
            obtain rfl:bq=bq2:=by
              injection e1 with _ e1
              injection e1 with e1
              injection e1 with e1
              injection e1
            cases r with
            |false=>
              rw[if_pos rfl]at hu
              have hul:=Option.some.inj hu
              gi_wp2
              all_goals
                try (refine⟨λ_ _=>trivial,?_⟩;gi_wp2)
                go_ret
                exact⟨⟨_,rfl⟩,hmc',by rw[<-hul];exact hqc⟩
            |true=>
              rw[if_neg (by simp),qi]at hu
              obtain⟨⟨⟨⟩,l3,⟨⟩⟩,hs,hu⟩:=Option.bind_eq_some_iff.1 hu
              simp only[cond_true,cond_false]at hu hs
              gi_wp2
              all_goals
                first
                |refine⟨trivial,(callsIn_wide (n:=0)).2 ((cS _ _ _ hs).mono ?_)⟩
                |refine⟨trivial,rfl,(callsIn_wide (n:=0)).2 ((cS _ _ _ hs).mono ?_)⟩
                |(refine⟨λ_ _=>trivial,?_⟩;gi_wp2;refine⟨rfl,(callsIn_wide (n:=0)).2 ((cS _ _ _ hs).mono ?_)⟩)
                |(gi_wp2;refine⟨rfl,(callsIn_wide (n:=0)).2 ((cS _ _ _ hs).mono ?_)⟩)
                rintro e wd ⟨rfl,hmd,hqd⟩
                gi_wp2
                go_roundw
                case rel=>exact⟨m,l3,2*i2+1,rfl,by omega,hqd,hu,hmc'.trans hmd⟩
                case measure=>simp[intOf];omega
def gPush(l:List Stp)(x:Stp):Option (List Stp):=qa (g106 (l,x,())) λr=>ql (r.2.1.length:Int) (upL (r.2.1.length+1) r.2.1 ((r.2.1.length:Int)-1))
def gPop(l:List Stp):Option (Stp×List Stp):=ql (l.length:Int) (qa (g107 (l,0,(l.length:Int)-1,())) λr=>qa (dnL (l.length+1) r.2.1 0 ((l.length:Int)-1)) λl2=>qa (g105 (l2,())) λy=>some (y.1.1,y.2.1))
theorem qkz{R:Type}{n:Int}{k:Option R}{r:R}(h:ql n k=some r):n<=274877906944/\k=some r:=by
  rw[jR]at h
  split at h
  · exact⟨by omega,h⟩
  · cases h
theorem g106_eq(l:List Stp)(x:Stp):g106 (l,x,())=ql ((l.length:Int)+([x]:List Stp).length) (some ((),(l++[x],()))):=by
  unfold g106 F106
  simp only[qbs,qaf,qag]
theorem g106_some{l l1:List Stp}{x:Stp}(h:g106 (l,x,())=some ((),l1,())):l1=l++[x]:=by
  rw[g106_eq]at h
  obtain⟨_,h⟩:=qkz h
  injection h with h
  injection h with _ h
  injection h with h
  exact h.symm
set_option maxHeartbeats 2000000 in
theorem qnU{w:World}{l l':List Stp}{x:Stp}{v:Value}{fp:List Nat}(h:qbZ 130 132 w l [v] fp)(hnd:fp.Nodup)(hg:gPush l x=some l'):
    Calls Try.prog 55 #[v,.iface 132 (qcO x)] w λe w'=>e = .returned (.tuple #[])/\∃fp',jM (· ∈fp) w w'/\qbZ 130 132 w' l' [v] fp'/\fp'.Nodup/\∀b∈fp',b∈fp\/w.heap.size<=b:=by
  unfold gPush at hg
  rw[qi]at hg
  obtain⟨⟨⟨⟩,l1,⟨⟩⟩,h1,hg⟩:=Option.bind_eq_some_iff.1 hg
  obtain⟨hl,hg⟩:=qkz hg
  simp only at hl hg
  have hpos:1<=(l1.length:Int):=by
    have hl1:=g106_some h1
    rw[hl1,List.length_append]
    simp
    omega
  refine(callsIn_wide (n:=0)).1 (callsIn_of_wp Try.func55 rfl trivial ?_ rfl)
  simp only[Try.ntmps55,List.size_toArray,List.length_cons,List.length_nil,Nat.reduceAdd,Nat.reduceSub,Array.replicate_succ,Array.replicate_zero,List.push_toArray,List.append_toArray,List.nil_append,List.cons_append]
  obtain⟨bq,rfl,hpush⟩:=qnT h hnd h1
  have e106:∀args w,(callFunc 106 args).run Try.prog w = .ok (.enter 106 args) w:=λargs w=>qaJ (qY Try.func106 rfl (by kernel_rfl)) args w
  have e103:∀args w,(callFunc 103 args).run Try.prog w = .ok (.enter 103 args) w:=λargs w=>qaJ (qY Try.func103 rfl (by kernel_rfl)) args w
  have mP:(method 296 130 (.pointer (some ⟨bq,0,none⟩)) "Push").run Try.prog w = .ok (106,.pointer (some ⟨bq,0,none⟩)) w:=by kernel_rfl
  gi_wp2
  refine⟨trivial,rfl,(callsIn_wide (n:=0)).2 (hpush.mono ?_)⟩
  rintro e wa ⟨rfl,fp',hma,hqa,hnd',hnew⟩
  obtain⟨bq2,hdr,e1,_,_,mL,_,_,cL⟩:=qbU hqa hnd'
  obtain rfl:bq=bq2:=by
    injection e1 with _ e1
    injection e1 with e1
    injection e1 with e1
    injection e1
  gi_wp2
  refine⟨trivial,rfl,(callsIn_wide (n:=0)).2 (cL.mono ?_)⟩
  rintro e wb ⟨rfl,hmb,hqb⟩
  gi_wp2
  refine⟨trivial,rfl,(callsIn_wide (n:=0)).2 ((up_walk hqb hnd' (by omega) (by omega) hg).mono ?_)⟩
  rintro e wc ⟨rfl,hmc,hqc⟩
  gi_wp2
  go_end0
  exact⟨rfl,fp',(hma.trans (hmb.mono (λ_ h=>h.elim))).trans_new hmc (λb hb=>hnew b hb),hqc,hnd',hnew⟩
theorem g107_len{l l1:List Stp}{i k:Int}(h:g107 (l,i,k,())=some ((),l1,())):0<(l.length:Int):=by
  unfold g107 F107 inR at h
  simp only at h
  split at h
  · rename_i h0
    omega
  · cases h
set_option maxHeartbeats 2000000 in
theorem pop_walk{w:World}{l l':List Stp}{x:Stp}{v:Value}{fp:List Nat}(h:qbZ 130 132 w l [v] fp)(hnd:fp.Nodup)(hg:gPop l=some (x,l')):
    Calls Try.prog 54 #[v] w λe w'=>e = .returned (.iface 132 (qcO x))/\∃fp',jM (· ∈fp) w w'/\qbZ 130 132 w' l' [v] fp'/\fp'.Nodup/\∀b∈fp',b∈fp\/w.heap.size<=b:=by
  unfold gPop at hg
  obtain⟨hl,hg⟩:=qkz hg
  rw[qi]at hg
  obtain⟨⟨⟨⟩,l1,⟨⟩⟩,h1,hg⟩:=Option.bind_eq_some_iff.1 hg
  rw[qi]at hg
  obtain⟨l2,h2,hg⟩:=Option.bind_eq_some_iff.1 hg
  rw[qi]at hg
  obtain⟨⟨⟨y,⟨⟩⟩,l3,⟨⟩⟩,h3,hg⟩:=Option.bind_eq_some_iff.1 hg
  simp only at h2 h3 hg
  obtain⟨rfl,rfl⟩:y=x/\l3=l':=by
    injection hg with hg
    injection hg with g1 g2
    exact⟨g1,g2⟩
  have hpos:1<=(l.length:Int):=g107_len h1
  obtain⟨n,hn⟩:∃n:Int,(l.length:Int)=n:=⟨_,rfl⟩
  rw[hn]at hl h1 h2 hpos
  refine(callsIn_wide (n:=0)).1 (callsIn_of_wp Try.func54 rfl trivial ?_ rfl)
  simp only[Try.ntmps54,List.size_toArray,List.length_cons,List.length_nil,Nat.reduceAdd,Nat.reduceSub,Array.replicate_succ,Array.replicate_zero,List.push_toArray,List.append_toArray,List.nil_append,List.cons_append]
  obtain⟨bq,hdr,rfl,_,_,mL,_,_,cL⟩:=qbU h hnd
  rw[hn]at cL
  have e103:∀args w,(callFunc 103 args).run Try.prog w = .ok (.enter 103 args) w:=λargs w=>qaJ (qY Try.func103 rfl (by kernel_rfl)) args w
  have e105:∀args w,(callFunc 105 args).run Try.prog w = .ok (.enter 105 args) w:=λargs w=>qaJ (qY Try.func105 rfl (by kernel_rfl)) args w
  have e107:∀args w,(callFunc 107 args).run Try.prog w = .ok (.enter 107 args) w:=λargs w=>qaJ (qY Try.func107 rfl (by kernel_rfl)) args w
  gi_wp2
  refine⟨trivial,rfl,(callsIn_wide (n:=0)).2 (cL.mono ?_)⟩
  rintro e wa ⟨rfl,hma,hqa⟩
  obtain⟨bq2,hdr2,e1,_,mS,_,_,cS,_⟩:=qbU hqa hnd
  obtain rfl:bq=bq2:=by
    injection e1 with _ e1
    injection e1 with e1
    injection e1 with e1
    injection e1
  gi_wp2
  refine⟨trivial,rfl,(callsIn_wide (n:=0)).2 ((cS _ _ _ h1).mono ?_)⟩
  rintro e wb ⟨rfl,hmb,hqb⟩
  gi_wp2
  refine⟨trivial,rfl,(callsIn_wide (n:=0)).2 ((dn_walk hqb hnd (by omega) (by omega) (by omega) h2).mono ?_)⟩
  rintro e wc ⟨⟨r,rfl⟩,hmc,hqc⟩
  obtain⟨bq2,e1,hpop⟩:=que_mpop hqc hnd h3
  obtain rfl:bq=bq2:=by
    injection e1 with _ e1
    injection e1 with e1
    injection e1 with e1
    injection e1
  have mP:(method 296 130 (.pointer (some ⟨bq,0,none⟩)) "Pop").run Try.prog wc = .ok (105,.pointer (some ⟨bq,0,none⟩)) wc:=by kernel_rfl
  gi_wp2
  refine⟨trivial,rfl,(callsIn_wide (n:=0)).2 (hpop.mono ?_)⟩
  rintro e wd ⟨rfl,fp',hmd,hqd,hnd',hnew⟩
  gi_wp2
  go_ret
  have hm1:jM (· ∈fp) w wc:=((hma.mono (λ_ h=>h.elim)).trans hmb).trans hmc
  exact⟨rfl,fp',hm1.trans hmd,hqd,hnd',λb hb=>(hnew b hb).imp_right (λh=>Nat.le_trans hm1.size h)⟩
def xq:XQ:=⟨130,132,54,55,gPop,gPush⟩
theorem xq_ok:XqOK Try.prog xq where
  wrap:=xq0_ok.wrap
  asrt:=xq0_ok.asrt
  len:=xq0_ok.len
  callable:=xq0_ok.callable
  pop _ _ _ _ _ _ hq hn hg:=pop_walk hq hn hg
  push _ _ _ _ _ _ hq hn hg:=qnU hq hn hg
end Hp
end
end Go.Proofs.Try.V
