/- The contracts of functions of the program, printed by program from the interpreter: each says what a call returns. No condition beyond those typed in each theorem. -/
import Derived.Test.YtmlocmhkfnojbaaGreatFn2
namespace Go.Proofs.Tryz.V
noncomputable section
open Go.Vi
set_option maxRecDepth 100000
def FJ(_n:Nat)(L:(((Option Nat)×(List Int))×Int×(List Int)×Int×Int×Unit)×sy×Unit->Option (nH))(lq:(Option Nat)×(List Int))(oQ:Int)(kJ:List Int)(lI:Int)(fF:Int)(pY:List Int):Option (nH):=
  cond (decide (fF<lI)) (qn kJ fF λe1=>qn lq.2 e1 λe2=>cond (decide (fF>0)) (bx (IntKind.wrap .i64 (fF-1)) pY.length (qn pY (IntKind.wrap .i64 (fF-1)) λe3=>qo ((pY.length:Int)+[(max e2 (IntKind.wrap .i64 (e3+oQ)))].length) (L ((lq,oQ,kJ,lI,(IntKind.wrap .i64 (fF+1)),()),((pY++[(max e2 (IntKind.wrap .i64 (e3+oQ)))]),()),())))) (qo ((pY.length:Int)+[e2].length) (L ((lq,oQ,kJ,lI,(IntKind.wrap .i64 (fF+1)),()),((pY++[e2]),()),())))) (some ((),(pY,()),()))
def nl:Nat->(((Option Nat)×(List Int))×Int×(List Int)×Int×Int×Unit)×sy×Unit->Option (nH)
  |0,_=>none
  |n+1,d=>FJ n (nl n) d.1.1 d.1.2.1 d.1.2.2.1 d.1.2.2.2.1 d.1.2.2.2.2.1 d.2.1.1
def tN:jL:=⟨⟨[(0,.r (.str (.pair (.ext false 5 94 0) gu))),(2,.v zI),(6,.c (.view 6 [])),(10,.v gu),(11,.v zI),(12,.v zI)],[(6,true,.list true 3 zI)],none⟩,[(.exit 0,⟨[(6,.c (.view 6 []))],[(6,true,.list true 3 zI)],none⟩)],nl⟩
def F17(n:Nat)(lq:((Option Nat)×(List Int)))(wD:(List Int))(oQ:Int):Option zY:=
  qa (nl n ((lq,oQ,wD,(wD.length:Int),0,()),(([]:List Int),()),())) λo4=>some ((o4.2.1.1,()),())
def g17(d:((Option Nat)×(List Int))×(List Int)×Int×Unit):Option zY:=F17 qk d.1 d.2.1 d.2.2.1
def p17:qS:=⟨[.r (.str (.pair (.ext false 5 94 0) gu)),.v gu,.v zI],[.own 3 zI],g17⟩
def c17:jB:=⟨41,bV,[],[],[(2,tN)],[],[],[],[],[],[],[],[],[],none,[],[],[],none,none,[]⟩
theorem Qr(n:Nat)(d):qL c17 n Tryz.f17 (body Tryz.f17) p17.ps p17.rs d=F17 n d.1 d.2.1 d.2.2.1:=by kernel_rfl
theorem EV(n:Nat)(d):(tN).g (n+1) d=run c17 n (nth 0 (qe (body Tryz.f17))) ((tN).ins.fill d) (qV (tN) n):=by kernel_rfl
theorem aaG:qe (body Tryz.f17)=[nth 0 (qe (body Tryz.f17))]:=by kernel_rfl
theorem h17:qJ Tryz.prog 17 p17:=hQ (aa:=c17) (qz qB (qq) rfl (by kernel_rfl)) Tryz.func17 (by kernel_rfl) (by rw[aaG];simp only[List.forall_mem_cons];exact⟨qP (key:=2) (li:=tN) (by kernel_rfl) rfl (λ_=>rfl) (EV),λ_ h=>by cases h⟩) (by kernel_rfl) (Qr qk)
def FI(_n:Nat)(L:u_×sy×Unit->Option (nH))(Td:Int)(Yt:Int)(ez:List Int):Option (nH):=
  cond (decide (Yt<Td)) (qo ((ez.length:Int)+[Yt].length) (L ((Td,(IntKind.wrap .i64 (Yt+1)),()),((ez++[Yt]),()),()))) (some ((),(ez,()),()))
def nk:Nat->u_×sy×Unit->Option (nH)
  |0,_=>none
  |n+1,d=>FI n (nk n) d.1.1 d.1.2.1 d.2.1.1
def tM:jL:=⟨⟨[(2,.c (.view 2 [])),(4,.v zI),(5,.v zI)],[(2,true,.list true 3 zI)],none⟩,[(.exit 0,⟨[(2,.c (.view 2 []))],[(2,true,.list true 3 zI)],none⟩)],nk⟩
def F18(n:Nat)(nD:Int):Option zY:=
  qa (nk n ((nD,0,()),(([]:List Int),()),())) λo1=>some ((o1.2.1.1,()),())
def g18(d:Int×Unit):Option zY:=F18 qk d.1
def p18:qS:=⟨[.v zI],[.own 3 zI],g18⟩
def c18:jB:=⟨14,bV,[],[],[(2,tM)],[],[],[],[],[],[],[],[],[],none,[],[],[],none,none,[]⟩
theorem Qq(n:Nat)(d):qL c18 n Tryz.f18 (body Tryz.f18) p18.ps p18.rs d=F18 n d.1:=by kernel_rfl
theorem ET(n:Nat)(d):(tM).g (n+1) d=run c18 n (nth 0 (qe (body Tryz.f18))) ((tM).ins.fill d) (qV (tM) n):=by kernel_rfl
theorem aaF:qe (body Tryz.f18)=[nth 0 (qe (body Tryz.f18))]:=by kernel_rfl
theorem d18:qs c18 (body Tryz.f18)=true:=by kernel_rfl
theorem h18:qJ Tryz.prog 18 p18:=hQ (aa:=c18) (qz qB (qq) rfl (by kernel_rfl)) Tryz.func18 (by kernel_rfl) (by rw[aaF];simp only[List.forall_mem_cons];exact⟨qP (key:=2) (li:=tM) (by kernel_rfl) rfl (λ_=>rfl) (ET),λ_ h=>by cases h⟩) d18 (Qq qk)
def F7(_n:Nat)(gj:f_)(l_1:nJ)(sB:Int)(wX:Int):Option QR:=
  qa (g16 (gj,l_1,sB,wX,())) λy1=>cond (y1.1.2.1 !=0) (some ((([]:List Int),y1.1.2.1,()),())) (qa (g18 ((l_1.length:Int),())) λy2=>qa y1.1.1 λq3=>qa (g17 (q3,y2.1.1,wX,())) λy4=>some ((y4.1.1,0,()),()))
def g7(d:f_×nJ×Int×Int×Unit):Option QR:=F7 qk d.1 d.2.1 d.2.2.1 d.2.2.2.1
def p7:qS:=⟨[.v (.str ou),.v zZ,.v zI,.v zI],[.own 3 zI,.v zI],g7⟩
def c7:jB:=⟨29,bV,[],[(16,p16),(17,p17),(18,p18)],[],[],[],[],[],[],[],[],[],[],none,[],[],[],none,none,[]⟩
theorem XG(n:Nat)(d):qL c7 n Tryz.f7 (body Tryz.f7) p7.ps p7.rs d=F7 n d.1 d.2.1 d.2.2.1 d.2.2.2.1:=by kernel_rfl
theorem h7:qJ Tryz.prog 7 p7:=hQ (aa:=c7) (qz qB (qf vA (qf h17 (qf h18 qq))) rfl (by kernel_rfl)) Tryz.func7 (by kernel_rfl) (qE (by kernel_rfl)) (by kernel_rfl) (XG qk)
def F8(_n:Nat)(gj:f_):Option ((f_×Unit)×(Unit)):=
  vg (some ((((([]:List Bool)++gj.1),(([]:List bM)++gj.2)),()),())) λE=>qv [qv [qo ((([]:List Bool).length:Int)+gj.1.length) (qo ((([]:List bM).length:Int)+gj.2.length) (E)),qo ((([]:List Bool).length:Int)+gj.1.length) (qo ((([]:List bM).length:Int)+gj.2.length) (E))],qo ((([]:List Bool).length:Int)+gj.1.length) (qo ((([]:List bM).length:Int)+gj.2.length) (E))]
def g8(d:f_×Unit):Option ((f_×Unit)×(Unit)):=F8 qk d.1
def p8:qS:=⟨[.v (.str ou)],[.v (.str ou)],g8⟩
def c8:jB:=⟨12,bV,[(1,.str ou),(6,.list true 4 .bool),(10,.list true 102 (.str iJ))],[],[],[],[1],[],[],[],[],[],[],[],none,[],[],[],none,none,[]⟩
theorem XF(n:Nat)(d):qL c8 n Tryz.f8 (body Tryz.f8) p8.ps p8.rs d=F8 n d.1:=by kernel_rfl
theorem d8:qs c8 (body Tryz.f8)=true:=by kernel_rfl
theorem h8:qJ Tryz.prog 8 p8:=hQ (aa:=c8) (qz qB (qq) rfl (by kernel_rfl)) Tryz.func8 (by kernel_rfl) (qE (by kernel_rfl)) d8 (XF qk)
def F20(_n:Nat)(nD:Int)(iW:Int)(fK:Int):Option cr:=
  cond (decide (nD>=iW)) (some (((decide (nD<=fK)),()),())) (some ((false,()),()))
def g20(d:Int×Int×Int×Unit):Option cr:=F20 qk d.1 d.2.1 d.2.2.1
def RY:qS:=⟨[.v zI,.v zI,.v zI],[.v .bool],g20⟩
def c20:jB:=⟨15,bV,[],[],[],[],[],[],[],[],[],[],[],[],none,[],[],[],none,none,[]⟩
theorem Qo(n:Nat)(d):qL c20 n Tryz.f20 (body Tryz.f20) RY.ps RY.rs d=F20 n d.1 d.2.1 d.2.2.1:=by kernel_rfl
theorem h20:qJ Tryz.prog 20 RY:=hQ (aa:=c20) (qz qB (qq) rfl (by kernel_rfl)) Tryz.func20 (by kernel_rfl) (qE (by kernel_rfl)) (by kernel_rfl) (Qo qk)
def F59(_n:Nat)(aW:(List Int)):Option zY:=
  BC aW.length λb1=>cond b1 (some ((([]:List Int),()),())) (qo ((([]:List Int).length:Int)+aW.length) (some (((([]:List Int)++aW),()),())))
def SA(d:(List Int)×Unit):Option (sy×Unit):=qo (d.1.length:Int) (some ((d.1,()),()))
def p59:qS:=⟨[.v gu],[.own 3 zI],SA⟩
def c59:jB:=⟨8,bV,[],[],[],[],[],[],[],[],[],[],[],[],none,[],[],[],none,none,[]⟩
theorem PB(n:Nat)(d):qL c59 n Tryz.f59 (body Tryz.f59) p59.ps p59.rs d=F59 n d.1:=by kernel_rfl
theorem h59:qJ Tryz.prog 59 p59:=qn6 mixed (aa:=c59) (qz qB (qq) rfl (by kernel_rfl)) Tryz.func59 rfl rfl (by kernel_rfl) rfl (qE (by kernel_rfl)) (by kernel_rfl) (λd y h=>⟨qk,(PB qk d).trans (by
  change SA d=some y at h
  unfold SA at h
  rw[jQ]at h
  split at h
  · rename_i hl
    cases h
    unfold F59
    refine Ii (λh0=>?_) ?_
    · rw[List.eq_nil_of_length_eq_zero h0];rfl
    · rw[cond_false,jQ,if_pos (by simpa using hl)];rfl
  · cases h)⟩)
def GX:Go.Shelf.Ren:=⟨fun|112=>60|n=>n,fun|28=>38|n=>n,λn=>n⟩
theorem AI:Go.Proofs.Lays.n112 Tryz.prog GX:={mixed:=by kernel_rfl,f112:=by kernel_rfl,t0:=by kernel_rfl,a0:=λw=>by kernel_rfl,z0:=λw=>by kernel_rfl,v0:=λw=>by kernel_rfl,t3:=by kernel_rfl,a3:=λw=>by kernel_rfl,z3:=λw=>by kernel_rfl,v3:=λw=>by kernel_rfl,t4:=by kernel_rfl,a4:=λw=>by kernel_rfl,z4:=λw=>by kernel_rfl,v4:=λw=>by kernel_rfl,t28:=by kernel_rfl,a28:=λw=>by kernel_rfl,z28:=λw=>by kernel_rfl,v28:=λw=>by kernel_rfl}
def g60(d:(List Int)×Unit):Option (Unit×(List Int)×Unit):=some ((),(d.1.reverse,()))
def p60:qS:=⟨[.mr 3 zI],[],g60⟩
theorem zF:qJ Tryz.prog 60 p60:=qkI AI (qX Tryz.func60 rfl (by kernel_rfl)) 3
def vX(_n:Nat)(L:(Int×Int×(List Int)×(List (List Int))×Int×Int×(List Int)×Int×Int×Unit)×LO×Unit->Option (yX ⊕ (SX×LO×Unit)))(R_:Int)(lU:Int)(jq:List Int)(pJ:List (List Int))(nL:Int)(xF:Int)(Te:List Int)(sC:Int)(ga:Int)(pZ:gr×Yn)(fJ:List Int):Option (yX ⊕ (SX×LO×Unit)):=
  cond (decide (ga<sC)) (qn Te ga λe3=>qa (g20 (e3,0,(IntKind.wrap .i64 (R_-1)),())) λy4=>cond (!y4.1.1) (some (.inl ((none,false,()),(),()))) (bx e3 fJ.length (qn fJ e3 λe5=>cond (decide (e5>0)) (some (.inl ((none,false,()),(),()))) (bx e3 fJ.length (qn fJ e3 λ_=>bO 0 (IntKind.wrap .i64 (ga+1)) (bO (IntKind.wrap .i64 (ga+1)) (jq.length:Int) (bx e3 pZ.2.1.length (qn pZ.2.1 e3 λ_=>sF (pZ.1,((pZ.2.1.set e3.toNat (jq.drop (IntKind.wrap .i64 (ga+1)).toNat)),pZ.2.2)) λz8=>vg (λ(y9:sy×(Unit))=>bx e3 (((z8.1,(z8.2.1,(z8.2.2.set e3.toNat y9.1.1))).2).2).length (qn (((z8.1,(z8.2.1,(z8.2.2.set e3.toNat y9.1.1))).2).2) e3 λOM=>qa (g60 (OM,())) λSK=>qn (((z8.1,(z8.2.1,(z8.2.2.set e3.toNat y9.1.1))).2).2) e3 λ_=>sF ((z8.1,(z8.2.1,(z8.2.2.set e3.toNat y9.1.1))).1,(((z8.1,(z8.2.1,(z8.2.2.set e3.toNat y9.1.1))).2).1,((((z8.1,(z8.2.1,(z8.2.2.set e3.toNat y9.1.1))).2).2).set e3.toNat SK.2.1))) λz14=>L ((R_,(IntKind.wrap .i64 (lU+1)),jq,pJ,nL,xF,Te,sC,(IntKind.wrap .i64 (ga+1)),()),(z14,(fJ.set e3.toNat 1),()),()))) λE=>bO 0 ga (bO ga (jq.length:Int) (qv [qa (SA ((jq.take ga.toNat),())) λy9=>bx e3 z8.2.2.length (qn z8.2.2 e3 λ_=>E y9),qa (SA ((jq.take ga.toNat),())) λLF=>bx e3 z8.2.2.length (qn z8.2.2 e3 λ_=>E LF)])))))))))) (some (.inr ((R_,lU,pJ,nL,xF,()),(pZ,fJ,()),())))
def fR:Nat->(Int×Int×(List Int)×(List (List Int))×Int×Int×(List Int)×Int×Int×Unit)×LO×Unit->Option (yX ⊕ (SX×LO×Unit))
  |0,_=>none
  |n+1,d=>vX n (fR n) d.1.1 d.1.2.1 d.1.2.2.1 d.1.2.2.2.1 d.1.2.2.2.2.1 d.1.2.2.2.2.2.1 d.1.2.2.2.2.2.2.1 d.1.2.2.2.2.2.2.2.1 d.1.2.2.2.2.2.2.2.2.1 d.2.1.1 d.2.1.2.1
def mb:jL:=⟨⟨[(6,.v zI),(7,.c (.ptr 23 [])),(8,.v zI),(9,.c (.view 30 [])),(11,.v gu),(31,.v LM),(32,.v zI),(33,.v zI),(37,.v gu),(38,.v zI),(39,.v zI)],[(23,false,.str SZ),(30,true,.list true 3 zI)],none⟩,[(.ret,⟨[(4,.v (.ptr ot)),(5,.v .bool)],[],none⟩),(.exit 2,⟨[(6,.v zI),(7,.c (.ptr 23 [])),(8,.v zI),(9,.c (.view 30 [])),(31,.v LM),(32,.v zI),(33,.v zI)],[(23,false,.str SZ),(30,true,.list true 3 zI)],none⟩)],fR⟩
def FE(n:Nat)(L:SX×LO×Unit->Option (yX ⊕ (u_×(ko×Unit)×Unit)))(R_:Int)(lU:Int)(pJ:List (List Int))(nL:Int)(xF:Int)(pZ:gr×Yn)(fJ:List Int):Option (yX ⊕ (u_×(ko×Unit)×Unit)):=
  cond (decide (xF<nL)) (qn pJ xF λe2=>qa (fR n ((R_,lU,e2,pJ,nL,xF,e2,(e2.length:Int),0,()),(pZ,fJ,()),())) λo17=>fD o17 (λd18=>some (.inl ((d18.1.1,d18.1.2.1,()),(),()))) (λd19=>L ((d19.1.1,d19.1.2.1,d19.1.2.2.1,d19.1.2.2.2.1,(IntKind.wrap .i64 (d19.1.2.2.2.2.1+1)),()),(d19.2.1.1,d19.2.1.2.1,()),()))) (some (.inr ((R_,lU,()),(pZ,()),())))
def ji:Nat->SX×LO×Unit->Option (yX ⊕ (u_×(ko×Unit)×Unit))
  |0,_=>none
  |n+1,d=>FE n (ji n) d.1.1 d.1.2.1 d.1.2.2.1 d.1.2.2.2.1 d.1.2.2.2.2.1 d.2.1.1 d.2.1.2.1
def tI:jL:=⟨⟨[(6,.v zI),(7,.c (.ptr 23 [])),(8,.v zI),(9,.c (.view 30 [])),(31,.v LM),(32,.v zI),(33,.v zI)],[(23,false,.str SZ),(30,true,.list true 3 zI)],none⟩,[(.ret,⟨[(4,.v (.ptr ot)),(5,.v .bool)],[],none⟩),(.exit 0,⟨[(6,.v zI),(7,.c (.ptr 23 [])),(8,.v zI)],[(23,false,.str SZ)],none⟩)],ji⟩
def F32(n:Nat)(bW:gr)(uY:(List (List Int))):Option Yo:=
  vg (sF ((((bW,(List.replicate (bW.1.length:Int).toNat ([]:List Int)),(List.replicate (bW.1.length:Int).toNat ([]:List Int))).1).1,((((bW,(List.replicate (bW.1.length:Int).toNat ([]:List Int)),(List.replicate (bW.1.length:Int).toNat ([]:List Int))).1).2).1,uY)),(bW,(List.replicate (bW.1.length:Int).toNat ([]:List Int)),(List.replicate (bW.1.length:Int).toNat ([]:List Int))).2) λz1=>bO 0 (bW.1.length:Int) (bO (bW.1.length:Int) (bW.1.length:Int) (qo (bW.1.length:Int) (qa (ji n (((bW.1.length:Int),0,uY,(uY.length:Int),0,()),(z1,(List.replicate (bW.1.length:Int).toNat (0:Int)),()),())) λkL=>fD kL (λd21=>some ((d21.1.1,d21.1.2.1,()),())) (λd22=>some (((some d22.2.1.1),(d22.1.2.1==d22.1.1),()),())))))) λE=>qv [qv [bO 0 (bW.1.length:Int) (bO (bW.1.length:Int) (bW.1.length:Int) (qo (bW.1.length:Int) (bO 0 (bW.1.length:Int) (bO (bW.1.length:Int) (bW.1.length:Int) (qo (bW.1.length:Int) (E)))))),bO 0 (bW.1.length:Int) (bO (bW.1.length:Int) (bW.1.length:Int) (qo (bW.1.length:Int) (bO 0 (bW.1.length:Int) (bO (bW.1.length:Int) (bW.1.length:Int) (qo (bW.1.length:Int) (E))))))],bO 0 (bW.1.length:Int) (bO (bW.1.length:Int) (bW.1.length:Int) (qo (bW.1.length:Int) (qv [bO 0 (bW.1.length:Int) (bO (bW.1.length:Int) (bW.1.length:Int) (qo (bW.1.length:Int) (E))),bO 0 (bW.1.length:Int) (bO (bW.1.length:Int) (bW.1.length:Int) (qo (bW.1.length:Int) (E)))]))),bO 0 (bW.1.length:Int) (bO (bW.1.length:Int) (bW.1.length:Int) (qo (bW.1.length:Int) (qv [bO 0 (bW.1.length:Int) (bO (bW.1.length:Int) (bW.1.length:Int) (qo (bW.1.length:Int) (E))),bO 0 (bW.1.length:Int) (bO (bW.1.length:Int) (bW.1.length:Int) (qo (bW.1.length:Int) (E)))])))]
def WO(d:gr×(List (List Int))×Unit):Option Yo:=F32 qk d.1 d.2.1
def p32:qS:=⟨[.v (.str gR),.v LM],[.v (.ptr ot),.v .bool],WO⟩
def c32:jB:=⟨95,bV,[(21,.list true 38 pI),(22,.str SZ)],[(20,RY),(59,p59),(60,p60)],[(10,mb),(7,tI)],[],[2,17],[],[],[],[],[],[],[],none,[],[],[],none,none,[]⟩
theorem Qc(n:Nat)(d):qL c32 n Tryz.f32 (body Tryz.f32) p32.ps p32.rs d=F32 n d.1 d.2.1:=by kernel_rfl
theorem EN(n:Nat)(d):(tI).g (n+1) d=run c32 n (nth 0 (qe (body Tryz.f32))) ((tI).ins.fill d) (qV (tI) n):=by kernel_rfl
theorem yQ(n:Nat)(d):(mb).g (n+1) d=run c32 n (nth 1 (qe (body Tryz.f32))) ((mb).ins.fill d) (qV (mb) n):=by kernel_rfl
theorem aaB:qe (body Tryz.f32)=[nth 0 (qe (body Tryz.f32)),nth 1 (qe (body Tryz.f32))]:=by kernel_rfl
theorem h32:qJ Tryz.prog 32 p32:=hQ (aa:=c32) (qz qB (qf h20 (qf h59 (qf zF qq))) rfl (by kernel_rfl)) Tryz.func32 (by kernel_rfl) (by rw[aaB];simp only[List.forall_mem_cons];exact⟨qP (key:=7) (li:=tI) (by kernel_rfl) rfl (λ_=>rfl) (EN),qP (key:=10) (li:=mb) (by kernel_rfl) rfl (λ_=>rfl) (yQ),λ_ h=>by cases h⟩) (by kernel_rfl) (Qc qk)
def v_(_n:Nat)(L:(Int×Int×Int×ux×Int×Int×(List Int)×Int×Int×Unit)×(gr×Unit)×Unit->Option (yX ⊕ (SR×(gr×Unit)×Unit)))(UZ:Int)(yc:Int)(Nq:Int)(Ak:List SS)(Aj:Int)(lF:Int)(Ah:List Int)(lE:Int)(cw:Int)(gy:ux×xC):Option (yX ⊕ (SR×(gr×Unit)×Unit)):=
  cond (decide (cw<lE)) (qn Ah cw λe6=>cond (decide (e6<=Nq)) (some (.inl ((none,false,()),(),()))) (cond (decide (e6>=UZ)) (some (.inl ((none,false,()),(),()))) (cond (e6==yc) (some (.inl ((none,false,()),(),()))) (L ((UZ,yc,e6,Ak,Aj,lF,Ah,lE,(IntKind.wrap .i64 (cw+1)),()),(gy,()),()))))) (some (.inr ((UZ,Ak,Aj,lF,()),(gy,()),())))
def iG:Nat->(Int×Int×Int×ux×Int×Int×(List Int)×Int×Int×Unit)×(gr×Unit)×Unit->Option (yX ⊕ (SR×(gr×Unit)×Unit))
  |0,_=>none
  |n+1,d=>v_ n (iG n) d.1.1 d.1.2.1 d.1.2.2.1 d.1.2.2.2.1 d.1.2.2.2.2.1 d.1.2.2.2.2.2.1 d.1.2.2.2.2.2.2.1 d.1.2.2.2.2.2.2.2.1 d.1.2.2.2.2.2.2.2.2.1 d.2.1.1
def mg:jL:=⟨⟨[(1,.c (.ptr 1 [])),(4,.v zI),(5,.v zI),(7,.v zI),(28,.v Yj),(29,.v zI),(30,.v zI),(52,.v gu),(53,.v zI),(54,.v zI)],[(1,false,.str gR)],none⟩,[(.ret,⟨[(2,.v (.ptr ot)),(3,.v .bool)],[],none⟩),(.exit 2,⟨[(1,.c (.ptr 1 [])),(4,.v zI),(28,.v Yj),(29,.v zI),(30,.v zI)],[(1,false,.str gR)],none⟩)],iG⟩
def FG(n:Nat)(L:SR×(gr×Unit)×Unit->Option (yX ⊕ QO))(UZ:Int)(Ak:List SS)(Aj:Int)(lF:Int)(gy:ux×xC):Option (yX ⊕ QO):=
  cond (decide (lF<Aj)) (qn Ak lF λe2=>qa (g20 (e2.1,1,1000000,())) λy3=>cond (!y3.1.1) (some (.inl ((none,false,()),(),()))) (qa (g20 (e2.2.1,1,100,())) λy4=>cond (!y4.1.1) (some (.inl ((none,false,()),(),()))) (qa (g20 (e2.2.2.1,0,9,())) λy5=>cond (!y5.1.1) (some (.inl ((none,false,()),(),()))) (qa (iG n ((UZ,lF,(-1),Ak,Aj,lF,e2.2.2.2,(e2.2.2.2.length:Int),0,()),(gy,()),())) λo7=>fD o7 (λd8=>some (.inl ((d8.1.1,d8.1.2.1,()),(),()))) (λd9=>L ((d9.1.1,d9.1.2.1,d9.1.2.2.1,(IntKind.wrap .i64 (d9.1.2.2.2.1+1)),()),(d9.2.1.1,()),())))))) (some (.inr ((),(gy,()),())))
def ni:Nat->SR×(gr×Unit)×Unit->Option (yX ⊕ QO)
  |0,_=>none
  |n+1,d=>FG n (ni n) d.1.1 d.1.2.1 d.1.2.2.1 d.1.2.2.2.1 d.2.1.1
def tL:jL:=⟨⟨[(1,.c (.ptr 1 [])),(4,.v zI),(28,.v Yj),(29,.v zI),(30,.v zI)],[(1,false,.str gR)],none⟩,[(.ret,⟨[(2,.v (.ptr ot)),(3,.v .bool)],[],none⟩),(.exit 0,⟨[(1,.c (.ptr 1 []))],[(1,false,.str gR)],none⟩)],ni⟩
def F19(n:Nat)(bW:gr):Option Yo:=
  cond (decide ((bW.1.length:Int)>16)) (some ((none,false,()),())) (cond (decide ((bW.2.2.length:Int)>6)) (some ((none,false,()),())) (qa (g20 (bW.2.1,1,1000000,())) λy1=>cond (!y1.1.1) (some ((none,false,()),())) (qa (ni n (((bW.1.length:Int),bW.1,(bW.1.length:Int),0,()),(bW,()),())) λrY=>fD rY (λd11=>some ((d11.1.1,d11.1.2.1,()),())) (λd12=>qa (WO (d12.2.1.1,d12.2.1.1.2.2,())) λFO=>some ((FO.1.1,FO.1.2.1,()),())))))
def g19(d:gr×Unit):Option Yo:=F19 qk d.1
def UU:qS:=⟨[.v (.str gR)],[.v (.ptr ot),.v .bool],g19⟩
def Xj:jB:=⟨80,bV,[],[(20,RY),(32,p32)],[(11,mg),(5,tL)],[],[],[],[],[],[],[],[],[],none,[],[],[],none,none,[]⟩
theorem Qp(n:Nat)(d):qL Xj n Tryz.f19 (body Tryz.f19) UU.ps UU.rs d=F19 n d.1:=by kernel_rfl
theorem ER(n:Nat)(d):(tL).g (n+1) d=run Xj n (nth 0 (qe (body Tryz.f19))) ((tL).ins.fill d) (qV (tL) n):=by kernel_rfl
theorem yT(n:Nat)(d):(mg).g (n+1) d=run Xj n (nth 1 (qe (body Tryz.f19))) ((mg).ins.fill d) (qV (mg) n):=by kernel_rfl
theorem aaE:qe (body Tryz.f19)=[nth 0 (qe (body Tryz.f19)),nth 1 (qe (body Tryz.f19))]:=by kernel_rfl
theorem d19:qs Xj (body Tryz.f19)=true:=by kernel_rfl
theorem h19:qJ Tryz.prog 19 UU:=hQ (aa:=Xj) (qz qB (qf h20 (qf h32 qq)) rfl (by kernel_rfl)) Tryz.func19 (by kernel_rfl) (by rw[aaE];simp only[List.forall_mem_cons];exact⟨qP (key:=5) (li:=tL) (by kernel_rfl) rfl (λ_=>rfl) (ER),qP (key:=11) (li:=mg) (by kernel_rfl) rfl (λ_=>rfl) (yT),λ_ h=>by cases h⟩) d19 (Qp qk)
def F61(_n:Nat)(p_0:Int)(t_1:(List Bool)):Option cr:=
  qn t_1 p_0 λe1=>some (((!e1),()),())
def g61(d:Int×(List Bool)×Unit):Option cr:=F61 qk d.1 d.2.1
def p61:qS:=⟨[.v zI,.r LN],[.v .bool],g61⟩
def c61:jB:=⟨9,bV,[],[],[],[],[],[],[],[],[],[],[],[],none,[],[],[],none,none,[]⟩
theorem PA(n:Nat)(d):qL c61 n Tryz.f61 (body Tryz.f61) p61.ps p61.rs d=F61 n d.1 d.2.1:=by kernel_rfl
theorem h61:qJ Tryz.prog 61 p61:=hQ (aa:=c61) (qz qB (qq) rfl (by kernel_rfl)) Tryz.func61 (by kernel_rfl) (qE (by kernel_rfl)) (by kernel_rfl) (PA qk)
def F34(_n:Nat)(aW:(List Bool))(l_1:(List Int)):Option cr:=
  qa (Lo (l_1,(λv1=>qa (g61 (v1,aW,())) λy2=>some y2.1.1),())) λy3=>some (((!y3.1.1),()),())
def WN(d:(List Bool)×(List Int)×Unit):Option cr:=F34 qk d.1 d.2.1
def p34:qS:=⟨[.v LN,.v gu],[.v .bool],WN⟩
def c34:jB:=⟨9,bV,[],[(46,RX),(61,p61)],[],[],[],[],[],[],[],[],[],[],none,[],[],[],none,none,[]⟩
theorem Qa(n:Nat)(d):qL c34 n Tryz.f34 (body Tryz.f34) p34.ps p34.rs d=F34 n d.1 d.2.1:=by kernel_rfl
theorem h34:qJ Tryz.prog 34 p34:=hQ (aa:=c34) (qz qB (qf h46 (qf h61 qq)) rfl (by kernel_rfl)) Tryz.func34 (by kernel_rfl) (qE (by kernel_rfl)) (by kernel_rfl) (Qa qk)
def F23(_n:Nat)(uX:ko)(s_1:(List Bool))(p_2:Int):Option cr:=
  qn s_1 p_2 λe1=>cond (!e1) (qn uX.1.1 p_2 λe2=>qa (WN (s_1,e2.2.2.2,())) λy3=>cond y3.1.1 (qn uX.1.1 p_2 λe4=>cond (decide (e4.1<=uX.1.2.1)) (qn uX.2.1 p_2 λe5=>qa (WN (s_1,e5,())) λy6=>some ((y6.1.1,()),())) (some ((false,()),()))) (some ((false,()),()))) (some ((false,()),()))
def g23(d:ko×(List Bool)×Int×Unit):Option cr:=F23 qk d.1 d.2.1 d.2.2.1
def US:qS:=⟨[.r ot,.v LN,.v zI],[.v .bool],g23⟩
def c23:jB:=⟨53,bV,[],[(34,p34)],[],[],[],[],[],[],[],[],[],[],none,[],[],[],none,none,[]⟩
theorem Ql(n:Nat)(d):qL c23 n Tryz.f23 (body Tryz.f23) US.ps US.rs d=F23 n d.1 d.2.1 d.2.2.1:=by kernel_rfl
theorem h23:qJ Tryz.prog 23 US:=hQ (aa:=c23) (qz qB (qf h34 qq) rfl (by kernel_rfl)) Tryz.func23 (by kernel_rfl) (qE (by kernel_rfl)) (by kernel_rfl) (Ql qk)
def FF(_n:Nat)(L:(ko×Int×Unit)×LU×Unit->Option (((Unit)×LU×Unit)))(uX:gr×Yn)(Kw:Int)(ez:List Int)(j_:List Bool):Option (((Unit)×LU×Unit)):=
  cond (decide (Kw<(j_.length:Int))) (qa (g23 (uX,j_,Kw,())) λy1=>cond y1.1.1 (bx Kw j_.length (qn j_ Kw λ_=>qo ((ez.length:Int)+[Kw].length) (L ((uX,(IntKind.wrap .i64 ((-1)+1)),()),((ez++[Kw]),(j_.set Kw.toNat true),()),())))) (L ((uX,(IntKind.wrap .i64 (Kw+1)),()),(ez,j_,()),()))) (some ((),(ez,j_,()),()))
def nh:Nat->(ko×Int×Unit)×LU×Unit->Option (((Unit)×LU×Unit))
  |0,_=>none
  |n+1,d=>FF n (nh n) d.1.1 d.1.2.1 d.2.1.1 d.2.1.2.1
def tK:jL:=⟨⟨[(0,.r ot),(2,.c (.view 2 [])),(3,.c (.view 11 [])),(4,.v zI)],[(2,true,.list true 3 zI),(11,true,.list true 4 .bool)],none⟩,[(.exit 0,⟨[(2,.c (.view 2 [])),(3,.c (.view 11 []))],[(2,true,.list true 3 zI),(11,true,.list true 4 .bool)],none⟩)],nh⟩
def F21(n:Nat)(uX:ko):Option (LU×(Unit)):=
  bO 0 (uX.1.1.length:Int) (bO (uX.1.1.length:Int) (uX.1.1.length:Int) (qo (uX.1.1.length:Int) (qa (nh n ((uX,0,()),(([]:List Int),(List.replicate (uX.1.1.length:Int).toNat false),()),())) λo3=>some ((o3.2.1.1,o3.2.1.2.1,()),()))))
def g21(d:ko×Unit):Option (LU×(Unit)):=F21 qk d.1
def UT:qS:=⟨[.r ot],[.own 3 zI,.own 4 .bool],g21⟩
def c21:jB:=⟨31,bV,[],[(23,US)],[(3,tK)],[],[],[],[],[],[],[],[],[],none,[],[],[],none,none,[]⟩
theorem Qn(n:Nat)(d):qL c21 n Tryz.f21 (body Tryz.f21) UT.ps UT.rs d=F21 n d.1:=by kernel_rfl
theorem EQ(n:Nat)(d):(tK).g (n+1) d=run c21 n (nth 0 (qe (body Tryz.f21))) ((tK).ins.fill d) (qV (tK) n):=by kernel_rfl
theorem aaD:qe (body Tryz.f21)=[nth 0 (qe (body Tryz.f21))]:=by kernel_rfl
theorem d21:qs c21 (body Tryz.f21)=true:=by kernel_rfl
theorem h21:qJ Tryz.prog 21 UT:=hQ (aa:=c21) (qz qB (qf h23 qq) rfl (by kernel_rfl)) Tryz.func21 (by kernel_rfl) (by rw[aaD];simp only[List.forall_mem_cons];exact⟨qP (key:=3) (li:=tK) (by kernel_rfl) rfl (λ_=>rfl) (EQ),λ_ h=>by cases h⟩) d21 (Qn qk)
def FD(_n:Nat)(L:((List Bool)×Bool×Int×Int×Unit)×(Unit)×Unit->Option (dZ ⊕ gP))(aW:List Bool)(v_1:Bool)(kI:Int)(eP:Int):Option (dZ ⊕ gP):=
  cond (decide (eP<kI)) (qn aW eP λe1=>cond (v_1==e1) (some (.inl ((eP,()),(),()))) (L ((aW,v_1,kI,(IntKind.wrap .i64 (eP+1)),()),(),()))) (some (.inr ((),(),())))
def nc:Nat->((List Bool)×Bool×Int×Int×Unit)×(Unit)×Unit->Option (dZ ⊕ gP)
  |0,_=>none
  |n+1,d=>FD n (nc n) d.1.1 d.1.2.1 d.1.2.2.1 d.1.2.2.2.1
def tH:jL:=⟨⟨[(0,.v LN),(1,.v .bool),(7,.v zI),(8,.v zI)],[],none⟩,[(.ret,⟨[(4,.v zI)],[],none⟩),(.exit 0,⟨[],[],none⟩)],nc⟩
def F33(n:Nat)(aW:(List Bool))(v_1:Bool):Option fS:=
  qa (nc n ((aW,v_1,(aW.length:Int),0,()),(),())) λo2=>fD o2 (λd3=>some ((d3.1.1,()),())) (λ_=>some (((-1),()),()))
def g33(d:(List Bool)×Bool×Unit):Option fS:=F33 qk d.1 d.2.1
def p33:qS:=⟨[.v LN,.v .bool],[.v zI],g33⟩
def c33:jB:=⟨19,bV,[],[],[(2,tH)],[],[],[],[],[],[],[],[],[],none,[],[],[],none,none,[]⟩
theorem Qb(n:Nat)(d):qL c33 n Tryz.f33 (body Tryz.f33) p33.ps p33.rs d=F33 n d.1 d.2.1:=by kernel_rfl
theorem EM(n:Nat)(d):(tH).g (n+1) d=run c33 n (nth 0 (qe (body Tryz.f33))) ((tH).ins.fill d) (qV (tH) n):=by kernel_rfl
theorem aaA:qe (body Tryz.f33)=[nth 0 (qe (body Tryz.f33))]:=by kernel_rfl
theorem h33:qJ Tryz.prog 33 p33:=hQ (aa:=c33) (qz qB (qq) rfl (by kernel_rfl)) Tryz.func33 (by kernel_rfl) (by rw[aaA];simp only[List.forall_mem_cons];exact⟨qP (key:=2) (li:=tH) (by kernel_rfl) rfl (λ_=>rfl) (EM),λ_ h=>by cases h⟩) (by kernel_rfl) (Qb qk)
def F22(_n:Nat)(aW:(List Bool))(v_1:Bool):Option cr:=
  qa (g33 (aW,v_1,())) λy1=>some (((decide (y1.1.1>=0)),()),())
def g22(d:(List Bool)×Bool×Unit):Option cr:=F22 qk d.1 d.2.1
def p22:qS:=⟨[.v LN,.v .bool],[.v .bool],g22⟩
def c22:jB:=⟨9,bV,[],[(33,p33)],[],[],[],[],[],[],[],[],[],[],none,[],[],[],none,none,[]⟩
theorem Qm(n:Nat)(d):qL c22 n Tryz.f22 (body Tryz.f22) p22.ps p22.rs d=F22 n d.1 d.2.1:=by kernel_rfl
theorem d22:qs c22 (body Tryz.f22)=true:=by kernel_rfl
theorem h22:qJ Tryz.prog 22 p22:=hQ (aa:=c22) (qz qB (qf h33 qq) rfl (by kernel_rfl)) Tryz.func22 (by kernel_rfl) (qE (by kernel_rfl)) d22 (Qm qk)
def Fj(_n:Nat)(L:Yq×FP×dQ->Option uCl)(bj:Int)(rP:Option ko)(cc:Int)(Ai:Int)(iN:Int)(ez:ux×xC)(eU:List Bool)(kv:List (Int×Int)):Option uCl:=
  cond (decide (iN<Ai)) (dR iN (match bX kv iN with|some _=>L ((bj,rP,cc,Ai,(IntKind.wrap .i64 (iN+1)),()),(ez,eU,()),kv)|none=>cond (decide ((kv.length:Int)<bj)) (qa rP λq7=>qa (g23 (q7,eU,iN,())) λy8=>cond y8.1.1 (qn ez.1 iN λe9=>dR iN (dR (IntKind.wrap .i64 (cc+e9.2.1)) (qo (kv.length:Int) (L ((bj,rP,cc,Ai,(IntKind.wrap .i64 (iN+1)),()),(ez,eU,()),(nQ kv iN (IntKind.wrap .i64 (cc+e9.2.1)))))))) (L ((bj,rP,cc,Ai,(IntKind.wrap .i64 (iN+1)),()),(ez,eU,()),kv))) (L ((bj,rP,cc,Ai,(IntKind.wrap .i64 (iN+1)),()),(ez,eU,()),kv)))) (some ((bj,rP,()),(ez,eU,()),kv))
def mR:Nat->Yq×FP×dQ->Option uCl
  |0,_=>none
  |n+1,d=>Fj n (mR n) d.1.1 d.1.2.1 d.1.2.2.1 d.1.2.2.2.1 d.1.2.2.2.2.1 d.2.1.1 d.2.1.2.1 d.2.2
def sY:jL:=⟨⟨[(1,.v zI),(2,.c (.ptr 2 [])),(6,.v (.ptr ot)),(10,.c (.view 45 [])),(11,.c .dead),(12,.v zI),(50,.v zI),(51,.v zI)],[(2,false,.str gR),(45,true,.list true 4 .bool)],some ⟨3,3,[11],none⟩⟩,[(.exit 2,⟨[(1,.v zI),(2,.c (.ptr 2 [])),(6,.v (.ptr ot)),(10,.c (.view 45 [])),(11,.c .dead)],[(2,false,.str gR),(45,true,.list true 4 .bool)],some ⟨3,3,[11],none⟩⟩)],mR⟩
def Fi(_n:Nat)(L:S_×FP×(List (Int×Int)×List Int)->Option QM)(bj:Int)(rP:Option ko)(cc:Int)(ez:ux×xC)(eU:List Bool)(kv:List (Int×Int))(lf:List Int):Option QM:=
  match lf with|[]=>some ((bj,rP,cc,()),(ez,eU,()),kv)|_=>GF (λn11:Int=>n11∈lf) λn11=>match bX kv n11 with|some u12=>cond (decide (cc<0)) (L ((bj,rP,u12,()),(ez,eU,()),(kv,(oz n11 lf)))) (cond (decide (u12<cc)) (L ((bj,rP,u12,()),(ez,eU,()),(kv,(oz n11 lf)))) (L ((bj,rP,cc,()),(ez,eU,()),(kv,(oz n11 lf)))))|none=>none
def oW:Nat->S_×FP×(List (Int×Int)×List Int)->Option QM
  |0,_=>none
  |n+1,d=>Fi n (oW n) d.1.1 d.1.2.1 d.1.2.2.1 d.2.1.1 d.2.1.2.1 d.2.2.1 d.2.2.2
def sX:jL:=⟨⟨[(1,.v zI),(2,.c (.ptr 2 [])),(6,.v (.ptr ot)),(10,.c (.view 45 [])),(11,.c .dead),(12,.v zI),(86,.c .dead)],[(2,false,.str gR),(45,true,.list true 4 .bool)],some ⟨3,3,[11],some [86]⟩⟩,[(.exit 4,⟨[(1,.v zI),(2,.c (.ptr 2 [])),(6,.v (.ptr ot)),(10,.c (.view 45 [])),(11,.c .dead),(12,.v zI)],[(2,false,.str gR),(45,true,.list true 4 .bool)],some ⟨3,3,[11],none⟩⟩)],oW⟩
def Fh(_n:Nat)(L:Yq×FP×dQ->Option QM)(bj:Int)(rP:Option ko)(cc:Int)(wj:Int)(gx:Int)(ez:ux×xC)(eU:List Bool)(kv:List (Int×Int)):Option QM:=
  cond (decide (gx<wj)) (dR gx (match bX kv gx with|some u14=>cond (u14==cc) (bx gx eU.length (qn eU gx λ_=>dR gx (L ((bj,rP,cc,wj,(IntKind.wrap .i64 (gx+1)),()),(ez,(eU.set gx.toNat true),()),(nO kv gx))))) (L ((bj,rP,cc,wj,(IntKind.wrap .i64 (gx+1)),()),(ez,eU,()),kv))|none=>L ((bj,rP,cc,wj,(IntKind.wrap .i64 (gx+1)),()),(ez,eU,()),kv))) (some ((bj,rP,cc,()),(ez,eU,()),kv))
def mQ:Nat->Yq×FP×dQ->Option QM
  |0,_=>none
  |n+1,d=>Fh n (mQ n) d.1.1 d.1.2.1 d.1.2.2.1 d.1.2.2.2.1 d.1.2.2.2.2.1 d.2.1.1 d.2.1.2.1 d.2.2
def sW:jL:=⟨⟨[(1,.v zI),(2,.c (.ptr 2 [])),(6,.v (.ptr ot)),(10,.c (.view 45 [])),(11,.c .dead),(12,.v zI),(100,.v zI),(101,.v zI)],[(2,false,.str gR),(45,true,.list true 4 .bool)],some ⟨3,3,[11],none⟩⟩,[(.exit 6,⟨[(1,.v zI),(2,.c (.ptr 2 [])),(6,.v (.ptr ot)),(10,.c (.view 45 [])),(11,.c .dead),(12,.v zI)],[(2,false,.str gR),(45,true,.list true 4 .bool)],some ⟨3,3,[11],none⟩⟩)],mQ⟩
def Fk(n:Nat)(L:S_×FP×dQ->Option (dZ))(bj:Int)(rP:Option ko)(cc:Int)(ez:ux×xC)(eU:List Bool)(kv:List (Int×Int)):Option (dZ):=
  qa (g22 (eU,false,())) λy5=>cond y5.1.1 (qa (mR n ((bj,rP,cc,(eU.length:Int),0,()),(ez,eU,()),kv)) λrY=>qa (oW n ((rY.1.1,rY.1.2.1,(-1),()),(rY.2.1.1,rY.2.1.2.1,()),(rY.2.2,(rY.2.2.map (·.1))))) λNl=>qa (mQ n ((Nl.1.1,Nl.1.2.1,Nl.1.2.2.1,(Nl.2.1.2.1.length:Int),0,()),(Nl.2.1.1,Nl.2.1.2.1,()),Nl.2.2)) λoF=>L ((oF.1.1,oF.1.2.1,oF.1.2.2.1,()),(oF.2.1.1,oF.2.1.2.1,()),oF.2.2)) (some ((cc,()),(),()))
def mT:Nat->S_×FP×dQ->Option (dZ)
  |0,_=>none
  |n+1,d=>Fk n (mT n) d.1.1 d.1.2.1 d.1.2.2.1 d.2.1.1 d.2.1.2.1 d.2.2
def sZ:jL:=⟨⟨[(1,.v zI),(2,.c (.ptr 2 [])),(6,.v (.ptr ot)),(10,.c (.view 45 [])),(11,.c .dead),(12,.v zI)],[(2,false,.str gR),(45,true,.list true 4 .bool)],some ⟨3,3,[11],none⟩⟩,[(.exit 0,⟨[(12,.v zI)],[],none⟩)],mT⟩
def F9(n:Nat)(bW:gr)(bj:Int):Option JP:=
  qa (g19 (bW,())) λy1=>cond (!y1.1.2.1) (some ((0,80,()),())) (qa (g20 (bj,1,4,())) λy2=>cond (!y2.1.1) (some ((0,1,()),())) (qa y1.1.1 λq3=>qa (g21 (q3,())) λy4=>cond (decide ((y4.1.1.length:Int)<(bW.1.length:Int))) (some ((0,3,()),())) (bO 0 (bW.1.length:Int) (bO (bW.1.length:Int) (bW.1.length:Int) (qo (bW.1.length:Int) (qa (mT n ((bj,y1.1.1,0,()),(bW,(List.replicate (bW.1.length:Int).toNat false),()),([]:List (Int×Int)))) λo17=>some ((o17.1.1,0,()),())))))))
def g9(d:gr×Int×Unit):Option JP:=F9 qk d.1 d.2.1
def p9:qS:=⟨[.v (.str gR),.v zI],[.v zI,.v zI],g9⟩
def c9:jB:=⟨123,bV,[],[(19,UU),(20,RY),(21,UT),(22,p22),(23,US)],[(14,sY),(22,sX),(27,sW),(12,sZ)],[(78,3,3)],[],[],[],[],[],[],[],[],none,[],[],[],none,none,[]⟩
theorem XD(n:Nat)(d):qL c9 n Tryz.f9 (body Tryz.f9) p9.ps p9.rs d=F9 n d.1 d.2.1:=by kernel_rfl
theorem Ed(n:Nat)(d):(sZ).g (n+1) d=run c9 n (nth 0 (qe (body Tryz.f9))) ((sZ).ins.fill d) (qV (sZ) n):=by kernel_rfl
theorem Ec(n:Nat)(d):(sY).g (n+1) d=run c9 n (nth 1 (qe (body Tryz.f9))) ((sY).ins.fill d) (qV (sY) n):=by kernel_rfl
theorem Eb(n:Nat)(d):(sX).g (n+1) d=run c9 n (nth 2 (qe (body Tryz.f9))) ((sX).ins.fill d) (qV (sX) n):=by kernel_rfl
theorem Ea(n:Nat)(d):(sW).g (n+1) d=run c9 n (nth 3 (qe (body Tryz.f9))) ((sW).ins.fill d) (qV (sW) n):=by kernel_rfl
theorem ls9:qe (body Tryz.f9)=[nth 0 (qe (body Tryz.f9)),nth 1 (qe (body Tryz.f9)),nth 2 (qe (body Tryz.f9)),nth 3 (qe (body Tryz.f9))]:=by kernel_rfl
theorem d9:qs c9 (body Tryz.f9)=true:=by kernel_rfl
theorem h9:qJ Tryz.prog 9 p9:=hQ (aa:=c9) (qz qB (qf h19 (qf h20 (qf h21 (qf h22 (qf h23 qq))))) rfl (by kernel_rfl)) Tryz.func9 (by kernel_rfl) (by rw[ls9];simp only[List.forall_mem_cons];exact⟨qP (key:=12) (li:=sZ) (by kernel_rfl) rfl (λ_=>rfl) (Ed),qP (key:=14) (li:=sY) (by kernel_rfl) rfl (λ_=>rfl) (Ec),qP (key:=22) (li:=sX) (by kernel_rfl) rfl (λ_=>rfl) (Eb),qP (key:=27) (li:=sW) (by kernel_rfl) rfl (λ_=>rfl) (Ea),λ_ h=>by cases h⟩) d9 (XD qk)
def QI(_n:Nat)(L:((List kU)×(kU->Option Bool)×Int×Int×Unit)×(Unit)×Unit->Option (dZ ⊕ gP))(aW:List kU)(gL:kU->Option Bool)(kI:Int)(eP:Int):Option (dZ ⊕ gP):=
  cond (decide (eP<kI)) (qn aW eP λe1=>qa (gL e1) λy2=>cond y2 (some (.inl ((eP,()),(),()))) (L ((aW,gL,kI,(IntKind.wrap .i64 (eP+1)),()),(),()))) (some (.inr ((),(),())))
def vU:Nat->((List kU)×(kU->Option Bool)×Int×Int×Unit)×(Unit)×Unit->Option (dZ ⊕ gP)
  |0,_=>none
  |n+1,d=>QI n (vU n) d.1.1 d.1.2.1 d.1.2.2.1 d.1.2.2.2.1
def mj:jL:=⟨⟨[(0,.v LQ),(1,.v (.fn LB .bool)),(7,.v zI),(8,.v zI)],[],none⟩,[(.ret,⟨[(4,.v zI)],[],none⟩),(.exit 0,⟨[],[],none⟩)],vU⟩
def XT(n:Nat)(aW:(List kU))(gL:(kU->Option Bool)):Option fS:=
  qa (vU n ((aW,gL,(aW.length:Int),0,()),(),())) λo3=>fD o3 (λd4=>some ((d4.1.1,()),())) (λ_=>some (((-1),()),()))
def WT(d:(List kU)×(kU->Option Bool)×Unit):Option fS:=XT qk d.1 d.2.1
def HP:qS:=⟨[.v LQ,.v (.fn LB .bool)],[.v zI],WT⟩
def OQ:jB:=⟨19,bV,[],[],[(2,mj)],[],[],[],[],[],[],[],[],[],none,[],[],[],none,none,[]⟩
theorem JM(n:Nat)(d):qL OQ n Tryz.f106 (body Tryz.f106) HP.ps HP.rs d=XT n d.1 d.2.1:=by kernel_rfl
theorem yW(n:Nat)(d):(mj).g (n+1) d=run OQ n (nth 0 (qe (body Tryz.f106))) ((mj).ins.fill d) (qV (mj) n):=by kernel_rfl
theorem Vc:qe (body Tryz.f106)=[nth 0 (qe (body Tryz.f106))]:=by kernel_rfl
theorem abM:qJ Tryz.prog 106 HP:=hQ (aa:=OQ) (qz qB (qq) rfl (by kernel_rfl)) Tryz.func106 (by kernel_rfl) (by rw[Vc];simp only[List.forall_mem_cons];exact⟨qP (key:=2) (li:=mj) (by kernel_rfl) rfl (λ_=>rfl) (yW),λ_ h=>by cases h⟩) (by kernel_rfl) (JM qk)
def F81(_n:Nat)(aW:(List kU))(gL:(kU->Option Bool)):Option cr:=
  qa (WT (aW,gL,())) λy1=>some (((decide (y1.1.1>=0)),()),())
def g81(d:(List kU)×(kU->Option Bool)×Unit):Option cr:=F81 qk d.1 d.2.1
def Z_:qS:=⟨[.v LQ,.v (.fn LB .bool)],[.v .bool],g81⟩
def c81:jB:=⟨9,bV,[],[(106,HP)],[],[],[],[],[],[],[],[],[],[],none,[],[],[],none,none,[]⟩
theorem Pk(n:Nat)(d):qL c81 n Tryz.f81 (body Tryz.f81) Z_.ps Z_.rs d=F81 n d.1 d.2.1:=by kernel_rfl
theorem h81:qJ Tryz.prog 81 Z_:=hQ (aa:=c81) (qz qB (qf abM qq) rfl (by kernel_rfl)) Tryz.func81 (by kernel_rfl) (qE (by kernel_rfl)) (by kernel_rfl) (Pk qk)
def F36(_n:Nat)(nD:Int)(iW:Int)(fK:Int):Option cr:=
  cond (decide (nD>=iW)) (some (((decide (nD<=fK)),()),())) (some ((false,()),()))
def rB(d:Int×Int×Int×Unit):Option cr:=F36 qk d.1 d.2.1 d.2.2.1
def Gv:qS:=⟨[.v zI,.v zI,.v zI],[.v .bool],rB⟩
def c36:jB:=⟨15,bV,[],[],[],[],[],[],[],[],[],[],[],[],none,[],[],[],none,none,[]⟩
theorem PZ(n:Nat)(d):qL c36 n Tryz.f36 (body Tryz.f36) Gv.ps Gv.rs d=F36 n d.1 d.2.1 d.2.2.1:=by kernel_rfl
theorem Oh:qJ Tryz.prog 36 Gv:=hQ (aa:=c36) (qz qB (qq) rfl (by kernel_rfl)) Tryz.func36 (by kernel_rfl) (qE (by kernel_rfl)) (by kernel_rfl) (PZ qk)
def F82(_n:Nat)(AL:kU)(t_1:sw):Option cr:=
  qa (rB (AL.1,0,(IntKind.wrap .i64 ((t_1.2.2.length:Int)-1)),())) λy1=>cond (!y1.1.1) (some ((true,()),())) (qa (rB (AL.2.1,1,10000,())) λy2=>cond (!y2.1.1) (some ((true,()),())) (qa (rB (AL.2.2.1,0,9,())) λy3=>some (((!y3.1.1),()),())))
def g82(d:kU×sw×Unit):Option cr:=F82 qk d.1 d.2.1
def ZZ:qS:=⟨[.v LB,.r LC],[.v .bool],g82⟩
def c82:jB:=⟨24,bV,[],[(36,Gv)],[],[],[],[],[],[],[],[],[],[],none,[],[],[],none,none,[]⟩
theorem Pj(n:Nat)(d):qL c82 n Tryz.f82 (body Tryz.f82) ZZ.ps ZZ.rs d=F82 n d.1 d.2.1:=by kernel_rfl
theorem h82:qJ Tryz.prog 82 ZZ:=hQ (aa:=c82) (qz qB (qf Oh qq) rfl (by kernel_rfl)) Tryz.func82 (by kernel_rfl) (qE (by kernel_rfl)) (by kernel_rfl) (Pj qk)
def F83(_n:Nat)(nD:Int):Option cr:=
  qa (rB (nD,0,9,())) λy1=>some (((!y1.1.1),()),())
def g83(d:Int×Unit):Option cr:=F83 qk d.1
def ZY:qS:=⟨[.v zI],[.v .bool],g83⟩
def c83:jB:=⟨6,bV,[],[(36,Gv)],[],[],[],[],[],[],[],[],[],[],none,[],[],[],none,none,[]⟩
theorem Ph(n:Nat)(d):qL c83 n Tryz.f83 (body Tryz.f83) ZY.ps ZY.rs d=F83 n d.1:=by kernel_rfl
theorem h83:qJ Tryz.prog 83 ZY:=hQ (aa:=c83) (qz qB (qf Oh qq) rfl (by kernel_rfl)) Tryz.func83 (by kernel_rfl) (qE (by kernel_rfl)) (by kernel_rfl) (Ph qk)
def F84(_n:Nat)(nD:Int):Option cr:=
  qa (rB (nD,0,10000,())) λy1=>some (((!y1.1.1),()),())
def g84(d:Int×Unit):Option cr:=F84 qk d.1
def ZX:qS:=⟨[.v zI],[.v .bool],g84⟩
def c84:jB:=⟨6,bV,[],[(36,Gv)],[],[],[],[],[],[],[],[],[],[],none,[],[],[],none,none,[]⟩
theorem Pg(n:Nat)(d):qL c84 n Tryz.f84 (body Tryz.f84) ZX.ps ZX.rs d=F84 n d.1:=by kernel_rfl
theorem h84:qJ Tryz.prog 84 ZX:=hQ (aa:=c84) (qz qB (qf Oh qq) rfl (by kernel_rfl)) Tryz.func84 (by kernel_rfl) (qE (by kernel_rfl)) (by kernel_rfl) (Pg qk)
def F62(_n:Nat)(rL:sw):Option fS:=
  cond (decide ((rL.1.length:Int)>20)) (some ((100,()),())) (cond (decide ((rL.2.1.length:Int)>8)) (some ((100,()),())) (cond (decide ((rL.2.2.length:Int)>10)) (some ((100,()),())) (qa (g81 (rL.1,(λv1=>qa (g82 (v1,rL,())) λy2=>some y2.1.1),())) λy3=>cond y3.1.1 (some ((100,()),())) (qa (Lo (rL.2.1,(λv4=>qa (g83 (v4,())) λy5=>some y5.1.1),())) λy6=>cond y6.1.1 (some ((100,()),())) (qa (Lo (rL.2.2,(λv7=>qa (g84 (v7,())) λy8=>some y8.1.1),())) λy9=>cond y9.1.1 (some ((100,()),())) (some ((0,()),())))))))
def g62(d:sw×Unit):Option fS:=F62 qk d.1
def p62:qS:=⟨[.v LC],[.v zI],g62⟩
def c62:jB:=⟨39,bV,[],[(46,RX),(81,Z_),(82,ZZ),(83,ZY),(84,ZX)],[],[],[],[],[],[],[],[],[],[],none,[],[],[],none,none,[]⟩
theorem Pz(n:Nat)(d):qL c62 n Tryz.f62 (body Tryz.f62) p62.ps p62.rs d=F62 n d.1:=by kernel_rfl
theorem h62:qJ Tryz.prog 62 p62:=hQ (aa:=c62) (qz qB (qf h46 (qf h81 (qf h82 (qf h83 (qf h84 qq))))) rfl (by kernel_rfl)) Tryz.func62 (by kernel_rfl) (qE (by kernel_rfl)) (by kernel_rfl) (Pz qk)
def F88(_n:Nat)(bJ:eo)(n_1:Int):Option cr:=
  qa (rB (n_1,0,(IntKind.wrap .i64 ((bJ.1.2.1.length:Int)-1)),())) λy1=>some ((y1.1.1,()),())
def Sz(d:eo×Int×Unit):Option cr:=F88 qk d.1 d.2.1
def UM:qS:=⟨[.v (.str ny),.v zI],[.v .bool],Sz⟩
def c88:jB:=⟨12,bV,[],[(36,Gv)],[],[],[],[],[],[],[],[],[],[],none,[],[],[],none,none,[]⟩
theorem Pc(n:Nat)(d):qL c88 n Tryz.f88 (body Tryz.f88) UM.ps UM.rs d=F88 n d.1 d.2.1:=by kernel_rfl
theorem h88:qJ Tryz.prog 88 UM:=hQ (aa:=c88) (qz qB (qf Oh qq) rfl (by kernel_rfl)) Tryz.func88 (by kernel_rfl) (qE (by kernel_rfl)) (by kernel_rfl) (Pc qk)
def XR(_n:Nat)(bJ:eo)(ff:Int)(n_2:Int):Option cr:=
  qa (Sz (bJ,n_2,())) λy1=>cond y1.1.1 (qn bJ.1.2.1 n_2 λe2=>qn bJ.1.1 ff λe3=>some (((decide (e2>=e3.2.2.1)),()),())) (some ((false,()),()))
def Jd(d:eo×Int×Int×Unit):Option cr:=XR qk d.1 d.2.1 d.2.2.1
def HO:qS:=⟨[.v (.str ny),.v zI,.v zI],[.v .bool],Jd⟩
def Xt:jB:=⟨26,bV,[],[(88,UM)],[],[],[],[],[],[],[],[],[],[],none,[],[],[],none,none,[]⟩
theorem JL(n:Nat)(d):qL Xt n Tryz.f107 (body Tryz.f107) HO.ps HO.rs d=XR n d.1 d.2.1 d.2.2.1:=by kernel_rfl
theorem abL:qJ Tryz.prog 107 HO:=hQ (aa:=Xt) (qz qB (qf h88 qq) rfl (by kernel_rfl)) Tryz.func107 (by kernel_rfl) (qE (by kernel_rfl)) (by kernel_rfl) (JL qk)
def F85(_n:Nat)(bJ:eo)(ff:Int)(a_2:Int)(b_3:Int):Option cr:=
  qn bJ.1.1 ff λe1=>cond (!e1.2.2.2) (qa (Jd (bJ,ff,a_2,())) λy2=>cond y2.1.1 (some (((b_3==(-1)),()),())) (some ((false,()),()))) (qa (Jd (bJ,ff,a_2,())) λy3=>cond y3.1.1 (qa (Jd (bJ,ff,b_3,())) λy4=>cond y4.1.1 (some (((a_2 !=b_3),()),())) (some ((false,()),()))) (some ((false,()),())))
def g85(d:eo×Int×Int×Int×Unit):Option cr:=F85 qk d.1 d.2.1 d.2.2.1 d.2.2.2.1
def ZW:qS:=⟨[.v (.str ny),.v zI,.v zI,.v zI],[.v .bool],g85⟩
def c85:jB:=⟨40,bV,[],[(107,HO)],[],[],[],[],[],[],[],[],[],[],none,[],[],[],none,none,[]⟩
theorem Pf(n:Nat)(d):qL c85 n Tryz.f85 (body Tryz.f85) ZW.ps ZW.rs d=F85 n d.1 d.2.1 d.2.2.1 d.2.2.2.1:=by kernel_rfl
theorem h85:qJ Tryz.prog 85 ZW:=hQ (aa:=c85) (qz qB (qf abL qq) rfl (by kernel_rfl)) Tryz.func85 (by kernel_rfl) (qE (by kernel_rfl)) (by kernel_rfl) (Pf qk)
def F86(_n:Nat)(bJ:eo)(n_1:Int):Option cr:=
  qa (rB (n_1,0,(IntKind.wrap .i64 ((bJ.1.2.2.length:Int)-1)),())) λy1=>some ((y1.1.1,()),())
def Ja(d:eo×Int×Unit):Option cr:=F86 qk d.1 d.2.1
def ZV:qS:=⟨[.v (.str ny),.v zI],[.v .bool],Ja⟩
def c86:jB:=⟨12,bV,[],[(36,Gv)],[],[],[],[],[],[],[],[],[],[],none,[],[],[],none,none,[]⟩
theorem Pe(n:Nat)(d):qL c86 n Tryz.f86 (body Tryz.f86) ZV.ps ZV.rs d=F86 n d.1 d.2.1:=by kernel_rfl
theorem h86:qJ Tryz.prog 86 ZV:=hQ (aa:=c86) (qz qB (qf Oh qq) rfl (by kernel_rfl)) Tryz.func86 (by kernel_rfl) (qE (by kernel_rfl)) (by kernel_rfl) (Pe qk)
def XY(_n:Nat)(L:((List bM)×(bM->Option Bool)×Int×Int×Unit)×(Unit)×Unit->Option (dZ ⊕ gP))(aW:List bM)(gL:bM->Option Bool)(kI:Int)(eP:Int):Option (dZ ⊕ gP):=
  cond (decide (eP<kI)) (qn aW eP λe1=>qa (gL e1) λy2=>cond y2 (some (.inl ((eP,()),(),()))) (L ((aW,gL,kI,(IntKind.wrap .i64 (eP+1)),()),(),()))) (some (.inr ((),(),())))
def Eu:Nat->((List bM)×(bM->Option Bool)×Int×Int×Unit)×(Unit)×Unit->Option (dZ ⊕ gP)
  |0,_=>none
  |n+1,d=>XY n (Eu n) d.1.1 d.1.2.1 d.1.2.2.1 d.1.2.2.2.1
def tq:jL:=⟨⟨[(0,.v GL),(1,.v (.fn (.str iJ) .bool)),(7,.v zI),(8,.v zI)],[],none⟩,[(.ret,⟨[(4,.v zI)],[],none⟩),(.exit 0,⟨[],[],none⟩)],Eu⟩
def F64(n:Nat)(aW:(List bM))(gL:(bM->Option Bool)):Option fS:=
  qa (Eu n ((aW,gL,(aW.length:Int),0,()),(),())) λo3=>fD o3 (λd4=>some ((d4.1.1,()),())) (λ_=>some (((-1),()),()))
def g64(d:(List bM)×(bM->Option Bool)×Unit):Option fS:=F64 qk d.1 d.2.1
def UO:qS:=⟨[.v GL,.v (.fn (.str iJ) .bool)],[.v zI],g64⟩
def c64:jB:=⟨19,bV,[],[],[(2,tq)],[],[],[],[],[],[],[],[],[],none,[],[],[],none,none,[]⟩
theorem Px(n:Nat)(d):qL c64 n Tryz.f64 (body Tryz.f64) UO.ps UO.rs d=F64 n d.1 d.2.1:=by kernel_rfl
theorem Et(n:Nat)(d):(tq).g (n+1) d=run c64 n (nth 0 (qe (body Tryz.f64))) ((tq).ins.fill d) (qV (tq) n):=by kernel_rfl
theorem aas:qe (body Tryz.f64)=[nth 0 (qe (body Tryz.f64))]:=by kernel_rfl
theorem h64:qJ Tryz.prog 64 UO:=hQ (aa:=c64) (qz qB (qq) rfl (by kernel_rfl)) Tryz.func64 (by kernel_rfl) (by rw[aas];simp only[List.forall_mem_cons];exact⟨qP (key:=2) (li:=tq) (by kernel_rfl) rfl (λ_=>rfl) (Et),λ_ h=>by cases h⟩) (by kernel_rfl) (Px qk)
def XP(_n:Nat)(aW:(List bM))(gL:(bM->Option Bool)):Option cr:=
  qa (g64 (aW,gL,())) λy1=>some (((decide (y1.1.1>=0)),()),())
def WS(d:(List bM)×(bM->Option Bool)×Unit):Option cr:=XP qk d.1 d.2.1
def HN:qS:=⟨[.v GL,.v (.fn (.str iJ) .bool)],[.v .bool],WS⟩
def Xs:jB:=⟨9,bV,[],[(64,UO)],[],[],[],[],[],[],[],[],[],[],none,[],[],[],none,none,[]⟩
theorem JK(n:Nat)(d):qL Xs n Tryz.f108 (body Tryz.f108) HN.ps HN.rs d=XP n d.1 d.2.1:=by kernel_rfl
theorem abK:qJ Tryz.prog 108 HN:=hQ (aa:=Xs) (qz qB (qf h64 qq) rfl (by kernel_rfl)) Tryz.func108 (by kernel_rfl) (qE (by kernel_rfl)) (by kernel_rfl) (JK qk)
def XO(_n:Nat)(nx:bM)(t_1:Int):Option cr:=
  cond (nx.2.1==3) (some (((nx.2.2.1==t_1),()),())) (some ((false,()),()))
def WR(d:bM×Int×Unit):Option cr:=XO qk d.1 d.2.1
def HM:qS:=⟨[.v (.str iJ),.r zI],[.v .bool],WR⟩
def Xr:jB:=⟨13,bV,[],[],[],[],[],[],[],[],[],[],[],[],none,[],[],[],none,none,[]⟩
theorem JJ(n:Nat)(d):qL Xr n Tryz.f109 (body Tryz.f109) HM.ps HM.rs d=XO n d.1 d.2.1:=by kernel_rfl
theorem abJ:qJ Tryz.prog 109 HM:=hQ (aa:=Xr) (qz qB (qq) rfl (by kernel_rfl)) Tryz.func109 (by kernel_rfl) (qE (by kernel_rfl)) (by kernel_rfl) (JJ qk)
def F87(_n:Nat)(bJ:eo)(n_1:Int):Option cr:=
  qa (WS (bJ.2,(λv1=>qa (WR (v1,n_1,())) λy2=>some y2.1.1),())) λy3=>some ((y3.1.1,()),())
def g87(d:eo×Int×Unit):Option cr:=F87 qk d.1 d.2.1
def UN:qS:=⟨[.v (.str ny),.v zI],[.v .bool],g87⟩
def c87:jB:=⟨9,bV,[],[(108,HN),(109,HM)],[],[],[],[],[],[],[],[],[],[],none,[],[],[],none,none,[]⟩
theorem Pd(n:Nat)(d):qL c87 n Tryz.f87 (body Tryz.f87) UN.ps UN.rs d=F87 n d.1 d.2.1:=by kernel_rfl
theorem h87:qJ Tryz.prog 87 UN:=hQ (aa:=c87) (qz qB (qf abK (qf abJ qq)) rfl (by kernel_rfl)) Tryz.func87 (by kernel_rfl) (qE (by kernel_rfl)) (by kernel_rfl) (Pd qk)
def F63(_n:Nat)(bJ:eo)(x_1:bM):Option cr:=
  cond (decide ((bJ.2.length:Int)>0)) (qn bJ.2 (IntKind.wrap .i64 ((bJ.2.length:Int)-1)) λe1=>qa (rB (x_1.1,e1.1,10000,())) λy2=>cond (!y2.1.1) (some ((false,()),())) (cond (x_1.2.1==1) (qa (rB (x_1.2.2.1,0,(IntKind.wrap .i64 ((bJ.1.1.length:Int)-1)),())) λy3=>cond y3.1.1 (qa (g85 (bJ,x_1.2.2.1,x_1.2.2.2.1,x_1.2.2.2.2,())) λy4=>some ((y4.1.1,()),())) (some ((false,()),()))) (cond (x_1.2.1==2) (qa (Ja (bJ,x_1.2.2.1,())) λy5=>cond y5.1.1 (qa (rB (x_1.2.2.2.1,1,3,())) λy6=>cond y6.1.1 (some (((x_1.2.2.2.2==0),()),())) (some ((false,()),()))) (some ((false,()),()))) (cond (x_1.2.1==3) (qa (rB (x_1.2.2.1,0,(IntKind.wrap .i64 ((bJ.2.length:Int)-1)),())) λy7=>cond y7.1.1 (qn bJ.2 x_1.2.2.1 λe8=>cond (e8.2.1==2) (qa (g87 (bJ,x_1.2.2.1,())) λy9=>cond (!y9.1.1) (qa (Sz (bJ,x_1.2.2.2.1,())) λQJ=>cond QJ.1.1 (some (((x_1.2.2.2.2==0),()),())) (some ((false,()),()))) (some ((false,()),()))) (some ((false,()),()))) (some ((false,()),()))) (cond (x_1.2.1==4) (qa (Ja (bJ,x_1.2.2.1,())) λYe=>cond Ye.1.1 (qa (Sz (bJ,x_1.2.2.2.1,())) λSK=>cond SK.1.1 (some (((x_1.2.2.2.2==0),()),())) (some ((false,()),()))) (some ((false,()),()))) (cond (x_1.2.1==5) (qa (Ja (bJ,x_1.2.2.1,())) λFO=>cond FO.1.1 (qa (rB (x_1.2.2.2.1,0,10000,())) λLG=>cond LG.1.1 (some (((x_1.2.2.2.2==0),()),())) (some ((false,()),()))) (some ((false,()),()))) (cond (x_1.2.1==6) (qa (Ja (bJ,x_1.2.2.1,())) λLF=>cond LF.1.1 (cond (x_1.2.2.2.1==0) (some (((x_1.2.2.2.2==0),()),())) (some ((false,()),()))) (some ((false,()),()))) (some ((false,()),()))))))))) (qa (rB (x_1.1,0,10000,())) λSJ=>cond (!SJ.1.1) (some ((false,()),())) (cond (x_1.2.1==1) (qa (rB (x_1.2.2.1,0,(IntKind.wrap .i64 ((bJ.1.1.length:Int)-1)),())) λFN=>cond FN.1.1 (qa (g85 (bJ,x_1.2.2.1,x_1.2.2.2.1,x_1.2.2.2.2,())) λSI=>some ((SI.1.1,()),())) (some ((false,()),()))) (cond (x_1.2.1==2) (qa (Ja (bJ,x_1.2.2.1,())) λy19=>cond y19.1.1 (qa (rB (x_1.2.2.2.1,1,3,())) λSH=>cond SH.1.1 (some (((x_1.2.2.2.2==0),()),())) (some ((false,()),()))) (some ((false,()),()))) (cond (x_1.2.1==3) (qa (rB (x_1.2.2.1,0,(IntKind.wrap .i64 ((bJ.2.length:Int)-1)),())) λy21=>cond y21.1.1 (qn bJ.2 x_1.2.2.1 λDg=>cond (Dg.2.1==2) (qa (g87 (bJ,x_1.2.2.1,())) λYd=>cond (!Yd.1.1) (qa (Sz (bJ,x_1.2.2.2.1,())) λy24=>cond y24.1.1 (some (((x_1.2.2.2.2==0),()),())) (some ((false,()),()))) (some ((false,()),()))) (some ((false,()),()))) (some ((false,()),()))) (cond (x_1.2.1==4) (qa (Ja (bJ,x_1.2.2.1,())) λy25=>cond y25.1.1 (qa (Sz (bJ,x_1.2.2.2.1,())) λy26=>cond y26.1.1 (some (((x_1.2.2.2.2==0),()),())) (some ((false,()),()))) (some ((false,()),()))) (cond (x_1.2.1==5) (qa (Ja (bJ,x_1.2.2.1,())) λy27=>cond y27.1.1 (qa (rB (x_1.2.2.2.1,0,10000,())) λy28=>cond y28.1.1 (some (((x_1.2.2.2.2==0),()),())) (some ((false,()),()))) (some ((false,()),()))) (cond (x_1.2.1==6) (qa (Ja (bJ,x_1.2.2.1,())) λy29=>cond y29.1.1 (cond (x_1.2.2.2.1==0) (some (((x_1.2.2.2.2==0),()),())) (some ((false,()),()))) (some ((false,()),()))) (some ((false,()),())))))))))
def g63(d:eo×bM×Unit):Option cr:=F63 qk d.1 d.2.1
def p63:qS:=⟨[.v (.str ny),.v (.str iJ)],[.v .bool],g63⟩
def c63:jB:=⟨148,bV,[],[(36,Gv),(85,ZW),(86,ZV),(87,UN),(88,UM)],[],[],[],[],[],[],[],[],[],[],none,[],[],[],none,none,[]⟩
theorem Py(n:Nat)(d):qL c63 n Tryz.f63 (body Tryz.f63) p63.ps p63.rs d=F63 n d.1 d.2.1:=by kernel_rfl
theorem h63:qJ Tryz.prog 63 p63:=hQ (aa:=c63) (qz qB (qf Oh (qf h85 (qf h86 (qf h87 (qf h88 qq))))) rfl (by kernel_rfl)) Tryz.func63 (by kernel_rfl) (qE (by kernel_rfl)) (by kernel_rfl) (Py qk)
def X'(_n:Nat)(L:Ym×(eo×Unit)×Unit->Option ((u_×(eo×Unit)×Unit) ⊕ ((Unit)×(eo×Unit)×Unit)))(Tf:List bM)(xG:Int)(iP:Int)(fI:sw×(List bM)):Option ((u_×(eo×Unit)×Unit) ⊕ ((Unit)×(eo×Unit)×Unit)):=
  cond (decide (iP<xG)) (qn Tf iP λe2=>qa (g63 (fI,e2,())) λy3=>cond (!y3.1.1) (some (.inl ((iP,101,()),(fI,()),()))) (qo ((fI.2.length:Int)+[e2].length) (L ((Tf,xG,(IntKind.wrap .i64 (iP+1)),()),((fI.1,(fI.2++[e2])),()),())))) (some (.inr ((),(fI,()),())))
def EK:Nat->Ym×(eo×Unit)×Unit->Option ((u_×(eo×Unit)×Unit) ⊕ ((Unit)×(eo×Unit)×Unit))
  |0,_=>none
  |n+1,d=>X' n (EK n) d.1.1 d.1.2.1 d.1.2.2.1 d.2.1.1
def tG:jL:=⟨⟨[(4,.c (.ptr 4 [])),(22,.v GL),(23,.v zI),(24,.v zI)],[(4,false,.str SU)],none⟩,[(.ret,⟨[(4,.c (.ptr 4 [])),(5,.v zI),(6,.v zI)],[(4,false,.str SU)],none⟩),(.exit 0,⟨[(4,.c (.ptr 4 []))],[(4,false,.str SU)],none⟩)],EK⟩
def F35(n:Nat)(rL:sw)(dO:(List bM)):Option ((eo×Int×Int×Unit)×(Unit)):=
  qa (g62 (rL,())) λy1=>cond (y1.1.1 !=0) (some ((((([]:List kU),(([]:List Int),([]:List Int))),([]:List bM)),0,y1.1.1,()),())) (cond (decide ((dO.length:Int)>100)) (some ((((([]:List kU),(([]:List Int),([]:List Int))),([]:List bM)),0,2,()),())) (qa (EK n ((dO,(dO.length:Int),0,()),((rL,([]:List bM)),()),())) λo4=>fD o4 (λd5=>some ((d5.2.1.1,d5.1.1,d5.1.2.1,()),())) (λd6=>some ((d6.2.1.1,0,0,()),()))))
def g35(d:sw×(List bM)×Unit):Option ((eo×Int×Int×Unit)×(Unit)):=F35 qk d.1 d.2.1
def p35:qS:=⟨[.v LC,.v GL],[.v (.str ny),.v zI,.v zI],g35⟩
def c35:jB:=⟨43,bV,[(4,.str SU),(21,.str SU)],[(62,p62),(63,p63)],[(8,tG)],[],[],[],[],[],[],[],[],[],none,[],[],[],none,none,[]⟩
theorem P_(n:Nat)(d):qL c35 n Tryz.f35 (body Tryz.f35) p35.ps p35.rs d=F35 n d.1 d.2.1:=by kernel_rfl
theorem EJ(n:Nat)(d):(tG).g (n+1) d=run c35 n (nth 0 (qe (body Tryz.f35))) ((tG).ins.fill d) (qV (tG) n):=by kernel_rfl
theorem aaz:qe (body Tryz.f35)=[nth 0 (qe (body Tryz.f35))]:=by kernel_rfl
theorem h35:qJ Tryz.prog 35 p35:=hQ (aa:=c35) (qz qB (qf h62 (qf h63 qq)) rfl (by kernel_rfl)) Tryz.func35 (by kernel_rfl) (by rw[aaz];simp only[List.forall_mem_cons];exact⟨qP (key:=8) (li:=tG) (by kernel_rfl) rfl (λ_=>rfl) (EJ),λ_ h=>by cases h⟩) (by kernel_rfl) (P_ qk)
def F65(_n:Nat)(nx:bM)(t_1:Int):Option cr:=
  some (((decide (nx.1>t_1)),()),())
def g65(d:bM×Int×Unit):Option cr:=F65 qk d.1 d.2.1
def χ:qS:=⟨[.v (.str iJ),.r zI],[.v .bool],g65⟩
def c65:jB:=⟨8,bV,[],[],[],[],[],[],[],[],[],[],[],[],none,[],[],[],none,none,[]⟩
theorem Pw(n:Nat)(d):qL c65 n Tryz.f65 (body Tryz.f65) χ.ps χ.rs d=F65 n d.1 d.2.1:=by kernel_rfl
theorem h65:qJ Tryz.prog 65 χ:=hQ (aa:=c65) (qz qB (qq) rfl (by kernel_rfl)) Tryz.func65 (by kernel_rfl) (qE (by kernel_rfl)) (by kernel_rfl) (Pw qk)
end
end Go.Proofs.Tryz.V
