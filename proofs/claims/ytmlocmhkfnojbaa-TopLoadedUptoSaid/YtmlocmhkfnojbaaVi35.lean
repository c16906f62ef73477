/- The abstract interpreter 'Vi', thirty-fifth part: what a range over a function leaves behind: marks on the call's deferred calls. No condition beyond those typed in each theorem. -/
import Derived.Test.YtmlocmhkfnojbaaVi34
namespace Go.Vi
section
variable {P:Program} {C:Ctx} {cfg:jG} {R:Type} {r:R} {s s':St} {a a':Act} {w w':World} {H H':FH} {Φ Φ':Nat->qB}
def DsOK(B:Nat)(ds:List Deferred)(w:World):Prop:=ds.Nodup/\∀d∈ds,∃D,d={target:=.collected D,args:=#[]}/\B<=D/\w.heap[D]? = some (.deferred (some []))
def reD(C:Ctx)(w:World)(H:FH)(ds:List Deferred):Ctx:=⟨w,λb=>(C.M0 b\/C.w0.heap.size<=b)/\w.heap[b]?≠some (.deferred (some [])),H,C.nt,C.pin,ds++C.ds,C.gh⟩
theorem qmr{ds:List Deferred}(hC:qz C cfg):qz (reD C w H ds) cfg:=⟨hC.nt,hC.pin⟩
theorem qgA.ne{m:Ms}{b:Nat}(h:qgA P w m b):w.heap[b]?≠some (.deferred (some [])):=by
 obtain⟨D,⟨es,clock,h1,_⟩,_⟩:=h
 intro e
 rw[e]at h1
 cases h1
theorem qdM.ne{m:Ms}{b i:Nat}{lf:List Int}(h:qdM P w m b i lf):w.heap[i]?≠some (.deferred (some [])):=by
 obtain⟨D,left,cnt,⟨es,clock,since,seen,c0,h1,h2,h3,h4,h5,h6⟩,h7⟩:=h
 intro e
 rw[e]at h5
 cases h5
theorem MOKb.ctx{C C':Ctx}{m:Ms}{os:Nat->Option Obj}{b:Nat}(hf:∀b,qaB C w H Φ os b->w.heap[b]?≠some (.deferred (some []))->qaB C' w H Φ os b)(ha:a'.tmps=a.tmps)(h:MOKb P C m os a w H Φ b):MOKb P C' m os a' w H Φ b:=by
 obtain⟨h1,h2,h3,h4,h5,h6⟩:=h
 refine⟨h1,h2,hf b h3 h4.ne,h4,by rw[ha];exact h5,λti lf hi=>?_⟩
 obtain⟨r,k1,k2,k3,k4⟩:=h6 ti lf hi
 exact⟨r,hf r k1 k2.ne,k2,by rw[ha];exact k3,k4⟩
theorem qcP.ctx{C C':Ctx}{mp:Option Ms}{os:Nat->Option Obj}(hf:∀b,qaB C w H Φ os b->w.heap[b]?≠some (.deferred (some []))->qaB C' w H Φ os b)(ha:a'.tmps=a.tmps)(h:qcP P C mp os a w H Φ):qcP P C' mp os a' w H Φ:=by
 cases mp with
 |none=>trivial
 |some m=>obtain⟨b,h⟩:=h;exact⟨b,h.ctx hf ha⟩
theorem qg.rebaseD(ds:List Deferred)(hs:qg P C s {a with defers:=C.ds} w H Φ)(hd:a.defers=ds++C.ds):qg P (reD C w H ds) s a w H Φ:=by
 refine⟨hd,hs.size,FH.le_refl _,hs.hok,λb c hb=>.inl hb,jM.refl _ _,?_,?_,hs.disj,hs.pins⟩
 ·intro t av ht
  exact qh.ctx (C:=C) (C':=reD C w H ds) rfl rfl (λb hb hc=>(⟨hb.fz,hb.obj,.inl ⟨hb.may,by obtain⟨c,t,f,e⟩:=hc;rw[e];intro e;cases e⟩,hb.lt⟩:qaB (reD C w H ds) w H Φ s.obj b)) (hs.ts t av ht)
 ·intro id o ho
  have h:=hs.os id o ho
  exact⟨h.1,λb hb=>⟨(h.2 b hb).1,.inl ⟨(h.2 b hb).2.1,by obtain⟨o',e,e2⟩:=h.1.dat b hb;rw[e];intro e3;cases e3;cases e2⟩,(h.2 b hb).2.2⟩⟩
theorem jX.rebaseD(ds:List Deferred)(hs:jX P C s {a with defers:=C.ds} w)(hd:a.defers=ds++C.ds):∃H Φ,qg P C s {a with defers:=C.ds} w H Φ/\jX P (reD C w H ds) s a w:=by
 obtain⟨H,Φ,hs,hM⟩:=hs
 exact⟨H,Φ,hs,H,Φ,hs.rebaseD ds hd,hM.ctx (λb hb hn=>⟨hb.fz,hb.obj,.inl ⟨hb.may,hn⟩,hb.lt⟩) rfl⟩
theorem qg.unbaseD{ds:List Deferred}(hs:qg P C s {a with defers:=C.ds} w H Φ)(h:qg P (reD C w H ds) s' {a' with defers:=(reD C w H ds).ds} w' H' Φ'):qg P C s' {a' with defers:=C.ds} w' H' Φ':=by
 have hmay:∀b,(reD C w H ds).M0 b\/(reD C w H ds).w0.heap.size<=b->C.M0 b\/C.w0.heap.size<=b:=by
  rintro b (hb|hb)
  ·exact hb.1
  ·exact .inr (Nat.le_trans hs.mod.size hb)
 refine⟨rfl,h.size,FH.le_trans hs.le h.le,h.hok,?_,hs.mod.trans_new h.mod (λi hi=>hi.1),?_,?_,h.disj,h.pins⟩
 ·intro b c hb
  rcases h.hnew b c hb with h1|h1|h1
  ·exact hs.hnew b c h1
  ·exact .inr (hmay b (.inl h1))
  ·exact .inr (hmay b (.inr h1))
 ·intro t av ht
  exact qh.ctx (C:=reD C w H ds) (C':=C) rfl rfl (λb hb _=>(⟨hb.fz,hb.obj,hmay b hb.may,hb.lt⟩:qaB C w' H' Φ' s'.obj b)) (h.ts t av ht)
 ·intro id o ho
  have h1:=h.os id o ho
  exact⟨h1.1,λb hb=>⟨(h1.2 b hb).1,hmay b (h1.2 b hb).2.1,(h1.2 b hb).2.2⟩⟩
theorem jX.unbaseD{ds:List Deferred}(hs:qg P C s {a with defers:=C.ds} w H Φ)(h:jX P (reD C w H ds) s' {a' with defers:=(reD C w H ds).ds} w'):jX P C s' {a' with defers:=C.ds} w':=by
 obtain⟨H',Φ',h,hM⟩:=h
 have hmay:∀b,(reD C w H ds).M0 b\/(reD C w H ds).w0.heap.size<=b->C.M0 b\/C.w0.heap.size<=b:=by
  rintro b (hb|hb)
  ·exact hb.1
  ·exact .inr (Nat.le_trans hs.mod.size hb)
 exact⟨H',Φ',hs.unbaseD h,hM.ctx (λb hb _=>⟨hb.fz,hb.obj,hmay b hb.may,hb.lt⟩) rfl⟩
theorem jX.modD{ds:List Deferred}(h:jX P (reD C w H ds) s' a' w'):jM (reD C w H ds).M0 w w':=by
 obtain⟨_,_,h,_⟩:=h;exact h.mod
theorem DsOK.later{ds:List Deferred}{B:Nat}(h:DsOK B ds w)(hm:jM (reD C w H ds).M0 w w'):DsOK B ds w':=by
 refine⟨h.1,λd hd=>?_⟩
 obtain⟨D,e,hB,hD⟩:=h.2 d hd
 exact⟨D,e,hB,(hm.block D (Array.getElem?_eq_some_iff.1 hD).1 (λhM=>hM.2 hD)).trans hD⟩
def qhb(P:Program)(C:Ctx)(k:X->St->Option R)(r:R)(x:X)(a:Act)(w:World):Prop:=
 ∃s ds,a.defers=ds++C.ds/\DsOK C.w0.heap.size ds w/\jX P C s {a with defers:=C.ds} w/\k x s=some r
def qgy(P:Program)(C:Ctx)(k:X->St->Option R)(r:R):Exit->Act->World->Prop
 |.normal,a,w=>qhb P C k r .norm a w
 |.exit i,a,w=>qhb P C k r (.exit i) a w
 |.ret,a,w=>qhb P C k r .ret a w
 |_,_,_=>False
theorem qhb.one{k:X->St->Option R}{x:X}(hs:jX P C s a w)(h:k x s=some r):qhb P C k r x a w:=by
 have hd:a.defers=C.ds:=by obtain⟨_,_,h,_⟩:=hs;exact h.defers
 refine⟨s,[],by simpa using hd,by simp[DsOK],?_,h⟩
 rw[<-hd]
 exact hs
theorem qgy.of_post{k:X->St->Option R}{e:Exit}(h:Post P C k r e a w):qgy P C k r e a w:=by
 cases e with
 |normal=>obtain⟨s,hs,h⟩:=h;exact .one hs h
 |exit i=>obtain⟨s,hs,h⟩:=h;exact .one hs h
 |ret=>obtain⟨s,hs,h⟩:=h;exact .one hs h
 |_=>exact h
theorem qhb.unbase{ds:List Deferred}{k:X->St->Option R}{x:X}(hs:qg P C s {a with defers:=C.ds} w H Φ)(hD:DsOK C.w0.heap.size ds w)(h:qhb P (reD C w H ds) k r x a' w'):qhb P C k r x a' w':=by
 obtain⟨s2,ds2,e,hd2,hs2,hk⟩:=h
 refine⟨s2,ds2++ds,by rw[e,List.append_assoc];rfl,?_,hs2.unbaseD hs,hk⟩
 have hl:=hD.later hs2.modD
 refine⟨List.nodup_append.2 ⟨hd2.1,hD.1,?_⟩,λd hd=>?_⟩
 ·rintro d h1 d' h2 rfl
  obtain⟨D,e1,hB,_⟩:=hd2.2 d h1
  obtain⟨D',e2,_,hD'⟩:=hD.2 d h2
  rw[e1]at e2
  injection e2 with e2 _
  injection e2 with e2
  subst e2
  exact absurd (Array.getElem?_eq_some_iff.1 hD').1 (Nat.not_lt.2 hB)
 ·rcases List.mem_append.1 hd with hd|hd
  ·obtain⟨D,e,hB,hD⟩:=hd2.2 d hd
   exact⟨D,e,Nat.le_trans hs.mod.size hB,hD⟩
  ·exact hl.2 d hd
theorem qgy.unbase{ds:List Deferred}{k:X->St->Option R}{e:Exit}(hs:qg P C s {a with defers:=C.ds} w H Φ)(hD:DsOK C.w0.heap.size ds w)(h:qgy P (reD C w H ds) k r e a' w'):qgy P C k r e a' w':=by
 cases e with
 |normal=>exact qhb.unbase hs hD h
 |exit i=>exact qhb.unbase hs hD h
 |ret=>exact qhb.unbase hs hD h
 |_=>exact h
end
end Go.Vi
