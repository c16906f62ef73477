/- The abstract interpreter 'Vi', thirty-sixth part: the rounds of a range over a function. No condition beyond those typed in each theorem. -/
import Derived.Test.YtmlocmhkfnojbaaVi35
namespace Go.Vi
open Go.RowKit
section
variable {P:Program} {C:Ctx} {cfg:jG} {R:Type} {r:R} {s s':St} {a a':Act} {w w' W W':World} {H H':FH} {Φ Φ':Nat->qB}
def AV.calm:AV->Bool
 |.upd _ _ _ _ _=>false
 |.cons a b=>a.calm&&b.calm
 |.fn _ a b=>a.calm&&b.calm
 |.gh _ a=>a.calm
 |_=>true
theorem qc7:∀{av:AV},av.calm=true->av.killIf AV.isUpd=av
 |.dead,_=>rfl
 |.val _ _,_=>rfl
 |.ref _ _,_=>rfl
 |.ptr _ _,_=>rfl
 |.view _ _,_=>rfl
 |.upd _ _ _ _ _,h=>by cases h
 |.cut _ _ _ _,_=>rfl
 |.nil,_=>rfl
 |.cv _ _ _,_=>rfl
 |.gh _ a,h=>by
  simp only[AV.calm]at h
  simp only[AV.killIf,qc7 h]
 |.cons a b,h=>by
  simp only[AV.calm,Bool.and_eq_true]at h
  simp only[AV.killIf,qc7 h.1,qc7 h.2]
 |.fn f a b,h=>by
  simp only[AV.calm,Bool.and_eq_true]at h
  simp only[AV.killIf,qc7 h.1,qc7 h.2]
theorem qc2:∀av:AV,(av.killIf AV.isUpd).calm=true
 |.dead=>rfl
 |.val _ _=>rfl
 |.ref _ _=>rfl
 |.ptr _ _=>rfl
 |.view _ _=>rfl
 |.upd _ _ _ _ _=>rfl
 |.cut _ _ _ _=>rfl
 |.nil=>rfl
 |.cv _ _ _=>rfl
 |.gh _ a=>by simp only[AV.killIf,AV.calm,qc2 a]
 |.cons a b=>by simp only[AV.killIf,AV.calm,qc2 a,qc2 b,Bool.and_self]
 |.fn _ a b=>by simp only[AV.killIf,AV.calm,qc2 a,qc2 b,Bool.and_self]
def St.calm(s:St):Prop:=∀t av,s.get t=some av->av.calm=true
theorem qh.calm_ctx{C C':Ctx}{os:Nat->Option Obj}(hg:C'.gh=C.gh)(hp:C'.pin=C.pin):∀{av:AV} {v:Value},av.calm=true->qh P C w H Φ os av v->qh P C' w H Φ os av v
 |.dead,_,_,h=>h
 |.val _ _,_,_,h=>h
 |.ref _ _,_,_,h=>h
 |.ptr _ _,_,_,h=>h
 |.view _ _,_,_,h=>h
 |.upd _ _ _ _ _,_,hc,_=>by cases hc
 |.cut _ _ _ _,_,_,h=>h
 |.fn _ _ _,_,hc,⟨vs,us,h1,h2,h3⟩=>by
  simp only[AV.calm,Bool.and_eq_true]at hc
  exact⟨vs,us,h1,qh.calm_ctx hg hp hc.1 h2,qh.calm_ctx hg hp hc.2 h3⟩
 |.nil,_,_,h=>h
 |.cv _ _ _,_,_,⟨b,cv,h1,h2⟩=>⟨b,cv,h1,by rw[hp];exact h2⟩
 |.gh _ _,_,hc,⟨u,h1,h2⟩=>⟨u,by rw[hg];exact h1,qh.calm_ctx hg hp (by simpa[AV.calm]using hc) h2⟩
 |.cons _ _,_,hc,⟨u,us,h1,h2,h3⟩=>by
  simp only[AV.calm,Bool.and_eq_true]at hc
  exact⟨u,us,h1,qh.calm_ctx hg hp hc.1 h2,qh.calm_ctx hg hp hc.2 h3⟩
def qet(w:World)(M:Nat->Prop)(pl:List (Nat×qB))(nt:Nat)(O:Nat->Prop)(W:World)(H:FH):Ctx:=⟨W,λb=>(M b\/w.heap.size<=b)/\qe0 W b/\¬O b,H,nt,lk pl,[],λ_=>none⟩
variable {M O O':Nat->Prop} {pl:List (Nat×qB)} {nt:Nat}
theorem qg.rebaseK{W0:World}{H0:FH}(hW:w.heap.size<=W0.heap.size)(hO:∀b,O b->b<W0.heap.size)(hs:qg P (qet w M pl nt O W0 H0) s a W H Φ):qg P (qet w M pl nt O W H) s a W H Φ:=by
 have hmay:∀b,(qet w M pl nt O W0 H0).M0 b\/(qet w M pl nt O W0 H0).w0.heap.size<=b->(M b\/w.heap.size<=b)/\¬O b:=by
  rintro b (hb|hb)
  ·exact⟨hb.1,hb.2.2⟩
  ·have hb':W0.heap.size<=b:=hb
   exact⟨.inr (Nat.le_trans hW hb'),λh=>absurd (hO b h) (Nat.not_lt.2 hb')⟩
 refine⟨hs.defers,hs.size,FH.le_refl _,hs.hok,λb c hb=>.inl hb,jM.refl _ _,?_,?_,hs.disj,hs.pins⟩
 ·intro t av ht
  exact qh.ctx (C:=qet w M pl nt O W0 H0) (C':=qet w M pl nt O W H) rfl rfl (λb hb hc=>(⟨hb.fz,hb.obj,.inl ⟨(hmay b hb.may).1,.of_cells hc,(hmay b hb.may).2⟩,hb.lt⟩:qaB (qet w M pl nt O W H) W H Φ s.obj b)) (hs.ts t av ht)
 ·intro id o ho
  have h:=hs.os id o ho
  exact⟨h.1,λb hb=>⟨(h.2 b hb).1,.inl ⟨(hmay b (h.2 b hb).2.1).1,h.1.dat b hb,(hmay b (h.2 b hb).2.1).2⟩,(h.2 b hb).2.2⟩⟩
theorem qg.moveK(hc:s.calm)(hs:qg P (qet w M pl nt O W H) s a W H Φ)(hm:W'.os=W.os/\W'.tape=W.tape/\W'.output=W.output)(hsz:W.heap.size<=W'.heap.size)(hsame:∀(b:Nat) (o:Go.Obj),¬O b->W.heap[b]? = some o->qjN o=true->W'.heap[b]? = some o)(hOH:∀b,O b->H b=none)(hO':∀b,O' b->O b\/W.heap.size<=b):
  qg P (qet w M pl nt O' W' H) s a W' H Φ:=by
 have hown:∀id o,s.obj id=some o->∀b∈(Φ id).fp,(M b\/w.heap.size<=b)/\¬O b/\b<W.heap.size:=by
  intro id o ho b hb
  have h:=(hs.os id o ho).2 b hb
  rcases h.2.1 with h1|h1
  ·exact⟨h1.1,h1.2.2,h.2.2⟩
  ·exact absurd h.2.2 (Nat.not_lt.2 h1)
 have hfp:∀id o,s.obj id=some o->∀b∈(Φ id).fp,W'.heap[b]? = W.heap[b]?:=by
  intro id o ho b hb
  obtain⟨o',e,e2⟩:=(hs.os id o ho).1.dat b hb
  rw[e,hsame _ _ (hown id o ho b hb).2.1 e e2]
 have hok':HOk H W':=by
  intro b c hb
  have hn:¬O b:=λh=>by rw[hOH b h]at hb;cases hb
  have e:=hs.hok b c hb
  cases c with
  |cells c=>obtain⟨t,f,e⟩:=e;exact⟨t,f,hsame _ _ hn e rfl⟩
  |map es n=>exact hsame _ _ hn e rfl
 obtain⟨C1,hC1⟩:∃C1:Ctx,C1=⟨W,λ_=>True,H,nt,lk pl,[],λ_=>none⟩:=⟨_,rfl⟩
 have h1:qg P C1 s a W H Φ:=by
  subst hC1
  exact⟨hs.defers,hs.size,FH.le_refl _,hs.hok,λb c hb=>.inl hb,jM.refl _ _,λt av ht=>qh.calm_ctx (by first|rfl|(rw[hC1];rfl)) (by first|rfl|(rw[hC1];rfl)) (hc t av ht) (hs.ts t av ht),λid o ho=>⟨(hs.os id o ho).1,λb hb=>⟨((hs.os id o ho).2 b hb).1,.inl trivial,((hs.os id o ho).2 b hb).2.2⟩⟩,hs.disj,hs.pins⟩
 have h2:=h1.changes (s':=s.killIf AV.isUpd) (ch:=λ_=>none) (F:=AV.isUpd) (w':=W') (H':=H) (λid x hx=>by cases hx) (λid=>rfl) (λt=>St.get_killIf _ _ _) (λid x hx=>by cases hx) (λ_ h=>h) (FH.le_refl _) hok' h1.hnew
  (by subst hC1;exact⟨hm.1,hm.2.1,hm.2.2,hsz,λk _ hk=>absurd trivial hk⟩) hsz (λj o' _ ho b hb=>⟨hfp j o' ho b hb,((hs.os j o' ho).2 b hb).1⟩) (λid x hx=>by cases hx) (λi j x y _ hx=>by cases hx)
 have h2:qg P C1 (s.killIf AV.isUpd) a W' H Φ:=h2
 refine⟨hs.defers,hs.size,FH.le_refl _,hok',λb c hb=>.inl hb,jM.refl _ _,?_,?_,hs.disj,hs.pins⟩
 ·intro t av ht
  have h3:=h2.ts t av (by rw[St.get_killIf,ht];simp only[Option.map_some,qc7 (hc t av ht)])
  exact qh.calm_ctx (by first|rfl|(rw[hC1];rfl)) (by first|rfl|(rw[hC1];rfl)) (hc t av ht) h3
 ·intro id o ho
  have h:=hs.os id o ho
  refine⟨h.1.frame (FH.le_refl _) (hfp id o ho),λb hb=>⟨(h.2 b hb).1,.inl ⟨(hown id o ho b hb).1,?_,λhh=>?_⟩,Nat.lt_of_lt_of_le (h.2 b hb).2.2 hsz⟩⟩
  ·obtain⟨o',e,e2⟩:=h.1.dat b hb
   exact⟨o',hsame _ _ (hown id o ho b hb).2.1 e e2,e2⟩
  ·rcases hO' b hh with h3|h3
   ·exact(hown id o ho b hb).2.1 h3
   ·have:=(hown id o ho b hb).2.2
    omega
def qfK(tl:List Nat)(ps:List jT)(d:PDens ps):St:=⟨tl.zip ((jW ps 0 d).map (·.2)),jF ps 0 d,none⟩
theorem qbH:∀{ps:List jT} {d:PDens ps} {m m':MDens ps},j3 ps (j3 ps d m) m'=j3 ps d m'
 |[],_,_,_=>rfl
 |.v _::ps,d,_,_=>by simp only[j3,qbH (ps:=ps)]
 |.r _::ps,d,_,_=>by simp only[j3,qbH (ps:=ps)]
 |.c _::ps,d,_,_=>by simp only[j3,qbH (ps:=ps)]
 |.m _::ps,d,_,_=>by simp only[j3,qbH (ps:=ps)]
 |.mr _ _::ps,d,_,_=>by simp only[j3,qbH (ps:=ps)]
 |.t _ _::ps,d,_,_=>by simp only[j3,qbH (ps:=ps)]
 |.gm _::ps,d,_,_=>by simp only[j3,qbH (ps:=ps)]
 |.cm _ _::ps,d,_,_=>by simp only[j3,qbH (ps:=ps)]
theorem qbI:∀{ps:List jT} {d:PDens ps},j3 ps d (qbK ps d)=d
 |[],_=>rfl
 |.v _::ps,d=>by simp only[j3,qbK,qbI (ps:=ps)]
 |.r _::ps,d=>by simp only[j3,qbK,qbI (ps:=ps)]
 |.c _::ps,d=>by simp only[j3,qbK,qbI (ps:=ps)]
 |.m _::ps,d=>by simp only[j3,qbK,qbI (ps:=ps)]
 |.mr _ _::ps,d=>by simp only[j3,qbK,qbI (ps:=ps)]
 |.t _ _::ps,d=>by simp only[j3,qbK,qbI (ps:=ps)]
 |.gm _::ps,d=>by simp only[j3,qbK,qbI (ps:=ps)]
 |.cm _ _::ps,d=>by simp only[j3,qbK,qbI (ps:=ps)]
theorem qbw:∀{ps:List jT} {d:PDens ps} {m:MDens ps},qbK ps (j3 ps d m)=m
 |[],_,_=>rfl
 |.v _::ps,d,m=>by simp only[j3,qbK];exact qbw (ps:=ps)
 |.r _::ps,d,m=>by simp only[j3,qbK];exact qbw (ps:=ps)
 |.c _::ps,d,m=>by simp only[j3,qbK];exact qbw (ps:=ps)
 |.m _::ps,d,m=>by simp only[j3,qbK,qbw (ps:=ps)]
 |.mr _ _::ps,d,m=>by simp only[j3,qbK,qbw (ps:=ps)]
 |.t _ _::ps,d,m=>by simp only[j3,qbK];exact qbw (ps:=ps)
 |.gm _::ps,d,m=>by simp only[j3,qbK];exact qbw (ps:=ps)
 |.cm _ _::ps,d,m=>by simp only[j3,qbK,qbw (ps:=ps)]
theorem qeQ(τ:Ty)(x:τ.den):qA τ τ x=some x:=by unfold qA;rw[dif_pos rfl]
theorem qaI:∀{ps:List jT} {d:PDens ps} (i:Nat),(∀x∈jF ps i d,pid i<=x.1)/\((jF ps i d).map (·.1)).Nodup
 |[],_,_=>⟨by simp[jF],by simp[jF]⟩
 |.v _::ps,d,i=>by
  obtain⟨h1,h2⟩:=qaI (ps:=ps) (d:=d.2) (i+1)
  exact⟨λx hx=>Nat.le_trans (Nat.le_of_lt (qan (Nat.lt_succ_self i))) (h1 x hx),h2⟩
 |.r _::ps,d,i=>by
  obtain⟨h1,h2⟩:=qaI (ps:=ps) (d:=d.2) (i+1)
  exact⟨λx hx=>Nat.le_trans (Nat.le_of_lt (qan (Nat.lt_succ_self i))) (h1 x hx),h2⟩
 |.c _::ps,d,i=>by
  obtain⟨h1,h2⟩:=qaI (ps:=ps) (d:=d.2) (i+1)
  exact⟨λx hx=>Nat.le_trans (Nat.le_of_lt (qan (Nat.lt_succ_self i))) (h1 x hx),h2⟩
 |.m _::ps,d,i=>by
  obtain⟨h1,h2⟩:=qaI (ps:=ps) (d:=d.2) (i+1)
  have hlt:pid i<pid (i+1):=qan (Nat.lt_add_one i)
  refine⟨λx hx=>?_,?_⟩
  ·rcases List.mem_cons.1 hx with rfl|hx
   ·exact Nat.le_refl _
   ·exact Nat.le_trans (Nat.le_of_lt hlt) (h1 x hx)
  ·simp only[jF,List.map_cons,List.nodup_cons]
   refine⟨λhm=>?_,h2⟩
   obtain⟨x,hx,e⟩:=List.mem_map.1 hm
   have:=h1 x hx
   omega
 |.mr _ _::ps,d,i=>by
  obtain⟨h1,h2⟩:=qaI (ps:=ps) (d:=d.2) (i+1)
  have hlt:pid i<pid (i+1):=qan (Nat.lt_add_one i)
  refine⟨λx hx=>?_,?_⟩
  ·rcases List.mem_cons.1 hx with rfl|hx
   ·exact Nat.le_refl _
   ·exact Nat.le_trans (Nat.le_of_lt hlt) (h1 x hx)
  ·simp only[jF,List.map_cons,List.nodup_cons]
   refine⟨λhm=>?_,h2⟩
   obtain⟨x,hx,e⟩:=List.mem_map.1 hm
   have:=h1 x hx
   omega
 |.t _ _::ps,d,i=>by
  obtain⟨h1,h2⟩:=qaI (ps:=ps) (d:=d.2) (i+1)
  have hlt:pid i<pid (i+1):=qan (Nat.lt_add_one i)
  refine⟨λx hx=>?_,?_⟩
  ·rcases List.mem_cons.1 hx with rfl|hx
   ·exact Nat.le_refl _
   ·exact Nat.le_trans (Nat.le_of_lt hlt) (h1 x hx)
  ·simp only[jF,List.map_cons,List.nodup_cons]
   refine⟨λhm=>?_,h2⟩
   obtain⟨x,hx,e⟩:=List.mem_map.1 hm
   have:=h1 x hx
   omega
 |.gm _::ps,d,i=>by
  obtain⟨h1,h2⟩:=qaI (ps:=ps) (d:=d.2) (i+1)
  have hlt:pid i<pid (i+1):=qan (Nat.lt_add_one i)
  refine⟨λx hx=>?_,?_⟩
  ·rcases List.mem_cons.1 hx with rfl|hx
   ·exact Nat.le_refl _
   ·exact Nat.le_trans (Nat.le_of_lt hlt) (h1 x hx)
  ·simp only[jF,List.map_cons,List.nodup_cons]
   refine⟨λhm=>?_,h2⟩
   obtain⟨x,hx,e⟩:=List.mem_map.1 hm
   have:=h1 x hx
   omega
 |.cm _ _::ps,d,i=>by
  obtain⟨h1,h2⟩:=qaI (ps:=ps) (d:=d.2) (i+1)
  have hlt:pid i<pid (i+1):=qan (Nat.lt_add_one i)
  refine⟨λx hx=>?_,?_⟩
  ·rcases List.mem_cons.1 hx with rfl|hx
   ·exact Nat.le_refl _
   ·exact Nat.le_trans (Nat.le_of_lt hlt) (h1 x hx)
  ·simp only[jF,List.map_cons,List.nodup_cons]
   refine⟨λhm=>?_,h2⟩
   obtain⟨x,hx,e⟩:=List.mem_map.1 hm
   have:=h1 x hx
   omega
theorem qa5(s:St):∀{ps:List jT} {d:PDens ps} {i:Nat},(∀id o,(id,some o)∈jF ps i d->s.obj id=some o)->jA s ps i=some (qbK ps d)
 |[],_,_,_=>rfl
 |.v _::ps,d,i,h=>qa5 s (ps:=ps) (d:=d.2) (i:=i+1) h
 |.r _::ps,d,i,h=>qa5 s (ps:=ps) (d:=d.2) (i:=i+1) h
 |.c _::ps,d,i,h=>qa5 s (ps:=ps) (d:=d.2) (i:=i+1) h
 |.m τ::ps,d,i,h=>by
  have h0:=h (pid i) ⟨false,τ,d.1⟩ List.mem_cons_self
  have h1:=qa5 s (ps:=ps) (d:=d.2) (i:=i+1) (λid o hm=>h id o (List.mem_cons_of_mem _ hm))
  simp only[jA,h0,cond_false,qeQ,h1,qbK]
 |.mr tid e::ps,d,i,h=>by
  have h0:=h (pid i) ⟨true,.list true tid e,d.1⟩ List.mem_cons_self
  have h1:=qa5 s (ps:=ps) (d:=d.2) (i:=i+1) (λid o hm=>h id o (List.mem_cons_of_mem _ hm))
  simp only[jA,h0,cond_true,qeQ,h1,qbK]
 |.t _ _::ps,d,i,h=>qa5 s (ps:=ps) (d:=d.2) (i:=i+1) (λid o hm=>h id o (List.mem_cons_of_mem _ hm))
 |.gm _::ps,d,i,h=>qa5 s (ps:=ps) (d:=d.2) (i:=i+1) (λid o hm=>h id o (List.mem_cons_of_mem _ hm))
 |.cm f τ::ps,d,i,h=>by
  have h0:=h (pid i) ⟨false,τ,d.1⟩ List.mem_cons_self
  have h1:=qa5 s (ps:=ps) (d:=d.2) (i:=i+1) (λid o hm=>h id o (List.mem_cons_of_mem _ hm))
  simp only[jA,h0,cond_false,qeQ,h1,qbK]
theorem qgT{tl:List Nat}{ps:List jT}{d:PDens ps}{id:Nat}{o:Obj}:(qfK tl ps d).obj id=some o↔(id,some o)∈jF ps 0 d:=by
 have hn:=(qaI (ps:=ps) (d:=d) 0).2
 show(lk (jF ps 0 d) id).join=some o↔_
 constructor
 ·intro h
  cases e:lk (jF ps 0 d) id with
  |none=>rw[e]at h;cases h
  |some x=>rw[e]at h;simp only[Option.join_some]at h;rw[<-h];exact qbC e
 ·intro h
  rw[qfn hn h]
  rfl
theorem qcq{C':Ctx}{s2:St}{Hf H2:FH}{Φ2:Nat->qB}(hle:Hf.le H2):∀{ps:List jT} {d0:PDens ps} {vs:List Value} {Φs:List qB} {md:MDens ps} (i:Nat),ps.all jT.noT=true->jP P w Hf ps d0 vs Φs->jA s2 ps i=some md->(∀x∈j9 ps Φs i,(Φ2 x.1).b=x.2.b/\(Φ2 x.1).hdr=x.2.hdr)->
  (∀id o,(id,some o)∈jF ps i (j3 ps d0 md)->s2.obj id=some o)/\
  (∀os:Nat->Option Obj,(∀id o,(id,some o)∈jF ps i (j3 ps d0 md)->os id=some o)->∀(j:Nat) (av:AV) (v:Value),((jW ps i (j3 ps d0 md)).map (·.2))[j]? = some av->vs[j]? = some v->qh P C' W H2 Φ2 os av v/\av.calm=true)
 |[],d0,vs,Φs,md,i,_,_,_,_=>⟨by simp[jF],by simp[jW]⟩
 |.v τ::ps,d0,vs,Φs,md,i,hnT,h,hom,hp=>by
  obtain⟨v,vs',φ,Φs',rfl,rfl,hfz,hφ,hv,h⟩:=h
  obtain⟨h1,h2⟩:=qcq hle (i+1) (by simpa[jT.noT]using hnT) h hom hp
  refine⟨h1,λos hos j av u hj hu=>?_⟩
  cases j with
  |zero=>
   simp only[jW,j3,List.map_cons,List.getElem?_cons_zero,Option.some.injEq]at hj hu
   subst hj;subst hu
   obtain⟨cs,e,hr⟩:=hv
   exact⟨⟨hfz,cs,e,qm.mono _ hle (by simp) hr⟩,rfl⟩
  |succ j=>exact h2 os hos j av u (by simpa[jW,j3]using hj) (by simpa using hu)
 |.r τ::ps,d0,vs,Φs,md,i,hnT,h,hom,hp=>by
  obtain⟨v,vs',φ,Φs',rfl,rfl,hfz,hφ,hv,h⟩:=h
  obtain⟨h1,h2⟩:=qcq hle (i+1) (by simpa[jT.noT]using hnT) h hom hp
  refine⟨h1,λos hos j av u hj hu=>?_⟩
  cases j with
  |zero=>
   simp only[jW,j3,List.map_cons,List.getElem?_cons_zero,Option.some.injEq]at hj hu
   subst hj;subst hu
   obtain⟨b,o,blk,e,hb,hr⟩:=hv
   exact⟨⟨hfz,b,o,blk,e,hle _ _ hb,qm.mono _ hle (by simp) hr⟩,rfl⟩
  |succ j=>exact h2 os hos j av u (by simpa[jW,j3]using hj) (by simpa using hu)
 |.c _::ps,d0,vs,Φs,md,i,hnT,h,hom,hp=>by
  obtain⟨v,vs',φ,Φs',rfl,rfl,hfz,hφ,hv,h⟩:=h
  obtain⟨h1,h2⟩:=qcq hle (i+1) (by simpa[jT.noT]using hnT) h hom hp
  refine⟨h1,λos hos j av u hj hu=>?_⟩
  cases j with
  |zero=>
   simp only[jW,j3,List.map_cons,List.getElem?_cons_zero,Option.some.injEq]at hj hu
   subst hj;subst hu
   exact⟨⟨#[],#[],hv,rfl,rfl⟩,rfl⟩
  |succ j=>exact h2 os hos j av u (by simpa[jW,j3]using hj) (by simpa using hu)
 |.m τ::ps,d0,vs,Φs,md,i,hnT,h,hom,hp=>by
  obtain⟨v,vs',φ,Φs',rfl,rfl,hv,_,h⟩:=h
  simp only[jA]at hom
  split at hom
  case h_2=>cases hom
  rename_i o ho
  obtain⟨row,σ,x0⟩:=o
  cases row with
  |true=>cases hom
  |false=>
  simp only[cond_false]at hom
  split at hom
  case h_2=>cases hom
  rename_i x d' hx hd'
  cases hom
  obtain⟨e1,hx⟩:=qf hx
  subst e1
  subst hx
  obtain⟨h1,h2⟩:=qcq hle (i+1) (by simpa[jT.noT]using hnT) h hd' (λx hx=>hp x (List.mem_cons_of_mem _ hx))
  have hb:=(hp (pid i,φ) List.mem_cons_self).1
  simp only at hb
  refine⟨λid o hm=>?_,λos hos j av u hj hu=>?_⟩
  ·rcases List.mem_cons.1 hm with e|hm
   ·cases e;exact ho
   ·exact h1 id o hm
  ·cases j with
   |zero=>
    simp only[jW,j3,List.map_cons,List.getElem?_cons_zero,Option.some.injEq]at hj hu
    subst hj;subst hu
    refine⟨⟨⟨false,σ,x⟩,⟨σ,x⟩,φ.b,0,hos _ _ List.mem_cons_self,rfl,qH _ _,?_,hv⟩,rfl⟩
    rw[<-hb]
    exact j6 _ _ _ _
   |succ j=>exact h2 os (λid o hm=>hos id o (List.mem_cons_of_mem _ hm)) j av u (by simpa[jW,j3]using hj) (by simpa using hu)
 |.mr tid e::ps,d0,vs,Φs,md,i,hnT,h,hom,hp=>by
  obtain⟨v,vs',φ,Φs',rfl,rfl,hv,_,h⟩:=h
  simp only[jA]at hom
  split at hom
  case h_2=>cases hom
  rename_i o ho
  obtain⟨row,σ,x0⟩:=o
  cases row with
  |false=>cases hom
  |true=>
  simp only[cond_true]at hom
  split at hom
  case h_2=>cases hom
  rename_i x d' hx hd'
  cases hom
  obtain⟨e1,hx⟩:=qf hx
  subst e1
  subst hx
  obtain⟨h1,h2⟩:=qcq hle (i+1) (by simpa[jT.noT]using hnT) h hd' (λx hx=>hp x (List.mem_cons_of_mem _ hx))
  have hb:=(hp (pid i,φ) List.mem_cons_self).2
  simp only at hb
  refine⟨λid o hm=>?_,λos hos j av u hj hu=>?_⟩
  ·rcases List.mem_cons.1 hm with e|hm
   ·cases e;exact ho
   ·exact h1 id o hm
  ·cases j with
   |zero=>
    simp only[jW,j3,List.map_cons,List.getElem?_cons_zero,Option.some.injEq]at hj hu
    subst hj;subst hu
    refine⟨⟨⟨true,.list true tid e,x⟩,⟨.list true tid e,x⟩,hos _ _ List.mem_cons_self,qH _ _,?_⟩,rfl⟩
    simp only[List.isEmpty_nil,Bool.and_self]
    rw[hb]
    exact hv
   |succ j=>exact h2 os (λid o hm=>hos id o (List.mem_cons_of_mem _ hm)) j av u (by simpa[jW,j3]using hj) (by simpa using hu)
 |.t _ _::_,_,_,_,_,_,hnT,_,_,_=>by simp[jT.noT]at hnT
 |.gm _::_,_,_,_,_,_,hnT,_,_,_=>by simp[jT.noT]at hnT
 |.cm f τ::ps,d0,vs,Φs,md,i,hnT,h,hom,hp=>by
  obtain⟨v,vs',φ,Φs',rfl,rfl,hv,_,h⟩:=h
  simp only[jA]at hom
  split at hom
  case h_2=>cases hom
  rename_i o ho
  obtain⟨row,σ,x0⟩:=o
  cases row with
  |true=>cases hom
  |false=>
  simp only[cond_false]at hom
  split at hom
  case h_2=>cases hom
  rename_i x d' hx hd'
  cases hom
  obtain⟨e1,hx⟩:=qf hx
  subst e1
  subst hx
  obtain⟨h1,h2⟩:=qcq hle (i+1) (by simpa[jT.noT]using hnT) h hd' (λx hx=>hp x (List.mem_cons_of_mem _ hx))
  have hb:=(hp (pid i,φ) List.mem_cons_self).1
  simp only at hb
  refine⟨λid o hm=>?_,λos hos j av u hj hu=>?_⟩
  ·rcases List.mem_cons.1 hm with e|hm
   ·cases e;exact ho
   ·exact h1 id o hm
  ·cases j with
   |zero=>
    simp only[jW,j3,List.map_cons,List.getElem?_cons_zero,Option.some.injEq]at hj hu
    subst hj;subst hu
    refine⟨⟨#[],#[.pointer (some ⟨φ.b,0,none⟩)],hv,rfl,_,[],rfl,⟨⟨false,σ,x⟩,⟨σ,x⟩,φ.b,0,hos _ _ List.mem_cons_self,rfl,qH _ _,?_,rfl⟩,rfl⟩,rfl⟩
    rw[<-hb]
    exact j6 _ _ _ _
   |succ j=>exact h2 os (λid o hm=>hos id o (List.mem_cons_of_mem _ hm)) j av u (by simpa[jW,j3]using hj) (by simpa using hu)
theorem lk_zip{β:Type}{t:Nat}{x:β}:∀{l:List Nat} {r:List β},lk (l.zip r) t=some x->∃j:Nat,l[j]? = some t/\r[j]? = some x
 |[],_,h=>by cases h
 |_::_,[],h=>by cases h
 |u::l,y::r,h=>by
  rw[List.zip_cons_cons,jQ]at h
  cases hb:Nat.beq u t with
  |true=>
   rw[hb]at h
   cases h
   obtain rfl:=Nat.eq_of_beq_eq_true hb
   exact⟨0,rfl,rfl⟩
  |false=>
   rw[hb]at h
   obtain⟨j,h1,h2⟩:=lk_zip h
   exact⟨j+1,by simpa using h1,by simpa using h2⟩
theorem qjP{C':Ctx}{s2:St}{a2 aε:Act}{tl:List Nat}{ps:List jT}{d0:PDens ps}{vs:List Value}{Φs:List qB}{md:MDens ps}{Hf H2:FH}{Φ2:Nat->qB}(hnT:ps.all jT.noT=true)(hargs:jP P w Hf ps d0 vs Φs)(hpin:C'.pin=lk (j9 ps Φs 0))(hpn:((j9 ps Φs 0).map (·.1)).Nodup)(hds:C'.ds=[])
  (hs:qg P C' s2 a2 W H2 Φ2) (hle:Hf.le H2) (hom:jA s2 ps 0=some md) (hsz:aε.tmps.size=C'.nt) (hae:aε.defers=[]) (hvs:vs=tl.map λt=>aε.tmps.getD t undef):
  qg P C' (qfK tl ps (j3 ps d0 md)) aε W H2 Φ2/\(qfK tl ps (j3 ps d0 md)).calm:=by
 have hp:∀x∈j9 ps Φs 0,(Φ2 x.1).b=x.2.b/\(Φ2 x.1).hdr=x.2.hdr:=λx hx=>hs.pins.1 x.1 x.2 (by rw[hpin];exact qfn hpn hx)
 obtain⟨h1,h2⟩:=qcq (C':=C') (W:=W) (Φ2:=Φ2) hle 0 hnT hargs hom hp
 have hsub:∀id o,(qfK tl ps (j3 ps d0 md)).obj id=some o->s2.obj id=some o:=λid o ho=>h1 id o (qgT.1 ho)
 have key:∀t av,(qfK tl ps (j3 ps d0 md)).get t=some av->qh P C' W H2 Φ2 (qfK tl ps (j3 ps d0 md)).obj av (aε.tmps.getD t undef)/\av.calm=true:=by
  intro t av ht
  obtain⟨j,e1,e2⟩:=lk_zip (show lk (tl.zip ((jW ps 0 (j3 ps d0 md)).map (·.2))) t=some av from ht)
  exact h2 _ (λid o hm=>qgT.2 hm) j av _ e2 (by rw[hvs,List.getElem?_map,e1];rfl)
 exact⟨⟨hae.trans hds.symm,hsz,hs.le,hs.hok,hs.hnew,hs.mod,λt av ht=>(key t av ht).1,λid o ho=>hs.os id o (hsub id o ho),λi j o o' hij hi hj=>hs.disj i j o o' hij (hsub i o hi) (hsub j o' hj),hs.pins⟩,λt av ht=>(key t av ht).2⟩
end
end Go.Vi
