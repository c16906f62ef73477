/- The abstract interpreter 'Vi', thirty-sixth part: the rounds of a range over a function. No condition beyond those typed in each theorem. -/
import Derived.Test.YtmlocmhkfnojbaaGreatVi35
namespace Go.Vi
open Go.RowKit
section
variable {P:Program} {C:cM} {aa:jB} {R:Type} {r:R} {s s':St} {a a':Act} {w w' W W':World} {H H':FH} {Φ aU:Nat->qH}
def AV.calm:AV->Bool
 |.d_ _ _ _ _ _=>false
 |.cons a b=>a.calm&&b.calm
 |.fn _ a b=>a.calm&&b.calm
 |.gh _ a=>a.calm
 |_=>true
theorem RD:∀{av:AV},av.calm=true->av.af AV.aH=av
 |.dead,_=>rfl
 |.val _ _,_=>rfl
 |.ref _ _,_=>rfl
 |.ptr _ _,_=>rfl
 |.view _ _,_=>rfl
 |.d_ _ _ _ _ _,h=>by cases h
 |.cut _ _ _ _,_=>rfl
 |.nil,_=>rfl
 |.cv _ _ _,_=>rfl
 |.gh _ a,h=>by
  simp only[AV.calm]at h
  simp only[AV.af,RD h]
 |.cons a b,h=>by
  simp only[AV.calm,Bool.and_eq_true]at h
  simp only[AV.af,RD h.1,RD h.2]
 |.fn f a b,h=>by
  simp only[AV.calm,Bool.and_eq_true]at h
  simp only[AV.af,RD h.1,RD h.2]
theorem RH:∀av:AV,(av.af AV.aH).calm=true
 |.dead=>rfl
 |.val _ _=>rfl
 |.ref _ _=>rfl
 |.ptr _ _=>rfl
 |.view _ _=>rfl
 |.d_ _ _ _ _ _=>rfl
 |.cut _ _ _ _=>rfl
 |.nil=>rfl
 |.cv _ _ _=>rfl
 |.gh _ a=>by simp only[AV.af,AV.calm,RH a]
 |.cons a b=>by simp only[AV.af,AV.calm,RH a,RH b,Bool.and_self]
 |.fn _ a b=>by simp only[AV.af,AV.calm,RH a,RH b,Bool.and_self]
def St.calm(s:St):Prop:=∀t av,s.get t=some av->av.calm=true
theorem qi.eN{C C':cM}{os:Nat->Option Obj}(hg:C'.gh=C.gh)(hp:C'.gQ=C.gQ):∀{av:AV} {v:Value},av.calm=true->qi P C w H Φ os av v->qi P C' w H Φ os av v
 |.dead,_,_,h=>h
 |.val _ _,_,_,h=>h
 |.ref _ _,_,_,h=>h
 |.ptr _ _,_,_,h=>h
 |.view _ _,_,_,h=>h
 |.d_ _ _ _ _ _,_,hc,_=>by cases hc
 |.cut _ _ _ _,_,_,h=>h
 |.fn _ _ _,_,hc,⟨vs,us,h1,h2,h3⟩=>by
  simp only[AV.calm,Bool.and_eq_true]at hc
  exact⟨vs,us,h1,qi.eN hg hp hc.1 h2,qi.eN hg hp hc.2 h3⟩
 |.nil,_,_,h=>h
 |.cv _ _ _,_,_,⟨b,cv,h1,h2⟩=>⟨b,cv,h1,by rw[hp];exact h2⟩
 |.gh _ _,_,hc,⟨u,h1,h2⟩=>⟨u,by rw[hg];exact h1,qi.eN hg hp (by simpa[AV.calm]using hc) h2⟩
 |.cons _ _,_,hc,⟨u,us,h1,h2,h3⟩=>by
  simp only[AV.calm,Bool.and_eq_true]at hc
  exact⟨u,us,h1,qi.eN hg hp hc.1 h2,qi.eN hg hp hc.2 h3⟩
def rT(w:World)(M:Nat->Prop)(pl:List (Nat×qH))(nt:Nat)(O:Nat->Prop)(W:World)(H:FH):cM:=⟨W,λb=>(M b\/w.heap.size<=b)/\AQ W b/\¬O b,H,nt,lk pl,[],λ_=>none⟩
variable {M O O':Nat->Prop} {pl:List (Nat×qH)} {nt:Nat}
theorem qh.GZ{W0:World}{H0:FH}(hW:w.heap.size<=W0.heap.size)(hO:∀b,O b->b<W0.heap.size)(hs:qh P (rT w M pl nt O W0 H0) s a W H Φ):qh P (rT w M pl nt O W H) s a W H Φ:=by
 have hmay:∀b,(rT w M pl nt O W0 H0).M0 b\/(rT w M pl nt O W0 H0).w0.heap.size<=b->(M b\/w.heap.size<=b)/\¬O b:=by
  rintro b (hb|hb)
  ·exact⟨hb.1,hb.2.2⟩
  ·have hb':W0.heap.size<=b:=hb
   exact⟨.inr (Nat.le_trans hW hb'),λh=>absurd (hO b h) (Nat.not_lt.2 hb')⟩
 refine⟨hs.defers,hs.size,FH.le_refl _,hs.hok,λb c hb=>.inl hb,jO.refl _ _,?_,?_,hs.aN,hs.pins⟩
 ·intro t av ht
  exact qi.ctx (C:=rT w M pl nt O W0 H0) (C':=rT w M pl nt O W H) rfl rfl (λb hb hc=>(⟨hb.fz,hb.obj,.inl ⟨(hmay b hb.may).1,.sS hc,(hmay b hb.may).2⟩,hb.lt⟩:ei (rT w M pl nt O W H) W H Φ s.obj b)) (hs.ts t av ht)
 ·intro id o ho
  have h:=hs.os id o ho
  exact⟨h.1,λb hb=>⟨(h.2 b hb).1,.inl ⟨(hmay b (h.2 b hb).2.1).1,h.1.dat b hb,(hmay b (h.2 b hb).2.1).2⟩,(h.2 b hb).2.2⟩⟩
theorem qh.U_(hc:s.calm)(hs:qh P (rT w M pl nt O W H) s a W H Φ)(hm:W'.os=W.os/\W'.tape=W.tape/\W'.output=W.output)(hsz:W.heap.size<=W'.heap.size)(hsame:∀(b:Nat) (o:Go.Obj),¬O b->W.heap[b]? = some o->mq o=true->W'.heap[b]? = some o)(hOH:∀b,O b->H b=none)(Sq:∀b,O' b->O b\/W.heap.size<=b):
  qh P (rT w M pl nt O' W' H) s a W' H Φ:=by
 have hown:∀id o,s.obj id=some o->∀b∈(Φ id).fp,(M b\/w.heap.size<=b)/\¬O b/\b<W.heap.size:=by
  intro id o ho b hb
  have h:=(hs.os id o ho).2 b hb
  rcases h.2.1 with h1|h1
  ·exact⟨h1.1,h1.2.2,h.2.2⟩
  ·exact absurd h.2.2 (Nat.not_lt.2 h1)
 have bl:∀id o,s.obj id=some o->∀b∈(Φ id).fp,W'.heap[b]? = W.heap[b]?:=by
  intro id o ho b hb
  obtain⟨o',e,e2⟩:=(hs.os id o ho).1.dat b hb
  rw[e,hsame _ _ (hown id o ho b hb).2.1 e e2]
 have cD:cI H W':=by
  intro b c hb
  have hn:¬O b:=λh=>by rw[hOH b h]at hb;cases hb
  have e:=hs.hok b c hb
  cases c with
  |cells c=>obtain⟨t,f,e⟩:=e;exact⟨t,f,hsame _ _ hn e rfl⟩
  |map es n=>exact hsame _ _ hn e rfl
 obtain⟨C1,Sv⟩:∃C1:cM,C1=⟨W,λ_=>True,H,nt,lk pl,[],λ_=>none⟩:=⟨_,rfl⟩
 have h1:qh P C1 s a W H Φ:=by
  subst Sv
  exact⟨hs.defers,hs.size,FH.le_refl _,hs.hok,λb c hb=>.inl hb,jO.refl _ _,λt av ht=>qi.eN (by first|rfl|(rw[Sv];rfl)) (by first|rfl|(rw[Sv];rfl)) (hc t av ht) (hs.ts t av ht),λid o ho=>⟨(hs.os id o ho).1,λb hb=>⟨((hs.os id o ho).2 b hb).1,.inl trivial,((hs.os id o ho).2 b hb).2.2⟩⟩,hs.aN,hs.pins⟩
 have h2:=h1.rH (s':=s.af AV.aH) (ch:=λ_=>none) (F:=AV.aH) (w':=W') (H':=H) (λid x hx=>by cases hx) (λid=>rfl) (λt=>St.aS _ _ _) (λid x hx=>by cases hx) (λ_ h=>h) (FH.le_refl _) cD h1.hnew
  (by subst Sv;exact⟨hm.1,hm.2.1,hm.2.2,hsz,λk _ hk=>absurd trivial hk⟩) hsz (λj o' _ ho b hb=>⟨bl j o' ho b hb,((hs.os j o' ho).2 b hb).1⟩) (λid x hx=>by cases hx) (λi j x y _ hx=>by cases hx)
 have h2:qh P C1 (s.af AV.aH) a W' H Φ:=h2
 refine⟨hs.defers,hs.size,FH.le_refl _,cD,λb c hb=>.inl hb,jO.refl _ _,?_,?_,hs.aN,hs.pins⟩
 ·intro t av ht
  have h3:=h2.ts t av (by rw[St.aS,ht];simp only[Option.map_some,RD (hc t av ht)])
  exact qi.eN (by first|rfl|(rw[Sv];rfl)) (by first|rfl|(rw[Sv];rfl)) (hc t av ht) h3
 ·intro id o ho
  have h:=hs.os id o ho
  refine⟨h.1.frame (FH.le_refl _) (bl id o ho),λb hb=>⟨(h.2 b hb).1,.inl ⟨(hown id o ho b hb).1,?_,λhh=>?_⟩,Nat.lt_of_lt_of_le (h.2 b hb).2.2 hsz⟩⟩
  ·obtain⟨o',e,e2⟩:=h.1.dat b hb
   exact⟨o',hsame _ _ (hown id o ho b hb).2.1 e e2,e2⟩
  ·rcases Sq b hh with h3|h3
   ·exact(hown id o ho b hb).2.1 h3
   ·have:=(hown id o ho b hb).2.2
    omega
def Mq(tl:List Nat)(ps:List j3)(d:aI ps):St:=⟨tl.zip ((jZ ps 0 d).map (·.2)),jG ps 0 d,none⟩
theorem HF:∀{ps:List j3} {d:aI ps} {m m':aV ps},j8 ps (j8 ps d m) m'=j8 ps d m'
 |[],_,_,_=>rfl
 |.v _::ps,d,_,_=>by simp only[j8,HF (ps:=ps)]
 |.r _::ps,d,_,_=>by simp only[j8,HF (ps:=ps)]
 |.c _::ps,d,_,_=>by simp only[j8,HF (ps:=ps)]
 |.m _::ps,d,_,_=>by simp only[j8,HF (ps:=ps)]
 |.mr _ _::ps,d,_,_=>by simp only[j8,HF (ps:=ps)]
 |.t _ _::ps,d,_,_=>by simp only[j8,HF (ps:=ps)]
 |.gm _::ps,d,_,_=>by simp only[j8,HF (ps:=ps)]
 |.cm _ _::ps,d,_,_=>by simp only[j8,HF (ps:=ps)]
theorem HE:∀{ps:List j3} {d:aI ps},j8 ps d (gJ ps d)=d
 |[],_=>rfl
 |.v _::ps,d=>by simp only[j8,gJ,HE (ps:=ps)]
 |.r _::ps,d=>by simp only[j8,gJ,HE (ps:=ps)]
 |.c _::ps,d=>by simp only[j8,gJ,HE (ps:=ps)]
 |.m _::ps,d=>by simp only[j8,gJ,HE (ps:=ps)]
 |.mr _ _::ps,d=>by simp only[j8,gJ,HE (ps:=ps)]
 |.t _ _::ps,d=>by simp only[j8,gJ,HE (ps:=ps)]
 |.gm _::ps,d=>by simp only[j8,gJ,HE (ps:=ps)]
 |.cm _ _::ps,d=>by simp only[j8,gJ,HE (ps:=ps)]
theorem Gk:∀{ps:List j3} {d:aI ps} {m:aV ps},gJ ps (j8 ps d m)=m
 |[],_,_=>rfl
 |.v _::ps,d,m=>by simp only[j8,gJ];exact Gk (ps:=ps)
 |.r _::ps,d,m=>by simp only[j8,gJ];exact Gk (ps:=ps)
 |.c _::ps,d,m=>by simp only[j8,gJ];exact Gk (ps:=ps)
 |.m _::ps,d,m=>by simp only[j8,gJ,Gk (ps:=ps)]
 |.mr _ _::ps,d,m=>by simp only[j8,gJ,Gk (ps:=ps)]
 |.t _ _::ps,d,m=>by simp only[j8,gJ];exact Gk (ps:=ps)
 |.gm _::ps,d,m=>by simp only[j8,gJ];exact Gk (ps:=ps)
 |.cm _ _::ps,d,m=>by simp only[j8,gJ,Gk (ps:=ps)]
theorem qfp(τ:Ty)(x:τ.den):qF τ τ x=some x:=by unfold qF;rw[dif_pos rfl]
theorem Gp:∀{ps:List j3} {d:aI ps} (i:Nat),(∀x∈jG ps i d,pid i<=x.1)/\((jG ps i d).map (·.1)).Nodup
 |[],_,_=>⟨by simp[jG],by simp[jG]⟩
 |.v _::ps,d,i=>by
  obtain⟨h1,h2⟩:=Gp (ps:=ps) (d:=d.2) (i+1)
  exact⟨λx hx=>Nat.le_trans (Nat.le_of_lt (jx (Nat.lt_succ_self i))) (h1 x hx),h2⟩
 |.r _::ps,d,i=>by
  obtain⟨h1,h2⟩:=Gp (ps:=ps) (d:=d.2) (i+1)
  exact⟨λx hx=>Nat.le_trans (Nat.le_of_lt (jx (Nat.lt_succ_self i))) (h1 x hx),h2⟩
 |.c _::ps,d,i=>by
  obtain⟨h1,h2⟩:=Gp (ps:=ps) (d:=d.2) (i+1)
  exact⟨λx hx=>Nat.le_trans (Nat.le_of_lt (jx (Nat.lt_succ_self i))) (h1 x hx),h2⟩
 |.m _::ps,d,i=>by
  obtain⟨h1,h2⟩:=Gp (ps:=ps) (d:=d.2) (i+1)
  have hlt:pid i<pid (i+1):=jx (Nat.lt_add_one i)
  refine⟨λx hx=>?_,?_⟩
  ·rcases List.mem_cons.1 hx with rfl|hx
   ·exact Nat.le_refl _
   ·exact Nat.le_trans (Nat.le_of_lt hlt) (h1 x hx)
  ·simp only[jG,List.map_cons,List.nodup_cons]
   refine⟨λhm=>?_,h2⟩
   obtain⟨x,hx,e⟩:=List.mem_map.1 hm
   have:=h1 x hx
   omega
 |.mr _ _::ps,d,i=>by
  obtain⟨h1,h2⟩:=Gp (ps:=ps) (d:=d.2) (i+1)
  have hlt:pid i<pid (i+1):=jx (Nat.lt_add_one i)
  refine⟨λx hx=>?_,?_⟩
  ·rcases List.mem_cons.1 hx with rfl|hx
   ·exact Nat.le_refl _
   ·exact Nat.le_trans (Nat.le_of_lt hlt) (h1 x hx)
  ·simp only[jG,List.map_cons,List.nodup_cons]
   refine⟨λhm=>?_,h2⟩
   obtain⟨x,hx,e⟩:=List.mem_map.1 hm
   have:=h1 x hx
   omega
 |.t _ _::ps,d,i=>by
  obtain⟨h1,h2⟩:=Gp (ps:=ps) (d:=d.2) (i+1)
  have hlt:pid i<pid (i+1):=jx (Nat.lt_add_one i)
  refine⟨λx hx=>?_,?_⟩
  ·rcases List.mem_cons.1 hx with rfl|hx
   ·exact Nat.le_refl _
   ·exact Nat.le_trans (Nat.le_of_lt hlt) (h1 x hx)
  ·simp only[jG,List.map_cons,List.nodup_cons]
   refine⟨λhm=>?_,h2⟩
   obtain⟨x,hx,e⟩:=List.mem_map.1 hm
   have:=h1 x hx
   omega
 |.gm _::ps,d,i=>by
  obtain⟨h1,h2⟩:=Gp (ps:=ps) (d:=d.2) (i+1)
  have hlt:pid i<pid (i+1):=jx (Nat.lt_add_one i)
  refine⟨λx hx=>?_,?_⟩
  ·rcases List.mem_cons.1 hx with rfl|hx
   ·exact Nat.le_refl _
   ·exact Nat.le_trans (Nat.le_of_lt hlt) (h1 x hx)
  ·simp only[jG,List.map_cons,List.nodup_cons]
   refine⟨λhm=>?_,h2⟩
   obtain⟨x,hx,e⟩:=List.mem_map.1 hm
   have:=h1 x hx
   omega
 |.cm _ _::ps,d,i=>by
  obtain⟨h1,h2⟩:=Gp (ps:=ps) (d:=d.2) (i+1)
  have hlt:pid i<pid (i+1):=jx (Nat.lt_add_one i)
  refine⟨λx hx=>?_,?_⟩
  ·rcases List.mem_cons.1 hx with rfl|hx
   ·exact Nat.le_refl _
   ·exact Nat.le_trans (Nat.le_of_lt hlt) (h1 x hx)
  ·simp only[jG,List.map_cons,List.nodup_cons]
   refine⟨λhm=>?_,h2⟩
   obtain⟨x,hx,e⟩:=List.mem_map.1 hm
   have:=h1 x hx
   omega
theorem Gt(s:St):∀{ps:List j3} {d:aI ps} {i:Nat},(∀id o,(id,some o)∈jG ps i d->s.obj id=some o)->jC s ps i=some (gJ ps d)
 |[],_,_,_=>rfl
 |.v _::ps,d,i,h=>Gt s (ps:=ps) (d:=d.2) (i:=i+1) h
 |.r _::ps,d,i,h=>Gt s (ps:=ps) (d:=d.2) (i:=i+1) h
 |.c _::ps,d,i,h=>Gt s (ps:=ps) (d:=d.2) (i:=i+1) h
 |.m τ::ps,d,i,h=>by
  have h0:=h (pid i) ⟨false,τ,d.1⟩ List.mem_cons_self
  have h1:=Gt s (ps:=ps) (d:=d.2) (i:=i+1) (λid o hm=>h id o (List.mem_cons_of_mem _ hm))
  simp only[jC,h0,cond_false,qfp,h1,gJ]
 |.mr tid e::ps,d,i,h=>by
  have h0:=h (pid i) ⟨true,.list true tid e,d.1⟩ List.mem_cons_self
  have h1:=Gt s (ps:=ps) (d:=d.2) (i:=i+1) (λid o hm=>h id o (List.mem_cons_of_mem _ hm))
  simp only[jC,h0,cond_true,qfp,h1,gJ]
 |.t _ _::ps,d,i,h=>Gt s (ps:=ps) (d:=d.2) (i:=i+1) (λid o hm=>h id o (List.mem_cons_of_mem _ hm))
 |.gm _::ps,d,i,h=>Gt s (ps:=ps) (d:=d.2) (i:=i+1) (λid o hm=>h id o (List.mem_cons_of_mem _ hm))
 |.cm f τ::ps,d,i,h=>by
  have h0:=h (pid i) ⟨false,τ,d.1⟩ List.mem_cons_self
  have h1:=Gt s (ps:=ps) (d:=d.2) (i:=i+1) (λid o hm=>h id o (List.mem_cons_of_mem _ hm))
  simp only[jC,h0,cond_false,qfp,h1,gJ]
theorem qhk{tl:List Nat}{ps:List j3}{d:aI ps}{id:Nat}{o:Obj}:(Mq tl ps d).obj id=some o↔(id,some o)∈jG ps 0 d:=by
 have hn:=(Gp (ps:=ps) (d:=d) 0).2
 show(lk (jG ps 0 d) id).join=some o↔_
 constructor
 ·intro h
  cases e:lk (jG ps 0 d) id with
  |none=>rw[e]at h;cases h
  |some x=>rw[e]at h;simp only[Option.join_some]at h;rw[<-h];exact sL e
 ·intro h
  rw[FW hn h]
  rfl
theorem MN{C':cM}{s2:St}{Hf H2:FH}{jj:Nat->qH}(hle:Hf.le H2):∀{ps:List j3} {d0:aI ps} {vs:List Value} {ai:List qH} {md:aV ps} (i:Nat),ps.all j3.x_=true->jU P w Hf ps d0 vs ai->jC s2 ps i=some md->(∀x∈dA ps ai i,(jj x.1).b=x.2.b/\(jj x.1).ax=x.2.ax)->
  (∀id o,(id,some o)∈jG ps i (j8 ps d0 md)->s2.obj id=some o)/\
  (∀os:Nat->Option Obj,(∀id o,(id,some o)∈jG ps i (j8 ps d0 md)->os id=some o)->∀(j:Nat) (av:AV) (v:Value),((jZ ps i (j8 ps d0 md)).map (·.2))[j]? = some av->vs[j]? = some v->qi P C' W H2 jj os av v/\av.calm=true)
 |[],d0,vs,ai,md,i,_,_,_,_=>⟨by simp[jG],by simp[jZ]⟩
 |.v τ::ps,d0,vs,ai,md,i,nE,h,eu,hp=>by
  obtain⟨v,vs',φ,ag,rfl,rfl,hfz,hφ,hv,h⟩:=h
  obtain⟨h1,h2⟩:=MN hle (i+1) (by simpa[j3.x_]using nE) h eu hp
  refine⟨h1,λos hos j av u hj hu=>?_⟩
  cases j with
  |zero=>
   simp only[jZ,j8,List.map_cons,List.getElem?_cons_zero,Option.some.injEq]at hj hu
   subst hj;subst hu
   obtain⟨cs,e,hr⟩:=hv
   exact⟨⟨hfz,cs,e,qm.mono _ hle (by simp) hr⟩,rfl⟩
  |succ j=>exact h2 os hos j av u (by simpa[jZ,j8]using hj) (by simpa using hu)
 |.r τ::ps,d0,vs,ai,md,i,nE,h,eu,hp=>by
  obtain⟨v,vs',φ,ag,rfl,rfl,hfz,hφ,hv,h⟩:=h
  obtain⟨h1,h2⟩:=MN hle (i+1) (by simpa[j3.x_]using nE) h eu hp
  refine⟨h1,λos hos j av u hj hu=>?_⟩
  cases j with
  |zero=>
   simp only[jZ,j8,List.map_cons,List.getElem?_cons_zero,Option.some.injEq]at hj hu
   subst hj;subst hu
   obtain⟨b,o,blk,e,hb,hr⟩:=hv
   exact⟨⟨hfz,b,o,blk,e,hle _ _ hb,qm.mono _ hle (by simp) hr⟩,rfl⟩
  |succ j=>exact h2 os hos j av u (by simpa[jZ,j8]using hj) (by simpa using hu)
 |.c _::ps,d0,vs,ai,md,i,nE,h,eu,hp=>by
  obtain⟨v,vs',φ,ag,rfl,rfl,hfz,hφ,hv,h⟩:=h
  obtain⟨h1,h2⟩:=MN hle (i+1) (by simpa[j3.x_]using nE) h eu hp
  refine⟨h1,λos hos j av u hj hu=>?_⟩
  cases j with
  |zero=>
   simp only[jZ,j8,List.map_cons,List.getElem?_cons_zero,Option.some.injEq]at hj hu
   subst hj;subst hu
   exact⟨⟨#[],#[],hv,rfl,rfl⟩,rfl⟩
  |succ j=>exact h2 os hos j av u (by simpa[jZ,j8]using hj) (by simpa using hu)
 |.m τ::ps,d0,vs,ai,md,i,nE,h,eu,hp=>by
  obtain⟨v,vs',φ,ag,rfl,rfl,hv,_,h⟩:=h
  simp only[jC]at eu
  split at eu
  case h_2=>cases eu
  rename_i o ho
  obtain⟨row,σ,x0⟩:=o
  cases row with
  |true=>cases eu
  |false=>
  simp only[cond_false]at eu
  split at eu
  case h_2=>cases eu
  rename_i x d' hx dK
  cases eu
  obtain⟨e1,hx⟩:=qg hx
  subst e1
  subst hx
  obtain⟨h1,h2⟩:=MN hle (i+1) (by simpa[j3.x_]using nE) h dK (λx hx=>hp x (List.mem_cons_of_mem _ hx))
  have hb:=(hp (pid i,φ) List.mem_cons_self).1
  simp only at hb
  refine⟨λid o hm=>?_,λos hos j av u hj hu=>?_⟩
  ·rcases List.mem_cons.1 hm with e|hm
   ·cases e;exact ho
   ·exact h1 id o hm
  ·cases j with
   |zero=>
    simp only[jZ,j8,List.map_cons,List.getElem?_cons_zero,Option.some.injEq]at hj hu
    subst hj;subst hu
    refine⟨⟨⟨false,σ,x⟩,⟨σ,x⟩,φ.b,0,hos _ _ List.mem_cons_self,rfl,qO _ _,?_,hv⟩,rfl⟩
    rw[<-hb]
    exact kV _ _ _ _
   |succ j=>exact h2 os (λid o hm=>hos id o (List.mem_cons_of_mem _ hm)) j av u (by simpa[jZ,j8]using hj) (by simpa using hu)
 |.mr tid e::ps,d0,vs,ai,md,i,nE,h,eu,hp=>by
  obtain⟨v,vs',φ,ag,rfl,rfl,hv,_,h⟩:=h
  simp only[jC]at eu
  split at eu
  case h_2=>cases eu
  rename_i o ho
  obtain⟨row,σ,x0⟩:=o
  cases row with
  |false=>cases eu
  |true=>
  simp only[cond_true]at eu
  split at eu
  case h_2=>cases eu
  rename_i x d' hx dK
  cases eu
  obtain⟨e1,hx⟩:=qg hx
  subst e1
  subst hx
  obtain⟨h1,h2⟩:=MN hle (i+1) (by simpa[j3.x_]using nE) h dK (λx hx=>hp x (List.mem_cons_of_mem _ hx))
  have hb:=(hp (pid i,φ) List.mem_cons_self).2
  simp only at hb
  refine⟨λid o hm=>?_,λos hos j av u hj hu=>?_⟩
  ·rcases List.mem_cons.1 hm with e|hm
   ·cases e;exact ho
   ·exact h1 id o hm
  ·cases j with
   |zero=>
    simp only[jZ,j8,List.map_cons,List.getElem?_cons_zero,Option.some.injEq]at hj hu
    subst hj;subst hu
    refine⟨⟨⟨true,.list true tid e,x⟩,⟨.list true tid e,x⟩,hos _ _ List.mem_cons_self,qO _ _,?_⟩,rfl⟩
    simp only[List.isEmpty_nil,Bool.and_self]
    rw[hb]
    exact hv
   |succ j=>exact h2 os (λid o hm=>hos id o (List.mem_cons_of_mem _ hm)) j av u (by simpa[jZ,j8]using hj) (by simpa using hu)
 |.t _ _::_,_,_,_,_,_,nE,_,_,_=>by simp[j3.x_]at nE
 |.gm _::_,_,_,_,_,_,nE,_,_,_=>by simp[j3.x_]at nE
 |.cm f τ::ps,d0,vs,ai,md,i,nE,h,eu,hp=>by
  obtain⟨v,vs',φ,ag,rfl,rfl,hv,_,h⟩:=h
  simp only[jC]at eu
  split at eu
  case h_2=>cases eu
  rename_i o ho
  obtain⟨row,σ,x0⟩:=o
  cases row with
  |true=>cases eu
  |false=>
  simp only[cond_false]at eu
  split at eu
  case h_2=>cases eu
  rename_i x d' hx dK
  cases eu
  obtain⟨e1,hx⟩:=qg hx
  subst e1
  subst hx
  obtain⟨h1,h2⟩:=MN hle (i+1) (by simpa[j3.x_]using nE) h dK (λx hx=>hp x (List.mem_cons_of_mem _ hx))
  have hb:=(hp (pid i,φ) List.mem_cons_self).1
  simp only at hb
  refine⟨λid o hm=>?_,λos hos j av u hj hu=>?_⟩
  ·rcases List.mem_cons.1 hm with e|hm
   ·cases e;exact ho
   ·exact h1 id o hm
  ·cases j with
   |zero=>
    simp only[jZ,j8,List.map_cons,List.getElem?_cons_zero,Option.some.injEq]at hj hu
    subst hj;subst hu
    refine⟨⟨#[],#[.pointer (some ⟨φ.b,0,none⟩)],hv,rfl,_,[],rfl,⟨⟨false,σ,x⟩,⟨σ,x⟩,φ.b,0,hos _ _ List.mem_cons_self,rfl,qO _ _,?_,rfl⟩,rfl⟩,rfl⟩
    rw[<-hb]
    exact kV _ _ _ _
   |succ j=>exact h2 os (λid o hm=>hos id o (List.mem_cons_of_mem _ hm)) j av u (by simpa[jZ,j8]using hj) (by simpa using hu)
theorem BN{β:Type}{t:Nat}{x:β}:∀{l:List Nat} {r:List β},lk (l.zip r) t=some x->∃j:Nat,l[j]? = some t/\r[j]? = some x
 |[],_,h=>by cases h
 |_::_,[],h=>by cases h
 |u::l,y::r,h=>by
  rw[List.zip_cons_cons,jW]at h
  cases hb:Nat.beq u t with
  |true=>
   rw[hb]at h
   cases h
   obtain rfl:=Nat.eq_of_beq_eq_true hb
   exact⟨0,rfl,rfl⟩
  |false=>
   rw[hb]at h
   obtain⟨j,h1,h2⟩:=BN h
   exact⟨j+1,by simpa using h1,by simpa using h2⟩
theorem qkm{C':cM}{s2:St}{a2 lz:Act}{tl:List Nat}{ps:List j3}{d0:aI ps}{vs:List Value}{ai:List qH}{md:aV ps}{Hf H2:FH}{jj:Nat->qH}(nE:ps.all j3.x_=true)(hargs:jU P w Hf ps d0 vs ai)(dN:C'.gQ=lk (dA ps ai 0))(uM:((dA ps ai 0).map (·.1)).Nodup)(hds:C'.ds=[])
  (hs:qh P C' s2 a2 W H2 jj) (hle:Hf.le H2) (eu:jC s2 ps 0=some md) (hsz:lz.tmps.size=C'.nt) (hae:lz.defers=[]) (hvs:vs=tl.map λt=>lz.tmps.getD t undef):
  qh P C' (Mq tl ps (j8 ps d0 md)) lz W H2 jj/\(Mq tl ps (j8 ps d0 md)).calm:=by
 have hp:∀x∈dA ps ai 0,(jj x.1).b=x.2.b/\(jj x.1).ax=x.2.ax:=λx hx=>hs.pins.1 x.1 x.2 (by rw[dN];exact FW uM hx)
 obtain⟨h1,h2⟩:=MN (C':=C') (W:=W) (jj:=jj) hle 0 nE hargs eu hp
 have hsub:∀id o,(Mq tl ps (j8 ps d0 md)).obj id=some o->s2.obj id=some o:=λid o ho=>h1 id o (qhk.1 ho)
 have key:∀t av,(Mq tl ps (j8 ps d0 md)).get t=some av->qi P C' W H2 jj (Mq tl ps (j8 ps d0 md)).obj av (lz.tmps.getD t undef)/\av.calm=true:=by
  intro t av ht
  obtain⟨j,e1,e2⟩:=BN (show lk (tl.zip ((jZ ps 0 (j8 ps d0 md)).map (·.2))) t=some av from ht)
  exact h2 _ (λid o hm=>qhk.2 hm) j av _ e2 (by rw[hvs,List.getElem?_map,e1];rfl)
 exact⟨⟨hae.trans hds.symm,hsz,hs.le,hs.hok,hs.hnew,hs.mod,λt av ht=>(key t av ht).1,λid o ho=>hs.os id o (hsub id o ho),λi j o o' hij hi hj=>hs.aN i j o o' hij (hsub i o hi) (hsub j o' hj),hs.pins⟩,λt av ht=>(key t av ht).2⟩
end
end Go.Vi
