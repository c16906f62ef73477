/- soonest, plain. No condition beyond those typed in each theorem. -/
import Derived.Test.YtmlocmhkfnojbaaGreatD5
namespace Go.Proofs.Tryz.V.Cv
open Go.Vi Go.Proofs Go.RowKit
set_option maxRecDepth 100000
theorem qjv{k:Pt}:∀{l:List (Pt×Pt)},k∉l.map (·.1)->ij k l=l
 |[],_=>rfl
 |x::l,h=>by
  simp only[List.map_cons,List.mem_cons,not_or]at h
  unfold ij
  rw[Mp (λe=>h.1 e.symm),cond_false,qjv h.2]
theorem RE{u:Pt×Pt}:∀{l:List (Pt×Pt)},(l.map (·.1)).Nodup->u∈l->l.Perm (u::ij u.1 l)
 |[],_,h=>by cases h
 |x::l,hn,h=>by
  simp only[List.map_cons,List.nodup_cons]at hn
  unfold ij
  rcases List.mem_cons.1 h with rfl|h
  ·rw[xS.2 rfl,cond_true,qjv hn.1]
  ·have hne:x.1≠u.1:=λe=>hn.1 (e▸List.mem_map.2 ⟨u,h,rfl⟩)
   rw[Mp hne,cond_false]
   exact((RE hn.2 h).cons x).trans (List.Perm.swap _ _ _)
theorem Uz{k:Pt}{l:List (Pt×Pt)}(h:(l.map (·.1)).Nodup):((ij k l).map (·.1)).Nodup:=by
 induction l with
 |nil=>exact h
 |cons x l ih=>
  simp only[List.map_cons,List.nodup_cons]at h
  unfold ij
  cases he:sj x.1 k with
  |true=>exact ih h.2
  |false=>
   simp only[cond_false,List.map_cons,List.nodup_cons]
   refine⟨λhm=>h.1 ?_,ih h.2⟩
   obtain⟨y,hy,e⟩:=List.mem_map.1 hm
   exact List.mem_map.2 ⟨y,(Bb.1 hy).1,e⟩
open Classical in
noncomputable def fU(to:Int)(s:Bool×Pt)(u:Pt×Pt):Bool×Pt:=if u.1.1=to then if s.1=false\/K u.2<K s.2 then(true,u.2)else s else s
theorem qmP{to:Int}{u v:Pt×Pt}(hu:cT 400 u.2)(hv:cT 400 v.2)(s:Bool×Pt):fU to (fU to s u) v=fU to (fU to s v) u:=by
 obtain⟨f,c⟩:=s
 have hinj:K u.2=K v.2->u.2=v.2:=λh=>xz hu hv (by omega) (by omega) h
 unfold fU
 by_cases h1:u.1.1=to
 ·by_cases h2:v.1.1=to
  ·simp only[h1,h2,if_true]
   cases f with
   |false=>
    simp only[true_or,if_true,Bool.true_eq_false,false_or]
    by_cases h3:K v.2<K u.2
    ·rw[if_pos h3,if_neg (by omega)]
    ·rw[if_neg h3]
     by_cases h4:K u.2<K v.2
     ·rw[if_pos h4]
     ·rw[if_neg h4,hinj (by omega)]
   |true=>
    simp only[Bool.true_eq_false,false_or]
    by_cases h3:K u.2<K c<;>by_cases h4:K v.2<K c<;>by_cases h5:K v.2<K u.2<;>by_cases h6:K u.2<K v.2<;>simp only[h3,h4,h5,h6,if_true,if_false,Bool.true_eq_false,false_or]<;>first|rfl|(exfalso;omega)|(rw[hinj (by omega)])
  ·simp only[h1,h2,if_true,if_false]
 ·simp only[h1,if_false]
theorem qoz{to:Int}{l:List (Pt×Pt)}(hn:(l.map (·.1)).Nodup)(hok:∀u∈l,cT 400 u.2){u:Pt×Pt}(hu:u∈l)(s:Bool×Pt):l.foldl (fU to) s=(ij u.1 l).foldl (fU to) (fU to s u):=by
 have:=List.Perm.foldl_eq' (f:=fU to) (RE hn hu) (λx hx y hy z=>qmP (hok x hx) (hok y hy) z) s
 rw[this]
 rfl
theorem qkf{R:Type}{l:List (Pt×Pt)}{k0:Option R}{k:Pt×Pt->Option R}{r:R}(h0:l=[]->k0=some r)(h:∀u∈l,k u=some r):Mm l k0 k=some r:=by
 unfold Mm
 cases l with
 |nil=>exact h0 rfl
 |cons x l=>exact Yz x List.mem_cons_self λu hu=>h u hu
theorem Ew{to:Int}:∀(m:Nat) {l:List (Pt×Pt)} {cur:Option (Pt×Pt)} {s:Bool×Pt},(l.map (·.1)).Nodup->(∀u∈l,cT 400 u.2)->cT 400 s.2->l.length<m->
  px m ((to,s.1,()),(s.2,((l,cur):List (XK×XK)×Option (XK×XK)),()),())=some (((l.foldl (fU to) s).1,()),((l.foldl (fU to) s).2,()),())
 |0,_,_,_,_,_,_,h=>by omega
 |m+1,l,cur,s,hn,hok,hs,hm=>by
  show Fv m (px m) to s.1 s.2 (l,cur)=_
  unfold Fv
  refine qkf (λe=>?_) λu hu=>?_
  ·have e:l=[]:=e
   subst e
   rfl
  have hu:u∈l:=hu
  simp only[dk]
  have xW:=hok u hu
  rw[qoz hn hok hu s]
  have hp:=RE hn hu
  have hlen:l.length=(ij u.1 l).length+1:=by rw[hp.length_eq];rfl
  have ih:∀s',cT 400 s'.2->px m ((to,s'.1,()),(s'.2,((ij u.1 l,some u):List (XK×XK)×Option (XK×XK)),()),())=some ((((ij u.1 l).foldl (fU to) s').1,()),(((ij u.1 l).foldl (fU to) s').2,()),()):=λs' hs'=>
   Ew m (Uz hn) (λv hv=>hok v (Bb.1 hv).1) hs' (by omega)
  obtain⟨f,c⟩:=s
  simp only at hs ⊢
  by_cases h1:u.1.1=to
  ·rw[show(u.1.1==to)=true from beq_iff_eq.2 h1,cond_true]
   cases f with
   |false=>
    have e:fU to (false,c) u=(true,u.2):=by unfold fU;rw[if_pos h1,if_pos (.inl rfl)]
    rw[e]
    exact ih (true,u.2) xW
   |true=>
    simp only[Bool.not_true,cond_false]
    rw[ki (xW.mono (by omega)) (hs.mono (by omega))]
    simp only[dk]
    by_cases hlt:K u.2<K c
    ·have e:fU to (true,c) u=(true,u.2):=by unfold fU;rw[if_pos h1,if_pos (.inr hlt)]
     rw[decide_eq_true ((Hj xW hs (by omega) (by omega)).2 hlt),cond_true,e]
     exact ih (true,u.2) xW
    ·have e:fU to (true,c) u=(true,c):=by unfold fU;rw[if_pos h1,if_neg (by simpa using hlt)]
     rw[decide_eq_false (λhh=>hlt ((Hj xW hs (by omega) (by omega)).1 hh)),cond_false,e]
     exact ih (true,c) hs
  ·have e:fU to (f,c) u=(f,c):=by unfold fU;rw[if_neg h1]
   rw[show(u.1.1==to)=false from beq_eq_false_iff_ne.2 h1,cond_false,e]
   exact ih (f,c) hs
theorem qhq{to:Int}:∀(l:List (Pt×Pt)) (s:Bool×Pt),((l.foldl (fU to) s).1=true↔s.1=true\/∃u∈l,u.1.1=to)/\((l.foldl (fU to) s).1=true->(s.1=true/\(l.foldl (fU to) s).2=s.2\/∃u∈l,u.1.1=to/\u.2=(l.foldl (fU to) s).2)/\(s.1=true->K (l.foldl (fU to) s).2<=K s.2)/\∀u∈l,u.1.1=to->K (l.foldl (fU to) s).2<=K u.2)
 |[],s=>by
  refine⟨by simp,λh=>⟨.inl ⟨h,rfl⟩,λ_=>Int.le_refl _,λu hu=>by cases hu⟩⟩
 |u::l,s=>by
  obtain⟨h1,h2⟩:=qhq l (fU to s u)
  rw[List.foldl_cons]
  obtain⟨r,hr⟩:∃r,r=l.foldl (fU to) (fU to s u):=⟨_,rfl⟩
  rw[<-hr]at h1 h2 ⊢
  have hs:(fU to s u).1=true↔s.1=true\/u.1.1=to:=by
   unfold fU
   split
   ·split
    ·simp[*]
    ·rename_i h3 h4
     simp only[not_or,Bool.not_eq_false]at h4
     simp[h4.1]
   ·rename_i h3
    simp[h3]
  refine⟨?_,λSd=>?_⟩
  ·rw[h1,hs]
   simp only[List.mem_cons,exists_eq_or_imp,or_assoc]
  ·obtain⟨k1,k2,k3⟩:=h2 Sd
   have hstep:(s.1=true/\fU to s u=s/\(u.1.1=to->K s.2<=K u.2))\/(u.1.1=to/\fU to s u=(true,u.2)/\(s.1=true->K u.2<=K s.2))\/(s.1=false/\u.1.1≠to/\fU to s u=s):=by
    unfold fU
    by_cases h3:u.1.1=to
    ·rw[if_pos h3]
     by_cases h4:s.1=false\/K u.2<K s.2
     ·rw[if_pos h4]
      refine .inr (.inl ⟨h3,rfl,λh5=>?_⟩)
      rcases h4 with h4|h4
      ·rw[h4]at h5;cases h5
      ·omega
     ·rw[if_neg h4]
      simp only[not_or,Bool.not_eq_false]at h4
      exact .inl ⟨h4.1,rfl,λ_=>by omega⟩
    ·rw[if_neg h3]
     cases hs1:s.1 with
     |true=>exact .inl ⟨rfl,rfl,λh=>absurd h h3⟩
     |false=>exact .inr (.inr ⟨rfl,h3,rfl⟩)
   rcases hstep with⟨a1,a2,a3⟩|⟨a1,a2,a3⟩|⟨a1,a2,a3⟩
   ·rw[a2]at k1 k2
    refine⟨?_,k2,λv hv Ny=>?_⟩
    ·rcases k1 with k1|⟨v,hv,fV⟩
     ·exact .inl k1
     ·exact .inr ⟨v,List.mem_cons_of_mem _ hv,fV⟩
    ·rcases List.mem_cons.1 hv with rfl|hv
     ·have:=k2 a1
      have:=a3 Ny
      omega
     ·exact k3 v hv Ny
   ·rw[a2]at k1 k2
    refine⟨.inr ?_,λh5=>?_,λv hv Ny=>?_⟩
    ·rcases k1 with⟨_,k1⟩|⟨v,hv,fV⟩
     ·exact⟨u,List.mem_cons_self,a1,k1.symm⟩
     ·exact⟨v,List.mem_cons_of_mem _ hv,fV⟩
    ·have:=k2 rfl
     have:=a3 h5
     simp only at *
     omega
    ·rcases List.mem_cons.1 hv with rfl|hv
     ·exact k2 rfl
     ·exact k3 v hv Ny
   ·rw[a3]at k1 k2
    refine⟨?_,k2,λv hv Ny=>?_⟩
    ·rcases k1 with k1|⟨v,hv,fV⟩
     ·exact .inl k1
     ·exact .inr ⟨v,List.mem_cons_of_mem _ hv,fV⟩
    ·rcases List.mem_cons.1 hv with rfl|hv
     ·exact absurd Ny a2
     ·exact k3 v hv Ny
section
variable {a:uT} {b:Pt} {U:List Pt} {W:Pt->List Way} {out:List (Pt×Pt)}
theorem Fin.mem(hF:Fin W b U out){u:Pt×Pt}(hu:u∈out):jE out u.1=some u.2:=qgc hF.keys hu
theorem YL{p c:Pt}:∀{l:List (Pt×Pt)},jE l p=some c->(p,c)∈l
 |[],h=>by cases h
 |x::l,h=>by
  unfold jE at h
  cases he:sj x.1 p with
  |true=>
   rw[he,cond_true]at h
   have:=xS.1 he
   cases h
   exact List.mem_cons.2 (.inl (by rw[<-this]))
  |false=>
   rw[he,cond_false]at h
   exact List.mem_cons_of_mem _ (YL h)
theorem qi0(hF:Fin W b U out)(hW:lB W b U):out.length<=400:=by
 have h:∀(l:List Pt) (U:List Pt),l.Nodup->(∀x∈l,x∈U)->l.length<=U.length:=by
  intro l
  induction l with
  |nil=>intro U _ _;simp
  |cons x l ih=>
   intro U hn hs
   rw[List.nodup_cons]at hn
   have hx:=hs x List.mem_cons_self
   have:=ih (U.erase x) hn.2 (λy hy=>(List.mem_erase_of_ne (λe=>hn.1 (by rw[<-e];exact hy))).2 (hs y (List.mem_cons_of_mem _ hy)))
   rw[List.length_erase_of_mem hx]at this
   have:0<U.length:=List.length_pos_of_mem hx
   simp only[List.length_cons]
   omega
 have:=h (out.map (·.1)) U hF.keys (λp hp=>by
  obtain⟨u,hu,rfl⟩:=List.mem_map.1 hp
  exact(hF.fP _ _ (hF.mem hu)).1)
 have hs:=hW.small
 rw[List.length_map]at this
 omega
theorem Ov(hW:lB (jP a) (a.2.2.2.1,0) U){out:List (Pt×Pt)}(hF:Fin (jP a) (a.2.2.2.1,0) U out)(Og:SB (a,())=some (((some out:Option (List (XK×XK))),()),()))(to:Int):
  ∃best is,g53 (a,to,())=some ((best,is,()),())/\(is=true->Fg out to best/\cT 400 best)/\(is=false->∀p c,jE out p=some c->p.1≠to):=by
 have hok:∀u∈out,cT 400 u.2:=λu hu=>(hF.fP _ _ (hF.mem hu)).2
 have hlen:=qi0 hF hW
 refine⟨(out.foldl (fU to) (false,(0,0))).2,(out.foldl (fU to) (false,(0,0))).1,?_,λh=>?_,λh p c hl hp=>?_⟩
 ·unfold g53 F53
  simp only[dk]
  rw[Og]
  simp only[dk]
  have:=Ew (to:=to) qk (l:=out) (cur:=none) (s:=(false,(0,0))) hF.keys hok (by unfold cT;simp only;omega) (by unfold qk;omega)
  simp only at this
  rw[this]
  rfl
 ·obtain⟨h1,h2⟩:=qhq (to:=to) out (false,(0,0))
  obtain⟨k1,_,k3⟩:=h2 h
  rcases k1 with⟨k1,_⟩|⟨u,hu,hut,hu2⟩
  ·cases k1
  ·rw[<-hu2]at k3 ⊢
   exact⟨⟨⟨u.1,hut,hF.mem hu⟩,λp c hl hp=>k3 (p,c) (YL hl) hp⟩,hok u hu⟩
 ·obtain⟨h1,_⟩:=qhq (to:=to) out (false,(0,0))
  have:=h1.2 (.inr ⟨(p,c),YL hl,hp⟩)
  rw[h]at this
  cases this
end
end Go.Proofs.Tryz.V.Cv
