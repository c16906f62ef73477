/- soonest, plain. No condition beyond those typed in each theorem. -/
import Derived.Test.YtmlocmhkfnojbaaD5
namespace Go.Proofs.Try.V.Cv
open Go.Vi Go.Proofs Go.RowKit
set_option maxRecDepth 100000
theorem qiZ{k:Pt}:∀{l:List (Pt×Pt)},k∉l.map (·.1)->qaP k l=l
 |[],_=>rfl
 |x::l,h=>by
  simp only[List.map_cons,List.mem_cons,not_or]at h
  unfold qaP
  rw[qfQ (λe=>h.1 e.symm),cond_false,qiZ h.2]
theorem qc5{u:Pt×Pt}:∀{l:List (Pt×Pt)},(l.map (·.1)).Nodup->u∈l->l.Perm (u::qaP u.1 l)
 |[],_,h=>by cases h
 |x::l,hn,h=>by
  simp only[List.map_cons,List.nodup_cons]at hn
  unfold qaP
  rcases List.mem_cons.1 h with rfl|h
  ·rw[qbM.2 rfl,cond_true,qiZ hn.1]
  ·have hne:x.1≠u.1:=λe=>hn.1 (e▸List.mem_map.2 ⟨u,h,rfl⟩)
   rw[qfQ hne,cond_false]
   exact((qc5 hn.2 h).cons x).trans (List.Perm.swap _ _ _)
theorem qdn{k:Pt}{l:List (Pt×Pt)}(h:(l.map (·.1)).Nodup):((qaP k l).map (·.1)).Nodup:=by
 induction l with
 |nil=>exact h
 |cons x l ih=>
  simp only[List.map_cons,List.nodup_cons]at h
  unfold qaP
  cases he:eqX x.1 k with
  |true=>exact ih h.2
  |false=>
   simp only[cond_false,List.map_cons,List.nodup_cons]
   refine⟨λhm=>h.1 ?_,ih h.2⟩
   obtain⟨y,hy,e⟩:=List.mem_map.1 hm
   exact List.mem_map.2 ⟨y,(qbi.1 hy).1,e⟩
open Classical in
noncomputable def qak(to:Int)(s:Bool×Pt)(u:Pt×Pt):Bool×Pt:=if u.1.1=to then if s.1=false\/K u.2<K s.2 then(true,u.2)else s else s
theorem qmh{to:Int}{u v:Pt×Pt}(hu:okC 400 u.2)(hv:okC 400 v.2)(s:Bool×Pt):qak to (qak to s u) v=qak to (qak to s v) u:=by
 obtain⟨f,c⟩:=s
 have hinj:K u.2=K v.2->u.2=v.2:=λh=>K_inj hu hv (by omega) (by omega) h
 unfold qak
 by_cases h1:u.1.1=to
 ·by_cases h2:v.1.1=to
  ·simp only[h1,h2,if_true]
   cases f with
   |false=>
    simp only[true_or,if_true,Bool.true_eq_false,false_or]
    by_cases h3:K v.2<K u.2
    ·rw[if_pos h3,if_neg (by omega)]
    ·rw[if_neg h3]
     by_cases h4:K u.2<K v.2
     ·rw[if_pos h4]
     ·rw[if_neg h4,hinj (by omega)]
   |true=>
    simp only[Bool.true_eq_false,false_or]
    by_cases h3:K u.2<K c<;>by_cases h4:K v.2<K c<;>by_cases h5:K v.2<K u.2<;>by_cases h6:K u.2<K v.2<;>simp only[h3,h4,h5,h6,if_true,if_false,Bool.true_eq_false,false_or]<;>first|rfl|(exfalso;omega)|(rw[hinj (by omega)])
  ·simp only[h1,h2,if_true,if_false]
 ·simp only[h1,if_false]
theorem qn9{to:Int}{l:List (Pt×Pt)}(hn:(l.map (·.1)).Nodup)(hok:∀u∈l,okC 400 u.2){u:Pt×Pt}(hu:u∈l)(s:Bool×Pt):l.foldl (qak to) s=(qaP u.1 l).foldl (qak to) (qak to s u):=by
 have:=List.Perm.foldl_eq' (f:=qak to) (qc5 hn hu) (λx hx y hy z=>qmh (hok x hx) (hok y hy) z) s
 rw[this]
 rfl
theorem qjH{R:Type}{l:List (Pt×Pt)}{k0:Option R}{k:Pt×Pt->Option R}{r:R}(h0:l=[]->k0=some r)(h:∀u∈l,k u=some r):qis l k0 k=some r:=by
 unfold qis
 cases l with
 |nil=>exact h0 rfl
 |cons x l=>exact qm3 x List.mem_cons_self λu hu=>h u hu
theorem L37_ok{to:Int}:∀(m:Nat) {l:List (Pt×Pt)} {cur:Option (Pt×Pt)} {s:Bool×Pt},(l.map (·.1)).Nodup->(∀u∈l,okC 400 u.2)->okC 400 s.2->l.length<m->
  L37_2 m ((to,s.1,()),(s.2,((l,cur):List (XK×XK)×Option (XK×XK)),()),())=some (((l.foldl (qak to) s).1,()),((l.foldl (qak to) s).2,()),())
 |0,_,_,_,_,_,_,h=>by omega
 |m+1,l,cur,s,hn,hok,hs,hm=>by
  show B37_2 m (L37_2 m) to s.1 s.2 (l,cur)=_
  unfold B37_2
  refine qjH (λe=>?_) λu hu=>?_
  ·have e:l=[]:=e
   subst e
   rfl
  have hu:u∈l:=hu
  simp only[dk]
  have oku:=hok u hu
  rw[qn9 hn hok hu s]
  have hp:=qc5 hn hu
  have hlen:l.length=(qaP u.1 l).length+1:=by rw[hp.length_eq];rfl
  have ih:∀s',okC 400 s'.2->L37_2 m ((to,s'.1,()),(s'.2,((qaP u.1 l,some u):List (XK×XK)×Option (XK×XK)),()),())=some ((((qaP u.1 l).foldl (qak to) s').1,()),(((qaP u.1 l).foldl (qak to) s').2,()),()):=λs' hs'=>
   L37_ok m (qdn hn) (λv hv=>hok v (qbi.1 hv).1) hs' (by omega)
  obtain⟨f,c⟩:=s
  simp only at hs ⊢
  by_cases h1:u.1.1=to
  ·rw[show(u.1.1==to)=true from beq_iff_eq.2 h1,cond_true]
   cases f with
   |false=>
    have e:qak to (false,c) u=(true,u.2):=by unfold qak;rw[if_pos h1,if_pos (.inl rfl)]
    rw[e]
    exact ih (true,u.2) oku
   |true=>
    simp only[Bool.not_true,cond_false]
    rw[g39_eq (oku.mono (by omega)) (hs.mono (by omega))]
    simp only[dk]
    by_cases hlt:K u.2<K c
    ·have e:qak to (true,c) u=(true,u.2):=by unfold qak;rw[if_pos h1,if_pos (.inr hlt)]
     rw[decide_eq_true ((qeb oku hs (by omega) (by omega)).2 hlt),cond_true,e]
     exact ih (true,u.2) oku
    ·have e:qak to (true,c) u=(true,c):=by unfold qak;rw[if_pos h1,if_neg (by simpa using hlt)]
     rw[decide_eq_false (λhh=>hlt ((qeb oku hs (by omega) (by omega)).1 hh)),cond_false,e]
     exact ih (true,c) hs
  ·have e:qak to (f,c) u=(f,c):=by unfold qak;rw[if_neg h1]
   rw[show(u.1.1==to)=false from beq_eq_false_iff_ne.2 h1,cond_false,e]
   exact ih (f,c) hs
theorem qgY{to:Int}:∀(l:List (Pt×Pt)) (s:Bool×Pt),((l.foldl (qak to) s).1=true↔s.1=true\/∃u∈l,u.1.1=to)/\((l.foldl (qak to) s).1=true->(s.1=true/\(l.foldl (qak to) s).2=s.2\/∃u∈l,u.1.1=to/\u.2=(l.foldl (qak to) s).2)/\(s.1=true->K (l.foldl (qak to) s).2<=K s.2)/\∀u∈l,u.1.1=to->K (l.foldl (qak to) s).2<=K u.2)
 |[],s=>by
  refine⟨by simp,λh=>⟨.inl ⟨h,rfl⟩,λ_=>Int.le_refl _,λu hu=>by cases hu⟩⟩
 |u::l,s=>by
  obtain⟨h1,h2⟩:=qgY l (qak to s u)
  rw[List.foldl_cons]
  obtain⟨r,hr⟩:∃r,r=l.foldl (qak to) (qak to s u):=⟨_,rfl⟩
  rw[<-hr]at h1 h2 ⊢
  have hs:(qak to s u).1=true↔s.1=true\/u.1.1=to:=by
   unfold qak
   split
   ·split
    ·simp[*]
    ·rename_i h3 h4
     simp only[not_or,Bool.not_eq_false]at h4
     simp[h4.1]
   ·rename_i h3
    simp[h3]
  refine⟨?_,λhrt=>?_⟩
  ·rw[h1,hs]
   simp only[List.mem_cons,exists_eq_or_imp,or_assoc]
  ·obtain⟨k1,k2,k3⟩:=h2 hrt
   have hstep:(s.1=true/\qak to s u=s/\(u.1.1=to->K s.2<=K u.2))\/(u.1.1=to/\qak to s u=(true,u.2)/\(s.1=true->K u.2<=K s.2))\/(s.1=false/\u.1.1≠to/\qak to s u=s):=by
    unfold qak
    by_cases h3:u.1.1=to
    ·rw[if_pos h3]
     by_cases h4:s.1=false\/K u.2<K s.2
     ·rw[if_pos h4]
      refine .inr (.inl ⟨h3,rfl,λh5=>?_⟩)
      rcases h4 with h4|h4
      ·rw[h4]at h5;cases h5
      ·omega
     ·rw[if_neg h4]
      simp only[not_or,Bool.not_eq_false]at h4
      exact .inl ⟨h4.1,rfl,λ_=>by omega⟩
    ·rw[if_neg h3]
     cases hs1:s.1 with
     |true=>exact .inl ⟨rfl,rfl,λh=>absurd h h3⟩
     |false=>exact .inr (.inr ⟨rfl,h3,rfl⟩)
   rcases hstep with⟨a1,a2,a3⟩|⟨a1,a2,a3⟩|⟨a1,a2,a3⟩
   ·rw[a2]at k1 k2
    refine⟨?_,k2,λv hv hvt=>?_⟩
    ·rcases k1 with k1|⟨v,hv,hv2⟩
     ·exact .inl k1
     ·exact .inr ⟨v,List.mem_cons_of_mem _ hv,hv2⟩
    ·rcases List.mem_cons.1 hv with rfl|hv
     ·have:=k2 a1
      have:=a3 hvt
      omega
     ·exact k3 v hv hvt
   ·rw[a2]at k1 k2
    refine⟨.inr ?_,λh5=>?_,λv hv hvt=>?_⟩
    ·rcases k1 with⟨_,k1⟩|⟨v,hv,hv2⟩
     ·exact⟨u,List.mem_cons_self,a1,k1.symm⟩
     ·exact⟨v,List.mem_cons_of_mem _ hv,hv2⟩
    ·have:=k2 rfl
     have:=a3 h5
     simp only at *
     omega
    ·rcases List.mem_cons.1 hv with rfl|hv
     ·exact k2 rfl
     ·exact k3 v hv hvt
   ·rw[a3]at k1 k2
    refine⟨?_,k2,λv hv hvt=>?_⟩
    ·rcases k1 with k1|⟨v,hv,hv2⟩
     ·exact .inl k1
     ·exact .inr ⟨v,List.mem_cons_of_mem _ hv,hv2⟩
    ·rcases List.mem_cons.1 hv with rfl|hv
     ·exact absurd hvt a2
     ·exact k3 v hv hvt
section
variable {a:Atl} {b:Pt} {U:List Pt} {W:Pt->List Way} {out:List (Pt×Pt)}
theorem Fin.mem(hF:Fin W b U out){u:Pt×Pt}(hu:u∈out):qX out u.1=some u.2:=qfH hF.keys hu
theorem qky{p c:Pt}:∀{l:List (Pt×Pt)},qX l p=some c->(p,c)∈l
 |[],h=>by cases h
 |x::l,h=>by
  unfold qX at h
  cases he:eqX x.1 p with
  |true=>
   rw[he,cond_true]at h
   have:=qbM.1 he
   cases h
   exact List.mem_cons.2 (.inl (by rw[<-this]))
  |false=>
   rw[he,cond_false]at h
   exact List.mem_cons_of_mem _ (qky h)
theorem qiq(hF:Fin W b U out)(hW:WOK W b U):out.length<=400:=by
 have h:∀(l:List Pt) (U:List Pt),l.Nodup->(∀x∈l,x∈U)->l.length<=U.length:=by
  intro l
  induction l with
  |nil=>intro U _ _;simp
  |cons x l ih=>
   intro U hn hs
   rw[List.nodup_cons]at hn
   have hx:=hs x List.mem_cons_self
   have:=ih (U.erase x) hn.2 (λy hy=>(List.mem_erase_of_ne (λe=>hn.1 (by rw[<-e];exact hy))).2 (hs y (List.mem_cons_of_mem _ hy)))
   rw[List.length_erase_of_mem hx]at this
   have:0<U.length:=List.length_pos_of_mem hx
   simp only[List.length_cons]
   omega
 have:=h (out.map (·.1)) U hF.keys (λp hp=>by
  obtain⟨u,hu,rfl⟩:=List.mem_map.1 hp
  exact(hF.bnd _ _ (hF.mem hu)).1)
 have hs:=hW.small
 rw[List.length_map]at this
 omega
theorem g37_ok(hW:WOK (qQ a) (a.2.2.2.1,0) U){out:List (Pt×Pt)}(hF:Fin (qQ a) (a.2.2.2.1,0) U out)(h54:g38 (a,())=some (((some out:Option (List (XK×XK))),()),()))(to:Int):
  ∃best is,g37 (a,to,())=some ((best,is,()),())/\(is=true->Best out to best/\okC 400 best)/\(is=false->∀p c,qX out p=some c->p.1≠to):=by
 have hok:∀u∈out,okC 400 u.2:=λu hu=>(hF.bnd _ _ (hF.mem hu)).2
 have hlen:=qiq hF hW
 refine⟨(out.foldl (qak to) (false,(0,0))).2,(out.foldl (qak to) (false,(0,0))).1,?_,λh=>?_,λh p c hl hp=>?_⟩
 ·unfold g37 F37
  simp only[dk]
  rw[h54]
  simp only[dk]
  have:=L37_ok (to:=to) qn (l:=out) (cur:=none) (s:=(false,(0,0))) hF.keys hok (by unfold okC;simp only;omega) (by unfold qn;omega)
  simp only at this
  rw[this]
  rfl
 ·obtain⟨h1,h2⟩:=qgY (to:=to) out (false,(0,0))
  obtain⟨k1,_,k3⟩:=h2 h
  rcases k1 with⟨k1,_⟩|⟨u,hu,hut,hu2⟩
  ·cases k1
  ·rw[<-hu2]at k3 ⊢
   exact⟨⟨⟨u.1,hut,hF.mem hu⟩,λp c hl hp=>k3 (p,c) (qky hl) hp⟩,hok u hu⟩
 ·obtain⟨h1,_⟩:=qgY (to:=to) out (false,(0,0))
  have:=h1.2 (.inr ⟨(p,c),qky hl,hp⟩)
  rw[h]at this
  cases this
end
end Go.Proofs.Try.V.Cv
