/- The law of the opening, plain: its loops, and the law. No condition beyond those typed in each theorem. -/
import Derived.Test.YtmlocmhkfnojbaaGreatD12
namespace Go.Proofs.Tryz.V.Cv
open Go.Vi Go.Proofs Go.RowKit
set_option maxRecDepth 100000
abbrev Ent:=Int×(Int×(Int×(Int×Int)))
abbrev XV:=(List (Int×(Int×(Int×Bool))))×((List Int)×(List Int))
def bk(i:Nat):XV:=([],[0],List.replicate i 1)
def za(i:Nat):Ent:=(1,4,(i:Int),0,0)
def Ap:Nat->List (List Nat)
 |0=>[[]]
 |n+1=>Ap n++(Ap n).map (· ++ [n])
noncomputable def chk:Bool:=(List.range 7).all λn=>(Ap n).all λes=>match g10 (bk n,es.map za,1,())with
 |some ((r,e,()),())=>e==0&&r==es.map λi:Nat=>(i:Int)
 |none=>false
theorem OP:chk=true:=by kernel_rfl
theorem OG{n:Nat}(hn:n<=6){es:List Nat}(he:es∈Ap n):g10 (bk n,es.map za,1,())=some ((es.map (λi:Nat=>(i:Int)),0,()),()):=by
 have h:=OP
 unfold chk at h
 have h:=List.all_eq_true.1 (List.all_eq_true.1 h n (List.mem_range.2 (by omega))) es he
 split at h
 ·rename_i r e heq
  rw[Bool.and_eq_true,beq_iff_eq,beq_iff_eq]at h
  rw[heq,h.1,h.2]
 ·cases h
structure rO (o:Kl) (arr:List Int) (es:List Nat) (i:Nat):Prop where
 lt:∀j∈es,j<i
 sub:es∈Ap i
 len:es.length<=i
 uJ:∀j (h:j<o.1.length) (h2:j<arr.length),j<i->∃n f,g9 (o.1[j],o.2.1,())=some ((n,f,()),())/\f≠1/\(j∈es↔f=0/\arr[j]+n<=o.2.2.2.2)
theorem rO.nil(o:Kl)(arr:List Int):rO o arr [] 0:=⟨λj hj=>(by cases hj),List.mem_singleton.2 rfl,Nat.le_refl _,λj _ _ h=>by omega⟩
theorem xy{o:Kl}{arr:List Int}(oK:∀k∈o.1,kn.Small k)(hv:∀k∈o.1,kn.valid k=true)(yg:o.1.length<=6)(wW:arr.length=o.1.length)(hab:∀v∈arr,0<=v/\v<=3000000):∀(n i:Nat) (es:List Nat),i<=o.1.length->o.1.length<n+i->rO o arr es i->
  gF n ((o,(i:Int),()),(bk i,es.map za,arr,()),())=some (.inl ((true,()),(),()))\/∃es',gF n ((o,(i:Int),()),(bk i,es.map za,arr,()),())=some (.inr ((o,()),(bk o.1.length,es'.map za,arr,()),()))/\rO o arr es' o.1.length
 |0,i,_,h1,h2,_=>by omega
 |n+1,i,es,h1,h2,hE=>by
  have e0:gF (n+1) ((o,(i:Int),()),(bk i,es.map za,arr,()),())=FC n (gF n) o (i:Int) (bk i) (es.map za) arr:=rfl
  rw[e0]
  unfold FC
  have hel:=hE.len
  by_cases h:i<o.1.length
  ·rw[decide_eq_true (by omega),cond_true]
   have zB:(bk i).2.2.length=i:=by unfold bk;simp
   rw[jQ,if_pos (by rw[zB];simp only[List.length_cons,List.length_nil];omega),oC h,wi (by omega)]
   have hk:=List.getElem_mem h
   obtain⟨t,f,row,g,h9,h11,hb0⟩:=kn.jt.2.1 o.1[i] (oK _ hk) o.2.1
   obtain⟨hfg,hb⟩:=hb0 (hv _ hk)
   clear hb0
   have htot:=(kn.jt.2.2 o.1[i] (hv _ hk)).1
   have hbk:(((bk i).1,((bk i).2.1,((bk i).2.2++[(1:Int)]))):XV)=bk (i+1):=by
    unfold bk
    simp only
    rw[show([(1:Int)])=List.replicate 1 1 from rfl,List.replicate_append_replicate]
   rw[h9]
   simp only[dk,hbk]
   have Wv:i<arr.length:=by omega
   have hai:=hab arr[i] (List.getElem_mem Wv)
   have go:∀WV:List Nat,rO o arr WV (i+1)->(gF n ((o,((i+1:Nat):Int),()),(bk (i+1),WV.map za,arr,()),())=some (.inl ((true,()),(),()))\/∃es',gF n ((o,((i+1:Nat):Int),()),(bk (i+1),WV.map za,arr,()),())=some (.inr ((o,()),(bk o.1.length,es'.map za,arr,()),()))/\rO o arr es' o.1.length):=
    λWV h=>xy oK hv yg wW hab n (i+1) WV (by omega) (by omega) h
   have not:f≠1->¬(f=0/\arr[i]+t<=o.2.2.2.2)->rO o arr es (i+1):=λNY hf2=>⟨λj hj=>by have:=hE.lt j hj;omega,List.mem_append_left _ hE.sub,by omega,λj hj hj2 hji=>by
    rcases Nat.lt_or_ge j i with h5|h5
    ·exact hE.uJ j hj hj2 h5
    ·have:j=i:=by omega
     subst this
     exact⟨t,f,h9,NY,⟨λhm=>absurd (hE.lt j hm) (by omega),λh=>absurd h hf2⟩⟩⟩
   by_cases NY:f=1
   ·subst NY
    left
    rw[show((1:Int)==1)=true from rfl,cond_true,qln]
    rfl
   ·rw[show(f==1)=false from beq_eq_false_iff_ne.2 NY,cond_false]
    by_cases h0:f=0
    ·rw[show(f==0)=true from beq_iff_eq.2 h0,cond_true]
     obtain⟨b1,b2,b3⟩:=hb h0
     rw[kw (by omega) (by omega),oC Wv,wr (by omega) (by omega)]
     by_cases hle:arr[i]+t<=o.2.2.2.2
     ·rw[decide_eq_true hle,cond_true,jQ,if_pos (by simp only[List.length_map,List.length_cons,List.length_nil];omega)]
      have hes:es.map za++[((1:Int),(4:Int),(i:Int),(0:Int),(0:Int))]=(es++[i]).map za:=by
       rw[List.map_append]
       rfl
      rw[hes]
      refine go (es++[i]) ⟨λj hj=>?_,List.mem_append_right _ (List.mem_map.2 ⟨es,hE.sub,rfl⟩),by simp only[List.length_append,List.length_cons,List.length_nil];omega,λj hj hj2 hji=>?_⟩
      ·rcases List.mem_append.1 hj with h5|h5
       ·have:=hE.lt j h5;omega
       ·have:j=i:=by simpa using h5
        omega
      ·rcases Nat.lt_or_ge j i with h5|h5
       ·obtain⟨n',f',k1,k2,k3⟩:=hE.uJ j hj hj2 h5
        refine⟨n',f',k1,k2,?_⟩
        rw[<-k3,List.mem_append]
        exact⟨λh=>h.resolve_right (by simp;omega),.inl⟩
       ·have:j=i:=by omega
        subst this
        exact⟨t,f,h9,NY,⟨λ_=>⟨h0,hle⟩,λ_=>by simp⟩⟩
     ·rw[decide_eq_false hle,cond_false]
      exact go es (not NY (λh=>hle h.2))
    ·rw[show(f==0)=false from beq_eq_false_iff_ne.2 h0,cond_false]
     exact go es (not NY (λh=>h0 h.1))
  ·rw[decide_eq_false (by omega),cond_false]
   have:i=o.1.length:=by omega
   subst this
   exact .inr ⟨es,rfl,hE⟩
theorem xw{o:Kl}{arr:List Int}{rel:List Int}{N:Nat}(hN:N<=6)(hrl:rel.length<=6)(hr:∀v∈rel,0<=v/\v<N):∀(n i:Nat) (is:List Bool),i<=rel.length->rel.length<n+i->is.length=N->
  ∃Sb:List Bool,py n ((o,(i:Int),()),(is,arr,rel,()),())=some (.inr ((o,()),(Sb,arr,()),()))/\Sb.length=N/\∀j,j<N->(Sb[j]? = some true↔is[j]? = some true\/(j:Int)∈rel.drop i)
 |0,i,_,h1,h2,_=>by omega
 |n+1,i,is,h1,h2,hl=>by
  show ∃Sb,FA n (py n) o (i:Int) is arr rel=_/\_
  unfold FA
  by_cases h:i<rel.length
  ·have hv:=hr _ (List.getElem_mem h)
   have hvl:rel[i].toNat<is.length:=by omega
   have hgi:∀{R:Type} (z:Bool->Option R),qn is rel[i] z=z is[rel[i].toNat]:=λz=>by
    unfold qn
    rw[if_pos hv.1,List.getElem?_eq_getElem hvl]
   rw[decide_eq_true (by omega),cond_true]
   simp only[kw (show(0:Int)<=(i:Int) by omega) (show(i:Int)<(rel.length:Int) by omega),oC h]
   rw[decide_eq_false (by omega),cond_false,decide_eq_false (by omega),cond_false,kw hv.1 (by omega),hgi,wi (by omega)]
   obtain⟨Sb,e1,e2,e3⟩:=xw (o:=o) (arr:=arr) hN hrl hr n (i+1) (is.set rel[i].toNat true) (by omega) (by omega) (by simpa using hl)
   refine⟨Sb,e1,e2,λj hj=>?_⟩
   rw[e3 j hj,List.drop_eq_getElem_cons h,List.mem_cons,List.getElem?_set]
   by_cases hje:rel[i].toNat=j
   ·rw[if_pos hje]
    have hjl:j<is.length:=by omega
    constructor
    ·intro _
     exact .inr (.inl (by omega))
    ·intro _
     left
     rw[if_pos hvl]
   ·rw[if_neg hje]
    constructor
    ·rintro(h5|h5)
     ·exact .inl h5
     ·exact .inr (.inr h5)
    ·rintro(h5|h5|h5)
     ·exact .inl h5
     ·exact absurd (by omega) hje
     ·exact .inr h5
  ·rw[decide_eq_false (by omega),cond_false]
   have:i=rel.length:=by omega
   subst this
   exact⟨is,rfl,hl,λj _=>by simp⟩
theorem Il{k:bw}(hv:kn.valid k=true){p:Nat}(hp:p<k.1.length):0<=k.1[p].2.1/\k.1[p].2.1<=100:=by
 have:=((kn.jc k hv).each p k.1[p] (List.getElem?_eq_getElem hp)).2.1
 unfold kn.di at this
 simp only[Bool.and_eq_true,decide_eq_true_eq]at this
 omega
theorem xn{o:Kl}{i:Nat}(hi:i<o.1.length)(hv:kn.valid o.1[i]=true)(row f:Int)(is:List Bool)(arr:List Int):∀(n p:Nat) (all:Int),p<=o.1[i].1.length->o.1[i].1.length<n+p->all=((o.1[i].1.take p).map (·.2.1)).sum->0<=all->all<=100*p->
  mZ n ((o,(i:Int),row,f,all,(p:Int),()),(is,arr,()),())=some ((o,(i:Int),row,f,(o.1[i].1.map (·.2.1)).sum,()),(is,arr,()),())
 |0,p,_,h1,h2,_,_,_=>by omega
 |n+1,p,all,h1,h2,ha,h0,h3=>by
  have e0:mZ (n+1) ((o,(i:Int),row,f,all,(p:Int),()),(is,arr,()),())=Fy n (mZ n) o (i:Int) row f all (p:Int) is arr:=rfl
  rw[e0]
  unfold Fy
  have vA:=(kn.jt.2.2 o.1[i] hv).2.1
  simp only[oC hi]
  by_cases h:p<o.1[i].1.length
  ·have hm:=Il hv h
   rw[decide_eq_true (by omega),cond_true,oC h,wi (by omega),wr (by omega) (by omega)]
   refine xn hi hv row f is arr n (p+1) _ (by omega) (by omega) ?_ (by omega) (by omega)
   rw[List.take_succ_eq_append_getElem h,List.map_append,List.sum_append,<-ha]
   simp
  ·rw[decide_eq_false (by omega),cond_false]
   have:p=o.1[i].1.length:=by omega
   subst this
   rw[ha,List.take_length]
theorem xu{o:Kl}{arr:List Int}{is:List Bool}(oK:∀k∈o.1,kn.Small k)(hv:∀k∈o.1,kn.valid k=true)(yg:o.1.length<=6)(wW:arr.length=o.1.length)(hab:∀v∈arr,0<=v/\v<=3000000)(kE:is.length=o.1.length)
  {es:List Nat} (hE:rO o arr es o.1.length) (NP:∀j,j<o.1.length->(is[j]? = some true↔j∈es)):∀(n i:Nat),i<=o.1.length->100<n+i->m_ n ((o,(i:Int),()),(is,arr,()),())=some (.inr ((),(),()))
 |0,i,h1,h2=>by omega
 |n+1,i,h1,h2=>by
  have e0:m_ (n+1) ((o,(i:Int),()),(is,arr,()),())=Fz n (m_ n) o (i:Int) is arr:=rfl
  rw[e0]
  unfold Fz
  by_cases h:i<o.1.length
  ·have hk:=List.getElem_mem h
   have yu:i<arr.length:=by omega
   have We:i<is.length:=by omega
   obtain⟨t,f,row,g,h9,h11,hb0⟩:=kn.jt.2.1 o.1[i] (oK _ hk) o.2.1
   obtain⟨hfg,hb⟩:=hb0 (hv _ hk)
   clear hb0
   obtain⟨htot,vA,aaU⟩:=kn.jt.2.2 o.1[i] (hv _ hk)
   obtain⟨t',f',k9,k1,k2⟩:=hE.uJ i h yu h
   rw[h9]at k9
   simp only[Option.some.injEq,Prod.mk.injEq,and_true]at k9
   obtain⟨rfl,rfl⟩:=k9
   have hfg:f=g:=hfg.resolve_left k1
   subst hfg
   have hai:=hab arr[i] (List.getElem_mem yu)
   rw[decide_eq_true (by omega),cond_true,oC h,h11]
   simp only[dk]
   have SD:=xn h (hv _ hk) row f is arr n 0 0 (by omega) (by omega) rfl (by omega) (by omega)
   have abP:mZ n ((o,(i:Int),row,f,0,0,()),(is,arr,()),())=_:=SD
   rw[abP]
   simp only[dk,kw (show(0:Int)<=(i:Int) by omega) (show(i:Int)<(is.length:Int) by omega),kw (show(0:Int)<=(i:Int) by omega) (show(i:Int)<(arr.length:Int) by omega),oC We,oC yu,wi (show i<=100000000 by omega)]
   have ih:=xu oK hv yg wW hab kE hE NP n (i+1) (by omega) (by omega)
   have hie:=NP i h
   rw[List.getElem?_eq_getElem We,Option.some.injEq]at hie
   rw[<-aaU]
   cases Wa:is[i]with
   |true=>
    rw[Wa]at hie
    obtain⟨nF,hle⟩:=k2.1 (hie.1 rfl)
    subst nF
    obtain⟨b1,b2,b3⟩:=hb rfl
    rw[cond_true,show((0:Int) !=0)=false from rfl,cond_false,wr (by omega) (by omega),decide_eq_false (by omega),cond_false]
    simp only[Bool.not_true,cond_false]
    exact ih
   |false=>
    rw[Wa]at hie
    have hn:¬i∈es:=λhm=>by have:=hie.2 hm;cases this
    rw[cond_false]
    simp only[Bool.not_false,cond_true]
    by_cases nF:f=0
    ·subst nF
     obtain⟨b1,b2,b3⟩:=hb rfl
     have:¬(arr[i]+t<=o.2.2.2.2):=λhle=>hn (k2.2 ⟨rfl,hle⟩)
     rw[show((0:Int)==0)=true from rfl,cond_true,wr (by omega) (by omega),decide_eq_false (by omega),cond_false]
     exact ih
    ·rw[show(f==0)=false from beq_eq_false_iff_ne.2 nF,cond_false]
     exact ih
  ·rw[decide_eq_false (by omega),cond_false]
end Go.Proofs.Tryz.V.Cv
