/- The law of the loads, plain. No condition beyond those typed in each theorem. -/
import Derived.Test.YtmlocmhkfnojbaaE3
import Derived.Test.YtmlocmhkfnojbaaS08p
namespace Go.Proofs.Try.V.Cv
open Go.Vi Go.Proofs Go.RowKit
set_option maxRecDepth 100000
abbrev Kit:=L08.Kit
abbrev Haul:=Kit×(Int×(Int×Int))
theorem g11_eq(m:Map):g11 (m,())=some ((decide ((m.1.length:Int)>20\/(m.2.length:Int)>40),()),()):=by
 unfold g11 F11
 simp only
 by_cases h:(m.1.length:Int)>20
 ·rw[decide_eq_true h,cond_true,decide_eq_true (.inl h)]
 ·rw[decide_eq_false h,cond_false,decide_eq_decide.2 (show(m.2.length:Int)>40↔((m.1.length:Int)>20\/(m.2.length:Int)>40)from⟨.inr,λh'=>h'.resolve_left h⟩)]
theorem L4_ok{l:List Lor}(hl:l.length<=1000000):∀(n i:Nat),i<=l.length->l.length<n+i->L4_4 n ((l,(i:Int),()),(),())=some (.inl ((true,()),(),()))\/(L4_4 n ((l,(i:Int),()),(),())=some (.inr ((),(),()))/\∀j (h:j<l.length),i<=j->¬(l[j].2.2.2.2.1>60/\l[j].2.2.2.2.1<=500))
 |0,i,h1,h2=>by omega
 |n+1,i,h1,h2=>by
  have e0:L4_4 (n+1) ((l,(i:Int),()),(),())=B4_4 n (L4_4 n) l (i:Int):=rfl
  rw[e0]
  unfold B4_4
  by_cases h:i<l.length
  ·rw[decide_eq_true (by omega),cond_true,qbD h,wi (by omega)]
   have go:¬(l[i].2.2.2.2.1>60/\l[i].2.2.2.2.1<=500)->L4_4 n ((l,((i+1:Nat):Int),()),(),())=some (.inl ((true,()),(),()))\/(L4_4 n ((l,((i+1:Nat):Int),()),(),())=some (.inr ((),(),()))/\∀j (h:j<l.length),i<=j->¬(l[j].2.2.2.2.1>60/\l[j].2.2.2.2.1<=500)):=λhn=>
    (L4_ok hl n (i+1) (by omega) (by omega)).imp_right λ⟨e3,e4⟩=>⟨e3,λj hj hij=>by
     rcases Nat.lt_or_ge i j with h5|h5
     ·exact e4 j hj h5
     ·have:j=i:=by omega
      subst this
      exact hn⟩
   by_cases a1:l[i].2.2.2.2.1>60
   ·rw[decide_eq_true a1,cond_true,qbD h]
    by_cases a2:l[i].2.2.2.2.1<=500
    ·rw[decide_eq_true a2,cond_true]
     exact .inl rfl
    ·rw[decide_eq_false a2,cond_false]
     exact go (λh=>a2 h.2)
   ·rw[decide_eq_false a1,cond_false]
    exact go (λh=>a1 h.1)
  ·rw[decide_eq_false (by omega),cond_false]
   exact .inr ⟨rfl,λj hj hij=>by omega⟩
theorem g4_eq(m:Map)(l:List Lor):g4 (m,l,())=some ((true,()),())\/(g4 (m,l,())=some ((false,()),())/\m.1.length<=5/\m.2.length<=8/\l.length<=12/\∀x∈l,¬(x.2.2.2.2.1>60/\x.2.2.2.2.1<=500)):=by
 unfold g4 F4
 simp only
 rw[g11_eq]
 simp only[dk]
 by_cases a0:(m.1.length:Int)>20\/(m.2.length:Int)>40
 ·rw[decide_eq_true a0];exact .inl rfl
 rw[decide_eq_false a0,cond_false]
 by_cases a1:(m.1.length:Int)>5
 ·rw[decide_eq_true a1];exact .inl rfl
 rw[decide_eq_false a1,cond_false]
 by_cases a2:(m.2.length:Int)>8
 ·rw[decide_eq_true a2];exact .inl rfl
 rw[decide_eq_false a2,cond_false]
 by_cases a3:(l.length:Int)>12
 ·rw[decide_eq_true a3];exact .inl rfl
 rw[decide_eq_false a3,cond_false]
 have:=L4_ok (l:=l) (by omega) qn 0 (by omega) (by unfold qn;omega)
 rcases this with hc|⟨hc,hall⟩
 ·have hc':L4_4 qn ((l,0,()),(),())=_:=hc
  rw[hc']
  exact .inl rfl
 ·have hc':L4_4 qn ((l,0,()),(),())=_:=hc
  rw[hc']
  refine .inr ⟨rfl,by omega,by omega,by omega,λx hx=>?_⟩
  obtain⟨j,hj,rfl⟩:=List.getElem_of_mem hx
  exact hall j hj (Nat.zero_le _)
theorem g7_eq{m:Map}(h1:m.1.length<=5)(h2:m.2.length<=8):g7 (m,())=some ((m,()),()):=by
 unfold g7 F7
 simp only
 have q1:∀{R:Type} (z:Option R),ql ((([]:List Bool).length:Int)+m.1.length) z=z:=λz=>by rw[jR,if_pos (by simp only[List.length_nil];omega)]
 have q2:∀{R:Type} (z:Option R),ql ((([]:List qb6).length:Int)+m.2.length) z=z:=λz=>by rw[jR,if_pos (by simp only[List.length_nil];omega)]
 simp only[q1,q2,qbs,qaf,qag,List.nil_append]
theorem L3_4_ok{m:Map}{l:Lor}{h:Haul}(hk:h.1.1.length<=12):∀(n i:Nat),i<=h.1.1.length->h.1.1.length<n+i->L3_4 n (((i:Int),()),(m,l,h,()),())=some (.inl ((true,()),(),()))\/(L3_4 n (((i:Int),()),(m,l,h,()),())=some (.inr ((),(m,l,h,()),()))/\∀j (hj:j<h.1.1.length),i<=j->h.1.1[j].2.2.2.length<=20)
 |0,i,h1,h2=>by omega
 |n+1,i,h1,h2=>by
  have e0:L3_4 (n+1) (((i:Int),()),(m,l,h,()),())=B3_4 n (L3_4 n) (i:Int) m l h:=rfl
  rw[e0]
  unfold B3_4
  by_cases hi:i<h.1.1.length
  ·rw[decide_eq_true (by omega),cond_true,qbD hi,wi (by omega)]
   by_cases a1:(h.1.1[i].2.2.2.length:Int)>20
   ·rw[decide_eq_true a1,cond_true,qkR]
    exact .inl rfl
   ·rw[decide_eq_false a1,cond_false]
    exact(L3_4_ok hk n (i+1) (by omega) (by omega)).imp_right λ⟨e3,e4⟩=>⟨e3,λj hj hij=>by
     rcases Nat.lt_or_ge i j with h5|h5
     ·exact e4 j hj h5
     ·have:j=i:=by omega
      subst this
      omega⟩
  ·rw[decide_eq_false (by omega),cond_false]
   exact .inr ⟨rfl,λj hj hij=>by omega⟩
theorem L3_9_ok{m:Map}{l:Lor}{h:Haul}(hk:h.1.2.2.length<=10):∀(n i:Nat),i<=h.1.2.2.length->h.1.2.2.length<n+i->L3_9 n (((i:Int),()),(m,l,h,()),())=some (.inl ((true,()),(),()))\/(L3_9 n (((i:Int),()),(m,l,h,()),())=some (.inr ((),(m,l,h,()),()))/\∀j (hj:j<h.1.2.2.length),i<=j->h.1.2.2[j].length<=30)
 |0,i,h1,h2=>by omega
 |n+1,i,h1,h2=>by
  have e0:L3_9 (n+1) (((i:Int),()),(m,l,h,()),())=B3_9 n (L3_9 n) (i:Int) m l h:=rfl
  rw[e0]
  unfold B3_9
  by_cases hi:i<h.1.2.2.length
  ·rw[decide_eq_true (by omega),cond_true,qbD hi,wi (by omega)]
   by_cases a1:(h.1.2.2[i].length:Int)>30
   ·rw[decide_eq_true a1,cond_true,qkR]
    exact .inl rfl
   ·rw[decide_eq_false a1,cond_false]
    exact(L3_9_ok hk n (i+1) (by omega) (by omega)).imp_right λ⟨e3,e4⟩=>⟨e3,λj hj hij=>by
     rcases Nat.lt_or_ge i j with h5|h5
     ·exact e4 j hj h5
     ·have:j=i:=by omega
      subst this
      omega⟩
  ·rw[decide_eq_false (by omega),cond_false]
   exact .inr ⟨rfl,λj hj hij=>by omega⟩
theorem qnB:∀(l:List (List Int)),(∀v∈l,v.length<=30)->l.flatten.length<=30*l.length
 |[],_=>by simp
 |v::l,h=>by
  have h1:=h v List.mem_cons_self
  have h2:=qnB l (λw hw=>h w (List.mem_cons_of_mem _ hw))
  rw[List.flatten_cons,List.length_append,List.length_cons]
  omega
theorem qnN{k:Kit}(h1:k.1.length<=12)(h2:k.2.2.length<=10)(h3:∀p∈k.1,p.2.2.2.length<=20)(h4:∀v∈k.2.2,v.length<=30):L08.Small k where
 parts:=by omega
 needs p hp:=by have:=h3 p hp;omega
 vans:=by omega
 van v hv:=by have:=h4 v hv;omega
 flat:=by have:=qnB k.2.2 h4;omega
theorem g8_ok{m:Map}(h5:m.1.length<=5)(h8:m.2.length<=8){y:Lor}(h60:¬(y.2.2.2.2.1>60/\y.2.2.2.2.1<=500))(to:Int):∃(j:List Leg) (f:Int),g8 (m,y,to,())=some ((j,f,()),())/\
  (f=0->qcN m/\qbz m y/\(0<=to/\to<m.1.length)/\g22 ((m,y),to,())=some ((j,true,()),())/\j.length<=29/\∃p' n',p'.1=to/\∀x,qhQ x y->qfX m x (y.2.2.1,0) y.2.2.2.1 j p' n'):=by
 obtain⟨e,he,h0⟩:=g21_eq (m:=m) (by omega) (by omega) (l:=[y]) (by simp) to
 unfold g8 F8
 simp only
 rw[he]
 simp only[dk]
 by_cases a1:e=0
 ·subst a1
  obtain⟨hm,_,hx,ht⟩:=h0 rfl
  have hy:qbz m y:=hx y (by simp)
  have hA:AOK (m,y):=aok hm h5 h8 hy (by have:=hy.2.2.2.2.1;omega)
  rw[show((0:Int) !=0)=false from rfl,cond_false]
  rcases g22_ok hA to with⟨out,best,r,hF,hB,hr,h22⟩|⟨_,h22⟩
  ·refine⟨r,0,by rw[h22];rfl,λ_=>⟨hm,hy,ht,h22,qjl hA hF hB hr,?_⟩⟩
   obtain⟨t,p',n',e1,e2,e3⟩:=qnu hA 401 hA.start_mem hr
   rw[List.nil_append]at e1
   subst e1
   exact⟨p',n',e2,e3⟩
  ·rw[h22]
   exact⟨_,3,rfl,λh=>by cases h⟩
 ·rw[show(e !=0)=true by simpa using a1,cond_true]
  exact⟨_,e,rfl,λh=>absurd h a1⟩
theorem L3_29_ok{packed:List (List Int)}{j:List Leg}{w:Int}{l:Lor}{h:Haul}{q:Map}{ls:List Lor}{i:Nat}{v:List Int}(hv:packed[i]? = some v)(hr:∀p∈v,0<=p/\p<(h.1.1.length:Int))(hw:∀x∈h.1.1,1<=x.1/\x.1<=1000000)(h16:v.length<=16):∀(rest pre:List Int) (n:Nat) (x:Lor),v=pre++rest->rest.length<n->0<=x.2.1->x.2.1<=1000000*pre.length->
  L3_29 n ((packed,j,w,(i:Int),(pre.length:Int),()),(l,h,q,ls,x,()),())=some (.inr ((packed,j,w,(i:Int),()),(l,h,q,ls,(x.1,(x.2.1+L08.loadOf h.1.1 rest,x.2.2)),()),()))/\0<=L08.loadOf h.1.1 rest
 |[],pre,n,x,he,hn,_,_=>by
  obtain⟨n,rfl⟩:∃k,n=k+1:=⟨n-1,by omega⟩
  refine⟨?_,Int.le_refl _⟩
  show B3_29 n (L3_29 n) packed j w (i:Int) (pre.length:Int) l h q ls x=_
  unfold B3_29
  rw[gI hv,decide_eq_false (by rw[he,List.append_nil];omega),cond_false]
  show _=some (Sum.inr (_,(l,h,q,ls,(x.1,x.2.1+0,x.2.2),()),()))
  rw[Int.add_zero]
 |p::rest,pre,n,x,he,hn,h0,hb=>by
  obtain⟨n,rfl⟩:∃k,n=k+1:=⟨n-1,by omega⟩
  rw[List.length_cons]at hn
  have hp:=hr p (by rw[he];simp)
  have hi:p.toNat<h.1.1.length:=by omega
  have hwp:=hw _ (List.getElem_mem hi)
  have hat:v[pre.length]? = some p:=by rw[he];simp
  have hlen:v.length=pre.length+(rest.length+1):=by rw[he];simp
  have hpart:h.1.1[p.toNat]? = some h.1.1[p.toNat]:=List.getElem?_eq_getElem hi
  have hgp:∀{R:Type} (z:L08.Part->Option R),qs h.1.1 p z=z h.1.1[p.toNat]:=λz=>by
   have:=gI hpart z
   rw[show((p.toNat:Nat):Int)=p by omega]at this
   exact this
  obtain⟨next,hge⟩:=L3_29_ok (j:=j) (w:=w) (l:=l) (q:=q) (ls:=ls) hv hr hw h16 rest (pre++[p]) n (x.1,(x.2.1+h.1.1[p.toNat].1,x.2.2)) (by rw[he,List.append_assoc];rfl) (by omega) (by simp only;omega) (by simp only[List.length_append,List.length_cons,List.length_nil];omega)
  have hload:L08.loadOf h.1.1 (p::rest)=h.1.1[p.toNat].1+L08.loadOf h.1.1 rest:=by
   show(match h.1.1[p.toNat]? with|some x=>x.1|none=>0)+_=_
   rw[hpart]
  rw[hload]
  refine⟨?_,by omega⟩
  show B3_29 n (L3_29 n) packed j w (i:Int) (pre.length:Int) l h q ls x=_
  unfold B3_29
  simp only[gI hv,gI hat]
  rw[decide_eq_true (by omega),cond_true,decide_eq_false (by omega),cond_false,decide_eq_false (by omega),cond_false,hgp,wi (by omega),wr (by omega) (by omega)]
  rw[show((pre++[p]).length:Int)=((pre.length+1:Nat):Int) by simp]at next
  rw[next]
  simp only[Int.add_assoc]
end Go.Proofs.Try.V.Cv
