/- The law of the opening, plain. No condition beyond those typed in each theorem. -/
import Derived.Test.YtmlocmhkfnojbaaGreatD11
import Derived.Test.YtmlocmhkfnojbaaGreatEx
import Derived.Test.YtmlocmhkfnojbaaGreatS08c
namespace Go.Proofs.Tryz.V.Cv
open Go.Vi Go.Proofs Go.RowKit
set_option maxRecDepth 100000
abbrev bw:=kn.bw
abbrev Kl:=(List bw)×(Int×(Int×(Int×Int)))
theorem OF(m:Map):g12 (m,())=some ((decide ((m.1.length:Int)>20\/(m.2.length:Int)>40),()),()):=by
 unfold g12 F12
 simp only
 by_cases h:(m.1.length:Int)>20
 ·rw[decide_eq_true h,cond_true,decide_eq_true (.inl h)]
 ·rw[decide_eq_false h,cond_false,decide_eq_decide.2 (show(m.2.length:Int)>40↔((m.1.length:Int)>20\/(m.2.length:Int)>40)from⟨.inr,λh'=>h'.resolve_left h⟩)]
theorem Lx{l:List nG}(hl:l.length<=1000000):∀(n i:Nat),i<=l.length->l.length<n+i->mX n ((l,(i:Int),()),(),())=some (.inl ((true,()),(),()))\/(mX n ((l,(i:Int),()),(),())=some (.inr ((),(),()))/\∀j (h:j<l.length),i<=j->¬(l[j].2.2.2.2.1>60/\l[j].2.2.2.2.1<=500))
 |0,i,h1,h2=>by omega
 |n+1,i,h1,h2=>by
  have e0:mX (n+1) ((l,(i:Int),()),(),())=QE n (mX n) l (i:Int):=rfl
  rw[e0]
  unfold QE
  by_cases h:i<l.length
  ·rw[decide_eq_true (by omega),cond_true,oC h,wi (by omega)]
   have go:¬(l[i].2.2.2.2.1>60/\l[i].2.2.2.2.1<=500)->mX n ((l,((i+1:Nat):Int),()),(),())=some (.inl ((true,()),(),()))\/(mX n ((l,((i+1:Nat):Int),()),(),())=some (.inr ((),(),()))/\∀j (h:j<l.length),i<=j->¬(l[j].2.2.2.2.1>60/\l[j].2.2.2.2.1<=500)):=λhn=>
    (Lx hl n (i+1) (by omega) (by omega)).imp_right λ⟨e3,e4⟩=>⟨e3,λj hj hij=>by
     rcases Nat.lt_or_ge i j with h5|h5
     ·exact e4 j hj h5
     ·have:j=i:=by omega
      subst this
      exact hn⟩
   by_cases a1:l[i].2.2.2.2.1>60
   ·rw[decide_eq_true a1,cond_true,oC h]
    by_cases a2:l[i].2.2.2.2.1<=500
    ·rw[decide_eq_true a2,cond_true]
     exact .inl rfl
    ·rw[decide_eq_false a2,cond_false]
     exact go (λh=>a2 h.2)
   ·rw[decide_eq_false a1,cond_false]
    exact go (λh=>a1 h.1)
  ·rw[decide_eq_false (by omega),cond_false]
   exact .inr ⟨rfl,λj hj hij=>by omega⟩
theorem WK(m:Map)(l:List nG):g4 (m,l,())=some ((true,()),())\/(g4 (m,l,())=some ((false,()),())/\m.1.length<=5/\m.2.length<=8/\l.length<=12/\∀x∈l,¬(x.2.2.2.2.1>60/\x.2.2.2.2.1<=500)):=by
 unfold g4 F4
 simp only
 rw[OF]
 simp only[dk]
 by_cases a0:(m.1.length:Int)>20\/(m.2.length:Int)>40
 ·rw[decide_eq_true a0];exact .inl rfl
 rw[decide_eq_false a0,cond_false]
 by_cases a1:(m.1.length:Int)>5
 ·rw[decide_eq_true a1];exact .inl rfl
 rw[decide_eq_false a1,cond_false]
 by_cases a2:(m.2.length:Int)>8
 ·rw[decide_eq_true a2];exact .inl rfl
 rw[decide_eq_false a2,cond_false]
 by_cases a3:(l.length:Int)>12
 ·rw[decide_eq_true a3];exact .inl rfl
 rw[decide_eq_false a3,cond_false]
 have:=Lx (l:=l) (by omega) qk 0 (by omega) (by unfold qk;omega)
 rcases this with hc|⟨hc,hall⟩
 ·have hc':mX qk ((l,0,()),(),())=_:=hc
  rw[hc']
  exact .inl rfl
 ·have hc':mX qk ((l,0,()),(),())=_:=hc
  rw[hc']
  refine .inr ⟨rfl,by omega,by omega,by omega,λx hx=>?_⟩
  obtain⟨j,hj,rfl⟩:=List.getElem_of_mem hx
  exact hall j hj (Nat.zero_le _)
theorem WD{m:Map}(h1:m.1.length<=5)(h2:m.2.length<=8):g8 (m,())=some ((m,()),()):=by
 unfold g8 F8
 simp only
 have q1:∀{R:Type} (z:Option R),qo ((([]:List Bool).length:Int)+m.1.length) z=z:=λz=>by rw[jQ,if_pos (by simp only[List.length_nil];omega)]
 have q2:∀{R:Type} (z:Option R),qo ((([]:List nN).length:Int)+m.2.length) z=z:=λz=>by rw[jQ,if_pos (by simp only[List.length_nil];omega)]
 simp only[q1,q2,Gn,Gh,Gg,List.nil_append]
theorem EL{l:List nG}{m:Map}{o:Kl}(oK:∀k∈o.1,kn.Small k)(yg:o.1.length<=100):∀(n i:Nat),i<=o.1.length->o.1.length<n+i->rN n ((l,m,o,(i:Int),()),(),())=some (.inl ((true,()),(),()))\/(rN n ((l,m,o,(i:Int),()),(),())=some (.inr ((l,m,o,()),(),()))/\∀j (h:j<o.1.length),i<=j->kn.valid o.1[j]=true)
 |0,i,h1,h2=>by omega
 |n+1,i,h1,h2=>by
  have e0:rN (n+1) ((l,m,o,(i:Int),()),(),())=QH n (rN n) l m o (i:Int):=rfl
  rw[e0]
  unfold QH
  by_cases h:i<o.1.length
  ·rw[decide_eq_true (by omega),cond_true,oC h,wi (by omega)]
   have hg:g6 (o.1[i],())=some ((cond (kn.valid o.1[i]) 0 80,()),()):=kn.jt.1 _ (oK _ (List.getElem_mem h))
   rw[hg]
   simp only[dk]
   cases hv:kn.valid o.1[i]with
   |false=>
    left
    rw[cond_false,show((80:Int) !=0)=true from rfl,cond_true,qln]
    rfl
   |true=>
    rw[cond_true,show((0:Int) !=0)=false from rfl,cond_false]
    exact(EL oK yg n (i+1) (by omega) (by omega)).imp_right λ⟨e3,e4⟩=>⟨e3,λj hj hij=>by
     rcases Nat.lt_or_ge i j with h5|h5
     ·exact e4 j hj h5
     ·have:j=i:=by omega
      subst this
      exact hv⟩
  ·rw[decide_eq_false (by omega),cond_false]
   exact .inr ⟨rfl,λj hj hij=>by omega⟩
end Go.Proofs.Tryz.V.Cv
