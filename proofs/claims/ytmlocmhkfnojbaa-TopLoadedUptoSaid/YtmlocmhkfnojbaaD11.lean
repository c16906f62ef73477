/- The convoy's arrivals, plain. No condition beyond those typed in each theorem. -/
import Derived.Test.YtmlocmhkfnojbaaD10
namespace Go.Proofs.Try.V.Cv
open Go.Vi Go.Proofs Go.RowKit
set_option maxRecDepth 100000
theorem aok{m:Map}{x:Lor}(hm:qcN m)(h5:m.1.length<=5)(h8:m.2.length<=8)(hx:qbz m x)(h60:x.2.2.2.2.1<=60):AOK (m,x) where
 towns:=⟨hm.1.1,h5⟩
 roads:=h8
 road r hr:=by
  obtain⟨a1,a2,a3,a4,a5,a6⟩:=hm.2.2 r hr
  exact⟨a1.1,a1.2,a2.1,a2.2,a3,a4.1,a4.2,a5.1,a5.2,a6.1,a6.2⟩
 start:=hx.2.2.1
 ready:=hx.2.2.2.1
 drive:=⟨hx.2.2.2.2.1.1,h60⟩
 rest:=hx.2.2.2.2.2
theorem L27_ok:∀(n N i:Nat) (o:List Int),i<=N->N<n+i->N<=1000000->o=(List.range i).map (λk:Nat=>(k:Int))->L27_2 n (((N:Int),(i:Int),()),(o,()),())=some ((),((List.range N).map (λk:Nat=>(k:Int)),()),())
 |0,_,_,_,h1,h2,_,_=>by omega
 |n+1,N,i,o,h1,h2,h3,ho=>by
  have e0:L27_2 (n+1) (((N:Int),(i:Int),()),(o,()),())=B27_2 n (L27_2 n) (N:Int) (i:Int) o:=rfl
  rw[e0]
  unfold B27_2
  by_cases h:i<N
  ·have hol:o.length=i:=by rw[ho];simp
   rw[decide_eq_true (by omega),cond_true,jR,if_pos (by simp only[List.length_cons,List.length_nil];omega),wi (by omega)]
   exact L27_ok n N (i+1) _ (by omega) (by omega) h3 (by rw[ho,List.range_succ,List.map_append];rfl)
  ·rw[decide_eq_false (by omega),cond_false]
   have:i=N:=by omega
   subst this
   rw[ho]
end Go.Proofs.Try.V.Cv
