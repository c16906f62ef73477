/- The program's queue and comparisons, plain. No condition beyond those typed in each theorem. -/
import Derived.Test.YtmlocmhkfnojbaaGreatD3
import Derived.Test.YtmlocmhkfnojbaaGreatFn2
namespace Go.Proofs.Tryz.V.Cv
open Go.Vi Go.Proofs Go.RowKit
set_option maxRecDepth 100000
theorem fu(k:Nat)(h:k<=1000000):∃n,qk=n+k:=⟨qk-k,by unfold qk;omega⟩
theorem wr{x:Int}(h1: -4611686018427387904<=x)(h2:x<=4611686018427387904):IntKind.wrap .i64 x=x:=by
 rw[IntKind.wrap_i64];omega
theorem Om(x y:Int):g76 ([x,y],())=some ((Hs.oE x y,()),()):=by
 unfold g76 F76
 obtain⟨n,e⟩:=fu 3 (by omega)
 rw[e]
 by_cases hx:x=0
 ·subst hx
  by_cases hy:y=0
  ·subst hy
   simp[pc,xA,qn,qa,fD,Hs.oE,wr]
  ·have hy2:(y !=0)=true:=by simpa using hy
   simp[pc,xA,qn,qa,fD,Hs.oE,wr,hy2]
 ·have hx2:(x !=0)=true:=by simpa using hx
  simp[pc,xA,qn,qa,fD,Hs.oE,hx,hx2]
theorem ki{c d:Pt}(hc:cT 100000 c)(hd:cT 100000 d):Ln (c,d,())=some ((Hs.oE (c.1-d.1) (c.2-d.2),()),()):=by
 unfold cT at hc hd
 unfold Ln F55
 simp only
 rw[wr (by omega) (by omega),wr (by omega) (by omega),Om]
 rfl
theorem Hj{n m:Nat}{c d:Pt}(h1:cT n c)(h2:cT m d)(hn:n<=999999)(hm:m<=999999):Hs.oE (c.1-d.1) (c.2-d.2)<0↔K c<K d:=by
 rw[ace h1 h2 hn hm,Hs.kY]
 omega
theorem YE{n m:Nat}{c d:Pt}(h1:cT n c)(h2:cT m d)(hn:n<=999999)(hm:m<=999999):Hs.oE (c.1-d.1) (c.2-d.2)<=0↔K c<=K d:=by
 have:=Hj h2 h1 hm hn
 unfold cT at h1 h2
 unfold Hs.oE K at *
 split<;>omega
def Ky(x:bG):Prop:=cT 100000 x.2
theorem Mv{R:Type}{l:List bG}{i:Int}(h0:0<=i)(h:i<l.length)(k:bG->Option R):qn l i k=k (gs l i.toNat):=by
 unfold qn
 rw[if_pos h0,Lm (by omega)]
theorem kw{R:Type}{i:Int}{n:Nat}(h0:0<=i)(h:i<n)(k:Option R):bx i n k=k:=by
 unfold bx
 rw[if_pos ⟨h0,h⟩]
theorem BA{l:List bG}(h:∀x∈l,Ky x){i:Nat}(hi:i<l.length):Ky (gs l i):=by
 rw[TI hi]
 exact h _ (List.getElem_mem hi)
theorem rE{l:List bG}(hl:∀x∈l,Ky x){i k:Int}(hi:0<=i)(hi2:i<l.length)(hk:0<=k)(hk2:k<l.length):rF (l,i,k,())=some ((decide (ky l i.toNat<ky l k.toNat),()),()):=by
 unfold rF Qy
 simp only
 have a1:=BA hl (i:=i.toNat) (by omega)
 have a2:=BA hl (i:=k.toNat) (by omega)
 rw[Mv hi hi2,Mv hk hk2,ki a1 a2]
 simp only[qa]
 rw[decide_eq_decide.2 (Hj a1 a2 (by omega) (by omega))]
 rfl
theorem rD{l:List bG}{i k:Int}(hi:0<=i)(hi2:i<l.length)(hk:0<=k)(hk2:k<l.length):oc (l,i,k,())=some ((),(kr l i.toNat k.toNat,())):=by
 unfold oc JD
 simp only
 rw[kw hk hk2,Mv hk hk2,kw hi hi2,Mv hi hi2,kw hi hi2,Mv hi hi2,kw hk (by simpa using hk2),Mv hk (by simpa using hk2)]
 rfl
theorem Tc{j:Nat}(h:0<j):((j:Int)-1).tdiv 2=((j-1)/2:Nat):=by
 rw[Int.tdiv_eq_ediv_of_nonneg (by omega)]
 omega
theorem zW:∀(m:Nat) {l:List bG} {j:Nat},(∀x∈l,Ky x)->j<m->j<l.length->Hp.LL m l (j:Int)=some (GJ m l j)
 |0,_,_,_,h,_=>by omega
 |m+1,l,j,hl,hm,hj=>by
  unfold Hp.LL GJ
  by_cases h0:j=0
  ·subst h0
   rw[if_pos (by decide),if_pos rfl]
  ·rw[Tc (by omega),if_neg (by omega),if_neg h0]
   rw[rE hl (by omega) (by omega) (by omega) (by omega)]
   simp only[qa,Int.toNat_natCast]
   by_cases hlt:ky l j<ky l ((j-1)/2)
   ·rw[if_neg (by simp[hlt]),if_neg (by simpa using hlt)]
    rw[rD (by omega) (by omega) (by omega) (by omega)]
    simp only[qa,Int.toNat_natCast]
    have mA:=Ku l ((j-1)/2) j
    exact zW m (l:=kr l ((j-1)/2) j) (λx hx=>hl x ((RL (by omega) hj).mem_iff.1 hx)) (by omega) (by omega)
   ·rw[if_pos (by simp[hlt]),if_pos hlt]
theorem Dl:∀(m:Nat) {l:List bG} {i n:Nat},(∀x∈l,Ky x)->n<m+i->i<=n->n<=l.length->(i<n\/n=0)->Hp.ON m l (i:Int) (n:Int)=some (Dn m l i n)
 |0,_,_,_,_,h,_,_,_=>by omega
 |m+1,l,i,n,hl,hm,hin,hn,zA=>by
  unfold Hp.ON Dn
  by_cases h0:n<=2*i+1
  ·rw[if_pos (by omega),if_pos h0]
  ·rw[if_neg (by omega),if_neg h0]
   obtain⟨c1,c2,c3,_⟩:=qmu l (n:=n) (i:=i) (by omega)
   have hb:(if 2*(i:Int)+1+1<n then(rF (l,2*(i:Int)+1+1,2*(i:Int)+1,())).map (·.1.1)else some false)=some (decide (2*i+2<n/\ky l (2*i+2)<ky l (2*i+1))):=by
    split
    ·rename_i h
     rw[rE hl (by omega) (by omega) (by omega) (by omega),show(2*(i:Int)+1+1).toNat=2*i+2 by omega,show(2*(i:Int)+1).toNat=2*i+1 by omega]
     have:2*i+2<n:=by omega
     simp[this]
    ·rename_i h
     have:¬2*i+2<n:=by omega
     simp[this]
   rw[hb]
   have hc:(cond (decide (2*i+2<n/\ky l (2*i+2)<ky l (2*i+1))) (2*(i:Int)+1+1) (2*(i:Int)+1))=(sq l n i:Nat):=by
    unfold sq
    by_cases Le:2*i+2<n/\ky l (2*i+2)<ky l (2*i+1)
    ·rw[if_pos Le,decide_eq_true Le,cond_true];omega
    ·rw[if_neg Le,decide_eq_false Le,cond_false];omega
   simp only[qa,hc]
   rw[rE hl (by omega) (by omega) (by omega) (by omega)]
   simp only[Int.toNat_natCast]
   by_cases hlt:ky l (sq l n i)<ky l i
   ·rw[if_neg (by simp[hlt]),if_neg (by simpa using hlt)]
    rw[rD (by omega) (by omega) (by omega) (by omega)]
    simp only[Int.toNat_natCast]
    have mA:=Ku l i (sq l n i)
    exact Dl m (l:=kr l i (sq l n i)) (λx hx=>hl x ((RL (by omega) (by omega)).mem_iff.1 hx)) (by omega) (by omega) (by omega) (by omega)
   ·rw[if_pos (by simp[hlt]),if_pos hlt]
theorem CV{l:List bG}(h:sE l l.length)(hl:∀x∈l,Ky x){x:bG}(hx:Ky x)(hlen:l.length<=1000000):∃l',Hp.g_ l x=some l'/\sE l' l'.length/\l'.Perm (x::l):=by
 obtain⟨h1,h2⟩:=HK h x
 refine⟨GJ (l.length+2) (l++[x]) l.length,?_,by rw[h2.length_eq];exact h1,h2⟩
 have bn:(l++[x]).length=l.length+1:=by simp
 unfold Hp.g_
 rw[Hp.wZ,jQ,if_pos (by simp;omega)]
 simp only[qa]
 rw[jQ,if_pos (by rw[bn];omega),bn,show((l.length+1:Nat):Int)-1=(l.length:Nat) by omega]
 exact zW (l.length+1+1) (λy hy=>by
  rcases List.mem_append.1 hy with h|h
  ·exact hl y h
  ·rw[List.mem_singleton.1 h];exact hx) (by omega) (by omega)
theorem Jc{l:List bG}{n:Nat}(hn:l.length=n+1)(hlen:n<=1000000):Db (l,())=some ((gs l n,()),(l.take n,())):=by
 unfold Db Qx
 simp only
 have e:IntKind.wrap .i64 ((l.length:Int)-1)=(n:Nat):=by rw[wr (by omega) (by omega)];omega
 have hR:∀{R:Type} (k:Option R),bx ((n:Nat):Int) l.length k=k:=λk=>kw (by omega) (by omega) k
 have hG:∀{R:Type} (k:bG->Option R),qn l ((n:Nat):Int) k=k (gs l n):=λk=>by
  rw[Mv (by omega) (by omega),Int.toNat_natCast]
 have h1:∀{R:Type} (k:Option R),bO 0 ((n:Nat):Int) k=k:=λk=>by unfold bO;rw[if_pos (by omega)]
 have h2:∀{R:Type} (k:Option R),bO ((n:Nat):Int) (l.length:Int) k=k:=λk=>by unfold bO;rw[if_pos (by omega)]
 rw[e]
 simp only[hR,hG,h1,h2,Gn,Gh,Gg,Int.toNat_natCast]
theorem I_{l:List bG}(h:sE l l.length)(hl:∀x∈l,Ky x)(hne:l≠[])(hlen:l.length<=1000000):∃x l',Hp.yA l=some (x,l')/\sE l' l'.length/\l.Perm (x::l')/\∀y∈l,K x.2<=K y.2:=by
 obtain⟨n,hn⟩:∃n,l.length=n+1:=⟨l.length-1,by have:=List.length_pos_iff.2 hne;omega⟩
 obtain⟨l2,e2,q1,q2,q3,q4,q5⟩:=MT h hn
 refine⟨gs l 0,l2.take n,?_,?_,q4,q5⟩
 ·unfold Hp.yA
  rw[jQ,if_pos (by omega),show((l.length:Nat):Int)-1=(n:Nat) by omega,rD (by omega) (by omega) (by omega) (by omega)]
  simp only[qa,Int.toNat_natCast,show(0:Int).toNat=0 from rfl]
  have mA:=Ku l 0 n
  rw[show((0:Int))=((0:Nat):Int)from rfl,Dl (l.length+1) (λx hx=>hl x ((RL (by omega) (by omega)).mem_iff.1 hx)) (by omega) (by omega) (by omega) (by omega),show l.length+1=n+2 by omega,<-e2]
  simp only
  rw[Jc q1 (by omega),q2]
 ·have:(l2.take n).length=n:=by rw[List.length_take];omega
  rw[this]
  exact q3
end Go.Proofs.Tryz.V.Cv
