/- The program's queue and comparisons, plain. No condition beyond those typed in each theorem. -/
import Derived.Test.YtmlocmhkfnojbaaD3
import Derived.Test.YtmlocmhkfnojbaaFn3
namespace Go.Proofs.Try.V.Cv
open Go.Vi Go.Proofs Go.RowKit
set_option maxRecDepth 100000
theorem fu(k:Nat)(h:k<=1000000):∃n,qn=n+k:=⟨qn-k,by unfold qn;omega⟩
theorem wr{x:Int}(h1: -4611686018427387904<=x)(h2:x<=4611686018427387904):IntKind.wrap .i64 x=x:=by
 rw[IntKind.wrap_i64];omega
theorem g56_eq(x y:Int):g56 ([x,y],())=some ((Hs.or2 x y,()),()):=by
 unfold g56 F56
 obtain⟨n,e⟩:=fu 3 (by omega)
 rw[e]
 by_cases hx:x=0
 ·subst hx
  by_cases hy:y=0
  ·subst hy
   simp[L56_3,B56_3,qs,qa,qbk,Hs.or2,wr]
  ·have hy2:(y !=0)=true:=by simpa using hy
   simp[L56_3,B56_3,qs,qa,qbk,Hs.or2,wr,hy2]
 ·have hx2:(x !=0)=true:=by simpa using hx
  simp[L56_3,B56_3,qs,qa,qbk,Hs.or2,hx,hx2]
theorem g39_eq{c d:Pt}(hc:okC 100000 c)(hd:okC 100000 d):g39 (c,d,())=some ((Hs.or2 (c.1-d.1) (c.2-d.2),()),()):=by
 unfold okC at hc hd
 unfold g39 F39
 simp only
 rw[wr (by omega) (by omega),wr (by omega) (by omega),g56_eq]
 rfl
theorem qeb{n m:Nat}{c d:Pt}(h1:okC n c)(h2:okC m d)(hn:n<=999999)(hm:m<=999999):Hs.or2 (c.1-d.1) (c.2-d.2)<0↔K c<K d:=by
 rw[K_lt h1 h2 hn hm,Hs.or2_neg]
 omega
theorem qkn{n m:Nat}{c d:Pt}(h1:okC n c)(h2:okC m d)(hn:n<=999999)(hm:m<=999999):Hs.or2 (c.1-d.1) (c.2-d.2)<=0↔K c<=K d:=by
 have:=qeb h2 h1 hm hn
 unfold okC at h1 h2
 unfold Hs.or2 K at *
 split<;>omega
def okS(x:Stp):Prop:=okC 100000 x.2
theorem qel{R:Type}{l:List Stp}{i:Int}(h0:0<=i)(h:i<l.length)(k:Stp->Option R):qs l i k=k (gs l i.toNat):=by
 unfold qs
 rw[if_pos h0,gs_at (by omega)]
theorem qaS{R:Type}{i:Int}{n:Nat}(h0:0<=i)(h:i<n)(k:Option R):inR i n k=k:=by
 unfold inR
 rw[if_pos ⟨h0,h⟩]
theorem okS_gs{l:List Stp}(h:∀x∈l,okS x){i:Nat}(hi:i<l.length):okS (gs l i):=by
 rw[qiL hi]
 exact h _ (List.getElem_mem hi)
theorem g104_eq{l:List Stp}(hl:∀x∈l,okS x){i k:Int}(hi:0<=i)(hi2:i<l.length)(hk:0<=k)(hk2:k<l.length):g104 (l,i,k,())=some ((decide (ky l i.toNat<ky l k.toNat),()),()):=by
 unfold g104 F104
 simp only
 have a1:=okS_gs hl (i:=i.toNat) (by omega)
 have a2:=okS_gs hl (i:=k.toNat) (by omega)
 rw[qel hi hi2,qel hk hk2,g39_eq a1 a2]
 simp only[qa]
 rw[decide_eq_decide.2 (qeb a1 a2 (by omega) (by omega))]
 rfl
theorem g107_eq{l:List Stp}{i k:Int}(hi:0<=i)(hi2:i<l.length)(hk:0<=k)(hk2:k<l.length):g107 (l,i,k,())=some ((),(qbl l i.toNat k.toNat,())):=by
 unfold g107 F107
 simp only
 rw[qaS hk hk2,qel hk hk2,qaS hi hi2,qel hi hi2,qaS hi hi2,qel hi hi2,qaS hk (by simpa using hk2),qel hk (by simpa using hk2)]
 rfl
theorem tdiv2{j:Nat}(h:0<j):((j:Int)-1).tdiv 2=((j-1)/2:Nat):=by
 rw[Int.tdiv_eq_ediv_of_nonneg (by omega)]
 omega
theorem upL_eq:∀(m:Nat) {l:List Stp} {j:Nat},(∀x∈l,okS x)->j<m->j<l.length->Hp.upL m l (j:Int)=some (upA m l j)
 |0,_,_,_,h,_=>by omega
 |m+1,l,j,hl,hm,hj=>by
  unfold Hp.upL upA
  by_cases h0:j=0
  ·subst h0
   rw[if_pos (by decide),if_pos rfl]
  ·rw[tdiv2 (by omega),if_neg (by omega),if_neg h0]
   rw[g104_eq hl (by omega) (by omega) (by omega) (by omega)]
   simp only[qa,Int.toNat_natCast]
   by_cases hlt:ky l j<ky l ((j-1)/2)
   ·rw[if_neg (by simp[hlt]),if_neg (by simpa using hlt)]
    rw[g107_eq (by omega) (by omega) (by omega) (by omega)]
    simp only[qa,Int.toNat_natCast]
    have hsl:=qaY l ((j-1)/2) j
    exact upL_eq m (l:=qbl l ((j-1)/2) j) (λx hx=>hl x ((qcj (by omega) hj).mem_iff.1 hx)) (by omega) (by omega)
   ·rw[if_pos (by simp[hlt]),if_pos hlt]
theorem dnL_eq:∀(m:Nat) {l:List Stp} {i n:Nat},(∀x∈l,okS x)->n<m+i->i<=n->n<=l.length->(i<n\/n=0)->Hp.dnL m l (i:Int) (n:Int)=some (dnA m l i n)
 |0,_,_,_,_,h,_,_,_=>by omega
 |m+1,l,i,n,hl,hm,hin,hn,hi0=>by
  unfold Hp.dnL dnA
  by_cases h0:n<=2*i+1
  ·rw[if_pos (by omega),if_pos h0]
  ·rw[if_neg (by omega),if_neg h0]
   obtain⟨c1,c2,c3,_⟩:=qlU l (n:=n) (i:=i) (by omega)
   have hb:(if 2*(i:Int)+1+1<n then(g104 (l,2*(i:Int)+1+1,2*(i:Int)+1,())).map (·.1.1)else some false)=some (decide (2*i+2<n/\ky l (2*i+2)<ky l (2*i+1))):=by
    split
    ·rename_i h
     rw[g104_eq hl (by omega) (by omega) (by omega) (by omega),show(2*(i:Int)+1+1).toNat=2*i+2 by omega,show(2*(i:Int)+1).toNat=2*i+1 by omega]
     have:2*i+2<n:=by omega
     simp[this]
    ·rename_i h
     have:¬2*i+2<n:=by omega
     simp[this]
   rw[hb]
   have hc:(cond (decide (2*i+2<n/\ky l (2*i+2)<ky l (2*i+1))) (2*(i:Int)+1+1) (2*(i:Int)+1))=(chd l n i:Nat):=by
    unfold chd
    by_cases hcc:2*i+2<n/\ky l (2*i+2)<ky l (2*i+1)
    ·rw[if_pos hcc,decide_eq_true hcc,cond_true];omega
    ·rw[if_neg hcc,decide_eq_false hcc,cond_false];omega
   simp only[qa,hc]
   rw[g104_eq hl (by omega) (by omega) (by omega) (by omega)]
   simp only[Int.toNat_natCast]
   by_cases hlt:ky l (chd l n i)<ky l i
   ·rw[if_neg (by simp[hlt]),if_neg (by simpa using hlt)]
    rw[g107_eq (by omega) (by omega) (by omega) (by omega)]
    simp only[Int.toNat_natCast]
    have hsl:=qaY l i (chd l n i)
    exact dnL_eq m (l:=qbl l i (chd l n i)) (λx hx=>hl x ((qcj (by omega) (by omega)).mem_iff.1 hx)) (by omega) (by omega) (by omega) (by omega)
   ·rw[if_pos (by simp[hlt]),if_pos hlt]
theorem gPush_ok{l:List Stp}(h:qeX l l.length)(hl:∀x∈l,okS x){x:Stp}(hx:okS x)(hlen:l.length<=1000000):∃l',Hp.gPush l x=some l'/\qeX l' l'.length/\l'.Perm (x::l):=by
 obtain⟨h1,h2⟩:=push_ok h x
 refine⟨upA (l.length+2) (l++[x]) l.length,?_,by rw[h2.length_eq];exact h1,h2⟩
 have hl2:(l++[x]).length=l.length+1:=by simp
 unfold Hp.gPush
 rw[Hp.g106_eq,jR,if_pos (by simp;omega)]
 simp only[qa]
 rw[jR,if_pos (by rw[hl2];omega),hl2,show((l.length+1:Nat):Int)-1=(l.length:Nat) by omega]
 exact upL_eq (l.length+1+1) (λy hy=>by
  rcases List.mem_append.1 hy with h|h
  ·exact hl y h
  ·rw[List.mem_singleton.1 h];exact hx) (by omega) (by omega)
theorem g105_eq{l:List Stp}{n:Nat}(hn:l.length=n+1)(hlen:n<=1000000):g105 (l,())=some ((gs l n,()),(l.take n,())):=by
 unfold g105 F105
 simp only
 have e:IntKind.wrap .i64 ((l.length:Int)-1)=(n:Nat):=by rw[wr (by omega) (by omega)];omega
 have hR:∀{R:Type} (k:Option R),inR ((n:Nat):Int) l.length k=k:=λk=>qaS (by omega) (by omega) k
 have hG:∀{R:Type} (k:Stp->Option R),qs l ((n:Nat):Int) k=k (gs l n):=λk=>by
  rw[qel (by omega) (by omega),Int.toNat_natCast]
 have h1:∀{R:Type} (k:Option R),leK 0 ((n:Nat):Int) k=k:=λk=>by unfold leK;rw[if_pos (by omega)]
 have h2:∀{R:Type} (k:Option R),leK ((n:Nat):Int) (l.length:Int) k=k:=λk=>by unfold leK;rw[if_pos (by omega)]
 rw[e]
 simp only[hR,hG,h1,h2,qbs,qaf,qag,Int.toNat_natCast]
theorem gPop_ok{l:List Stp}(h:qeX l l.length)(hl:∀x∈l,okS x)(hne:l≠[])(hlen:l.length<=1000000):∃x l',Hp.gPop l=some (x,l')/\qeX l' l'.length/\l.Perm (x::l')/\∀y∈l,K x.2<=K y.2:=by
 obtain⟨n,hn⟩:∃n,l.length=n+1:=⟨l.length-1,by have:=List.length_pos_iff.2 hne;omega⟩
 obtain⟨l2,e2,q1,q2,q3,q4,q5⟩:=pop_ok h hn
 refine⟨gs l 0,l2.take n,?_,?_,q4,q5⟩
 ·unfold Hp.gPop
  rw[jR,if_pos (by omega),show((l.length:Nat):Int)-1=(n:Nat) by omega,g107_eq (by omega) (by omega) (by omega) (by omega)]
  simp only[qa,Int.toNat_natCast,show(0:Int).toNat=0 from rfl]
  have hsl:=qaY l 0 n
  rw[show((0:Int))=((0:Nat):Int)from rfl,dnL_eq (l.length+1) (λx hx=>hl x ((qcj (by omega) (by omega)).mem_iff.1 hx)) (by omega) (by omega) (by omega) (by omega),show l.length+1=n+2 by omega,<-e2]
  simp only
  rw[g105_eq q1 (by omega),q2]
 ·have:(l2.take n).length=n:=by rw[List.length_take];omega
  rw[this]
  exact q3
end Go.Proofs.Try.V.Cv
