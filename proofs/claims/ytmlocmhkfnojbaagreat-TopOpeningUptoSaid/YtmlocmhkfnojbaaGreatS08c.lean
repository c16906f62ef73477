/- Plain laws: what the last text needs of the others, in one. No condition beyond those typed in each theorem. -/
import Derived.Test.YtmlocmhkfnojbaaGreatFn4
namespace Go.Proofs.Tryz.V.kn
open Go.Vi
set_option maxRecDepth 100000
abbrev Part:=Int×(Int×(Int×(List Int)))
abbrev bw:=(List Part)×(Int×(List (List Int)))
theorem Gj:1099511627776<qk:=by decide
theorem jk{x:Int}(h1: -9223372036854775808<=x)(h2:x<=9223372036854775807):IntKind.wrap .i64 x=x:=IntWalk.i64_in x ⟨h1,h2⟩
theorem xP{α R:Type}(pre:List α)(x:α)(r:List α)(k:α->Option R){i:Int}(hi:i=pre.length):qn (pre++x::r) i k=k x:=by
 subst hi
 unfold qn
 rw[if_pos (by omega)]
 simp
theorem j5{α R:Type}{l:List α}{i:Int}{x:α}(h0:0<=i)(h:l[i.toNat]? = some x)(k:α->Option R):qn l i k=k x:=by
 unfold qn
 rw[if_pos h0,h]
theorem Ua{α R:Type}{l:List α}{i:Int}(h0:0<=i)(h:i<l.length)(k:α->Option R):qn l i k=k (l[i.toNat]'(by omega)):=j5 h0 (List.getElem?_eq_getElem (by omega)) k
theorem uG{R:Type}{i:Int}{n:Nat}(h0:0<=i)(h:i<n)(k:Option R):bx i n k=k:=by unfold bx;rw[if_pos ⟨h0,h⟩]
theorem qp{α R:Type}(x:α)(k:α->Option R):qa (some x) k=k x:=rfl
theorem RB{α β R:Type}(x:α)(k:α->Option R)(l:β->Option R):fD (.inl x) k l=k x:=rfl
theorem Hv{α β R:Type}(x:β)(k:α->Option R)(l:β->Option R):fD (.inr x) k l=l x:=rfl
theorem vi{R:Type}{a b:Int}(h:a<=b)(k:Option R):bO a b k=k:=by unfold bO;rw[if_pos h]
theorem Ho{R:Type}{n:Int}(h0:0<=n)(h:n<=274877906944)(k:Option R):qo n k=k:=by rw[jQ,if_pos ⟨h0,h⟩]
theorem Hr{α R:Type}(x:α)(k:α->Option R):sF x k=k x:=rfl
theorem Gn{α R:Type}(x:α)(k:α->Option R):vg x k=k x:=rfl
theorem qN{m n:Nat}(h:m<n):∃k,n=k+1:=⟨n-1,by omega⟩
theorem jF{p:Prop}[Decidable p](h:p):decide p=true:=decide_eq_true h
theorem fm{p:Prop}[Decidable p](h:¬p):decide p=false:=decide_eq_false h
theorem xN{α:Type}(pre:List α)(x:α)(r:List α):(pre.length:Int)<((pre++x::r).length:Int):=by simp;omega
theorem xU{α:Type}(pre:List α)(x:α):(((pre++[x]).length:Nat):Int)=(pre.length:Int)+1:=by simp
theorem YP{α:Type}(pre:List α)(x:α)(r:List α):pre++[x]++r=pre++x::r:=by simp
def di(x lo hi:Int):Bool:=decide (lo<=x)&&decide (x<=hi)
theorem mI(x lo hi:Int):g20 (x,lo,hi,())=some ((di x lo hi,()),()):=by
 show F20 qk x lo hi=_
 unfold F20 di
 by_cases h:lo<=x
 ·rw[jF (p:=x>=lo) h];rfl
 ·rw[fm (p:=x>=lo) h];rfl
theorem rC(x lo hi:Int):g15 (x,lo,hi,())=some ((di x lo hi,()),()):=by
 show F15 qk x lo hi=_
 unfold F15 di
 by_cases h:lo<=x
 ·rw[jF (p:=x>=lo) h];rfl
 ·rw[fm (p:=x>=lo) h];rfl
def qbv(n i:Int):Int->List Int->Bool
 |_,[]=>true
 |last,x::r=>decide (last<x)&&decide (x<n) && !(x==i)&&qbv n i x r
theorem nj(n i t30 t29:Int)(t28:List Part)(o:bw):∀(r pre:List Int) (last:Int) (N:Nat),(pre++r).length<=1048576->r.length<N->
  iG N ((n,i,last,t28,t29,t30,pre++r,((pre++r).length:Int),(pre.length:Int),()),(o,()),()) =
   some (cond (qbv n i last r) (.inr ((n,t28,t29,t30,()),(o,()),())) (.inl ((none,false,()),(),())))
 |[],pre,last,N,_,hN=>by
  obtain⟨k,rfl⟩:=qN hN
  simp[iG,v_,qbv]
 |x::r,pre,last,N,hl,hN=>by
  obtain⟨k,rfl⟩:=qN hN
  have ih:=nj n i t30 t29 t28 o r (pre++[x]) x k (by simpa using hl) (by simp at hN;omega)
  rw[YP,xU]at ih
  have hl':pre.length<1048576:=by simp at hl;omega
  simp only[iG,v_]
  rw[jF (xN pre x r),cond_true,xP pre x r _ rfl,jk (by omega) (by omega)]
  by_cases h1:x<=last
  ·rw[jF h1,cond_true,qbv,fm (by omega:¬last<x)];rfl
  ·rw[fm h1,cond_false,qbv,jF (by omega:last<x)]
   by_cases h2:x>=n
   ·rw[jF h2,cond_true,fm (by omega:¬x<n)];rfl
   ·rw[fm h2,cond_false,jF (by omega:x<n)]
    cases h3:x==i with
    |true=>rfl
    |false=>
     rw[cond_false]
     exact ih
def YF(n i:Int)(p:Part):Bool:=di p.1 1 1000000&&di p.2.1 1 100&&di p.2.2.1 0 9&&qbv n i (-1) p.2.2.2
def wu(n:Int):Int->List Part->Bool
 |_,[]=>true
 |i,p::r=>YF n i p&&wu n (i+1) r
theorem pF(o:bw)(n:Int):∀(r pre:List Part) (N:Nat),(pre++r).length<=1048576->(∀p∈r,p.2.2.2.length<=1048576)->r.length+1048576<N->
  ni N ((n,pre++r,((pre++r).length:Int),(pre.length:Int),()),(o,()),()) =
   some (cond (wu n pre.length r) (.inr ((),(o,()),())) (.inl ((none,false,()),(),())))
 |[],pre,N,_,_,hN=>by
  obtain⟨k,rfl⟩:=qN hN
  simp[ni,FG,wu]
 |x::r,pre,N,hl,hb,hN=>by
  obtain⟨k,rfl⟩:=qN hN
  have ih:=pF o n r (pre++[x]) k (by simpa using hl) (λp hp=>hb p (List.mem_cons_of_mem _ hp)) (by simp at hN;omega)
  rw[YP,xU]at ih
  have hl':pre.length<1048576:=by simp at hl;omega
  have hx:=hb x List.mem_cons_self
  have hin:=nj n (pre.length:Int) (pre.length:Int) ((pre++x::r).length:Int) (pre++x::r) o x.2.2.2 [] (-1) k hx (by simp at hN;omega)
  simp only[List.nil_append,List.length_nil]at hin
  simp only[ni,FG]
  rw[jF (xN pre x r),cond_true,xP pre x r _ rfl,mI,qp]
  simp only[wu,YF]
  cases h1:di x.1 1 1000000 with
  |false=>simp
  |true=>
  simp only[Bool.not_true,cond_false,mI,qp]
  cases h2:di x.2.1 1 100 with
  |false=>simp
  |true=>
  simp only[Bool.not_true,cond_false]
  cases h3:di x.2.2.1 0 9 with
  |false=>simp
  |true=>
  simp only[Bool.not_true,cond_false]
  have NQ:iG k ((n,(pre.length:Int),-1,pre++x::r,((pre++x::r).length:Int),(pre.length:Int),x.2.2.2,(x.2.2.2.length:Int),0,()),(o,()),())=_:=hin
  rw[NQ,qp]
  cases h4:qbv n (pre.length:Int) (-1) x.2.2.2 with
  |false=>simp[RB]
  |true=>
   simp only[cond_true,Hv,Bool.true_and]
   rw[jk (by omega) (by omega)]
   exact ih
abbrev vJ:=List Int×(Int×List Int)
def wz:List Int->List Int->List vJ
 |_,[]=>[]
 |pre,x::r=>(pre,x,r)::wz (pre++[x]) r
theorem ZK:∀(r pre:List Int),(wz pre r).map (·.2.1)=r
 |[],_=>rfl
 |x::r,pre=>by simp[wz,ZK r]
theorem qg6:∀(r pre:List Int) {d:vJ},d∈wz pre r->d.1++d.2.1::d.2.2=pre++r
 |[],_,d,h=>by simp[wz]at h
 |x::r,pre,d,h=>by
  simp only[wz,List.mem_cons]at h
  rcases h with rfl|h
  ·rfl
  ·rw[qg6 r _ h];simp
structure F_ (n:Nat) (done:List vJ) (many:Int) (ab be:List (List Int)) (aT:List Int):Prop where
 nodup:(done.map (·.2.1)).Nodup
 di:∀d∈done,0<=d.2.1/\d.2.1<n
 many:many=done.length
 la:ab.length=n
 lb:be.length=n
 ll:aT.length=n
 lie:∀i,i<n->aT[i]? = some (if(i:Int)∈done.map (·.2.1)then 1 else 0)
 spot:∀d∈done,ab[d.2.1.toNat]? = some d.2.2/\be[d.2.1.toNat]? = some d.1.reverse
def nS(n:Nat):List Int->List Int->Bool
 |_,[]=>true
 |seen,x::r=>di x 0 (n-1) && !decide (x∈seen)&&nS n (seen++[x]) r
theorem F_.step{n:Nat}{done:List vJ}{many:Int}{ab be:List (List Int)}{aT:List Int}(h:F_ n done many ab be aT){pre r:List Int}{x:Int}(hx0:0<=x)(hx:x<n)(hn:x∉done.map (·.2.1)):
  F_ n (done++[(pre,x,r)]) (many+1) (ab.set x.toNat r) (be.set x.toNat pre.reverse) (aT.set x.toNat 1) where
 nodup:=by
  rw[List.map_append,List.nodup_append]
  exact⟨h.nodup,by simp,λa ha b hb e=>by simp at hb;subst hb;subst e;exact hn ha⟩
 di:=by
  intro d hd
  rcases List.mem_append.1 hd with hd|hd
  ·exact h.di d hd
  ·simp at hd;subst hd;exact⟨hx0,hx⟩
 many:=by rw[h.many];simp
 la:=by simp[h.la]
 lb:=by simp[h.lb]
 ll:=by simp[h.ll]
 lie:=by
  intro i hi
  rw[List.getElem?_set]
  by_cases e:x.toNat=i
  ·subst e
   rw[if_pos rfl,if_pos (by rw[h.ll];exact hi),if_pos]
   simp only[List.map_append,List.mem_append]
   right
   simp
   omega
  ·rw[if_neg e,h.lie i hi]
   congr 1
   have:(i:Int)∈(done++[(pre,x,r)]).map (·.2.1)↔(i:Int)∈done.map (·.2.1):=by
    simp only[List.map_append,List.mem_append]
    constructor
    ·rintro(h|h)
     ·exact h
     ·simp at h;omega
    ·exact .inl
   simp only[this]
 spot:=by
  intro d hd
  rcases List.mem_append.1 hd with hd|hd
  ·have hne:x.toNat≠d.2.1.toNat:=by
    intro e
    have:=h.di d hd
    have:x=d.2.1:=by omega
    exact hn (List.mem_map.2 ⟨d,hd,this.symm⟩)
   rw[List.getElem?_set_ne hne,List.getElem?_set_ne hne]
   exact h.spot d hd
  ·simp at hd
   subst hd
   exact⟨by rw[List.getElem?_set_self (by rw[h.la];omega)],by rw[List.getElem?_set_self (by rw[h.lb];omega)]⟩
theorem Ot{l:List Int}(h:l.length<=1048576):SA (l,())=some ((l,()),()):=by
 show qo (l.length:Int) _=_
 rw[Ho (by omega) (by omega)]
theorem Oq(l:List Int):g60 (l,())=some ((),l.reverse,()):=rfl
theorem nf(n:Nat)(hn:n<=16)(uJ:bw)(t31:List (List Int))(t32 t33:Int)(gO:List Int)(hv:gO.length<=1048576):∀(r pre:List Int) (done:List vJ) (many:Int) (ab be:List (List Int)) (aT:List Int) (N:Nat),gO=pre++r->r.length<N->done.length+r.length<=1048576->F_ n done many ab be aT->
  (nS n (done.map (·.2.1)) r=false/\fR N ((n,many,gO,t31,t32,t33,gO,(gO.length:Int),(pre.length:Int),()),((uJ,(ab,be)),aT,()),())=some (.inl ((none,false,()),(),())))\/
  (nS n (done.map (·.2.1)) r=true/\∃lV OW OV eZ,F_ n (done++wz pre r) lV OW OV eZ/\
   fR N ((n,many,gO,t31,t32,t33,gO,(gO.length:Int),(pre.length:Int),()),((uJ,(ab,be)),aT,()),())=some (.inr ((n,lV,t31,t32,t33,()),((uJ,(OW,OV)),eZ,()),())))
 |[],pre,done,many,ab,be,aT,N,bU,hN,hb,h=>by
  obtain⟨k,rfl⟩:=qN hN
  refine .inr ⟨rfl,many,ab,be,aT,by simpa[wz]using h,?_⟩
  subst bU
  simp[fR,vX]
 |x::r,pre,done,many,ab,be,aT,N,bU,hN,hb,h=>by
  obtain⟨k,rfl⟩:=qN hN
  simp only[List.length_cons]at hN hb
  simp only[fR,vX]
  have hlt:((pre.length:Nat):Int)<(gO.length:Int):=by rw[bU];exact xN pre x r
  have cW:∀{R:Type} (kk:Int->Option R),qn gO (pre.length:Int) kk=kk x:=λkk=>by rw[bU];exact xP pre x r kk rfl
  rw[jF hlt,cond_true,cW,jk (by omega) (by omega),mI,qp]
  simp only[nS]
  cases h1:di x 0 ((n:Int)-1)with
  |false=>exact .inl ⟨rfl,by simp⟩
  |true=>
  simp only[di,Bool.and_eq_true,decide_eq_true_eq]at h1
  have hx0:=h1.1
  have hx:x<n:=by omega
  simp only[Bool.not_true,cond_false,Bool.true_and]
  rw[uG hx0 (by rw[h.ll];omega),j5 hx0 (h.lie x.toNat (by omega))]
  rw[show((x.toNat:Nat):Int)=x by omega]
  by_cases hm:x∈done.map (·.2.1)
  ·rw[if_pos hm,jF hm]
   exact .inl ⟨rfl,rfl⟩
  ·rw[if_neg hm,fm hm,fm (by omega:¬(0:Int)>0),cond_false,uG hx0 (by rw[h.ll];omega),Ua hx0 (by rw[h.ll];omega)]
   have wP:gO.take (pre.length:Int).toNat=pre:=by rw[bU];simp
   have ax:gO.drop ((pre.length:Int)+1).toNat=r:=by
    rw[bU,show((pre.length:Int)+1).toNat=pre.length+1 by omega,List.drop_append]
    simp
   have hmb:many=done.length:=h.many
   rw[jk (x:=many+1) (by omega) (by omega),jk (x:=(pre.length:Int)+1) (by omega) (by omega)]
   have eR:pre.length<=1048576:=by omega
   simp only[wP,ax,Ot eR,qp,Hr,Gn,Oq,vi (show(0:Int)<=(pre.length:Int)+1 by omega),vi (show(pre.length:Int)+1<=(gO.length:Int) by omega),vi (show(0:Int)<=(pre.length:Int) by omega),vi (show(pre.length:Int)<=(gO.length:Int) by omega)]
   have e1:∀{R:Type} {l:List (List Int)} (hl:l.length=n) (kk:Option R),bx x l.length kk=kk:=λhl kk=>uG hx0 (by rw[hl];exact hx) kk
   have e2:∀{R:Type} {l:List (List Int)} (hl:l.length=n) (kk:List Int->Option R),qn l x kk=kk (l[x.toNat]'(by omega)):=λhl kk=>Ua hx0 (by rw[hl];exact hx) kk
   have hs:=h.step (pre:=pre) (r:=r) hx0 hx hm
   simp only[e1 h.la,e2 h.la,e1 h.lb,e2 h.lb,Gg,Gh]
   have bn:(be.set x.toNat pre).length=n:=by simp[h.lb]
   simp only[e1 bn,e2 bn,List.getElem_set_self,List.set_set]
   have ih:=nf n hn uJ t31 t32 t33 gO hv r (pre++[x]) (done++[(pre,x,r)]) (many+1) _ _ _ k (by rw[bU];simp) (by omega) (by simp;omega) hs
   rw[xU]at ih
   simp only[List.map_append,List.map_cons,List.map_nil,List.append_assoc]at ih
   simpa[wz]using ih
theorem qeX(n:Nat):∀(a seen b:List Int),nS n seen (a++b)=(nS n seen a&&nS n (seen++a) b)
 |[],seen,b=>by simp[nS]
 |x::a,seen,b=>by simp[nS,qeX n a (seen++[x]) b,Bool.and_assoc]
def zf(bi:List (List Int)):List vJ:=bi.flatMap (wz [])
theorem qjE(bi:List (List Int)):(zf bi).map (·.2.1)=bi.flatten:=by
 induction bi with
 |nil=>rfl
 |cons v vs ih=> 
  unfold zf at *
  simp only[List.flatMap_cons,List.map_append,ih,ZK,List.flatten_cons]
theorem qlF:∀(pre q:List Int) (p:Int) (post:List Int),(q++pre,p,post)∈wz q (pre++p::post)
 |[],q,p,post=>by simp[wz]
 |x::pre,q,p,post=>by
  have:=qlF pre (q++[x]) p post
  simp only[List.append_assoc,List.singleton_append]at this
  exact List.mem_cons_of_mem _ this
theorem pE(n:Nat)(hn:n<=16)(uJ:bw)(bi:List (List Int))(hv:bi.length<=1048576)(fV:∀v∈bi,v.length<=1048576):∀(r pre:List (List Int)) (done:List vJ) (many:Int) (ab be:List (List Int)) (aT:List Int) (N:Nat),bi=pre++r->r.length+1048576<N->done.length+r.flatten.length<=1048576->F_ n done many ab be aT->
  (nS n (done.map (·.2.1)) r.flatten=false/\ji N ((n,many,bi,(bi.length:Int),(pre.length:Int),()),((uJ,(ab,be)),aT,()),())=some (.inl ((none,false,()),(),())))\/
  (nS n (done.map (·.2.1)) r.flatten=true/\∃lV OW OV eZ,F_ n (done++zf r) lV OW OV eZ/\
   ji N ((n,many,bi,(bi.length:Int),(pre.length:Int),()),((uJ,(ab,be)),aT,()),())=some (.inr ((n,lV,()),((uJ,(OW,OV)),()),())))
 |[],pre,done,many,ab,be,aT,N,bU,hN,hb,h=>by
  obtain⟨k,rfl⟩:=qN hN
  refine .inr ⟨rfl,many,ab,be,aT,by simpa[zf]using h,?_⟩
  subst bU
  simp[ji,FE]
 |x::r,pre,done,many,ab,be,aT,N,bU,hN,hb,h=>by
  obtain⟨k,rfl⟩:=qN hN
  simp only[List.length_cons,List.flatten_cons,List.length_append]at hN hb
  have hlt:((pre.length:Nat):Int)<(bi.length:Int):=by rw[bU];exact xN pre x r
  have cW:∀{R:Type} (kk:List Int->Option R),qn bi (pre.length:Int) kk=kk x:=λkk=>by rw[bU];exact xP pre x r kk rfl
  simp only[ji,FE]
  rw[jF hlt,cond_true,cW,List.flatten_cons,qeX]
  have hin:=nf n hn uJ bi (bi.length:Int) (pre.length:Int) x (fV x (by rw[bU];simp)) x [] done many ab be aT k rfl (by have:=fV x (by rw[bU];simp);omega) (by omega) h
  rcases hin with⟨hg,he⟩|⟨hg,lV,OW,OV,eZ,hs,he⟩
  ·have he':fR k ((n,many,x,bi,(bi.length:Int),(pre.length:Int),x,(x.length:Int),0,()),((uJ,(ab,be)),aT,()),())=_:=he
   rw[hg,he']
   exact .inl ⟨rfl,rfl⟩
  ·have he':fR k ((n,many,x,bi,(bi.length:Int),(pre.length:Int),x,(x.length:Int),0,()),((uJ,(ab,be)),aT,()),())=_:=he
   rw[hg,he',qp,Hv,Bool.true_and]
   dsimp only
   rw[jk (x:=(pre.length:Int)+1) (by omega) (by omega)]
   have ih:=pE n hn uJ bi hv fV r (pre++[x]) (done++wz [] x) lV OW OV eZ k (by rw[bU];simp) (by omega) (by
    have:=congrArg List.length (ZK x [])
    rw[List.length_map]at this
    simp only[List.length_append]
    omega) hs
   rw[xU]at ih
   simp only[List.map_append,ZK,List.append_assoc]at ih
   have e:wz [] x++zf r=zf (x::r):=rfl
   rw[e]at ih
   exact ih
theorem OB(k:bw)(bi:List (List Int))(hn:k.1.length<=16)(hv:bi.length<=1048576)(fV:∀v∈bi,v.length<=1048576)(hf:bi.flatten.length<=1048576):
  (nS k.1.length [] bi.flatten=false/\WO (k,bi,())=some ((none,false,()),()))\/
  (nS k.1.length [] bi.flatten=true/\∃many ab be aT,F_ k.1.length (zf bi) many ab be aT/\
   WO (k,bi,())=some ((some ((k.1,(k.2.1,bi)),(ab,be)),decide (bi.flatten.length=k.1.length),()),())):=by
 have hF:WO (k,bi,())=F32 qk k bi:=rfl
 rw[hF]
 unfold F32
 simp only[Gn,Hr,vi (show(0:Int)<=(k.1.length:Int) by omega),vi (Int.le_refl (k.1.length:Int)),Ho (show(0:Int)<=(k.1.length:Int) by omega) (by omega),Gg,Gh]
 have h0:F_ k.1.length [] 0 (List.replicate (k.1.length:Int).toNat ([]:List Int)) (List.replicate (k.1.length:Int).toNat ([]:List Int)) (List.replicate (k.1.length:Int).toNat 0):=
  ⟨by simp,by simp,rfl,by simp,by simp,by simp,λi hi=>by simp[hi],by simp⟩
 have:=pE k.1.length hn (k.1,(k.2.1,bi)) bi hv fV bi [] [] 0 _ _ _ qk rfl (by have:=Gj;omega) (by simpa using hf) h0
 rcases this with⟨hg,he⟩|⟨hg,many,ab,be,aT,hs,he⟩
 ·refine .inl ⟨hg,?_⟩
  have he':ji qk ((k.1.length,0,bi,(bi.length:Int),0,()),(((k.1,(k.2.1,bi)),(List.replicate (k.1.length:Int).toNat ([]:List Int),List.replicate (k.1.length:Int).toNat ([]:List Int))),(List.replicate (k.1.length:Int).toNat 0),()),())=_:=he
  rw[he']
  rfl
 ·refine .inr ⟨hg,many,ab,be,aT,hs,?_⟩
  have he':ji qk ((k.1.length,0,bi,(bi.length:Int),0,()),(((k.1,(k.2.1,bi)),(List.replicate (k.1.length:Int).toNat ([]:List Int),List.replicate (k.1.length:Int).toNat ([]:List Int))),(List.replicate (k.1.length:Int).toNat 0),()),())=_:=he
  rw[he',qp,Hv]
  have hm:many=bi.flatten.length:=by
   rw[hs.many,List.nil_append,<-qjE,List.length_map]
  have e:(many==(k.1.length:Int))=decide (bi.flatten.length=k.1.length):=by
   rw[hm]
   by_cases h:bi.flatten.length=k.1.length
   ·simp[h]
   ·rw[decide_eq_false h]
    simp only[beq_eq_false_iff_ne,ne_eq]
    omega
  simp only[e]
def valid(k:bw):Bool:=decide (k.1.length<=16)&&decide (k.2.2.length<=6)&&di k.2.1 1 1000000&&wu k.1.length 0 k.1&&nS k.1.length [] k.2.2.flatten&&decide (k.2.2.flatten.length=k.1.length)
structure Small (k:bw):Prop where
 parts:k.1.length<=1048576
 wF:∀p∈k.1,p.2.2.2.length<=1048576
 bi:k.2.2.length<=1048576
 gO:∀v∈k.2.2,v.length<=1048576
 flat:k.2.2.flatten.length<=1048576
abbrev oh:=bw×((List (List Int))×(List (List Int)))
def Mg(k:bw)(y:oh):Prop:=y.1=k/\∃many aT,F_ k.1.length (zf k.2.2) many y.2.1 y.2.2 aT
theorem C_(k:bw)(hk:Small k):(valid k=false/\∃q,g19 (k,())=some ((q,false,()),()))\/(valid k=true/\∃y,Mg k y/\g19 (k,())=some ((some y,true,()),())):=by
 have hF:g19 (k,())=F19 qk k:=rfl
 rw[hF]
 unfold F19 valid
 by_cases h1:k.1.length<=16
 case neg=>rw[jF (by omega:(k.1.length:Int)>16),fm h1];exact .inl ⟨rfl,_,rfl⟩
 rw[fm (by omega:¬(k.1.length:Int)>16),jF h1,cond_false]
 by_cases h2:k.2.2.length<=6
 case neg=>rw[jF (by omega:(k.2.2.length:Int)>6),fm h2];exact .inl ⟨rfl,_,rfl⟩
 rw[fm (by omega:¬(k.2.2.length:Int)>6),jF h2,cond_false,mI,qp]
 cases h3:di k.2.1 1 1000000 with
 |false=>exact .inl ⟨rfl,_,rfl⟩
 |true=>
 simp only[Bool.not_true,cond_false,Bool.true_and]
 have hp:=pF k k.1.length k.1 [] qk (by simpa using hk.parts) hk.wF (by have:=Gj;omega)
 have IB:ni qk (((k.1.length:Int),k.1,(k.1.length:Int),0,()),(k,()),())=some (cond (wu (k.1.length:Int) 0 k.1) (.inr ((),(k,()),())) (.inl ((none,false,()),(),()))):=hp
 rw[IB,qp]
 cases h4:wu (k.1.length:Int) 0 k.1 with
 |false=>exact .inl ⟨rfl,_,rfl⟩
 |true=>
 simp only[cond_true,Hv,Bool.true_and]
 rcases OB k k.2.2 h1 hk.bi hk.gO hk.flat with⟨h5,h6⟩|⟨h5,many,ab,be,aT,hs,h6⟩
 ·rw[h5,h6]
  exact .inl ⟨rfl,_,rfl⟩
 ·rw[h5,h6,qp]
  by_cases h7:k.2.2.flatten.length=k.1.length
  ·rw[jF h7]
   exact .inr ⟨rfl,_,⟨rfl,many,aT,hs⟩,rfl⟩
  ·rw[fm h7]
   exact .inl ⟨rfl,_,rfl⟩
theorem ZD(n:Nat):∀(l seen:List Int),nS n seen l=true↔(∀x∈l,0<=x/\x<n)/\l.Nodup/\∀x∈l,x∉seen
 |[],seen=>by simp[nS]
 |x::l,seen=>by
  simp only[nS,Bool.and_eq_true,ZD n l,di,decide_eq_true_eq,Bool.not_eq_true',decide_eq_false_iff_not,List.mem_cons,List.nodup_cons,List.mem_append]
  constructor
  ·rintro⟨⟨⟨h1,h2⟩,h3⟩,h4,h5,h6⟩
   refine⟨?_,⟨λhx=>(h6 x hx) (.inr (.inl rfl)),h5⟩,?_⟩
   ·rintro y (rfl|hy)
    ·exact⟨h1,by omega⟩
    ·exact h4 y hy
   ·rintro y (rfl|hy)
    ·exact h3
    ·exact λh=>h6 y hy (.inl h)
  ·rintro⟨h1,⟨h2,h3⟩,h4⟩
   have:=h1 x (.inl rfl)
   refine⟨⟨⟨this.1,by omega⟩,h4 x (.inl rfl)⟩,λy hy=>h1 y (.inr hy),h3,?_⟩
   rintro y hy (h|h|h)
   ·exact h4 y (.inr hy) h
   ·subst h;exact h2 hy
   ·cases h
theorem ZO{α:Type}[DecidableEq α]:∀(l r:List α),l.Nodup->(∀x∈l,x∈r)->r.length<=l.length->l.Perm r
 |[],r,_,_,hl=>by
  have:r=[]:=List.eq_nil_of_length_eq_zero (by simpa using hl)
  subst this
  exact .refl _
 |x::l,r,hn,hm,hl=>by
  rw[List.nodup_cons]at hn
  have hx:=hm x List.mem_cons_self
  have hp:=List.perm_cons_erase hx
  refine List.Perm.trans (List.Perm.cons x (ZO l (r.erase x) hn.2 (λy hy=>?_) ?_)) hp.symm
  ·exact(List.mem_erase_of_ne (λe=>hn.1 (by rw[<-e];exact hy))).2 (hm y (List.mem_cons_of_mem _ hy))
  ·rw[List.length_erase_of_mem hx]
   simp at hl
   omega
def AU(n:Nat):List Int:=(List.range n).map Int.ofNat
theorem Gu{n:Nat}{x:Int}:x∈AU n↔0<=x/\x<n:=by
 simp only[AU,List.mem_map,List.mem_range]
 constructor
 ·rintro⟨a,h,rfl⟩;exact⟨by simp,by simpa using h⟩
 ·rintro⟨h0,h1⟩;exact⟨x.toNat,by omega,by simp;omega⟩
theorem qeD(n:Nat):(AU n).Nodup:=by
 unfold AU
 rw[List.Nodup,List.pairwise_map]
 exact List.Pairwise.imp (λh e=>h (Int.ofNat.inj e)) List.nodup_range
theorem ZP(n:Nat):(AU n).length=n:=by simp[AU]
theorem qjx{n:Nat}{l:List Int}(hr:∀x∈l,0<=x/\x<n):(∀i,i<n->l.count (i:Int)=1)↔l.Nodup/\l.length=n:=by
 constructor
 ·intro h
  have hp:l.Perm (AU n):=by
   rw[List.perm_iff_count]
   intro a
   by_cases ha:0<=a/\a<n
   ·rw[(qeD n).count,if_pos (Gu.2 ha)]
    have:=h a.toNat (by omega)
    rwa[show((a.toNat:Nat):Int)=a by omega]at this
   ·rw[List.count_eq_zero_of_not_mem (λhm=>ha (hr a hm)),List.count_eq_zero_of_not_mem (λhm=>ha (Gu.1 hm))]
  exact⟨hp.nodup_iff.2 (qeD n),by rw[hp.length_eq,ZP]⟩
 ·rintro⟨h1,h2⟩ i hi
  have hp:=ZO l (AU n) h1 (λx hx=>Gu.2 (hr x hx)) (by rw[ZP];omega)
  rw[hp.count_eq,(qeD n).count,if_pos (Gu.2 ⟨by omega,by omega⟩)]
theorem pq(o:bw)(ho:o.1.length<=16)(i:Int)(p:Part)(hp:p.2.2.2.length<=1048576):∀(r pre:List Int) (last:Int) (N:Nat),p.2.2.2=pre++r->r.length<N->(pre=[]/\last = -1)\/(∃q,pre=q++[last]/\0<=last)->
  mV N ((i,(pre.length:Int),()),(o,p,()),())=some (cond (qbv o.1.length i last r) (.inr ((i,()),(o,()),())) (.inl ((80,()),(),())))
 |[],pre,last,N,bU,hN,_=>by
  obtain⟨k,rfl⟩:=qN hN
  simp only[mV,Fs]
  rw[bU]
  simp[qbv]
 |x::r,pre,last,N,bU,hN,oN=>by
  obtain⟨k,rfl⟩:=qN hN
  simp only[List.length_cons]at hN
  have hlt:((pre.length:Nat):Int)<(p.2.2.2.length:Int):=by rw[bU];exact xN pre x r
  have cW:∀{R:Type} (kk:Int->Option R),qn p.2.2.2 (pre.length:Int) kk=kk x:=λkk=>by rw[bU];exact xP pre x r kk rfl
  have Cw: -1<=last:=by rcases oN with⟨_,h⟩|⟨_,_,h⟩<;>omega
  simp only[mV,Fs]
  simp only[jF hlt,cond_true,cW,rC,qp]
  rw[jk (x:=(o.1.length:Int)-1) (by omega) (by omega),jk (x:=(pre.length:Int)+1) (by omega) (by omega)]
  simp only[qbv]
  cases h1:di x 0 ((o.1.length:Int)-1)with
  |false=>
   have zG:¬(0<=x/\x<=(o.1.length:Int)-1):=by
    intro h
    rw[di,jF h.1,jF h.2]at h1
    cases h1
   by_cases h2:last<x
   ·rw[fm (by omega:¬x<(o.1.length:Int))];simp
   ·rw[fm h2];simp
  |true=>
  simp only[di,Bool.and_eq_true,decide_eq_true_eq]at h1
  rw[jF (by omega:x<(o.1.length:Int))]
  simp only[Bool.not_true,cond_false,Bool.and_true]
  cases h3:x==i with
  |true=>simp
  |false=>
  simp only[cond_false,Bool.not_false,Bool.and_true]
  have ih:=pq o ho i p hp r (pre++[x]) x k (by rw[bU];simp) (by omega) (.inr ⟨pre,rfl,h1.1⟩)
  rw[xU]at ih
  rcases oN with⟨rfl,rfl⟩|⟨q,rfl,hq⟩
  ·rw[fm (by simp),jF (by omega: -1<x),cond_false,Bool.true_and]
   exact ih
  ·have Wg:∀{R:Type} (kk:Int->Option R),qn p.2.2.2 (IntKind.wrap .i64 (((q++[last]).length:Int)-1)) kk=kk last:=λkk=>by
    have hb:(q++[last]).length<=1048576:=by
     have:=congrArg List.length bU
     simp only[List.length_append,List.length_cons]at this
     simp only[List.length_append,List.length_cons,List.length_nil]
     omega
    rw[jk (by omega) (by omega),bU,YP]
    exact xP q last (x::r) kk (by simp)
   rw[jF (by simp),cond_true]
   simp only[Wg]
   by_cases h2:x<=last
   ·rw[jF h2,fm (by omega:¬last<x)];rfl
   ·rw[fm h2,jF (by omega:last<x),cond_false,Bool.true_and]
    exact ih
theorem uq(o:bw)(ho:o.1.length<=16)(hb:∀p∈o.1,p.2.2.2.length<=1048576):∀(r pre:List Part) (N:Nat),o.1=pre++r->r.length+1048576<N->
  vQ N (((pre.length:Int),()),(o,()),())=some (cond (wu o.1.length pre.length r) (.inr ((),(o,()),())) (.inl ((80,()),(),())))
 |[],pre,N,bU,hN=>by
  obtain⟨k,rfl⟩:=qN hN
  simp only[vQ,QD]
  rw[bU]
  simp[wu]
 |x::r,pre,N,bU,hN=>by
  obtain⟨k,rfl⟩:=qN hN
  simp only[List.length_cons]at hN
  have hlt:((pre.length:Nat):Int)<(o.1.length:Int):=by rw[bU];exact xN pre x r
  have cW:∀{R:Type} (kk:Part->Option R),qn o.1 (pre.length:Int) kk=kk x:=λkk=>by rw[bU];exact xP pre x r kk rfl
  have hx:=hb x (by rw[bU];simp)
  have ih:=uq o ho hb r (pre++[x]) k (by rw[bU];simp) (by omega)
  rw[xU]at ih
  have hin:=pq o ho (pre.length:Int) x hx x.2.2.2 [] (-1) k rfl (by omega) (.inl ⟨rfl,rfl⟩)
  have NQ:mV k (((pre.length:Int),0,()),(o,x,()),())=_:=hin
  simp only[vQ,QD]
  simp only[jF hlt,cond_true,cW,rC,qp,NQ,wu,YF]
  cases h1:di x.1 1 1000000 with
  |false=>simp
  |true=>
  cases h2:di x.2.1 1 100 with
  |false=>simp
  |true=>
  cases h3:di x.2.2.1 0 9 with
  |false=>simp
  |true=>
  cases h4:qbv o.1.length (pre.length:Int) (-1) x.2.2.2 with
  |false=>simp[RB]
  |true=>
   simp only[Bool.not_true,cond_false,cond_true,Hv,Bool.true_and]
   rw[jk (x:=(pre.length:Int)+1) (by omega) (by omega)]
   exact ih
structure Kj (n:Nat) (done:List Int) (aT:List Int):Prop where
 ll:aT.length=n
 cnt:∀i,i<n->aT[i]? = some ((done.count (i:Int):Nat):Int)
theorem Kj.step{n:Nat}{done aT:List Int}(h:Kj n done aT){x:Int}(hx0:0<=x)(_hx:x<n):Kj n (done++[x]) (aT.set x.toNat ((done.count x:Nat)+1)) where
 ll:=by simp[h.ll]
 cnt:=by
  intro i hi
  rw[List.getElem?_set,List.count_append,List.count_singleton]
  by_cases e:x.toNat=i
  ·subst e
   rw[if_pos rfl,if_pos (by rw[h.ll];exact hi),show((x.toNat:Nat):Int)=x by omega]
   simp
  ·rw[if_neg e,h.cnt i hi]
   have:¬(x=(i:Int)):=by omega
   simp[this]
theorem ph(o:bw)(ho:o.1.length<=16)(v:Int)(gO:List Int)(nW:0<=v)(hv:o.2.2[v.toNat]? = some gO)(hl:gO.length<=1048576):∀(r pre done aT:List Int) (N:Nat),gO=pre++r->r.length<N->done.length+r.length<=1048576->Kj o.1.length done aT->
  (r.all (λx=>di x 0 ((o.1.length:Int)-1))=false/\je N ((v,(pre.length:Int),()),(o,aT,()),())=some (.inl ((80,()),(),())))\/
  (r.all (λx=>di x 0 ((o.1.length:Int)-1))=true/\∃eZ,Kj o.1.length (done++r) eZ/\je N ((v,(pre.length:Int),()),(o,aT,()),())=some (.inr ((v,()),(o,eZ,()),())))
 |[],pre,done,aT,N,bU,hN,hb,h=>by
  obtain⟨k,rfl⟩:=qN hN
  refine .inr ⟨rfl,aT,by simpa using h,?_⟩
  simp only[je,Fp,j5 nW hv]
  rw[bU]
  simp
 |x::r,pre,done,aT,N,bU,hN,hb,h=>by
  obtain⟨k,rfl⟩:=qN hN
  simp only[List.length_cons]at hN hb
  have hlt:((pre.length:Nat):Int)<(gO.length:Int):=by rw[bU];exact xN pre x r
  have cW:∀{R:Type} (kk:Int->Option R),qn gO (pre.length:Int) kk=kk x:=λkk=>by rw[bU];exact xP pre x r kk rfl
  simp only[je,Fp,j5 nW hv]
  simp only[jF hlt,cond_true,cW,rC,qp,List.all_cons]
  rw[jk (x:=(o.1.length:Int)-1) (by omega) (by omega),jk (x:=(pre.length:Int)+1) (by omega) (by omega)]
  cases h1:di x 0 ((o.1.length:Int)-1)with
  |false=>exact .inl ⟨rfl,by simp⟩
  |true=>
  simp only[di,Bool.and_eq_true,decide_eq_true_eq]at h1
  simp only[Bool.not_true,cond_false,Bool.true_and]
  have hc:done.count x<=done.length:=List.count_le_length
  rw[uG h1.1 (by rw[h.ll];omega),j5 h1.1 (h.cnt x.toNat (by omega)),uG h1.1 (by rw[h.ll];omega),Ua h1.1 (by rw[h.ll];omega),
   show((x.toNat:Nat):Int)=x by omega,jk (by omega) (by omega)]
  have ih:=ph o ho v gO nW hv hl r (pre++[x]) (done++[x]) _ k (by rw[bU];simp) (by omega) (by simp;omega) (h.step h1.1 (by omega))
  rw[xU,YP]at ih
  exact ih
theorem pn(o:bw)(ho:o.1.length<=16)(hvl:o.2.2.length<=1048576)(hl:∀v∈o.2.2,v.length<=1048576):∀(r pre:List (List Int)) (done aT:List Int) (N:Nat),o.2.2=pre++r->r.length+1048576<N->done.length+r.flatten.length<=1048576->Kj o.1.length done aT->
  (r.flatten.all (λx=>di x 0 ((o.1.length:Int)-1))=false/\jf N (((pre.length:Int),()),(o,aT,()),())=some (.inl ((80,()),(),())))\/
  (r.flatten.all (λx=>di x 0 ((o.1.length:Int)-1))=true/\∃eZ,Kj o.1.length (done++r.flatten) eZ/\jf N (((pre.length:Int),()),(o,aT,()),())=some (.inr ((),(eZ,()),())))
 |[],pre,done,aT,N,bU,hN,hb,h=>by
  obtain⟨k,rfl⟩:=qN hN
  refine .inr ⟨rfl,aT,by simpa using h,?_⟩
  simp only[jf,Fq]
  rw[bU]
  simp
 |x::r,pre,done,aT,N,bU,hN,hb,h=>by
  obtain⟨k,rfl⟩:=qN hN
  simp only[List.length_cons,List.flatten_cons,List.length_append]at hN hb
  have hlt:((pre.length:Nat):Int)<(o.2.2.length:Int):=by rw[bU];exact xN pre x r
  have hx:=hl x (by rw[bU];simp)
  have hin:=ph o ho (pre.length:Int) x (by omega) (by rw[bU];simp) hx x [] done aT k rfl (by omega) (by omega) h
  simp only[jf,Fq,jF hlt,cond_true,List.flatten_cons,List.all_append]
  rcases hin with⟨hg,he⟩|⟨hg,eZ,hs,he⟩
  ·have he':je k (((pre.length:Int),0,()),(o,aT,()),())=_:=he
   rw[hg,he']
   exact .inl ⟨rfl,rfl⟩
  ·have he':je k (((pre.length:Int),0,()),(o,aT,()),())=_:=he
   rw[hg,he',qp,Hv,Bool.true_and]
   dsimp only
   rw[jk (x:=(pre.length:Int)+1) (by omega) (by omega)]
   have ih:=pn o ho hvl hl r (pre++[x]) (done++x) eZ k (by rw[bU];simp) (by omega) (by simp only[List.length_append];omega) hs
   rw[xU,List.append_assoc]at ih
   exact ih
theorem pg(aT:List Int)(hl:aT.length<=1048576):∀(r pre:List Int) (N:Nat),aT=pre++r->r.length<N->
  mU N (((pre.length:Int),()),(aT,()),())=some (cond (r.all (· == 1)) (.inr ((),(),())) (.inl ((80,()),(),())))
 |[],pre,N,bU,hN=>by
  obtain⟨k,rfl⟩:=qN hN
  simp only[mU,Fo]
  rw[bU]
  simp
 |x::r,pre,N,bU,hN=>by
  obtain⟨k,rfl⟩:=qN hN
  simp only[List.length_cons]at hN
  have hlt:((pre.length:Nat):Int)<(aT.length:Int):=by rw[bU];exact xN pre x r
  have cW:∀{R:Type} (kk:Int->Option R),qn aT (pre.length:Int) kk=kk x:=λkk=>by rw[bU];exact xP pre x r kk rfl
  simp only[mU,Fo,jF hlt,cond_true,cW,uG (show(0:Int)<=(pre.length:Int) by omega) hlt,List.all_cons]
  rw[jk (x:=(pre.length:Int)+1) (by omega) (by omega)]
  cases h:x==1 with
  |false=>
   have:(x !=1)=true:=by simp[bne,h]
   rw[this];rfl
  |true=>
   have:(x !=1)=false:=by simp[bne,h]
   rw[this,cond_false,Bool.true_and]
   have ih:=pg aT hl r (pre++[x]) k (by rw[bU];simp) (by omega)
   rw[xU]at ih
   exact ih
theorem WI(k:bw)(hk:Small k):g6 (k,())=some ((cond (valid k) 0 80,()),()):=by
 have hF:g6 (k,())=F6 qk k:=rfl
 rw[hF]
 unfold F6 valid
 by_cases h1:k.1.length<=16
 case neg=>rw[jF (by omega:(k.1.length:Int)>16),fm h1];rfl
 rw[fm (by omega:¬(k.1.length:Int)>16),jF h1,cond_false]
 by_cases h2:k.2.2.length<=6
 case neg=>rw[jF (by omega:(k.2.2.length:Int)>6),fm h2];rfl
 rw[fm (by omega:¬(k.2.2.length:Int)>6),jF h2,cond_false,rC,qp]
 cases h3:di k.2.1 1 1000000 with
 |false=>rfl
 |true=>
 simp only[Bool.not_true,cond_false,Bool.true_and]
 have hp:=uq k h1 hk.wF k.1 [] qk rfl (by have:=Gj;omega)
 have IB:vQ qk ((0,()),(k,()),())=some (cond (wu (k.1.length:Int) 0 k.1) (.inr ((),(k,()),())) (.inl ((80,()),(),()))):=hp
 rw[IB,qp]
 cases h4:wu (k.1.length:Int) 0 k.1 with
 |false=>rfl
 |true=>
 simp only[cond_true,Hv,Bool.true_and,vi (show(0:Int)<=(k.1.length:Int) by omega),vi (Int.le_refl (k.1.length:Int)),Ho (show(0:Int)<=(k.1.length:Int) by omega) (by omega)]
 have h0:Kj k.1.length [] (List.replicate (k.1.length:Int).toNat 0):=⟨by simp,λi hi=>by simp[hi]⟩
 rcases pn k h1 hk.bi hk.gO k.2.2 [] [] _ qk rfl (by have:=Gj;omega) (by simpa using hk.flat) h0 with⟨h5,h6⟩|⟨h5,aT,hs,h6⟩
 ·have h6':jf qk ((0,()),(k,(List.replicate (k.1.length:Int).toNat 0),()),())=_:=h6
  rw[h6',qp,RB]
  have:nS k.1.length [] k.2.2.flatten=false:=by
   cases hg:nS k.1.length [] k.2.2.flatten with
   |false=>rfl
   |true=>
    have uQ:=((ZD _ _ _).1 hg).1
    have:k.2.2.flatten.all (λx=>di x 0 ((k.1.length:Int)-1))=true:=by
     rw[List.all_eq_true]
     intro x hx
     have:=uQ x hx
     simp only[di,Bool.and_eq_true,decide_eq_true_eq]
     omega
    rw[this]at h5
    cases h5
  rw[this]
  rfl
 ·have h6':jf qk ((0,()),(k,(List.replicate (k.1.length:Int).toNat 0),()),())=_:=h6
  rw[h6',qp,Hv]
  dsimp only
  have h7:=pg aT (by rw[hs.ll];omega) aT [] qk rfl (by rw[hs.ll];have:=Gj;omega)
  have h7':mU qk ((0,()),(aT,()),())=some (cond (aT.all (· == 1)) (.inr ((),(),())) (.inl ((80,()),(),()))):=h7
  rw[h7',qp]
  have hr:∀x∈k.2.2.flatten,0<=x/\x<k.1.length:=by
   intro x hx
   have:=List.all_eq_true.1 h5 x hx
   simp only[di,Bool.and_eq_true,decide_eq_true_eq]at this
   omega
  have e:aT.all (· == 1)=(nS k.1.length [] k.2.2.flatten&&decide (k.2.2.flatten.length=k.1.length)):=by
   rw[Bool.eq_iff_iff]
   have e1:(aT.all (· == 1))=true↔∀i,i<k.1.length->(k.2.2.flatten).count (i:Int)=1:=by
    rw[List.all_eq_true]
    constructor
    ·intro h i hi
     have hc:=hs.cnt i hi
     have:=h _ (List.mem_of_getElem? hc)
     have t:((k.2.2.flatten.count (i:Int):Nat):Int)=1:=by simpa using this
     omega
    ·intro h x hx
     obtain⟨i,hi,rfl⟩:=List.mem_iff_getElem.1 hx
     have hc:=hs.cnt i (by rw[<-hs.ll];exact hi)
     rw[List.getElem?_eq_getElem hi]at hc
     rw[Option.some.inj hc,List.nil_append,h i (by rw[<-hs.ll];exact hi)]
     rfl
   rw[e1,qjx hr,Bool.and_eq_true,ZD,decide_eq_true_eq]
   constructor
   ·rintro⟨h8,h9⟩;exact⟨⟨hr,h8,by simp⟩,h9⟩
   ·rintro⟨⟨_,h8,_⟩,h9⟩;exact⟨h8,h9⟩
  rw[e]
  cases nS k.1.length [] k.2.2.flatten&&decide (k.2.2.flatten.length=k.1.length)<;>rfl
def has(s:List Bool)(p:Int):Bool:=s.getD p.toNat false
theorem Zf{R:Type}{s:List Bool}{p:Int}(h0:0<=p)(h:p<s.length)(k:Bool->Option R):qn s p k=k (has s p):=by
 rw[Ua h0 h]
 unfold has
 rw[List.getD_eq_getElem?_getD,List.getElem?_eq_getElem (by omega)]
 rfl
theorem pu(s:List Int)(hs:s.length<=1048576)(f:Int->Option Bool)(b:Int->Bool)(hf:∀x∈s,f x=some (b x)):∀(r pre:List Int) (N:Nat),s=pre++r->r.length<N->
  ∃i:Int,0<=i/\mW N ((s,f,(s.length:Int),(pre.length:Int),()),(),())=some (cond (r.any b) (.inl ((i,()),(),())) (.inr ((),(),())))
 |[],pre,N,bU,hN=>by
  obtain⟨k,rfl⟩:=qN hN
  refine⟨0,Int.le_refl _,?_⟩
  simp only[mW,Ft]
  rw[bU]
  simp
 |x::r,pre,N,bU,hN=>by
  obtain⟨k,rfl⟩:=qN hN
  simp only[List.length_cons]at hN
  have hlt:((pre.length:Nat):Int)<(s.length:Int):=by rw[bU];exact xN pre x r
  have cW:∀{R:Type} (kk:Int->Option R),qn s (pre.length:Int) kk=kk x:=λkk=>by rw[bU];exact xP pre x r kk rfl
  obtain⟨i,hi,ih⟩:=pu s hs f b hf r (pre++[x]) k (by rw[bU];simp) (by omega)
  rw[xU]at ih
  simp only[mW,Ft]
  rw[jF hlt,cond_true,cW,hf x (by rw[bU];simp),qp,jk (by omega) (by omega),List.any_cons]
  cases b x with
  |true=>exact⟨pre.length,by omega,rfl⟩
  |false=>exact⟨i,hi,by rw[cond_false,Bool.false_or];exact ih⟩
theorem Oz{s:List Int}(hs:s.length<=1048576){f:Int->Option Bool}{b:Int->Bool}(hf:∀x∈s,f x=some (b x)):Lo (s,f,())=some ((s.any b,()),()):=by
 have hF:Lo (s,f,())=qa (g69 (s,f,())) λy1=>some (((decide (y1.1.1>=0)),()),()):=rfl
 have hG:g69 (s,f,())=F69 qk s f:=rfl
 obtain⟨i,hi,h⟩:=pu s hs f b hf s [] qk rfl (by have:=Gj;omega)
 have h':mW qk ((s,f,(s.length:Int),0,()),(),())=_:=h
 rw[hF,hG]
 unfold F69
 rw[h',qp]
 cases s.any b with
 |true=>simp only[cond_true,RB,qp];rw[jF hi]
 |false=>rfl
theorem CW{s:List Bool}{l:List Int}(hl:l.length<=1048576)(hr:∀x∈l,0<=x/\x<s.length):WN (s,l,())=some ((l.all (has s),()),()):=by
 have hF:WN (s,l,())=F34 qk s l:=rfl
 rw[hF]
 unfold F34
 rw[Oz hl (b:=λx=>!has s x) (λx hx=>?_),qp]
 ·have:(!l.any λx=>!has s x)=l.all (has s):=by rw[<-List.not_all_eq_any_not,Bool.not_not]
  simp only[this]
 ·have hG:g61 (x,s,())=F61 qk x s:=rfl
  rw[hG]
  unfold F61
  rw[Zf (hr x hx).1 (hr x hx).2]
  rfl
def A_(high low:Int):Bool->List Int->Bool
 |_,[]=>false
 |seen,x::r=>(seen&&x==high)||A_ high low (seen||x==low) r
theorem qgX(high low:Int):∀r:List Int,A_ high low true r=decide (high∈r)
 |[]=>rfl
 |x::r=>by
  simp only[A_,Bool.true_and,Bool.true_or,qgX high low r]
  rw[Bool.eq_iff_iff]
  simp only[Bool.or_eq_true,beq_iff_eq,decide_eq_true_eq,List.mem_cons]
  constructor
  ·rintro(h|h);exact .inl h.symm;exact .inr h
  ·rintro(h|h);exact .inl h.symm;exact .inr h
theorem UD(high low:Int):∀(r:List Int),low∉r->A_ high low false r=false
 |[],_=>rfl
 |x::r,h=>by
  simp only[List.mem_cons,not_or]at h
  simp only[A_,Bool.false_and,Bool.false_or]
  rw[show(x==low)=false by simp;exact λe=>h.1 e.symm]
  exact UD high low r h.2
theorem qgp(high low:Int)(r:List Int):∀(pre:List Int),low∉pre->A_ high low false (pre++low::r)=decide (high∈r)
 |[],_=>by
  simp only[List.nil_append,A_,Bool.false_and,Bool.false_or,beq_self_eq_true]
  exact qgX high low r
 |x::pre,h=>by
  simp only[List.mem_cons,not_or]at h
  simp only[List.cons_append,A_,Bool.false_and,Bool.false_or]
  rw[show(x==low)=false by simp;exact λe=>h.1 e.symm]
  exact qgp high low r pre h.2
def J_(bi:List (List Int))(high low:Int):Bool:=bi.any λv=>A_ high low false v
structure nA (k:bw):Prop where
 parts:k.1.length<=16
 each:∀(i:Nat) p,k.1[i]? = some p->di p.1 1 1000000=true/\di p.2.1 1 100=true/\di p.2.2.1 0 9=true/\qbv k.1.length i (-1) p.2.2.2=true
 acg:di k.2.1 1 1000000=true
 flat:∀x∈k.2.2.flatten,0<=x/\x<k.1.length
 nodup:k.2.2.flatten.Nodup
 all:∀i,i<k.1.length->(i:Int)∈k.2.2.flatten
theorem qgz{n:Int}:∀{l:List Part} {j:Int},wu n j l=true->∀(i:Nat) p,l[i]? = some p->di p.1 1 1000000=true/\di p.2.1 1 100=true/\di p.2.2.1 0 9=true/\qbv n (j+i) (-1) p.2.2.2=true
 |[],_,_,i,p,h=>by simp at h
 |q::l,j,hq,i,p,h=>by
  simp only[wu,YF,Bool.and_eq_true]at hq
  obtain⟨⟨⟨⟨h1,h2⟩,h3⟩,h4⟩,h5⟩:=hq
  cases i with
  |zero=>simp at h;subst h;exact⟨h1,h2,h3,by simpa using h4⟩
  |succ i=>
   simp at h
   have:=qgz h5 i p h
   rw[show j+((i+1:Nat):Int)=j+1+(i:Int) by omega]
   exact this
theorem jc(k:bw)(h:valid k=true):nA k:=by
 unfold valid at h
 simp only[Bool.and_eq_true,decide_eq_true_eq]at h
 obtain⟨⟨⟨⟨⟨h1,h2⟩,h3⟩,h4⟩,h5⟩,h6⟩:=h
 obtain⟨h7,h8,_⟩:=(ZD _ _ _).1 h5
 refine⟨h1,λi p hp=>by simpa using qgz h4 i p hp,h3,h7,h8,λi hi=>?_⟩
 have:=(qjx h7).2 ⟨h8,h6⟩ i hi
 exact List.count_pos_iff.1 (by omega)
theorem qf9{n i:Int}:∀{l:List Int} {last:Int},-1<=last->qbv n i last l=true->∀x∈l,0<=x/\x<n/\x≠i
 |[],_,_,_,x,hx=>by cases hx
 |y::l,last,hl,h,x,hx=>by
  simp only[qbv,Bool.and_eq_true,decide_eq_true_eq,Bool.not_eq_true',beq_eq_false_iff_ne,ne_eq]at h
  obtain⟨⟨⟨h1,h2⟩,h3⟩,h4⟩:=h
  rcases List.mem_cons.1 hx with rfl|hx
  ·exact⟨by omega,h2,h3⟩
  ·exact qf9 (by omega) h4 x hx
theorem nA.spot{k:bw}(h:nA k){p:Int}(h0:0<=p)(hp:p<k.1.length):∃pre post,(pre,p,post)∈zf k.2.2/\(∀high,J_ k.2.2 high p=decide (high∈post))/\(∀x∈post,0<=x/\x<k.1.length)/\(∀x∈pre,0<=x/\x<k.1.length):=by
 have hm:=h.all p.toNat (by omega)
 rw[show((p.toNat:Nat):Int)=p by omega]at hm
 obtain⟨gO,Cd,hpv⟩:=List.mem_flatten.1 hm
 obtain⟨A,B,Sw⟩:=List.append_of_mem Cd
 obtain⟨pre,post,nY⟩:=List.append_of_mem hpv
 have hn:=h.nodup
 rw[Sw,List.flatten_append,List.flatten_cons,nY,List.nodup_append]at hn
 obtain⟨_,sc,hd⟩:=hn
 rw[List.nodup_append]at sc
 obtain⟨VM,_,hd2⟩:=sc
 rw[List.nodup_append]at VM
 obtain⟨_,_,hd3⟩:=VM
 have hA:∀v∈A,p∉v:=λv hv hpv=>hd p (List.mem_flatten.2 ⟨v,hv,hpv⟩) p (by simp) rfl
 have hB:∀v∈B,p∉v:=λv hv hpv=>hd2 p (by simp) p (List.mem_flatten.2 ⟨v,hv,hpv⟩) rfl
 have hpre:p∉pre:=λhq=>hd3 p hq p List.mem_cons_self rfl
 have hin:∀x∈gO,0<=x/\x<k.1.length:=λx hx=>h.flat x (List.mem_flatten.2 ⟨gO,Cd,hx⟩)
 refine⟨pre,post,?_,λhigh=>?_,λx hx=>hin x (by rw[nY];simp[hx]),λx hx=>hin x (by rw[nY];simp[hx])⟩
 ·unfold zf
  rw[List.mem_flatMap]
  exact⟨gO,Cd,by rw[nY];exact qlF pre [] p post⟩
 ·unfold J_
  rw[Sw,List.any_append,List.any_cons,nY,qgp high p post pre hpre]
  have e1:A.any (λv=>A_ high p false v)=false:=by
   rw[List.any_eq_false]
   intro v hv
   rw[UD high p v (hA v hv)]
   simp
  have e2:B.any (λv=>A_ high p false v)=false:=by
   rw[List.any_eq_false]
   intro v hv
   rw[UD high p v (hB v hv)]
   simp
  rw[e1,e2]
  simp
def ig(k:bw)(s:List Bool)(p:Int):Bool:=
 match k.1[p.toNat]? with
 |some q=>!has s p&&q.2.2.2.all (has s)&&decide (q.1<=k.2.1)&&(AU k.1.length).all λi=>!J_ k.2.2 i p||has s i
 |none=>false
theorem CX{k:bw}(hk:Small k)(h:nA k){y:oh}(hy:Mg k y){s:List Bool}(hs:s.length=k.1.length){p:Int}(h0:0<=p)(hp:p<k.1.length):g23 (y,s,p,())=some ((ig k s p,()),()):=by
 obtain⟨rfl,many,aT,hst⟩:=hy
 obtain⟨pre,post,hd,hab,hpost,_⟩:=h.spot h0 hp
 obtain⟨hsa,_⟩:=hst.spot _ hd
 have hq:y.1.1[p.toNat]? = some (y.1.1[p.toNat]'(by omega)):=List.getElem?_eq_getElem (by omega)
 generalize y.1.1[p.toNat]'(by omega)=q at hq
 obtain⟨_,_,_,hne⟩:=h.each _ _ hq
 have hnl:=hk.wF q (List.mem_of_getElem? hq)
 have yh:=qf9 (by omega) hne
 have eR:post.length<=1048576:=by
  obtain⟨v,hv,Wk⟩:=List.mem_flatMap.1 hd
  have:=congrArg List.length (qg6 v [] Wk)
  have:=hk.gO v hv
  simp at *
  omega
 have hF:g23 (y,s,p,())=F23 qk y s p:=rfl
 rw[hF]
 unfold F23 ig
 rw[hq,Zf h0 (by omega)]
 simp only[j5 h0 hq,j5 h0 hsa]
 cases has s p with
 |true=>rfl
 |false=>
 simp only[Bool.not_false,cond_true,Bool.true_and]
 rw[CW hnl (λx hx=>by have:=yh x hx;omega),qp]
 cases q.2.2.2.all (has s)with
 |false=>rfl
 |true=>
 simp only[cond_true,Bool.true_and]
 by_cases hw:q.1<=y.1.2.1
 ·rw[jF hw,cond_true,CW eR (λx hx=>by have:=hpost x hx;omega),qp,Bool.true_and]
  congr 3
  rw[Bool.eq_iff_iff,List.all_eq_true,List.all_eq_true]
  constructor
  ·intro hh i hi
   rw[hab i]
   by_cases hm:i∈post
   ·rw[hh i hm];simp
   ·rw[fm hm];rfl
  ·intro hh x hx
   have:=hh x (Gu.2 (hpost x hx))
   rw[hab x,jF hx]at this
   simpa using this
 ·rw[fm hw];rfl
def AY(f:Nat->Bool):Nat->Nat->Option Nat
 |0,_=>none
 |m+1,p=>bif f p then some p else AY f m (p+1)
abbrev um:=List Int×List Bool
def sP(x:um)(p:Nat):um:=(x.1++[(p:Int)],x.2.set p true)
def vf(k:bw)(x:um):um:=match AY (λp=>ig k x.2 (p:Int)) k.1.length 0 with
 |some p=>sP x p
 |none=>x
def rU(k:bw):Nat->um->um
 |0,x=>x
 |m+1,x=>rU k m (vf k x)
def pV(k:bw):um:=([],List.replicate k.1.length false)
def fg(k:bw):um:=rU k k.1.length (pV k)
theorem qfj{f:Nat->Bool}:∀{m p:Nat} (j:Nat),(∀q,p<=q->q<p+j->f q=false)->j<=m->AY f m p=AY f (m-j) (p+j)
 |m,p,0,_,_=>by simp
 |0,p,j+1,_,h=>by omega
 |m+1,p,j+1,hf,h=>by
  rw[AY,hf p (Nat.le_refl _) (by omega),cond_false,qfj (m:=m) (p:=p+1) j (λq h1 h2=>hf q (by omega) (by omega)) (by omega)]
  rw[show m+1-(j+1)=m-j by omega,show p+1+j=p+(j+1) by omega]
theorem qmk{f:Nat->Bool}{m p:Nat}(h:∀q,p<=q->q<p+m->f q=false):AY f m p=none:=by
 rw[qfj m h (Nat.le_refl _),Nat.sub_self]
 rfl
theorem qny{f:Nat->Bool}{m q:Nat}(hq:q<m)(h:∀j,j<q->f j=false)(hf:f q=true):AY f m 0=some q:=by
 rw[qfj q (λj _ hj=>h j (by omega)) (by omega)]
 obtain⟨r,hr⟩:∃r,m-q=r+1:=⟨m-q-1,by omega⟩
 rw[hr,Nat.zero_add,AY,hf]
 rfl
theorem qiL(k:bw){x:um}(h:AY (λp=>ig k x.2 (p:Int)) k.1.length 0=none):∀m,rU k m x=x
 |0=>rfl
 |m+1=>by
  have:vf k x=x:=by unfold vf;rw[h]
  rw[rU,this]
  exact qiL k h m
theorem Ug{k:bw}{s:List Bool}{p:Int}(h:ig k s p=true):has s p=false:=by
 unfold ig at h
 split at h
 ·simp only[Bool.and_eq_true,Bool.not_eq_true']at h
  exact h.1.1.1
 ·cases h
theorem qc4{s:List Bool}{p:Nat}(hp:p<s.length)(h:has s (p:Int)=false):(s.set p true).count false+1=s.count false:=by
 have hg:s[p]=false:=by
  unfold has at h
  rw[List.getD_eq_getElem?_getD,List.getElem?_eq_getElem (by simpa using hp)]at h
  simpa using h
 have hpos:0<s.count false:=List.count_pos_iff.2 (by rw[<-hg];exact List.getElem_mem hp)
 rw[List.count_set hp,hg]
 simp
 omega
theorem kj{k:bw}(hk:Small k)(hf:nA k){y:oh}(hy:Mg k y):∀(m:Nat) (d p:Nat) (l:List Int) (s:List Bool) (N:Nat),s.length=k.1.length->s.count false<=m->p+d=k.1.length->(∀q,q<p->ig k s (q:Int)=false)->l.length+m<=1048576->m*(k.1.length+1)+d<N->
  nh N ((y,(p:Int),()),(l,s,()),())=some ((),((rU k m (l,s)).1,(rU k m (l,s)).2,()),())
 |m,0,p,l,s,N,hs,hc,hp,hq,hl,hN=>by
  obtain⟨n,rfl⟩:=qN hN
  simp only[nh,FF]
  rw[fm (by omega),cond_false,qiL k (qmk (λq _ h2=>hq q (by omega)))]
 |m,d+1,p,l,s,N,hs,hc,hp,hq,hl,hN=>by
  obtain⟨n,rfl⟩:=qN hN
  simp only[nh,FF]
  have hps:(p:Int)<(s.length:Int):=by omega
  have vA:=hf.parts
  rw[jF hps,cond_true,CX hk hf hy hs (by omega) (by omega),qp]
  cases hcan:ig k s (p:Int)with
  |false=>
   rw[cond_false,jk (by omega) (by omega),show(p:Int)+1=((p+1:Nat):Int) by omega]
   exact kj hk hf hy m d (p+1) l s n hs hc (by omega) (λq uL=>by
    rcases Nat.lt_or_ge q p with h|h
    ·exact hq q h
    ·rw[show q=p by omega];exact hcan) hl (by omega)
  |true=>
   have hfalse:=Ug hcan
   have hcs:=qc4 (by omega:p<s.length) hfalse
   obtain⟨m',rfl⟩:∃m',m=m'+1:=⟨m-1,by omega⟩
   have hst:vf k (l,s)=(l++[(p:Int)],s.set p true):=by
    unfold vf
    rw[qny (by omega:p<k.1.length) hq hcan]
    rfl
   rw[cond_true,uG (by omega) hps,Zf (by omega) hps,Ho (by simp;omega) (by simp;omega),jk (by omega) (by omega)]
   simp only[rU]
   rw[hst,show((p:Int)).toNat=p by omega]
   have hN':m'*(k.1.length+1)+k.1.length<n:=by
    rw[Nat.succ_mul]at hN
    omega
   exact kj hk hf hy m' k.1.length 0 (l++[(p:Int)]) (s.set p true) n (by simp[hs]) (by omega) (by omega) (λq h=>by omega) (by simp;omega) hN'
 termination_by m d=>(m,d)
theorem CZ{k:bw}(hk:Small k)(hf:nA k){y:oh}(hy:Mg k y):g21 (y,())=some (((fg k).1,(fg k).2,()),()):=by
 have hyk:=hy.1
 have hF:g21 (y,())=F21 qk y:=rfl
 have vA:=hf.parts
 rw[hF]
 unfold F21
 rw[hyk]
 simp only[vi (show(0:Int)<=(k.1.length:Int) by omega),vi (Int.le_refl (k.1.length:Int)),Ho (show(0:Int)<=(k.1.length:Int) by omega) (by omega)]
 have hm:k.1.length*(k.1.length+1)+k.1.length<qk:=by
  have:=Gj
  have:k.1.length*(k.1.length+1)<=16*17:=Nat.mul_le_mul vA (by omega)
  omega
 have h:=kj hk hf hy k.1.length k.1.length 0 [] (List.replicate k.1.length false) qk (by simp) (by simp) (by omega) (λq h=>by omega) (by simp;omega) hm
 have h':nh qk ((y,0,()),([],List.replicate (k.1.length:Int).toNat false,()),())=_:=h
 rw[h',qp]
 rfl
theorem qj1{k:bw}{x:um}:(vf k x).2.length=x.2.length/\(vf k x).1.length<=x.1.length+1:=by
 unfold vf
 split
 ·unfold sP;simp
 ·simp
theorem qlM{k:bw}:∀(m:Nat) (x:um),(rU k m x).2.length=x.2.length/\(rU k m x).1.length<=x.1.length+m
 |0,x=>⟨rfl,by simp[rU]⟩
 |m+1,x=>by
  obtain⟨e1,e2⟩:=qlM (k:=k) m (vf k x)
  obtain⟨e3,e4⟩:=qj1 (k:=k) (x:=x)
  rw[rU]
  exact⟨by rw[e1,e3],by omega⟩
theorem qjr(k:bw):(fg k).2.length=k.1.length/\(fg k).1.length<=k.1.length:=by
 obtain⟨e1,e2⟩:=qlM (k:=k) k.1.length (pV k)
 exact⟨by rw[fg,e1];simp[pV],by simpa[fg,pV]using e2⟩
theorem Ri{R:Type}{n:Int}(h1: -9223372036854775808<=n)(h2:n<=9223372036854775807)(k:Option R):dR n k=k:=by rw[YJ,if_pos ⟨h1,h2⟩]
abbrev KV:=List (Int×Int)
theorem Ba:∀{kv:KV} {x v:Int},bX kv x=some v->(x,v)∈kv
 |[],_,_,h=>by cases h
 |(n,u)::r,x,v,h=>by
  unfold bX at h
  cases hn:n==x with
  |true=>
   rw[hn,cond_true]at h
   rw[eq_of_beq hn,Option.some.inj h]
   exact List.mem_cons_self
  |false=>rw[hn,cond_false]at h;exact List.mem_cons_of_mem _ (Ba h)
theorem RQ:∀{kv:KV} {x v:Int},(kv.map (·.1)).Nodup->(x,v)∈kv->bX kv x=some v
 |[],_,_,_,h=>by cases h
 |(n,u)::r,x,v,hn,h=>by
  rw[List.map_cons,List.nodup_cons]at hn
  unfold bX
  rcases List.mem_cons.1 h with h|h
  ·cases h;rw[beq_self_eq_true,cond_true]
  ·have:(n==x)=false:=by
    simp only[beq_eq_false_iff_ne,ne_eq]
    rintro rfl
    exact hn.1 (List.mem_map.2 ⟨_,h,rfl⟩)
   rw[this,cond_false]
   exact RQ hn.2 h
theorem MF:∀{kv:KV} {x:Int},bX kv x=none->x∉kv.map (·.1)
 |[],_,_=>by simp
 |(n,u)::r,x,h=>by
  unfold bX at h
  cases hn:n==x with
  |true=>rw[hn,cond_true]at h;cases h
  |false=>
   rw[hn,cond_false]at h
   simp only[List.map_cons,List.mem_cons,not_or]
   exact⟨(λe=>by rw[e,beq_self_eq_true]at hn;cases hn),MF h⟩
theorem qj9:∀{kv:KV} {x v:Int},bX kv x=none->nQ kv x v=kv++[(x,v)]
 |[],_,_,_=>rfl
 |(n,u)::r,x,v,h=>by
  unfold bX at h
  unfold nQ
  cases hn:n==x with
  |true=>rw[hn,cond_true]at h;cases h
  |false=>rw[hn,cond_false]at h;rw[cond_false,qj9 h];rfl
theorem Uh(x:Int):∀(kv:KV),(nO kv x).Sublist kv
 |[]=>.refl _
 |(n,u)::r=>by
  unfold nO
  cases n==x with
  |true=>exact List.sublist_cons_self _ _
  |false=>exact(Uh x r).cons_cons _
theorem HC{n x:Int}:∀{l:List Int},x∈oz n l↔x∈l/\x≠n
 |[]=>by simp[oz]
 |y::l=>by
  unfold oz
  cases hy:y==n with
  |true=>
   have:=eq_of_beq hy
   subst this
   rw[cond_true,HC (l:=l),List.mem_cons]
   constructor
   ·rintro⟨h1,h2⟩;exact⟨.inr h1,h2⟩
   ·rintro⟨h1|h1,h2⟩
    ·exact absurd h1 h2
    ·exact⟨h1,h2⟩
  |false=>
   rw[cond_false,List.mem_cons,HC (l:=l),List.mem_cons]
   constructor
   ·rintro(rfl|⟨h1,h2⟩)
    ·exact⟨.inl rfl,by simpa using hy⟩
    ·exact⟨.inr h1,h2⟩
   ·rintro⟨h1|h1,h2⟩
    ·exact .inl h1
    ·exact .inr ⟨h1,h2⟩
theorem qhw{n:Int}:∀{l:List Int},(oz n l).length<=l.length
 |[]=>Nat.le_refl _
 |y::l=>by
  unfold oz
  cases y==n with
  |true=>exact Nat.le_succ_of_le qhw
  |false=>exact Nat.succ_le_succ qhw
theorem qmo{n:Int}:∀{l:List Int},n∈l->(oz n l).length<l.length
 |[],h=>by cases h
 |y::l,h=>by
  unfold oz
  cases hy:y==n with
  |true=>exact Nat.lt_succ_of_le qhw
  |false=>
   rcases List.mem_cons.1 h with rfl|h
   ·rw[beq_self_eq_true]at hy;cases hy
   ·exact Nat.succ_lt_succ (qmo h)
def Fe(v:Int->Int)(now:Int)(lf:List Int)(r:Int):Prop:=
 (now<0/\lf=[]/\r=now)\/(((0<=now/\r=now)\/∃x∈lf,v x=r)/\(0<=now->r<=now)/\∀x∈lf,r<=v x)
def uZ(kv:KV)(x:Int):Int:=(bX kv x).getD 0
theorem gM(aj:Int)(y:Option oh)(k:bw)(s:List Bool)(kv:KV)(hv:∀x v,(x,v)∈kv->0<=v):∀(m:Nat) (lf:List Int) (now r:Int) (N:Nat),lf.length<=m->m<N->(∀x∈lf,∃v,bX kv x=some v)->Fe (uZ kv) now lf r->
  oW N ((aj,y,now,()),(k,s,()),(kv,lf))=some ((aj,y,r,()),(k,s,()),kv)
 |m,[],now,r,N,_,hN,_,h=>by
  obtain⟨n,rfl⟩:=qN hN
  have:r=now:=by
   rcases h with⟨_,_,h⟩|⟨h,_,_⟩
   ·exact h
   ·rcases h with⟨_,h⟩|⟨x,hx,_⟩
    ·exact h
    ·cases hx
  subst this
  simp only[oW,Fi]
 |0,x::l,_,_,_,h,_,_,_=>by simp at h
 |m+1,x::l,now,r,N,hm,hN,hlk,h=>by
  obtain⟨n,rfl⟩:=qN hN
  simp only[oW,Fi]
  refine Yz x List.mem_cons_self λi hi=>?_
  obtain⟨v,zz⟩:=hlk i hi
  rw[zz]
  dsimp only
  have hvi:uZ kv i=v:=by unfold uZ;rw[zz];rfl
  have nW:=hv i v (Ba zz)
  have NL:∀x'∈oz i (x::l),∃v,bX kv x'=some v:=λx' hx'=>hlk x' (HC.1 hx').1
  have hm':(oz i (x::l)).length<=m:=by have:=qmo hi;omega
  have key:∀BB,0<=BB->(BB=v/\(now<0\/v<now)\/BB=now/\0<=now/\now<=v)->Fe (uZ kv) BB (oz i (x::l)) r:=by
   intro BB h0 ja
   rcases h with⟨_,h,_⟩|⟨h1,h2,h3⟩
   ·cases h
   ·have hri:=h3 i hi
    rw[hvi]at hri
    right
    refine⟨?_,λ_=>?_,λz hz=>h3 z (HC.1 hz).1⟩
    ·rcases h1 with⟨ha,hb⟩|⟨z,hz,hb⟩
     ·left
      have:=h2 ha
      rcases ja with⟨e,e1|e1⟩|⟨e,_,_⟩
      ·omega
      ·omega
      ·omega
     ·by_cases wM:z=i
      ·subst wM
       rw[hvi]at hb
       left
       rcases ja with⟨e,_⟩|⟨e,e1,e2⟩
       ·omega
       ·have:=h2 e1;omega
      ·exact .inr ⟨z,HC.2 ⟨hz,wM⟩,hb⟩
    ·rcases ja with⟨e,_⟩|⟨e,e1,_⟩
     ·omega
     ·have:=h2 e1;omega
  by_cases ja:now<0
  ·rw[jF ja,cond_true]
   exact gM aj y k s kv hv m _ _ _ n hm' (by omega) NL (key v nW (.inl ⟨rfl,.inl ja⟩))
  ·rw[fm ja,cond_false]
   by_cases hlt:v<now
   ·rw[jF hlt,cond_true]
    exact gM aj y k s kv hv m _ _ _ n hm' (by omega) NL (key v nW (.inl ⟨rfl,.inr hlt⟩))
   ·rw[fm hlt,cond_false]
    exact gM aj y k s kv hv m _ _ _ n hm' (by omega) NL (key now (by omega) (.inr ⟨rfl,by omega,by omega⟩))
def fC:KV->Int
 |[]=>-1
 |(_,v)::r=>r.foldl (λa x=>min a x.2) v
theorem qko:∀(l:KV) (a:Int),(l.foldl (λa x=>min a x.2) a=a\/∃x∈l,x.2=l.foldl (λa x=>min a x.2) a)/\l.foldl (λa x=>min a x.2) a<=a/\∀x∈l,l.foldl (λa x=>min a x.2) a<=x.2
 |[],a=>by simp
 |y::l,a=>by
  obtain⟨h1,h2,h3⟩:=qko l (min a y.2)
  rw[List.foldl_cons]
  refine⟨?_,by omega,λx hx=>?_⟩
  ·rcases h1 with h1|⟨x,hx,h1⟩
   ·rw[h1]
    by_cases h:a<=y.2
    ·left;omega
    ·right;exact⟨y,List.mem_cons_self,by omega⟩
   ·exact .inr ⟨x,List.mem_cons_of_mem _ hx,h1⟩
  ·rcases List.mem_cons.1 hx with rfl|hx
   ·omega
   ·exact h3 x hx
theorem Zq(kv:KV)(hkv:kv≠[]):(∃x∈kv,x.2=fC kv)/\∀x∈kv,fC kv<=x.2:=by
 match kv,hkv with
 |(n,v)::r,_=>
  obtain⟨h1,h2,h3⟩:=qko r v
  refine⟨?_,λx hx=>?_⟩
  ·rcases h1 with h1|⟨x,hx,h1⟩
   ·exact⟨(n,v),List.mem_cons_self,h1.symm⟩
   ·exact⟨x,List.mem_cons_of_mem _ hx,h1⟩
  ·rcases List.mem_cons.1 hx with rfl|hx
   ·exact h2
   ·exact h3 x hx
theorem qni(kv:KV)(hn:(kv.map (·.1)).Nodup):Fe (uZ kv) (-1) (kv.map (·.1)) (fC kv):=by
 by_cases h:kv=[]
 ·subst h;exact .inl ⟨by omega,rfl,rfl⟩
 ·obtain⟨⟨x,hx,h1⟩,h2⟩:=Zq kv h
  have hval:∀x∈kv,uZ kv x.1=x.2:=λx hx=>by unfold uZ;rw[RQ hn hx];rfl
  refine .inr ⟨.inr ⟨x.1,List.mem_map.2 ⟨x,hx,rfl⟩,by rw[hval x hx,h1]⟩,λh=>by omega,λz hz=>?_⟩
  obtain⟨u,hu,rfl⟩:=List.mem_map.1 hz
  rw[hval u hu]
  exact h2 u hu
def nC(k:bw)(p:Int):Int:=match k.1[p.toNat]? with
 |some q=>q.2.1
 |none=>0
def dh(k:bw)(aj now:Int)(s:List Bool)(p:Int)(kv:KV):KV:=match bX kv p with
 |some _=>kv
 |none=>cond (decide ((kv.length:Int)<aj)&&ig k s p) (kv++[(p,now+nC k p)]) kv
def jK(k:bw)(aj now:Int)(s:List Bool):Nat->Nat->KV->KV
 |0,_,kv=>kv
 |d+1,p,kv=>jK k aj now s d (p+1) (dh k aj now s (p:Int) kv)
def bp(now:Int)(p:Nat)(x:List Bool×KV):List Bool×KV:=match bX x.2 (p:Int)with
 |some u=>cond (u==now) (x.1.set p true,nO x.2 (p:Int)) x
 |none=>x
def ii(now:Int):Nat->Nat->List Bool×KV->List Bool×KV
 |0,_,x=>x
 |d+1,p,x=>ii now d (p+1) (bp now p x)
abbrev TSt:=Int×(List Bool×KV)
def qmW(k:bw)(aj:Int)(x:TSt):TSt:=(fC (jK k aj x.1 x.2.1 k.1.length 0 x.2.2),ii (fC (jK k aj x.1 x.2.1 k.1.length 0 x.2.2)) k.1.length 0 (x.2.1,jK k aj x.1 x.2.1 k.1.length 0 x.2.2))
def AP(k:bw)(aj:Int):Nat->TSt->Option Int
 |0,x=>cond (decide (false∈x.2.1)) none (some x.1)
 |m+1,x=>cond (decide (false∈x.2.1)) (AP k aj m (qmW k aj x)) (some x.1)
structure lM (n:Nat) (hi:Int) (kv:KV):Prop where
 nodup:(kv.map (·.1)).Nodup
 key:∀x v,(x,v)∈kv->0<=x/\x<n/\0<=v/\v<=hi
theorem Ud{k:bw}(hf:nA k){p:Int}(h0:0<=p)(hp:p<k.1.length):∃q,k.1[p.toNat]? = some q/\nC k p=q.2.1/\1<=nC k p/\nC k p<=100:=by
 have hq:k.1[p.toNat]? = some (k.1[p.toNat]'(by omega)):=List.getElem?_eq_getElem (by omega)
 generalize k.1[p.toNat]'(by omega)=q at hq
 have h:=(hf.each _ _ hq).2.1
 simp only[di,Bool.and_eq_true,decide_eq_true_eq]at h
 have e:nC k p=q.2.1:=by unfold nC;rw[hq]
 exact⟨q,hq,e,by omega,by omega⟩
theorem qjs{k:bw}(hf:nA k){aj now hi:Int}{s:List Bool}{p:Int}{kv:KV}(h0:0<=p)(hp:p<k.1.length)(ja: -1<=now)(VK:now+100<=hi)(h:lM k.1.length hi kv):lM k.1.length hi (dh k aj now s p kv):=by
 unfold dh
 cases hl:bX kv p with
 |some u=>exact h
 |none=>
  dsimp only
  cases decide ((kv.length:Int)<aj)&&ig k s p with
  |false=>exact h
  |true=>
   rw[cond_true]
   obtain⟨q,_,_,h1,h2⟩:=Ud hf h0 hp
   refine⟨?_,λx v hx=>?_⟩
   ·rw[List.map_append,List.nodup_append]
    exact⟨h.nodup,by simp,λa ha b hb e=>by simp at hb;subst hb;subst e;exact MF hl ha⟩
   ·rcases List.mem_append.1 hx with hx|hx
    ·exact h.key x v hx
    ·simp at hx
     obtain⟨rfl,rfl⟩:=hx
     exact⟨h0,hp,by omega,by omega⟩
theorem oZ{k:bw}(hk:Small k)(hf:nA k){y:oh}(hy:Mg k y)(aj now hi:Int)(ht:aj<=4)(ja: -1<=now)(VK:now+100<=hi)(hhi:hi<=1048576)(s:List Bool)(hs:s.length=k.1.length):∀(d p:Nat) (kv:KV) (N:Nat),p+d=k.1.length->d<N->lM k.1.length hi kv->
  mR N ((aj,some y,now,(k.1.length:Int),(p:Int),()),(k,s,()),kv)=some ((aj,some y,()),(k,s,()),jK k aj now s d p kv)/\lM k.1.length hi (jK k aj now s d p kv)
 |0,p,kv,N,hp,hN,h=>by
  obtain⟨n,rfl⟩:=qN hN
  refine⟨?_,h⟩
  simp only[mR,Fj]
  rw[fm (by omega)]
  rfl
 |d+1,p,kv,N,hp,hN,h=>by
  obtain⟨n,rfl⟩:=qN hN
  have vA:=hf.parts
  have hw:=qjs hf (aj:=aj) (now:=now) (s:=s) (p:=(p:Int)) (by omega) (by omega) ja VK h
  obtain⟨lc,Vp⟩:=oZ hk hf hy aj now hi ht ja VK hhi s hs d (p+1) (dh k aj now s (p:Int) kv) n (by omega) (by omega) hw
  refine⟨?_,Vp⟩
  simp only[mR,Fj]
  rw[jF (by omega),cond_true,Ri (by omega) (by omega),jk (x:=(p:Int)+1) (by omega) (by omega),show(p:Int)+1=((p+1:Nat):Int) by omega]
  rw[jK]
  unfold dh at lc ⊢
  cases hl:bX kv (p:Int)with
  |some u=>rw[hl]at lc;exact lc
  |none=>
   rw[hl]at lc
   dsimp only at lc ⊢
   by_cases hlen:(kv.length:Int)<aj
   ·rw[jF hlen]at lc ⊢
    rw[cond_true,qp,CX hk hf hy hs (by omega) (by omega),qp]
    cases hc:ig k s (p:Int)with
    |false=>rw[hc]at lc;exact lc
    |true=>
     rw[hc]at lc
     obtain⟨q,hq,e,h1,h2⟩:=Ud hf (p:=(p:Int)) (by omega) (by omega)
     simp only[cond_true,Bool.and_true]at lc ⊢
     rw[j5 (by omega) hq,<-e,Ri (by omega) (by omega),jk (x:=now+nC k (p:Int)) (by omega) (by omega),Ri (by omega) (by omega),Ho (by omega) (by omega),qj9 hl]
     exact lc
   ·rw[fm hlen]at lc ⊢
    exact lc
theorem Dk{n:Nat}{hi now:Int}{p:Nat}{x:List Bool×KV}(h:lM n hi x.2):lM n hi (bp now p x).2/\(bp now p x).1.length=x.1.length:=by
 unfold bp
 cases bX x.2 (p:Int)with
 |none=>exact⟨h,rfl⟩
 |some u=>
  dsimp only
  cases u==now with
  |false=>exact⟨h,rfl⟩
  |true=>
   have hs:=Uh (p:Int) x.2
   exact⟨⟨(hs.map _).nodup h.nodup,λa b hab=>h.key a b (hs.subset hab)⟩,by simp⟩
theorem oV(k:bw)(aj now hi:Int)(y:Option oh)(n:Nat)(hn:n<=1048576):∀(d p:Nat) (s:List Bool) (kv:KV) (N:Nat),s.length=n->p+d=n->d<N->lM n hi kv->
  mQ N ((aj,y,now,(n:Int),(p:Int),()),(k,s,()),kv)=some ((aj,y,now,()),(k,(ii now d p (s,kv)).1,()),(ii now d p (s,kv)).2)/\lM n hi (ii now d p (s,kv)).2/\(ii now d p (s,kv)).1.length=n
 |0,p,s,kv,N,hs,hp,hN,h=>by
  obtain⟨m,rfl⟩:=qN hN
  refine⟨?_,h,hs⟩
  simp only[mQ,Fh]
  rw[fm (by omega)]
  rfl
 |d+1,p,s,kv,N,hs,hp,hN,h=>by
  obtain⟨m,rfl⟩:=qN hN
  obtain⟨hw,hlen⟩:=Dk (now:=now) (p:=p) (x:=(s,kv)) h
  obtain⟨lc,Vp⟩:=oV k aj now hi y n hn d (p+1) (bp now p (s,kv)).1 (bp now p (s,kv)).2 m (by rw[hlen];exact hs) (by omega) (by omega) hw
  refine⟨?_,Vp⟩
  simp only[mQ,Fh]
  rw[jF (by omega),cond_true,Ri (by omega) (by omega),jk (x:=(p:Int)+1) (by omega) (by omega),show(p:Int)+1=((p+1:Nat):Int) by omega]
  rw[ii]
  unfold bp at lc ⊢
  dsimp only at lc ⊢
  cases hl:bX kv (p:Int)with
  |none=>rw[hl]at lc;exact lc
  |some u=>
   rw[hl]at lc
   dsimp only at lc ⊢
   cases hu:u==now with
   |false=>rw[hu]at lc;exact lc
   |true=>
    rw[hu]at lc
    rw[cond_true,uG (by omega) (by omega),Zf (by omega) (by omega),Ri (by omega) (by omega)]
    exact lc
theorem pz(s:List Bool)(hs:s.length<=1048576)(b:Bool):∀(r pre:List Bool) (N:Nat),s=pre++r->r.length<N->
  ∃i:Int,0<=i/\nc N ((s,b,(s.length:Int),(pre.length:Int),()),(),())=some (cond (decide (b∈r)) (.inl ((i,()),(),())) (.inr ((),(),())))
 |[],pre,N,bU,hN=>by
  obtain⟨k,rfl⟩:=qN hN
  refine⟨0,Int.le_refl _,?_⟩
  simp only[nc,FD]
  rw[bU]
  simp
 |x::r,pre,N,bU,hN=>by
  obtain⟨k,rfl⟩:=qN hN
  simp only[List.length_cons]at hN
  have hlt:((pre.length:Nat):Int)<(s.length:Int):=by rw[bU];exact xN pre x r
  have cW:∀{R:Type} (kk:Bool->Option R),qn s (pre.length:Int) kk=kk x:=λkk=>by rw[bU];exact xP pre x r kk rfl
  obtain⟨i,hi,ih⟩:=pz s hs b r (pre++[x]) k (by rw[bU];simp) (by omega)
  rw[xU]at ih
  simp only[nc,FD]
  rw[jF hlt,cond_true,cW,jk (by omega) (by omega)]
  cases hb:b==x with
  |true=>exact⟨pre.length,by omega,by rw[jF (by rw[eq_of_beq hb];exact List.mem_cons_self)];rfl⟩
  |false=>
   refine⟨i,hi,?_⟩
   have:decide (b∈x::r)=decide (b∈r):=by
    have:b≠x:=by simpa using hb
    simp[this]
   rw[cond_false,this]
   exact ih
theorem CY{s:List Bool}(hs:s.length<=1048576)(b:Bool):g22 (s,b,())=some ((decide (b∈s),()),()):=by
 have hF:g22 (s,b,())=F22 qk s b:=rfl
 have hG:g33 (s,b,())=F33 qk s b:=rfl
 obtain⟨i,hi,h⟩:=pz s hs b s [] qk rfl (by have:=Gj;omega)
 have h':nc qk ((s,b,(s.length:Int),0,()),(),())=_:=h
 rw[hF]
 unfold F22
 rw[hG]
 unfold F33
 rw[h',qp]
 by_cases hb:b∈s
 ·rw[jF hb]
  simp only[cond_true,RB,qp]
  rw[jF hi]
 ·rw[fm hb];rfl
theorem qgb{n:Nat}{hi:Int}{kv:KV}(h:lM n hi kv)(h1: -1<=hi): -1<=fC kv/\fC kv<=hi:=by
 by_cases e:kv=[]
 ·subst e;exact⟨by simp[fC],h1⟩
 ·obtain⟨⟨x,hx,h2⟩,_⟩:=Zq kv e
  have:=h.key x.1 x.2 hx
  omega
theorem lM.mono{n:Nat}{hi hi':Int}{kv:KV}(h:lM n hi kv)(hh:hi<=hi'):lM n hi' kv:=⟨h.nodup,λx v hx=>by have:=h.key x v hx;omega⟩
theorem yK{k:bw}(hk:Small k)(hf:nA k){y:oh}(hy:Mg k y)(aj:Int)(ht:aj<=4):∀(m:Nat) (now hi:Int) (s:List Bool) (kv:KV) (N:Nat) (r:Int),s.length=k.1.length->-1<=now->now<=hi->hi+100*m<=1048576->m+1048576<N->lM k.1.length hi kv->AP k aj m (now,s,kv)=some r->
  mT N ((aj,some y,now,()),(k,s,()),kv)=some ((r,()),(),()):=by
 intro m
 induction m with
 |zero=>
  intro now hi s kv N r hs ja VK hhi hN h hr
  obtain⟨n,rfl⟩:=qN hN
  have vA:=hf.parts
  simp only[mT,Fk]
  rw[CY (by omega),qp]
  unfold AP at hr
  dsimp only at hr ⊢
  cases hb:decide (false∈s)with
  |true=>rw[hb]at hr;cases hr
  |false=>rw[hb]at hr;cases hr;rfl
 |succ m ih=>
  intro now hi s kv N r hs ja VK hhi hN h hr
  obtain⟨n,rfl⟩:=qN hN
  have vA:=hf.parts
  simp only[mT,Fk]
  rw[CY (by omega),qp]
  unfold AP at hr
  dsimp only at hr ⊢
  cases hb:decide (false∈s)with
  |false=>rw[hb]at hr;cases hr;rfl
  |true=>
   rw[hb,cond_true]at hr
   rw[cond_true]
   obtain⟨e1,w1⟩:=oZ hk hf hy aj now (hi+100) ht ja (by omega) (by omega) s hs k.1.length 0 kv n (by omega) (by omega) (h.mono (by omega))
   have Di:mR n ((aj,some y,now,(s.length:Int),0,()),(k,s,()),kv)=some ((aj,some y,()),(k,s,()),jK k aj now s k.1.length 0 kv):=by rw[hs];exact e1
   rw[Di,qp]
   dsimp only
   have Cx:(jK k aj now s k.1.length 0 kv).length<=1048576:=by
    have hp:=List.Nodup.length_le_of_subset (l₁:=(jK k aj now s k.1.length 0 kv).map (·.1)) (l₂:=AU k.1.length) w1.nodup (λx hx=>by
     obtain⟨z,hz,rfl⟩:=List.mem_map.1 hx
     have:=w1.key z.1 z.2 hz
     exact Gu.2 ⟨this.1,this.2.1⟩)
    rw[List.length_map,ZP]at hp
    omega
   rw[gM aj (some y) k s _ (λx v hx=>(w1.key x v hx).2.2.1) 1048576 _ (-1) _ n (by rw[List.length_map];exact Cx) (by omega) (λx hx=>by
    obtain⟨z,hz,rfl⟩:=List.mem_map.1 hx
    exact⟨z.2,RQ w1.nodup hz⟩) (qni _ w1.nodup),qp]
   dsimp only
   obtain⟨e2,w2,w3⟩:=oV k aj (fC (jK k aj now s k.1.length 0 kv)) (hi+100) (some y) k.1.length (by omega) k.1.length 0 s _ n hs (by omega) (by omega) w1
   have vF:mQ n ((aj,some y,fC (jK k aj now s k.1.length 0 kv),(s.length:Int),0,()),(k,s,()),jK k aj now s k.1.length 0 kv)=some ((aj,some y,fC (jK k aj now s k.1.length 0 kv),()),(k,(ii (fC (jK k aj now s k.1.length 0 kv)) k.1.length 0 (s,jK k aj now s k.1.length 0 kv)).1,()),(ii (fC (jK k aj now s k.1.length 0 kv)) k.1.length 0 (s,jK k aj now s k.1.length 0 kv)).2):=by rw[hs];exact e2
   rw[vF,qp]
   dsimp only
   obtain⟨b1,b2⟩:=qgb w1 (by omega)
   exact ih _ (hi+100) _ _ n r w3 b1 b2 (by omega) (by omega) w2 hr
def lD(n:Nat)(f:Nat->Int):List Int:=(List.range n).map f
theorem qmM(n:Nat)(f:Nat->Int):(lD n f).length=n:=by simp[lD]
theorem GN{n:Nat}{f:Nat->Int}{p:Nat}(h:p<n):(lD n f)[p]? = some (f p):=by simp[lD,h]
theorem Zi{n:Nat}{f g:Nat->Int}(h:∀q,q<n->f q=g q):lD n f=lD n g:=by
 unfold lD
 exact List.map_congr_left λq hq=>h q (List.mem_range.1 hq)
theorem RT{kv:KV}{x q:Int}(h:q≠x):bX (nO kv x) q=bX kv q:=by
 induction kv with
 |nil=>rfl
 |cons y r ih=>
  obtain⟨n,u⟩:=y
  unfold nO
  cases hn:n==x with
  |true=>
   rw[cond_true]
   have:(n==q)=false:=by
    simp only[beq_eq_false_iff_ne,ne_eq]
    intro e
    exact h (by rw[<-e];exact eq_of_beq hn)
   unfold bX
   rw[this,cond_false]
   cases r<;>rfl
  |false=>
   rw[cond_false]
   unfold bX
   rw[ih]
theorem qeN:∀{kv:KV} {x:Int},(kv.map (·.1)).Nodup->bX (nO kv x) x=none
 |[],_,_=>rfl
 |(n,u)::r,x,h=>by
  rw[List.map_cons,List.nodup_cons]at h
  unfold nO
  cases hn:n==x with
  |true=>
   rw[cond_true]
   cases hl:bX r x with
   |none=>rfl
   |some v=>
    have:x∈r.map (·.1):=List.mem_map.2 ⟨(x,v),Ba hl,rfl⟩
    rw[<-eq_of_beq hn]at this
    exact absurd this h.1
  |false=>
   rw[cond_false]
   unfold bX
   rw[hn,cond_false]
   exact qeN h.2
theorem YU:∀{kv:KV} {x v q:Int},bX kv x=none->bX (kv++[(x,v)]) q=if q=x then some v else bX kv q
 |[],x,v,q,_=>by
  show(bif x==q then some v else none)=_
  by_cases h:q=x
  ·rw[if_pos h,h,beq_self_eq_true];rfl
  ·rw[if_neg h,show(x==q)=false by simp only[beq_eq_false_iff_ne,ne_eq];exact λe=>h e.symm];rfl
 |(n,u)::r,x,v,q,h=>by
  unfold bX at h
  cases hn:n==x with
  |true=>rw[hn,cond_true]at h;cases h
  |false=>
   rw[hn,cond_false]at h
   show(bif n==q then some u else bX (r++[(x,v)]) q)=if q=x then some v else(bif n==q then some u else bX r q)
   rw[YU h]
   cases hq:n==q with
   |true=>
    have:q≠x:=λe=>by rw[e]at hq;rw[hq]at hn;cases hn
    simp[this]
   |false=>rfl
def Mt(kv:KV)(q:Nat):Bool:=(bX kv (q:Int)).isSome
def OO(kv:KV)(p d:Nat):Nat:=((List.range' p d).filter (Mt kv)).length
structure qbd (n:Nat) (t:Int) (s:List Bool) (kv:KV):Prop where
 nodup:(kv.map (·.1)).Nodup
 key:∀x v,(x,v)∈kv->0<=x/\x<n/\t+1<=v/\v<=1048576/\has s x=false
theorem qla{s:List Bool}{p:Nat}{x:Int}(h:0<=x)(hx:x≠p):has (s.set p true) x=has s x:=by
 unfold has
 rw[List.getD_eq_getElem?_getD,List.getD_eq_getElem?_getD,List.getElem?_set_ne (by omega)]
theorem qmp{now:Int}{p:Nat}{x:List Bool×KV}{q:Int}(h:q≠p):bX (bp now p x).2 q=bX x.2 q:=by
 unfold bp
 split
 ·rename_i u hu
  cases u==now with
  |true=>exact RT h
  |false=>rfl
 ·rfl
theorem qgQ{now:Int}{q:Int}:∀(d p:Nat) (x:List Bool×KV),(q<p\/(p:Int)+d<=q)->bX (ii now d p x).2 q=bX x.2 q
 |0,_,_,_=>rfl
 |d+1,p,x,h=>by
  rw[ii,qgQ d (p+1) _ (by omega),qmp (by omega)]
theorem qfk{n:Nat}{t:Int}{p:Nat}{s:List Bool}{kv:KV}(h:qbd n t s kv):qbd n t (bp (t+1) p (s,kv)).1 (bp (t+1) p (s,kv)).2:=by
 unfold bp
 dsimp only
 split
 ·rename_i u hu
  cases u==t+1 with
  |false=>exact h
  |true=>
   have hs:=Uh (p:Int) kv
   refine⟨(hs.map _).nodup h.nodup,λa b hab=>?_⟩
   have hk:=h.key a b (hs.subset hab)
   have hne:a≠p:=by
    rintro rfl
    have h1:=RQ ((hs.map _).nodup h.nodup) hab
    rw[qeN h.nodup]at h1
    cases h1
   exact⟨hk.1,hk.2.1,hk.2.2.1,hk.2.2.2.1,by rw[cond_true];rw[qla hk.1 hne];exact hk.2.2.2.2⟩
 ·exact h
theorem Dv{n:Nat}{t:Int}{s:List Bool}{kv:KV}(h:qbd n t s kv):OO kv 0 n=kv.length:=by
 unfold OO
 rw[<-List.range_eq_range']
 have hp:(((List.range n).filter (Mt kv)).map Int.ofNat).Perm (kv.map (·.1)):=by
  refine ZO _ _ ?_ ?_ ?_ 
  ·rw[List.Nodup,List.pairwise_map]
   exact List.Pairwise.imp (λh e=>h (Int.ofNat.inj e)) (List.nodup_range.filter _)
  ·intro x hx
   obtain⟨q,hq,rfl⟩:=List.mem_map.1 hx
   have:=(List.mem_filter.1 hq).2
   unfold Mt at this
   obtain⟨v,hv⟩:=Option.isSome_iff_exists.1 this
   exact List.mem_map.2 ⟨_,Ba hv,rfl⟩
  ·have:=List.Nodup.length_le_of_subset (l₁:=kv.map (·.1)) (l₂:=((List.range n).filter (Mt kv)).map Int.ofNat) h.nodup (λx hx=>by
    obtain⟨z,hz,rfl⟩:=List.mem_map.1 hx
    have hk:=h.key z.1 z.2 hz
    refine List.mem_map.2 ⟨z.1.toNat,List.mem_filter.2 ⟨List.mem_range.2 (by omega),?_⟩,by simp;omega⟩
    unfold Mt
    rw[show((z.1.toNat:Nat):Int)=z.1 by omega,RQ h.nodup hz]
    rfl)
   exact this
 have:=hp.length_eq
 simpa using this
theorem qhU{k:bw}(hf:nA k){aj t:Int}(ht0: -1<=t)(ht1:t+100<=1048576){s:List Bool}{p:Int}{kv:KV}(h0:0<=p)(hp:p<k.1.length)(h:qbd k.1.length t s kv):qbd k.1.length t s (dh k aj t s p kv):=by
 unfold dh
 cases hl:bX kv p with
 |some u=>exact h
 |none=>
  dsimp only
  cases hc:decide ((kv.length:Int)<aj)&&ig k s p with
  |false=>exact h
  |true=>
   rw[cond_true]
   rw[Bool.and_eq_true]at hc
   obtain⟨q,_,_,h1,h2⟩:=Ud hf h0 hp
   refine⟨?_,λx v hx=>?_⟩
   ·rw[List.map_append,List.nodup_append]
    exact⟨h.nodup,by simp,λa ha b hb e=>by simp at hb;subst hb;subst e;exact MF hl ha⟩
   ·rcases List.mem_append.1 hx with hx|hx
    ·exact h.key x v hx
    ·simp at hx
     obtain⟨rfl,rfl⟩:=hx
     exact⟨h0,hp,by omega,by omega,Ug hc.2⟩
theorem ZH{f:Nat->Bool}:∀{m p q:Nat},AY f m p=some q->p<=q/\q<p+m/\f q=true
 |0,_,_,h=>by cases h
 |m+1,p,q,h=>by
  rw[AY]at h
  cases hf:f p with
  |true=>rw[hf,cond_true]at h;cases h;exact⟨Nat.le_refl _,by omega,hf⟩
  |false=>
   rw[hf,cond_false]at h
   have:=ZH h
   exact⟨by omega,by omega,this.2.2⟩
theorem qoJ{k:bw}{s s':List Bool}(h:∀q,has s' q=true->has s q=true){p:Int}(hp:has s p=false)(hc:ig k s' p=true):ig k s p=true:=by
 unfold ig at hc ⊢
 split at hc
 ·rename_i q hq
  simp only[Bool.and_eq_true,Bool.not_eq_true',List.all_eq_true,Bool.or_eq_true,decide_eq_true_eq]at hc ⊢
  obtain⟨⟨⟨_,h2⟩,h3⟩,h4⟩:=hc
  refine⟨⟨⟨hp,λx hx=>h x (h2 x hx)⟩,h3⟩,λx hx=>?_⟩
  rcases h4 x hx with h5|h5
  ·exact .inl h5
  ·exact .inr (h x h5)
 ·cases hc
theorem CL{s:List Bool}{p:Nat}{q:Int}(h:has (s.set p true) q=true):has s q=true\/q.toNat=p:=by
 by_cases e:q.toNat=p
 ·exact .inr e
 ·left
  unfold has at h ⊢
  rw[List.getD_eq_getElem?_getD,List.getElem?_set_ne (λh=>e h.symm)]at h
  rw[List.getD_eq_getElem?_getD]
  exact h
theorem qlL{k:bw}{s:List Bool}(hno:∀p,p<k.1.length->ig k s (p:Int)=false):∀(m:Nat) (x:um),(∀q,has x.2 q=true->has s q=true)->∀q,has (rU k m x).2 q=true->has s q=true
 |0,x,h,q,hq=>h q hq
 |m+1,x,h,q,hq=>by
  rw[rU]at hq
  refine qlL hno m (vf k x) ?_ q hq
  unfold vf
  split
  ·rename_i p hp
   obtain⟨_,h2,h3⟩:=ZH hp
   intro q hq
   rcases CL hq with h4|h4
   ·exact h q h4
   ·cases hs:has s (p:Int)with
    |true=>
     have:has s q=has s (p:Int):=by unfold has;rw[h4];rfl
     rw[this,hs]
    |false=>
     have:=qoJ h hs h3
     rw[hno p (by omega)]at this
     cases this
  ·exact h
theorem qlE{k:bw}{x:um}(hx:x.2.length=k.1.length):(vf k x).1.length+(vf k x).2.count false=x.1.length+x.2.count false:=by
 unfold vf
 split
 ·rename_i p hp
  obtain⟨_,h2,h3⟩:=ZH hp
  have:=qc4 (by omega:p<x.2.length) (Ug h3)
  unfold sP
  simp only[List.length_append,List.length_cons,List.length_nil]
  omega
 ·rfl
theorem qiM{k:bw}:∀(m:Nat) (x:um),x.2.length=k.1.length->(rU k m x).1.length+(rU k m x).2.count false=x.1.length+x.2.count false
 |0,x,_=>rfl
 |m+1,x,h=>by
  rw[rU,qiM m _ (by rw[(qj1 (k:=k) (x:=x)).1];exact h),qlE h]
theorem Bj{k:bw}(hw:k.1.length<=(fg k).1.length){s:List Bool}(hs:s.length=k.1.length)(hf:false∈s):∃p,p<k.1.length/\ig k s (p:Int)=true:=by
 refine Classical.byContradiction λhno=>?_
 have aa0:∀p,p<k.1.length->ig k s (p:Int)=false:=by
  intro p hp
  cases h:ig k s (p:Int)with
  |false=>rfl
  |true=>exact absurd ⟨p,hp,h⟩ hno
 have hsub:=qlL aa0 k.1.length (pV k) (λq hq=>by
  unfold pV has at hq
  rw[List.getD_eq_getElem?_getD,List.getElem?_replicate]at hq
  split at hq<;>cases hq)
 have hc:=qiM (k:=k) k.1.length (pV k) (by simp[pV])
 have h0:(pV k).1.length+(pV k).2.count false=k.1.length:=by simp[pV]
 have hcf:(fg k).2.count false=0:=by
  have:(fg k).1.length+(fg k).2.count false=(pV k).1.length+(pV k).2.count false:=hc
  omega
 obtain⟨i,hi,he⟩:=List.mem_iff_getElem.1 hf
 have hfi:has (fg k).2 (i:Int)=true:=by
  have hl:=(qjr k).1
  unfold has
  rw[List.getD_eq_getElem?_getD,List.getElem?_eq_getElem (by simp;omega)]
  have hm:(fg k).2[i]'(by omega)∈(fg k).2:=List.getElem_mem _
  cases h:(fg k).2[i]'(by omega)with
  |true=>simpa using h
  |false=>
   rw[h]at hm
   have:=List.count_pos_iff.2 hm
   omega
 have:=hsub (i:Int) hfi
 unfold has at this
 rw[List.getD_eq_getElem?_getD,List.getElem?_eq_getElem (by simpa using hi)]at this
 simp[he]at this
def Full(k:bw)(aj:Int)(s:List Bool)(kv:KV)(q:Nat):Prop:=(bX kv (q:Int)).isSome=true\/¬(kv.length:Int)<aj\/ig k s (q:Int)=false
theorem qnA{k:bw}{aj now:Int}{s:List Bool}{p:Int}{kv:KV}{q:Nat}(h:Full k aj s kv q):Full k aj s (dh k aj now s p kv) q:=by
 unfold dh
 cases hl:bX kv p with
 |some u=>exact h
 |none=>
  dsimp only
  cases hc:decide ((kv.length:Int)<aj)&&ig k s p with
  |false=>exact h
  |true=>
   rw[cond_true]
   rcases h with h|h|h
   ·left
    rw[YU hl]
    split
    ·rfl
    ·exact h
   ·right;left
    simp only[List.length_append,List.length_cons,List.length_nil]
    omega
   ·exact .inr (.inr h)
theorem qnB{k:bw}{aj now:Int}{s:List Bool}{p:Nat}{kv:KV}:Full k aj s (dh k aj now s (p:Int) kv) p:=by
 unfold dh
 cases hl:bX kv (p:Int)with
 |some u=>left;dsimp only;rw[hl];rfl
 |none=>
  dsimp only
  cases hc:decide ((kv.length:Int)<aj)&&ig k s (p:Int)with
  |false=>
   rw[cond_false]
   right
   by_cases h:(kv.length:Int)<aj
   ·right
    rw[jF h,Bool.true_and]at hc
    exact hc
   ·exact .inl h
  |true=>
   rw[cond_true]
   left
   rw[YU hl,if_pos rfl]
   rfl
theorem qhS{k:bw}{aj now:Int}{s:List Bool}{q:Nat}:∀(d p:Nat) (kv:KV),Full k aj s kv q->Full k aj s (jK k aj now s d p kv) q
 |0,_,_,h=>h
 |d+1,p,_kv,h=>qhS d (p+1) _ (qnA h)
theorem qhT{k:bw}{aj now:Int}{s:List Bool}{q:Nat}:∀(d p:Nat) (kv:KV),p<=q->q<p+d->Full k aj s (jK k aj now s d p kv) q
 |0,_,_,h1,h2=>by omega
 |d+1,p,kv,h1,h2=>by
  rw[jK]
  by_cases e:p=q
  ·subst e;exact qhS d (p+1) _ qnB
  ·exact qhT d (p+1) _ (by omega) (by omega)
theorem qkp{k:bw}(hw:k.1.length<=(fg k).1.length){aj now:Int}(ht:1<=aj){s:List Bool}(hs:s.length=k.1.length)(hf:false∈s)(kv:KV):jK k aj now s k.1.length 0 kv≠[]:=by
 obtain⟨p,hp,hc⟩:=Bj hw hs hf
 intro e
 have:=qhT (k:=k) (aj:=aj) (now:=now) (s:=s) (q:=p) k.1.length 0 kv (by omega) (by omega)
 rw[e]at this
 rcases this with h|h|h
 ·cases h
 ·simp at h;omega
 ·rw[hc]at h;cases h
theorem qhY{n:Nat}{t:Int}{q:Nat}:∀(d p:Nat) (s:List Bool) (kv:KV),p<=q->q<p+d->qbd n t s kv->bX (ii (t+1) d p (s,kv)).2 (q:Int)≠some (t+1)
 |0,_,_,_,h1,h2,_=>by omega
 |d+1,p,s,kv,h1,h2,h=>by
  rw[ii]
  by_cases e:p=q
  ·subst e
   rw[qgQ d (p+1) _ (by omega)]
   unfold bp
   dsimp only
   split
   ·rename_i u hu
    cases hut:u==t+1 with
    |true=>rw[cond_true];dsimp only;rw[qeN h.nodup];simp
    |false=>
     rw[cond_false]
     dsimp only
     rw[hu]
     intro e
     rw[Option.some.inj e,beq_self_eq_true]at hut
     cases hut
   ·rename_i hu
    dsimp only
    rw[hu]
    simp
  ·exact qhY d (p+1) (bp (t+1) p (s,kv)).1 (bp (t+1) p (s,kv)).2 (by omega) (by omega) (qfk h)
theorem qmq:∀{kv:KV} {x v:Int},bX kv x=some v->(nO kv x).length+1=kv.length
 |[],_,_,h=>by cases h
 |(n,u)::r,x,v,h=>by
  unfold bX at h
  unfold nO
  cases hn:n==x with
  |true=>rfl
  |false=>
   rw[hn,cond_false]at h
   rw[cond_false,List.length_cons,List.length_cons,qmq h]
theorem qhZ{n:Nat}{t:Int}{p:Nat}{s:List Bool}{kv:KV}(hp:p<s.length)(h:qbd n t s kv):(bp (t+1) p (s,kv)).1.count false+kv.length=s.count false+(bp (t+1) p (s,kv)).2.length/\(bp (t+1) p (s,kv)).2.Sublist kv/\(bp (t+1) p (s,kv)).1.length=s.length:=by
 unfold bp
 dsimp only
 split
 ·rename_i u hu
  cases u==t+1 with
  |true=>
   have hk:=h.key _ _ (Ba hu)
   have h1:=qc4 hp hk.2.2.2.2
   have h2:=qmq hu
   rw[cond_true]
   exact⟨by dsimp only;omega,Uh _ _,by simp⟩
  |false=>exact⟨rfl,.refl _,rfl⟩
 ·exact⟨rfl,.refl _,rfl⟩
theorem ZB{n:Nat}{t:Int}:∀(d p:Nat) (s:List Bool) (kv:KV),p+d<=s.length->qbd n t s kv->(ii (t+1) d p (s,kv)).1.count false+kv.length=s.count false+(ii (t+1) d p (s,kv)).2.length/\(ii (t+1) d p (s,kv)).2.Sublist kv/\(ii (t+1) d p (s,kv)).1.length=s.length/\qbd n t (ii (t+1) d p (s,kv)).1 (ii (t+1) d p (s,kv)).2
 |0,p,s,kv,_,h=>⟨rfl,.refl _,rfl,h⟩
 |d+1,p,s,kv,hp,h=>by
  obtain⟨h1,h2,h3⟩:=qhZ (by omega:p<s.length) h
  have kk:=ZB (n:=n) (t:=t) d (p+1) (bp (t+1) p (s,kv)).1 (bp (t+1) p (s,kv)).2 (by omega) (qfk h)
  rw[show((bp (t+1) p (s,kv)).1,(bp (t+1) p (s,kv)).2)=bp (t+1) p (s,kv)from rfl]at kk
  obtain⟨k1,k2,k3,k4⟩:=kk
  rw[ii]
  exact⟨by omega,k2.trans h2,by omega,k4⟩
theorem qbd.next{n:Nat}{t:Int}{s0:List Bool}{Vk:KV}(hs:s0.length=n)(h:qbd n t s0 Vk):qbd n (t+1) (ii (t+1) n 0 (s0,Vk)).1 (ii (t+1) n 0 (s0,Vk)).2:=by
 obtain⟨_,_,_,k4⟩:=ZB (n:=n) (t:=t) n 0 s0 Vk (by omega) h
 refine⟨k4.nodup,λx v hx=>?_⟩
 have hk:=k4.key x v hx
 have hg:=qhY (n:=n) (t:=t) (q:=x.toNat) n 0 s0 Vk (by omega) (by omega) h
 rw[show((x.toNat:Nat):Int)=x by omega,RQ k4.nodup hx]at hg
 have:v≠t+1:=λe=>hg (by rw[e])
 exact⟨hk.1,hk.2.1,by omega,hk.2.2.2⟩
theorem qj5{k:bw}(hf:nA k)(hw:k.1.length<=(fg k).1.length)(aj:Int)(ht1:1<=aj):∀(m:Nat) (u hi:Int) (s:List Bool) (kv:KV),s.length=k.1.length->s.count false<=m->qbd k.1.length u s kv->lM k.1.length hi kv->0<=u->u<=hi->hi+100*m<=1000000->∃r,AP k aj m (u,s,kv)=some r
 |0,u,hi,s,kv,hs,hc,h,hwf,hu,huh,hhi=>by
  refine⟨u,?_⟩
  unfold AP
  have:false∉s:=λhm=>by have:=List.count_pos_iff.2 hm;omega
  rw[fm this]
  rfl
 |m+1,u,hi,s,kv,hs,hc,h,hwf,hu,huh,hhi=>by
  unfold AP
  by_cases hb:false∈s
  case neg=>exact⟨u,by rw[fm hb];rfl⟩
  rw[jF hb,cond_true]
  have hne:=qkp hw (now:=u) ht1 hs hb kv
  have yw:qbd k.1.length u s (jK k aj u s k.1.length 0 kv):=by
   have:∀(d p:Nat) (q_:KV),p+d=k.1.length->qbd k.1.length u s q_->qbd k.1.length u s (jK k aj u s d p q_):=by
    intro d
    induction d with
    |zero=>intro p q_ _ h;exact h
    |succ d ih=>intro p q_ hp h;rw[jK];exact ih (p+1) _ (by omega) (qhU hf (by omega) (by omega) (by omega) (by omega) h)
   exact this k.1.length 0 kv (by omega) h
  have vq:lM k.1.length (hi+100) (jK k aj u s k.1.length 0 kv):=by
   have:∀(d p:Nat) (q_:KV),p+d=k.1.length->lM k.1.length (hi+100) q_->lM k.1.length (hi+100) (jK k aj u s d p q_):=by
    intro d
    induction d with
    |zero=>intro p q_ _ h;exact h
    |succ d ih=>intro p q_ hp h;rw[jK];exact ih (p+1) _ (by omega) (qjs hf (by omega) (by omega) (by omega) (by omega) h)
   exact this k.1.length 0 kv (by omega) (hwf.mono (by omega))
  unfold qmW
  dsimp only
  generalize jK k aj u s k.1.length 0 kv=eA at *
  obtain⟨⟨xm,Nw,Nx⟩,hmin⟩:=Zq eA hne
  have hmb:=qgb vq (by omega)
  have uO:=yw.key xm.1 xm.2 Nw
  rw[Nx]at uO
  have ha2:qbd k.1.length (fC eA-1) s eA:=⟨yw.nodup,λx v hx=>by have h1:=yw.key x v hx;have h2:=hmin (x,v) hx;dsimp only at h2;exact⟨h1.1,h1.2.1,by omega,h1.2.2.2.1,h1.2.2.2.2⟩⟩
  have hdc:=ZB (n:=k.1.length) (t:=fC eA-1) k.1.length 0 s eA (by omega) ha2
  have Cp:=qbd.next hs ha2
  rw[show fC eA-1+1=fC eA by omega]at hdc Cp
  have hlt:(ii (fC eA) k.1.length 0 (s,eA)).2.length<eA.length:=by
   refine Nat.lt_of_le_of_ne hdc.2.1.length_le (λe=>?_)
   have hk:=Cp.key xm.1 xm.2 (by rw[hdc.2.1.eq_of_length e];exact Nw)
   omega
  exact qj5 hf hw aj ht1 m (fC eA) (hi+100) _ _ (by omega) (by omega) Cp ⟨Cp.nodup,λx v hx=>vq.key x v (hdc.2.1.subset hx)⟩ (by omega) (by omega) (by omega)
def wq(k:bw)(p:Int):List Int:=match k.1[p.toNat]? with
 |some q=>q.2.2.2
 |none=>[]
structure Tv (k:bw) (x:um):Prop where
 nodup:x.1.Nodup
 di:∀p∈x.1,0<=p/\p<k.1.length
 len:x.2.length=k.1.length
 mem:∀q:Int,0<=q->q<k.1.length->has x.2 q=decide (q∈x.1)
 ok:∀pre p post,x.1=pre++p::post->(∀y∈wq k p,y∈pre)/\∀i:Int,0<=i->i<k.1.length->J_ k.2.2 i p=true->i∈pre
theorem qi3{k:bw}(hf:nA k){p:Int}(h0:0<=p)(_hp:p<k.1.length):∀y∈wq k p,0<=y/\y<k.1.length/\y≠p:=by
 unfold wq
 split
 ·rename_i q hq
  have:=qf9 (by omega) (hf.each _ _ hq).2.2.2
  intro y hy
  have:=this y hy
  omega
 ·simp
theorem HI{k:bw}(hf:nA k){x:um}(h:Tv k x){p:Nat}(hp:p<k.1.length)(hc:ig k x.2 (p:Int)=true):Tv k (sP x p):=by
 have Cq:(p:Int)∉x.1:=by
  have:=Ug hc
  rw[h.mem (p:Int) (by omega) (by omega)]at this
  exact of_decide_eq_false this
 have hc':=hc
 unfold ig at hc'
 split at hc'
 case h_2=>cases hc'
 rename_i q hq
 simp only[Bool.and_eq_true,List.all_eq_true,Bool.or_eq_true,Bool.not_eq_true',decide_eq_true_eq]at hc'
 obtain⟨⟨⟨_,hn⟩,_⟩,ha⟩:=hc'
 have hnq:wq k (p:Int)=q.2.2.2:=by unfold wq;rw[hq]
 refine⟨?_,?_,by simp[sP,h.len],?_,?_⟩
 ·unfold sP
  rw[List.nodup_append]
  exact⟨h.nodup,by simp,λa ha' b hb e=>by simp at hb;subst hb;subst e;exact Cq ha'⟩
 ·intro y hy
  rcases List.mem_append.1 hy with hy|hy
  ·exact h.di y hy
  ·simp at hy;omega
 ·intro y h0 hy
  unfold sP
  by_cases e:y=p
  ·subst e
   rw[jF (by simp)]
   unfold has
   rw[List.getD_eq_getElem?_getD]
   simp only[Int.toNat_natCast]
   rw[List.getElem?_set_self (by rw[h.len];exact hp)]
   rfl
  ·dsimp only
   rw[qla h0 e,h.mem y h0 hy]
   simp[e]
 ·intro pre p' post e
  rcases List.eq_nil_or_concat post with rfl|⟨post',z,rfl⟩
  ·have e':x.1++[(p:Int)]=pre++[p']:=e
   have h1:=List.append_inj' e' rfl
   obtain⟨rfl,h2⟩:=h1
   have:p'=p:=by simpa using h2.symm
   subst this
   refine⟨λy hy=>?_,λi h0 hi hab=>?_⟩
   ·have hr:=qi3 hf (by omega) (by omega) y hy
    have:=hn y (by rw[<-hnq];exact hy)
    rw[h.mem y hr.1 hr.2.1]at this
    exact of_decide_eq_true this
   ·rcases ha i (Gu.2 ⟨h0,hi⟩)with h3|h3
    ·rw[hab]at h3;cases h3
    ·rw[h.mem i h0 hi]at h3
     exact of_decide_eq_true h3
  ·have e':x.1++[(p:Int)]=(pre++p'::post')++[z]:=by
    have:x.1++[(p:Int)]=pre++p'::(post'++[z]):=by simpa[sP]using e
    rw[this]
    simp
   exact h.ok pre p' post' (List.append_inj' e' rfl).1
theorem qnR{k:bw}(hf:nA k):∀(m:Nat) (x:um),Tv k x->Tv k (rU k m x)
 |0,_,h=>h
 |m+1,x,h=>by
  rw[rU]
  refine qnR hf m _ ?_
  unfold vf
  split
  ·rename_i p hp
   obtain⟨_,h2,h3⟩:=ZH hp
   exact HI hf h (by omega) h3
  ·exact h
theorem Jf{k:bw}(hf:nA k):Tv k (fg k):=by
 refine qnR hf _ _ ⟨by simp[pV],by simp[pV],by simp[pV],?_,?_⟩
 ·intro q h0 hq
  rw[fm (by simp[pV])]
  unfold has pV
  rw[List.getD_eq_getElem?_getD,List.getElem?_replicate]
  split<;>rfl
 ·intro pre p post e
  simp[pV]at e
def Kb(p other:Int):List Int->Bool
 |x::y::r=>(x==p&&y==other)||Kb p other (y::r)
 |_=>false
def BE(bi:List (List Int))(p other:Int):Bool:=bi.any (Kb p other)
theorem ZI{p other:Int}:∀{l:List Int},p∉l->Kb p other l=false
 |[],_=>rfl
 |[_],_=>rfl
 |x::y::r,h=>by
  simp only[List.mem_cons,not_or]at h
  rw[Kb,ZI (l:=y::r) (by simp only[List.mem_cons,not_or];exact h.2)]
  rw[show(x==p)=false by simp only[beq_eq_false_iff_ne,ne_eq];exact λe=>h.1 e.symm]
  rfl
theorem qhd{p other:Int}{post:List Int}(hpost:p∉post):∀{pre:List Int},p∉pre->Kb p other (pre++p::post)=decide (post.head? = some other)
 |[],_=>by
  cases post with
  |nil=>rfl
  |cons y r=>
   rw[List.nil_append,Kb,beq_self_eq_true,Bool.true_and,ZI hpost,Bool.or_false]
   rw[Bool.eq_iff_iff]
   simp
 |[x],h=>by
  simp only[List.mem_cons,not_or]at h
  have h0:=qhd (other:=other) hpost (pre:=[]) (by simp)
  rw[List.nil_append]at h0
  rw[List.singleton_append,Kb,h0]
  rw[show(x==p)=false by simp only[beq_eq_false_iff_ne,ne_eq];exact λe=>h.1 e.symm]
  rfl
 |x::y::pre,h=>by
  simp only[List.mem_cons,not_or]at h
  have ih:=qhd (other:=other) hpost (pre:=y::pre) (by simp only[List.mem_cons,not_or];exact h.2)
  rw[List.cons_append,List.cons_append,Kb]
  rw[show(x==p)=false by simp only[beq_eq_false_iff_ne,ne_eq];exact λe=>h.1 e.symm,Bool.false_and,Bool.false_or]
  exact ih
theorem nA.next{k:bw}(h:nA k){p:Int}{pre post:List Int}(hd:(pre,p,post)∈zf k.2.2):(∀other,BE k.2.2 p other=decide (post.head? = some other))/\∀high,J_ k.2.2 high p=decide (high∈post):=by
 obtain⟨gO,Cd,Wk⟩:=List.mem_flatMap.1 hd
 have nY:pre++p::post=gO:=by simpa using qg6 gO [] Wk
 obtain⟨A,B,Sw⟩:=List.append_of_mem Cd
 have hn:=h.nodup
 rw[Sw,List.flatten_append,List.flatten_cons,<-nY,List.nodup_append]at hn
 obtain⟨_,sc,hd⟩:=hn
 rw[List.nodup_append]at sc
 obtain⟨VM,_,hd2⟩:=sc
 rw[List.nodup_append]at VM
 obtain⟨_,hn4,hd3⟩:=VM
 rw[List.nodup_cons]at hn4
 have hA:∀v∈A,p∉v:=λv hv hpv=>hd p (List.mem_flatten.2 ⟨v,hv,hpv⟩) p (by simp) rfl
 have hB:∀v∈B,p∉v:=λv hv hpv=>hd2 p (by simp) p (List.mem_flatten.2 ⟨v,hv,hpv⟩) rfl
 have hpre:p∉pre:=λhq=>hd3 p hq p List.mem_cons_self rfl
 refine⟨λother=>?_,λhigh=>?_⟩
 ·unfold BE
  rw[Sw,List.any_append,List.any_cons,<-nY,qhd hn4.1 hpre]
  rw[List.any_eq_false.2 (λv hv=>by rw[ZI (hA v hv)];simp),List.any_eq_false.2 (λv hv=>by rw[ZI (hB v hv)];simp)]
  simp
 ·unfold J_
  rw[Sw,List.any_append,List.any_cons,<-nY,qgp high p post pre hpre]
  rw[List.any_eq_false.2 (λv hv=>by rw[UD high p v (hA v hv)];simp),List.any_eq_false.2 (λv hv=>by rw[UD high p v (hB v hv)];simp)]
  simp
def zQ(k:bw)(p other:Int):Bool:=(wq k p).any (· == other)||BE k.2.2 p other
def val(S:List Int)(x:Int):Int:=S.getD x.toNat 0
def mx(S:List Int)(l:List Int)(b:Int):Int:=l.foldl (λb x=>max b (val S x)) b
theorem Rw{R:Type}{S:List Int}{p:Int}(h0:0<=p)(h:p<S.length)(k:Int->Option R):qn S p k=k (val S p):=by
 rw[Ua h0 h]
 unfold val
 rw[List.getD_eq_getElem?_getD,List.getElem?_eq_getElem (by omega)]
 rfl
theorem ZF{S:List Int}{p c:Int}(h0:0<=p)(h:p<S.length):val (S.set p.toNat c) p=c:=by
 unfold val
 rw[List.getD_eq_getElem?_getD,List.getElem?_set_self (by omega)]
 rfl
theorem qiu{S:List Int}{p x c:Int}(h0:0<=p)(hx:0<=x)(h:x≠p):val (S.set p.toNat c) x=val S x:=by
 unfold val
 rw[List.getD_eq_getElem?_getD,List.getD_eq_getElem?_getD,List.getElem?_set_ne (by omega)]
theorem wH(S:List Int):∀(l:List Int) (b:Int),b<=mx S l b/\∀x∈l,val S x<=mx S l b
 |[],b=>⟨Int.le_refl _,λx hx=>by cases hx⟩
 |y::l,b=>by
  obtain⟨h1,h2⟩:=wH S l (max b (val S y))
  have e:mx S (y::l) b=mx S l (max b (val S y)):=rfl
  rw[e]
  refine⟨by omega,λx hx=>?_⟩
  rcases List.mem_cons.1 hx with rfl|hx
  ·omega
  ·exact h2 x hx
theorem TF{S:List Int}{c:Int}:∀(l:List Int) (b:Int),b<=c->(∀x∈l,val S x<=c)->mx S l b<=c
 |[],b,h,_=>h
 |y::l,b,h,hl=>TF l (max b (val S y)) (by have:=hl y List.mem_cons_self;omega) (λx hx=>hl x (List.mem_cons_of_mem _ hx))
theorem Ik{S:List Int}{l l':List Int}{b:Int}(h:∀x,x∈l↔x∈l'):mx S l b=mx S l' b:=by
 obtain⟨h1,h2⟩:=wH S l b
 obtain⟨h3,h4⟩:=wH S l' b
 exact Int.le_antisymm (TF l b h3 (λx hx=>h4 x ((h x).1 hx))) (TF l' b h1 (λx hx=>h2 x ((h x).2 hx)))
theorem Ij(S l:List Int)(x b:Int):mx S (l++[x]) b=max (mx S l b) (val S x):=by
 unfold mx
 rw[List.foldl_append]
 rfl
def best(k:bw)(pre:List Int)(p:Int)(S:List Int):Int:=mx S (pre.filter (zQ k p)) 0
def Io(k:bw):List Int->List Int->Int->List Int->Int
 |_,[],most,_=>most
 |pre,p::r,most,S=>Io k (pre++[p]) r (max most (best k pre p S+nC k p)) (S.set p.toNat (best k pre p S+nC k p))
theorem nr(y:Option oh)(k:bw)(most p t38 t39:Int)(S ord:List Int)(l:List Int)(hl:l.length<=1048576)(hr:∀x∈l,0<=x/\x<S.length):∀(r pre:List Int) (b:Int) (N:Nat),l=pre++r->r.length<N->
  iH N ((y,most,p,b,t38,t39,l,(l.length:Int),(pre.length:Int),()),(k,S,ord,()),())=some ((y,most,p,mx S r b,t38,t39,()),(k,S,ord,()),())
 |[],pre,b,N,bU,hN=>by
  obtain⟨n,rfl⟩:=qN hN
  simp only[iH,we]
  rw[bU]
  simp[mx]
 |x::r,pre,b,N,bU,hN=>by
  obtain⟨n,rfl⟩:=qN hN
  simp only[List.length_cons]at hN
  have hlt:((pre.length:Nat):Int)<(l.length:Int):=by rw[bU];exact xN pre x r
  have cW:∀{R:Type} (kk:Int->Option R),qn l (pre.length:Int) kk=kk x:=λkk=>by rw[bU];exact xP pre x r kk rfl
  have ih:=nr y k most p t38 t39 S ord l hl hr r (pre++[x]) (max b (val S x)) n (by rw[bU];simp) (by omega)
  rw[xU]at ih
  have hx:=hr x (by rw[bU];simp)
  simp only[iH,we]
  rw[jF hlt,cond_true,cW,uG hx.1 hx.2,Rw hx.1 hx.2,jk (by omega) (by omega)]
  exact ih
structure Q_ (k:bw) (ord:List Int):Prop where
 nodup:ord.Nodup
 di:∀p∈ord,0<=p/\p<k.1.length
 ok:∀pre p post,ord=pre++p::post->(∀y∈wq k p,y∈pre)/\∀i:Int,0<=i->i<k.1.length->J_ k.2.2 i p=true->i∈pre
theorem qn9{k:bw}(hf:nA k){ord pre r:List Int}{p:Int}(ho:Q_ k ord)(bU:ord=pre++p::r){q post:List Int}(hd:(q,p,post)∈zf k.2.2)(hpost:∀x∈post,0<=x/\x<k.1.length)(S:List Int):best k pre p S=mx S (wq k p++post.head?.toList) 0:=by
 obtain⟨h1,h2⟩:=ho.ok pre p r bU
 obtain⟨h3,h4⟩:=hf.next hd
 refine Ik λx=>?_
 simp only[List.mem_filter,List.mem_append,zQ,Bool.or_eq_true,List.any_eq_true,beq_iff_eq,h3,decide_eq_true_eq,Option.mem_toList]
 constructor
 ·rintro⟨_,⟨z,hz,rfl⟩|h⟩
  ·exact .inl hz
  ·exact .inr h
 ·rintro(h|h)
  ·exact⟨h1 x h,.inl ⟨x,h,rfl⟩⟩
  ·have hx:x∈post:=List.mem_of_mem_head? h
   have hr:=hpost x hx
   exact⟨h2 x hr.1 hr.2 (by rw[h4,jF hx]),.inr h⟩
theorem qnK{k:bw}{pre:List Int}{p:Int}{S:List Int}{B:Int}(hB:0<=B)(hS:∀x,0<=val S x/\val S x<=B):0<=best k pre p S/\best k pre p S<=B:=⟨(wH S _ 0).1,TF _ 0 hB (λx _=>(hS x).2)⟩
theorem qjM{S:List Int}{p c B:Int}(h0:0<=c)(hc:c<=B)(hS:∀x,0<=val S x/\val S x<=B)(hB:0<=B):∀x,0<=val (S.set p.toNat c) x/\val (S.set p.toNat c) x<=B:=by
 intro x
 unfold val
 rw[List.getD_eq_getElem?_getD,List.getElem?_set]
 split
 ·split
  ·exact⟨h0,hc⟩
  ·exact⟨Int.le_refl _,hB⟩
 ·rw[<-List.getD_eq_getElem?_getD]
  exact hS x
theorem nu{k:bw}(hk:Small k)(hf:nA k){y:oh}(hy:Mg k y)(ord:List Int)(ho:Q_ k ord)(yg:ord.length<=1048576):∀(r pre:List Int) (most B:Int) (S:List Int) (N:Nat),ord=pre++r->S.length=k.1.length->0<=B->(∀x,0<=val S x/\val S x<=B)->B+100*r.length<=1048576->r.length+1048577<N->
  iI N ((some y,most,(ord.length:Int),(pre.length:Int),()),(k,S,ord,()),())=some ((Io k pre r most S,()),(),())
 |[],pre,most,B,S,N,bU,hSl,hB,hS,hBr,hN=>by
  obtain⟨n,rfl⟩:=qN hN
  simp only[iI,wg]
  rw[bU]
  simp[Io]
 |p::r,pre,most,B,S,N,bU,hSl,hB,hS,hBr,hN=>by
  obtain⟨n,rfl⟩:=qN hN
  simp only[List.length_cons]at hN hBr
  have vA:=hf.parts
  have hlt:((pre.length:Nat):Int)<(ord.length:Int):=by rw[bU];exact xN pre p r
  have cW:∀{R:Type} (kk:Int->Option R),qn ord (pre.length:Int) kk=kk p:=λkk=>by rw[bU];exact xP pre p r kk rfl
  have hp:=ho.di p (by rw[bU];simp)
  obtain⟨q,hq,hqm,Sf,sg⟩:=Ud hf hp.1 hp.2
  obtain⟨rfl,many,aT,hst⟩:=hy
  obtain⟨pr,post,hd,_,hpost,_⟩:=hf.spot hp.1 hp.2
  obtain⟨hsa,_⟩:=hst.spot _ hd
  have hbe:=qn9 hf ho bU hd hpost S
  obtain⟨hb0,kG⟩:=qnK (k:=y.1) (pre:=pre) (p:=p) hB hS
  have Cr:wq y.1 p=q.2.2.2:=by unfold wq;rw[hq]
  have hnl:=hk.wF q (List.mem_of_getElem? hq)
  have aa1:∀x∈q.2.2.2,0<=x/\x<S.length:=λx hx=>by have:=qi3 hf hp.1 hp.2 x (by rw[Cr];exact hx);omega
  have ih:=nu hk hf ⟨rfl,many,aT,hst⟩ ord ho yg r (pre++[p]) (max most (best y.1 pre p S+nC y.1 p)) (B+100) (S.set p.toNat (best y.1 pre p S+nC y.1 p)) n (by rw[bU];simp) (by simp[hSl]) (by omega) (qjM (by omega) (by omega) (λx=>by have:=hS x;omega) (by omega)) (by omega) (by omega)
  rw[xU]at ih
  simp only[iI,wg]
  rw[jF hlt,cond_true,uG (by omega) hlt,cW,qp,j5 hp.1 hq]
  have h14:=nr (some y) y.1 most p (ord.length:Int) (pre.length:Int) S ord q.2.2.2 hnl aa1 q.2.2.2 [] 0 n rfl (by omega)
  have abD:iH n ((some y,most,p,0,(ord.length:Int),(pre.length:Int),q.2.2.2,(q.2.2.2.length:Int),0,()),(y.1,S,ord,()),())=_:=h14
  rw[abD,qp]
  dsimp only
  rw[qp,j5 hp.1 hsa,Io]
  have Se:p<(S.length:Int):=by omega
  cases post with
  |nil=>
   rw[fm (by simp),cond_false,j5 hp.1 hq,uG hp.1 Se,Rw hp.1 Se,Hr]
   simp only[List.head?_nil,Option.toList,List.append_nil,Cr]at hbe
   rw[<-hbe,<-hqm,jk (x:=best y.1 pre p S+nC y.1 p) (by omega) (by omega),uG hp.1 (by simp;omega),Rw hp.1 (by simp;omega),ZF hp.1 Se,jk (x:=(pre.length:Int)+1) (by omega) (by omega)]
   exact ih
  |cons z post=>
   have hz:=hpost z List.mem_cons_self
   have hzS:z<(S.length:Int):=by omega
   rw[jF (by simp),cond_true,qp,j5 hp.1 hsa]
   rw[j5 (l:=z::post) (i:=0) (x:=z) (Int.le_refl _) rfl]
   rw[uG hz.1 hzS,Rw hz.1 hzS,j5 hp.1 hq,uG hp.1 Se,Rw hp.1 Se,Hr]
   simp only[List.head?_cons,Option.toList,Cr,Ij]at hbe
   rw[<-hbe,<-hqm,jk (x:=best y.1 pre p S+nC y.1 p) (by omega) (by omega),uG hp.1 (by simp;omega),Rw hp.1 (by simp;omega),ZF hp.1 Se,jk (x:=(pre.length:Int)+1) (by omega) (by omega)]
   exact ih
theorem IS{s:List Bool}:false∈s↔∃i:Nat,i<s.length/\has s (i:Int)=false:=by
 constructor
 ·intro h
  obtain⟨i,hi,e⟩:=List.mem_iff_getElem.1 h
  refine⟨i,hi,?_⟩
  unfold has
  rw[List.getD_eq_getElem?_getD,show((i:Int)).toNat=i by omega,List.getElem?_eq_getElem hi,e]
  rfl
 ·rintro⟨i,hi,e⟩
  unfold has at e
  rw[List.getD_eq_getElem?_getD,show((i:Int)).toNat=i by omega,List.getElem?_eq_getElem hi]at e
  have e:s[i]=false:=e
  rw[<-e]
  exact List.getElem_mem hi
abbrev JW(k:bw):List Bool:=List.replicate k.1.length false
theorem qgI{s:List Bool}{p:Int}(h0:0<=p)(h:p<s.length):has (s.set p.toNat true) p=true:=qmi h0 h
theorem qnr{s:List Bool}{p q:Int}(h0:0<=p)(hq:0<=q)(hp:p<s.length):has (s.set p.toNat true) q=(has s q||decide (q=p)):=by
 by_cases e:q=p
 ·subst e;rw[qgI h0 hp,jF rfl,Bool.or_true]
 ·rw[fm e,Bool.or_false];exact qoy h0 hq e
theorem qjy{s:List Bool}(h:s.count false=0){q:Int}(h0:0<=q)(hq:q<s.length):has s q=true:=by
 rcases hb:has s q with _|_
 ·have:false∈s:=IS.2 ⟨q.toNat,by omega,by rw[show((q.toNat:Nat):Int)=q by omega];exact hb⟩
  have:=List.count_pos_iff.2 this
  omega
 ·rfl
theorem qke(k:bw)(q:Int):has (JW k) q=false:=by
 unfold has JW
 rw[List.getD_eq_getElem?_getD,List.getElem?_replicate]
 split<;>rfl
theorem qnI{k:bw}{s:List Bool}{p:Int}(h:ig k s p=true):(wq k p).all (has s)=true:=by
 unfold ig at h
 unfold wq
 cases e:k.1[p.toNat]? with
 |none=>rfl
 |some q=>
  rw[e]at h
  simp only[Bool.and_eq_true]at h
  exact h.1.1.2
theorem Ae(n:Nat)(f:Nat->Int):lD (n+1) f=lD n f++[f n]:=by unfold lD;rw[List.range_succ,List.map_append];rfl
theorem RK(n:Nat)(f:Nat->Int):(lD (n+1) f).sum=(lD n f).sum+f n:=by
 rw[Ae,List.sum_append,List.sum_cons,List.sum_nil,Int.add_zero]
theorem qlC(f g:Nat->Int):∀n,(lD n (λq=>f q+g q)).sum=(lD n f).sum+(lD n g).sum
 |0=>rfl
 |n+1=>by rw[RK,RK,RK,qlC f g n];omega
theorem qiz{f:Nat->Int}{B:Int}:∀n,(∀q,q<n->0<=f q/\f q<=B)->0<=(lD n f).sum/\(lD n f).sum<=B*n
 |0,_=>by simp[lD]
 |n+1,h=>by
  have:=qiz n (λq hq=>h q (by omega))
  have h2:=h n (by omega)
  have e:B*((n+1:Nat):Int)=B*(n:Int)+B:=by rw[show((n+1:Nat):Int)=(n:Int)+1 by omega,Int.mul_add,Int.mul_one]
  rw[RK,e]
  omega
theorem qiy(b:Nat->Bool)(c:Int):∀n,(lD n (λq=>if b q=true then c else 0)).sum=(((List.range n).filter b).length:Int)*c
 |0=>by simp[lD]
 |n+1=>by
  rw[RK,qiy b c n,List.range_succ,List.filter_append,List.length_append]
  cases h:b n with
  |true=>
   have:[n].filter b=[n]:=by simp[h]
   rw[this,if_pos rfl,show(((((List.range n).filter b).length+[n].length:Nat)):Int)=(((List.range n).filter b).length:Int)+1 by simp,Int.add_mul,Int.one_mul]
  |false=>
   have:[n].filter b=[]:=by simp[h]
   rw[this]
   simp
def vk(k:bw)(u:Int)(s:List Bool)(kv:KV)(q:Nat):Int:=if has s (q:Int)=true then nC k (q:Int)else match bX kv (q:Int)with
 |some v=>nC k (q:Int)-(v-u)
 |none=>0
def sJ(k:bw)(u:Int)(s:List Bool)(kv:KV):Int:=(lD k.1.length (vk k u s kv)).sum
theorem qnz{k:bw}{aj u:Int}{s:List Bool}{p:Int}{kv:KV}(q:Nat):vk k u s (dh k aj u s p kv) q=vk k u s kv q:=by
 unfold dh
 cases e:bX kv p with
 |some v=>rfl
 |none=>
  dsimp only
  cases hc:decide ((kv.length:Int)<aj)&&ig k s p with
  |false=>rfl
  |true=>
   have hs:=Ug (Bool.and_eq_true _ _▸hc).2
   rw[cond_true]
   unfold vk
   rw[YU e]
   by_cases h:(q:Int)=p
   ·rw[if_pos h,h,e,hs]
    simp only[Bool.false_eq_true,if_false]
    omega
   ·rw[if_neg h]
theorem qoB{k:bw}{aj u:Int}{s:List Bool}{p:Int}{kv:KV}(h:(kv.length:Int)<=aj):((dh k aj u s p kv).length:Int)<=aj:=by
 unfold dh
 cases e:bX kv p with
 |some v=>exact h
 |none=>
  dsimp only
  cases hc:decide ((kv.length:Int)<aj)&&ig k s p with
  |false=>exact h
  |true=>
   rw[Bool.and_eq_true,decide_eq_true_eq]at hc
   rw[cond_true,List.length_append]
   simp only[List.length_cons,List.length_nil]
   omega
theorem qhR{k:bw}{aj u:Int}{s:List Bool}:∀(d p:Nat) (kv:KV),(kv.length:Int)<=aj->(∀q,vk k u s (jK k aj u s d p kv) q=vk k u s kv q)/\((jK k aj u s d p kv).length:Int)<=aj
 |0,_,_,h=>⟨λ_=>rfl,h⟩
 |d+1,p,kv,h=>by
  obtain⟨h1,h2⟩:=qhR (k:=k) (aj:=aj) (u:=u) (s:=s) d (p+1) (dh k aj u s (p:Int) kv) (qoB h)
  exact⟨λq=>by rw[jK,h1 q,qnz],h2⟩
theorem qnF{k:bw}{n:Nat}{t:Int}{p:Nat}{s:List Bool}{kv:KV}(hp:p<s.length)(h:qbd n t s kv)(q:Nat):vk k (t+1) (bp (t+1) p (s,kv)).1 (bp (t+1) p (s,kv)).2 q=vk k (t+1) s kv q:=by
 unfold bp
 cases e:bX (s,kv).2 (p:Int)with
 |none=>rfl
 |some v=>
  dsimp only at e ⊢
  cases hv:v==t+1 with
  |false=>rfl
  |true=>
   obtain rfl:v=t+1:=by simpa using hv
   have hk:=h.key _ _ (Ba e)
   rw[cond_true]
   unfold vk
   by_cases hq:q=p
   ·subst hq
    have e1:has (s.set q true) (q:Int)=true:=by
     have:=qgI (s:=s) (p:=(q:Int)) (by omega) (by omega)
     rwa[Int.toNat_natCast]at this
    rw[e1,if_pos rfl,hk.2.2.2.2,e]
    simp
   ·rw[qla (by omega) (by omega),RT (by omega)]
theorem qhX{k:bw}{n:Nat}{t:Int}:∀(d p:Nat) (s:List Bool) (kv:KV),p+d<=s.length->qbd n t s kv->∀q,vk k (t+1) (ii (t+1) d p (s,kv)).1 (ii (t+1) d p (s,kv)).2 q=vk k (t+1) s kv q
 |0,_,_,_,_,_,_=>rfl
 |d+1,p,s,kv,hp,h,q=>by
  have hl:=(qhZ (n:=n) (t:=t) (p:=p) (by omega) h).2.2
  rw[ii,qhX d (p+1) _ _ (by omega) (qfk h),qnF (by omega) h]
structure oy (k:bw) (F:Int->Int) (t:Int) (s:List Bool) (kv:KV):Prop where
 up:∀q:Int,0<=q->q<k.1.length->has s q=true->F q<=t
 busy:∀x v,(x,v)∈kv->F x<=v
def Bef(k:bw)(p x:Int):Prop:=(0<=x/\x<k.1.length)/\(x∈wq k p\/J_ k.2.2 x p=true)
theorem DC{k:bw}{s:List Bool}{p x:Int}(h:ig k s p=true)(hx:Bef k p x):has s x=true:=by
 rcases hx.2 with hn|ha
 ·exact List.all_eq_true.1 (qnI h) x hn
 ·unfold ig at h
  cases e:k.1[p.toNat]? with
  |none=>rw[e]at h;cases h
  |some q=>
   rw[e]at h
   simp only[Bool.and_eq_true,List.all_eq_true]at h
   have:=h.2 x (Gu.2 hx.1)
   rw[ha]at this
   simpa using this
def xh(k:bw)(F:Int->Int):Prop:=∀(p c:Int),0<=p->p<k.1.length->0<=c->(∀x,Bef k p x->F x<=c)->F p<=c+nC k p
theorem oy.dh{k:bw}{F:Int->Int}(hF:xh k F){aj t:Int}(ht:0<=t){s:List Bool}{kv:KV}(h:oy k F t s kv){p:Int}(h0:0<=p)(hp:p<k.1.length):oy k F t s (dh k aj t s p kv):=by
 unfold Go.Proofs.Tryz.V.kn.dh
 cases e:bX kv p with
 |some v=>exact h
 |none=>
  dsimp only
  cases hc:decide ((kv.length:Int)<aj)&&ig k s p with
  |false=>exact h
  |true=>
   rw[Bool.and_eq_true]at hc
   refine⟨h.up,λx v hx=>?_⟩
   rw[cond_true,List.mem_append,List.mem_singleton]at hx
   rcases hx with hx|hx
   ·exact h.busy x v hx
   ·cases hx
    exact hF p t h0 hp ht (λx hx=>h.up x hx.1.1 hx.1.2 (DC hc.2 hx))
theorem oy.fill{k:bw}{F:Int->Int}(hF:xh k F){aj t:Int}(ht:0<=t){s:List Bool}:∀(d p:Nat) (kv:KV),p+d=k.1.length->oy k F t s kv->oy k F t s (jK k aj t s d p kv)
 |0,_,_,_,h=>h
 |d+1,p,kv,hp,h=>oy.fill hF ht d (p+1) _ (by omega) (h.dh hF ht (by omega) (by omega))
theorem oy.bp{k:bw}{F:Int->Int}{t:Int}{s:List Bool}{kv:KV}(hs:s.length=k.1.length)(h:oy k F t s kv){p:Nat}(hp:p<k.1.length):oy k F t (bp t p (s,kv)).1 (bp t p (s,kv)).2:=by
 unfold Go.Proofs.Tryz.V.kn.bp
 cases e:bX (s,kv).2 (p:Int)with
 |none=>exact h
 |some v=>
  dsimp only at e ⊢
  cases hv:v==t with
  |false=>exact h
  |true=>
   obtain rfl:v=t:=by simpa using hv
   rw[cond_true]
   refine⟨λq h0 hq hh=>?_,λx w hx=>h.busy x w ((Uh _ kv).subset hx)⟩
   have:=qnr (s:=s) (p:=(p:Int)) (q:=q) (by omega) h0 (by omega)
   rw[Int.toNat_natCast]at this
   dsimp only at hh
   rw[this,Bool.or_eq_true,decide_eq_true_eq]at hh
   rcases hh with hh|rfl
   ·exact h.up q h0 hq hh
   ·exact h.busy _ _ (Ba e)
theorem qlh(t:Int)(p:Nat)(x:List Bool×KV):(bp t p x).1.length=x.1.length:=by
 unfold bp
 split
 ·rename_i u _
  cases u==t<;>simp
 ·rfl
theorem oy.xd{k:bw}{F:Int->Int}{t:Int}:∀(d p:Nat) (s:List Bool) (kv:KV),p+d=k.1.length->s.length=k.1.length->oy k F t s kv->oy k F t (ii t d p (s,kv)).1 (ii t d p (s,kv)).2
 |0,_,_,_,_,_,h=>h
 |d+1,p,s,kv,hp,hs,h=>by
  rw[ii]
  exact oy.xd d (p+1) _ _ (by omega) ((qlh t p (s,kv)).trans hs) (h.bp hs (by omega))
def sI(k:bw):Int:=(lD k.1.length λq=>nC k (q:Int)).sum
theorem AD{k:bw}(hf:nA k)(hw:k.1.length<=(fg k).1.length)(aj:Int)(ht1:1<=aj)(F:Int->Int)(hF:xh k F):∀(m:Nat) (u hi:Int) (s:List Bool) (kv:KV) (r:Int),s.length=k.1.length->qbd k.1.length u s kv->lM k.1.length hi kv->0<=u->u<=hi->hi+100*m<=1000000->(kv.length:Int)<=aj->u<=sJ k u s kv->sJ k u s kv<=aj*u->oy k F u s kv->AP k aj m (u,s,kv)=some r->
  r<=sI k/\sI k<=aj*r/\0<=r/\∀q:Int,0<=q->q<k.1.length->F q<=r:=by
 have last:∀(u:Int) (s:List Bool) (kv:KV),s.length=k.1.length->false∉s->0<=u->u<=sJ k u s kv->sJ k u s kv<=aj*u->oy k F u s kv->u<=sI k/\sI k<=aj*u/\0<=u/\∀q:Int,0<=q->q<k.1.length->F q<=u:=by
  intro u s kv hs hb hu h1 h2 hL
  have hall:∀q:Int,0<=q->q<k.1.length->has s q=true:=λq h0 hq=>qjy (List.count_eq_zero.2 hb) h0 (by omega)
  have e:sJ k u s kv=sI k:=by
   unfold sJ sI
   congr 1
   refine Zi λq hq=>?_
   unfold vk
   rw[hall (q:Int) (by omega) (by omega),if_pos rfl]
  rw[e]at h1 h2
  exact⟨h1,h2,hu,λq h0 hq=>hL.up q h0 hq (hall q h0 hq)⟩
 intro m
 induction m with
 |zero=>
  intro u hi s kv r hs h hwf hu huh hhi hkv h1 h2 hL hr
  unfold AP at hr
  by_cases hb:false∈s
  ·rw[jF hb]at hr;cases hr
  ·rw[fm hb]at hr
   cases hr
   exact last u s kv hs hb hu h1 h2 hL
 |succ m ih=>
  intro u hi s kv r hs h hwf hu huh hhi hkv h1 h2 hL hr
  unfold AP at hr
  by_cases hb:false∈s
  case neg=>
   rw[fm hb]at hr
   cases hr
   exact last u s kv hs hb hu h1 h2 hL
  rw[jF hb,cond_true]at hr
  have hne:=qkp hw (now:=u) ht1 hs hb kv
  have yw:qbd k.1.length u s (jK k aj u s k.1.length 0 kv):=by
   have:∀(d p:Nat) (q_:KV),p+d=k.1.length->qbd k.1.length u s q_->qbd k.1.length u s (jK k aj u s d p q_):=by
    intro d
    induction d with
    |zero=>intro p q_ _ h;exact h
    |succ d ih=>intro p q_ hp h;rw[jK];exact ih (p+1) _ (by omega) (qhU hf (by omega) (by omega) (by omega) (by omega) h)
   exact this k.1.length 0 kv (by omega) h
  have vq:lM k.1.length (hi+100) (jK k aj u s k.1.length 0 kv):=by
   have:∀(d p:Nat) (q_:KV),p+d=k.1.length->lM k.1.length (hi+100) q_->lM k.1.length (hi+100) (jK k aj u s d p q_):=by
    intro d
    induction d with
    |zero=>intro p q_ _ h;exact h
    |succ d ih=>intro p q_ hp h;rw[jK];exact ih (p+1) _ (by omega) (qjs hf (by omega) (by omega) (by omega) (by omega) h)
   exact this k.1.length 0 kv (by omega) (hwf.mono (by omega))
  obtain⟨hfw,hfl⟩:=qhR (k:=k) (aj:=aj) (u:=u) (s:=s) k.1.length 0 kv hkv
  have hL2:=oy.fill hF (aj:=aj) hu (s:=s) k.1.length 0 kv (by omega) hL
  have hwk:sJ k u s (jK k aj u s k.1.length 0 kv)=sJ k u s kv:=by
   unfold sJ
   rw[Zi (λq _=>hfw q)]
  unfold qmW at hr
  dsimp only at hr
  generalize jK k aj u s k.1.length 0 kv=eA at *
  obtain⟨⟨xm,Nw,Nx⟩,hmin⟩:=Zq eA hne
  have hmb:=qgb vq (by omega)
  have uO:=yw.key xm.1 xm.2 Nw
  rw[Nx]at uO
  have ha2:qbd k.1.length (fC eA-1) s eA:=⟨yw.nodup,λx v hx=>by have h1:=yw.key x v hx;have h2:=hmin (x,v) hx;dsimp only at h2;exact⟨h1.1,h1.2.1,by omega,h1.2.2.2.1,h1.2.2.2.2⟩⟩
  have hdc:=ZB (n:=k.1.length) (t:=fC eA-1) k.1.length 0 s eA (by omega) ha2
  have Cp:=qbd.next hs ha2
  have hdw:=qhX (k:=k) (n:=k.1.length) (t:=fC eA-1) k.1.length 0 s eA (by omega) ha2
  rw[show fC eA-1+1=fC eA by omega]at hdc Cp hdw
  have CE:=Dv yw
  unfold OO at CE
  rw[<-List.range_eq_range']at CE
  have hstep:sJ k (fC eA) s eA=sJ k u s eA+(eA.length:Int)*(fC eA-u):=by
   unfold sJ
   rw[<-CE,<-qiy (Mt eA) (fC eA-u) k.1.length,<-qlC]
   congr 1
   refine Zi λq hq=>?_
   unfold vk Mt
   cases e:bX eA (q:Int)with
   |none=>simp
   |some v=>
    have:=(yw.key _ _ (Ba e)).2.2.2.2
    rw[this]
    simp only[Bool.false_eq_true,if_false,Option.isSome_some,if_true]
    omega
  have hdone:sJ k (fC eA) (ii (fC eA) k.1.length 0 (s,eA)).1 (ii (fC eA) k.1.length 0 (s,eA)).2=sJ k (fC eA) s eA:=by
   unfold sJ
   rw[Zi (λq _=>hdw q)]
  have hpos:0<=fC eA-u:=by omega
  have m1:(eA.length:Int)*(fC eA-u)<=aj*(fC eA-u):=Int.mul_le_mul_of_nonneg_right hfl hpos
  have m2:1*(fC eA-u)<=(eA.length:Int)*(fC eA-u):=Int.mul_le_mul_of_nonneg_right (by have:=List.length_pos_iff.2 hne;omega) hpos
  have m3:aj*fC eA=aj*u+aj*(fC eA-u):=by rw[<-Int.mul_add];congr 1;omega
  have hL3:oy k F (fC eA) s eA:=⟨λq h0 hq hh=>by have:=hL2.up q h0 hq hh;omega,hL2.busy⟩
  have IU:=oy.xd k.1.length 0 s eA (by omega) hs hL3
  exact ih (fC eA) (hi+100) _ _ r (by omega) Cp ⟨Cp.nodup,λx v hx=>vq.key x v (hdc.2.1.subset hx)⟩ (by omega) (by omega) (by omega) (by have:=hdc.2.1.length_le;omega) (by omega) (by omega) IU hr
def AN(k:bw):List Int->List Int->List Int->List Int
 |_,[],S=>S
 |pre,p::r,S=>AN k (pre++[p]) r (S.set p.toNat (best k pre p S+nC k p))
theorem Zy{k:bw}{x:Int}(hx:0<=x):∀(r pre S:List Int),(∀p∈r,0<=p)->x∉r->val (AN k pre r S) x=val S x
 |[],_,_,_,_=>rfl
 |p::r,pre,S,hr,hn=>by
  simp only[List.mem_cons,not_or]at hn
  rw[AN,Zy hx r _ _ (λq hq=>hr q (List.mem_cons_of_mem _ hq)) hn.2,qiu (hr p List.mem_cons_self) hx hn.1]
theorem ql9{k:bw}(hf:nA k){ord:List Int}(ho:Q_ k ord):∀(r pre S:List Int),ord=pre++r->S.length=k.1.length->∀p∈r,∀c:Int,0<=c->(∀x,Bef k p x->val (AN k pre r S) x<=c)->val (AN k pre r S) p<=c+nC k p
 |[],_,_,_,_,p,hp,_,_,_=>by cases hp
 |p::r,pre,S,bU,hS,p',IB,c,hc,hb=>by
  rw[AN]at hb ⊢
  rcases List.mem_cons.1 IB with rfl|IB
  ·have aq:=ho.nodup
   rw[bU,List.nodup_append]at aq
   have uM:=(List.nodup_cons.1 aq.2.1).1
   have Ch:∀q∈p'::r,0<=q/\q<k.1.length:=λq hq=>ho.di q (by rw[bU];exact List.mem_append_right _ hq)
   have zx:=Ch p' List.mem_cons_self
   have ye:∀q∈r,0<=q:=λq hq=>(Ch q (List.mem_cons_of_mem _ hq)).1
   rw[Zy zx.1 r _ _ ye uM,ZF zx.1 (by omega)]
   obtain⟨q,post,hd,hab,hpost,_⟩:=hf.spot zx.1 zx.2
   rw[qn9 hf ho bU hd hpost S]
   have:mx S (wq k p'++post.head?.toList) 0<=c:=by
    refine TF _ 0 hc (λx hx=>?_)
    have Sj:Bef k p' x:=by
     rcases List.mem_append.1 hx with hx|hx
     ·have:=qi3 hf zx.1 zx.2 x hx
      exact⟨⟨this.1,this.2.1⟩,.inl hx⟩
     ·have hx':x∈post:=List.mem_of_mem_head? (Option.mem_toList.1 hx)
      exact⟨hpost x hx',.inr (by rw[hab,jF hx'])⟩
    have hxp:x∈pre:=by
     obtain⟨h1,h2⟩:=ho.ok pre p' r bU
     rcases Sj.2 with h|h
     ·exact h1 x h
     ·exact h2 x Sj.1.1 Sj.1.2 h
    have hxn:x∉p'::r:=λh=>aq.2.2 x hxp x h rfl
    have h3:=hb x Sj
    simp only[List.mem_cons,not_or]at hxn
    rwa[Zy Sj.1.1 r _ _ ye hxn.2,qiu zx.1 Sj.1.1 hxn.1]at h3
   omega
  ·exact ql9 hf ho r (pre++[p]) _ (by rw[bU];simp) (by simp[hS]) p' IB c hc hb
theorem BK{k:bw}{ord:List Int}(ho:Q_ k ord){c:Int}:∀(r pre:List Int) (most:Int) (S:List Int),ord=pre++r->S.length=k.1.length->most<=c->(∀p∈r,val (AN k pre r S) p<=c)->Io k pre r most S<=c
 |[],_,_,_,_,_,h,_=>h
 |p::r,pre,most,S,bU,hS,h,hv=>by
  have aq:=ho.nodup
  rw[bU,List.nodup_append]at aq
  have uM:=(List.nodup_cons.1 aq.2.1).1
  have Ch:∀q∈p::r,0<=q/\q<k.1.length:=λq hq=>ho.di q (by rw[bU];exact List.mem_append_right _ hq)
  have zx:=Ch p List.mem_cons_self
  have h1:=hv p List.mem_cons_self
  rw[AN,Zy zx.1 r _ _ (λq hq=>(Ch q (List.mem_cons_of_mem _ hq)).1) uM,ZF zx.1 (by omega)]at h1
  rw[Io]
  refine BK ho r (pre++[p]) _ _ (by rw[bU];simp) (by simp[hS]) (by omega) (λq hq=>?_)
  have:=hv q (List.mem_cons_of_mem _ hq)
  rwa[AN]at this
theorem qmK(k:bw)(hk:Small k)(aj:Int):(valid k=false/\g9 (k,aj,())=some ((0,80,()),()))\/(valid k=true/\di aj 1 4=false/\g9 (k,aj,())=some ((0,1,()),()))\/(valid k=true/\(fg k).1.length<k.1.length/\g9 (k,aj,())=some ((0,3,()),()))\/
  (valid k=true/\di aj 1 4=true/\(fg k).1.length=k.1.length/\∃r,AP k aj k.1.length (0,JW k,[])=some r/\g9 (k,aj,())=some ((r,0,()),())):=by
 have hF:g9 (k,aj,())=F9 qk k aj:=rfl
 rw[hF]
 unfold F9
 rcases C_ k hk with⟨hv,q,h⟩|⟨hv,y,hy,h⟩
 ·rw[h];exact .inl ⟨hv,rfl⟩
 have hf:=jc k hv
 have vA:=hf.parts
 rw[h,qp]
 simp only[Bool.not_true,cond_false,qp]
 rw[mI,qp]
 dsimp only
 cases hr:di aj 1 4 with
 |false=>exact .inr (.inl ⟨hv,rfl,rfl⟩)
 |true=>
  simp only[di,Bool.and_eq_true,decide_eq_true_eq]at hr
  simp only[Bool.not_true,cond_false]
  rw[CZ hk hf hy,qp]
  have hle:=(qjr k).2
  by_cases hl:(fg k).1.length<k.1.length
  ·rw[jF (by omega:(((fg k).1.length:Nat):Int)<(k.1.length:Int))]
   exact .inr (.inr (.inl ⟨hv,hl,rfl⟩))
  ·have yw:qbd k.1.length 0 (List.replicate k.1.length false) []:=⟨by simp,by simp⟩
   have hwf:lM k.1.length 0 []:=⟨by simp,by simp⟩
   obtain⟨r,hrun⟩:=qj5 hf (by omega) aj hr.1 k.1.length 0 0 (List.replicate k.1.length false) [] (by simp) (by simp) yw hwf (by omega) (by omega) (by omega)
   refine .inr (.inr (.inr ⟨hv,trivial,by omega,r,hrun,?_⟩))
   rw[fm (by omega:¬(((fg k).1.length:Nat):Int)<(k.1.length:Int)),cond_false,vi (by omega),vi (by omega),Ho (by omega) (by omega)]
   have hh:=yK hk hf hy aj hr.2 k.1.length 0 0 (List.replicate k.1.length false) [] qk r (by simp) (by omega) (by omega) (by omega) (by have:=Gj;omega) hwf hrun
   have KX:mT qk ((aj,some y,0,()),(k,List.replicate (k.1.length:Int).toNat false,()),[])=_:=hh
   rw[KX,qp]
theorem ZM(k:bw)(hk:Small k):(valid k=false/\g11 (k,())=some ((0,80,()),()))\/(valid k=true/\(fg k).1.length<k.1.length/\g11 (k,())=some ((0,3,()),()))\/
  (valid k=true/\(fg k).1.length=k.1.length/\Q_ k (fg k).1/\g11 (k,())=some ((Io k [] (fg k).1 0 (List.replicate k.1.length 0),0,()),())):=by
 have hF:g11 (k,())=F11 qk k:=rfl
 rw[hF]
 unfold F11
 rcases C_ k hk with⟨hv,q,h⟩|⟨hv,y,hy,h⟩
 ·rw[h];exact .inl ⟨hv,rfl⟩
 have hf:=jc k hv
 have vA:=hf.parts
 have hle:=(qjr k).2
 rw[h,qp]
 simp only[Bool.not_true,cond_false,qp]
 rw[CZ hk hf hy,qp]
 by_cases hl:(fg k).1.length<k.1.length
 ·rw[jF (by omega:(((fg k).1.length:Nat):Int)<(k.1.length:Int))]
  exact .inr (.inl ⟨hv,hl,rfl⟩)
 ·have hok:=Jf hf
  have rp:Q_ k (fg k).1:=⟨hok.nodup,hok.di,hok.ok⟩
  have hS:∀x,0<=val (List.replicate k.1.length 0) x/\val (List.replicate k.1.length 0) x<=0:=λx=>by
   have:val (List.replicate k.1.length 0) x=0:=by
    unfold val
    rw[List.getD_eq_getElem?_getD,List.getElem?_replicate]
    split<;>rfl
   omega
  refine .inr (.inr ⟨hv,by omega,rp,?_⟩)
  rw[fm (by omega:¬(((fg k).1.length:Nat):Int)<(k.1.length:Int)),cond_false,vi (by omega),vi (by omega),Ho (by omega) (by omega)]
  have hh:=nu hk hf hy (fg k).1 rp (by omega) (fg k).1 [] 0 0 (List.replicate k.1.length 0) qk rfl (by simp) (Int.le_refl _) hS (by omega) (by have:=Gj;omega)
  have KX:iI qk ((some y,0,((fg k).1.length:Int),0,()),(k,List.replicate (k.1.length:Int).toNat 0,(fg k).1,()),())=_:=hh
  rw[KX,qp]
theorem BL{k:bw}:∀(r pre:List Int) (most:Int) (S:List Int),most<=Io k pre r most S
 |[],_,_,_=>Int.le_refl _
 |p::r,pre,most,S=>by
  rw[Io]
  have:=BL (k:=k) r (pre++[p]) (max most (best k pre p S+nC k p)) (S.set p.toNat (best k pre p S+nC k p))
  omega
theorem tb(k:bw)(hk:Small k)(aj:Int):∃n f row g,g9 (k,aj,())=some ((n,f,()),())/\g11 (k,())=some ((row,g,()),())/\(valid k=true->(f=1\/f=g)/\(f=0->0<=row/\row<=n/\n<=sI k)):=by
 rcases qmK k hk aj with⟨hv,ht⟩|⟨hv,hr,ht⟩|⟨hv,hl,ht⟩|⟨hv,hr,hl,n,hrun,ht⟩
 ·rcases ZM k hk with⟨_,hg⟩|⟨_,_,hg⟩|⟨_,_,_,hg⟩<;>exact⟨_,_,_,_,ht,hg,λh=>by rw[h]at hv;cases hv⟩
 ·rcases ZM k hk with⟨_,hg⟩|⟨_,_,hg⟩|⟨_,_,_,hg⟩<;>exact⟨_,_,_,_,ht,hg,λ_=>⟨.inl rfl,λh=>by cases h⟩⟩
 ·rcases ZM k hk with⟨gl,_⟩|⟨_,_,hg⟩|⟨_,hl',_⟩
  ·rw[gl]at hv;cases hv
  ·exact⟨_,_,_,_,ht,hg,λ_=>⟨.inr rfl,λh=>by cases h⟩⟩
  ·omega
 ·have hf:=jc k hv
  have vA:=hf.parts
  rcases ZM k hk with⟨gl,_⟩|⟨_,hl',_⟩|⟨_,_,rp,hg⟩
  ·rw[gl]at hv;cases hv
  ·omega
  refine⟨_,_,_,_,ht,hg,λ_=>⟨.inr rfl,λ_=>?_⟩⟩
  have hz:oy k (val (AN k [] (fg k).1 (List.replicate k.1.length 0))) 0 (JW k) []:=⟨λq _ _ h=>(by rw[qke]at h;cases h),λx v hx=>(List.not_mem_nil hx).elim⟩
  have hmem:∀q:Int,0<=q->q<k.1.length->q∈(fg k).1:=by
   have hp:=ZO (fg k).1 (AU k.1.length) rp.nodup (λx hx=>Gu.2 (rp.di x hx)) (by rw[ZP];omega)
   exact λq h0 hq=>hp.symm.subset (Gu.2 ⟨h0,hq⟩)
  have hW:xh k (val (AN k [] (fg k).1 (List.replicate k.1.length 0))):=λp c h0 hp hc hb=>ql9 hf rp (fg k).1 [] _ rfl (by simp) p (hmem p h0 hp) c hc hb
  have yw:qbd k.1.length 0 (JW k) []:=⟨by simp,by simp⟩
  have hwf:lM k.1.length 0 []:=⟨by simp,by simp⟩
  have hw0:sJ k 0 (JW k) []=0:=by
   unfold sJ
   have:∀n,(lD n (vk k 0 (JW k) [])).sum=0:=by
    intro n
    induction n with
    |zero=>rfl
    |succ n ih=>
     rw[RK,ih]
     unfold vk
     rw[qke]
     rfl
   exact this _
  simp only[di,Bool.and_eq_true,decide_eq_true_eq]at hr
  obtain⟨a1,_,a3,a4⟩:=AD hf (by omega) aj hr.1 _ hW k.1.length 0 0 (JW k) [] n (by simp) yw hwf (by omega) (by omega) (by omega) (by simp;omega) (by rw[hw0];omega) (by rw[hw0];omega) hz hrun
  have hge:=BL (k:=k) (fg k).1 [] 0 (List.replicate k.1.length 0)
  have aa9:=BK rp (c:=n) (fg k).1 [] 0 (List.replicate k.1.length 0) rfl (by simp) a3 (λp hp=>a4 p (rp.di p hp).1 (rp.di p hp).2)
  exact⟨hge,aa9,a1⟩
theorem qod(k:bw)(hv:valid k=true):(0<=sI k/\sI k<=1600)/\k.1.length<=16/\sI k=(k.1.map (·.2.1)).sum:=by
 have hf:=jc k hv
 have vA:=hf.parts
 have htot:0<=sI k/\sI k<=100*(k.1.length:Int):=qiz k.1.length (λq hq=>by
  obtain⟨_,_,_,h1,h2⟩:=Ud hf (p:=(q:Int)) (by omega) (by omega)
  omega)
 refine⟨by omega,vA,?_⟩
 unfold sI
 congr 1
 apply List.ext_getElem?
 intro i
 rw[List.getElem?_map]
 by_cases hi:i<k.1.length
 ·rw[GN hi,List.getElem?_eq_getElem hi]
  unfold nC
  rw[Int.toNat_natCast,List.getElem?_eq_getElem hi]
  rfl
 ·rw[List.getElem?_eq_none (by rw[qmM];omega),List.getElem?_eq_none (by omega)]
  rfl
theorem jt:(∀k:bw,Small k->g6 (k,())=some ((cond (valid k) 0 80,()),()))/\(∀(k:bw) (hk:Small k) (aj:Int),∃n f row g,g9 (k,aj,())=some ((n,f,()),())/\g11 (k,())=some ((row,g,()),())/\(valid k=true->(f=1\/f=g)/\(f=0->0<=row/\row<=n/\n<=sI k)))/\(∀k:bw,valid k=true->(0<=sI k/\sI k<=1600)/\k.1.length<=16/\sI k=(k.1.map (·.2.1)).sum):=
 ⟨λk hk=>WI k hk,λk hk t=>tb k hk t,λk hv=>qod k hv⟩
end Go.Proofs.Tryz.V.kn
