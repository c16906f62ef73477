/- Plain laws: what the last text needs of the others, in one. No condition beyond those typed in each theorem. -/
import Derived.Test.YtmlocmhkfnojbaaFn3
namespace Go.Proofs.Try.V.L08
open Go.Vi
set_option maxRecDepth 100000
abbrev Part:=Int×(Int×(Int×(List Int)))
abbrev Kit:=(List Part)×(Int×(List (List Int)))
theorem qcC:1099511627776<qn:=by decide
theorem w64{x:Int}(h1: -9223372036854775808<=x)(h2:x<=9223372036854775807):IntKind.wrap .i64 x=x:=IntWalk.i64_in x ⟨h1,h2⟩
theorem qeJ{α R:Type}(pre:List α)(x:α)(r:List α)(k:α->Option R){i:Int}(hi:i=pre.length):qs (pre++x::r) i k=k x:=by
 subst hi
 unfold qs
 rw[if_pos (by omega)]
 simp
theorem qbL{α R:Type}{l:List α}{i:Int}{x:α}(h0:0<=i)(h:l[i.toNat]? = some x)(k:α->Option R):qs l i k=k x:=by
 unfold qs
 rw[if_pos h0,h]
theorem qkF{α R:Type}{l:List α}{i:Int}(h0:0<=i)(h:i<l.length)(k:α->Option R):qs l i k=k (l[i.toNat]'(by omega)):=qbL h0 (List.getElem?_eq_getElem (by omega)) k
theorem qej{R:Type}{i:Int}{n:Nat}(h0:0<=i)(h:i<n)(k:Option R):inR i n k=k:=by unfold inR;rw[if_pos ⟨h0,h⟩]
theorem qJ{α R:Type}(x:α)(k:α->Option R):qa (some x) k=k x:=rfl
theorem qhZ{α β R:Type}(x:α)(k:α->Option R)(l:β->Option R):qbk (.inl x) k l=k x:=rfl
theorem qey{α β R:Type}(x:β)(k:α->Option R)(l:β->Option R):qbk (.inr x) k l=l x:=rfl
theorem qcp{R:Type}{a b:Int}(h:a<=b)(k:Option R):leK a b k=k:=by unfold leK;rw[if_pos h]
theorem qcV{R:Type}{n:Int}(h0:0<=n)(h:n<=274877906944)(k:Option R):ql n k=k:=by rw[jR,if_pos ⟨h0,h⟩]
theorem qcf{α R:Type}(x:α)(k:α->Option R):qbA x k=k x:=rfl
theorem qbs{α R:Type}(x:α)(k:α->Option R):qcE x k=k x:=rfl
theorem qaT{m n:Nat}(h:m<n):∃k,n=k+1:=⟨n-1,by omega⟩
theorem qaE{p:Prop}[Decidable p](h:p):decide p=true:=decide_eq_true h
theorem qbj{p:Prop}[Decidable p](h:¬p):decide p=false:=decide_eq_false h
theorem qiA{α:Type}(pre:List α)(x:α)(r:List α):(pre.length:Int)<((pre++x::r).length:Int):=by simp;omega
theorem qgd{α:Type}(pre:List α)(x:α):(((pre++[x]).length:Nat):Int)=(pre.length:Int)+1:=by simp
theorem qnF{α:Type}(pre:List α)(x:α)(r:List α):pre++[x]++r=pre++x::r:=by simp
def rng(x lo hi:Int):Bool:=decide (lo<=x)&&decide (x<=hi)
theorem g15_eq(x lo hi:Int):g15 (x,lo,hi,())=some ((rng x lo hi,()),()):=by
 show F15 qn x lo hi=_
 unfold F15 rng
 by_cases h:lo<=x
 ·rw[qaE (p:=x>=lo) h];rfl
 ·rw[qbj (p:=x>=lo) h];rfl
def qcb(n i:Int):Int->List Int->Bool
 |_,[]=>true
 |last,x::r=>decide (last<x)&&decide (x<n) && !(x==i)&&qcb n i x r
theorem L14_11_eq'(n i t30 t29:Int)(t28:List Part)(o:Kit):∀(r pre:List Int) (last:Int) (N:Nat),(pre++r).length<=1048576->r.length<N->
  L14_11 N ((n,i,last,t28,t29,t30,pre++r,((pre++r).length:Int),(pre.length:Int),()),(o,()),()) =
   some (cond (qcb n i last r) (.inr ((n,t28,t29,t30,()),(o,()),())) (.inl ((none,false,()),(),())))
 |[],pre,last,N,_,hN=>by
  obtain⟨k,rfl⟩:=qaT hN
  simp[L14_11,B14_11,qcb]
 |x::r,pre,last,N,hl,hN=>by
  obtain⟨k,rfl⟩:=qaT hN
  have ih:=L14_11_eq' n i t30 t29 t28 o r (pre++[x]) x k (by simpa using hl) (by simp at hN;omega)
  rw[qnF,qgd]at ih
  have hl':pre.length<1048576:=by simp at hl;omega
  simp only[L14_11,B14_11]
  rw[qaE (qiA pre x r),cond_true,qeJ pre x r _ rfl,w64 (by omega) (by omega)]
  by_cases h1:x<=last
  ·rw[qaE h1,cond_true,qcb,qbj (by omega:¬last<x)];rfl
  ·rw[qbj h1,cond_false,qcb,qaE (by omega:last<x)]
   by_cases h2:x>=n
   ·rw[qaE h2,cond_true,qbj (by omega:¬x<n)];rfl
   ·rw[qbj h2,cond_false,qaE (by omega:x<n)]
    cases h3:x==i with
    |true=>rfl
    |false=>
     rw[cond_false]
     exact ih
def qmw(n i:Int)(p:Part):Bool:=rng p.1 1 1000000&&rng p.2.1 1 100&&rng p.2.2.1 0 9&&qcb n i (-1) p.2.2.2
def qcT(n:Int):Int->List Part->Bool
 |_,[]=>true
 |i,p::r=>qmw n i p&&qcT n (i+1) r
theorem L14_5_eq'(o:Kit)(n:Int):∀(r pre:List Part) (N:Nat),(pre++r).length<=1048576->(∀p∈r,p.2.2.2.length<=1048576)->r.length+1048576<N->
  L14_5 N ((n,pre++r,((pre++r).length:Int),(pre.length:Int),()),(o,()),()) =
   some (cond (qcT n pre.length r) (.inr ((),(o,()),())) (.inl ((none,false,()),(),())))
 |[],pre,N,_,_,hN=>by
  obtain⟨k,rfl⟩:=qaT hN
  simp[L14_5,B14_5,qcT]
 |x::r,pre,N,hl,hb,hN=>by
  obtain⟨k,rfl⟩:=qaT hN
  have ih:=L14_5_eq' o n r (pre++[x]) k (by simpa using hl) (λp hp=>hb p (List.mem_cons_of_mem _ hp)) (by simp at hN;omega)
  rw[qnF,qgd]at ih
  have hl':pre.length<1048576:=by simp at hl;omega
  have hx:=hb x List.mem_cons_self
  have hin:=L14_11_eq' n (pre.length:Int) (pre.length:Int) ((pre++x::r).length:Int) (pre++x::r) o x.2.2.2 [] (-1) k hx (by simp at hN;omega)
  simp only[List.nil_append,List.length_nil]at hin
  simp only[L14_5,B14_5]
  rw[qaE (qiA pre x r),cond_true,qeJ pre x r _ rfl,g15_eq,qJ]
  simp only[qcT,qmw]
  cases h1:rng x.1 1 1000000 with
  |false=>simp
  |true=>
  simp only[Bool.not_true,cond_false,g15_eq,qJ]
  cases h2:rng x.2.1 1 100 with
  |false=>simp
  |true=>
  simp only[Bool.not_true,cond_false]
  cases h3:rng x.2.2.1 0 9 with
  |false=>simp
  |true=>
  simp only[Bool.not_true,cond_false]
  have hin':L14_11 k ((n,(pre.length:Int),-1,pre++x::r,((pre++x::r).length:Int),(pre.length:Int),x.2.2.2,(x.2.2.2.length:Int),0,()),(o,()),())=_:=hin
  rw[hin',qJ]
  cases h4:qcb n (pre.length:Int) (-1) x.2.2.2 with
  |false=>simp[qhZ]
  |true=>
   simp only[cond_true,qey,Bool.true_and]
   rw[w64 (by omega) (by omega)]
   exact ih
abbrev Spot:=List Int×(Int×List Int)
def qav:List Int->List Int->List Spot
 |_,[]=>[]
 |pre,x::r=>(pre,x,r)::qav (pre++[x]) r
theorem qdq:∀(r pre:List Int),(qav pre r).map (·.2.1)=r
 |[],_=>rfl
 |x::r,pre=>by simp[qav,qdq r]
theorem qjx:∀(r pre:List Int) {d:Spot},d∈qav pre r->d.1++d.2.1::d.2.2=pre++r
 |[],_,d,h=>by simp[qav]at h
 |x::r,pre,d,h=>by
  simp only[qav,List.mem_cons]at h
  rcases h with rfl|h
  ·rfl
  ·rw[qjx r _ h];simp
structure qfv (n:Nat) (done:List Spot) (many:Int) (ab be:List (List Int)) (lies:List Int):Prop where
 nodup:(done.map (·.2.1)).Nodup
 rng:∀d∈done,0<=d.2.1/\d.2.1<n
 many:many=done.length
 la:ab.length=n
 lb:be.length=n
 ll:lies.length=n
 lie:∀i,i<n->lies[i]? = some (if(i:Int)∈done.map (·.2.1)then 1 else 0)
 spot:∀d∈done,ab[d.2.1.toNat]? = some d.2.2/\be[d.2.1.toNat]? = some d.1.reverse
def qam(n:Nat):List Int->List Int->Bool
 |_,[]=>true
 |seen,x::r=>rng x 0 (n-1) && !decide (x∈seen)&&qam n (seen++[x]) r
theorem qfv.step{n:Nat}{done:List Spot}{many:Int}{ab be:List (List Int)}{lies:List Int}(h:qfv n done many ab be lies){pre r:List Int}{x:Int}(hx0:0<=x)(hx:x<n)(hn:x∉done.map (·.2.1)):
  qfv n (done++[(pre,x,r)]) (many+1) (ab.set x.toNat r) (be.set x.toNat pre.reverse) (lies.set x.toNat 1) where
 nodup:=by
  rw[List.map_append,List.nodup_append]
  exact⟨h.nodup,by simp,λa ha b hb e=>by simp at hb;subst hb;subst e;exact hn ha⟩
 rng:=by
  intro d hd
  rcases List.mem_append.1 hd with hd|hd
  ·exact h.rng d hd
  ·simp at hd;subst hd;exact⟨hx0,hx⟩
 many:=by rw[h.many];simp
 la:=by simp[h.la]
 lb:=by simp[h.lb]
 ll:=by simp[h.ll]
 lie:=by
  intro i hi
  rw[List.getElem?_set]
  by_cases e:x.toNat=i
  ·subst e
   rw[if_pos rfl,if_pos (by rw[h.ll];exact hi),if_pos]
   simp only[List.map_append,List.mem_append]
   right
   simp
   omega
  ·rw[if_neg e,h.lie i hi]
   congr 1
   have:(i:Int)∈(done++[(pre,x,r)]).map (·.2.1)↔(i:Int)∈done.map (·.2.1):=by
    simp only[List.map_append,List.mem_append]
    constructor
    ·rintro(h|h)
     ·exact h
     ·simp at h;omega
    ·exact .inl
   simp only[this]
 spot:=by
  intro d hd
  rcases List.mem_append.1 hd with hd|hd
  ·have hne:x.toNat≠d.2.1.toNat:=by
    intro e
    have:=h.rng d hd
    have:x=d.2.1:=by omega
    exact hn (List.mem_map.2 ⟨d,hd,this.symm⟩)
   rw[List.getElem?_set_ne hne,List.getElem?_set_ne hne]
   exact h.spot d hd
  ·simp at hd
   subst hd
   exact⟨by rw[List.getElem?_set_self (by rw[h.la];omega)],by rw[List.getElem?_set_self (by rw[h.lb];omega)]⟩
theorem g31_eq{l:List Int}(h:l.length<=1048576):g31 (l,())=some ((l,()),()):=by
 show ql (l.length:Int) _=_
 rw[qcV (by omega) (by omega)]
theorem g32_eq(l:List Int):g32 (l,())=some ((),l.reverse,()):=rfl
theorem L16_10_eq'(n:Nat)(hn:n<=16)(kit:Kit)(t31:List (List Int))(t32 t33:Int)(van:List Int)(hv:van.length<=1048576):∀(r pre:List Int) (done:List Spot) (many:Int) (ab be:List (List Int)) (lies:List Int) (N:Nat),van=pre++r->r.length<N->done.length+r.length<=1048576->qfv n done many ab be lies->
  (qam n (done.map (·.2.1)) r=false/\L16_10 N ((n,many,van,t31,t32,t33,van,(van.length:Int),(pre.length:Int),()),((kit,(ab,be)),lies,()),())=some (.inl ((none,false,()),(),())))\/
  (qam n (done.map (·.2.1)) r=true/\∃many' ab' be' lies',qfv n (done++qav pre r) many' ab' be' lies'/\
   L16_10 N ((n,many,van,t31,t32,t33,van,(van.length:Int),(pre.length:Int),()),((kit,(ab,be)),lies,()),())=some (.inr ((n,many',t31,t32,t33,()),((kit,(ab',be')),lies',()),())))
 |[],pre,done,many,ab,be,lies,N,hpr,hN,hb,h=>by
  obtain⟨k,rfl⟩:=qaT hN
  refine .inr ⟨rfl,many,ab,be,lies,by simpa[qav]using h,?_⟩
  subst hpr
  simp[L16_10,B16_10]
 |x::r,pre,done,many,ab,be,lies,N,hpr,hN,hb,h=>by
  obtain⟨k,rfl⟩:=qaT hN
  simp only[List.length_cons]at hN hb
  simp only[L16_10,B16_10]
  have hlt:((pre.length:Nat):Int)<(van.length:Int):=by rw[hpr];exact qiA pre x r
  have hget:∀{R:Type} (kk:Int->Option R),qs van (pre.length:Int) kk=kk x:=λkk=>by rw[hpr];exact qeJ pre x r kk rfl
  rw[qaE hlt,cond_true,hget,w64 (by omega) (by omega),g15_eq,qJ]
  simp only[qam]
  cases h1:rng x 0 ((n:Int)-1)with
  |false=>exact .inl ⟨rfl,by simp⟩
  |true=>
  simp only[rng,Bool.and_eq_true,decide_eq_true_eq]at h1
  have hx0:=h1.1
  have hx:x<n:=by omega
  simp only[Bool.not_true,cond_false,Bool.true_and]
  rw[qej hx0 (by rw[h.ll];omega),qbL hx0 (h.lie x.toNat (by omega))]
  rw[show((x.toNat:Nat):Int)=x by omega]
  by_cases hm:x∈done.map (·.2.1)
  ·rw[if_pos hm,qaE hm]
   exact .inl ⟨rfl,rfl⟩
  ·rw[if_neg hm,qbj hm,qbj (by omega:¬(0:Int)>0),cond_false,qej hx0 (by rw[h.ll];omega),qkF hx0 (by rw[h.ll];omega)]
   have htk:van.take (pre.length:Int).toNat=pre:=by rw[hpr];simp
   have hdr:van.drop ((pre.length:Int)+1).toNat=r:=by
    rw[hpr,show((pre.length:Int)+1).toNat=pre.length+1 by omega,List.drop_append]
    simp
   have hmb:many=done.length:=h.many
   rw[w64 (x:=many+1) (by omega) (by omega),w64 (x:=(pre.length:Int)+1) (by omega) (by omega)]
   have hpl:pre.length<=1048576:=by omega
   simp only[htk,hdr,g31_eq hpl,qJ,qcf,qbs,g32_eq,qcp (show(0:Int)<=(pre.length:Int)+1 by omega),qcp (show(pre.length:Int)+1<=(van.length:Int) by omega),qcp (show(0:Int)<=(pre.length:Int) by omega),qcp (show(pre.length:Int)<=(van.length:Int) by omega)]
   have e1:∀{R:Type} {l:List (List Int)} (hl:l.length=n) (kk:Option R),inR x l.length kk=kk:=λhl kk=>qej hx0 (by rw[hl];exact hx) kk
   have e2:∀{R:Type} {l:List (List Int)} (hl:l.length=n) (kk:List Int->Option R),qs l x kk=kk (l[x.toNat]'(by omega)):=λhl kk=>qkF hx0 (by rw[hl];exact hx) kk
   have hs:=h.step (pre:=pre) (r:=r) hx0 hx hm
   simp only[e1 h.la,e2 h.la,e1 h.lb,e2 h.lb,qag,qaf]
   have hl2:(be.set x.toNat pre).length=n:=by simp[h.lb]
   simp only[e1 hl2,e2 hl2,List.getElem_set_self,List.set_set]
   have ih:=L16_10_eq' n hn kit t31 t32 t33 van hv r (pre++[x]) (done++[(pre,x,r)]) (many+1) _ _ _ k (by rw[hpr];simp) (by omega) (by simp;omega) hs
   rw[qgd]at ih
   simp only[List.map_append,List.map_cons,List.map_nil,List.append_assoc]at ih
   simpa[qav]using ih
theorem qeq(n:Nat):∀(a seen b:List Int),qam n seen (a++b)=(qam n seen a&&qam n (seen++a) b)
 |[],seen,b=>by simp[qam]
 |x::a,seen,b=>by simp[qam,qeq n a (seen++[x]) b,Bool.and_assoc]
def qbR(vans:List (List Int)):List Spot:=vans.flatMap (qav [])
theorem qi9(vans:List (List Int)):(qbR vans).map (·.2.1)=vans.flatten:=by
 induction vans with
 |nil=>rfl
 |cons v vs ih=> 
  unfold qbR at *
  simp only[List.flatMap_cons,List.map_append,ih,qdq,List.flatten_cons]
theorem qk9:∀(pre q:List Int) (p:Int) (post:List Int),(q++pre,p,post)∈qav q (pre++p::post)
 |[],q,p,post=>by simp[qav]
 |x::pre,q,p,post=>by
  have:=qk9 pre (q++[x]) p post
  simp only[List.append_assoc,List.singleton_append]at this
  exact List.mem_cons_of_mem _ this
theorem L16_7_eq'(n:Nat)(hn:n<=16)(kit:Kit)(vans:List (List Int))(hv:vans.length<=1048576)(hv2:∀v∈vans,v.length<=1048576):∀(r pre:List (List Int)) (done:List Spot) (many:Int) (ab be:List (List Int)) (lies:List Int) (N:Nat),vans=pre++r->r.length+1048576<N->done.length+r.flatten.length<=1048576->qfv n done many ab be lies->
  (qam n (done.map (·.2.1)) r.flatten=false/\L16_7 N ((n,many,vans,(vans.length:Int),(pre.length:Int),()),((kit,(ab,be)),lies,()),())=some (.inl ((none,false,()),(),())))\/
  (qam n (done.map (·.2.1)) r.flatten=true/\∃many' ab' be' lies',qfv n (done++qbR r) many' ab' be' lies'/\
   L16_7 N ((n,many,vans,(vans.length:Int),(pre.length:Int),()),((kit,(ab,be)),lies,()),())=some (.inr ((n,many',()),((kit,(ab',be')),()),())))
 |[],pre,done,many,ab,be,lies,N,hpr,hN,hb,h=>by
  obtain⟨k,rfl⟩:=qaT hN
  refine .inr ⟨rfl,many,ab,be,lies,by simpa[qbR]using h,?_⟩
  subst hpr
  simp[L16_7,B16_7]
 |x::r,pre,done,many,ab,be,lies,N,hpr,hN,hb,h=>by
  obtain⟨k,rfl⟩:=qaT hN
  simp only[List.length_cons,List.flatten_cons,List.length_append]at hN hb
  have hlt:((pre.length:Nat):Int)<(vans.length:Int):=by rw[hpr];exact qiA pre x r
  have hget:∀{R:Type} (kk:List Int->Option R),qs vans (pre.length:Int) kk=kk x:=λkk=>by rw[hpr];exact qeJ pre x r kk rfl
  simp only[L16_7,B16_7]
  rw[qaE hlt,cond_true,hget,List.flatten_cons,qeq]
  have hin:=L16_10_eq' n hn kit vans (vans.length:Int) (pre.length:Int) x (hv2 x (by rw[hpr];simp)) x [] done many ab be lies k rfl (by have:=hv2 x (by rw[hpr];simp);omega) (by omega) h
  rcases hin with⟨hg,he⟩|⟨hg,many',ab',be',lies',hs,he⟩
  ·have he':L16_10 k ((n,many,x,vans,(vans.length:Int),(pre.length:Int),x,(x.length:Int),0,()),((kit,(ab,be)),lies,()),())=_:=he
   rw[hg,he']
   exact .inl ⟨rfl,rfl⟩
  ·have he':L16_10 k ((n,many,x,vans,(vans.length:Int),(pre.length:Int),x,(x.length:Int),0,()),((kit,(ab,be)),lies,()),())=_:=he
   rw[hg,he',qJ,qey,Bool.true_and]
   dsimp only
   rw[w64 (x:=(pre.length:Int)+1) (by omega) (by omega)]
   have ih:=L16_7_eq' n hn kit vans hv hv2 r (pre++[x]) (done++qav [] x) many' ab' be' lies' k (by rw[hpr];simp) (by omega) (by
    have:=congrArg List.length (qdq x [])
    rw[List.length_map]at this
    simp only[List.length_append]
    omega) hs
   rw[qgd]at ih
   simp only[List.map_append,qdq,List.append_assoc]at ih
   have e:qav [] x++qbR r=qbR (x::r):=rfl
   rw[e]at ih
   exact ih
theorem g16_eq(k:Kit)(vans:List (List Int))(hn:k.1.length<=16)(hv:vans.length<=1048576)(hv2:∀v∈vans,v.length<=1048576)(hf:vans.flatten.length<=1048576):
  (qam k.1.length [] vans.flatten=false/\g16 (k,vans,())=some ((none,false,()),()))\/
  (qam k.1.length [] vans.flatten=true/\∃many ab be lies,qfv k.1.length (qbR vans) many ab be lies/\
   g16 (k,vans,())=some ((some ((k.1,(k.2.1,vans)),(ab,be)),decide (vans.flatten.length=k.1.length),()),())):=by
 have hF:g16 (k,vans,())=F16 qn k vans:=rfl
 rw[hF]
 unfold F16
 simp only[qbs,qcf,qcp (show(0:Int)<=(k.1.length:Int) by omega),qcp (Int.le_refl (k.1.length:Int)),qcV (show(0:Int)<=(k.1.length:Int) by omega) (by omega),qag,qaf]
 have h0:qfv k.1.length [] 0 (List.replicate (k.1.length:Int).toNat ([]:List Int)) (List.replicate (k.1.length:Int).toNat ([]:List Int)) (List.replicate (k.1.length:Int).toNat 0):=
  ⟨by simp,by simp,rfl,by simp,by simp,by simp,λi hi=>by simp[hi],by simp⟩
 have:=L16_7_eq' k.1.length hn (k.1,(k.2.1,vans)) vans hv hv2 vans [] [] 0 _ _ _ qn rfl (by have:=qcC;omega) (by simpa using hf) h0
 rcases this with⟨hg,he⟩|⟨hg,many,ab,be,lies,hs,he⟩
 ·refine .inl ⟨hg,?_⟩
  have he':L16_7 qn ((k.1.length,0,vans,(vans.length:Int),0,()),(((k.1,(k.2.1,vans)),(List.replicate (k.1.length:Int).toNat ([]:List Int),List.replicate (k.1.length:Int).toNat ([]:List Int))),(List.replicate (k.1.length:Int).toNat 0),()),())=_:=he
  rw[he']
  rfl
 ·refine .inr ⟨hg,many,ab,be,lies,hs,?_⟩
  have he':L16_7 qn ((k.1.length,0,vans,(vans.length:Int),0,()),(((k.1,(k.2.1,vans)),(List.replicate (k.1.length:Int).toNat ([]:List Int),List.replicate (k.1.length:Int).toNat ([]:List Int))),(List.replicate (k.1.length:Int).toNat 0),()),())=_:=he
  rw[he',qJ,qey]
  have hm:many=vans.flatten.length:=by
   rw[hs.many,List.nil_append,<-qi9,List.length_map]
  have e:(many==(k.1.length:Int))=decide (vans.flatten.length=k.1.length):=by
   rw[hm]
   by_cases h:vans.flatten.length=k.1.length
   ·simp[h]
   ·rw[decide_eq_false h]
    simp only[beq_eq_false_iff_ne,ne_eq]
    omega
  simp only[e]
def qfZ(k:Kit):Bool:=decide (k.1.length<=16)&&decide (k.2.2.length<=6)&&rng k.2.1 1 1000000&&qcT k.1.length 0 k.1&&qam k.1.length [] k.2.2.flatten&&decide (k.2.2.flatten.length=k.1.length)
structure Small (k:Kit):Prop where
 parts:k.1.length<=1048576
 needs:∀p∈k.1,p.2.2.2.length<=1048576
 vans:k.2.2.length<=1048576
 van:∀v∈k.2.2,v.length<=1048576
 flat:k.2.2.flatten.length<=1048576
abbrev Yard:=Kit×((List (List Int))×(List (List Int)))
def Yards(k:Kit)(y:Yard):Prop:=y.1=k/\∃many lies,qfv k.1.length (qbR k.2.2) many y.2.1 y.2.2 lies
theorem g14_eq(k:Kit)(hk:Small k):(qfZ k=false/\∃q,g14 (k,())=some ((q,false,()),()))\/(qfZ k=true/\∃y,Yards k y/\g14 (k,())=some ((some y,true,()),())):=by
 have hF:g14 (k,())=F14 qn k:=rfl
 rw[hF]
 unfold F14 qfZ
 by_cases h1:k.1.length<=16
 case neg=>rw[qaE (by omega:(k.1.length:Int)>16),qbj h1];exact .inl ⟨rfl,_,rfl⟩
 rw[qbj (by omega:¬(k.1.length:Int)>16),qaE h1,cond_false]
 by_cases h2:k.2.2.length<=6
 case neg=>rw[qaE (by omega:(k.2.2.length:Int)>6),qbj h2];exact .inl ⟨rfl,_,rfl⟩
 rw[qbj (by omega:¬(k.2.2.length:Int)>6),qaE h2,cond_false,g15_eq,qJ]
 cases h3:rng k.2.1 1 1000000 with
 |false=>exact .inl ⟨rfl,_,rfl⟩
 |true=>
 simp only[Bool.not_true,cond_false,Bool.true_and]
 have hp:=L14_5_eq' k k.1.length k.1 [] qn (by simpa using hk.parts) hk.needs (by have:=qcC;omega)
 have hp':L14_5 qn (((k.1.length:Int),k.1,(k.1.length:Int),0,()),(k,()),())=some (cond (qcT (k.1.length:Int) 0 k.1) (.inr ((),(k,()),())) (.inl ((none,false,()),(),()))):=hp
 rw[hp',qJ]
 cases h4:qcT (k.1.length:Int) 0 k.1 with
 |false=>exact .inl ⟨rfl,_,rfl⟩
 |true=>
 simp only[cond_true,qey,Bool.true_and]
 rcases g16_eq k k.2.2 h1 hk.vans hk.van hk.flat with⟨h5,h6⟩|⟨h5,many,ab,be,lies,hs,h6⟩
 ·rw[h5,h6]
  exact .inl ⟨rfl,_,rfl⟩
 ·rw[h5,h6,qJ]
  by_cases h7:k.2.2.flatten.length=k.1.length
  ·rw[qaE h7]
   exact .inr ⟨rfl,_,⟨rfl,many,lies,hs⟩,rfl⟩
  ·rw[qbj h7]
   exact .inl ⟨rfl,_,rfl⟩
theorem qek(n:Nat):∀(l seen:List Int),qam n seen l=true↔(∀x∈l,0<=x/\x<n)/\l.Nodup/\∀x∈l,x∉seen
 |[],seen=>by simp[qam]
 |x::l,seen=>by
  simp only[qam,Bool.and_eq_true,qek n l,rng,decide_eq_true_eq,Bool.not_eq_true',decide_eq_false_iff_not,List.mem_cons,List.nodup_cons,List.mem_append]
  constructor
  ·rintro⟨⟨⟨h1,h2⟩,h3⟩,h4,h5,h6⟩
   refine⟨?_,⟨λhx=>(h6 x hx) (.inr (.inl rfl)),h5⟩,?_⟩
   ·rintro y (rfl|hy)
    ·exact⟨h1,by omega⟩
    ·exact h4 y hy
   ·rintro y (rfl|hy)
    ·exact h3
    ·exact λh=>h6 y hy (.inl h)
  ·rintro⟨h1,⟨h2,h3⟩,h4⟩
   have:=h1 x (.inl rfl)
   refine⟨⟨⟨this.1,by omega⟩,h4 x (.inl rfl)⟩,λy hy=>h1 y (.inr hy),h3,?_⟩
   rintro y hy (h|h|h)
   ·exact h4 y (.inr hy) h
   ·subst h;exact h2 hy
   ·cases h
theorem qdE{α:Type}[DecidableEq α]:∀(l r:List α),l.Nodup->(∀x∈l,x∈r)->r.length<=l.length->l.Perm r
 |[],r,_,_,hl=>by
  have:r=[]:=List.eq_nil_of_length_eq_zero (by simpa using hl)
  subst this
  exact .refl _
 |x::l,r,hn,hm,hl=>by
  rw[List.nodup_cons]at hn
  have hx:=hm x List.mem_cons_self
  have hp:=List.perm_cons_erase hx
  refine List.Perm.trans (List.Perm.cons x (qdE l (r.erase x) hn.2 (λy hy=>?_) ?_)) hp.symm
  ·exact(List.mem_erase_of_ne (λe=>hn.1 (by rw[<-e];exact hy))).2 (hm y (List.mem_cons_of_mem _ hy))
  ·rw[List.length_erase_of_mem hx]
   simp at hl
   omega
def qa4(n:Nat):List Int:=(List.range n).map Int.ofNat
theorem qaL{n:Nat}{x:Int}:x∈qa4 n↔0<=x/\x<n:=by
 simp only[qa4,List.mem_map,List.mem_range]
 constructor
 ·rintro⟨a,h,rfl⟩;exact⟨by simp,by simpa using h⟩
 ·rintro⟨h0,h1⟩;exact⟨x.toNat,by omega,by simp;omega⟩
theorem qca(n:Nat):(qa4 n).Nodup:=by
 unfold qa4
 rw[List.Nodup,List.pairwise_map]
 exact List.Pairwise.imp (λh e=>h (Int.ofNat.inj e)) List.nodup_range
theorem qbt(n:Nat):(qa4 n).length=n:=by simp[qa4]
theorem qm4{n:Nat}{l:List Int}(hr:∀x∈l,0<=x/\x<n):(∀i,i<n->l.count (i:Int)=1)↔l.Nodup/\l.length=n:=by
 constructor
 ·intro h
  have hp:l.Perm (qa4 n):=by
   rw[List.perm_iff_count]
   intro a
   by_cases ha:0<=a/\a<n
   ·rw[(qca n).count,if_pos (qaL.2 ha)]
    have:=h a.toNat (by omega)
    rwa[show((a.toNat:Nat):Int)=a by omega]at this
   ·rw[List.count_eq_zero_of_not_mem (λhm=>ha (hr a hm)),List.count_eq_zero_of_not_mem (λhm=>ha (qaL.1 hm))]
  exact⟨hp.nodup_iff.2 (qca n),by rw[hp.length_eq,qbt]⟩
 ·rintro⟨h1,h2⟩ i hi
  have hp:=qdE l (qa4 n) h1 (λx hx=>qaL.2 (hr x hx)) (by rw[qbt];omega)
  rw[hp.count_eq,(qca n).count,if_pos (qaL.2 ⟨by omega,by omega⟩)]
def has(s:List Bool)(p:Int):Bool:=s.getD p.toNat false
theorem qiN{R:Type}{s:List Bool}{p:Int}(h0:0<=p)(h:p<s.length)(k:Bool->Option R):qs s p k=k (has s p):=by
 rw[qkF h0 h]
 unfold has
 rw[List.getD_eq_getElem?_getD,List.getElem?_eq_getElem (by omega)]
 rfl
theorem L60_2_eq'(s:List Int)(hs:s.length<=1048576)(f:Int->Option Bool)(b:Int->Bool)(hf:∀x∈s,f x=some (b x)):∀(r pre:List Int) (N:Nat),s=pre++r->r.length<N->
  ∃i:Int,0<=i/\L60_2 N ((s,f,(s.length:Int),(pre.length:Int),()),(),())=some (cond (r.any b) (.inl ((i,()),(),())) (.inr ((),(),())))
 |[],pre,N,hpr,hN=>by
  obtain⟨k,rfl⟩:=qaT hN
  refine⟨0,Int.le_refl _,?_⟩
  simp only[L60_2,B60_2]
  rw[hpr]
  simp
 |x::r,pre,N,hpr,hN=>by
  obtain⟨k,rfl⟩:=qaT hN
  simp only[List.length_cons]at hN
  have hlt:((pre.length:Nat):Int)<(s.length:Int):=by rw[hpr];exact qiA pre x r
  have hget:∀{R:Type} (kk:Int->Option R),qs s (pre.length:Int) kk=kk x:=λkk=>by rw[hpr];exact qeJ pre x r kk rfl
  obtain⟨i,hi,ih⟩:=L60_2_eq' s hs f b hf r (pre++[x]) k (by rw[hpr];simp) (by omega)
  rw[qgd]at ih
  simp only[L60_2,B60_2]
  rw[qaE hlt,cond_true,hget,hf x (by rw[hpr];simp),qJ,w64 (by omega) (by omega),List.any_cons]
  cases b x with
  |true=>exact⟨pre.length,by omega,rfl⟩
  |false=>exact⟨i,hi,by rw[cond_false,Bool.false_or];exact ih⟩
theorem g47_eq{s:List Int}(hs:s.length<=1048576){f:Int->Option Bool}{b:Int->Bool}(hf:∀x∈s,f x=some (b x)):g47 (s,f,())=some ((s.any b,()),()):=by
 have hF:g47 (s,f,())=qa (g60 (s,f,())) λy1=>some (((decide (y1.1.1>=0)),()),()):=rfl
 have hG:g60 (s,f,())=F60 qn s f:=rfl
 obtain⟨i,hi,h⟩:=L60_2_eq' s hs f b hf s [] qn rfl (by have:=qcC;omega)
 have h':L60_2 qn ((s,f,(s.length:Int),0,()),(),())=_:=h
 rw[hF,hG]
 unfold F60
 rw[h',qJ]
 cases s.any b with
 |true=>simp only[cond_true,qhZ,qJ];rw[qaE hi]
 |false=>rfl
theorem g51_eq{s:List Bool}{l:List Int}(hl:l.length<=1048576)(hr:∀x∈l,0<=x/\x<s.length):g51 (s,l,())=some ((l.all (has s),()),()):=by
 have hF:g51 (s,l,())=F51 qn s l:=rfl
 rw[hF]
 unfold F51
 rw[g47_eq hl (b:=λx=>!has s x) (λx hx=>?_),qJ]
 ·have:(!l.any λx=>!has s x)=l.all (has s):=by rw[<-List.not_all_eq_any_not,Bool.not_not]
  simp only[this]
 ·have hG:g63 (x,s,())=F63 qn x s:=rfl
  rw[hG]
  unfold F63
  rw[qiN (hr x hx).1 (hr x hx).2]
  rfl
def qch(high low:Int):Bool->List Int->Bool
 |_,[]=>false
 |seen,x::r=>(seen&&x==high)||qch high low (seen||x==low) r
theorem qgx(high low:Int):∀r:List Int,qch high low true r=decide (high∈r)
 |[]=>rfl
 |x::r=>by
  simp only[qch,Bool.true_and,Bool.true_or,qgx high low r]
  rw[Bool.eq_iff_iff]
  simp only[Bool.or_eq_true,beq_iff_eq,decide_eq_true_eq,List.mem_cons]
  constructor
  ·rintro(h|h);exact .inl h.symm;exact .inr h
  ·rintro(h|h);exact .inl h.symm;exact .inr h
theorem qcY(high low:Int):∀(r:List Int),low∉r->qch high low false r=false
 |[],_=>rfl
 |x::r,h=>by
  simp only[List.mem_cons,not_or]at h
  simp only[qch,Bool.false_and,Bool.false_or]
  rw[show(x==low)=false by simp;exact λe=>h.1 e.symm]
  exact qcY high low r h.2
theorem qfU(high low:Int)(r:List Int):∀(pre:List Int),low∉pre->qch high low false (pre++low::r)=decide (high∈r)
 |[],_=>by
  simp only[List.nil_append,qch,Bool.false_and,Bool.false_or,beq_self_eq_true]
  exact qgx high low r
 |x::pre,h=>by
  simp only[List.mem_cons,not_or]at h
  simp only[List.cons_append,qch,Bool.false_and,Bool.false_or]
  rw[show(x==low)=false by simp;exact λe=>h.1 e.symm]
  exact qfU high low r pre h.2
def qg7(vans:List (List Int))(high low:Int):Bool:=vans.any λv=>qch high low false v
structure qeZ (k:Kit):Prop where
 parts:k.1.length<=16
 each:∀(i:Nat) p,k.1[i]? = some p->rng p.1 1 1000000=true/\rng p.2.1 1 100=true/\rng p.2.2.1 0 9=true/\qcb k.1.length i (-1) p.2.2.2=true
 crane:rng k.2.1 1 1000000=true
 flat:∀x∈k.2.2.flatten,0<=x/\x<k.1.length
 nodup:k.2.2.flatten.Nodup
 all:∀i,i<k.1.length->(i:Int)∈k.2.2.flatten
theorem qf7{n:Int}:∀{l:List Part} {j:Int},qcT n j l=true->∀(i:Nat) p,l[i]? = some p->rng p.1 1 1000000=true/\rng p.2.1 1 100=true/\rng p.2.2.1 0 9=true/\qcb n (j+i) (-1) p.2.2.2=true
 |[],_,_,i,p,h=>by simp at h
 |q::l,j,hq,i,p,h=>by
  simp only[qcT,qmw,Bool.and_eq_true]at hq
  obtain⟨⟨⟨⟨h1,h2⟩,h3⟩,h4⟩,h5⟩:=hq
  cases i with
  |zero=>simp at h;subst h;exact⟨h1,h2,h3,by simpa using h4⟩
  |succ i=>
   simp at h
   have:=qf7 h5 i p h
   rw[show j+((i+1:Nat):Int)=j+1+(i:Int) by omega]
   exact this
theorem qnC(k:Kit)(h:qfZ k=true):qeZ k:=by
 unfold qfZ at h
 simp only[Bool.and_eq_true,decide_eq_true_eq]at h
 obtain⟨⟨⟨⟨⟨h1,h2⟩,h3⟩,h4⟩,h5⟩,h6⟩:=h
 obtain⟨h7,h8,_⟩:=(qek _ _ _).1 h5
 refine⟨h1,λi p hp=>by simpa using qf7 h4 i p hp,h3,h7,h8,λi hi=>?_⟩
 have:=(qm4 h7).2 ⟨h8,h6⟩ i hi
 exact List.count_pos_iff.1 (by omega)
theorem qfF{n i:Int}:∀{l:List Int} {last:Int},-1<=last->qcb n i last l=true->∀x∈l,0<=x/\x<n/\x≠i
 |[],_,_,_,x,hx=>by cases hx
 |y::l,last,hl,h,x,hx=>by
  simp only[qcb,Bool.and_eq_true,decide_eq_true_eq,Bool.not_eq_true',beq_eq_false_iff_ne,ne_eq]at h
  obtain⟨⟨⟨h1,h2⟩,h3⟩,h4⟩:=h
  rcases List.mem_cons.1 hx with rfl|hx
  ·exact⟨by omega,h2,h3⟩
  ·exact qfF (by omega) h4 x hx
theorem qeZ.spot{k:Kit}(h:qeZ k){p:Int}(h0:0<=p)(hp:p<k.1.length):∃pre post,(pre,p,post)∈qbR k.2.2/\(∀high,qg7 k.2.2 high p=decide (high∈post))/\(∀x∈post,0<=x/\x<k.1.length)/\(∀x∈pre,0<=x/\x<k.1.length):=by
 have hm:=h.all p.toNat (by omega)
 rw[show((p.toNat:Nat):Int)=p by omega]at hm
 obtain⟨van,hvan,hpv⟩:=List.mem_flatten.1 hm
 obtain⟨A,B,hAB⟩:=List.append_of_mem hvan
 obtain⟨pre,post,hpp⟩:=List.append_of_mem hpv
 have hn:=h.nodup
 rw[hAB,List.flatten_append,List.flatten_cons,hpp,List.nodup_append]at hn
 obtain⟨_,hn2,hd⟩:=hn
 rw[List.nodup_append]at hn2
 obtain⟨hn3,_,hd2⟩:=hn2
 rw[List.nodup_append]at hn3
 obtain⟨_,_,hd3⟩:=hn3
 have hA:∀v∈A,p∉v:=λv hv hpv=>hd p (List.mem_flatten.2 ⟨v,hv,hpv⟩) p (by simp) rfl
 have hB:∀v∈B,p∉v:=λv hv hpv=>hd2 p (by simp) p (List.mem_flatten.2 ⟨v,hv,hpv⟩) rfl
 have hpre:p∉pre:=λhq=>hd3 p hq p List.mem_cons_self rfl
 have hin:∀x∈van,0<=x/\x<k.1.length:=λx hx=>h.flat x (List.mem_flatten.2 ⟨van,hvan,hx⟩)
 refine⟨pre,post,?_,λhigh=>?_,λx hx=>hin x (by rw[hpp];simp[hx]),λx hx=>hin x (by rw[hpp];simp[hx])⟩
 ·unfold qbR
  rw[List.mem_flatMap]
  exact⟨van,hvan,by rw[hpp];exact qk9 pre [] p post⟩
 ·unfold qg7
  rw[hAB,List.any_append,List.any_cons,hpp,qfU high p post pre hpre]
  have e1:A.any (λv=>qch high p false v)=false:=by
   rw[List.any_eq_false]
   intro v hv
   rw[qcY high p v (hA v hv)]
   simp
  have e2:B.any (λv=>qch high p false v)=false:=by
   rw[List.any_eq_false]
   intro v hv
   rw[qcY high p v (hB v hv)]
   simp
  rw[e1,e2]
  simp
def canB(k:Kit)(s:List Bool)(p:Int):Bool:=
 match k.1[p.toNat]? with
 |some q=>!has s p&&q.2.2.2.all (has s)&&decide (q.1<=k.2.1)&&(qa4 k.1.length).all λi=>!qg7 k.2.2 i p||has s i
 |none=>false
theorem g33_eq{k:Kit}(hk:Small k)(h:qeZ k){y:Yard}(hy:Yards k y){s:List Bool}(hs:s.length=k.1.length){p:Int}(h0:0<=p)(hp:p<k.1.length):g33 (y,s,p,())=some ((canB k s p,()),()):=by
 obtain⟨rfl,many,lies,hst⟩:=hy
 obtain⟨pre,post,hd,hab,hpost,_⟩:=h.spot h0 hp
 obtain⟨hsa,_⟩:=hst.spot _ hd
 have hq:y.1.1[p.toNat]? = some (y.1.1[p.toNat]'(by omega)):=List.getElem?_eq_getElem (by omega)
 generalize y.1.1[p.toNat]'(by omega)=q at hq
 obtain⟨_,_,_,hne⟩:=h.each _ _ hq
 have hnl:=hk.needs q (List.mem_of_getElem? hq)
 have hne':=qfF (by omega) hne
 have hpl:post.length<=1048576:=by
  obtain⟨v,hv,hdv⟩:=List.mem_flatMap.1 hd
  have:=congrArg List.length (qjx v [] hdv)
  have:=hk.van v hv
  simp at *
  omega
 have hF:g33 (y,s,p,())=F33 qn y s p:=rfl
 rw[hF]
 unfold F33 canB
 rw[hq,qiN h0 (by omega)]
 simp only[qbL h0 hq,qbL h0 hsa]
 cases has s p with
 |true=>rfl
 |false=>
 simp only[Bool.not_false,cond_true,Bool.true_and]
 rw[g51_eq hnl (λx hx=>by have:=hne' x hx;omega),qJ]
 cases q.2.2.2.all (has s)with
 |false=>rfl
 |true=>
 simp only[cond_true,Bool.true_and]
 by_cases hw:q.1<=y.1.2.1
 ·rw[qaE hw,cond_true,g51_eq hpl (λx hx=>by have:=hpost x hx;omega),qJ,Bool.true_and]
  congr 3
  rw[Bool.eq_iff_iff,List.all_eq_true,List.all_eq_true]
  constructor
  ·intro hh i hi
   rw[hab i]
   by_cases hm:i∈post
   ·rw[hh i hm];simp
   ·rw[qbj hm];rfl
  ·intro hh x hx
   have:=hh x (qaL.2 (hpost x hx))
   rw[hab x,qaE hx]at this
   simpa using this
 ·rw[qbj hw];rfl
def qdk(f:Nat->Bool):Nat->Nat->Option Nat
 |0,_=>none
 |m+1,p=>bif f p then some p else qdk f m (p+1)
abbrev OSt:=List Int×List Bool
def putO(x:OSt)(p:Nat):OSt:=(x.1++[(p:Int)],x.2.set p true)
def qfh(k:Kit)(x:OSt):OSt:=match qdk (λp=>canB k x.2 (p:Int)) k.1.length 0 with
 |some p=>putO x p
 |none=>x
def qgI(k:Kit):Nat->OSt->OSt
 |0,x=>x
 |m+1,x=>qgI k m (qfh k x)
def qdC(k:Kit):OSt:=([],List.replicate k.1.length false)
def finO(k:Kit):OSt:=qgI k k.1.length (qdC k)
theorem qeM{f:Nat->Bool}:∀{m p:Nat} (j:Nat),(∀q,p<=q->q<p+j->f q=false)->j<=m->qdk f m p=qdk f (m-j) (p+j)
 |m,p,0,_,_=>by simp
 |0,p,j+1,_,h=>by omega
 |m+1,p,j+1,hf,h=>by
  rw[qdk,hf p (Nat.le_refl _) (by omega),cond_false,qeM (m:=m) (p:=p+1) j (λq h1 h2=>hf q (by omega) (by omega)) (by omega)]
  rw[show m+1-(j+1)=m-j by omega,show p+1+j=p+(j+1) by omega]
theorem qlM{f:Nat->Bool}{m p:Nat}(h:∀q,p<=q->q<p+m->f q=false):qdk f m p=none:=by
 rw[qeM m h (Nat.le_refl _),Nat.sub_self]
 rfl
theorem qmZ{f:Nat->Bool}{m q:Nat}(hq:q<m)(h:∀j,j<q->f j=false)(hf:f q=true):qdk f m 0=some q:=by
 rw[qeM q (λj _ hj=>h j (by omega)) (by omega)]
 obtain⟨r,hr⟩:∃r,m-q=r+1:=⟨m-q-1,by omega⟩
 rw[hr,Nat.zero_add,qdk,hf]
 rfl
theorem qic(k:Kit){x:OSt}(h:qdk (λp=>canB k x.2 (p:Int)) k.1.length 0=none):∀m,qgI k m x=x
 |0=>rfl
 |m+1=>by
  have:qfh k x=x:=by unfold qfh;rw[h]
  rw[qgI,this]
  exact qic k h m
theorem qlX{k:Kit}{s:List Bool}{p:Int}(h:canB k s p=true):has s p=false:=by
 unfold canB at h
 split at h
 ·simp only[Bool.and_eq_true,Bool.not_eq_true']at h
  exact h.1.1.1
 ·cases h
theorem qhC{s:List Bool}{p:Nat}(hp:p<s.length)(h:has s (p:Int)=false):(s.set p true).count false+1=s.count false:=by
 have hg:s[p]=false:=by
  unfold has at h
  rw[List.getD_eq_getElem?_getD,List.getElem?_eq_getElem (by simpa using hp)]at h
  simpa using h
 have hpos:0<s.count false:=List.count_pos_iff.2 (by rw[<-hg];exact List.getElem_mem hp)
 rw[List.count_set hp,hg]
 simp
 omega
theorem L17_3_eq'{k:Kit}(hk:Small k)(hf:qeZ k){y:Yard}(hy:Yards k y):∀(m:Nat) (d p:Nat) (l:List Int) (s:List Bool) (N:Nat),s.length=k.1.length->s.count false<=m->p+d=k.1.length->(∀q,q<p->canB k s (q:Int)=false)->l.length+m<=1048576->m*(k.1.length+1)+d<N->
  L17_3 N ((y,(p:Int),()),(l,s,()),())=some ((),((qgI k m (l,s)).1,(qgI k m (l,s)).2,()),())
 |m,0,p,l,s,N,hs,hc,hp,hq,hl,hN=>by
  obtain⟨n,rfl⟩:=qaT hN
  simp only[L17_3,B17_3]
  rw[qbj (by omega),cond_false,qic k (qlM (λq _ h2=>hq q (by omega)))]
 |m,d+1,p,l,s,N,hs,hc,hp,hq,hl,hN=>by
  obtain⟨n,rfl⟩:=qaT hN
  simp only[L17_3,B17_3]
  have hps:(p:Int)<(s.length:Int):=by omega
  have h16:=hf.parts
  rw[qaE hps,cond_true,g33_eq hk hf hy hs (by omega) (by omega),qJ]
  cases hcan:canB k s (p:Int)with
  |false=>
   rw[cond_false,w64 (by omega) (by omega),show(p:Int)+1=((p+1:Nat):Int) by omega]
   exact L17_3_eq' hk hf hy m d (p+1) l s n hs hc (by omega) (λq hq'=>by
    rcases Nat.lt_or_ge q p with h|h
    ·exact hq q h
    ·rw[show q=p by omega];exact hcan) hl (by omega)
  |true=>
   have hfalse:=qlX hcan
   have hcs:=qhC (by omega:p<s.length) hfalse
   obtain⟨m',rfl⟩:∃m',m=m'+1:=⟨m-1,by omega⟩
   have hst:qfh k (l,s)=(l++[(p:Int)],s.set p true):=by
    unfold qfh
    rw[qmZ (by omega:p<k.1.length) hq hcan]
    rfl
   rw[cond_true,qej (by omega) hps,qiN (by omega) hps,qcV (by simp;omega) (by simp;omega),w64 (by omega) (by omega)]
   simp only[qgI]
   rw[hst,show((p:Int)).toNat=p by omega]
   have hN':m'*(k.1.length+1)+k.1.length<n:=by
    rw[Nat.succ_mul]at hN
    omega
   exact L17_3_eq' hk hf hy m' k.1.length 0 (l++[(p:Int)]) (s.set p true) n (by simp[hs]) (by omega) (by omega) (λq h=>by omega) (by simp;omega) hN'
 termination_by m d=>(m,d)
theorem g17_eq{k:Kit}(hk:Small k)(hf:qeZ k){y:Yard}(hy:Yards k y):g17 (y,())=some (((finO k).1,(finO k).2,()),()):=by
 have hyk:=hy.1
 have hF:g17 (y,())=F17 qn y:=rfl
 have h16:=hf.parts
 rw[hF]
 unfold F17
 rw[hyk]
 simp only[qcp (show(0:Int)<=(k.1.length:Int) by omega),qcp (Int.le_refl (k.1.length:Int)),qcV (show(0:Int)<=(k.1.length:Int) by omega) (by omega)]
 have hm:k.1.length*(k.1.length+1)+k.1.length<qn:=by
  have:=qcC
  have:k.1.length*(k.1.length+1)<=16*17:=Nat.mul_le_mul h16 (by omega)
  omega
 have h:=L17_3_eq' hk hf hy k.1.length k.1.length 0 [] (List.replicate k.1.length false) qn (by simp) (by simp) (by omega) (λq h=>by omega) (by simp;omega) hm
 have h':L17_3 qn ((y,0,()),([],List.replicate (k.1.length:Int).toNat false,()),())=_:=h
 rw[h',qJ]
 rfl
theorem qnK{k:Kit}{x:OSt}:(qfh k x).2.length=x.2.length/\(qfh k x).1.length<=x.1.length+1:=by
 unfold qfh
 split
 ·unfold putO;simp
 ·simp
theorem qlf{k:Kit}:∀(m:Nat) (x:OSt),(qgI k m x).2.length=x.2.length/\(qgI k m x).1.length<=x.1.length+m
 |0,x=>⟨rfl,by simp[qgI]⟩
 |m+1,x=>by
  obtain⟨e1,e2⟩:=qlf (k:=k) m (qfh k x)
  obtain⟨e3,e4⟩:=qnK (k:=k) (x:=x)
  rw[qgI]
  exact⟨by rw[e1,e3],by omega⟩
theorem finO_len(k:Kit):(finO k).2.length=k.1.length/\(finO k).1.length<=k.1.length:=by
 obtain⟨e1,e2⟩:=qlf (k:=k) k.1.length (qdC k)
 exact⟨by rw[finO,e1];simp[qdC],by simpa[finO,qdC]using e2⟩
theorem has_set{s:List Bool}{p:Nat}{x:Int}(h:0<=x)(hx:x≠p):has (s.set p true) x=has s x:=by
 unfold has
 rw[List.getD_eq_getElem?_getD,List.getD_eq_getElem?_getD,List.getElem?_set_ne (by omega)]
theorem qho{f:Nat->Bool}:∀{m p q:Nat},qdk f m p=some q->p<=q/\q<p+m/\f q=true
 |0,_,_,h=>by cases h
 |m+1,p,q,h=>by
  rw[qdk]at h
  cases hf:f p with
  |true=>rw[hf,cond_true]at h;cases h;exact⟨Nat.le_refl _,by omega,hf⟩
  |false=>
   rw[hf,cond_false]at h
   have:=qho h
   exact⟨by omega,by omega,this.2.2⟩
def qgb(k:Kit)(p:Int):List Int:=match k.1[p.toNat]? with
 |some q=>q.2.2.2
 |none=>[]
structure ql8 (k:Kit) (x:OSt):Prop where
 nodup:x.1.Nodup
 rng:∀p∈x.1,0<=p/\p<k.1.length
 len:x.2.length=k.1.length
 mem:∀q:Int,0<=q->q<k.1.length->has x.2 q=decide (q∈x.1)
 ok:∀pre p post,x.1=pre++p::post->(∀y∈qgb k p,y∈pre)/\∀i:Int,0<=i->i<k.1.length->qg7 k.2.2 i p=true->i∈pre
theorem needs_in{k:Kit}(hf:qeZ k){p:Int}(h0:0<=p)(_hp:p<k.1.length):∀y∈qgb k p,0<=y/\y<k.1.length/\y≠p:=by
 unfold qgb
 split
 ·rename_i q hq
  have:=qfF (by omega) (hf.each _ _ hq).2.2.2
  intro y hy
  have:=this y hy
  omega
 ·simp
theorem putO_ok{k:Kit}(hf:qeZ k){x:OSt}(h:ql8 k x){p:Nat}(hp:p<k.1.length)(hc:canB k x.2 (p:Int)=true):ql8 k (putO x p):=by
 have hnot:(p:Int)∉x.1:=by
  have:=qlX hc
  rw[h.mem (p:Int) (by omega) (by omega)]at this
  exact of_decide_eq_false this
 have hc':=hc
 unfold canB at hc'
 split at hc'
 case h_2=>cases hc'
 rename_i q hq
 simp only[Bool.and_eq_true,List.all_eq_true,Bool.or_eq_true,Bool.not_eq_true',decide_eq_true_eq]at hc'
 obtain⟨⟨⟨_,hn⟩,_⟩,ha⟩:=hc'
 have hnq:qgb k (p:Int)=q.2.2.2:=by unfold qgb;rw[hq]
 refine⟨?_,?_,by simp[putO,h.len],?_,?_⟩
 ·unfold putO
  rw[List.nodup_append]
  exact⟨h.nodup,by simp,λa ha' b hb e=>by simp at hb;subst hb;subst e;exact hnot ha'⟩
 ·intro y hy
  rcases List.mem_append.1 hy with hy|hy
  ·exact h.rng y hy
  ·simp at hy;omega
 ·intro y h0 hy
  unfold putO
  by_cases e:y=p
  ·subst e
   rw[qaE (by simp)]
   unfold has
   rw[List.getD_eq_getElem?_getD]
   simp only[Int.toNat_natCast]
   rw[List.getElem?_set_self (by rw[h.len];exact hp)]
   rfl
  ·dsimp only
   rw[has_set h0 e,h.mem y h0 hy]
   simp[e]
 ·intro pre p' post e
  rcases List.eq_nil_or_concat post with rfl|⟨post',z,rfl⟩
  ·have e':x.1++[(p:Int)]=pre++[p']:=e
   have h1:=List.append_inj' e' rfl
   obtain⟨rfl,h2⟩:=h1
   have:p'=p:=by simpa using h2.symm
   subst this
   refine⟨λy hy=>?_,λi h0 hi hab=>?_⟩
   ·have hr:=needs_in hf (by omega) (by omega) y hy
    have:=hn y (by rw[<-hnq];exact hy)
    rw[h.mem y hr.1 hr.2.1]at this
    exact of_decide_eq_true this
   ·rcases ha i (qaL.2 ⟨h0,hi⟩)with h3|h3
    ·rw[hab]at h3;cases h3
    ·rw[h.mem i h0 hi]at h3
     exact of_decide_eq_true h3
  ·have e':x.1++[(p:Int)]=(pre++p'::post')++[z]:=by
    have:x.1++[(p:Int)]=pre++p'::(post'++[z]):=by simpa[putO]using e
    rw[this]
    simp
   exact h.ok pre p' post' (List.append_inj' e' rfl).1
theorem qng{k:Kit}(hf:qeZ k):∀(m:Nat) (x:OSt),ql8 k x->ql8 k (qgI k m x)
 |0,_,h=>h
 |m+1,x,h=>by
  rw[qgI]
  refine qng hf m _ ?_
  unfold qfh
  split
  ·rename_i p hp
   obtain⟨_,h2,h3⟩:=qho hp
   exact putO_ok hf h (by omega) h3
  ·exact h
theorem qkK{k:Kit}(hf:qeZ k):ql8 k (finO k):=by
 refine qng hf _ _ ⟨by simp[qdC],by simp[qdC],by simp[qdC],?_,?_⟩
 ·intro q h0 hq
  rw[qbj (by simp[qdC])]
  unfold has qdC
  rw[List.getD_eq_getElem?_getD,List.getElem?_replicate]
  split<;>rfl
 ·intro pre p post e
  simp[qdC]at e
def lwK(W c:List Int)(v:Int):Nat->Int
 |0=>0
 |i+1=>lwK W c v i+if gd c (i:Int)=v then gd W (i:Int)else 0
def lw(W c:List Int)(v:Int):Int:=lwK W c v c.length
def WOK(W:List Int):Prop:=W.length<=16/\∀i:Nat,i<W.length->1<=gd W (i:Int)/\gd W (i:Int)<=1000000
theorem qnp(W c:List Int)(x v:Int):∀i,i<=c.length->lwK W (c++[x]) v i=lwK W c v i
 |0,_=>rfl
 |i+1,h=>by
  unfold lwK
  rw[qnp W c x v i (by omega),qlI (by omega) (by omega)]
theorem qhI(W c:List Int)(x v:Int):lw W (c++[x]) v=lw W c v+if x=v then gd W (c.length:Int)else 0:=by
 unfold lw
 rw[List.length_append]
 show lwK W (c++[x]) v c.length+(if gd (c++[x]) (c.length:Int)=v then gd W (c.length:Int)else 0)=_
 rw[qnp W c x v c.length (Nat.le_refl _),qiQ rfl]
theorem qmL{W:List Int}(hW:WOK W)(c:List Int)(v:Int):∀i,i<=W.length->0<=lwK W c v i/\lwK W c v i<=1000000*i
 |0,_=>⟨Int.le_refl _,by show(0:Int)<=_;omega⟩
 |i+1,h=>by
  have ih:=qmL hW c v i (by omega)
  have hw:=hW.2 i (by omega)
  unfold lwK
  split<;>omega
theorem lw_bd{W:List Int}(hW:WOK W){c:List Int}(hc:c.length<=W.length)(v:Int):0<=lw W c v/\lw W c v<=16000000:=by
 have:=qmL hW c v c.length hc
 have:=hW.1
 unfold lw
 omega
theorem qiz{W:List Int}(hW:WOK W)(c:List Int)(v:Int):∀d i,i+d<=W.length->lwK W c v i<=lwK W c v (i+d)
 |0,_,_=>Int.le_refl _
 |d+1,i,h=>by
  have ih:=qiz hW c v d i (by omega)
  have hw:=hW.2 (i+d) (by omega)
  show _<=lwK W c v (i+d)+(if gd c ((i+d:Nat):Int)=v then gd W ((i+d:Nat):Int)else 0)
  split<;>omega
def tryV(f:Nat->Option (List Int)):Nat->Nat->Option (List Int)
 |0,_=>none
 |r+1,v=>match f v with
  |some l=>some l
  |none=>tryV f r (v+1)
def qdO(W:List Int)(room:Int)(m:Nat):Nat->List Int->Option (List Int)
 |0,c=>some c
 |d+1,c=>tryV (λv=>if lw W c (v:Int)+gd W (c.length:Int)>room then none else qdO W room m d (c++[(v:Int)])) m 0
theorem qjs{f:Nat->Option (List Int)}{l:List Int}:∀{r v:Nat},tryV f r v=some l->∃u,v<=u/\u<v+r/\f u=some l
 |0,_,h=>by cases h
 |r+1,v,h=>by
  unfold tryV at h
  split at h
  ·rename_i l' hf
   cases h
   exact⟨v,Nat.le_refl _,by omega,hf⟩
  ·obtain⟨u,h1,h2,h3⟩:=qjs h
   exact⟨u,by omega,by omega,h3⟩
theorem qjt{f:Nat->Option (List Int)}:∀{r v:Nat},tryV f r v=none->∀u,v<=u->u<v+r->f u=none
 |0,_,_,u,h1,h2=>by omega
 |r+1,v,h,u,h1,h2=>by
  unfold tryV at h
  split at h
  ·cases h
  ·rename_i hf
   by_cases e:u=v
   ·rw[e];exact hf
   ·exact qjt h u (by omega) (by omega)
structure Asg (W:List Int) (room:Int) (m:Nat) (a:List Int):Prop where
 len:a.length=W.length
 rng:∀i:Nat,i<W.length->0<=gd a (i:Int)/\gd a (i:Int)<m
 fit:∀v:Nat,v<m->lw W a (v:Int)<=room
theorem qh1{W:List Int}{room:Int}{m:Nat}:∀(d:Nat) {c l:List Int},c.length+d=W.length->(∀i:Nat,i<c.length->0<=gd c (i:Int)/\gd c (i:Int)<m)->(∀v:Nat,v<m->lw W c (v:Int)<=room)->qdO W room m d c=some l->Asg W room m l
 |0,c,l,hl,hr,hf,h=>by
  cases h
  exact⟨by omega,λi hi=>hr i (by omega),hf⟩
 |d+1,c,l,hl,hr,hf,h=>by
  unfold qdO at h
  obtain⟨u,_,h2,h3⟩:=qjs h
  split at h3
  ·cases h3
  ·rename_i hle
   refine qh1 d (by rw[List.length_append,List.length_singleton];omega) (λi hi=>?_) (λv hv=>?_) h3
   ·rw[List.length_append,List.length_singleton]at hi
    by_cases e:i<c.length
    ·rw[qlI (by omega) (by omega)];exact hr i e
    ·rw[qiQ (by omega)];omega
   ·rw[qhI]
    have:=hf v hv
    by_cases e:(u:Int)=(v:Int)
    ·rw[if_pos e]
     rw[e]at hle
     omega
    ·rw[if_neg e];omega
theorem take_lw{W a:List Int}(v:Int){i:Nat}(hi:i<=a.length):lw W (a.take i) v=lwK W a v i:=by
 have key:∀j,j<=i->lwK W (a.take i) v j=lwK W a v j:=by
  intro j
  induction j with
  |zero=>intro _;rfl
  |succ j ih=>
   intro hj
   unfold lwK
   rw[ih (by omega)]
   have:gd (a.take i) (j:Int)=gd a (j:Int):=by
    unfold gd
    rw[Int.toNat_natCast,List.getD_eq_getElem?_getD,List.getD_eq_getElem?_getD,List.getElem?_take,if_pos (by omega)]
   rw[this]
 unfold lw
 rw[List.length_take,Nat.min_eq_left hi]
 exact key i (Nat.le_refl _)
theorem qfi{W:List Int}(hW:WOK W){room:Int}{m:Nat}{a:List Int}(ha:Asg W room m a):∀(d i:Nat),i+d=W.length->qdO W room m d (a.take i)≠none
 |0,i,_=>by unfold qdO;simp
 |d+1,i,h=>by
  intro hn
  unfold qdO at hn
  have hal:=ha.len
  have hg:=ha.rng i (by omega)
  have hlen:(a.take i).length=i:=by rw[List.length_take];omega
  have:=qjt hn (gd a (i:Int)).toNat (by omega) (by omega)
  rw[show(((gd a (i:Int)).toNat:Nat):Int)=gd a (i:Int) by omega,hlen]at this
  have hfit:=ha.fit (gd a (i:Int)).toNat (by omega)
  rw[show(((gd a (i:Int)).toNat:Nat):Int)=gd a (i:Int) by omega]at hfit
  have h1:lwK W a (gd a (i:Int)) (i+1)=lwK W a (gd a (i:Int)) i+gd W (i:Int):=by
   show lwK W a (gd a (i:Int)) i+(if gd a (i:Int)=gd a (i:Int)then gd W (i:Int)else 0)=_
   rw[if_pos rfl]
  have h2:=qiz hW a (gd a (i:Int)) (W.length-(i+1)) (i+1) (by omega)
  rw[show i+1+(W.length-(i+1))=a.length by omega]at h2
  have h3:lwK W a (gd a (i:Int)) a.length<=room:=hfit
  rw[take_lw _ (by omega),if_neg (by omega)]at this
  have e:a.take i++[gd a (i:Int)]=a.take (i+1):=(qk7 (by omega)).symm
  rw[e]at this
  exact qfi hW ha d (i+1) (by omega) this
theorem srch_nil{W:List Int}(hW:WOK W){room:Int}{m:Nat}{a:List Int}(ha:Asg W room m a):qdO W room m W.length []≠none:=qfi hW ha W.length 0 (by omega)
theorem qh2{W:List Int}{room:Int}(hr:0<=room){m:Nat}{l:List Int}(h:qdO W room m W.length []=some l):Asg W room m l:=
 qh1 W.length (by simp) (λi hi=>absurd hi (by simp)) (λv _=>by show(0:Int)<=room;exact hr) h
abbrev wts(k:Kit):List Int:=k.1.map (·.1)
theorem qbn(k:Kit):(wts k).length=k.1.length:=by simp
theorem qj9(k:Kit){i:Nat}(hi:i<k.1.length):gd (wts k) (i:Int)=(gd k.1 (i:Int)).1:=qlH (by rw[List.getElem?_map,qiP hi];rfl)
def tbl(W c:List Int)(m:Nat):List Int:=(List.range m).map λ(v:Nat)=>lw W c (v:Int)
theorem qkb(W c:List Int)(m:Nat):(tbl W c m).length=m:=by simp[tbl]
theorem tbl_gd{W c:List Int}{m v:Nat}(hv:v<m):gd (tbl W c m) (v:Int)=lw W c (v:Int):=qlH (by simp[tbl,hv])
theorem tbl_set{W c:List Int}{m v:Nat}(hv:v<m):(tbl W c m).set v (lw W c (v:Int)+gd W (c.length:Int))=tbl W (c++[(v:Int)]) m:=by
 apply List.ext_getElem
 ·simp[tbl]
 ·intro j h1 h2
  simp only[tbl,List.getElem_set,List.getElem_map,List.getElem_range,qhI]
  by_cases e:v=j
  ·subst e;simp
  ·rw[if_neg e,if_neg (by omega),Int.add_zero]
theorem tbl_back{W c:List Int}{m v:Nat}(hv:v<m):(tbl W (c++[(v:Int)]) m).set v (lw W c (v:Int))=tbl W c m:=by
 apply List.ext_getElem
 ·simp[tbl]
 ·intro j h1 h2
  simp only[tbl,List.getElem_set,List.getElem_map,List.getElem_range,qhI]
  by_cases e:v=j
  ·subst e;simp
  ·rw[if_neg e,if_neg (by omega),Int.add_zero]
abbrev Pkr:=(List Part)×(Int×((List Int)×(List Int)))
def resP(k:Kit)(room:Int)(m:Nat)(c:List Int)(o:Option (List Int)):(Bool×Unit)×(Pkr×Unit):=match o with
 |some l=>((true,()),((k.1,room,tbl (wts k) l m,l),()))
 |none=>((false,()),((k.1,room,tbl (wts k) c m,c),()))
theorem L20_5_q{k:Kit}(hW:WOK (wts k))(rec)(room:Int)(m:Nat)(hm:m<=16)(d:Nat){c:List Int}(hc:c.length+(d+1)=k.1.length)(ih:∀v:Nat,v<m->rec ((k.1,room,tbl (wts k) (c++[(v:Int)]) m,c++[(v:Int)]),())=some (resP k room m (c++[(v:Int)]) (qdO (wts k) room m d (c++[(v:Int)])))):
  ∀(r v:Nat) (N:Nat),v+r=m->r<N->L20_5 rec N ((gd (wts k) (c.length:Int),(m:Int),(v:Int),()),((k.1,room,tbl (wts k) c m,c),()),()) =
   some (match tryV (λv=>if lw (wts k) c (v:Int)+gd (wts k) (c.length:Int)>room then none else qdO (wts k) room m d (c++[(v:Int)])) r v with
    |some l=>.inl ((true,()),((k.1,room,tbl (wts k) l m,l),()),())
    |none=>.inr ((),((k.1,room,tbl (wts k) c m,c),()),()))
 |0,v,N,hv,hN=>by
  obtain⟨N,rfl⟩:∃n,N=n+1:=⟨N-1,by omega⟩
  simp only[L20_5,B20_5]
  rw[qbj (by omega)]
  rfl
 |r+1,v,N,hv,hN=>by
  obtain⟨N,rfl⟩:∃n,N=n+1:=⟨N-1,by omega⟩
  have hn:=hW.1
  rw[qbn]at hn
  have hb:=lw_bd hW (c:=c) (by rw[qbn];omega) (v:Int)
  have hwp:=hW.2 c.length (by rw[qbn];omega)
  have ih2:=L20_5_q hW rec room m hm d hc ih r (v+1) N (by omega) (by omega)
  have hvm:v<m:=by omega
  have a1:∀(cc:List Int) {R:Type} (X:Option R),inR (v:Int) (tbl (wts k) cc m).length X=X:=λcc R X=>qej (by omega) (by rw[qkb];omega) X
  have a2:∀(cc:List Int) {R:Type} (F:Int->Option R),qs (tbl (wts k) cc m) (v:Int) F=F (lw (wts k) cc (v:Int)):=λcc R F=>by
   rw[qe8 (by omega) (by rw[qkb];omega),tbl_gd hvm]
  have a3:IntKind.wrap .i64 (lw (wts k) c (v:Int)+gd (wts k) (c.length:Int))=lw (wts k) c (v:Int)+gd (wts k) (c.length:Int):=w64 (by omega) (by omega)
  have a4:∀{R:Type} (X:Option R),ql ((c.length:Int)+(([(v:Int)].length:Nat):Int)) X=X:=λX=>qcV (by simp;omega) (by simp;omega) X
  have a5:IntKind.wrap .i64 ((v:Int)+1)=((v+1:Nat):Int):=by rw[w64 (by omega) (by omega)];omega
  simp only[L20_5,B20_5,qcf]
  rw[qaE (by omega),cond_true]
  simp only[a1,a2,a3,a4,a5,Int.toNat_natCast,tbl_set hvm]
  conv=>rhs;unfold tryV
  by_cases h:lw (wts k) c (v:Int)+gd (wts k) (c.length:Int)>room
  ·rw[qaE h,cond_true,if_pos h]
   exact ih2
  ·rw[qbj h,cond_false,if_neg h,ih v hvm,qJ]
   cases hs:qdO (wts k) room m d (c++[(v:Int)])with
   |some l=>rfl
   |none=>
    have hlen:((c++[(v:Int)]).length:Int)-1=(c.length:Int):=by simp
    show leK 0 (IntKind.wrap .i64 (((c++[(v:Int)]).length:Int)-1)) (leK (IntKind.wrap .i64 (((c++[(v:Int)]).length:Int)-1)) ((c++[(v:Int)]).length:Int) (inR (v:Int) (tbl (wts k) (c++[(v:Int)]) m).length (qs (tbl (wts k) (c++[(v:Int)]) m) (v:Int) λe8=>inR (v:Int) (tbl (wts k) (c++[(v:Int)]) m).length (qs (tbl (wts k) (c++[(v:Int)]) m) (v:Int) λ_=>L20_5 rec N ((gd (wts k) (c.length:Int),(m:Int),((v+1:Nat):Int),()),((k.1,room,(tbl (wts k) (c++[(v:Int)]) m).set v (IntKind.wrap .i64 (e8-gd (wts k) (c.length:Int))),(c++[(v:Int)]).take (IntKind.wrap .i64 (((c++[(v:Int)]).length:Int)-1)).toNat),()),())))))=_
    rw[hlen,w64 (x:=(c.length:Int)) (by omega) (by omega),qcp (by omega),qcp (by rw[List.length_append,List.length_singleton];omega),a1,a2,a1,a2,Int.toNat_natCast,List.take_left,qhI,if_pos rfl,Int.add_sub_cancel,w64 (by omega) (by omega),tbl_back hvm]
    exact ih2
theorem G20_q{k:Kit}(hW:WOK (wts k))(room:Int)(m:Nat)(hm:m<=16):∀(d e:Nat) {c:List Int},c.length+d=k.1.length->G20 (d+1+e) ((k.1,room,tbl (wts k) c m,c),())=some (resP k room m c (qdO (wts k) room m d c))
 |0,e,c,hc=>by
  rw[show 0+1+e=e+1 by omega]
  show F20 _ qn (k.1,room,tbl (wts k) c m,c)=_
  unfold F20
  have:((c.length:Int)==(k.1.length:Int))=true:=by simp;omega
  rw[this]
  rfl
 |d+1,e,c,hc=>by
  rw[show d+1+1+e=(d+1+e)+1 by omega]
  show F20 _ qn (k.1,room,tbl (wts k) c m,c)=_
  unfold F20
  have:((c.length:Int)==(k.1.length:Int))=false:=beq_eq_false_iff_ne.2 (by omega)
  rw[this,cond_false]
  show qs k.1 (c.length:Int) _=_
  rw[qe8 (by omega) (by omega),<-qj9 k (show c.length<k.1.length by omega)]
  have hfu:=qcC
  have e5:=L20_5_q hW (G20 (d+1+e)) room m hm d (c:=c) (by omega) (λv hv=>G20_q hW room m hm d e (by rw[List.length_append,List.length_singleton];omega)) m 0 qn (by omega) (by omega)
  have hT:((tbl (wts k) c m).length:Int)=(m:Int):=by rw[qkb]
  show qa (L20_5 (G20 (d+1+e)) qn ((gd (wts k) (c.length:Int),((tbl (wts k) c m).length:Int),0,()),((k.1,room,tbl (wts k) c m,c),()),())) _=_
  rw[hT]
  refine(qc6 e5 _).trans ?_
  show _=some (resP k room m c (tryV _ m 0))
  cases tryV (λv=>if lw (wts k) c (v:Int)+gd (wts k) (c.length:Int)>room then none else qdO (wts k) room m d (c++[(v:Int)])) m 0 with
  |some l=>rfl
  |none=>rfl
theorem g20_q{k:Kit}(hW:WOK (wts k))(room:Int){m:Nat}(hm:m<=16):g20 ((k.1,room,List.replicate m 0,[]),())=some (resP k room m [] (qdO (wts k) room m k.1.length [])):=by
 have hn:=hW.1
 rw[qbn]at hn
 have hfu:=qcC
 obtain⟨e,he⟩:∃e,qn=k.1.length+1+e:=⟨qn-(k.1.length+1),by omega⟩
 have ht:List.replicate m (0:Int)=tbl (wts k) [] m:=by
  apply List.ext_getElem
  ·simp[tbl]
  ·intro j h1 h2
   simp[tbl,lw,lwK]
 show G20 qn _=_
 rw[he,ht]
 exact G20_q hW room m hm k.1.length e (by simp)
def alv(n:Nat):List (List Int):=(List.range n).map λ(i:Nat)=>[(i:Int)]
theorem qeS(n:Nat):(alv n).flatten=qa4 n:=by
 unfold alv qa4
 induction n with
 |zero=>rfl
 |succ n ih=>
  rw[List.range_succ,List.map_append,List.map_append,List.flatten_append,ih]
  rfl
theorem qkV(n:Nat):(alv n).length=n:=by simp[alv]
theorem alv_succ(n:Nat):alv (n+1)=alv n++[[(n:Int)]]:=by simp[alv,List.range_succ]
abbrev alK(k:Kit):Kit:=(k.1,(k.2.1,alv k.1.length))
theorem qgu{k:Kit}(hf:qeZ k):qeZ (alK k):=by
 refine⟨hf.parts,hf.each,hf.crane,λx hx=>?_,?_,λi hi=>?_⟩
 ·rw[show(alK k).2.2.flatten=qa4 k.1.length from qeS _]at hx
  exact qaL.1 hx
 ·rw[show(alK k).2.2.flatten=qa4 k.1.length from qeS _]
  exact qca _
 ·rw[show(alK k).2.2.flatten=qa4 k.1.length from qeS _]
  exact qaL.2 ⟨by omega,by have:(i:Nat)<k.1.length:=hi;omega⟩
theorem qj6{k:Kit}(hk:Small k)(hf:qeZ k):Small (alK k):=by
 have h16:=hf.parts
 refine⟨hk.parts,hk.needs,?_,λv hv=>?_,?_⟩
 ·show(alv k.1.length).length<=_
  rw[qkV];omega
 ·obtain⟨i,_,rfl⟩:=List.mem_map.1 hv
  simp
 ·show(alv k.1.length).flatten.length<=_
  rw[qeS,qbt];omega
theorem wok_of{k:Kit}(hf:qeZ k):WOK (wts k):=by
 refine⟨by rw[qbn];exact hf.parts,λi hi=>?_⟩
 rw[qbn]at hi
 have h:=(hf.each i (gd k.1 (i:Int)) (qiP hi)).1
 rw[qj9 k hi]
 unfold rng at h
 rw[Bool.and_eq_true,decide_eq_true_eq,decide_eq_true_eq]at h
 exact h
theorem L6_10_q(k:Kit)(hn:k.1.length<=16)(room:Int)(N:Nat)(hN:100<N):L6_10 N (((k.1.length:Int),0,()),(k,room,[],()),())=some ((),(k,room,alv k.1.length,()),()):=by
 exact loopF (L:=L6_10) (λi=>(((k.1.length:Int),(i:Int),()),(k,room,alv i,()),())) ((),(k,room,alv k.1.length,()),()) 0 k.1.length (N:=N) (by omega)
  (λN=>by
   simp only[L6_10,B6_10]
   rw[qbj (by omega)]
   rfl)
  (λN i _ hi=>by
   simp only[L6_10,B6_10]
   rw[qaE (by omega),cond_true,qcV (by omega) (by rw[qkV];simp;omega),w64 (by omega) (by omega),<-alv_succ]
   rfl)
theorem g18_q(k:Kit)(hn:k.1.length<=1048576)(room:Int):g18 (k.1,(λv=>qa (g19 (v,room,())) λy=>some y.1.1),())=some ((decide (∃i:Nat,i<k.1.length/\gd (wts k) (i:Int)>room),()),()):=by
 show F18 qn k.1 _=_
 unfold F18
 have hfu:=qcC
 have hst:∀(f:Part->Option Bool),(∀p,f p=some (decide (p.1>room)))->∀(d i:Nat) (N:Nat),i+d=k.1.length->d<N->(∀j:Nat,j<i->¬gd (wts k) (j:Int)>room)->
   (∃i:Nat,L34_2 N ((k.1,f,(k.1.length:Int),((k.1.length-d:Nat):Int),()),(),())=some (.inl (((i:Int),()),(),()))/\i<k.1.length/\gd (wts k) (i:Int)>room)\/
   (L34_2 N ((k.1,f,(k.1.length:Int),((k.1.length-d:Nat):Int),()),(),())=some (.inr ((),(),()))/\∀j:Nat,j<k.1.length->¬gd (wts k) (j:Int)>room):=by
  intro f hf d
  induction d with
  |zero=>
   intro i N hi hN hno
   obtain⟨N,rfl⟩:∃n,N=n+1:=⟨N-1,by omega⟩
   refine .inr ⟨?_,λj hj=>hno j (by omega)⟩
   simp only[L34_2,B34_2]
   rw[qbj (by omega)]
   rfl
  |succ d ih=>
   intro i N hi hN hno
   obtain⟨N,rfl⟩:∃n,N=n+1:=⟨N-1,by omega⟩
   rw[show k.1.length-(d+1)=i by omega]
   simp only[L34_2,B34_2]
   rw[qaE (by omega),cond_true,qe8 (by omega) (by omega),hf,qJ,<-qj9 k (show i<k.1.length by omega),w64 (by omega) (by omega),show(i:Int)+1=((k.1.length-d:Nat):Int) by omega]
   by_cases h:gd (wts k) (i:Int)>room
   ·rw[qaE h]
    exact .inl ⟨i,rfl,by omega,h⟩
   ·rw[qbj h,cond_false]
    exact ih (i+1) N (by omega) (by omega) (λj hj=>by
     by_cases e:j=i
     ·rw[e];exact h
     ·exact hno j (by omega))
 have h95:g34 (k.1,(λv=>qa (g19 (v,room,())) λy=>some y.1.1),())=F34 qn k.1 (λv=>qa (g19 (v,room,())) λy=>some y.1.1):=rfl
 rw[h95]
 unfold F34
 have:=hst (λv=>qa (g19 (v,room,())) λy=>some y.1.1) (λp=>rfl) k.1.length 0 qn (by omega) (by omega) (λj hj=>by omega)
 rw[Nat.sub_self]at this
 rcases this with⟨i,h1,h2,h3⟩|⟨h1,h2⟩
 ·have h1':L34_2 qn ((k.1,(λv=>qa (g19 (v,room,())) λy=>some y.1.1),(k.1.length:Int),0,()),(),())=_:=h1
  rw[h1',qaE (p:=∃i:Nat,i<k.1.length/\gd (wts k) (i:Int)>room) ⟨i,h2,h3⟩]
  show some ((decide ((i:Int)>=0),()),())=_
  rw[qaE (by omega)]
 ·have h1':L34_2 qn ((k.1,(λv=>qa (g19 (v,room,())) λy=>some y.1.1),(k.1.length:Int),0,()),(),())=_:=h1
  rw[h1',qbj (p:=∃i:Nat,i<k.1.length/\gd (wts k) (i:Int)>room) (λ⟨i,a,b⟩=>h2 i a b)]
  rfl
def qeI(l:List Int):List Int->List (List Int)->List (List Int)
 |[],o=>o
 |p::r,o=>qeI l r (o.set (gd l p).toNat (gd o (gd l p)++[p]))
theorem qjS(l:List Int):∀(r:List Int) (o:List (List Int)),(qeI l r o).length=o.length
 |[],_=>rfl
 |p::r,o=>by
  unfold qeI
  rw[qjS l r,List.length_set]
def Shrt(B:Nat)(o:List (List Int)):Prop:=∀i:Nat,i<o.length->(gd o (i:Int)).length<=B
theorem qnO{B:Nat}{o:List (List Int)}(h:Shrt B o){v:Int}(h0:0<=v)(h1:v<o.length)(p:Int):Shrt (B+1) (o.set v.toNat (gd o v++[p])):=by
 intro i hi
 rw[List.length_set]at hi
 by_cases e:(i:Int)=v
 ·rw[e,qhk h0 h1,List.length_append,List.length_singleton]
  have:=h v.toNat (by omega)
  rw[show((v.toNat:Nat):Int)=v by omega]at this
  omega
 ·rw[qjT h0 (by omega) e]
  have:=h i hi
  omega
theorem take_rev{ord:List Int}{j:Nat}(hj:j<ord.length):(ord.take (j+1)).reverse=gd ord (j:Int)::(ord.take j).reverse:=by
 rw[qk7 hj,List.reverse_append]
 rfl
theorem eqK_self{R:Type}(a:Int)(X:Option R):eqK a a X=X:=by unfold eqK;rw[if_pos rfl]
theorem L6_24_q{n M:Nat}{l ord:List Int}(hl:l.length=n)(hr:∀i:Nat,i<n->0<=gd l (i:Int)/\gd l (i:Int)<M)(ho:∀p∈ord,0<=p/\p<n)(hlen:ord.length<=1048576)(x:List Part)(room:Int)(ld:List Int):
  ∀(j:Nat) (N:Nat) (o:List (List Int)),j<=ord.length->j<N->o.length=M->Shrt (ord.length-j) o->L6_24 N (((j:Int)-1,()),((x,room,ld,l),o,ord,()),())=some ((),(qeI l (ord.take j).reverse o,()),())
 |0,N,o,_,hN,_,_=>by
  obtain⟨N,rfl⟩:∃n,N=n+1:=⟨N-1,by omega⟩
  simp only[L6_24,B6_24]
  rw[qbj (by omega)]
  rfl
 |j+1,N,o,hj,hN,hol,hsh=>by
  obtain⟨N,rfl⟩:∃n,N=n+1:=⟨N-1,by omega⟩
  have hp:=ho (gd ord (j:Int)) (gd_mem (by omega) (by omega))
  have hv:=hr (gd ord (j:Int)).toNat (by omega)
  rw[show(((gd ord (j:Int)).toNat:Nat):Int)=gd ord (j:Int) by omega]at hv
  have hrow:=hsh (gd l (gd ord (j:Int))).toNat (by omega)
  rw[show(((gd l (gd ord (j:Int))).toNat:Nat):Int)=gd l (gd ord (j:Int)) by omega]at hrow
  rw[show((j+1:Nat):Int)-1=(j:Int) by omega]
  have a1:∀{R:Type} (X:Option R),inR (j:Int) ord.length X=X:=λX=>qej (by omega) (by omega) X
  have a2:∀{R:Type} (F:Int->Option R),qs ord (j:Int) F=F (gd ord (j:Int)):=λF=>qe8 (by omega) (by omega) F
  have a3:∀{R:Type} (X:Option R),inR (gd ord (j:Int)) l.length X=X:=λX=>qej (by omega) (by omega) X
  have a4:∀{R:Type} (F:Int->Option R),qs l (gd ord (j:Int)) F=F (gd l (gd ord (j:Int))):=λF=>qe8 (by omega) (by omega) F
  have a5:∀{R:Type} (X:Option R),inR (gd l (gd ord (j:Int))) o.length X=X:=λX=>qej (by omega) (by omega) X
  have a6:∀{R:Type} (F:List Int->Option R),qs o (gd l (gd ord (j:Int))) F=F (gd o (gd l (gd ord (j:Int)))):=λF=>qe8 (by omega) (by omega) F
  have a7:∀{R:Type} (X:Option R),ql (((gd o (gd l (gd ord (j:Int)))).length:Int)+(([gd ord (j:Int)].length:Nat):Int)) X=X:=λX=>qcV (by simp;omega) (by simp;omega) X
  simp only[L6_24,B6_24]
  rw[qaE (by omega),cond_true]
  simp only[a1,a2,a3,a4,a5,a6,a7,eqK_self,qaf,qag,qJ]
  rw[w64 (by omega) (by omega),take_rev (by omega)]
  exact L6_24_q hl hr ho hlen x room ld j N _ (by omega) (by omega) (by rw[List.length_set];exact hol) (by
   have:=qnO hsh hv.1 (by omega) (gd ord (j:Int))
   rwa[show ord.length-(j+1)+1=ord.length-j by omega]at this)
theorem shrt_nil(M:Nat):Shrt 0 (List.replicate M ([]:List Int)):=by
 intro i hi
 rw[List.length_replicate]at hi
 rw[qgl (by omega) (by omega)]
 simp
def fst(W:List Int)(room:Int):Nat->Nat->Option (Nat×List Int)
 |0,_=>none
 |r+1,m=>match qdO W room m W.length []with
  |some l=>some (m,l)
  |none=>fst W room r (m+1)
def outP(ord:List Int)(x:Nat×List Int):List (List Int):=qeI x.2 ord.reverse (List.replicate x.1 [])
theorem qiU{W:List Int}{room:Int}{M:Nat}{l:List Int}:∀{r m:Nat},fst W room r m=some (M,l)->m<=M/\M<m+r/\qdO W room M W.length []=some l/\∀u,m<=u->u<M->qdO W room u W.length []=none
 |0,_,h=>by cases h
 |r+1,m,h=>by
  unfold fst at h
  split at h
  ·rename_i l' hl
   cases h
   exact⟨Nat.le_refl _,by omega,hl,λu h1 h2=>by omega⟩
  ·rename_i hn
   obtain⟨h1,h2,h3,h4⟩:=qiU h
   refine⟨by omega,by omega,h3,λu h5 h6=>?_⟩
   by_cases e:u=m
   ·rw[e];exact hn
   ·exact h4 u (by omega) h6
theorem qlJ{W:List Int}{room:Int}:∀{r m:Nat},fst W room r m=none->∀u,m<=u->u<m+r->qdO W room u W.length []=none
 |0,_,_,u,h1,h2=>by omega
 |r+1,m,h,u,h1,h2=>by
  unfold fst at h
  split at h
  ·cases h
  ·rename_i hn
   by_cases e:u=m
   ·rw[e];exact hn
   ·exact qlJ h u (by omega) (by omega)
theorem lwK_id{W:List Int}(n:Nat)(v:Nat):∀i,i<=n->lwK W ((List.range n).map λ(i:Nat)=>(i:Int)) (v:Int) i=if v<i then gd W (v:Int)else 0
 |0,_=>by rw[if_neg (by omega)];rfl
 |i+1,h=>by
  unfold lwK
  rw[lwK_id n v i (by omega)]
  have:gd ((List.range n).map λ(i:Nat)=>(i:Int)) (i:Int)=(i:Int):=qlH (by rw[List.getElem?_map,List.getElem?_range (by omega)];rfl)
  rw[this]
  by_cases e:i=v
  ·subst e
   rw[if_neg (by omega),if_pos rfl,if_pos (by omega),Int.zero_add]
  ·rw[if_neg (show ¬(i:Int)=(v:Int) by omega),Int.add_zero]
   by_cases h2:v<i
   ·rw[if_pos h2,if_pos (by omega)]
   ·rw[if_neg h2,if_neg (by omega)]
theorem asg_id{W:List Int}{room:Int}(h:∀i:Nat,i<W.length->¬gd W (i:Int)>room):Asg W room W.length ((List.range W.length).map λ(i:Nat)=>(i:Int)):=by
 refine⟨by simp,λi hi=>?_,λv hv=>?_⟩
 ·have:gd ((List.range W.length).map λ(i:Nat)=>(i:Int)) (i:Int)=(i:Int):=qlH (by simp[hi])
  rw[this];omega
 ·unfold lw
  rw[List.length_map,List.length_range,lwK_id W.length v W.length (Nat.le_refl _),if_pos hv]
  have:=h v hv
  omega
theorem asg_each{W:List Int}(hW:WOK W){room:Int}{m:Nat}{a:List Int}(ha:Asg W room m a){i:Nat}(hi:i<W.length):gd W (i:Int)<=room:=by
 have hl:=ha.len
 have hg:=ha.rng i hi
 have hf:=ha.fit (gd a (i:Int)).toNat (by omega)
 rw[show(((gd a (i:Int)).toNat:Nat):Int)=gd a (i:Int) by omega]at hf
 have h1:lwK W a (gd a (i:Int)) (i+1)=lwK W a (gd a (i:Int)) i+gd W (i:Int):=by
  show lwK W a (gd a (i:Int)) i+(if gd a (i:Int)=gd a (i:Int)then gd W (i:Int)else 0)=_
  rw[if_pos rfl]
 have h0:=(qmL hW a (gd a (i:Int)) i (by omega)).1
 have h2:=qiz hW a (gd a (i:Int)) (W.length-(i+1)) (i+1) (by omega)
 rw[show i+1+(W.length-(i+1))=a.length by omega]at h2
 have h3:lwK W a (gd a (i:Int)) a.length<=room:=hf
 omega
theorem L6_20_q{k:Kit}(hW:WOK (wts k)){room:Int}(hroom:0<=room){ord:List Int}(ho:∀p∈ord,0<=p/\p<k.1.length)(hlen:ord.length<=16):∀(r m:Nat) (N:Nat) (M:Nat) (l:List Int),m+r<=17->r+1000<N->fst (wts k) room r m=some (M,l)->
  L6_20 N (((m:Int),()),(k,room,ord,()),())=some ((0,()),(outP ord (M,l),()),())
 |0,m,N,M,l,_,_,h=>by cases h
 |r+1,m,N,M,l,hm,hN,h=>by
  obtain⟨N,rfl⟩:∃n,N=n+1:=⟨N-1,by omega⟩
  have a1:∀{R:Type} (X:Option R),leK 0 (m:Int) X=X:=λX=>qcp (by omega) X
  have a2:∀{R:Type} (X:Option R),leK (m:Int) (m:Int) X=X:=λX=>qcp (by omega) X
  have a3:∀{R:Type} (X:Option R),ql (m:Int) X=X:=λX=>qcV (by omega) (by omega) X
  have e81:=g20_q hW room (m:=m) (by omega)
  simp only[L6_20,B6_20]
  simp only[a1,a2,a3,Int.toNat_natCast,qaf,qag,qJ]
  rw[e81,qJ]
  unfold fst at h
  rw[qbn]at h
  cases hs:qdO (wts k) room m k.1.length []with
  |none=>
   rw[hs]at h
   show L6_20 N ((IntKind.wrap .i64 ((m:Int)+1),()),(k,room,ord,()),())=_
   rw[w64 (by omega) (by omega),show(m:Int)+1=((m+1:Nat):Int) by omega]
   exact L6_20_q hW hroom ho hlen r (m+1) N M l (by omega) (by omega) h
  |some l'=>
   rw[hs]at h
   injection h with h
   injection h with h1 h2
   subst h1
   subst h2
   have ha:=qh2 hroom (by rw[qbn];exact hs)
   have hal:=ha.len
   rw[qbn]at hal
   have e24:=L6_24_q (n:=k.1.length) (M:=m) (l:=l') (ord:=ord) hal (λi hi=>ha.rng i (by rw[qbn];exact hi)) ho (by omega) k.1 room (tbl (wts k) l' m) ord.length N (List.replicate m []) (Nat.le_refl _) (by omega) (by simp) (by rw[Nat.sub_self];exact shrt_nil m)
   rw[List.take_length]at e24
   show qa (L6_24 N ((IntKind.wrap .i64 ((ord.length:Int)-1),()),((k.1,room,tbl (wts k) l' m,l'),List.replicate m ([]:List Int),ord,()),())) _=_
   rw[w64 (by omega) (by omega),e24]
   rfl
def qcU(k:Kit):List Int:=(finO (alK k)).1
def qdo(k:Kit)(room:Int):List (List Int)×Int:=
 if qfZ k=true then(if rng room 1 1000000=true then(if k.1.length<=8 then(if(qcU k).length<k.1.length then([],3)else match fst (wts k) room (k.1.length+1) 0 with
  |some x=>(outP (qcU k) x,0)
  |none=>([],3))else([],2))else([],1))else([],80)
theorem qnn{k:Kit}(hf:qeZ k):(∀p∈qcU k,0<=p/\p<k.1.length)/\(qcU k).length<=16:=by
 have h:=qkK (qgu hf)
 refine⟨h.rng,?_⟩
 have h2:(finO (alK k)).1.length<=k.1.length:=(finO_len (alK k)).2
 have h16:=hf.parts
 exact Nat.le_trans h2 h16
theorem g6_eq(k:Kit)(hk:Small k)(room:Int):g6 (k,room,())=some (((qdo k room).1,(qdo k room).2,()),()):=by
 show F6 qn k room=_
 unfold F6 qdo
 rcases g14_eq k hk with⟨hv,q,hq⟩|⟨hv,y,hy,hq⟩
 ·rw[hq,hv];rfl
 rw[hq,qJ,hv,if_pos rfl]
 simp only[Bool.not_true,cond_false]
 rw[g15_eq,qJ]
 cases hr:rng room 1 1000000 with
 |false=>rfl
 |true=>
 rw[if_pos rfl]
 have hf:=qnC k hv
 have hW:=wok_of hf
 have h16:=hf.parts
 obtain⟨ho1,ho2⟩:=qnn hf
 have hroom:0<=room:=by
  unfold rng at hr
  rw[Bool.and_eq_true,decide_eq_true_eq,decide_eq_true_eq]at hr
  omega
 simp only[Bool.not_true,cond_false]
 by_cases h8:k.1.length<=8
 case neg=>rw[qaE (by omega),if_neg h8];rfl
 have hfu:=qcC
 rw[qbj (by omega),if_pos h8,cond_false]
 refine(qc6 (L6_10_q k h16 room qn (by omega)) _).trans ?_
 have hflat:(alv k.1.length).flatten=qa4 k.1.length:=qeS _
 have hgood:qam k.1.length [] (alv k.1.length).flatten=true:=by
  rw[qek,hflat]
  exact⟨λx hx=>qaL.1 hx,qca _,λx _ h=>by cases h⟩
 rcases g16_eq k (alv k.1.length) h16 (by rw[qkV];omega) (qj6 hk hf).van (by rw[hflat,qbt];omega)with⟨h1,_⟩|⟨_,many,ab,be,lies,hst,e78⟩
 ·rw[hgood]at h1;cases h1
 refine(qc6 e78 _).trans ?_
 rw[qJ]
 refine(qc6 (g17_eq (k:=alK k) (qj6 hk hf) (qgu hf) (y:=(alK k,(ab,be))) ⟨rfl,many,lies,hst⟩) _).trans ?_
 show(bif decide (((qcU k).length:Int)<(k.1.length:Int))then _ else _)=_
 by_cases hl:(qcU k).length<k.1.length
 case pos=>rw[qaE (by omega),if_pos hl];rfl
 rw[qbj (by omega),if_neg hl,cond_false]
 refine(qc6 (g18_q k (by omega) room) _).trans ?_
 by_cases hex:∃i:Nat,i<k.1.length/\gd (wts k) (i:Int)>room
 ·have hno:fst (wts k) room (k.1.length+1) 0=none:=by
   cases hs:fst (wts k) room (k.1.length+1) 0 with
   |none=>rfl
   |some x=>
    obtain⟨i,hi,hgt⟩:=hex
    have ha:=qh2 hroom (qiU (M:=x.1) (l:=x.2) hs).2.2.1
    have:=asg_each hW ha (i:=i) (by rw[qbn];exact hi)
    omega
  rw[hno]
  show(bif decide _ then _ else _)=_
  rw[qaE hex]
  rfl
 ·have hasg:Asg (wts k) room (wts k).length _:=asg_id (λi hi hgt=>hex ⟨i,by rw[qbn]at hi;exact hi,hgt⟩)
  cases hs:fst (wts k) room (k.1.length+1) 0 with
  |none=>exact absurd (qlJ hs (wts k).length (Nat.zero_le _) (by rw[qbn];omega)) (srch_nil hW hasg)
  |some x=>
   obtain⟨M,l⟩:=x
   show(bif decide _ then _ else _)=_
   rw[qbj hex,cond_false]
   refine(qc6 (L6_20_q hW hroom ho1 ho2 (k.1.length+1) 0 qn M l (by omega) (by omega) hs) _).trans ?_
   rfl
theorem qlL:∀(o:List (List Int)) (v:Nat) (p:Int),v<o.length->((o.set v (gd o (v:Int)++[p])).flatten).Perm (p::o.flatten)
 |[],_,_,h=>absurd h (by simp)
 |a::o,0,p,_=>by
  have:gd (a::o) ((0:Nat):Int)=a:=rfl
  rw[this]
  show((a++[p])++o.flatten).Perm (p::(a++o.flatten))
  rw[List.append_assoc]
  exact List.perm_middle
 |a::o,v+1,p,h=>by
  have:gd (a::o) ((v+1:Nat):Int)=gd o (v:Int):=rfl
  rw[this]
  show(a++(o.set v (gd o (v:Int)++[p])).flatten).Perm (p::(a++o.flatten))
  exact((qlL o v p (by simpa using h)).append_left a).trans List.perm_middle
theorem qiM{n M:Nat}{l:List Int}(hr:∀i:Nat,i<n->0<=gd l (i:Int)/\gd l (i:Int)<M):∀(r:List Int) (o:List (List Int)),(∀p∈r,0<=p/\p<n)->o.length=M->(qeI l r o).flatten.Perm (r++o.flatten)
 |[],o,_,_=>List.Perm.refl _
 |p::r,o,hp,ho=>by
  have h1:=hp p List.mem_cons_self
  have hv:=hr p.toNat (by omega)
  rw[show((p.toNat:Nat):Int)=p by omega]at hv
  unfold qeI
  refine(qiM hr r _ (λq hq=>hp q (List.mem_cons_of_mem _ hq)) (by rw[List.length_set];exact ho)).trans ?_
  have:=qlL o (gd l p).toNat p (by omega)
  rw[show(((gd l p).toNat:Nat):Int)=gd l p by omega]at this
  exact(this.append_left r).trans List.perm_middle
theorem qjR{n M:Nat}{l:List Int}(hr:∀i:Nat,i<n->0<=gd l (i:Int)/\gd l (i:Int)<M):∀(r:List Int) (o:List (List Int)),(∀p∈r,0<=p/\p<n)->o.length=M->∀v:Nat,v<M->gd (qeI l r o) (v:Int)=gd o (v:Int)++r.filter λp=>gd l p==(v:Int)
 |[],o,_,_,v,_=>by simp[qeI]
 |p::r,o,hp,ho,v,hvM=>by
  have h1:=hp p List.mem_cons_self
  have hv:=hr p.toNat (by omega)
  rw[show((p.toNat:Nat):Int)=p by omega]at hv
  unfold qeI
  rw[qjR hr r _ (λq hq=>hp q (List.mem_cons_of_mem _ hq)) (by rw[List.length_set];exact ho) v hvM,List.filter_cons]
  by_cases e:gd l p=(v:Int)
  ·rw[e,show((v:Int)==(v:Int))=true by simp,if_pos rfl,qhk (by omega) (by omega),List.append_assoc]
   rfl
  ·rw[qjT hv.1 (by omega) (by omega),show(gd l p==(v:Int))=false by simp[e]]
   rfl
def qfY(W:List Int):List Int->Int
 |[]=>0
 |p::r=>gd W p+qfY W r
theorem qkZ(W:List Int):∀(a b:List Int),qfY W (a++b)=qfY W a+qfY W b
 |[],b=>by show _=0+qfY W b;rw[Int.zero_add];rfl
 |p::a,b=>by
  show gd W p+qfY W (a++b)=gd W p+qfY W a+qfY W b
  rw[qkZ W a b,Int.add_assoc]
theorem qnH{W a b:List Int}(h:a.Perm b):qfY W a=qfY W b:=by
 induction h with
 |nil=>rfl
 |cons x _ ih=>show _+_=_+_;rw[ih]
 |swap x y l=>show _+(_+_)=_+(_+_);rw[Int.add_left_comm]
 |trans _ _ h1 h2=>rw[h1,h2]
theorem qlj(n:Nat):qa4 (n+1)=qa4 n++[(n:Int)]:=by unfold qa4;rw[List.range_succ,List.map_append];rfl
theorem qhT(W l:List Int)(v:Int):∀n,qfY W ((qa4 n).filter λp=>gd l p==v)=lwK W l v n
 |0=>rfl
 |n+1=>by
  rw[qlj,List.filter_append,qkZ,qhT W l v n]
  show _=lwK W l v n+if gd l (n:Int)=v then gd W (n:Int)else 0
  rw[List.filter_cons]
  by_cases e:gd l (n:Int)=v
  ·rw[e,show(v==v)=true by simp,if_pos rfl,if_pos rfl]
   show _+(gd W (n:Int)+0)=_
   rw[Int.add_zero]
  ·rw[show(gd l (n:Int)==v)=false by simp[e],if_neg e]
   rfl
structure Packed (k:Kit) (room:Int) (vans:List (List Int)):Prop where
 perm:vans.flatten.Perm (qa4 k.1.length)
 fit:∀v:Nat,v<vans.length->qfY (wts k) (gd vans (v:Int))<=room
 shrt:∀v:Nat,v<vans.length->(gd vans (v:Int)).length<=k.1.length
 abv:∀pre p post i,qcU k=pre++p::post->qg7 vans i p=true->i∈pre
theorem qnX{k:Kit}(hf:qeZ k)(hl:¬(qcU k).length<k.1.length):(qcU k).Perm (qa4 k.1.length):=by
 have h:=qkK (qgu hf)
 exact qdE _ _ h.nodup (λx hx=>qaL.2 (h.rng x hx)) (by rw[qbt];omega)
theorem qnW{k:Kit}(hf:qeZ k){room:Int}{M:Nat}{l:List Int}(ha:Asg (wts k) room M l)(hl:¬(qcU k).length<k.1.length):Packed k room (outP (qcU k) (M,l)):=by
 have hal:=ha.len
 rw[qbn]at hal
 have hp:=qnX hf hl
 obtain⟨ho1,ho2⟩:=qnn hf
 have hnd:(qcU k).Nodup:=(qkK (qgu hf)).nodup
 have hr:∀i:Nat,i<k.1.length->0<=gd l (i:Int)/\gd l (i:Int)<M:=λi hi=>ha.rng i (by rw[qbn];exact hi)
 have hin:∀p∈(qcU k).reverse,0<=p/\p<k.1.length:=λp hp=>ho1 p (List.mem_reverse.1 hp)
 have hlen:(outP (qcU k) (M,l)).length=M:=by
  show(qeI l (qcU k).reverse (List.replicate M [])).length=M
  rw[qjS,List.length_replicate]
 have hrow:∀v:Nat,v<M->gd (outP (qcU k) (M,l)) (v:Int)=(qcU k).reverse.filter λp=>gd l p==(v:Int):=by
  intro v hv
  have:=qjR hr (qcU k).reverse (List.replicate M []) hin (by simp) v hv
  rw[qgl (by omega) (by omega),List.nil_append]at this
  exact this
 refine⟨?_,λv hv=>?_,λv hv=>?_,λpre p post i he hab=>?_⟩
 ·have:=qiM hr (qcU k).reverse (List.replicate M []) hin (by simp)
  rw[List.flatten_replicate_nil,List.append_nil]at this
  exact this.trans ((List.reverse_perm _).trans hp)
 ·rw[hlen]at hv
  rw[hrow v hv,qnH (((List.reverse_perm _).trans hp).filter _),qhT]
  have:=ha.fit v hv
  unfold lw at this
  rwa[hal]at this
 ·rw[hlen]at hv
  rw[hrow v hv]
  refine Nat.le_trans (List.length_filter_le _ _) ?_
  rw[List.length_reverse,hp.length_eq,qbt]
  exact Nat.le_refl _
 ·unfold qg7 at hab
  obtain⟨row,hrw,hg⟩:=List.any_eq_true.1 hab
  obtain⟨v,hv,e⟩:=List.mem_iff_getElem.1 hrw
  rw[hlen]at hv
  have e2:gd (outP (qcU k) (M,l)) (v:Int)=row:=qlH (by rw[List.getElem?_eq_getElem (by omega)];exact congrArg some e)
  rw[hrow v hv]at e2
  rw[he,List.nodup_append]at hnd
  obtain⟨_,hn2,hn3⟩:=hnd
  have hp1:p∉post:=(List.nodup_cons.1 hn2).1
  have hp2:p∉pre:=λh=>hn3 p h p List.mem_cons_self rfl
  rw[he,List.reverse_append,List.reverse_cons,List.append_assoc,List.filter_append,List.singleton_append,List.filter_cons]at e2
  by_cases ee:gd l p=(v:Int)
  ·rw[ee,show((v:Int)==(v:Int))=true by simp,if_pos rfl]at e2
   rw[<-e2,qfU i p _ _ (λh=>hp1 (List.mem_reverse.1 (List.mem_filter.1 h).1))]at hg
   exact List.mem_reverse.1 (List.mem_filter.1 (of_decide_eq_true hg)).1
  ·rw[show(gd l p==(v:Int))=false by simp[ee]]at e2
   rw[<-e2,qcY i p _ (λh=>by
    rcases List.mem_append.1 h with h|h
    ·exact hp1 (List.mem_reverse.1 (List.mem_filter.1 h).1)
    ·exact hp2 (List.mem_reverse.1 (List.mem_filter.1 h).1))]at hg
   cases hg
inductive PackedAs (k:Kit) (room:Int):Prop
 |other (h0:(qdo k room).2≠0) (h3:(qdo k room).2≠3)
 |none (hv:qfZ k=true) (hn:k.1.length<=8) (h:(qdo k room).2=3) (hc:(qcU k).length<k.1.length\/fst (wts k) room (k.1.length+1) 0=none)
 |some (hv:qfZ k=true) (hn:k.1.length<=8) (h:(qdo k room).2=0) (hl:¬(qcU k).length<k.1.length) (M:Nat) (l:List Int) (hM:M<=k.1.length) (ho:(qdo k room).1=outP (qcU k) (M,l)) (ha:Asg (wts k) room M l) (hmin:∀u,u<M->qdO (wts k) room u (wts k).length [] = .none)
theorem packedAs(k:Kit)(room:Int):PackedAs k room:=by
 by_cases hv:qfZ k=true
 case neg=>exact .other (by unfold qdo;rw[if_neg hv];decide) (by unfold qdo;rw[if_neg hv];decide)
 by_cases hr:rng room 1 1000000=true
 case neg=>exact .other (by unfold qdo;rw[if_pos hv,if_neg hr];decide) (by unfold qdo;rw[if_pos hv,if_neg hr];decide)
 by_cases h8:k.1.length<=8
 case neg=>exact .other (by unfold qdo;rw[if_pos hv,if_pos hr,if_neg h8];decide) (by unfold qdo;rw[if_pos hv,if_pos hr,if_neg h8];decide)
 by_cases hl:(qcU k).length<k.1.length
 case pos=>exact .none hv h8 (by unfold qdo;rw[if_pos hv,if_pos hr,if_pos h8,if_pos hl]) (.inl hl)
 have hroom:0<=room:=by
  unfold rng at hr
  rw[Bool.and_eq_true,decide_eq_true_eq,decide_eq_true_eq]at hr
  omega
 cases hs:fst (wts k) room (k.1.length+1) 0 with
 |none=>exact .none hv h8 (by unfold qdo;rw[if_pos hv,if_pos hr,if_pos h8,if_neg hl,hs]) (.inr hs)
 |some x=>
  obtain⟨M,l⟩:=x
  obtain⟨_,h2,h3,h4⟩:=qiU hs
  exact .some hv h8 (by unfold qdo;rw[if_pos hv,if_pos hr,if_pos h8,if_neg hl,hs]) hl M l (by omega) (by unfold qdo;rw[if_pos hv,if_pos hr,if_pos h8,if_neg hl,hs]) (qh2 hroom h3) (λu hu=>h4 u (by omega) hu)
def loadOf(ps:List Part):List Int->Int
 |[]=>0
 |p::r=>(match ps[p.toNat]? with|some x=>x.1|none=>0)+loadOf ps r
theorem qhi{k:Kit}:∀(l:List Int),(∀p∈l,0<=p/\p<(k.1.length:Int))->qfY (wts k) l=loadOf k.1 l
 |[],_=>rfl
 |p::r,h=>by
  have hp:=h p List.mem_cons_self
  have ih:=qhi r (λq hq=>h q (List.mem_cons_of_mem _ hq))
  have hi:p.toNat<k.1.length:=by omega
  show gd (wts k) p+qfY (wts k) r=(match k.1[p.toNat]? with|some x=>x.1|none=>0)+loadOf k.1 r
  have e:=qj9 k hi
  rw[show((p.toNat:Nat):Int)=p by omega]at e
  have e2:=qiP (l:=k.1) hi
  rw[show((p.toNat:Nat):Int)=p by omega]at e2
  rw[e,ih,e2]
theorem root08p(k:Kit)(hk:Small k)(room:Int):∃(vans:List (List Int)) (e:Int),g6 (k,room,())=some ((vans,e,()),())/\(e=0->k.1.length<=16/\(∀x∈k.1,1<=x.1/\x.1<=1000000)/\∀v∈vans,(∀p∈v,0<=p/\p<(k.1.length:Int))/\loadOf k.1 v<=room/\v.length<=16):=by
 refine⟨_,_,g6_eq k hk room,λh0=>?_⟩
 rcases packedAs k room with⟨h,_⟩|⟨_,_,h,_⟩|⟨hv,hn,h,hl,M,l,hM,ho,ha,_⟩
 ·exact absurd h0 h
 ·rw[h0]at h;cases h
 ·have hf:=qnC k hv
  have hP:=qnW hf ha hl
  rw[<-ho]at hP
  refine⟨hf.parts,λx hx=>?_,λv hvm=>?_⟩
  ·obtain⟨i,hi,rfl⟩:=List.getElem_of_mem hx
   have:=(hf.each i _ (List.getElem?_eq_getElem hi)).1
   unfold rng at this
   rw[Bool.and_eq_true,decide_eq_true_eq,decide_eq_true_eq]at this
   exact this
  ·obtain⟨i,hi,rfl⟩:=List.getElem_of_mem hvm
   have hmem:∀p∈(qdo k room).1[i],0<=p/\p<(k.1.length:Int):=λp hp=>by
    have:=hP.perm.subset (List.mem_flatten.2 ⟨_,hvm,hp⟩)
    exact qaL.1 this
   have hg:gd (qdo k room).1 ((i:Nat):Int)=(qdo k room).1[i]:=by
    have:=qiP (l:=(qdo k room).1) hi
    rw[List.getElem?_eq_getElem hi]at this
    exact(Option.some.inj this).symm
   have h1:=hP.fit i hi
   have h2:=hP.shrt i hi
   rw[hg]at h1 h2
   rw[qhi _ hmem]at h1
   exact⟨hmem,h1,by have:=hf.parts;omega⟩
end Go.Proofs.Try.V.L08
