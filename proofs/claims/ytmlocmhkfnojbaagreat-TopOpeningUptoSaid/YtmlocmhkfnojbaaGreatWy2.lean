/- The contract of convoy's ways, and of the function that makes them. No condition beyond those typed in each theorem. -/
import Derived.Test.YtmlocmhkfnojbaaGreatWy
import Derived.DeepKeys4
import Derived.Maps.Keyed
namespace Go.Proofs.Tryz.Wy
open Go.RowKit Go.Shelf Go.Proofs Go.Vi
abbrev nN:=Int×Int×Int×Int×Int
abbrev nG:=Int×Int×Int×Int×Int×Int
abbrev uT:=(List Bool×List nN)×nG
abbrev Way:=Int×Int×(Int×Int)×(Int×Int)
def LZ:Ty:=.str (.pair (.int .i64) (.pair (.int .i64) (.pair (.int .i64) (.pair (.int .i64) (.int .i64)))))
def Yu:Ty:=.str (.pair (.int .i64) (.pair (.int .i64) (.pair (.int .i64) (.pair (.int .i64) (.pair (.int .i64) (.int .i64))))))
def tMp:Ty:=.str (.pair (.list false 4 .bool) (.list false 102 LZ))
def L_:Ty:=.str (.pair tMp Yu)
def GO:Ty:=.str (.pair (.int .i64) (.int .i64))
def tWy:Ty:=.str (.pair (.int .i64) (.pair (.int .i64) (.pair GO GO)))
def kH(pk:Bool)(lo:nG)(t u:Int)(j:Nat)(r:nN):List Way:=
  if(r.1=t\/r.2.1=t)/\lo.1<=r.2.2.2.1/\lo.2.1<=r.2.2.2.2 then
    (if u+r.2.2.1<=lo.2.2.2.2.1 then[((j:Int),0,(r.1+r.2.1-t,u+r.2.2.1),(r.2.2.1,1))]else[]) ++
    (if pk=true/\0<u/\r.2.2.1<=lo.2.2.2.2.1 then[((j:Int),lo.2.2.2.2.2,(r.1+r.2.1-t,r.2.2.1),(lo.2.2.2.2.2+r.2.2.1,1))]else[])
  else[]
def dx(pk:Bool)(lo:nG)(t u:Int):Nat->List nN->List Way
  |_,[]=>[]
  |j,r::rs=>kH pk lo t u j r++dx pk lo t u (j+1) rs
theorem qe5(pk:Bool)(lo:nG)(t u:Int):∀(j:Nat) (l1 l2:List nN),dx pk lo t u j (l1++l2)=dx pk lo t u j l1++dx pk lo t u (j+l1.length) l2
  |j,[],l2=>rfl
  |j,r::l1,l2=>by
    simp only[List.cons_append,dx,qe5 pk lo t u (j+1) l1 l2,List.append_assoc,List.length_cons]
    rw[show j+1+l1.length=j+(l1.length+1) by omega]
def jy(pk:List Bool)(t:Int):Bool:=pk[t.toNat]?.getD false
def okW(a:uT)(p:Int×Int):Prop:=0<=p.1/\p.1<a.1.1.length/\rK p.1/\rK p.2/\rK a.2.2.2.2.2.1/\rK a.2.2.2.2.2.2/\(∀r∈a.1.2,rK r.1/\rK r.2.1/\rK r.2.2.1/\rK r.2.2.2.1/\rK r.2.2.2.2)/\a.1.2.length<=1000000000
noncomputable def nU:Iter:=⟨[.r L_,.r GO],tWy,λ(d:uT×(Int×Int)×Unit)=>open Classical in if okW d.1 d.2.1 then some (dx (jy d.1.1.1 d.2.1.1) d.1.2 d.2.1.1 d.2.1.2 0 d.1.1.2:List Way)else none⟩
def zR(l:List nN)(j q:Nat):Int:=match l[j]? with
  |none=>0
  |some x=>match q with
    |0=>x.1
    |1=>x.2.1
    |2=>x.2.2.1
    |3=>x.2.2.2.1
    |_=>x.2.2.2.2
theorem To{P:Program}{w:World}{H:FH}{x:LZ.den}{cs:List Value}{fp:List Nat}(h:qm P LZ w H x cs fp):cs=[.int .i64 x.1,.int .i64 x.2.1,.int .i64 x.2.2.1,.int .i64 x.2.2.2.1,.int .i64 x.2.2.2.2]/\fp=[]:=by
  obtain⟨_,_,_,_,rfl,rfl,⟨rfl,rfl⟩,_,_,_,_,rfl,rfl,⟨rfl,rfl⟩,_,_,_,_,rfl,rfl,⟨rfl,rfl⟩,_,_,_,_,rfl,rfl,⟨rfl,rfl⟩,⟨rfl,rfl⟩⟩:=h
  exact⟨rfl,rfl⟩
theorem Tp{P:Program}{w:World}{H:FH}{x:Yu.den}{cs:List Value}{fp:List Nat}(h:qm P Yu w H x cs fp):cs=[.int .i64 x.1,.int .i64 x.2.1,.int .i64 x.2.2.1,.int .i64 x.2.2.2.1,.int .i64 x.2.2.2.2.1,.int .i64 x.2.2.2.2.2]/\fp=[]:=by
  obtain⟨_,_,_,_,rfl,rfl,⟨rfl,rfl⟩,_,_,_,_,rfl,rfl,⟨rfl,rfl⟩,_,_,_,_,rfl,rfl,⟨rfl,rfl⟩,_,_,_,_,rfl,rfl,⟨rfl,rfl⟩,_,_,_,_,rfl,rfl,⟨rfl,rfl⟩,⟨rfl,rfl⟩⟩:=h
  exact⟨rfl,rfl⟩
theorem Tn(P:Program)(w:World)(H:FH)(x:Way):qm P tWy w H x [.int .i64 x.1,.int .i64 x.2.1,.int .i64 x.2.2.1.1,.int .i64 x.2.2.1.2,.int .i64 x.2.2.2.1,.int .i64 x.2.2.2.2] []:=
  ⟨[_],_,[],[],rfl,rfl,⟨rfl,rfl⟩,[_],_,[],[],rfl,rfl,⟨rfl,rfl⟩,[_,_],[_,_],[],[],rfl,rfl,⟨[_],[_],[],[],rfl,rfl,⟨rfl,rfl⟩,⟨rfl,rfl⟩⟩,⟨[_],[_],[],[],rfl,rfl,⟨rfl,rfl⟩,⟨rfl,rfl⟩⟩⟩
theorem MC{c:Array Value}{o n i:Nat}{v:Value}(h:(ct c o n)[i]? = some v):c[o+i]? = some v:=by
  unfold ct at h
  rw[List.getElem?_take]at h
  split at h
  · rw[List.getElem?_drop]at h
    simpa using h
  · cases h
theorem Uo{P:Program}{w:World}{H:FH}:∀{l:List LZ.den} {xs fp},qd (qm P LZ w H) l xs fp->∀j i,j<l.length->i<5->xs[j*5+i]? = some (.int .i64 (zR l j i))
  |[],_,_,_,j,_,h,_=>absurd h (by simp)
  |x::l,xs,fp,⟨c,xs',f,aC,e1,_,h1,h2⟩,j,i,hj,hi=>by
    obtain⟨rfl,_⟩:=To h1
    subst e1
    cases j with
    |zero=>
      match i,hi with
      |0,_=>rfl
      |1,_=>rfl
      |2,_=>rfl
      |3,_=>rfl
      |4,_=>rfl
    |succ j=>
      have:=Uo h2 j i (by simpa using hj) hi
      rw[List.getElem?_append_right (by simp;omega)]
      simp only[List.length_cons,List.length_nil]
      rw[show(j+1)*5+i-(0+1+1+1+1+1)=j*5+i by omega,this]
      rfl
theorem qmy{P:Program}{w:World}{H:FH}:∀{l:List Bool} {xs fp},qd (qm P .bool w H) l xs fp->∀(j:Nat) (b:Bool),l[j]? = some b->xs[j]? = some (.bool b)
  |[],_,_,_,j,b,h=>by simp at h
  |x::l,xs,fp,⟨c,xs',f,aC,e1,_,⟨h1,_⟩,h2⟩,j,b,hj=>by
    subst h1 e1
    cases j with
    |zero=>cases hj;rfl
    |succ j=>exact qmy h2 j b (by simpa using hj)
set_option maxRecDepth 100000 in
theorem wL:Mo Tryz.prog 79 nU:=by
  refine⟨qX Tryz.func79 rfl (by kernel_rfl),rfl,?_⟩
  rintro⟨a,p,⟨⟩⟩ xs hg w H vs ai hok ⟨v,vs',φ,ag,rfl,rfl,_,hφ,⟨Ab,o,blk,rfl,hb,an⟩,⟨v2,oq,kT,iL,rfl,rfl,_,mu,⟨Fb,fo,Jq,rfl,cO,kA⟩,rfl,rfl⟩⟩ _ _
  change uT at a
  change Int×Int at p
  change List Way at xs
  have hg:(open Classical in if okW a p then some (dx (jy a.1.1 p.1) a.2 p.1 p.2 0 a.1.2:List Way)else none)=some xs:=hg
  split at hg
  case isFalse=>cases hg
  rename_i hw
  obtain⟨⟨MU,rs⟩,lo⟩:=a
  obtain⟨t,u⟩:=p
  obtain⟨t0,t1,bt,bu,b4,b5,br,hn⟩:=hw
  simp only at t0 t1 bt bu b4 b5 br hn hg
  have hxs:=Option.some.inj hg
  obtain⟨c1,c2,f1,f2,e1,e2,⟨p1,p2,g1,g2,rfl,rfl,⟨_,sa1,Xg,rfl,Wq,Cw⟩,⟨_,sa2,yF,rfl,Wp,bn⟩⟩,hlor⟩:=an
  obtain⟨rfl,_⟩:=Tp hlor
  obtain⟨q1,q2,k1,k2,e3,e4,⟨rfl,rfl⟩,⟨rfl,rfl⟩⟩:=kA
  simp only at Wq Cw Wp bn e1 e3
  have hbk:=hok.cells hb
  have abz:=hok.cells cO
  obtain⟨ty1,fr1,hh1⟩:=hbk
  obtain⟨ty2,fr2,hh2⟩:=abz
  have cA:∀(i:Nat) (v:Value),([.slice sa1 MU.length Xg,.slice sa2 rs.length yF,.int .i64 lo.1,.int .i64 lo.2.1,.int .i64 lo.2.2.1,.int .i64 lo.2.2.2.1,.int .i64 lo.2.2.2.2.1,.int .i64 lo.2.2.2.2.2]:List Value)[i]? = some v->w.cell? ⟨Ab,o+i,none⟩=some v:=by
    intro i v hv
    rw[qw hh1]
    refine MC (n:=L_.size) ?_
    rw[e1]
    exact hv
  have cF:∀(i:Nat) (v:Value),([.int .i64 t,.int .i64 u]:List Value)[i]? = some v->w.cell? ⟨Fb,fo+i,none⟩=some v:=by
    intro i v hv
    rw[qw hh2]
    refine MC (n:=GO.size) ?_
    rw[e3]
    exact hv
  have eR:t.toNat<MU.length:=by omega
  obtain⟨pb,po,OS,rfl,hbp,abx⟩:∃pb po OS,sa1=some ⟨pb,po,none⟩/\H pb=some (.cells OS)/\qd (qm Tryz.prog .bool w H) MU (ct OS po (MU.length*1)) []:=by
    rcases Cw with h|⟨b,off,c,e,hb,hc⟩
    · rw[h]at eR;simp at eR
    · exact⟨b,off,c,e,hb,hc⟩
  have hpk:w.cell? ⟨pb,po+t.toNat,none⟩=some (.bool (jy MU t)):=by
    obtain⟨ty3,fr3,hh3⟩:=hok.cells hbp
    rw[qw hh3]
    refine MC (qmy abx _ _ ?_)
    unfold jy
    rw[List.getElem?_eq_getElem eR]
    rfl
  obtain⟨rb,ro,hHr,hrd⟩:∃rb ro,(rs.length=0\/sa2=some ⟨rb,ro,none⟩/\∃c,H rb=some c)/\∀j i,j<rs.length->i<5->w.cell? ⟨rb,ro+j*5+i,none⟩=some (.int .i64 (zR rs j i)):=by
    rcases bn with h|⟨b,off,c,e,hb,hc⟩
    · exact⟨0,0,.inl (by rw[h];rfl),λj i hj _=>by rw[h]at hj;exact absurd hj (Nat.not_lt_zero _)⟩
    · refine⟨b,off,.inr ⟨e,_,hb⟩,λj i hj hi=>?_⟩
      obtain⟨ty3,fr3,hh3⟩:=hok.cells hb
      rw[qw hh3,Nat.add_assoc]
      exact MC (Uo hc j i hj hi)
  let pk:=jy MU t
  have rj:∀j (hj:j<rs.length),xs=dx pk lo t u 0 (rs.take j)++(kH pk lo t u j rs[j]++dx pk lo t u (j+1) (rs.drop (j+1)))/\(dx pk lo t u 0 (rs.take (j+1))).length=(dx pk lo t u 0 (rs.take j)).length+(kH pk lo t u j rs[j]).length:=by
    intro j hj
    have hl:(rs.take j).length=j:=by rw[List.length_take];omega
    refine⟨?_,?_⟩
    · rw[<-hxs]
      show dx pk lo t u 0 rs=_
      conv=>lhs;rw[<-List.take_append_drop j rs,List.drop_eq_getElem_cons hj]
      rw[qe5,hl,Nat.zero_add]
      rfl
    · rw[List.take_succ_eq_append_getElem hj,qe5,hl,Nat.zero_add,List.length_append]
      simp[dx]
  let wv:Nat->Value:=λk=>match xs[k]? with
    |some y=>nI y.1 y.2.1 y.2.2.1.1 y.2.2.1.2 y.2.2.2.1 y.2.2.2.2
    |none=>.agg #[undef]
  have hz:∀j (hj:j<rs.length),zR rs j 0=rs[j].1/\zR rs j 1=rs[j].2.1/\zR rs j 2=rs[j].2.2.1/\zR rs j 3=rs[j].2.2.2.1/\zR rs j 4=rs[j].2.2.2.2:=by
    intro j hj
    have e:rs[j]? = some rs[j]:=List.getElem?_eq_getElem hj
    refine⟨?_,?_,?_,?_,?_⟩<;>(unfold zR;rw[e])<;>rfl
  have hseq:=SP Ab o Fb fo rb ro pb po rs.length MU.length yF Xg sa2 (zR rs) lo.1 lo.2.1 lo.2.2.1 lo.2.2.2.1 lo.2.2.2.2.1 lo.2.2.2.2.2 pk t u xs.length (λj=>(dx pk lo t u 0 (rs.take j)).length) wv hok ⟨_,hb⟩ ⟨_,cO⟩ hHr ⟨_,hbp⟩ (cA 0 _ rfl) (cA 1 _ rfl) (cA 2 _ rfl) (cA 3 _ rfl) (cA 4 _ rfl) (cA 5 _ rfl) (cA 6 _ rfl) (cA 7 _ rfl) (cF 0 _ rfl) (cF 1 _ rfl) hrd hpk t0 t1 bt bu b4 b5
    (λj i hj=>by
      have hm:=br rs[j] (List.getElem_mem hj)
      have e:rs[j]? = some rs[j]:=List.getElem?_eq_getElem hj
      unfold zR
      rw[e]
      simp only
      split
      · exact hm.1
      · exact hm.2.1
      · exact hm.2.2.1
      · exact hm.2.2.2.1
      · exact hm.2.2.2.2) hn (by simp[dx]) (by simp only[List.take_length];rw[<-hxs])
    (λj hj hno=>by
      obtain⟨z0,z1,z2,z3,z4⟩:=hz j hj
      rw[z0,z1,z3,z4]at hno
      refine(rj j hj).2.trans ?_
      unfold kH
      rw[if_neg hno]
      rfl)
    (λj hj hm hf=>by
      obtain⟨z0,z1,z2,z3,z4⟩:=hz j hj
      rw[z0,z1]at hm
      rw[z3,z4]at hf
      simp only[z0,z1,z2]
      obtain⟨s1,s2⟩:=rj j hj
      rw[s2]
      have hR:kH pk lo t u j rs[j]=(if u+rs[j].2.2.1<=lo.2.2.2.2.1 then[((j:Int),0,(rs[j].1+rs[j].2.1-t,u+rs[j].2.2.1),(rs[j].2.2.1,1))]else[]) ++
          (if pk=true/\0<u/\rs[j].2.2.1<=lo.2.2.2.2.1 then[((j:Int),lo.2.2.2.2.2,(rs[j].1+rs[j].2.1-t,rs[j].2.2.1),(lo.2.2.2.2.2+rs[j].2.2.1,1))]else[]):=by
        unfold kH
        rw[if_pos ⟨hm,hf⟩]
      have cW:∀(q:Nat) (y:Way),(kH pk lo t u j rs[j])[q]? = some y->(dx pk lo t u 0 (rs.take j)).length+q<xs.length/\wv ((dx pk lo t u 0 (rs.take j)).length+q)=nI y.1 y.2.1 y.2.2.1.1 y.2.2.1.2 y.2.2.2.1 y.2.2.2.2:=by
        intro q y hq
        have hx:xs[(dx pk lo t u 0 (rs.take j)).length+q]? = some y:=by
          rw[s1,List.getElem?_append_right (Nat.le_add_right _ _),Nat.add_sub_cancel_left,List.getElem?_append_left (List.getElem?_eq_some_iff.1 hq).1]
          exact hq
        refine⟨(List.getElem?_eq_some_iff.1 hx).1,?_⟩
        simp only[wv,hx]
      refine⟨λh1=>?_,λhp hu h2 k hk=>?_,?_⟩
      · exact cW 0 ((j:Int),0,(rs[j].1+rs[j].2.1-t,u+rs[j].2.2.1),(rs[j].2.2.1,1)) (by rw[hR,if_pos h1];rfl)
      · subst hk
        refine cW _ ((j:Int),lo.2.2.2.2.2,(rs[j].1+rs[j].2.1-t,rs[j].2.2.1),(lo.2.2.2.2.2+rs[j].2.2.1,1)) ?_
        rw[hR,if_pos (⟨hp,hu,h2⟩:pk=true/\0<u/\rs[j].2.2.1<=lo.2.2.2.2.1)]
        by_cases h1:u+rs[j].2.2.1<=lo.2.2.2.2.1
        · rw[if_pos h1,if_pos h1];rfl
        · rw[if_neg h1,if_neg h1];rfl
      · rw[hR,List.length_append,Nat.add_assoc]
        congr 1
        by_cases h1:u+rs[j].2.2.1<=lo.2.2.2.2.1<;>by_cases h2:pk=true/\0<u/\rs[j].2.2.1<=lo.2.2.2.2.1<;>simp only[h1,h2,if_true,if_false]<;>rfl)
  refine⟨λi=>match xs[i]? with
    |some y=>[.int .i64 y.1,.int .i64 y.2.1,.int .i64 y.2.2.1.1,.int .i64 y.2.2.1.2,.int .i64 y.2.2.2.1,.int .i64 y.2.2.2.2]
    |none=>[undef],?_,?_⟩
  · intro i x hi
    have hi':xs[i]? = some x:=hi
    simp only[hi']
    exact Tn _ _ _ _
  · rw[show(λx=>x∈qc [φ,kT])=(λ_=>False) by funext x;simp[qc,hφ,mu]]
    have e:(λk=>#[wv k])=(λi=>rG nU.a (match xs[i]? with
      |some y=>[.int .i64 y.1,.int .i64 y.2.1,.int .i64 y.2.2.1.1,.int .i64 y.2.2.1.2,.int .i64 y.2.2.2.1,.int .i64 y.2.2.2.2]
      |none=>[undef])):=by
      funext k
      show #[wv k] = #[j7 tWy _]
      simp only[wv]
      split<;>rfl
    rw[e]at hseq
    exact hseq
def Nn:zb:=⟨⟨[.v L_,.v GO],[.v (.ptr L_),.v (.ptr GO)],λd=>some ((some d.1,some d.2.1,()),())⟩,79⟩
def JS:List (Nat×Ty):=[(3,.int .i64),(4,.bool),(22,.list false 4 .bool),(23,.list false 102 LZ),(25,tMp),(57,Yu),(97,L_),(102,LZ),(131,GO)]
set_option maxRecDepth 100000
theorem TM:Aa Tryz.prog JS=true:=by kernel_rfl
theorem mixed:Tryz.prog.follows .mixedOrders=true:=by kernel_rfl
def c58:jB:={nt:=6,ty:=JS,fl:=[],b_:=[],loops:=[]}
theorem PC(n:Nat)(d):xg c58 n Tryz.f58 (body Tryz.f58) [.v L_,.v GO] 79 [.v (.ptr L_),.v (.ptr GO)] d=some ((some d.1,some d.2.1,()),()):=by kernel_rfl
theorem d58:qs c58 (body Tryz.f58)=true:=by kernel_rfl
theorem k58:jD Tryz.prog 58/\Hi Tryz.prog 58 Nn:=⟨qX Tryz.func58 rfl (by kernel_rfl),qi5 mixed (qz TM qq rfl (by kernel_rfl)) Tryz.func58 (c:=body Tryz.f58) rfl rfl (xQ (qE (by kernel_rfl))) d58 (by decide) λd y h=>⟨0,(PC 0 d).trans h⟩⟩
end Go.Proofs.Tryz.Wy
