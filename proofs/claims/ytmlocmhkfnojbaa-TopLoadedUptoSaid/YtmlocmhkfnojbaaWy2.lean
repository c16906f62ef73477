/- The contract of convoy's ways, and of the function that makes them. No condition beyond those typed in each theorem. -/
import Derived.Test.YtmlocmhkfnojbaaWy
import Derived.DeepKeys4
import Derived.Maps.Keyed
namespace Go.Proofs.Try.Wy
open Go.RowKit Go.Shelf Go.Proofs Go.Vi
abbrev qb6:=Int×Int×Int×Int×Int
abbrev Lor:=Int×Int×Int×Int×Int×Int
abbrev Atl:=(List Bool×List qb6)×Lor
abbrev Way:=Int×Int×(Int×Int)×(Int×Int)
def tRd:Ty:=.str (.pair (.int .i64) (.pair (.int .i64) (.pair (.int .i64) (.pair (.int .i64) (.int .i64)))))
def tLo:Ty:=.str (.pair (.int .i64) (.pair (.int .i64) (.pair (.int .i64) (.pair (.int .i64) (.pair (.int .i64) (.int .i64))))))
def tMp:Ty:=.str (.pair (.list false 4 .bool) (.list false 114 tRd))
def tAt:Ty:=.str (.pair tMp tLo)
def tPl:Ty:=.str (.pair (.int .i64) (.int .i64))
def tWy:Ty:=.str (.pair (.int .i64) (.pair (.int .i64) (.pair tPl tPl)))
def wayR(pk:Bool)(lo:Lor)(t u:Int)(j:Nat)(r:qb6):List Way:=
  if(r.1=t\/r.2.1=t)/\lo.1<=r.2.2.2.1/\lo.2.1<=r.2.2.2.2 then
    (if u+r.2.2.1<=lo.2.2.2.2.1 then[((j:Int),0,(r.1+r.2.1-t,u+r.2.2.1),(r.2.2.1,1))]else[]) ++
    (if pk=true/\0<u/\r.2.2.1<=lo.2.2.2.2.1 then[((j:Int),lo.2.2.2.2.2,(r.1+r.2.1-t,r.2.2.1),(lo.2.2.2.2.2+r.2.2.1,1))]else[])
  else[]
def wayL(pk:Bool)(lo:Lor)(t u:Int):Nat->List qb6->List Way
  |_,[]=>[]
  |j,r::rs=>wayR pk lo t u j r++wayL pk lo t u (j+1) rs
theorem qex(pk:Bool)(lo:Lor)(t u:Int):∀(j:Nat) (l1 l2:List qb6),wayL pk lo t u j (l1++l2)=wayL pk lo t u j l1++wayL pk lo t u (j+l1.length) l2
  |j,[],l2=>rfl
  |j,r::l1,l2=>by
    simp only[List.cons_append,wayL,qex pk lo t u (j+1) l1 l2,List.append_assoc,List.length_cons]
    rw[show j+1+l1.length=j+(l1.length+1) by omega]
def pkOf(pk:List Bool)(t:Int):Bool:=pk[t.toNat]?.getD false
def okW(a:Atl)(p:Int×Int):Prop:=0<=p.1/\p.1<a.1.1.length/\bdd p.1/\bdd p.2/\bdd a.2.2.2.2.2.1/\bdd a.2.2.2.2.2.2/\(∀r∈a.1.2,bdd r.1/\bdd r.2.1/\bdd r.2.2.1/\bdd r.2.2.2.1/\bdd r.2.2.2.2)/\a.1.2.length<=1000000000
noncomputable def it59:Iter:=⟨[.r tAt,.r tPl],tWy,λ(d:Atl×(Int×Int)×Unit)=>open Classical in if okW d.1 d.2.1 then some (wayL (pkOf d.1.1.1 d.2.1.1) d.1.2 d.2.1.1 d.2.1.2 0 d.1.1.2:List Way)else none⟩
def zR(l:List qb6)(j q:Nat):Int:=match l[j]? with
  |none=>0
  |some x=>match q with
    |0=>x.1
    |1=>x.2.1
    |2=>x.2.2.1
    |3=>x.2.2.2.1
    |_=>x.2.2.2.2
theorem rep_R{P:Program}{w:World}{H:FH}{x:tRd.den}{cs:List Value}{fp:List Nat}(h:qm P tRd w H x cs fp):cs=[.int .i64 x.1,.int .i64 x.2.1,.int .i64 x.2.2.1,.int .i64 x.2.2.2.1,.int .i64 x.2.2.2.2]/\fp=[]:=by
  obtain⟨_,_,_,_,rfl,rfl,⟨rfl,rfl⟩,_,_,_,_,rfl,rfl,⟨rfl,rfl⟩,_,_,_,_,rfl,rfl,⟨rfl,rfl⟩,_,_,_,_,rfl,rfl,⟨rfl,rfl⟩,⟨rfl,rfl⟩⟩:=h
  exact⟨rfl,rfl⟩
theorem rep_L{P:Program}{w:World}{H:FH}{x:tLo.den}{cs:List Value}{fp:List Nat}(h:qm P tLo w H x cs fp):cs=[.int .i64 x.1,.int .i64 x.2.1,.int .i64 x.2.2.1,.int .i64 x.2.2.2.1,.int .i64 x.2.2.2.2.1,.int .i64 x.2.2.2.2.2]/\fp=[]:=by
  obtain⟨_,_,_,_,rfl,rfl,⟨rfl,rfl⟩,_,_,_,_,rfl,rfl,⟨rfl,rfl⟩,_,_,_,_,rfl,rfl,⟨rfl,rfl⟩,_,_,_,_,rfl,rfl,⟨rfl,rfl⟩,_,_,_,_,rfl,rfl,⟨rfl,rfl⟩,⟨rfl,rfl⟩⟩:=h
  exact⟨rfl,rfl⟩
theorem rep_W(P:Program)(w:World)(H:FH)(x:Way):qm P tWy w H x [.int .i64 x.1,.int .i64 x.2.1,.int .i64 x.2.2.1.1,.int .i64 x.2.2.1.2,.int .i64 x.2.2.2.1,.int .i64 x.2.2.2.2] []:=
  ⟨[_],_,[],[],rfl,rfl,⟨rfl,rfl⟩,[_],_,[],[],rfl,rfl,⟨rfl,rfl⟩,[_,_],[_,_],[],[],rfl,rfl,⟨[_],[_],[],[],rfl,rfl,⟨rfl,rfl⟩,⟨rfl,rfl⟩⟩,⟨[_],[_],[],[],rfl,rfl,⟨rfl,rfl⟩,⟨rfl,rfl⟩⟩⟩
theorem qhH{c:Array Value}{o n i:Nat}{v:Value}(h:(seg c o n)[i]? = some v):c[o+i]? = some v:=by
  unfold seg at h
  rw[List.getElem?_take]at h
  split at h
  · rw[List.getElem?_drop]at h
    simpa using h
  · cases h
theorem qjW{P:Program}{w:World}{H:FH}:∀{l:List tRd.den} {xs fp},qe (qm P tRd w H) l xs fp->∀j i,j<l.length->i<5->xs[j*5+i]? = some (.int .i64 (zR l j i))
  |[],_,_,_,j,_,h,_=>absurd h (by simp)
  |x::l,xs,fp,⟨c,xs',f,fp',e1,_,h1,h2⟩,j,i,hj,hi=>by
    obtain⟨rfl,_⟩:=rep_R h1
    subst e1
    cases j with
    |zero=>
      match i,hi with
      |0,_=>rfl
      |1,_=>rfl
      |2,_=>rfl
      |3,_=>rfl
      |4,_=>rfl
    |succ j=>
      have:=qjW h2 j i (by simpa using hj) hi
      rw[List.getElem?_append_right (by simp;omega)]
      simp only[List.length_cons,List.length_nil]
      rw[show(j+1)*5+i-(0+1+1+1+1+1)=j*5+i by omega,this]
      rfl
theorem ql0{P:Program}{w:World}{H:FH}:∀{l:List Bool} {xs fp},qe (qm P .bool w H) l xs fp->∀(j:Nat) (b:Bool),l[j]? = some b->xs[j]? = some (.bool b)
  |[],_,_,_,j,b,h=>by simp at h
  |x::l,xs,fp,⟨c,xs',f,fp',e1,_,⟨h1,_⟩,h2⟩,j,b,hj=>by
    subst h1 e1
    cases j with
    |zero=>cases hj;rfl
    |succ j=>exact ql0 h2 j b (by simpa using hj)
set_option maxRecDepth 100000 in
theorem it59_ok:qg9 Try.prog 59 it59:=by
  refine⟨qY Try.func59 rfl (by kernel_rfl),rfl,?_⟩
  rintro⟨a,p,⟨⟩⟩ xs hg w H vs Φs hok ⟨v,vs',φ,Φs',rfl,rfl,_,hφ,⟨Ab,o,blk,rfl,hb,hrep⟩,⟨v2,vs2,φ2,Φs2,rfl,rfl,_,hφ2,⟨Fb,fo,blk2,rfl,hb2,hrep2⟩,rfl,rfl⟩⟩ _ _
  change Atl at a
  change Int×Int at p
  change List Way at xs
  have hg:(open Classical in if okW a p then some (wayL (pkOf a.1.1 p.1) a.2 p.1 p.2 0 a.1.2:List Way)else none)=some xs:=hg
  split at hg
  case isFalse=>cases hg
  rename_i hw
  obtain⟨⟨pkl,rs⟩,lo⟩:=a
  obtain⟨t,u⟩:=p
  obtain⟨t0,t1,bt,bu,b4,b5,br,hn⟩:=hw
  simp only at t0 t1 bt bu b4 b5 br hn hg
  have hxs:=Option.some.inj hg
  obtain⟨c1,c2,f1,f2,e1,e2,⟨p1,p2,g1,g2,rfl,rfl,⟨_,sa1,cap1,rfl,hcap1,hl1⟩,⟨_,sa2,cap2,rfl,hcap2,hl2⟩⟩,hlor⟩:=hrep
  obtain⟨rfl,_⟩:=rep_L hlor
  obtain⟨q1,q2,k1,k2,e3,e4,⟨rfl,rfl⟩,⟨rfl,rfl⟩⟩:=hrep2
  simp only at hcap1 hl1 hcap2 hl2 e1 e3
  have hbk:=hok.cells hb
  have hbk2:=hok.cells hb2
  obtain⟨ty1,fr1,hh1⟩:=hbk
  obtain⟨ty2,fr2,hh2⟩:=hbk2
  have cA:∀(i:Nat) (v:Value),([.slice sa1 pkl.length cap1,.slice sa2 rs.length cap2,.int .i64 lo.1,.int .i64 lo.2.1,.int .i64 lo.2.2.1,.int .i64 lo.2.2.2.1,.int .i64 lo.2.2.2.2.1,.int .i64 lo.2.2.2.2.2]:List Value)[i]? = some v->w.cell? ⟨Ab,o+i,none⟩=some v:=by
    intro i v hv
    rw[qy hh1]
    refine qhH (n:=tAt.size) ?_
    rw[e1]
    exact hv
  have cF:∀(i:Nat) (v:Value),([.int .i64 t,.int .i64 u]:List Value)[i]? = some v->w.cell? ⟨Fb,fo+i,none⟩=some v:=by
    intro i v hv
    rw[qy hh2]
    refine qhH (n:=tPl.size) ?_
    rw[e3]
    exact hv
  have hpl:t.toNat<pkl.length:=by omega
  obtain⟨pb,po,blkp,rfl,hbp,hchp⟩:∃pb po blkp,sa1=some ⟨pb,po,none⟩/\H pb=some (.cells blkp)/\qe (qm Try.prog .bool w H) pkl (seg blkp po (pkl.length*1)) []:=by
    rcases hl1 with h|⟨b,off,c,e,hb,hc⟩
    · rw[h]at hpl;simp at hpl
    · exact⟨b,off,c,e,hb,hc⟩
  have hpk:w.cell? ⟨pb,po+t.toNat,none⟩=some (.bool (pkOf pkl t)):=by
    obtain⟨ty3,fr3,hh3⟩:=hok.cells hbp
    rw[qy hh3]
    refine qhH (ql0 hchp _ _ ?_)
    unfold pkOf
    rw[List.getElem?_eq_getElem hpl]
    rfl
  obtain⟨rb,ro,hHr,hrd⟩:∃rb ro,(rs.length=0\/sa2=some ⟨rb,ro,none⟩/\∃c,H rb=some c)/\∀j i,j<rs.length->i<5->w.cell? ⟨rb,ro+j*5+i,none⟩=some (.int .i64 (zR rs j i)):=by
    rcases hl2 with h|⟨b,off,c,e,hb,hc⟩
    · exact⟨0,0,.inl (by rw[h];rfl),λj i hj _=>by rw[h]at hj;exact absurd hj (Nat.not_lt_zero _)⟩
    · refine⟨b,off,.inr ⟨e,_,hb⟩,λj i hj hi=>?_⟩
      obtain⟨ty3,fr3,hh3⟩:=hok.cells hb
      rw[qy hh3,Nat.add_assoc]
      exact qhH (qjW hc j i hj hi)
  let pk:=pkOf pkl t
  have hsplit:∀j (hj:j<rs.length),xs=wayL pk lo t u 0 (rs.take j)++(wayR pk lo t u j rs[j]++wayL pk lo t u (j+1) (rs.drop (j+1)))/\(wayL pk lo t u 0 (rs.take (j+1))).length=(wayL pk lo t u 0 (rs.take j)).length+(wayR pk lo t u j rs[j]).length:=by
    intro j hj
    have hl:(rs.take j).length=j:=by rw[List.length_take];omega
    refine⟨?_,?_⟩
    · rw[<-hxs]
      show wayL pk lo t u 0 rs=_
      conv=>lhs;rw[<-List.take_append_drop j rs,List.drop_eq_getElem_cons hj]
      rw[qex,hl,Nat.zero_add]
      rfl
    · rw[List.take_succ_eq_append_getElem hj,qex,hl,Nat.zero_add,List.length_append]
      simp[wayL]
  let wv:Nat->Value:=λk=>match xs[k]? with
    |some y=>wayV y.1 y.2.1 y.2.2.1.1 y.2.2.1.2 y.2.2.2.1 y.2.2.2.2
    |none=>.agg #[undef]
  have hz:∀j (hj:j<rs.length),zR rs j 0=rs[j].1/\zR rs j 1=rs[j].2.1/\zR rs j 2=rs[j].2.2.1/\zR rs j 3=rs[j].2.2.2.1/\zR rs j 4=rs[j].2.2.2.2:=by
    intro j hj
    have e:rs[j]? = some rs[j]:=List.getElem?_eq_getElem hj
    refine⟨?_,?_,?_,?_,?_⟩<;>(unfold zR;rw[e])<;>rfl
  have hseq:=ways1 Ab o Fb fo rb ro pb po rs.length pkl.length cap2 cap1 sa2 (zR rs) lo.1 lo.2.1 lo.2.2.1 lo.2.2.2.1 lo.2.2.2.2.1 lo.2.2.2.2.2 pk t u xs.length (λj=>(wayL pk lo t u 0 (rs.take j)).length) wv hok ⟨_,hb⟩ ⟨_,hb2⟩ hHr ⟨_,hbp⟩ (cA 0 _ rfl) (cA 1 _ rfl) (cA 2 _ rfl) (cA 3 _ rfl) (cA 4 _ rfl) (cA 5 _ rfl) (cA 6 _ rfl) (cA 7 _ rfl) (cF 0 _ rfl) (cF 1 _ rfl) hrd hpk t0 t1 bt bu b4 b5
    (λj i hj=>by
      have hm:=br rs[j] (List.getElem_mem hj)
      have e:rs[j]? = some rs[j]:=List.getElem?_eq_getElem hj
      unfold zR
      rw[e]
      simp only
      split
      · exact hm.1
      · exact hm.2.1
      · exact hm.2.2.1
      · exact hm.2.2.2.1
      · exact hm.2.2.2.2) hn (by simp[wayL]) (by simp only[List.take_length];rw[<-hxs])
    (λj hj hno=>by
      obtain⟨z0,z1,z2,z3,z4⟩:=hz j hj
      rw[z0,z1,z3,z4]at hno
      refine(hsplit j hj).2.trans ?_
      unfold wayR
      rw[if_neg hno]
      rfl)
    (λj hj hm hf=>by
      obtain⟨z0,z1,z2,z3,z4⟩:=hz j hj
      rw[z0,z1]at hm
      rw[z3,z4]at hf
      simp only[z0,z1,z2]
      obtain⟨s1,s2⟩:=hsplit j hj
      rw[s2]
      have hR:wayR pk lo t u j rs[j]=(if u+rs[j].2.2.1<=lo.2.2.2.2.1 then[((j:Int),0,(rs[j].1+rs[j].2.1-t,u+rs[j].2.2.1),(rs[j].2.2.1,1))]else[]) ++
          (if pk=true/\0<u/\rs[j].2.2.1<=lo.2.2.2.2.1 then[((j:Int),lo.2.2.2.2.2,(rs[j].1+rs[j].2.1-t,rs[j].2.2.1),(lo.2.2.2.2.2+rs[j].2.2.1,1))]else[]):=by
        unfold wayR
        rw[if_pos ⟨hm,hf⟩]
      have hget:∀(q:Nat) (y:Way),(wayR pk lo t u j rs[j])[q]? = some y->(wayL pk lo t u 0 (rs.take j)).length+q<xs.length/\wv ((wayL pk lo t u 0 (rs.take j)).length+q)=wayV y.1 y.2.1 y.2.2.1.1 y.2.2.1.2 y.2.2.2.1 y.2.2.2.2:=by
        intro q y hq
        have hx:xs[(wayL pk lo t u 0 (rs.take j)).length+q]? = some y:=by
          rw[s1,List.getElem?_append_right (Nat.le_add_right _ _),Nat.add_sub_cancel_left,List.getElem?_append_left (List.getElem?_eq_some_iff.1 hq).1]
          exact hq
        refine⟨(List.getElem?_eq_some_iff.1 hx).1,?_⟩
        simp only[wv,hx]
      refine⟨λh1=>?_,λhp hu h2 k hk=>?_,?_⟩
      · exact hget 0 ((j:Int),0,(rs[j].1+rs[j].2.1-t,u+rs[j].2.2.1),(rs[j].2.2.1,1)) (by rw[hR,if_pos h1];rfl)
      · subst hk
        refine hget _ ((j:Int),lo.2.2.2.2.2,(rs[j].1+rs[j].2.1-t,rs[j].2.2.1),(lo.2.2.2.2.2+rs[j].2.2.1,1)) ?_
        rw[hR,if_pos (⟨hp,hu,h2⟩:pk=true/\0<u/\rs[j].2.2.1<=lo.2.2.2.2.1)]
        by_cases h1:u+rs[j].2.2.1<=lo.2.2.2.2.1
        · rw[if_pos h1,if_pos h1];rfl
        · rw[if_neg h1,if_neg h1];rfl
      · rw[hR,List.length_append,Nat.add_assoc]
        congr 1
        by_cases h1:u+rs[j].2.2.1<=lo.2.2.2.2.1<;>by_cases h2:pk=true/\0<u/\rs[j].2.2.1<=lo.2.2.2.2.1<;>simp only[h1,h2,if_true,if_false]<;>rfl)
  refine⟨λi=>match xs[i]? with
    |some y=>[.int .i64 y.1,.int .i64 y.2.1,.int .i64 y.2.2.1.1,.int .i64 y.2.2.1.2,.int .i64 y.2.2.2.1,.int .i64 y.2.2.2.2]
    |none=>[undef],?_,?_⟩
  · intro i x hi
    have hi':xs[i]? = some x:=hi
    simp only[hi']
    exact rep_W _ _ _ _
  · rw[show(λx=>x∈qd [φ,φ2])=(λ_=>False) by funext x;simp[qd,hφ,hφ2]]
    have e:(λk=>#[wv k])=(λi=>encE it59.a (match xs[i]? with
      |some y=>[.int .i64 y.1,.int .i64 y.2.1,.int .i64 y.2.2.1.1,.int .i64 y.2.2.1.2,.int .i64 y.2.2.2.1,.int .i64 y.2.2.2.2]
      |none=>[undef])):=by
      funext k
      show #[wv k] = #[jZ tWy _]
      simp only[wv]
      split<;>rfl
    rw[e]at hseq
    exact hseq
def m42:qeV:=⟨⟨[.v tAt,.v tPl],[.v (.ptr tAt),.v (.ptr tPl)],λd=>some ((some d.1,some d.2.1,()),())⟩,59⟩
def tyM:List (Nat×Ty):=[(3,.int .i64),(4,.bool),(22,.list false 4 .bool),(23,.list false 114 tRd),(25,tMp),(27,tLo),(77,tAt),(114,tRd),(102,tPl)]
set_option maxRecDepth 100000
theorem qmd:tysB Try.prog tyM=true:=by kernel_rfl
theorem mixed:Try.prog.follows .mixedOrders=true:=by kernel_rfl
def c42:jG:={nt:=6,ty:=tyM,site:=[],prims:=[],loops:=[]}
theorem F42_eq(n:Nat)(d):absMk c42 n Try.f42 (body Try.f42) [.v tAt,.v tPl] 59 [.v (.ptr tAt),.v (.ptr tPl)] d=some ((some d.1,some d.2.1,()),()):=by kernel_rfl
theorem d42:qD c42 (body Try.f42)=true:=by kernel_rfl
theorem k42:qW Try.prog 42/\qeU Try.prog 42 m42:=⟨qY Try.func42 rfl (by kernel_rfl),qlu mixed (qL qmd qC rfl (by kernel_rfl)) Try.func42 (c:=body Try.f42) rfl rfl (qbh (qT (by kernel_rfl))) d42 (by decide) λd y h=>⟨0,(F42_eq 0 d).trans h⟩⟩
end Go.Proofs.Try.Wy
