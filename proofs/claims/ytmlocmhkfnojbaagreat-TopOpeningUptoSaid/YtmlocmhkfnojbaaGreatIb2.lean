/- The contract of the log's own iterator, and of the function that makes it. No condition beyond those typed in each theorem. -/
import Derived.Test.YtmlocmhkfnojbaaGreatIb1
namespace Go.Proofs.Tryz.Ib
open Go.RowKit Go.Shelf Go.Proofs Go.Vi
def tE:Ty:=.str (.pair (.int .i64) (.pair (.int .i64) (.pair (.int .i64) (.pair (.int .i64) (.int .i64)))))
def tR:Ty:=.str (.pair (.int .i64) (.pair (.int .i64) (.pair (.int .i64) .bool)))
def va:Ty:=.str (.pair (.str (.pair (.list false 145 tR) (.pair (.list false 3 (.int .i64)) (.list false 3 (.int .i64))))) (.list false 49 tE))
def yb:Iter:=⟨[.r va],tE,λd=>qo (d.1.2.length:Int) (some (d.1.2.reverse:List tE.den))⟩
def zE(l:List tE.den)(j q:Nat):Int:=match l[j]? with
  |none=>0
  |some x=>match q with
    |0=>x.1
    |1=>x.2.1
    |2=>x.2.2.1
    |3=>x.2.2.2.1
    |_=>x.2.2.2.2
theorem JT{P:Program}{w:World}{H:FH}{x:tE.den}{cs:List Value}{fp:List Nat}:qm P tE w H x cs fp↔cs=[.int .i64 x.1,.int .i64 x.2.1,.int .i64 x.2.2.1,.int .i64 x.2.2.2.1,.int .i64 x.2.2.2.2]/\fp=[]:=by
  constructor
  · rintro⟨_,_,_,_,rfl,rfl,⟨rfl,rfl⟩,_,_,_,_,rfl,rfl,⟨rfl,rfl⟩,_,_,_,_,rfl,rfl,⟨rfl,rfl⟩,_,_,_,_,rfl,rfl,⟨rfl,rfl⟩,⟨rfl,rfl⟩⟩
    exact⟨rfl,rfl⟩
  · rintro⟨rfl,rfl⟩
    exact⟨[_],_,[],[],rfl,rfl,⟨rfl,rfl⟩,[_],_,[],[],rfl,rfl,⟨rfl,rfl⟩,[_],_,[],[],rfl,rfl,⟨rfl,rfl⟩,[_],_,[],[],rfl,rfl,⟨rfl,rfl⟩,⟨rfl,rfl⟩⟩
theorem MC{c:Array Value}{o n i:Nat}{v:Value}(h:(ct c o n)[i]? = some v):c[o+i]? = some v:=by
  unfold ct at h
  rw[List.getElem?_take]at h
  split at h
  · rw[List.getElem?_drop]at h
    simpa using h
  · cases h
theorem Mc{α:Type}(l:List α)(i:Nat)(x:α)(h:l.reverse[i]? = some x):i<l.length/\l[l.length-1-i]? = some x:=by
  have hi:i<l.length:=by
    have:=(List.getElem?_eq_some_iff.1 h).1
    rwa[List.length_reverse]at this
  rw[List.getElem?_reverse hi]at h
  exact⟨hi,h⟩
theorem SF{l:List tE.den}{j:Nat}{x:tE.den}(h:l[j]? = some x):([.int .i64 (zE l j 0),.int .i64 (zE l j 1),.int .i64 (zE l j 2),.int .i64 (zE l j 3),.int .i64 (zE l j 4)]:List Value)=[.int .i64 x.1,.int .i64 x.2.1,.int .i64 x.2.2.1,.int .i64 x.2.2.2.1,.int .i64 x.2.2.2.2]:=by
  unfold zE
  rw[h]
  rfl
theorem Uo{P:Program}{w:World}{H:FH}:∀{l:List tE.den} {xs fp},qd (qm P tE w H) l xs fp->∀j i,j<l.length->i<5->xs[j*5+i]? = some (.int .i64 (zE l j i))
  |[],_,_,_,j,_,h,_=>absurd h (by simp)
  |x::l,xs,fp,⟨c,xs',f,aC,e1,_,h1,h2⟩,j,i,hj,hi=>by
    obtain⟨rfl,_⟩:=JT.1 h1
    subst e1
    cases j with
    |zero=>
      match i,hi with
      |0,_=>rfl
      |1,_=>rfl
      |2,_=>rfl
      |3,_=>rfl
      |4,_=>rfl
    |succ j=>
      have:=Uo h2 j i (by simpa using hj) hi
      rw[List.getElem?_append_right (by simp;omega)]
      simp only[List.length_cons,List.length_nil]
      rw[show(j+1)*5+i-(0+1+1+1+1+1)=j*5+i by omega,this]
      rfl
set_option maxRecDepth 100000 in
theorem wK:Mo Tryz.prog 90 yb:=by
  refine⟨qX Tryz.func90 rfl (by kernel_rfl),rfl,?_⟩
  rintro⟨⟨bk,l⟩,⟨⟩⟩ xs hg w H vs ai hok ⟨v,vs',φ,ag,rfl,rfl,_,hφ,⟨Lb,o,blk,rfl,hb,an⟩,rfl,rfl⟩ _ _
  change List tE.den at l
  have hg:qo (l.length:Int) (some (l.reverse:List tE.den))=some xs:=hg
  rw[jQ]at hg
  split at hg
  case isFalse=>cases hg
  rename_i hlen
  obtain rfl:l.reverse=xs:=Option.some.inj hg
  obtain⟨c1,c2,f1,f2,hc,hf,⟨c3,c4,f3,f4,rfl,rfl,⟨_,a3,n3,rfl,_⟩,⟨c5,c6,f5,f6,rfl,rfl,⟨_,a5,n5,rfl,_⟩,⟨_,a6,n6,rfl,_⟩⟩⟩,⟨_,sa,cap,rfl,hcap,hl⟩⟩:=an
  obtain⟨t,f,hh⟩:=hok.cells hb
  have hLl:=(Array.getElem?_eq_some_iff.1 hh).1
  have hL:w.cell? ⟨Lb,o+3,none⟩=some (.slice sa l.length cap):=by
    rw[qw hh]
    refine MC (i:=3) (n:=4) ?_
    show(ct blk o va.size)[3]? = _
    rw[hc]
    rfl
  have vx:l.length=0\/∃b off c,sa=some ⟨b,off,none⟩/\H b=some c/\∀j i,j<l.length->i<5->w.cell? ⟨b,off+j*5+i,none⟩=some (.int .i64 (zE l j i)):=by
    rcases hl with rfl|⟨b,off,c,e,zC,hch⟩
    · exact .inl rfl
    · refine .inr ⟨b,off,.cells c,e,zC,λj i hj hi=>?_⟩
      obtain⟨t,f,hh⟩:=hok.cells zC
      rw[qw hh,Nat.add_assoc]
      exact MC (Uo hch j i hj hi)
  refine⟨λi=>[.int .i64 (zE l (l.length-1-i) 0),.int .i64 (zE l (l.length-1-i) 1),.int .i64 (zE l (l.length-1-i) 2),.int .i64 (zE l (l.length-1-i) 3),.int .i64 (zE l (l.length-1-i) 4)],?_,?_⟩
  · intro i x hi
    obtain⟨_,h2⟩:=Mc (l:List tE.den) i x hi
    exact JT.2 ⟨SF h2,rfl⟩
  · have:=acd Lb o l.length sa cap (zE l) (by omega) hok hLl hL vx
    have e:List.length (α:=yb.a.den) (List.reverse (α:=tE.den) l)=List.length l:=List.length_reverse
    rw[e,show(λx=>x∈qc [φ])=(λ_=>False) by funext x;simp[qc,hφ]]
    exact this
def Vb:zb:=⟨⟨[.v va],[.v (.ptr va)],λd=>some ((some d.1,()),())⟩,90⟩
def JS:List (Nat×Ty):=[(3,.int .i64),(49,tE),(145,tR),(83,va)]
set_option maxRecDepth 100000
theorem TM:Aa Tryz.prog JS=true:=by kernel_rfl
theorem mixed:Tryz.prog.follows .mixedOrders=true:=by kernel_rfl
def c68:jB:=⟨4,JS,[],[],[],[],[],[],[],[],[],[],[],[],none,[],[],[],none,none,[]⟩
theorem Ps(n:Nat)(d):xg c68 n Tryz.f68 (body Tryz.f68) [.v va] 90 [.v (.ptr va)] d=some ((some d.1,()),()):=by kernel_rfl
theorem d68:qs c68 (body Tryz.f68)=true:=by kernel_rfl
theorem k68:jD Tryz.prog 68/\Hi Tryz.prog 68 Vb:=⟨qX Tryz.func68 rfl (by kernel_rfl),qi5 mixed (qz TM qq rfl (by kernel_rfl)) Tryz.func68 (c:=body Tryz.f68) rfl rfl (xQ (qE (by kernel_rfl))) d68 (by decide) λd y h=>⟨0,(Ps 0 d).trans h⟩⟩
end Go.Proofs.Tryz.Ib
