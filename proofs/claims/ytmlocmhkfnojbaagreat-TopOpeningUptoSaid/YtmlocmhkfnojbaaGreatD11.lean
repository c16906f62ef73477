/- The convoy's arrivals, plain. No condition beyond those typed in each theorem. -/
import Derived.Test.YtmlocmhkfnojbaaGreatD10
namespace Go.Proofs.Tryz.V.Cv
open Go.Vi Go.Proofs Go.RowKit
set_option maxRecDepth 100000
theorem BZ{W:Pt->List Way}{out:List (Pt×Pt)}{to:Int}{best:Pt}:∀(m:Nat) {p:Pt} {now:Int} {j r:List sv},jr W out to best m p now j=some r->r.length<=j.length+m
 |0,_,_,_,_,h=>by cases h
 |m+1,p,now,j,r,h=>by
  unfold jr at h
  split at h
  ·cases h;omega
  ·split at h
   ·cases h
   ·have:=BZ m h
    simp only[List.length_append,List.length_cons,List.length_nil]at this
    omega
theorem qmf{a:uT}{out:List (Pt×Pt)}{to:Int}{best:Pt}{r:List sv}(h:rf a out to best=some r):r.length<=401:=by
 have:=BZ 401 h
 simpa using this
theorem aok{m:Map}{x:nG}(hm:TC m)(h5:m.1.length<=5)(h8:m.2.length<=8)(hx:YV m x)(zF:x.2.2.2.2.1<=60):FM (m,x) where
 ov:=⟨hm.1.1,h5⟩
 roads:=h8
 road r hr:=by
  obtain⟨a1,a2,a3,a4,a5,a6⟩:=hm.2.2 r hr
  exact⟨a1.1,a1.2,a2.1,a2.2,a3,a4.1,a4.2,a5.1,a5.2,a6.1,a6.2⟩
 start:=hx.2.2.1
 ready:=hx.2.2.2.1
 Dj:=⟨hx.2.2.2.2.1.1,zF⟩
 rest:=hx.2.2.2.2.2
theorem EW{m:Map}(hm:TC m)(h5:m.1.length<=5)(h8:m.2.length<=8){l:List nG}(hl:l.length<=100)(hx:∀x∈l,YV m x)(zF:∀x∈l,x.2.2.2.2.1<=60)(to:Int):∀(n i k:Nat) (arr:List Int),i<=l.length->l.length<n+i->k<=i->arr.length<=i->
  ∃o,nq n ((to,l,(l.length:Int),(i:Int),()),(m,((some k:Option Nat),arr),()),())=some o/\((∃e:Int,e≠0/\o = .inl ((none,e,()),(),()))\/∃(k':Nat) (mO:List Int),o = .inr ((),(((some k':Option Nat),mO),()),())/\mO.length=arr.length+(l.length-i)/\∀v∈mO,v∈arr\/(0<=v/\v<=2000000))
 |0,i,_,_,h1,h2,_,_=>by omega
 |n+1,i,k,arr,h1,h2,hk,ha=>by
  show ∃o,FK n (nq n) to l (l.length:Int) (i:Int) m (some k,arr)=_/\_
  unfold FK
  by_cases h:i<l.length
  ·rw[decide_eq_true (by omega),cond_true,oC h]
   have hxi:=hx l[i] (List.getElem_mem h)
   have hA:=aok hm h5 h8 hxi (zF l[i] (List.getElem_mem h))
   have step:∀v:Int,0<=v->v<=2000000->∃o,nq n ((to,l,(l.length:Int),((i+1:Nat):Int),()),(m,((some (k+1):Option Nat),arr++[v]),()),())=some o/\((∃e:Int,e≠0/\o = .inl ((none,e,()),(),()))\/∃(k':Nat) (mO:List Int),o = .inr ((),(((some k':Option Nat),mO),()),())/\mO.length=arr.length+(l.length-i)/\∀v∈mO,v∈arr\/(0<=v/\v<=2000000)):=by
    intro v nW uK
    obtain⟨o,e1,e2⟩:=EW hm h5 h8 hl hx zF to n (i+1) (k+1) (arr++[v]) (by omega) (by omega) (by omega) (by simp only[List.length_append,List.length_cons,List.length_nil];omega)
    refine⟨o,e1,e2.imp_right ?_⟩
    rintro⟨k',mO,e3,e4,e5⟩
    refine⟨k',mO,e3,by simp only[List.length_append,List.length_cons,List.length_nil]at e4;omega,λw hw=>?_⟩
    rcases e5 w hw with h6|h6
    ·rcases List.mem_append.1 h6 with h7|h7
     ·exact .inl h7
     ·have:w=v:=by simpa using h7
      subst this
      exact .inr ⟨nW,uK⟩
    ·exact .inr h6
   have Sc:IntKind.wrap .i64 ((i:Int)+1)=((i+1:Nat):Int):=wi (by omega)
   rcases OC hA to with⟨out,best,r,hF,hB,hr,Oi⟩|⟨_,Oi⟩
   ·rw[Oi]
    simp only[dk,Bool.not_true,cond_false]
    have q1:∀{R:Type} (z:Option R),qo ((k:Int)+(([r]:List (List sv)).length:Int)) z=z:=λz=>by rw[jQ,if_pos (by simp only[List.length_cons,List.length_nil];omega)]
    have q2:∀{R:Type} (v:Int) (z:Option R),qo (((((none:Option Nat),arr).2).length:Int)+([v]:List Int).length) z=z:=λv z=>by rw[jQ,if_pos (by simp only[List.length_cons,List.length_nil];omega)]
    have q3:k+([r]:List (List sv)).length=k+1:=rfl
    by_cases hrl:(r.length:Int)>0
    ·rw[decide_eq_true hrl,cond_true]
     have oN:r.length-1<r.length:=by omega
     have hwl:IntKind.wrap .i64 ((r.length:Int)-1)=((r.length-1:Nat):Int):=by
      have:=qmf hr
      rw[wr (by omega) (by omega)];omega
     rw[hwl,oC oN,oC oN]
     have yo:=qk6 hA hr _ (List.getElem_mem oN)
     have KJ:(r[r.length-1]).1.toNat<m.2.length:=by have:=yo.1;have:=yo.2.1;simp only at this;omega
     have fE:∀{R:Type} (z:nN->Option R),qn m.2 (r[r.length-1]).1 z=z m.2[(r[r.length-1]).1.toNat]:=λz=>by
      unfold qn
      rw[if_pos yo.1,List.getElem?_eq_getElem KJ]
     rw[fE]
     have hro:=hm.2.2 _ (List.getElem_mem KJ)
     have hlen:=hro.2.2.2.1
     simp only[Gn,q1,q2,q3,dk,Gh,Gg,Sc]
     rw[wr (by omega) (by omega)]
     exact step _ (by omega) (by omega)
    ·rw[decide_eq_false hrl,cond_false]
     simp only[Gn,q1,q2,q3,dk,Gh,Gg,Sc]
     have:=hxi.2.2.2.1
     exact step _ (by omega) (by omega)
   ·rw[Oi]
    exact⟨_,rfl,.inl ⟨3,by omega,rfl⟩⟩
  ·rw[decide_eq_false (by omega),cond_false]
   exact⟨_,rfl,.inr ⟨k,arr,rfl,by omega,λv hv=>.inl hv⟩⟩
theorem OE{m:Map}(h5:m.1.length<=5)(h8:m.2.length<=8){l:List nG}(hl:l.length<=100)(zF:∀x∈l,¬(x.2.2.2.2.1>60/\x.2.2.2.2.1<=500))(to uR:Int):
  (∃e:Int,e≠0/\g16 (m,l,to,uR,())=some ((none,e,()),()))\/∃(k:Nat) (arr:List Int),g16 (m,l,to,uR,())=some ((some ((some k:Option Nat),arr),0,()),())/\arr.length=l.length/\(∀v∈arr,0<=v/\v<=2000000)/\0<=uR/\uR<=100:=by
 obtain⟨e,he,h0⟩:=OD (m:=m) (by omega) (by omega) (l:=l) (by omega) to
 unfold g16 F16
 simp only
 rw[he]
 simp only[dk]
 by_cases a1:e=0
 ·subst a1
  obtain⟨hm,_,hx,_,_⟩:=h0 rfl
  rw[show((0:Int) !=0)=false from rfl,cond_false,iC]
  simp only[dk]
  by_cases a2:0<=uR/\uR<=100
  ·rw[decide_eq_true a2]
   simp only[Bool.not_true,cond_false]
   obtain⟨o,e1,e2⟩:=EW hm h5 h8 hl hx (λx Nw=>by have:=zF x Nw;have:=(hx x Nw).2.2.2.2.1;omega) to qk 0 0 [] (by omega) (by unfold qk;omega) (by omega) (by simp)
   have Di:nq qk ((to,l,(l.length:Int),0,()),(m,((some 0:Option Nat),([]:List Int)),()),())=some o:=e1
   rw[Di]
   rcases e2 with⟨e,hne,rfl⟩|⟨k',mO,rfl,e4,e5⟩
   ·exact .inl ⟨e,hne,rfl⟩
   ·refine .inr ⟨k',mO,rfl,by simpa using e4,λv hv=>(e5 v hv).resolve_left (by simp),a2⟩
  ·rw[decide_eq_false a2]
   exact .inl ⟨1,by omega,rfl⟩
 ·rw[show(e !=0)=true by simpa using a1,cond_true]
  exact .inl ⟨e,a1,rfl⟩
theorem ES:∀(n N i:Nat) (o:List Int),i<=N->N<n+i->N<=1000000->o=(List.range i).map (λk:Nat=>(k:Int))->nk n (((N:Int),(i:Int),()),(o,()),())=some ((),((List.range N).map (λk:Nat=>(k:Int)),()),())
 |0,_,_,_,h1,h2,_,_=>by omega
 |n+1,N,i,o,h1,h2,h3,ho=>by
  have e0:nk (n+1) (((N:Int),(i:Int),()),(o,()),())=FI n (nk n) (N:Int) (i:Int) o:=rfl
  rw[e0]
  unfold FI
  by_cases h:i<N
  ·have yg:o.length=i:=by rw[ho];simp
   rw[decide_eq_true (by omega),cond_true,jQ,if_pos (by simp only[List.length_cons,List.length_nil];omega),wi (by omega)]
   exact ES n N (i+1) _ (by omega) (by omega) h3 (by rw[ho,List.range_succ,List.map_append];rfl)
  ·rw[decide_eq_false (by omega),cond_false]
   have:i=N:=by omega
   subst this
   rw[ho]
theorem EU{f:(Option Nat)×(List Int)}{uR:Int}(hg:0<=uR/\uR<=100){N:Nat}(hN:N<=1000)(hf:f.2.length=N)(hb:∀v∈f.2,0<=v/\v<=2000000):∀(n i:Nat) (o:List Int),i<=N->N<n+i->o.length=i->(∀v∈o,0<=v/\v<=2000000+100*i)->
  ∃o',nl n ((f,uR,(List.range N).map (λk:Nat=>(k:Int)),(N:Int),(i:Int),()),(o,()),())=some ((),(o',()),())/\o'.length=N/\∀v∈o',0<=v/\v<=3000000
 |0,_,_,h1,h2,_,_=>by omega
 |n+1,i,o,h1,h2,ho,hv=>by
  show ∃o',FJ n (nl n) f uR ((List.range N).map (λk:Nat=>(k:Int))) (N:Int) (i:Int) o=_/\_
  unfold FJ
  by_cases h:i<N
  ·have hlt:i<((List.range N).map (λk:Nat=>(k:Int))).length:=by simpa using h
   rw[decide_eq_true (by omega),cond_true,oC hlt]
   have hi:((List.range N).map (λk:Nat=>(k:Int)))[i]=(i:Int):=by simp
   rw[hi,oC (by omega),wi (by omega)]
   have hfi:=hb f.2[i] (List.getElem_mem (by omega))
   have step:∀v:Int,0<=v->v<=2000000+100*((i+1:Nat):Int)->∃o',nl n ((f,uR,(List.range N).map (λk:Nat=>(k:Int)),(N:Int),((i+1:Nat):Int),()),(o++[v],()),())=some ((),(o',()),())/\o'.length=N/\∀v∈o',0<=v/\v<=3000000:=λv nW uK=>
    EU hg hN hf hb n (i+1) (o++[v]) (by omega) (by omega) (by simp[ho]) (λw hw=>by
     rcases List.mem_append.1 hw with h6|h6
     ·have:=hv w h6
      omega
     ·have:w=v:=by simpa using h6
      subst this
      exact⟨nW,uK⟩)
   by_cases h0:(i:Int)>0
   ·rw[decide_eq_true h0,cond_true]
    have hw:IntKind.wrap .i64 ((i:Int)-1)=((i-1:Nat):Int):=by rw[wr (by omega) (by omega)];omega
    have kE:i-1<o.length:=by omega
    rw[hw,kw (by omega) (by omega),oC kE]
    have hop:=hv _ (List.getElem_mem kE)
    rw[wr (by omega) (by omega),jQ,if_pos (by simp only[List.length_cons,List.length_nil];omega)]
    exact step _ (by omega) (by omega)
   ·rw[decide_eq_false h0,cond_false,jQ,if_pos (by simp only[List.length_cons,List.length_nil];omega)]
    exact step _ (by omega) (by omega)
  ·rw[decide_eq_false (by omega),cond_false]
   exact⟨o,rfl,by omega,λv hw=>by have:=hv v hw;omega⟩
theorem WE{m:Map}(h5:m.1.length<=5)(h8:m.2.length<=8){l:List nG}(hl:l.length<=100)(zF:∀x∈l,¬(x.2.2.2.2.1>60/\x.2.2.2.2.1<=500))(to uR:Int):
  ∃(o:List Int) (e:Int),g7 (m,l,to,uR,())=some ((o,e,()),())/\(e=0->o.length=l.length/\∀v∈o,0<=v/\v<=3000000):=by
 unfold g7 F7
 simp only
 rcases OE h5 h8 hl zF to uR with⟨e,hne,h⟩|⟨k,arr,h,ha,hb,hg⟩
 ·rw[h]
  simp only[dk]
  rw[show(e !=0)=true by simpa using hne,cond_true]
  exact⟨[],e,rfl,λh=>absurd h hne⟩
 ·rw[h]
  simp only[dk]
  rw[show((0:Int) !=0)=false from rfl,cond_false]
  unfold g18 F18 g17 F17
  simp only
  have e1:nk qk (((l.length:Int),0,()),(([]:List Int),()),())=_:=ES qk l.length 0 [] (by omega) (by unfold qk;omega) (by omega) rfl
  rw[e1]
  simp only[dk]
  obtain⟨o,e2,e3,e4⟩:=EU (f:=(some k,arr)) hg (N:=l.length) (by omega) ha hb qk 0 [] (by omega) (by unfold qk;omega) rfl (λv hv=>by cases hv)
  have hlr:((List.range l.length).map (λk:Nat=>(k:Int))).length=l.length:=by simp
  have vF:nl qk (((some k,arr),uR,(List.range l.length).map (λk:Nat=>(k:Int)),(((List.range l.length).map (λk:Nat=>(k:Int))).length:Int),0,()),(([]:List Int),()),())=some ((),(o,()),()):=by rw[hlr];exact e2
  rw[vF]
  exact⟨o,0,rfl,λ_=>⟨e3,e4⟩⟩
end Go.Proofs.Tryz.V.Cv
