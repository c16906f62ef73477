/- The law of the opening. No condition beyond those typed in the theorem. -/
import Derived.Test.YtmlocmhkfnojbaaGreatD13
namespace Go.Proofs.Tryz.V.Cv
open Go.Vi Go.Proofs Go.RowKit
set_option maxRecDepth 100000
theorem BU(m:Map)(l:List nG)(o:Kl)(oK:∀k∈o.1,kn.Small k):g3 (m,l,o,())=some ((true,()),()):=by
 unfold g3 F3
 simp only
 have OT:∀{R:Type} (k:(Bool×Unit)×Unit->Option R),qa (g5 ()) k=k ((true,()),()):=λk=>by rw[qln];rfl
 rcases WK m l with h4|⟨h4,h5,h8,_,zF⟩
 ·rw[h4]
  simp only[dk,cond_true,OT]
 rw[h4]
 simp only[dk,cond_false]
 by_cases a1:(l.length:Int)>6
 ·rw[decide_eq_true a1,cond_true,OT]
 rw[decide_eq_false a1,cond_false]
 by_cases a2:(o.1.length:Int)=l.length
 rotate_left
 ·rw[show((o.1.length:Int) !=(l.length:Int))=true by simpa using a2,cond_true,OT]
 rw[show((o.1.length:Int) !=(l.length:Int))=false by simp[a2],cond_false]
 by_cases a3:o.2.2.2.2>1073741824
 ·rw[decide_eq_true a3,cond_true,OT]
 rw[decide_eq_false a3,cond_false]
 by_cases a4:o.2.2.2.2 < -1073741824
 ·rw[decide_eq_true a4,cond_true,OT]
 rw[decide_eq_false a4,cond_false]
 have yg:o.1.length<=6:=by omega
 have hs4:=EL (l:=l) (m:=m) (o:=o) oK (by omega) qk 0 (by omega) (by unfold qk;omega)
 rcases hs4 with e4|⟨e4,hv⟩
 ·have e4':rN qk ((l,m,o,0,()),(),())=_:=e4
  rw[e4']
  rfl
 have e4':rN qk ((l,m,o,0,()),(),())=_:=e4
 rw[e4']
 have hv:∀k∈o.1,kn.valid k=true:=λk hk=>by
  obtain⟨j,hj,rfl⟩:=List.getElem_of_mem hk
  exact hv j hj (Nat.zero_le _)
 simp only[dk,fD,Gn]
 have q1:∀{R:Type} (z:Option R),qo ((([]:List nG).length:Int)+l.length) z=z:=λz=>by rw[jQ,if_pos (by simp only[List.length_nil];omega)]
 obtain⟨arr,e,e7,CM⟩:=WE h5 h8 (l:=l) (by omega) zF o.2.2.1 o.2.2.2.1
 simp only[WD h5 h8,dk,q1,List.nil_append,e7,Gh,Gg]
 by_cases a5:e=0
 rotate_left
 ·rw[show(e !=0)=true by simpa using a5,cond_true,OT]
 subst a5
 obtain⟨wW,hab⟩:=CM rfl
 rw[show((0:Int) !=0)=false from rfl,cond_false,show((arr.length:Int) !=(l.length:Int))=false by simp[wW],cond_false]
 have yu:arr.length=o.1.length:=by omega
 have Dh:=xy (o:=o) (arr:=arr) oK hv yg yu hab qk 0 [] (by omega) (by unfold qk;omega) (rO.nil o arr)
 rcases Dh with Dh|⟨es,Dh,hE⟩
 ·have OL:gF qk ((o,0,()),((([]:List (Int×(Int×(Int×Bool)))),[0],([]:List Int)),([]:List Ent),arr,()),())=_:=Dh
  rw[OL]
  rfl
 have OL:gF qk ((o,0,()),((([]:List (Int×(Int×(Int×Bool)))),[0],([]:List Int)),([]:List Ent),arr,()),())=_:=Dh
 rw[OL]
 simp only[dk,fD]
 have hlt:=hE.lt
 have Gy:=hE.len
 have KK:∀v,v∈es.map (λi:Nat=>(i:Int))↔∃i:Nat,i∈es/\v=(i:Int):=λv=>by
  rw[List.mem_map]
  exact⟨λ⟨i,h1,h2⟩=>⟨i,h1,h2.symm⟩,λ⟨i,h1,h2⟩=>⟨i,h1,h2.symm⟩⟩
 have hrl:(es.map (λi:Nat=>(i:Int))).length<=o.1.length:=by rw[List.length_map];exact Gy
 rw[OG yg hE.sub]
 revert KK hrl
 generalize es.map (λi:Nat=>(i:Int))=rel
 intro KK hrl
 simp only[dk]
 rw[show((0:Int) !=0)=false from rfl,cond_false]
 have w1:∀{R:Type} (z:Option R),bO 0 (o.1.length:Int) z=z:=λz=>by unfold bO;rw[if_pos (by omega)]
 have w2:∀{R:Type} (z:Option R),bO (o.1.length:Int) (o.1.length:Int) z=z:=λz=>by unfold bO;rw[if_pos (by omega)]
 have w3:∀{R:Type} (z:Option R),qo (o.1.length:Int) z=z:=λz=>by rw[jQ,if_pos (by omega)]
 simp only[w1,w2,w3,Int.toNat_natCast]
 obtain⟨is,e29,kE,NP⟩:=xw (o:=o) (arr:=arr) (rel:=rel) (N:=o.1.length) yg (by omega) (λv hv=>by
  obtain⟨i,hi,rfl⟩:=(KK v).1 hv
  have:=hlt i hi
  omega) qk 0 (List.replicate o.1.length false) (by omega) (by unfold qk;omega) (by simp)
 have abR:py qk ((o,0,()),(List.replicate o.1.length false,arr,rel,()),())=_:=e29
 rw[abR]
 simp only[dk,fD]
 have hsel:∀j,j<o.1.length->(is[j]? = some true↔j∈es):=λj hj=>by
  rw[NP j hj,List.drop_zero,KK]
  constructor
  ·rintro(h|⟨i,hi,he⟩)
   ·rw[List.getElem?_replicate]at h
    simp[hj]at h
   ·have:j=i:=by omega
    rw[this];exact hi
  ·exact λh=>.inr ⟨j,h,rfl⟩
 have WX:=xu oK hv yg yu hab kE hE hsel qk 0 (by omega) (by unfold qk;omega)
 have abQ:m_ qk ((o,0,()),(is,arr,()),())=_:=WX
 rw[abQ]
 simp only[dk,fD,OT]
end Go.Proofs.Tryz.V.Cv
