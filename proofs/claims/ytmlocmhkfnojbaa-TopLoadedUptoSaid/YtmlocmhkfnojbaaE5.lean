/- The law of the loads, plain. No condition beyond those typed in each theorem. -/
import Derived.Test.YtmlocmhkfnojbaaE4
namespace Go.Proofs.Try.V.Cv
open Go.Vi Go.Proofs Go.RowKit
set_option maxRecDepth 100000
theorem qfX.bnd{m:Map}(hm:qcN m){x:Lor}{p:Pt}{now:Int}{l:List Leg}{p':Pt}{n':Int}(h:qfX m x p now l p' n'):now<=n'/\n'<=now+1000*l.length:=by
 induction h with
 |nil p now=>simp
 | @cons p now i r d l p' n' h1 h2 h3 h4 h5 h6 h7 h8 ih=>
  obtain⟨a1,a2,a3,a4,a5,a6⟩:=hm.2.2 r (List.mem_of_getElem? h1)
  rw[List.length_cons]
  omega
theorem L24_same{packed:List (List Int)}{j:List Leg}{w:Int}{y:Lor}{h:Haul}{q:Map}(hm:qcN q)(hy:qbz q y)(hroom:y.2.1=h.2.1){p':Pt}(hto:p'.1=h.2.2.1)(hp:∀x,qhQ x y->qfX q x (y.2.2.1,0) y.2.2.2.1 j p' w)(hj:j.length<=29)
  (hv:∀v∈packed,(∀p∈v,0<=p/\p<(h.1.1.length:Int))/\L08.loadOf h.1.1 v<=h.2.1/\v.length<=16) (hw:∀x∈h.1.1,1<=x.1/\x.1<=1000000) (hl:packed.length<=8):∀(n i:Nat),i<=packed.length->packed.length+20<n+i->
  L3_24 n ((packed,j,w,(i:Int),()),(y,h,q,List.replicate i y,()),())=some (.inr ((w,()),(h,q,List.replicate packed.length y,()),()))
 |0,i,h1,h2=>by omega
 |n+1,i,h1,h2=>by
  show B3_24 n (L3_24 n) packed j w (i:Int) y h q (List.replicate i y)=_
  unfold B3_24
  by_cases hi:i<packed.length
  ·have hvi:packed[i]? = some packed[i]:=List.getElem?_eq_getElem hi
   obtain⟨v1,v2,v3⟩:=hv _ (List.getElem_mem hi)
   obtain⟨e29,h0⟩:=L3_29_ok (j:=j) (w:=w) (l:=y) (q:=q) (ls:=List.replicate i y) hvi v1 hw v3 packed[i] [] n (y.1,0,y.2.2) rfl (by omega) (Int.le_refl _) (by simp)
   have e29':L3_29 n ((packed,j,w,(i:Int),0,()),(y,h,q,List.replicate i y,(y.1,(0,y.2.2)),()),())=_:=e29
   have next:=L24_same hm hy hroom hto hp hj hv hw hl n (i+1) (by omega) (by omega)
   rw[List.replicate_succ']at next
   have hx:qhQ (y.1,(0+L08.loadOf h.1.1 packed[i],y.2.2)) y:=⟨rfl,by simp only;omega,rfl⟩
   have hxo:qbz q (y.1,(0+L08.loadOf h.1.1 packed[i],y.2.2)):=⟨hy.1,by have:=hy.2.1;simp only;omega,hy.2.2⟩
   have e9:=g9_ok hm hxo (hp _ hx) (by omega)
   have q1:∀{R:Type} (z:Option R),ql ((([]:List Leg).length:Int)+j.length) z=z:=λz=>by rw[jR,if_pos (by simp only[List.length_nil];omega)]
   have q2:∀{R:Type} (z:Option R),ql (((List.replicate i y).length:Int)+[y].length) z=z:=λz=>by rw[jR,if_pos (by simp only[List.length_replicate,List.length_cons,List.length_nil];omega)]
   rw[decide_eq_true (by omega),cond_true,e29']
   simp only[dk,qbk]
   rw[decide_eq_false (by omega),cond_false]
   simp only[qbs,q1,List.nil_append,e9,dk,qaf,qag]
   rw[show((0:Int) !=0)=false from rfl,cond_false,hto,show(h.2.2.1 !=h.2.2.1)=false by simp,cond_false,show(w !=w)=false by simp,cond_false,q2,wi (by omega)]
   exact next
  ·have:i=packed.length:=by omega
   subst this
   rw[decide_eq_false (by omega),cond_false]
theorem L46_same{w:Int}{h:Haul}{N:Nat}(hN:N<=8)(hg:0<=h.2.2.2/\h.2.2.2<=100)(hw:0<=w/\w<=2000000):∀(n i:Nat),i<=N->N<n+i->L3_46 n ((w,(i:Int),()),(h,qgm w h.2.2.2 N,()),())=some (.inr ((),(),()))
 |0,i,h1,h2=>by omega
 |n+1,i,h1,h2=>by
  show B3_46 n (L3_46 n) w (i:Int) h (qgm w h.2.2.2 N)=_
  unfold B3_46
  have hgl:=qiR w h.2.2.2 N
  by_cases hi:i<N
  ·have hb:=gap_b hg i
   rw[decide_eq_true (by omega),cond_true,qaS (by omega) (by omega),gI (qnx hi),wr (x:=(i:Int)*h.2.2.2) (by omega) (by omega),wr (by omega) (by omega),show((w+(i:Int)*h.2.2.2) !=(w+(i:Int)*h.2.2.2))=false by simp,cond_false,wi (by omega)]
   exact L46_same hN hg hw n (i+1) (by omega) (by omega)
  ·rw[decide_eq_false (by omega),cond_false]
theorem law_loads(m:Map)(l:Lor)(h:Haul):g3 (m,l,h,())=some ((true,()),()):=by
 unfold g3 F3
 simp only
 have bkt:∀{R:Type} (k:(Bool×Unit)×Unit->Option R),qa (g5 ()) k=k ((true,()),()):=λk=>by rw[qkR];rfl
 rcases g4_eq m [l]with h4|⟨h4,h5,h8,_,h60⟩
 ·rw[h4]
  simp only[dk,cond_true,bkt]
 rw[h4]
 simp only[dk,cond_false]
 by_cases a1:(h.1.1.length:Int)>12
 ·rw[decide_eq_true a1,cond_true,bkt]
 rw[decide_eq_false a1,cond_false]
 by_cases a2:(h.1.2.2.length:Int)>10
 ·rw[decide_eq_true a2,cond_true,bkt]
 rw[decide_eq_false a2,cond_false]
 by_cases a3:h.2.1>1000
 ·rw[decide_eq_true a3,cond_true,bkt]
 rw[decide_eq_false a3,cond_false]
 rcases L3_4_ok (m:=m) (l:=l) (h:=h) (by omega) qn 0 (by omega) (by unfold qn;omega)with e4|⟨e4,hn⟩
 ·have e4':L3_4 qn ((0,()),(m,l,h,()),())=_:=e4
  rw[e4']
  rfl
 have e4':L3_4 qn ((0,()),(m,l,h,()),())=_:=e4
 rw[e4']
 simp only[dk,qbk]
 rcases L3_9_ok (m:=m) (l:=l) (h:=h) (by omega) qn 0 (by omega) (by unfold qn;omega)with e9|⟨e9,hvn⟩
 ·have e9':L3_9 qn ((0,()),(m,l,h,()),())=_:=e9
  rw[e9']
  rfl
 have e9':L3_9 qn ((0,()),(m,l,h,()),())=_:=e9
 rw[e9']
 simp only[dk,qbk]
 have hS:L08.Small h.1:=qnN (by omega) (by omega) (λp hp=>by obtain⟨i,hi,rfl⟩:=List.getElem_of_mem hp;exact hn i hi (Nat.zero_le _)) (λp hp=>by obtain⟨i,hi,rfl⟩:=List.getElem_of_mem hp;exact hvn i hi (Nat.zero_le _))
 obtain⟨packed,e,e6,hpk⟩:=L08.root08p h.1 hS h.2.1
 obtain⟨j,f,e8,hdr⟩:=g8_ok h5 h8 (y:=(l.1,(h.2.1,l.2.2))) (h60 l (by simp)) h.2.2.1
 have e6':g6 (h.1,h.2.1,())=_:=e6
 simp only[e6',g7_eq h5 h8,e8,dk]
 by_cases b1:e=0
 rotate_left
 ·rw[show(e !=0)=true by simpa using b1,cond_true,bkt]
 subst b1
 by_cases b2:f=0
 rotate_left
 ·rw[show((0:Int) !=0)=false from rfl,cond_false,show(f !=0)=true by simpa using b2,cond_true,bkt]
 subst b2
 rw[show((0:Int) !=0)=false from rfl,cond_false,cond_false]
 by_cases b3:(packed.length:Int)>8
 ·rw[decide_eq_true b3,cond_true,bkt]
 rw[decide_eq_false b3,cond_false]
 obtain⟨_,hw,hv⟩:=hpk rfl
 obtain⟨hm,hy,ht,h22,hj,p',w,hto,hP⟩:=hdr rfl
 have hPy:=hP _ ⟨rfl,Int.le_refl _,rfl⟩
 have e9:=g9_ok hm hy hPy (by omega)
 have hbn:=hPy.bnd hm
 have hyt:=hy.2.2.2.1
 have hw2:0<=w/\w<=2000000:=by simp only at hbn hyt;omega
 have q1:∀{R:Type} (z:Option R),ql ((([]:List Leg).length:Int)+j.length) z=z:=λz=>by rw[jR,if_pos (by simp only[List.length_nil];omega)]
 have e24:=L24_same hm hy rfl hto hP hj hv hw (by omega) qn 0 (by omega) (by unfold qn;omega)
 have e24':L3_24 qn ((packed,j,w,0,()),((l.1,(h.2.1,l.2.2)),h,m,([]:List Lor),()),())=_:=e24
 simp only[qbs,q1,List.nil_append,e9,dk,qaf,qag,e24',qbk]
 rw[show((0:Int) !=0)=false from rfl,cond_false]
 have e10:=g10_same hm hy ht h22 (by omega) hw2 hPy.arr (l:=List.replicate packed.length (l.1,(h.2.1,l.2.2))) (by simp only[List.length_replicate];omega) (λx hx=>List.eq_of_mem_replicate hx) h.2.2.2
 rw[List.length_replicate]at e10
 rcases e10 with⟨g0,g1,e10⟩|⟨hg,e10⟩
 ·simp only[e10,dk]
  have hgl:=qiR w h.2.2.2 packed.length
  rw[show((0:Int) !=0)=false from rfl,cond_false,hgl,List.length_replicate,show((packed.length:Int) !=packed.length)=false by simp,cond_false]
  have e46:=L46_same (w:=w) (h:=h) (N:=packed.length) (by omega) ⟨g0,g1⟩ hw2 qn 0 (by omega) (by unfold qn;omega)
  have e46':L3_46 qn ((w,0,()),(h,qgm w h.2.2.2 packed.length,()),())=_:=e46
  rw[e46']
  simp only[dk,qbk,bkt]
 ·simp only[e10,dk]
  rw[show((1:Int) !=0)=true from rfl,cond_true]
  by_cases c1:h.2.2.2<0
  ·rw[decide_eq_true c1,cond_true,bkt]
  ·rw[decide_eq_false c1,cond_false,decide_eq_true (hg.resolve_left c1),cond_true,bkt]
end Go.Proofs.Try.V.Cv
