/- drive's loops, plain. No condition beyond those typed in each theorem. -/
import Derived.Test.YtmlocmhkfnojbaaD6
namespace Go.Proofs.Try.V.Cv
open Go.Vi Go.Proofs Go.RowKit
set_option maxRecDepth 100000
def fil(best:Pt)(l:List (Pt×Pt)):List Pt:=(l.filter λu=>decide (K u.2<=K best)).map (·.1)
abbrev XE:=(Int×Atl×(Option (List (XK×XK)))×Unit)×((List (Int×Int))×(Option (List (XK×XK)))×(List (Int×Int))×Unit)×Unit
section
variable {to:Int} {a:Atl} {from_:Option (List (XK×XK))} {o4:List (Int×Int)} {o7:Option (List (XK×XK))} {best:Pt}
theorem qlO{l:List (Pt×Pt)}(hn:(l.map (·.1)).Nodup){u:Pt×Pt}(hu:u∈l):(fil best l).Perm ((if K u.2<=K best then[u.1]else[])++fil best (qaP u.1 l)):=by
 have h:=((qc5 hn hu).filter (λu=>decide (K u.2<=K best))).map (·.1)
 unfold fil
 refine h.trans ?_
 rw[List.filter_cons]
 by_cases hk:K u.2<=K best
 ·rw[if_pos (decide_eq_true hk),if_pos hk]
  exact List.Perm.refl _
 ·rw[if_neg (by simpa using hk),if_neg hk]
  exact List.Perm.refl _
theorem L7_all(hb:okC 400 best){S:XE->Prop}:∀(m:Nat) {l:List (Pt×Pt)} {cur:Option (Pt×Pt)} {acc:List Pt},(l.map (·.1)).Nodup->(∀u∈l,okC 400 u.2)->l.length<m->acc.length+l.length<=1000000->
  (∀y:List Pt,y.Perm (acc++fil best l)->S ((to,a,from_,()),(o4,o7,y,()),()))->L22_8 m ((to,a,from_,()),(o4,best,o7,acc,((l,cur):List (XK×XK)×Option (XK×XK)),()),()) S=some ()
 |0,_,_,_,_,_,h,_,_=>by omega
 |m+1,l,cur,acc,hn,hok,hm,hlen,hS=>by
  show B22_8 m (λd=>L22_8 m d S) S to a from_ o4 best o7 acc (l,cur)=_
  unfold B22_8
  refine qjH (λe=>?_) λu hu=>?_
  ·have e:l=[]:=e
   subst e
   exact asrt_of (hS acc (by simp[fil]))
  have hu:u∈l:=hu
  have hp:=qc5 hn hu
  have hl:l.length=(qaP u.1 l).length+1:=by rw[hp.length_eq];rfl
  have oku:=hok u hu
  have hf:=qlO (best:=best) hn hu
  simp only[dk]
  rw[g39_eq (oku.mono (by omega)) (hb.mono (by omega))]
  simp only[dk]
  by_cases hk:K u.2<=K best
  ·rw[decide_eq_true ((qkn oku hb (by omega) (by omega)).2 hk),cond_true,jR,if_pos (by simp only[List.length_cons,List.length_nil];omega)]
   rw[if_pos hk]at hf
   refine L7_all hb m (qdn hn) (λv hv=>hok v (qbi.1 hv).1) (by omega) (by simp only[List.length_append,List.length_cons,List.length_nil];omega) λy hy=>hS y (hy.trans ?_)
   rw[List.append_assoc]
   exact(hf.symm).append_left acc
  ·rw[decide_eq_false (λh=>hk ((qkn oku hb (by omega) (by omega)).1 h)),cond_false]
   rw[if_neg hk]at hf
   exact L7_all hb m (qdn hn) (λv hv=>hok v (qbi.1 hv).1) (by omega) (by omega) λy hy=>hS y (hy.trans (hf.symm.append_left acc))
theorem L7_ex(hb:okC 400 best){S:XE->Prop}:∀(m:Nat) {l:List (Pt×Pt)} {cur:Option (Pt×Pt)} {acc:List Pt},(l.map (·.1)).Nodup->(∀u∈l,okC 400 u.2)->l.length<m->acc.length+l.length<=1000000->
  L22_8 m ((to,a,from_,()),(o4,best,o7,acc,((l,cur):List (XK×XK)×Option (XK×XK)),()),()) S=some ()->∃y:List Pt,y.Perm (acc++fil best l)/\S ((to,a,from_,()),(o4,o7,y,()),())
 |0,_,_,_,_,_,h,_,_=>by omega
 |m+1,[],cur,acc,hn,hok,hm,hlen,h=>by
  have h:asrt (S ((to,a,from_,()),(o4,o7,acc,()),()))=some ():=h
  exact⟨acc,by simp[fil],qct h⟩
 |m+1,u::l0,cur,acc,hn,hok,hm,hlen,h=>by
  have h:B22_8 m (λd=>L22_8 m d S) S to a from_ o4 best o7 acc (u::l0,cur)=some ():=h
  unfold B22_8 at h
  have h:=qeN (show dem (λy:XK×XK=>y∈u::l0) _=some ()from h) u List.mem_cons_self
  obtain⟨l,hl0⟩:∃l,l=u::l0:=⟨_,rfl⟩
  simp only at h
  rw[<-hl0]at hn hok hm hlen h ⊢
  have hu:u∈l:=by rw[hl0];exact List.mem_cons_self
  have hp:=qc5 hn hu
  have hl:l.length=(qaP u.1 l).length+1:=by rw[hp.length_eq];rfl
  have oku:=hok u hu
  have hf:=qlO (best:=best) hn hu
  simp only[dk]at h
  rw[g39_eq (oku.mono (by omega)) (hb.mono (by omega))]at h
  simp only[dk]at h
  by_cases hk:K u.2<=K best
  ·rw[decide_eq_true ((qkn oku hb (by omega) (by omega)).2 hk),cond_true,jR,if_pos (by simp only[List.length_cons,List.length_nil];omega)]at h
   rw[if_pos hk]at hf
   obtain⟨y,hy,hS⟩:=L7_ex hb m (qdn hn) (λv hv=>hok v (qbi.1 hv).1) (by omega) (by simp only[List.length_append,List.length_cons,List.length_nil];omega) h
   refine⟨y,hy.trans ?_,hS⟩
   rw[List.append_assoc]
   exact(hf.symm).append_left acc
  ·rw[decide_eq_false (λh=>hk ((qkn oku hb (by omega) (by omega)).1 h)),cond_false]at h
   rw[if_neg hk]at hf
   obtain⟨y,hy,hS⟩:=L7_ex hb m (qdn hn) (λv hv=>hok v (qbi.1 hv).1) (by omega) (by omega) h
   exact⟨y,hy.trans (hf.symm.append_left acc),hS⟩
end
section
variable {W:Pt->List Way} {b:Pt} {U:List Pt} {out:List (Pt×Pt)} {to:Int} {best:Pt}
theorem R14_ok(hW:WOK W b U)(hF:Fin W b U out){left0:List (Pt×Pt)}{seen:List Pt}(h0:qff W out to best left0 seen)(hsl:seen.length<=400){p f:Pt}(hf:qX out p=some f)(hp:p∉seen)(N:Nat):∀(rest past:List Way) {left:List (Pt×Pt)},qgz W out to best left0 left seen.length p f past->past++rest=W p->
  ∃left',R22_19 N rest ((some left:Option (List (XK×XK))),p,())=some (.norm,((some left':Option (List (XK×XK))),()))/\qgz W out to best left0 left' seen.length p f (W p)
 |[],past,left,h,he=>by
  rw[List.append_nil]at he
  exact⟨left,rfl,by rw[<-he];exact h⟩
 |w::rest,past,left,h,he=>by
  have hpU:=(hF.bnd p f hf).1
  have hwm:w∈W p:=by rw[<-he];simp
  have hcost:=hW.cost p hpU w hwm
  have htoU:=hW.to p hpU w hwm
  have hpl:=hW.pl _ htoU
  have hpl2:=hW.pl _ hpU
  have hKp:=Kpos hW hpU hwm
  have he':(past++[w])++rest=W p:=by rw[<-he];simp
  have okl:∀q l,qX left q=some l->okC 401 l:=λq l hl=>by
   by_cases e:q=p
   ·subst e
    exact(h.at_ l hl).1.mono (by omega)
   ·rw[h.same q e]at hl
    exact(h0.key q l hl).2.1.mono (by omega)
  show ∃left',Q22_19 N (R22_19 N rest) w (some left) p=_/\_
  unfold Q22_19
  have t1:∀{R:Type} (k:Option R),inI w.2.2.1.1 k=k:=λk=>qbx (by unfold wto at *;omega) (by unfold wto at *;omega) k
  have t2:∀{R:Type} (k:Option R),inI w.2.2.1.2 k=k:=λk=>qbx (by unfold wto at *;omega) (by unfold wto at *;omega) k
  have t3:∀{R:Type} (k:Option R),inI p.1 k=k:=λk=>qbx (by omega) (by omega) k
  have t4:∀{R:Type} (k:Option R),inI p.2 k=k:=λk=>qbx (by omega) (by omega) k
  have hll:left.length<=seen.length+1:=by
   refine Nat.le_trans h.len (Nat.add_le_add_left ?_ _)
   split<;>omega
  have hL:∀{R:Type} (k:Option R),ql (left.length:Int) k=k:=λk=>by rw[jR,if_pos (by omega)]
  simp only[t1,t2,t3,t4,dk,qcf,hL]
  cases ho2:qX left (wto w)with
  |none=>
   have ho3:qX left w.2.2.1=none:=ho2
   simp only[ho3,Option.isSome_none,cond_false]
   exact R14_ok hW hF h0 hsl hf hp N rest (past++[w]) (h.not λl hl=>by rw[ho2]at hl;cases hl) he'
  |some l=>
   have ho3:qX left w.2.2.1=some l:=ho2
   have ol:=okl _ l ho2
   have hz:((IntKind.wrap .i64 (l.1+w.2.2.2.1)),(IntKind.wrap .i64 (l.2+1)))=qaj l (wc w):=by
    unfold okC wc at *
    rw[wr (by omega) (by omega),wr (by omega) (by omega)]
    unfold qaj
    rw[hcost.2.2]
   have okz:okC 402 (qaj l (wc w)):=by unfold okC qaj at *;simp only;omega
   simp only[ho3,Option.isSome_some,Option.getD_some,hz,cond_true]
   have hK:K (qaj l (wc w))=K l+K (wc w):=qeW _ _
   have put:(∀old,qX left p=some old->K l+K (wc w)<K old)->∃left',R22_19 N rest ((some (qaC left p (qaj l (wc w))):Option (List (XK×XK))),p,())=some (.norm,((some left':Option (List (XK×XK))),()))/\qgz W out to best left0 left' seen.length p f (W p):=
    λhbet=>R14_ok hW hF h0 hsl hf hp N rest (past++[w]) (h.put hW hF h0 hsl hf hwm ho2 hbet) he'
   cases hop:qX left p with
   |none=>
    simp only[Option.isSome_none,Bool.not_false,cond_true]
    exact put (λold hold=>by rw[hop]at hold;cases hold)
   |some old=>
    simp only[Option.isSome_some,Bool.not_true,cond_false,Option.getD_some]
    have oo:=okl _ old hop
    rw[g39_eq (okz.mono (by omega)) (oo.mono (by omega))]
    simp only[dk]
    by_cases hlt:K (qaj l (wc w))<K old
    ·rw[decide_eq_true ((qeb okz oo (by omega) (by omega)).2 hlt),cond_true]
     exact put (λold' hold=>by rw[hop]at hold;cases hold;omega)
    ·rw[decide_eq_false (λhh=>hlt ((qeb okz oo (by omega) (by omega)).1 hh)),cond_false]
     exact R14_ok hW hF h0 hsl hf hp N rest (past++[w]) (h.not λl' hl'=>⟨old,hop,by rw[ho2]at hl';cases hl';omega⟩) he'
end
end Go.Proofs.Try.V.Cv
