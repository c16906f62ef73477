/- drive's loops, plain. No condition beyond those typed in each theorem. -/
import Derived.Test.YtmlocmhkfnojbaaGreatD6
namespace Go.Proofs.Tryz.V.Cv
open Go.Vi Go.Proofs Go.RowKit
set_option maxRecDepth 100000
def xa(best:Pt)(l:List (Pt×Pt)):List Pt:=(l.filter λu=>decide (K u.2<=K best)).map (·.1)
abbrev XE:=(Int×uT×(Option (List (XK×XK)))×Unit)×((List (Int×Int))×(Option (List (XK×XK)))×(List (Int×Int))×Unit)×Unit
section
variable {to:Int} {a:uT} {from_:Option (List (XK×XK))} {o4:List (Int×Int)} {o7:Option (List (XK×XK))} {best:Pt}
theorem qmm{l:List (Pt×Pt)}(hn:(l.map (·.1)).Nodup){u:Pt×Pt}(hu:u∈l):(xa best l).Perm ((if K u.2<=K best then[u.1]else[])++xa best (ij u.1 l)):=by
 have h:=((RE hn hu).filter (λu=>decide (K u.2<=K best))).map (·.1)
 unfold xa
 refine h.trans ?_
 rw[List.filter_cons]
 by_cases hk:K u.2<=K best
 ·rw[if_pos (decide_eq_true hk),if_pos hk]
  exact List.Perm.refl _
 ·rw[if_neg (by simpa using hk),if_neg hk]
  exact List.Perm.refl _
theorem vP(hb:cT 400 best){S:XE->Prop}:∀(m:Nat) {l:List (Pt×Pt)} {cur:Option (Pt×Pt)} {acc:List Pt},(l.map (·.1)).Nodup->(∀u∈l,cT 400 u.2)->l.length<m->acc.length+l.length<=1000000->
  (∀y:List Pt,y.Perm (acc++xa best l)->S ((to,a,from_,()),(o4,o7,y,()),()))->ng m ((to,a,from_,()),(o4,best,o7,acc,((l,cur):List (XK×XK)×Option (XK×XK)),()),()) S=some ()
 |0,_,_,_,_,_,h,_,_=>by omega
 |m+1,l,cur,acc,hn,hok,hm,hlen,hS=>by
  show uw m (λd=>ng m d S) S to a from_ o4 best o7 acc (l,cur)=_
  unfold uw
  refine qkf (λe=>?_) λu hu=>?_
  ·have e:l=[]:=e
   subst e
   exact Js (hS acc (by simp[xa]))
  have hu:u∈l:=hu
  have hp:=RE hn hu
  have hl:l.length=(ij u.1 l).length+1:=by rw[hp.length_eq];rfl
  have xW:=hok u hu
  have hf:=qmm (best:=best) hn hu
  simp only[dk]
  rw[ki (xW.mono (by omega)) (hb.mono (by omega))]
  simp only[dk]
  by_cases hk:K u.2<=K best
  ·rw[decide_eq_true ((YE xW hb (by omega) (by omega)).2 hk),cond_true,jQ,if_pos (by simp only[List.length_cons,List.length_nil];omega)]
   rw[if_pos hk]at hf
   refine vP hb m (Uz hn) (λv hv=>hok v (Bb.1 hv).1) (by omega) (by simp only[List.length_append,List.length_cons,List.length_nil];omega) λy hy=>hS y (hy.trans ?_)
   rw[List.append_assoc]
   exact(hf.symm).append_left acc
  ·rw[decide_eq_false (λh=>hk ((YE xW hb (by omega) (by omega)).1 h)),cond_false]
   rw[if_neg hk]at hf
   exact vP hb m (Uz hn) (λv hv=>hok v (Bb.1 hv).1) (by omega) (by omega) λy hy=>hS y (hy.trans (hf.symm.append_left acc))
theorem Eg(hb:cT 400 best){S:XE->Prop}:∀(m:Nat) {l:List (Pt×Pt)} {cur:Option (Pt×Pt)} {acc:List Pt},(l.map (·.1)).Nodup->(∀u∈l,cT 400 u.2)->l.length<m->acc.length+l.length<=1000000->
  ng m ((to,a,from_,()),(o4,best,o7,acc,((l,cur):List (XK×XK)×Option (XK×XK)),()),()) S=some ()->∃y:List Pt,y.Perm (acc++xa best l)/\S ((to,a,from_,()),(o4,o7,y,()),())
 |0,_,_,_,_,_,h,_,_=>by omega
 |m+1,[],cur,acc,hn,hok,hm,hlen,h=>by
  have h:kS (S ((to,a,from_,()),(o4,o7,acc,()),()))=some ():=h
  exact⟨acc,by simp[xa],MK h⟩
 |m+1,u::l0,cur,acc,hn,hok,hm,hlen,h=>by
  have h:uw m (λd=>ng m d S) S to a from_ o4 best o7 acc (u::l0,cur)=some ():=h
  unfold uw at h
  have h:=Ui (show GF (λy:XK×XK=>y∈u::l0) _=some ()from h) u List.mem_cons_self
  obtain⟨l,hl0⟩:∃l,l=u::l0:=⟨_,rfl⟩
  simp only at h
  rw[<-hl0]at hn hok hm hlen h ⊢
  have hu:u∈l:=by rw[hl0];exact List.mem_cons_self
  have hp:=RE hn hu
  have hl:l.length=(ij u.1 l).length+1:=by rw[hp.length_eq];rfl
  have xW:=hok u hu
  have hf:=qmm (best:=best) hn hu
  simp only[dk]at h
  rw[ki (xW.mono (by omega)) (hb.mono (by omega))]at h
  simp only[dk]at h
  by_cases hk:K u.2<=K best
  ·rw[decide_eq_true ((YE xW hb (by omega) (by omega)).2 hk),cond_true,jQ,if_pos (by simp only[List.length_cons,List.length_nil];omega)]at h
   rw[if_pos hk]at hf
   obtain⟨y,hy,hS⟩:=Eg hb m (Uz hn) (λv hv=>hok v (Bb.1 hv).1) (by omega) (by simp only[List.length_append,List.length_cons,List.length_nil];omega) h
   refine⟨y,hy.trans ?_,hS⟩
   rw[List.append_assoc]
   exact(hf.symm).append_left acc
  ·rw[decide_eq_false (λh=>hk ((YE xW hb (by omega) (by omega)).1 h)),cond_false]at h
   rw[if_neg hk]at hf
   obtain⟨y,hy,hS⟩:=Eg hb m (Uz hn) (λv hv=>hok v (Bb.1 hv).1) (by omega) (by omega) h
   exact⟨y,hy.trans (hf.symm.append_left acc),hS⟩
end
section
variable {W:Pt->List Way} {b:Pt} {U:List Pt} {out:List (Pt×Pt)} {to:Int} {best:Pt}
theorem rM(hW:lB W b U)(hF:Fin W b U out){cN:List (Pt×Pt)}{seen:List Pt}(h0:uA W out to best cN seen)(mA:seen.length<=400){p f:Pt}(hf:jE out p=some f)(hp:p∉seen)(N:Nat):∀(rest fw:List Way) {left:List (Pt×Pt)},wo W out to best cN left seen.length p f fw->fw++rest=W p->
  ∃left',gE N rest ((some left:Option (List (XK×XK))),p,())=some (.norm,((some left':Option (List (XK×XK))),()))/\wo W out to best cN left' seen.length p f (W p)
 |[],fw,left,h,he=>by
  rw[List.append_nil]at he
  exact⟨left,rfl,by rw[<-he];exact h⟩
 |w::rest,fw,left,h,he=>by
  have oL:=(hF.fP p f hf).1
  have nV:w∈W p:=by rw[<-he];simp
  have fZ:=hW.cost p oL w nV
  have Cf:=hW.to p oL w nV
  have eR:=hW.pl _ Cf
  have aaZ:=hW.pl _ oL
  have hKp:=Fc hW oL nV
  have he':(fw++[w])++rest=W p:=by rw[<-he];simp
  have okl:∀q l,jE left q=some l->cT 401 l:=λq l hl=>by
   by_cases e:q=p
   ·subst e
    exact(h.at_ l hl).1.mono (by omega)
   ·rw[h.same q e]at hl
    exact(h0.key q l hl).2.1.mono (by omega)
  show ∃left',vN N (gE N rest) w (some left) p=_/\_
  unfold vN
  have t1:∀{R:Type} (k:Option R),dR w.2.2.1.1 k=k:=λk=>rV (by unfold dw at *;omega) (by unfold dw at *;omega) k
  have t2:∀{R:Type} (k:Option R),dR w.2.2.1.2 k=k:=λk=>rV (by unfold dw at *;omega) (by unfold dw at *;omega) k
  have t3:∀{R:Type} (k:Option R),dR p.1 k=k:=λk=>rV (by omega) (by omega) k
  have t4:∀{R:Type} (k:Option R),dR p.2 k=k:=λk=>rV (by omega) (by omega) k
  have IF:left.length<=seen.length+1:=by
   refine Nat.le_trans h.len (Nat.add_le_add_left ?_ _)
   split<;>omega
  have hL:∀{R:Type} (k:Option R),qo (left.length:Int) k=k:=λk=>by rw[jQ,if_pos (by omega)]
  simp only[t1,t2,t3,t4,dk,Hr,hL]
  cases df:jE left (dw w)with
  |none=>
   have Co:jE left w.2.2.1=none:=df
   simp only[Co,Option.isSome_none,cond_false]
   exact rM hW hF h0 mA hf hp N rest (fw++[w]) (h.not λl hl=>by rw[df]at hl;cases hl) he'
  |some l=>
   have Co:jE left w.2.2.1=some l:=df
   have ol:=okl _ l df
   have hz:((IntKind.wrap .i64 (l.1+w.2.2.2.1)),(IntKind.wrap .i64 (l.2+1)))=dG l (wc w):=by
    unfold cT wc at *
    rw[wr (by omega) (by omega),wr (by omega) (by omega)]
    unfold dG
    rw[fZ.2.2]
   have Ni:cT 402 (dG l (wc w)):=by unfold cT dG at *;simp only;omega
   simp only[Co,Option.isSome_some,Option.getD_some,hz,cond_true]
   have hK:K (dG l (wc w))=K l+K (wc w):=AR _ _
   have put:(∀old,jE left p=some old->K l+K (wc w)<K old)->∃left',gE N rest ((some (ep left p (dG l (wc w))):Option (List (XK×XK))),p,())=some (.norm,((some left':Option (List (XK×XK))),()))/\wo W out to best cN left' seen.length p f (W p):=
    λkQ=>rM hW hF h0 mA hf hp N rest (fw++[w]) (h.put hW hF h0 mA hf nV df kQ) he'
   cases hop:jE left p with
   |none=>
    simp only[Option.isSome_none,Bool.not_false,cond_true]
    exact put (λold hold=>by rw[hop]at hold;cases hold)
   |some old=>
    simp only[Option.isSome_some,Bool.not_true,cond_false,Option.getD_some]
    have oo:=okl _ old hop
    rw[ki (Ni.mono (by omega)) (oo.mono (by omega))]
    simp only[dk]
    by_cases hlt:K (dG l (wc w))<K old
    ·rw[decide_eq_true ((Hj Ni oo (by omega) (by omega)).2 hlt),cond_true]
     exact put (λold' hold=>by rw[hop]at hold;cases hold;omega)
    ·rw[decide_eq_false (λhh=>hlt ((Hj Ni oo (by omega) (by omega)).1 hh)),cond_false]
     exact rM hW hF h0 mA hf hp N rest (fw++[w]) (h.not λl' hl'=>⟨old,hop,by rw[df]at hl';cases hl';omega⟩) he'
end
end Go.Proofs.Tryz.V.Cv
