/- drive, plain: whatever order its maps come in, it gives one journey of small legs. No condition beyond those typed in each theorem. -/
import Derived.Test.YtmlocmhkfnojbaaGreatD8
namespace Go.Proofs.Tryz.V.Cv
open Go.Vi Go.Proofs Go.RowKit
set_option maxRecDepth 100000
structure FM (a:uT):Prop where
 ov:1<=a.1.1.length/\a.1.1.length<=5
 roads:a.1.2.length<=8
 road:∀r∈a.1.2,0<=r.1/\r.1<a.1.1.length/\0<=r.2.1/\r.2.1<a.1.1.length/\r.1≠r.2.1/\1<=r.2.2.1/\r.2.2.1<=500/\0<=r.2.2.2.1/\r.2.2.2.1<=1000/\0<=r.2.2.2.2/\r.2.2.2.2<=1000
 start:0<=a.2.2.2.1/\a.2.2.2.1<a.1.1.length
 ready:0<=a.2.2.2.2.1/\a.2.2.2.2.1<=2000
 Dj:1<=a.2.2.2.2.2.1/\a.2.2.2.2.2.1<=60
 rest:1<=a.2.2.2.2.2.2/\a.2.2.2.2.2.2<=500
def Ul(n:Nat):List Pt:=(List.range n).flatMap λ(t:Nat)=>(List.range 61).map λ(u:Nat)=>((t:Int),(u:Int))
theorem YB{n:Nat}{p:Pt}:p∈Ul n↔0<=p.1/\p.1<n/\0<=p.2/\p.2<=60:=by
 unfold Ul
 simp only[List.mem_flatMap,List.mem_range,List.mem_map]
 constructor
 ·rintro⟨t,ht,u,hu,rfl⟩
  simp only
  omega
 ·rintro⟨h1,h2,h3,h4⟩
  exact⟨p.1.toNat,by omega,p.2.toNat,by omega,Prod.ext (by simp only;omega) (by simp only;omega)⟩
theorem qkz:∀n:Nat,(Ul n).length=n*61
 |0=>rfl
 |n+1=>by
  have h:Ul (n+1)=Ul n++(List.range 61).map λ(u:Nat)=>((n:Int),(u:Int)):=by
   unfold Ul
   rw[List.range_succ (n:=n),List.flatMap_append]
   simp
  rw[h,List.length_append,qkz n,List.length_map,List.length_range]
  omega
theorem qlx{pk:Bool}{lo:nG}{t u:Int}{w:Way}:∀{j:Nat} {rs:List nN},w∈Wy.dx pk lo t u j rs->∃i r,rs[i]? = some r/\w∈Wy.kH pk lo t u (j+i) r
 |_,[],h=>by cases h
 |j,r::rs,h=>by
  unfold Wy.dx at h
  rcases List.mem_append.1 h with h|h
  ·exact⟨0,r,rfl,h⟩
  ·obtain⟨i,r',h1,h2⟩:=qlx h
   exact⟨i+1,r',by simpa using h1,by rw[show j+(i+1)=j+1+i by omega];exact h2⟩
theorem zO(pk:Bool)(lo:nG)(t u:Int)(j:Nat)(r:nN):(Wy.kH pk lo t u j r).length<=2:=by
 unfold Wy.kH
 split
 ·rw[List.length_append]
  split<;>split<;>simp
 ·simp
theorem qly{pk:Bool}{lo:nG}{t u:Int}:∀(j:Nat) (rs:List nN),(Wy.dx pk lo t u j rs).length<=2*rs.length
 |_,[]=>Nat.le_refl _
 |j,r::rs=>by
  unfold Wy.dx
  have h1:=zO pk lo t u j r
  have h2:=qly (pk:=pk) (lo:=lo) (t:=t) (u:=u) (j+1) rs
  rw[List.length_append,List.length_cons]
  omega
theorem zN{pk:Bool}{lo:nG}{t u:Int}{w:Way}{j:Nat}{r:nN}(h:w∈Wy.kH pk lo t u j r):(r.1=t\/r.2.1=t)/\w.1=j/\(dw w).1=r.1+r.2.1-t/\
  ((u+r.2.2.1<=lo.2.2.2.2.1/\w.2.1=0/\(dw w).2=u+r.2.2.1/\wc w=(r.2.2.1,1))\/(r.2.2.1<=lo.2.2.2.2.1/\w.2.1=lo.2.2.2.2.2/\(dw w).2=r.2.2.1/\wc w=(lo.2.2.2.2.2+r.2.2.1,1))):=by
 unfold Wy.kH at h
 split at h
 ·rename_i h0
  refine⟨h0.1,?_⟩
  rcases List.mem_append.1 h with h|h
  ·split at h
   ·rename_i h1
    have:w=((j:Int),0,(r.1+r.2.1-t,u+r.2.2.1),(r.2.2.1,1)):=by simpa using h
    subst this
    exact⟨rfl,rfl,.inl ⟨h1,rfl,rfl,rfl⟩⟩
   ·cases h
  ·split at h
   ·rename_i h1
    have:w=((j:Int),lo.2.2.2.2.2,(r.1+r.2.1-t,r.2.2.1),(lo.2.2.2.2.2+r.2.2.1,1)):=by simpa using h
    subst this
    exact⟨rfl,rfl,.inr ⟨h1.2.2,rfl,rfl,rfl⟩⟩
   ·cases h
 ·cases h
section
variable {a:uT}
theorem FM.way(hA:FM a){p:Pt}(hp:p∈Ul a.1.1.length){w:Way}(hw:w∈jP a p):dw w∈Ul a.1.1.length/\1<=(wc w).1/\(wc w).1<=1000/\(wc w).2=1/\0<=w.2.1/\w.2.1<=1000/\0<=w.1/\w.1<a.1.2.length:=by
 unfold jP at hw
 obtain⟨i,r,hi,hr⟩:=qlx hw
 obtain⟨h1,h2,h3,h4⟩:=zN hr
 have kE:=(List.getElem?_eq_some_iff.1 hi).1
 have hrd:=hA.road r (List.mem_of_getElem? hi)
 have ht:=hA.ov
 have ax:=hA.Dj
 have hre:=hA.rest
 rw[YB]at hp ⊢
 rcases h4 with⟨h5,h6,h7,h8⟩|⟨h5,h6,h7,h8⟩<;>(rw[h2,h3,h6,h7,h8];simp only;refine⟨⟨?_,?_,?_,?_⟩,?_,?_,?_,?_,?_,?_,?_⟩<;>first|trivial|omega)
theorem FM.ow(hA:FM a):(a.2.2.2.1,(0:Int))∈Ul a.1.1.length:=by
 have:=hA.start
 have:=hA.ov
 rw[YB]
 simp only
 omega
theorem FM.wok(hA:FM a):lB (jP a) (a.2.2.2.1,0) (Ul a.1.1.length) where
 to p hp w hw:=(hA.way hp hw).1
 cost p hp w hw:=⟨(hA.way hp hw).2.1,(hA.way hp hw).2.2.1,(hA.way hp hw).2.2.2.1⟩
 len p hp:=by
  have h1:=qly (pk:=Wy.jy a.1.1 p.1) (lo:=a.2) (t:=p.1) (u:=p.2) 0 a.1.2
  have h2:=hA.roads
  unfold jP
  omega
 vH:=hA.ow
 small:=by rw[qkz];have:=hA.ov;omega
 pl p hp:=by rw[YB]at hp;have:=hA.ov;omega
theorem FM.okW(hA:FM a){p:Pt}(hp:p∈Ul a.1.1.length):Wy.okW a p:=by
 rw[YB]at hp
 have h4:=hA.ov
 have ht:=hp.2.1
 have h1:=hA.Dj
 have h2:=hA.rest
 have h3:=hA.roads
 refine⟨hp.1,ht,?_,?_,?_,?_,λr hr=>?_,by omega⟩
 ·unfold Wy.rK;omega
 ·unfold Wy.rK;omega
 ·unfold Wy.rK;omega
 ·unfold Wy.rK;omega
 ·have:=hA.road r hr
  unfold Wy.rK
  omega
open Classical in
noncomputable def rf(a:uT)(out:List (Pt×Pt))(to:Int)(best:Pt):Option (List sv):=jr (jP a) out to best 401 (a.2.2.2.1,0) a.2.2.2.2.1 []
theorem Jh{out:List (Pt×Pt)}{b:Pt}{U:List Pt}{W:Pt->List Way}(hF:Fin W b U out){best p:Pt}:p∈xa best out↔∃c,jE out p=some c/\K c<=K best:=by
 unfold xa
 simp only[List.mem_map,List.mem_filter,decide_eq_true_eq]
 constructor
 ·rintro⟨u,⟨h1,h2⟩,rfl⟩
  exact⟨u.2,hF.mem h1,h2⟩
 ·rintro⟨c,h1,h2⟩
  exact⟨(p,c),⟨YL h1,h2⟩,rfl⟩
theorem qoC{out:List (Pt×Pt)}(h:(out.map (·.1)).Nodup)(best:Pt):(xa best out).Nodup:=by
 unfold xa
 exact(List.filter_sublist.map _).nodup h
theorem Ji(out:List (Pt×Pt))(best:Pt):(xa best out).length<=out.length:=by
 unfold xa
 rw[List.length_map]
 exact List.length_filter_le _ _
theorem OC(hA:FM a)(to:Int):(∃out best r,Fin (jP a) (a.2.2.2.1,0) (Ul a.1.1.length) out/\Fg out to best/\rf a out to best=some r/\SC (a,to,())=some ((r,true,()),()))\/((∃out,Fin (jP a) (a.2.2.2.1,0) (Ul a.1.1.length) out/\∀p c,jE out p=some c->p.1≠to)/\SC (a,to,())=some (([],false,()),())):=by
 have hW:=hA.wok
 have hok:∀p∈Ul a.1.1.length,Wy.okW a p:=λp hp=>hA.okW hp
 obtain⟨out,Og,hF⟩:=Ou hW hok
 obtain⟨best,is,h53,ht,hf⟩:=Ov hW hF Og to
 cases is with
 |false=>
  right
  refine⟨⟨out,hF,hf rfl⟩,?_⟩
  unfold SC F31
  simp only
  rw[h53]
  rfl
 |true=>
  left
  obtain⟨hB,okb⟩:=ht rfl
  have gZ:=CR hW hF hB
  obtain⟨r,hr⟩:=qn1 hW hF 401 (a.2.2.2.1,0) (0,0) a.2.2.2.2.1 [] hF.vH gZ (by simp only;omega)
  refine⟨out,best,r,hF,hB,hr,?_⟩
  have aaY:=hA.ready
  have VH:∀u∈out,cT 400 u.2:=λu hu=>(hF.fP _ _ (hF.mem hu)).2
  have hlen:=qi0 hF hW
  have hfl:=Ji out best
  unfold SC F31
  simp only
  rw[h53]
  simp only[dk,Bool.not_true,cond_false]
  rw[Og]
  simp only[dk]
  have rest:∀y:List Pt,y.Perm (xa best out)->(qa ((Hs.FT (some out) y).map λl=>((),(l,()))) λy8=>qa (gH qk ((to,a,(y8.2.1.length:Int),0,()),(([]:List sv),(some []:Option (List (XK×XK))),y8.2.1,()),())) λoF=>vg (qa (gG qk ((oF.1.1,oF.1.2.1,()),(oF.2.1.1,oF.2.1.2.1,(oF.1.2.1.2.2.2.1,0),oF.1.2.1.2.2.2.2.1,()),())) λo22=>some ((o22.2.1.1,true,()),())) λE=>qv [qv [E,E],qv [E,E],qv [E,E]])=some (((r,true,()):(List sv)×Bool×Unit),()):=by
   intro y hy
   have KE:y.length<=400:=by rw[hy.length_eq];omega
   have hym:∀p,p∈y↔∃c,jE out p=some c/\K c<=K best:=λp=>by rw[hy.mem_iff,Jh hF]
   have hbm:(a.2.2.2.1,(0:Int))∈y:=by
    obtain⟨c,h1,h2⟩:=gZ.le hW hF
    exact(hym _).2 ⟨c,h1,h2⟩
   obtain⟨ys,e1,e2,e3⟩:=Hs.As (m:=out) (l:=y) (by omega) (λp hp=>by
    obtain⟨c,h1,h2⟩:=(hym p).1 hp
    obtain⟨hU,hc⟩:=hF.fP p c h1
    have eR:=hW.pl p hU
    unfold Hs.eW Hs.zo
    rw[h1]
    simp only[Option.getD_some]
    unfold cT at hc
    exact⟨Uj.2 (by omega),Uj.2 (by omega),by omega,by omega⟩) (λe=>by rw[e]at hbm;cases hbm)
   rw[e1]
   simp only[Option.map_some,dk]
   have Vt:∀p,p∈ys↔∃c,jE out p=some c/\K c<=K best:=λp=>by rw[e2.mem_iff,hym]
   have Vu:ys.length<=400:=by rw[e2.length_eq];exact KE
   have aq:ys.Nodup:=(e2.nodup_iff).2 (hy.nodup_iff.2 (qoC hF.keys best))
   have hsort:ys.Pairwise λx y=>∀c d,jE out x=some c->jE out y=some d->K d<=K c:=by
    refine e3.imp λ{x y} h c d hx hy=>?_
    unfold Hs.uh at h
    rw[hx,hy]at h
    simp only[Option.getD_some]at h
    have:=Hj (hF.fP _ _ hx).2 (hF.fP _ _ hy).2 (by omega) (by omega)
    rw[this]at h
    omega
   obtain⟨left,r1,hL⟩:=vT hW hok hF hB (o4:=[]) Vu aq Vt hsort qk 0 (left:=[]) (by omega) (by unfold qk;omega) (by rw[List.take_zero];exact uA.nil)
   have Me:gH qk ((to,a,(ys.length:Int),0,()),(([]:List sv),(some []:Option (List (XK×XK))),ys,()),())=some ((to,a,()),(([]:List sv),(some left:Option (List (XK×XK))),()),()):=r1
   rw[Me]
   simp only[dk]
   have hall:∀q,lK (jP a) out to best q->q∈ys:=λq hq=>(Vt q).2 (hq.le hW hF)
   have r2:=EP hW hok hF hL Vu hall (λp hp w hw=>⟨(hA.way hp hw).2.2.2.2.1,(hA.way hp hw).2.2.2.2.2.1⟩) 401 qk (by unfold qk;omega) gZ aaY.1 (by omega) (by simp) hr
   rw[r2]
   simp only[dk,Gn,Gh,Gg]
  have hl8:out.length<qk:=by unfold qk;omega
  refine LJ (vP okb qk hF.keys VH hl8 (by simp only[List.length_nil];omega) λy hy=>rest y (by simpa using hy)) λS hS=>?_
  obtain⟨y,hy,hSy⟩:=Eg okb qk hF.keys VH hl8 (by simp only[List.length_nil];omega) hS
  exact⟨_,rest y (by simpa using hy),hSy⟩
theorem qk6(hA:FM a){out:List (Pt×Pt)}{to:Int}{best:Pt}{r:List sv}(h:rf a out to best=some r):∀g∈r,0<=g.1/\g.1<a.1.2.length/\0<=g.2/\g.2<=1000000:=by
 intro g hg
 have hr:=hA.ready
 rcases qn2 hA.wok (R:=a.1.2.length) (λp hp w hw=>(hA.way hp hw).2.2.2.2) 401 hA.ow hr.1 h g hg with h1|h1
 ·cases h1
 ·omega
end
end Go.Proofs.Tryz.V.Cv
