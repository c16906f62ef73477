/- drive, plain: whatever order its maps come in, it gives one journey of small legs. No condition beyond those typed in each theorem. -/
import Derived.Test.YtmlocmhkfnojbaaD8
namespace Go.Proofs.Try.V.Cv
open Go.Vi Go.Proofs Go.RowKit
set_option maxRecDepth 100000
structure AOK (a:Atl):Prop where
 towns:1<=a.1.1.length/\a.1.1.length<=5
 roads:a.1.2.length<=8
 road:∀r∈a.1.2,0<=r.1/\r.1<a.1.1.length/\0<=r.2.1/\r.2.1<a.1.1.length/\r.1≠r.2.1/\1<=r.2.2.1/\r.2.2.1<=500/\0<=r.2.2.2.1/\r.2.2.2.1<=1000/\0<=r.2.2.2.2/\r.2.2.2.2<=1000
 start:0<=a.2.2.2.1/\a.2.2.2.1<a.1.1.length
 ready:0<=a.2.2.2.2.1/\a.2.2.2.2.1<=2000
 drive:1<=a.2.2.2.2.2.1/\a.2.2.2.2.2.1<=60
 rest:1<=a.2.2.2.2.2.2/\a.2.2.2.2.2.2<=500
def Ul(n:Nat):List Pt:=(List.range n).flatMap λ(t:Nat)=>(List.range 61).map λ(u:Nat)=>((t:Int),(u:Int))
theorem qiv{n:Nat}{p:Pt}:p∈Ul n↔0<=p.1/\p.1<n/\0<=p.2/\p.2<=60:=by
 unfold Ul
 simp only[List.mem_flatMap,List.mem_range,List.mem_map]
 constructor
 ·rintro⟨t,ht,u,hu,rfl⟩
  simp only
  omega
 ·rintro⟨h1,h2,h3,h4⟩
  exact⟨p.1.toNat,by omega,p.2.toNat,by omega,Prod.ext (by simp only;omega) (by simp only;omega)⟩
theorem qj7:∀n:Nat,(Ul n).length=n*61
 |0=>rfl
 |n+1=>by
  have h:Ul (n+1)=Ul n++(List.range 61).map λ(u:Nat)=>((n:Int),(u:Int)):=by
   unfold Ul
   rw[List.range_succ (n:=n),List.flatMap_append]
   simp
  rw[h,List.length_append,qj7 n,List.length_map,List.length_range]
  omega
theorem qk2{pk:Bool}{lo:Lor}{t u:Int}{w:Way}:∀{j:Nat} {rs:List qb6},w∈Wy.wayL pk lo t u j rs->∃i r,rs[i]? = some r/\w∈Wy.wayR pk lo t u (j+i) r
 |_,[],h=>by cases h
 |j,r::rs,h=>by
  unfold Wy.wayL at h
  rcases List.mem_append.1 h with h|h
  ·exact⟨0,r,rfl,h⟩
  ·obtain⟨i,r',h1,h2⟩:=qk2 h
   exact⟨i+1,r',by simpa using h1,by rw[show j+(i+1)=j+1+i by omega];exact h2⟩
theorem wayR_len(pk:Bool)(lo:Lor)(t u:Int)(j:Nat)(r:qb6):(Wy.wayR pk lo t u j r).length<=2:=by
 unfold Wy.wayR
 split
 ·rw[List.length_append]
  split<;>split<;>simp
 ·simp
theorem qk3{pk:Bool}{lo:Lor}{t u:Int}:∀(j:Nat) (rs:List qb6),(Wy.wayL pk lo t u j rs).length<=2*rs.length
 |_,[]=>Nat.le_refl _
 |j,r::rs=>by
  unfold Wy.wayL
  have h1:=wayR_len pk lo t u j r
  have h2:=qk3 (pk:=pk) (lo:=lo) (t:=t) (u:=u) (j+1) rs
  rw[List.length_append,List.length_cons]
  omega
theorem wayR_mem{pk:Bool}{lo:Lor}{t u:Int}{w:Way}{j:Nat}{r:qb6}(h:w∈Wy.wayR pk lo t u j r):(r.1=t\/r.2.1=t)/\w.1=j/\(wto w).1=r.1+r.2.1-t/\
  ((u+r.2.2.1<=lo.2.2.2.2.1/\w.2.1=0/\(wto w).2=u+r.2.2.1/\wc w=(r.2.2.1,1))\/(r.2.2.1<=lo.2.2.2.2.1/\w.2.1=lo.2.2.2.2.2/\(wto w).2=r.2.2.1/\wc w=(lo.2.2.2.2.2+r.2.2.1,1))):=by
 unfold Wy.wayR at h
 split at h
 ·rename_i h0
  refine⟨h0.1,?_⟩
  rcases List.mem_append.1 h with h|h
  ·split at h
   ·rename_i h1
    have:w=((j:Int),0,(r.1+r.2.1-t,u+r.2.2.1),(r.2.2.1,1)):=by simpa using h
    subst this
    exact⟨rfl,rfl,.inl ⟨h1,rfl,rfl,rfl⟩⟩
   ·cases h
  ·split at h
   ·rename_i h1
    have:w=((j:Int),lo.2.2.2.2.2,(r.1+r.2.1-t,r.2.2.1),(lo.2.2.2.2.2+r.2.2.1,1)):=by simpa using h
    subst this
    exact⟨rfl,rfl,.inr ⟨h1.2.2,rfl,rfl,rfl⟩⟩
   ·cases h
 ·cases h
section
variable {a:Atl}
theorem AOK.way(hA:AOK a){p:Pt}(hp:p∈Ul a.1.1.length){w:Way}(hw:w∈qQ a p):wto w∈Ul a.1.1.length/\1<=(wc w).1/\(wc w).1<=1000/\(wc w).2=1/\0<=w.2.1/\w.2.1<=1000/\0<=w.1/\w.1<a.1.2.length:=by
 unfold qQ at hw
 obtain⟨i,r,hi,hr⟩:=qk2 hw
 obtain⟨h1,h2,h3,h4⟩:=wayR_mem hr
 have hil:=(List.getElem?_eq_some_iff.1 hi).1
 have hrd:=hA.road r (List.mem_of_getElem? hi)
 have ht:=hA.towns
 have hdr:=hA.drive
 have hre:=hA.rest
 rw[qiv]at hp ⊢
 rcases h4 with⟨h5,h6,h7,h8⟩|⟨h5,h6,h7,h8⟩<;>(rw[h2,h3,h6,h7,h8];simp only;refine⟨⟨?_,?_,?_,?_⟩,?_,?_,?_,?_,?_,?_,?_⟩<;>first|trivial|omega)
theorem AOK.start_mem(hA:AOK a):(a.2.2.2.1,(0:Int))∈Ul a.1.1.length:=by
 have:=hA.start
 have:=hA.towns
 rw[qiv]
 simp only
 omega
theorem AOK.wok(hA:AOK a):WOK (qQ a) (a.2.2.2.1,0) (Ul a.1.1.length) where
 to p hp w hw:=(hA.way hp hw).1
 cost p hp w hw:=⟨(hA.way hp hw).2.1,(hA.way hp hw).2.2.1,(hA.way hp hw).2.2.2.1⟩
 len p hp:=by
  have h1:=qk3 (pk:=Wy.pkOf a.1.1 p.1) (lo:=a.2) (t:=p.1) (u:=p.2) 0 a.1.2
  have h2:=hA.roads
  unfold qQ
  omega
 beg:=hA.start_mem
 small:=by rw[qj7];have:=hA.towns;omega
 pl p hp:=by rw[qiv]at hp;have:=hA.towns;omega
theorem AOK.okW(hA:AOK a){p:Pt}(hp:p∈Ul a.1.1.length):Wy.okW a p:=by
 rw[qiv]at hp
 have h4:=hA.towns
 have ht:=hp.2.1
 have h1:=hA.drive
 have h2:=hA.rest
 have h3:=hA.roads
 refine⟨hp.1,ht,?_,?_,?_,?_,λr hr=>?_,by omega⟩
 ·unfold Wy.bdd;omega
 ·unfold Wy.bdd;omega
 ·unfold Wy.bdd;omega
 ·unfold Wy.bdd;omega
 ·have:=hA.road r hr
  unfold Wy.bdd
  omega
open Classical in
noncomputable def journey(a:Atl)(out:List (Pt×Pt))(to:Int)(best:Pt):Option (List Leg):=jr (qQ a) out to best 401 (a.2.2.2.1,0) a.2.2.2.2.1 []
theorem fil_mem{out:List (Pt×Pt)}{b:Pt}{U:List Pt}{W:Pt->List Way}(hF:Fin W b U out){best p:Pt}:p∈fil best out↔∃c,qX out p=some c/\K c<=K best:=by
 unfold fil
 simp only[List.mem_map,List.mem_filter,decide_eq_true_eq]
 constructor
 ·rintro⟨u,⟨h1,h2⟩,rfl⟩
  exact⟨u.2,hF.mem h1,h2⟩
 ·rintro⟨c,h1,h2⟩
  exact⟨(p,c),⟨qky h1,h2⟩,rfl⟩
theorem qoc{out:List (Pt×Pt)}(h:(out.map (·.1)).Nodup)(best:Pt):(fil best out).Nodup:=by
 unfold fil
 exact(List.filter_sublist.map _).nodup h
theorem fil_len(out:List (Pt×Pt))(best:Pt):(fil best out).length<=out.length:=by
 unfold fil
 rw[List.length_map]
 exact List.length_filter_le _ _
theorem g22_ok(hA:AOK a)(to:Int):(∃out best r,Fin (qQ a) (a.2.2.2.1,0) (Ul a.1.1.length) out/\Best out to best/\journey a out to best=some r/\g22 (a,to,())=some ((r,true,()),()))\/((∃out,Fin (qQ a) (a.2.2.2.1,0) (Ul a.1.1.length) out/\∀p c,qX out p=some c->p.1≠to)/\g22 (a,to,())=some (([],false,()),())):=by
 have hW:=hA.wok
 have hok:∀p∈Ul a.1.1.length,Wy.okW a p:=λp hp=>hA.okW hp
 obtain⟨out,h54,hF⟩:=g38_ok hW hok
 obtain⟨best,is,h53,ht,hf⟩:=g37_ok hW hF h54 to
 cases is with
 |false=>
  right
  refine⟨⟨out,hF,hf rfl⟩,?_⟩
  unfold g22 F22
  simp only
  rw[h53]
  rfl
 |true=>
  left
  obtain⟨hB,okb⟩:=ht rfl
  have hgb:=qlF hW hF hB
  obtain⟨r,hr⟩:=qnt hW hF 401 (a.2.2.2.1,0) (0,0) a.2.2.2.2.1 [] hF.beg hgb (by simp only;omega)
  refine⟨out,best,r,hF,hB,hr,?_⟩
  have hrdy:=hA.ready
  have hoks:∀u∈out,okC 400 u.2:=λu hu=>(hF.bnd _ _ (hF.mem hu)).2
  have hlen:=qiq hF hW
  have hfl:=fil_len out best
  unfold g22 F22
  simp only
  rw[h53]
  simp only[dk,Bool.not_true,cond_false]
  rw[h54]
  simp only[dk]
  have rest:∀y:List Pt,y.Perm (fil best out)->(qa ((Hs.srt (some out) y).map λl=>((),(l,()))) λy8=>qa (L22_14 qn ((to,a,(y8.2.1.length:Int),0,()),(([]:List Leg),(some []:Option (List (XK×XK))),y8.2.1,()),())) λo16=>qcE (qa (L22_27 qn ((o16.1.1,o16.1.2.1,()),(o16.2.1.1,o16.2.1.2.1,(o16.1.2.1.2.2.2.1,0),o16.1.2.1.2.2.2.2.1,()),())) λo22=>some ((o22.2.1.1,true,()),())) λE=>qc [qc [E,E],qc [E,E],qc [E,E]])=some (((r,true,()):(List Leg)×Bool×Unit),()):=by
   intro y hy
   have hyl:y.length<=400:=by rw[hy.length_eq];omega
   have hym:∀p,p∈y↔∃c,qX out p=some c/\K c<=K best:=λp=>by rw[hy.mem_iff,fil_mem hF]
   have hbm:(a.2.2.2.1,(0:Int))∈y:=by
    obtain⟨c,h1,h2⟩:=hgb.le hW hF
    exact(hym _).2 ⟨c,h1,h2⟩
   obtain⟨ys,e1,e2,e3⟩:=Hs.srt_some (m:=out) (l:=y) (by omega) (λp hp=>by
    obtain⟨c,h1,h2⟩:=(hym p).1 hp
    obtain⟨hU,hc⟩:=hF.bnd p c h1
    have hpl:=hW.pl p hU
    unfold Hs.okP Hs.inS
    rw[h1]
    simp only[Option.getD_some]
    unfold okC at hc
    exact⟨qeH.2 (by omega),qeH.2 (by omega),by omega,by omega⟩) (λe=>by rw[e]at hbm;cases hbm)
   rw[e1]
   simp only[Option.map_some,dk]
   have hysm:∀p,p∈ys↔∃c,qX out p=some c/\K c<=K best:=λp=>by rw[e2.mem_iff,hym]
   have hysl:ys.length<=400:=by rw[e2.length_eq];exact hyl
   have hnd:ys.Nodup:=(e2.nodup_iff).2 (hy.nodup_iff.2 (qoc hF.keys best))
   have hsort:ys.Pairwise λx y=>∀c d,qX out x=some c->qX out y=some d->K d<=K c:=by
    refine e3.imp λ{x y} h c d hx hy=>?_
    unfold Hs.cfP at h
    rw[hx,hy]at h
    simp only[Option.getD_some]at h
    have:=qeb (hF.bnd _ _ hx).2 (hF.bnd _ _ hy).2 (by omega) (by omega)
    rw[this]at h
    omega
   obtain⟨left,r1,hL⟩:=L13_ok hW hok hF hB (o4:=[]) hysl hnd hysm hsort qn 0 (left:=[]) (by omega) (by unfold qn;omega) (by rw[List.take_zero];exact qff.nil)
   have r1':L22_14 qn ((to,a,(ys.length:Int),0,()),(([]:List Leg),(some []:Option (List (XK×XK))),ys,()),())=some ((to,a,()),(([]:List Leg),(some left:Option (List (XK×XK))),()),()):=r1
   rw[r1']
   simp only[dk]
   have hall:∀q,qcH (qQ a) out to best q->q∈ys:=λq hq=>(hysm q).2 (hq.le hW hF)
   have r2:=L29_ok hW hok hF hL hysl hall (λp hp w hw=>⟨(hA.way hp hw).2.2.2.2.1,(hA.way hp hw).2.2.2.2.2.1⟩) 401 qn (by unfold qn;omega) hgb hrdy.1 (by omega) (by simp) hr
   rw[r2]
   simp only[dk,qbs,qaf,qag]
  have hl8:out.length<qn:=by unfold qn;omega
  refine wpK_of (L7_all okb qn hF.keys hoks hl8 (by simp only[List.length_nil];omega) λy hy=>rest y (by simpa using hy)) λS hS=>?_
  obtain⟨y,hy,hSy⟩:=L7_ex okb qn hF.keys hoks hl8 (by simp only[List.length_nil];omega) hS
  exact⟨_,rest y (by simpa using hy),hSy⟩
end
end Go.Proofs.Try.V.Cv
