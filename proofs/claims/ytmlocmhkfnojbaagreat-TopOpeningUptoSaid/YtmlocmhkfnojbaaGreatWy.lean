/- The iterator of convoy's ways, and the function that makes it. No condition beyond those typed in each theorem. -/
import Derived.Test.YtmlocmhkfnojbaaGreatVi40
import Derived.Test.YtmlocmhkfnojbaaGreatProg
import Derived.RangeFuncBox
import Derived.RangeFuncLeaves
import Derived.Shelf.Abstract
import Derived.WalkKit
import Derived.OwnWalkIn
import Derived.TacticsInMore
import Derived.LoopNIn
import Derived.LoopIn
namespace Go.Proofs.Tryz.Wy
open Go.RowKit Go.Shelf Go.Proofs
attribute [local go_sem] Oper.semAt_some
def intOf:Value->Int
  |.int _ n=>n
  |_=>0
set_option maxHeartbeats 1000000 in
theorem Lp(r0 r1 r2 r3 r4 l0 l1 l2 l3 l4 l5:Int)(W:World):CallsIn Fence.wide 0 Tryz.prog 80 #[.agg #[.int .i64 r0,.int .i64 r1,.int .i64 r2,.int .i64 r3,.int .i64 r4],.agg #[.int .i64 l0,.int .i64 l1,.int .i64 l2,.int .i64 l3,.int .i64 l4,.int .i64 l5]] W λe w'=>
    e = .returned (.bool (decide (l0<=r3/\l1<=r4)))/\∃o1 o2,w'=(W.alloc o1).alloc o2:=by
  refine callsIn_of_wp Tryz.func80 rfl trivial ?_ rfl
  simp only[Tryz.ntmps80,List.size_toArray,List.length_cons,List.length_nil,Nat.reduceAdd,Nat.reduceSub,Array.replicate_succ,Array.replicate_zero,List.push_toArray,List.append_toArray,List.nil_append,List.cons_append]
  by_cases h0:l0<=r3
  · by_cases h1:l1<=r4
    · gi_wp2
      go_ret
      exact⟨by simp[h0,h1],_,_,rfl⟩
    · gi_wp2
      go_ret
      exact⟨by simp[h1],_,_,rfl⟩
  · gi_wp2
    go_ret
    exact⟨by simp;omega,_,_,rfl⟩
theorem Rt(W:World)(arr:Array Value)(T:TypeId)(i:Nat):(W.alloc (.cells arr T)).cell? ⟨W.heap.size,i,none⟩=arr[i]?:=by
  have h:(W.alloc (.cells arr T)).heap[W.heap.size]? = some (.cells arr T (0,0)):=World.alloc_heap_new W _
  unfold World.cell?
  rw[h]
  simp
def nI(i rest aab used Tb aaM:Int):Value:=.agg #[.int .i64 i,.int .i64 rest,.int .i64 aab,.int .i64 used,.int .i64 Tb,.int .i64 aaM]
def rK(x:Int):Prop:=-1000000000<=x/\x<=1000000000
open Go.Vi in
set_option maxRecDepth 100000 in
set_option maxHeartbeats 8000000 in
theorem SP(Ab ao Fb fo rb ro pb po n np abY abZ:Nat)(sa:Option Addr)(z:Nat->Nat->Int)(l0 l1 l2 l3 l4 l5:Int)(pk:Bool)(t u:Int)(N:Nat)(pre:Nat->Nat)(wv:Nat->Value){H:FH}{w:World}(hok:cI H w)
    (oa:∃c,H Ab=some c) (yz:∃c,H Fb=some c) (hHr:n=0\/sa=some ⟨rb,ro,none⟩/\∃c,H rb=some c) (hHp:∃c,H pb=some c)
    (hP:w.cell? ⟨Ab,ao,none⟩=some (.slice (some ⟨pb,po,none⟩) np abZ)) (hR:w.cell? ⟨Ab,ao+1,none⟩=some (.slice sa n abY))
    (hL0:w.cell? ⟨Ab,ao+2,none⟩=some (.int .i64 l0)) (hL1:w.cell? ⟨Ab,ao+2+1,none⟩=some (.int .i64 l1)) (hL2:w.cell? ⟨Ab,ao+2+2,none⟩=some (.int .i64 l2)) (hL3:w.cell? ⟨Ab,ao+2+3,none⟩=some (.int .i64 l3)) (IU:w.cell? ⟨Ab,ao+2+4,none⟩=some (.int .i64 l4)) (WA:w.cell? ⟨Ab,ao+2+5,none⟩=some (.int .i64 l5))
    (Oe:w.cell? ⟨Fb,fo,none⟩=some (.int .i64 t)) (Su:w.cell? ⟨Fb,fo+1,none⟩=some (.int .i64 u))
    (hrd:∀j i,j<n->i<5->w.cell? ⟨rb,ro+j*5+i,none⟩=some (.int .i64 (z j i))) (hpk:w.cell? ⟨pb,po+t.toNat,none⟩=some (.bool pk))
    (ht0:0<=t) (ht1:t<np) (bt:rK t) (bu:rK u) (b4:rK l4) (b5:rK l5) (bz:∀j i,j<n->rK (z j i)) (hn:n<=1000000000)
    (p0:pre 0=0) (pN:pre n=N)
    (hno:∀j,j<n->¬((z j 0=t\/z j 1=t)/\l0<=z j 3/\l1<=z j 4)->pre (j+1)=pre j)
    (Vv:∀j,j<n->(z j 0=t\/z j 1=t)->(l0<=z j 3/\l1<=z j 4)->
      (u+z j 2<=l4->pre j<N/\wv (pre j)=nI j 0 (z j 0+z j 1-t) (u+z j 2) (z j 2) 1)/\
      (pk=true->0<u->z j 2<=l4->∀k,k=pre j+(if u+z j 2<=l4 then 1 else 0)->k<N/\wv k=nI j l5 (z j 0+z j 1-t) (z j 2) (l5+z j 2) 1)/\
      pre (j+1)=pre j+(if u+z j 2<=l4 then 1 else 0)+(if pk=true/\0<u/\z j 2<=l4 then 1 else 0)):
    qnN Tryz.prog 79 #[.pointer (some ⟨Ab,ao,none⟩),.pointer (some ⟨Fb,fo,none⟩)] N (λk=>#[wv k]) H (λ_=>False) w:=by
  intro l J Jx W hW hJ hJx hY h0
  have Sr:∀b c,H b=some c->W.heap[b]? = w.heap[b]?:=λb c hb=>hW.block b (hok.lt hb)
  have dH:∀{b q:Nat} {v:Value} {U:World},(∃c,H b=some c)->(∀b c,H b=some c->U.heap[b]? = W.heap[b]?)->w.cell? ⟨b,q,none⟩=some v->U.cell? ⟨b,q,none⟩=some v:=by
    rintro b q v U ⟨c,hc⟩ hU h
    exact(World.cell?_of_block (a:=⟨b,q,none⟩) ((hU b c hc).trans (Sr b c hc))).trans h
  have key:∀{U:World} {k:Nat} {O:Nat->Prop} {o:Obj},J k O U->J k (λb=>O b\/b=U.heap.size) (U.alloc o):=by
    intro U k O o h
    refine hJ _ _ _ _ _ h ⟨none,World.grownBy_alloc _ _ none,λr e=>(by cases e),λb=>?_⟩
    rw[World.size_alloc]
    exact or_congr Iff.rfl (by omega)
  obtain⟨bt1,bt2⟩:=bt
  obtain⟨bu1,bu2⟩:=bu
  obtain⟨b41,b42⟩:=b4
  obtain⟨b51,b52⟩:=b5
  refine(callsIn_wide (n:=1)).1 (callsIn_of_wp Tryz.func79 rfl trivial ?_ rfl)
  simp only[Tryz.ntmps79,List.size_toArray,List.length_cons,List.length_nil,Nat.reduceAdd,Nat.reduceSub,Array.replicate_succ,Array.replicate_zero,List.push_toArray,List.append_toArray,List.nil_append,List.cons_append]
  have hWW:∀b c,H b=some c->W.heap[b]? = W.heap[b]?:=λ_ _ _=>rfl
  have cR:=dH oa hWW hR
  gi_wp2
  gi_loopw [12] (λi wr=>∃(j:Nat) (O:Nat->Prop),j<=n/\i = .int .i64 (j:Int)/\J (pre j) O wr/\(∀b c,H b=some c->wr.heap[b]? = W.heap[b]?)) (λi _=>((n:Int)-intOf i).toNat)
  case atStart=>exact⟨0,_,Nat.zero_le _,rfl,by rw[p0];exact h0,λ_ _ _=>rfl⟩
  case round=>
    obtain⟨j,O,hj,rfl,IV,si⟩:=hrel
    by_cases hlt:j<n
    · obtain⟨rfl,CP⟩:sa=some ⟨rb,ro,none⟩/\∃c,H rb=some c:=by
        rcases hHr with h|h
        · omega
        · exact h
      have zB:∀b c,H b=some c->b<wr.heap.size:=λb c hb=>by
        have h3:=si b c hb
        rw[Sr b c hb]at h3
        have h4:=hok.lt hb
        rw[Array.getElem?_eq_getElem h4]at h3
        exact(Array.getElem?_eq_some_iff.1 h3).1
      have IE:(j:Int)<n:=by omega
      have sc:(n:Int)<=1000000000:=by omega
      have cF0:=dH yz si Oe
      have cL0:=dH oa si hL0
      have cL1:=dH oa si hL1
      have cL2:=dH oa si hL2
      have cL3:=dH oa si hL3
      have cL4:=dH oa si IU
      have cL5:=dH oa si WA
      have c0:wr.cell? ⟨rb,ro+j*5,none⟩=_:=dH CP si (hrd j 0 hlt (by omega))
      have c1:wr.cell? ⟨rb,ro+j*5+1,none⟩=_:=dH CP si (hrd j 1 hlt (by omega))
      have c2:wr.cell? ⟨rb,ro+j*5+2,none⟩=_:=dH CP si (hrd j 2 hlt (by omega))
      have c3:wr.cell? ⟨rb,ro+j*5+3,none⟩=_:=dH CP si (hrd j 3 hlt (by omega))
      have c4:wr.cell? ⟨rb,ro+j*5+4,none⟩=_:=dH CP si (hrd j 4 hlt (by omega))
      obtain⟨z01,z02⟩:=bz j 0 hlt
      obtain⟨z11,z12⟩:=bz j 1 hlt
      obtain⟨z21,z22⟩:=bz j 2 hlt
      have al:∀(o:Go.Obj) {b q:Nat} {v:Value},wr.cell? ⟨b,q,none⟩=some v->(wr.alloc o).cell? ⟨b,q,none⟩=some v:=λo b q v h=>(World.cell?_of_block (a:=⟨b,q,none⟩) (heap_alloc_old wr o (World.block_lt_of_cell? wr ⟨b,q,none⟩ h))).trans h
      by_cases hA:z j 0=t
      · obtain⟨oX,KP⟩:∃oX,oX=Obj.cells #[.int .i64 t,.int .i64 (z j 1),.int .i64 (z j 2),.int .i64 (z j 3),.int .i64 (z j 4)] 102:=⟨_,rfl⟩
        have Xw:=al oX cF0
        have aL0:=al oX cL0
        have aL1:=al oX cL1
        have aL2:=al oX cL2
        have aL3:=al oX cL3
        have aL4:=al oX cL4
        have aL5:=al oX cL5
        rw[KP]at Xw aL0 aL1 aL2 aL3 aL4 aL5
        clear KP
        gi_wp2
        refine⟨trivial,(Lp _ _ _ _ _ _ _ _ _ _ _ _).mono ?_⟩
        rintro e U0 ⟨rfl,o1,o2,rfl⟩
        obtain⟨U,hU⟩:∃U,((wr.alloc (.cells #[.int .i64 t,.int .i64 (z j 1),.int .i64 (z j 2),.int .i64 (z j 3),.int .i64 (z j 4)] 102)).alloc o1).alloc o2=U:=⟨_,rfl⟩
        rw[hU]
        obtain⟨X,hX⟩:∃X,wr.heap.size=X:=⟨_,rfl⟩
        have Ww:X<(wr.alloc (.cells #[.int .i64 t,.int .i64 (z j 1),.int .i64 (z j 2),.int .i64 (z j 3),.int .i64 (z j 4)] 102)).heap.size:=by rw[World.size_alloc];omega
        have GC:=key (o:=o2) (key (o:=o1) (key (o:=.cells #[.int .i64 t,.int .i64 (z j 1),.int .i64 (z j 2),.int .i64 (z j 3),.int .i64 (z j 4)] 102) IV))
        rw[hU]at GC
        obtain⟨O',yx,hOX⟩:∃O':Nat->Prop,J (pre j) O' U/\O' X:=⟨_,GC,Or.inl (Or.inl (Or.inr hX.symm))⟩
        have iB:∀b c,H b=some c->U.heap[b]? = W.heap[b]?:=λb c hb=>by
          have zB:b<wr.heap.size:=by
            have h3:=si b c hb
            rw[Sr b c hb]at h3
            have h4:=hok.lt hb
            rw[Array.getElem?_eq_getElem h4]at h3
            exact(Array.getElem?_eq_some_iff.1 h3).1
          rw[<-hU]
          exact(heap_alloc_old _ _ (by rw[World.size_alloc,World.size_alloc];omega)).trans ((heap_alloc_old _ _ (by rw[World.size_alloc];omega)).trans ((heap_alloc_old _ _ zB).trans (si b c hb)))
        have N':∀q,U.cell? ⟨X,q,none⟩=(#[.int .i64 t,.int .i64 (z j 1),.int .i64 (z j 2),.int .i64 (z j 3),.int .i64 (z j 4)]:Array Value)[q]?:=λq=>by
          rw[<-Rt wr _ 102 q,hX,<-hU]
          exact(World.cell?_of_block (a:=⟨X,q,none⟩) (heap_alloc_old _ _ (by rw[World.size_alloc];exact Nat.lt_succ_of_lt Ww))).trans (World.cell?_of_block (a:=⟨X,q,none⟩) (heap_alloc_old _ _ Ww))
        have x0:=N' 0
        have x1:=N' 1
        have x2:=N' 2
        simp only[List.getElem?_toArray,List.getElem?_cons_zero,List.getElem?_cons_succ]at x0 x1 x2
        have dF0:=dH yz iB Oe
        have dF1:=dH yz iB Su
        have dL4:=dH oa iB IU
        rw[hX]
        by_cases hfit:l0<=z j 3/\l1<=z j 4
        · rw[show decide (l0<=z j 3/\l1<=z j 4)=true from by simpa using hfit]
          obtain⟨y1,y2,y3⟩:=Vv j hlt (.inl hA) hfit
          rcases Int.lt_or_le l4 (u+z j 2)with h1|h1
          rotate_left
          · obtain⟨k1,e1⟩:=y1 h1
            obtain⟨fn,tmps,assign,body,hy,hRR⟩:=hY 0 (pre j) O' U k1 yx
            rw[e1]at hy
            simp only[nI,hA]at hy
            gi_wp2
            refine hRR.mono ?_
            rintro e V ⟨_,⟨rfl,Od,VY,KU⟩|⟨rfl,hx⟩⟩
            · have rz:∀b c,H b=some c->V.heap[b]? = W.heap[b]?:=λb c hb=>(VY b c hb).trans (iB b c hb)
              have x2V:V.cell? ⟨X,2,none⟩=some (.int .i64 (z j 2)):=(World.cell?_of_block (a:=⟨X,2,none⟩) (KU X hOX)).trans x2
              have ab4:=dH yz rz Su
              have ab6:=dH yz rz Oe
              have cPV:=dH oa rz hP
              have abV:=dH hHp rz hpk
              have ab2:=dH oa rz IU
              have ab0:=dH oa rz WA
              dsimp only
              by_cases hp:pk=true
              · rcases Int.lt_or_le 0 u with hu|hu
                · rcases Int.lt_or_le l4 (z j 2)with h2|h2
                  · exact absurd h2 (by omega)
                  · obtain⟨k2,e2⟩:=y2 hp hu h2 (pre j+1) (by rw[if_pos h1]<;>rfl)
                    obtain⟨bQ,Ac,assign2,body2,hy2,Oa⟩:=hY 0 (pre j+1) O' V k2 Od
                    rw[e2]at hy2
                    simp only[nI,hA]at hy2
                    gi_wp2
                    refine Oa.mono ?_
                    rintro e V2 ⟨_,⟨rfl,IW,vr,_⟩|⟨rfl,hx⟩⟩
                    · gi_wp2
                      go_roundw
                      case rel=>exact⟨j+1,O',by omega,by simp,by rw[show pre (j+1)=pre j+1+1 from by rw[y3,if_pos h1,if_pos ⟨hp,hu,h2⟩]<;>rfl];exact IW,λb c hb=>(vr b c hb).trans (rz b c hb)⟩
                      case measure=>simp[intOf];omega
                    · gi_wp2
                      refine bodyPost_ret (results_none rfl _ _ _) rfl ?_
                      exact⟨⟨_,rfl⟩,.inr ⟨_,_,hx⟩⟩
                · gi_wp2
                  try (refine⟨λ_ h=>(by cases h),?_⟩;gi_wp2)
                  try go_roundw
                  case rel=>exact⟨j+1,O',by omega,by simp,by rw[show pre (j+1)=pre j+1 from by rw[y3,if_pos h1,if_neg (λh=>absurd h.2.1 (by omega))]<;>rfl];exact Od,rz⟩
                  case measure=>simp[intOf];omega
              · have hp:pk=false:=by simpa using hp
                gi_wp2
                try (refine⟨λ_ h=>(by cases h),?_⟩;gi_wp2)
                try go_roundw
                case rel=>exact⟨j+1,O',by omega,by simp,by rw[show pre (j+1)=pre j+1 from by rw[y3,if_pos h1,if_neg (λh=>by rw[hp]at h;cases h.1)]<;>rfl];exact Od,rz⟩
                case measure=>simp[intOf];omega
            · gi_wp2
              refine bodyPost_ret (results_none rfl _ _ _) rfl ?_
              exact⟨⟨_,rfl⟩,.inr ⟨_,_,hx⟩⟩
          · gi_wp2
            try (refine⟨λ_ h=>(by cases h),?_⟩)
            have ab5:=dH yz iB Su
            have ab7:=dH yz iB Oe
            have cPU:=dH oa iB hP
            have abW:=dH hHp iB hpk
            have ab3:=dH oa iB IU
            have ab1:=dH oa iB WA
            by_cases hp:pk=true
            · rcases Int.lt_or_le 0 u with hu|hu
              · rcases Int.lt_or_le l4 (z j 2)with h2|h2
                · gi_wp2
                  try (refine⟨λ_ h=>(by cases h),?_⟩;gi_wp2)
                  try go_roundw
                  case rel=>exact⟨j+1,O',by omega,by simp,by rw[show pre (j+1)=pre j from by rw[y3,if_neg (by omega),if_neg (λh=>absurd h.2.2 (by omega))]<;>rfl];exact yx,iB⟩
                  case measure=>simp[intOf];omega
                · obtain⟨k2,e2⟩:=y2 hp hu h2 (pre j) (by rw[if_neg (by omega)]<;>rfl)
                  obtain⟨bQ,Ac,assign2,body2,hy2,Oa⟩:=hY 0 (pre j) O' U k2 yx
                  rw[e2]at hy2
                  simp only[nI,hA]at hy2
                  gi_wp2
                  refine Oa.mono ?_
                  rintro e V2 ⟨_,⟨rfl,IW,vr,_⟩|⟨rfl,hx⟩⟩
                  · gi_wp2
                    go_roundw
                    case rel=>exact⟨j+1,O',by omega,by simp,by rw[show pre (j+1)=pre j+1 from by rw[y3,if_neg (by omega),if_pos ⟨hp,hu,h2⟩]<;>rfl];exact IW,λb c hb=>(vr b c hb).trans (iB b c hb)⟩
                    case measure=>simp[intOf];omega
                  · gi_wp2
                    refine bodyPost_ret (results_none rfl _ _ _) rfl ?_
                    exact⟨⟨_,rfl⟩,.inr ⟨_,_,hx⟩⟩
              · gi_wp2
                try (refine⟨λ_ h=>(by cases h),?_⟩;gi_wp2)
                try go_roundw
                case rel=>exact⟨j+1,O',by omega,by simp,by rw[show pre (j+1)=pre j from by rw[y3,if_neg (by omega),if_neg (λh=>absurd h.2.1 (by omega))]<;>rfl];exact yx,iB⟩
                case measure=>simp[intOf];omega
            · have hp:pk=false:=by simpa using hp
              gi_wp2
              try (refine⟨λ_ h=>(by cases h),?_⟩;gi_wp2)
              try go_roundw
              case rel=>exact⟨j+1,O',by omega,by simp,by rw[show pre (j+1)=pre j from by rw[y3,if_neg (by omega),if_neg (λh=>by rw[hp]at h;cases h.1)]<;>rfl];exact yx,iB⟩
              case measure=>simp[intOf];omega
        · rw[show decide (l0<=z j 3/\l1<=z j 4)=false from by simpa using hfit]
          gi_wp2
          go_roundw
          case rel=>exact⟨j+1,O',by omega,by simp,by rw[hno j hlt (λh=>hfit h.2)];exact yx,iB⟩
          case measure=>simp[intOf];omega
      · by_cases hB:z j 1=t
        · obtain⟨oX,KP⟩:∃oX,oX=Obj.cells #[.int .i64 (z j 0),.int .i64 t,.int .i64 (z j 2),.int .i64 (z j 3),.int .i64 (z j 4)] 102:=⟨_,rfl⟩
          have Xw:=al oX cF0
          have aL0:=al oX cL0
          have aL1:=al oX cL1
          have aL2:=al oX cL2
          have aL3:=al oX cL3
          have aL4:=al oX cL4
          have aL5:=al oX cL5
          rw[KP]at Xw aL0 aL1 aL2 aL3 aL4 aL5
          clear KP
          gi_wp2
          refine⟨trivial,(Lp _ _ _ _ _ _ _ _ _ _ _ _).mono ?_⟩
          rintro e U0 ⟨rfl,o1,o2,rfl⟩
          obtain⟨U,hU⟩:∃U,((wr.alloc (.cells #[.int .i64 (z j 0),.int .i64 t,.int .i64 (z j 2),.int .i64 (z j 3),.int .i64 (z j 4)] 102)).alloc o1).alloc o2=U:=⟨_,rfl⟩
          rw[hU]
          obtain⟨X,hX⟩:∃X,wr.heap.size=X:=⟨_,rfl⟩
          have Ww:X<(wr.alloc (.cells #[.int .i64 (z j 0),.int .i64 t,.int .i64 (z j 2),.int .i64 (z j 3),.int .i64 (z j 4)] 102)).heap.size:=by rw[World.size_alloc];omega
          have GC:=key (o:=o2) (key (o:=o1) (key (o:=.cells #[.int .i64 (z j 0),.int .i64 t,.int .i64 (z j 2),.int .i64 (z j 3),.int .i64 (z j 4)] 102) IV))
          rw[hU]at GC
          obtain⟨O',yx,hOX⟩:∃O':Nat->Prop,J (pre j) O' U/\O' X:=⟨_,GC,Or.inl (Or.inl (Or.inr hX.symm))⟩
          have iB:∀b c,H b=some c->U.heap[b]? = W.heap[b]?:=λb c hb=>by
            have zB:b<wr.heap.size:=by
              have h3:=si b c hb
              rw[Sr b c hb]at h3
              have h4:=hok.lt hb
              rw[Array.getElem?_eq_getElem h4]at h3
              exact(Array.getElem?_eq_some_iff.1 h3).1
            rw[<-hU]
            exact(heap_alloc_old _ _ (by rw[World.size_alloc,World.size_alloc];omega)).trans ((heap_alloc_old _ _ (by rw[World.size_alloc];omega)).trans ((heap_alloc_old _ _ zB).trans (si b c hb)))
          have N':∀q,U.cell? ⟨X,q,none⟩=(#[.int .i64 (z j 0),.int .i64 t,.int .i64 (z j 2),.int .i64 (z j 3),.int .i64 (z j 4)]:Array Value)[q]?:=λq=>by
            rw[<-Rt wr _ 102 q,hX,<-hU]
            exact(World.cell?_of_block (a:=⟨X,q,none⟩) (heap_alloc_old _ _ (by rw[World.size_alloc];exact Nat.lt_succ_of_lt Ww))).trans (World.cell?_of_block (a:=⟨X,q,none⟩) (heap_alloc_old _ _ Ww))
          have x0:=N' 0
          have x1:=N' 1
          have x2:=N' 2
          simp only[List.getElem?_toArray,List.getElem?_cons_zero,List.getElem?_cons_succ]at x0 x1 x2
          have dF0:=dH yz iB Oe
          have dF1:=dH yz iB Su
          have dL4:=dH oa iB IU
          rw[hX]
          by_cases hfit:l0<=z j 3/\l1<=z j 4
          · rw[show decide (l0<=z j 3/\l1<=z j 4)=true from by simpa using hfit]
            obtain⟨y1,y2,y3⟩:=Vv j hlt (.inr hB) hfit
            rcases Int.lt_or_le l4 (u+z j 2)with h1|h1
            rotate_left
            · obtain⟨k1,e1⟩:=y1 h1
              obtain⟨fn,tmps,assign,body,hy,hRR⟩:=hY 0 (pre j) O' U k1 yx
              rw[e1]at hy
              simp only[nI,hB,Int.add_sub_cancel]at hy
              gi_wp2
              refine hRR.mono ?_
              rintro e V ⟨_,⟨rfl,Od,VY,KU⟩|⟨rfl,hx⟩⟩
              · have rz:∀b c,H b=some c->V.heap[b]? = W.heap[b]?:=λb c hb=>(VY b c hb).trans (iB b c hb)
                have x2V:V.cell? ⟨X,2,none⟩=some (.int .i64 (z j 2)):=(World.cell?_of_block (a:=⟨X,2,none⟩) (KU X hOX)).trans x2
                have ab4:=dH yz rz Su
                have ab6:=dH yz rz Oe
                have cPV:=dH oa rz hP
                have abV:=dH hHp rz hpk
                have ab2:=dH oa rz IU
                have ab0:=dH oa rz WA
                dsimp only
                by_cases hp:pk=true
                · rcases Int.lt_or_le 0 u with hu|hu
                  · rcases Int.lt_or_le l4 (z j 2)with h2|h2
                    · exact absurd h2 (by omega)
                    · obtain⟨k2,e2⟩:=y2 hp hu h2 (pre j+1) (by rw[if_pos h1]<;>rfl)
                      obtain⟨bQ,Ac,assign2,body2,hy2,Oa⟩:=hY 0 (pre j+1) O' V k2 Od
                      rw[e2]at hy2
                      simp only[nI,hB,Int.add_sub_cancel]at hy2
                      gi_wp2
                      refine Oa.mono ?_
                      rintro e V2 ⟨_,⟨rfl,IW,vr,_⟩|⟨rfl,hx⟩⟩
                      · gi_wp2
                        go_roundw
                        case rel=>exact⟨j+1,O',by omega,by simp,by rw[show pre (j+1)=pre j+1+1 from by rw[y3,if_pos h1,if_pos ⟨hp,hu,h2⟩]<;>rfl];exact IW,λb c hb=>(vr b c hb).trans (rz b c hb)⟩
                        case measure=>simp[intOf];omega
                      · gi_wp2
                        refine bodyPost_ret (results_none rfl _ _ _) rfl ?_
                        exact⟨⟨_,rfl⟩,.inr ⟨_,_,hx⟩⟩
                  · gi_wp2
                    try (refine⟨λ_ h=>(by cases h),?_⟩;gi_wp2)
                    try go_roundw
                    case rel=>exact⟨j+1,O',by omega,by simp,by rw[show pre (j+1)=pre j+1 from by rw[y3,if_pos h1,if_neg (λh=>absurd h.2.1 (by omega))]<;>rfl];exact Od,rz⟩
                    case measure=>simp[intOf];omega
                · have hp:pk=false:=by simpa using hp
                  gi_wp2
                  try (refine⟨λ_ h=>(by cases h),?_⟩;gi_wp2)
                  try go_roundw
                  case rel=>exact⟨j+1,O',by omega,by simp,by rw[show pre (j+1)=pre j+1 from by rw[y3,if_pos h1,if_neg (λh=>by rw[hp]at h;cases h.1)]<;>rfl];exact Od,rz⟩
                  case measure=>simp[intOf];omega
              · gi_wp2
                refine bodyPost_ret (results_none rfl _ _ _) rfl ?_
                exact⟨⟨_,rfl⟩,.inr ⟨_,_,hx⟩⟩
            · gi_wp2
              try (refine⟨λ_ h=>(by cases h),?_⟩)
              have ab5:=dH yz iB Su
              have ab7:=dH yz iB Oe
              have cPU:=dH oa iB hP
              have abW:=dH hHp iB hpk
              have ab3:=dH oa iB IU
              have ab1:=dH oa iB WA
              by_cases hp:pk=true
              · rcases Int.lt_or_le 0 u with hu|hu
                · rcases Int.lt_or_le l4 (z j 2)with h2|h2
                  · gi_wp2
                    try (refine⟨λ_ h=>(by cases h),?_⟩;gi_wp2)
                    try go_roundw
                    case rel=>exact⟨j+1,O',by omega,by simp,by rw[show pre (j+1)=pre j from by rw[y3,if_neg (by omega),if_neg (λh=>absurd h.2.2 (by omega))]<;>rfl];exact yx,iB⟩
                    case measure=>simp[intOf];omega
                  · obtain⟨k2,e2⟩:=y2 hp hu h2 (pre j) (by rw[if_neg (by omega)]<;>rfl)
                    obtain⟨bQ,Ac,assign2,body2,hy2,Oa⟩:=hY 0 (pre j) O' U k2 yx
                    rw[e2]at hy2
                    simp only[nI,hB,Int.add_sub_cancel]at hy2
                    gi_wp2
                    refine Oa.mono ?_
                    rintro e V2 ⟨_,⟨rfl,IW,vr,_⟩|⟨rfl,hx⟩⟩
                    · gi_wp2
                      go_roundw
                      case rel=>exact⟨j+1,O',by omega,by simp,by rw[show pre (j+1)=pre j+1 from by rw[y3,if_neg (by omega),if_pos ⟨hp,hu,h2⟩]<;>rfl];exact IW,λb c hb=>(vr b c hb).trans (iB b c hb)⟩
                      case measure=>simp[intOf];omega
                    · gi_wp2
                      refine bodyPost_ret (results_none rfl _ _ _) rfl ?_
                      exact⟨⟨_,rfl⟩,.inr ⟨_,_,hx⟩⟩
                · gi_wp2
                  try (refine⟨λ_ h=>(by cases h),?_⟩;gi_wp2)
                  try go_roundw
                  case rel=>exact⟨j+1,O',by omega,by simp,by rw[show pre (j+1)=pre j from by rw[y3,if_neg (by omega),if_neg (λh=>absurd h.2.1 (by omega))]<;>rfl];exact yx,iB⟩
                  case measure=>simp[intOf];omega
              · have hp:pk=false:=by simpa using hp
                gi_wp2
                try (refine⟨λ_ h=>(by cases h),?_⟩;gi_wp2)
                try go_roundw
                case rel=>exact⟨j+1,O',by omega,by simp,by rw[show pre (j+1)=pre j from by rw[y3,if_neg (by omega),if_neg (λh=>by rw[hp]at h;cases h.1)]<;>rfl];exact yx,iB⟩
                case measure=>simp[intOf];omega
          · rw[show decide (l0<=z j 3/\l1<=z j 4)=false from by simpa using hfit]
            gi_wp2
            go_roundw
            case rel=>exact⟨j+1,O',by omega,by simp,by rw[hno j hlt (λh=>hfit h.2)];exact yx,iB⟩
            case measure=>simp[intOf];omega
        · obtain⟨oX,KP⟩:∃oX,oX=Obj.cells #[.int .i64 (z j 0),.int .i64 (z j 1),.int .i64 (z j 2),.int .i64 (z j 3),.int .i64 (z j 4)] 102:=⟨_,rfl⟩
          have Xw:=al oX cF0
          rw[KP]at Xw
          clear KP
          gi_wp2
          refine⟨trivial,?_⟩
          gi_wp2
          go_roundw
          case rel=>exact⟨j+1,_,by omega,by simp,by rw[hno j hlt (λh=>h.1.elim hA hB)];exact key IV,λb c hb=>(heap_alloc_old _ _ (zB b c hb)).trans (si b c hb)⟩
          case measure=>simp[intOf];omega
    · obtain rfl:j=n:=by omega
      gi_wp2
      go_end0
      exact⟨⟨_,rfl⟩,.inl ⟨O,by rw[<-pN];exact IV⟩⟩
end Go.Proofs.Tryz.Wy
