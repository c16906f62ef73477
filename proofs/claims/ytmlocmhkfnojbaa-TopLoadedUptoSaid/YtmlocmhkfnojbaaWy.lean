/- The iterator of convoy's ways, and the function that makes it. No condition beyond those typed in each theorem. -/
import Derived.Test.YtmlocmhkfnojbaaVi40
import Derived.Test.YtmlocmhkfnojbaaProg
import Derived.RangeFuncBox
import Derived.RangeFuncLeaves
import Derived.Shelf.Abstract
import Derived.WalkKit
import Derived.OwnWalkIn
import Derived.TacticsInMore
import Derived.LoopNIn
import Derived.LoopIn
namespace Go.Proofs.Try.Wy
open Go.RowKit Go.Shelf Go.Proofs
attribute [local go_sem] Oper.semAt_some
def intOf:Value->Int
  |.int _ n=>n
  |_=>0
set_option maxHeartbeats 1000000 in
theorem fits1(r0 r1 r2 r3 r4 l0 l1 l2 l3 l4 l5:Int)(W:World):CallsIn Fence.wide 0 Try.prog 44 #[.agg #[.int .i64 r0,.int .i64 r1,.int .i64 r2,.int .i64 r3,.int .i64 r4],.agg #[.int .i64 l0,.int .i64 l1,.int .i64 l2,.int .i64 l3,.int .i64 l4,.int .i64 l5]] W λe w'=>
    e = .returned (.bool (decide (l0<=r3/\l1<=r4)))/\∃o1 o2,w'=(W.alloc o1).alloc o2:=by
  refine callsIn_of_wp Try.func44 rfl trivial ?_ rfl
  simp only[Try.ntmps44,List.size_toArray,List.length_cons,List.length_nil,Nat.reduceAdd,Nat.reduceSub,Array.replicate_succ,Array.replicate_zero,List.push_toArray,List.append_toArray,List.nil_append,List.cons_append]
  by_cases h0:l0<=r3
  · by_cases h1:l1<=r4
    · gi_wp2
      go_ret
      exact⟨by simp[h0,h1],_,_,rfl⟩
    · gi_wp2
      go_ret
      exact⟨by simp[h1],_,_,rfl⟩
  · gi_wp2
    go_ret
    exact⟨by simp;omega,_,_,rfl⟩
theorem qlV(W:World)(arr:Array Value)(T:TypeId)(i:Nat):(W.alloc (.cells arr T)).cell? ⟨W.heap.size,i,none⟩=arr[i]?:=by
  have h:(W.alloc (.cells arr T)).heap[W.heap.size]? = some (.cells arr T (0,0)):=World.alloc_heap_new W _
  unfold World.cell?
  rw[h]
  simp
def wayV(i rest town used ticks legs:Int):Value:=.agg #[.int .i64 i,.int .i64 rest,.int .i64 town,.int .i64 used,.int .i64 ticks,.int .i64 legs]
def bdd(x:Int):Prop:=-1000000000<=x/\x<=1000000000
open Go.Vi in
set_option maxRecDepth 100000 in
set_option maxHeartbeats 8000000 in
theorem ways1(Ab ao Fb fo rb ro pb po n np capr capp:Nat)(sa:Option Addr)(z:Nat->Nat->Int)(l0 l1 l2 l3 l4 l5:Int)(pk:Bool)(t u:Int)(N:Nat)(pre:Nat->Nat)(wv:Nat->Value){H:FH}{w:World}(hok:HOk H w)
    (hHA:∃c,H Ab=some c) (hHF:∃c,H Fb=some c) (hHr:n=0\/sa=some ⟨rb,ro,none⟩/\∃c,H rb=some c) (hHp:∃c,H pb=some c)
    (hP:w.cell? ⟨Ab,ao,none⟩=some (.slice (some ⟨pb,po,none⟩) np capp)) (hR:w.cell? ⟨Ab,ao+1,none⟩=some (.slice sa n capr))
    (hL0:w.cell? ⟨Ab,ao+2,none⟩=some (.int .i64 l0)) (hL1:w.cell? ⟨Ab,ao+2+1,none⟩=some (.int .i64 l1)) (hL2:w.cell? ⟨Ab,ao+2+2,none⟩=some (.int .i64 l2)) (hL3:w.cell? ⟨Ab,ao+2+3,none⟩=some (.int .i64 l3)) (hL4:w.cell? ⟨Ab,ao+2+4,none⟩=some (.int .i64 l4)) (hL5:w.cell? ⟨Ab,ao+2+5,none⟩=some (.int .i64 l5))
    (hF0:w.cell? ⟨Fb,fo,none⟩=some (.int .i64 t)) (hF1:w.cell? ⟨Fb,fo+1,none⟩=some (.int .i64 u))
    (hrd:∀j i,j<n->i<5->w.cell? ⟨rb,ro+j*5+i,none⟩=some (.int .i64 (z j i))) (hpk:w.cell? ⟨pb,po+t.toNat,none⟩=some (.bool pk))
    (ht0:0<=t) (ht1:t<np) (bt:bdd t) (bu:bdd u) (b4:bdd l4) (b5:bdd l5) (bz:∀j i,j<n->bdd (z j i)) (hn:n<=1000000000)
    (p0:pre 0=0) (pN:pre n=N)
    (hno:∀j,j<n->¬((z j 0=t\/z j 1=t)/\l0<=z j 3/\l1<=z j 4)->pre (j+1)=pre j)
    (hyes:∀j,j<n->(z j 0=t\/z j 1=t)->(l0<=z j 3/\l1<=z j 4)->
      (u+z j 2<=l4->pre j<N/\wv (pre j)=wayV j 0 (z j 0+z j 1-t) (u+z j 2) (z j 2) 1)/\
      (pk=true->0<u->z j 2<=l4->∀k,k=pre j+(if u+z j 2<=l4 then 1 else 0)->k<N/\wv k=wayV j l5 (z j 0+z j 1-t) (z j 2) (l5+z j 2) 1)/\
      pre (j+1)=pre j+(if u+z j 2<=l4 then 1 else 0)+(if pk=true/\0<u/\z j 2<=l4 then 1 else 0)):
    SeqOrd Try.prog 59 #[.pointer (some ⟨Ab,ao,none⟩),.pointer (some ⟨Fb,fo,none⟩)] N (λk=>#[wv k]) H (λ_=>False) w:=by
  intro l J Jx W hW hJ hJx hY h0
  have hHW:∀b c,H b=some c->W.heap[b]? = w.heap[b]?:=λb c hb=>hW.block b (hok.lt hb)
  have hcl:∀{b q:Nat} {v:Value} {U:World},(∃c,H b=some c)->(∀b c,H b=some c->U.heap[b]? = W.heap[b]?)->w.cell? ⟨b,q,none⟩=some v->U.cell? ⟨b,q,none⟩=some v:=by
    rintro b q v U ⟨c,hc⟩ hU h
    exact(World.cell?_of_block (a:=⟨b,q,none⟩) ((hU b c hc).trans (hHW b c hc))).trans h
  have key:∀{U:World} {k:Nat} {O:Nat->Prop} {o:Obj},J k O U->J k (λb=>O b\/b=U.heap.size) (U.alloc o):=by
    intro U k O o h
    refine hJ _ _ _ _ _ h ⟨none,World.grownBy_alloc _ _ none,λr e=>(by cases e),λb=>?_⟩
    rw[World.size_alloc]
    exact or_congr Iff.rfl (by omega)
  obtain⟨bt1,bt2⟩:=bt
  obtain⟨bu1,bu2⟩:=bu
  obtain⟨b41,b42⟩:=b4
  obtain⟨b51,b52⟩:=b5
  refine(callsIn_wide (n:=1)).1 (callsIn_of_wp Try.func59 rfl trivial ?_ rfl)
  simp only[Try.ntmps59,List.size_toArray,List.length_cons,List.length_nil,Nat.reduceAdd,Nat.reduceSub,Array.replicate_succ,Array.replicate_zero,List.push_toArray,List.append_toArray,List.nil_append,List.cons_append]
  have hWW:∀b c,H b=some c->W.heap[b]? = W.heap[b]?:=λ_ _ _=>rfl
  have cR:=hcl hHA hWW hR
  gi_wp2
  gi_loopw [12] (λi wr=>∃(j:Nat) (O:Nat->Prop),j<=n/\i = .int .i64 (j:Int)/\J (pre j) O wr/\(∀b c,H b=some c->wr.heap[b]? = W.heap[b]?)) (λi _=>((n:Int)-intOf i).toNat)
  case atStart=>exact⟨0,_,Nat.zero_le _,rfl,by rw[p0];exact h0,λ_ _ _=>rfl⟩
  case round=>
    obtain⟨j,O,hj,rfl,hJs,hUH⟩:=hrel
    by_cases hlt:j<n
    · obtain⟨rfl,hHr2⟩:sa=some ⟨rb,ro,none⟩/\∃c,H rb=some c:=by
        rcases hHr with h|h
        · omega
        · exact h
      have hbl:∀b c,H b=some c->b<wr.heap.size:=λb c hb=>by
        have h3:=hUH b c hb
        rw[hHW b c hb]at h3
        have h4:=hok.lt hb
        rw[Array.getElem?_eq_getElem h4]at h3
        exact(Array.getElem?_eq_some_iff.1 h3).1
      have hlt2:(j:Int)<n:=by omega
      have hn2:(n:Int)<=1000000000:=by omega
      have cF0:=hcl hHF hUH hF0
      have cL0:=hcl hHA hUH hL0
      have cL1:=hcl hHA hUH hL1
      have cL2:=hcl hHA hUH hL2
      have cL3:=hcl hHA hUH hL3
      have cL4:=hcl hHA hUH hL4
      have cL5:=hcl hHA hUH hL5
      have c0:wr.cell? ⟨rb,ro+j*5,none⟩=_:=hcl hHr2 hUH (hrd j 0 hlt (by omega))
      have c1:wr.cell? ⟨rb,ro+j*5+1,none⟩=_:=hcl hHr2 hUH (hrd j 1 hlt (by omega))
      have c2:wr.cell? ⟨rb,ro+j*5+2,none⟩=_:=hcl hHr2 hUH (hrd j 2 hlt (by omega))
      have c3:wr.cell? ⟨rb,ro+j*5+3,none⟩=_:=hcl hHr2 hUH (hrd j 3 hlt (by omega))
      have c4:wr.cell? ⟨rb,ro+j*5+4,none⟩=_:=hcl hHr2 hUH (hrd j 4 hlt (by omega))
      obtain⟨z01,z02⟩:=bz j 0 hlt
      obtain⟨z11,z12⟩:=bz j 1 hlt
      obtain⟨z21,z22⟩:=bz j 2 hlt
      have al:∀(o:Go.Obj) {b q:Nat} {v:Value},wr.cell? ⟨b,q,none⟩=some v->(wr.alloc o).cell? ⟨b,q,none⟩=some v:=λo b q v h=>(World.cell?_of_block (a:=⟨b,q,none⟩) (heap_alloc_old wr o (World.block_lt_of_cell? wr ⟨b,q,none⟩ h))).trans h
      by_cases hA:z j 0=t
      · obtain⟨oX,hoX⟩:∃oX,oX=Obj.cells #[.int .i64 t,.int .i64 (z j 1),.int .i64 (z j 2),.int .i64 (z j 3),.int .i64 (z j 4)] 114:=⟨_,rfl⟩
        have aF0:=al oX cF0
        have aL0:=al oX cL0
        have aL1:=al oX cL1
        have aL2:=al oX cL2
        have aL3:=al oX cL3
        have aL4:=al oX cL4
        have aL5:=al oX cL5
        rw[hoX]at aF0 aL0 aL1 aL2 aL3 aL4 aL5
        clear hoX
        gi_wp2
        refine⟨trivial,(fits1 _ _ _ _ _ _ _ _ _ _ _ _).mono ?_⟩
        rintro e U0 ⟨rfl,o1,o2,rfl⟩
        obtain⟨U,hU⟩:∃U,((wr.alloc (.cells #[.int .i64 t,.int .i64 (z j 1),.int .i64 (z j 2),.int .i64 (z j 3),.int .i64 (z j 4)] 114)).alloc o1).alloc o2=U:=⟨_,rfl⟩
        rw[hU]
        obtain⟨X,hX⟩:∃X,wr.heap.size=X:=⟨_,rfl⟩
        have hXs:X<(wr.alloc (.cells #[.int .i64 t,.int .i64 (z j 1),.int .i64 (z j 2),.int .i64 (z j 3),.int .i64 (z j 4)] 114)).heap.size:=by rw[World.size_alloc];omega
        have hk3:=key (o:=o2) (key (o:=o1) (key (o:=.cells #[.int .i64 t,.int .i64 (z j 1),.int .i64 (z j 2),.int .i64 (z j 3),.int .i64 (z j 4)] 114) hJs))
        rw[hU]at hk3
        obtain⟨O',hJU,hOX⟩:∃O':Nat->Prop,J (pre j) O' U/\O' X:=⟨_,hk3,Or.inl (Or.inl (Or.inr hX.symm))⟩
        have hUU:∀b c,H b=some c->U.heap[b]? = W.heap[b]?:=λb c hb=>by
          have hbl:b<wr.heap.size:=by
            have h3:=hUH b c hb
            rw[hHW b c hb]at h3
            have h4:=hok.lt hb
            rw[Array.getElem?_eq_getElem h4]at h3
            exact(Array.getElem?_eq_some_iff.1 h3).1
          rw[<-hU]
          exact(heap_alloc_old _ _ (by rw[World.size_alloc,World.size_alloc];omega)).trans ((heap_alloc_old _ _ (by rw[World.size_alloc];omega)).trans ((heap_alloc_old _ _ hbl).trans (hUH b c hb)))
        have hcX:∀q,U.cell? ⟨X,q,none⟩=(#[.int .i64 t,.int .i64 (z j 1),.int .i64 (z j 2),.int .i64 (z j 3),.int .i64 (z j 4)]:Array Value)[q]?:=λq=>by
          rw[<-qlV wr _ 114 q,hX,<-hU]
          exact(World.cell?_of_block (a:=⟨X,q,none⟩) (heap_alloc_old _ _ (by rw[World.size_alloc];exact Nat.lt_succ_of_lt hXs))).trans (World.cell?_of_block (a:=⟨X,q,none⟩) (heap_alloc_old _ _ hXs))
        have x0:=hcX 0
        have x1:=hcX 1
        have x2:=hcX 2
        simp only[List.getElem?_toArray,List.getElem?_cons_zero,List.getElem?_cons_succ]at x0 x1 x2
        have dF0:=hcl hHF hUU hF0
        have dF1:=hcl hHF hUU hF1
        have dL4:=hcl hHA hUU hL4
        rw[hX]
        by_cases hfit:l0<=z j 3/\l1<=z j 4
        · rw[show decide (l0<=z j 3/\l1<=z j 4)=true from by simpa using hfit]
          obtain⟨y1,y2,y3⟩:=hyes j hlt (.inl hA) hfit
          rcases Int.lt_or_le l4 (u+z j 2)with h1|h1
          rotate_left
          · obtain⟨k1,e1⟩:=y1 h1
            obtain⟨fn,tmps,assign,body,hy,hRR⟩:=hY 0 (pre j) O' U k1 hJU
            rw[e1]at hy
            simp only[wayV,hA]at hy
            gi_wp2
            refine hRR.mono ?_
            rintro e V ⟨_,⟨rfl,hJV,hkH,hkO⟩|⟨rfl,hx⟩⟩
            · have hVH:∀b c,H b=some c->V.heap[b]? = W.heap[b]?:=λb c hb=>(hkH b c hb).trans (hUU b c hb)
              have x2V:V.cell? ⟨X,2,none⟩=some (.int .i64 (z j 2)):=(World.cell?_of_block (a:=⟨X,2,none⟩) (hkO X hOX)).trans x2
              have cF1V:=hcl hHF hVH hF1
              have cF0V:=hcl hHF hVH hF0
              have cPV:=hcl hHA hVH hP
              have cpkV:=hcl hHp hVH hpk
              have cL4V:=hcl hHA hVH hL4
              have cL5V:=hcl hHA hVH hL5
              dsimp only
              by_cases hp:pk=true
              · rcases Int.lt_or_le 0 u with hu|hu
                · rcases Int.lt_or_le l4 (z j 2)with h2|h2
                  · exact absurd h2 (by omega)
                  · obtain⟨k2,e2⟩:=y2 hp hu h2 (pre j+1) (by rw[if_pos h1]<;>rfl)
                    obtain⟨fn2,tmps2,assign2,body2,hy2,hR2⟩:=hY 0 (pre j+1) O' V k2 hJV
                    rw[e2]at hy2
                    simp only[wayV,hA]at hy2
                    gi_wp2
                    refine hR2.mono ?_
                    rintro e V2 ⟨_,⟨rfl,hJ2,hkH2,_⟩|⟨rfl,hx⟩⟩
                    · gi_wp2
                      go_roundw
                      case rel=>exact⟨j+1,O',by omega,by simp,by rw[show pre (j+1)=pre j+1+1 from by rw[y3,if_pos h1,if_pos ⟨hp,hu,h2⟩]<;>rfl];exact hJ2,λb c hb=>(hkH2 b c hb).trans (hVH b c hb)⟩
                      case measure=>simp[intOf];omega
                    · gi_wp2
                      refine bodyPost_ret (results_none rfl _ _ _) rfl ?_
                      exact⟨⟨_,rfl⟩,.inr ⟨_,_,hx⟩⟩
                · gi_wp2
                  try (refine⟨λ_ h=>(by cases h),?_⟩;gi_wp2)
                  try go_roundw
                  case rel=>exact⟨j+1,O',by omega,by simp,by rw[show pre (j+1)=pre j+1 from by rw[y3,if_pos h1,if_neg (λh=>absurd h.2.1 (by omega))]<;>rfl];exact hJV,hVH⟩
                  case measure=>simp[intOf];omega
              · have hp:pk=false:=by simpa using hp
                gi_wp2
                try (refine⟨λ_ h=>(by cases h),?_⟩;gi_wp2)
                try go_roundw
                case rel=>exact⟨j+1,O',by omega,by simp,by rw[show pre (j+1)=pre j+1 from by rw[y3,if_pos h1,if_neg (λh=>by rw[hp]at h;cases h.1)]<;>rfl];exact hJV,hVH⟩
                case measure=>simp[intOf];omega
            · gi_wp2
              refine bodyPost_ret (results_none rfl _ _ _) rfl ?_
              exact⟨⟨_,rfl⟩,.inr ⟨_,_,hx⟩⟩
          · gi_wp2
            try (refine⟨λ_ h=>(by cases h),?_⟩)
            have cF1U:=hcl hHF hUU hF1
            have cF0U:=hcl hHF hUU hF0
            have cPU:=hcl hHA hUU hP
            have cpkU:=hcl hHp hUU hpk
            have cL4U:=hcl hHA hUU hL4
            have cL5U:=hcl hHA hUU hL5
            by_cases hp:pk=true
            · rcases Int.lt_or_le 0 u with hu|hu
              · rcases Int.lt_or_le l4 (z j 2)with h2|h2
                · gi_wp2
                  try (refine⟨λ_ h=>(by cases h),?_⟩;gi_wp2)
                  try go_roundw
                  case rel=>exact⟨j+1,O',by omega,by simp,by rw[show pre (j+1)=pre j from by rw[y3,if_neg (by omega),if_neg (λh=>absurd h.2.2 (by omega))]<;>rfl];exact hJU,hUU⟩
                  case measure=>simp[intOf];omega
                · obtain⟨k2,e2⟩:=y2 hp hu h2 (pre j) (by rw[if_neg (by omega)]<;>rfl)
                  obtain⟨fn2,tmps2,assign2,body2,hy2,hR2⟩:=hY 0 (pre j) O' U k2 hJU
                  rw[e2]at hy2
                  simp only[wayV,hA]at hy2
                  gi_wp2
                  refine hR2.mono ?_
                  rintro e V2 ⟨_,⟨rfl,hJ2,hkH2,_⟩|⟨rfl,hx⟩⟩
                  · gi_wp2
                    go_roundw
                    case rel=>exact⟨j+1,O',by omega,by simp,by rw[show pre (j+1)=pre j+1 from by rw[y3,if_neg (by omega),if_pos ⟨hp,hu,h2⟩]<;>rfl];exact hJ2,λb c hb=>(hkH2 b c hb).trans (hUU b c hb)⟩
                    case measure=>simp[intOf];omega
                  · gi_wp2
                    refine bodyPost_ret (results_none rfl _ _ _) rfl ?_
                    exact⟨⟨_,rfl⟩,.inr ⟨_,_,hx⟩⟩
              · gi_wp2
                try (refine⟨λ_ h=>(by cases h),?_⟩;gi_wp2)
                try go_roundw
                case rel=>exact⟨j+1,O',by omega,by simp,by rw[show pre (j+1)=pre j from by rw[y3,if_neg (by omega),if_neg (λh=>absurd h.2.1 (by omega))]<;>rfl];exact hJU,hUU⟩
                case measure=>simp[intOf];omega
            · have hp:pk=false:=by simpa using hp
              gi_wp2
              try (refine⟨λ_ h=>(by cases h),?_⟩;gi_wp2)
              try go_roundw
              case rel=>exact⟨j+1,O',by omega,by simp,by rw[show pre (j+1)=pre j from by rw[y3,if_neg (by omega),if_neg (λh=>by rw[hp]at h;cases h.1)]<;>rfl];exact hJU,hUU⟩
              case measure=>simp[intOf];omega
        · rw[show decide (l0<=z j 3/\l1<=z j 4)=false from by simpa using hfit]
          gi_wp2
          go_roundw
          case rel=>exact⟨j+1,O',by omega,by simp,by rw[hno j hlt (λh=>hfit h.2)];exact hJU,hUU⟩
          case measure=>simp[intOf];omega
      · by_cases hB:z j 1=t
        · obtain⟨oX,hoX⟩:∃oX,oX=Obj.cells #[.int .i64 (z j 0),.int .i64 t,.int .i64 (z j 2),.int .i64 (z j 3),.int .i64 (z j 4)] 114:=⟨_,rfl⟩
          have aF0:=al oX cF0
          have aL0:=al oX cL0
          have aL1:=al oX cL1
          have aL2:=al oX cL2
          have aL3:=al oX cL3
          have aL4:=al oX cL4
          have aL5:=al oX cL5
          rw[hoX]at aF0 aL0 aL1 aL2 aL3 aL4 aL5
          clear hoX
          gi_wp2
          refine⟨trivial,(fits1 _ _ _ _ _ _ _ _ _ _ _ _).mono ?_⟩
          rintro e U0 ⟨rfl,o1,o2,rfl⟩
          obtain⟨U,hU⟩:∃U,((wr.alloc (.cells #[.int .i64 (z j 0),.int .i64 t,.int .i64 (z j 2),.int .i64 (z j 3),.int .i64 (z j 4)] 114)).alloc o1).alloc o2=U:=⟨_,rfl⟩
          rw[hU]
          obtain⟨X,hX⟩:∃X,wr.heap.size=X:=⟨_,rfl⟩
          have hXs:X<(wr.alloc (.cells #[.int .i64 (z j 0),.int .i64 t,.int .i64 (z j 2),.int .i64 (z j 3),.int .i64 (z j 4)] 114)).heap.size:=by rw[World.size_alloc];omega
          have hk3:=key (o:=o2) (key (o:=o1) (key (o:=.cells #[.int .i64 (z j 0),.int .i64 t,.int .i64 (z j 2),.int .i64 (z j 3),.int .i64 (z j 4)] 114) hJs))
          rw[hU]at hk3
          obtain⟨O',hJU,hOX⟩:∃O':Nat->Prop,J (pre j) O' U/\O' X:=⟨_,hk3,Or.inl (Or.inl (Or.inr hX.symm))⟩
          have hUU:∀b c,H b=some c->U.heap[b]? = W.heap[b]?:=λb c hb=>by
            have hbl:b<wr.heap.size:=by
              have h3:=hUH b c hb
              rw[hHW b c hb]at h3
              have h4:=hok.lt hb
              rw[Array.getElem?_eq_getElem h4]at h3
              exact(Array.getElem?_eq_some_iff.1 h3).1
            rw[<-hU]
            exact(heap_alloc_old _ _ (by rw[World.size_alloc,World.size_alloc];omega)).trans ((heap_alloc_old _ _ (by rw[World.size_alloc];omega)).trans ((heap_alloc_old _ _ hbl).trans (hUH b c hb)))
          have hcX:∀q,U.cell? ⟨X,q,none⟩=(#[.int .i64 (z j 0),.int .i64 t,.int .i64 (z j 2),.int .i64 (z j 3),.int .i64 (z j 4)]:Array Value)[q]?:=λq=>by
            rw[<-qlV wr _ 114 q,hX,<-hU]
            exact(World.cell?_of_block (a:=⟨X,q,none⟩) (heap_alloc_old _ _ (by rw[World.size_alloc];exact Nat.lt_succ_of_lt hXs))).trans (World.cell?_of_block (a:=⟨X,q,none⟩) (heap_alloc_old _ _ hXs))
          have x0:=hcX 0
          have x1:=hcX 1
          have x2:=hcX 2
          simp only[List.getElem?_toArray,List.getElem?_cons_zero,List.getElem?_cons_succ]at x0 x1 x2
          have dF0:=hcl hHF hUU hF0
          have dF1:=hcl hHF hUU hF1
          have dL4:=hcl hHA hUU hL4
          rw[hX]
          by_cases hfit:l0<=z j 3/\l1<=z j 4
          · rw[show decide (l0<=z j 3/\l1<=z j 4)=true from by simpa using hfit]
            obtain⟨y1,y2,y3⟩:=hyes j hlt (.inr hB) hfit
            rcases Int.lt_or_le l4 (u+z j 2)with h1|h1
            rotate_left
            · obtain⟨k1,e1⟩:=y1 h1
              obtain⟨fn,tmps,assign,body,hy,hRR⟩:=hY 0 (pre j) O' U k1 hJU
              rw[e1]at hy
              simp only[wayV,hB,Int.add_sub_cancel]at hy
              gi_wp2
              refine hRR.mono ?_
              rintro e V ⟨_,⟨rfl,hJV,hkH,hkO⟩|⟨rfl,hx⟩⟩
              · have hVH:∀b c,H b=some c->V.heap[b]? = W.heap[b]?:=λb c hb=>(hkH b c hb).trans (hUU b c hb)
                have x2V:V.cell? ⟨X,2,none⟩=some (.int .i64 (z j 2)):=(World.cell?_of_block (a:=⟨X,2,none⟩) (hkO X hOX)).trans x2
                have cF1V:=hcl hHF hVH hF1
                have cF0V:=hcl hHF hVH hF0
                have cPV:=hcl hHA hVH hP
                have cpkV:=hcl hHp hVH hpk
                have cL4V:=hcl hHA hVH hL4
                have cL5V:=hcl hHA hVH hL5
                dsimp only
                by_cases hp:pk=true
                · rcases Int.lt_or_le 0 u with hu|hu
                  · rcases Int.lt_or_le l4 (z j 2)with h2|h2
                    · exact absurd h2 (by omega)
                    · obtain⟨k2,e2⟩:=y2 hp hu h2 (pre j+1) (by rw[if_pos h1]<;>rfl)
                      obtain⟨fn2,tmps2,assign2,body2,hy2,hR2⟩:=hY 0 (pre j+1) O' V k2 hJV
                      rw[e2]at hy2
                      simp only[wayV,hB,Int.add_sub_cancel]at hy2
                      gi_wp2
                      refine hR2.mono ?_
                      rintro e V2 ⟨_,⟨rfl,hJ2,hkH2,_⟩|⟨rfl,hx⟩⟩
                      · gi_wp2
                        go_roundw
                        case rel=>exact⟨j+1,O',by omega,by simp,by rw[show pre (j+1)=pre j+1+1 from by rw[y3,if_pos h1,if_pos ⟨hp,hu,h2⟩]<;>rfl];exact hJ2,λb c hb=>(hkH2 b c hb).trans (hVH b c hb)⟩
                        case measure=>simp[intOf];omega
                      · gi_wp2
                        refine bodyPost_ret (results_none rfl _ _ _) rfl ?_
                        exact⟨⟨_,rfl⟩,.inr ⟨_,_,hx⟩⟩
                  · gi_wp2
                    try (refine⟨λ_ h=>(by cases h),?_⟩;gi_wp2)
                    try go_roundw
                    case rel=>exact⟨j+1,O',by omega,by simp,by rw[show pre (j+1)=pre j+1 from by rw[y3,if_pos h1,if_neg (λh=>absurd h.2.1 (by omega))]<;>rfl];exact hJV,hVH⟩
                    case measure=>simp[intOf];omega
                · have hp:pk=false:=by simpa using hp
                  gi_wp2
                  try (refine⟨λ_ h=>(by cases h),?_⟩;gi_wp2)
                  try go_roundw
                  case rel=>exact⟨j+1,O',by omega,by simp,by rw[show pre (j+1)=pre j+1 from by rw[y3,if_pos h1,if_neg (λh=>by rw[hp]at h;cases h.1)]<;>rfl];exact hJV,hVH⟩
                  case measure=>simp[intOf];omega
              · gi_wp2
                refine bodyPost_ret (results_none rfl _ _ _) rfl ?_
                exact⟨⟨_,rfl⟩,.inr ⟨_,_,hx⟩⟩
            · gi_wp2
              try (refine⟨λ_ h=>(by cases h),?_⟩)
              have cF1U:=hcl hHF hUU hF1
              have cF0U:=hcl hHF hUU hF0
              have cPU:=hcl hHA hUU hP
              have cpkU:=hcl hHp hUU hpk
              have cL4U:=hcl hHA hUU hL4
              have cL5U:=hcl hHA hUU hL5
              by_cases hp:pk=true
              · rcases Int.lt_or_le 0 u with hu|hu
                · rcases Int.lt_or_le l4 (z j 2)with h2|h2
                  · gi_wp2
                    try (refine⟨λ_ h=>(by cases h),?_⟩;gi_wp2)
                    try go_roundw
                    case rel=>exact⟨j+1,O',by omega,by simp,by rw[show pre (j+1)=pre j from by rw[y3,if_neg (by omega),if_neg (λh=>absurd h.2.2 (by omega))]<;>rfl];exact hJU,hUU⟩
                    case measure=>simp[intOf];omega
                  · obtain⟨k2,e2⟩:=y2 hp hu h2 (pre j) (by rw[if_neg (by omega)]<;>rfl)
                    obtain⟨fn2,tmps2,assign2,body2,hy2,hR2⟩:=hY 0 (pre j) O' U k2 hJU
                    rw[e2]at hy2
                    simp only[wayV,hB,Int.add_sub_cancel]at hy2
                    gi_wp2
                    refine hR2.mono ?_
                    rintro e V2 ⟨_,⟨rfl,hJ2,hkH2,_⟩|⟨rfl,hx⟩⟩
                    · gi_wp2
                      go_roundw
                      case rel=>exact⟨j+1,O',by omega,by simp,by rw[show pre (j+1)=pre j+1 from by rw[y3,if_neg (by omega),if_pos ⟨hp,hu,h2⟩]<;>rfl];exact hJ2,λb c hb=>(hkH2 b c hb).trans (hUU b c hb)⟩
                      case measure=>simp[intOf];omega
                    · gi_wp2
                      refine bodyPost_ret (results_none rfl _ _ _) rfl ?_
                      exact⟨⟨_,rfl⟩,.inr ⟨_,_,hx⟩⟩
                · gi_wp2
                  try (refine⟨λ_ h=>(by cases h),?_⟩;gi_wp2)
                  try go_roundw
                  case rel=>exact⟨j+1,O',by omega,by simp,by rw[show pre (j+1)=pre j from by rw[y3,if_neg (by omega),if_neg (λh=>absurd h.2.1 (by omega))]<;>rfl];exact hJU,hUU⟩
                  case measure=>simp[intOf];omega
              · have hp:pk=false:=by simpa using hp
                gi_wp2
                try (refine⟨λ_ h=>(by cases h),?_⟩;gi_wp2)
                try go_roundw
                case rel=>exact⟨j+1,O',by omega,by simp,by rw[show pre (j+1)=pre j from by rw[y3,if_neg (by omega),if_neg (λh=>by rw[hp]at h;cases h.1)]<;>rfl];exact hJU,hUU⟩
                case measure=>simp[intOf];omega
          · rw[show decide (l0<=z j 3/\l1<=z j 4)=false from by simpa using hfit]
            gi_wp2
            go_roundw
            case rel=>exact⟨j+1,O',by omega,by simp,by rw[hno j hlt (λh=>hfit h.2)];exact hJU,hUU⟩
            case measure=>simp[intOf];omega
        · obtain⟨oX,hoX⟩:∃oX,oX=Obj.cells #[.int .i64 (z j 0),.int .i64 (z j 1),.int .i64 (z j 2),.int .i64 (z j 3),.int .i64 (z j 4)] 114:=⟨_,rfl⟩
          have aF0:=al oX cF0
          rw[hoX]at aF0
          clear hoX
          gi_wp2
          refine⟨trivial,?_⟩
          gi_wp2
          go_roundw
          case rel=>exact⟨j+1,_,by omega,by simp,by rw[hno j hlt (λh=>h.1.elim hA hB)];exact key hJs,λb c hb=>(heap_alloc_old _ _ (hbl b c hb)).trans (hUH b c hb)⟩
          case measure=>simp[intOf];omega
    · obtain rfl:j=n:=by omega
      gi_wp2
      go_end0
      exact⟨⟨_,rfl⟩,.inl ⟨O,by rw[<-pN];exact hJs⟩⟩
end Go.Proofs.Try.Wy
