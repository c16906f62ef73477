/- The iterators of layer 10: slices.Backward over entries, and the log's own one: each yields the entries from the last to the first. No condition beyond those typed in each theorem. -/
import Derived.Test.YtmlocmhkfnojbaaGreatVi40
import Derived.Test.YtmlocmhkfnojbaaGreatProg
import Derived.RangeFuncBox
import Derived.RangeFuncLeaves
import Derived.Shelf.Abstract
import Derived.WalkKit
import Derived.OwnWalkIn
import Derived.TacticsInMore
import Derived.LoopNIn
import Derived.LoopIn
namespace Go.Proofs.Tryz.Ib
open Go.RowKit Go.Shelf Go.Proofs
attribute [local go_sem] Oper.semAt_some
def vE(z:Nat->Int):Value:=.agg #[.int .i64 (z 0),.int .i64 (z 1),.int .i64 (z 2),.int .i64 (z 3),.int .i64 (z 4)]
set_option maxRecDepth 100000 in
set_option maxHeartbeats 4000000 in
theorem bw1(l Bs b off len cap:Nat)(z:Nat->Nat->Int)(hlen:len<=1099511627776)(J Jx:Nat->World->Prop)(Kp:World->World->Prop)(hKc:∀A B,Kp A B->∀k,k=Bs\/k=b->B.heap[k]? = A.heap[k]?)
    (hY:∀m i W1,i<len->J i W1->YieldAt Fence.wide m Tryz.prog l #[.int .i64 (len-1-i:Int),vE (z (len-1-i))] W1 λe W'=>
      (e = .returned (.bool true)/\J (i+1) W'/\Kp W1 W')\/(e = .returned (.bool false)/\Jx (i+1) W'))
    (W:World) (hBs:W.cell? ⟨Bs,0,none⟩=some (.slice (some ⟨b,off,none⟩) len cap)) (hc:∀j i,j<len->i<5->W.cell? ⟨b,off+j*5+i,none⟩=some (.int .i64 (z j i))) (h0:J 0 W):
    CallsIn Fence.wide 1 Tryz.prog 110 #[.func (.yield l) #[] #[],.pointer (some ⟨Bs,0,none⟩)] W λe W'=>(∃v,e = .returned v)/\(J len W'\/∃i,Jx i W'):=by
  refine callsIn_of_wp Tryz.func110 rfl trivial ?_ rfl
  simp only[Tryz.ntmps110,List.size_toArray,List.length_cons,List.length_nil,Nat.reduceAdd,Nat.reduceSub,Array.replicate_succ,Array.replicate_zero,List.push_toArray,List.append_toArray,List.nil_append,List.cons_append]
  have ua:(len:Int)<=1099511627776:=by omega
  gi_wp2
  gi_loopw [3] (λi wr=>∃k:Nat,k<=len/\i = .int .i64 ((len:Int)-1-k)/\J k wr/\wr.heap[Bs]? = W.heap[Bs]?/\wr.heap[b]? = W.heap[b]?)
    (λi _=>(intOf i+1).toNat)
  case atStart=>exact⟨0,Nat.zero_le _,by simp,h0,rfl,rfl⟩
  case round=>
    obtain⟨k,hk,rfl,IV,hkB,hkb⟩:=hrel
    have Of:wr.cell? ⟨Bs,0,none⟩=some (.slice (some ⟨b,off,none⟩) len cap):=(World.cell?_of_block (a:=⟨Bs,0,none⟩) hkB).trans hBs
    by_cases hlt:k<len
    · obtain⟨fn,tmps,assign,body,hy,hR⟩:=hY 0 k wr hlt IV
      have e1:((len:Int)-1-k).toNat=len-1-k:=by omega
      have hj:len-1-k<len:=by omega
      have c0:wr.cell? ⟨b,off+(len-1-k)*5,none⟩=_:=(World.cell?_of_block (a:=⟨b,off+(len-1-k)*5,none⟩) hkb).trans (hc (len-1-k) 0 hj (by omega))
      have c1:wr.cell? ⟨b,off+(len-1-k)*5+1,none⟩=_:=(World.cell?_of_block (a:=⟨b,off+(len-1-k)*5+1,none⟩) hkb).trans (hc (len-1-k) 1 hj (by omega))
      have c2:wr.cell? ⟨b,off+(len-1-k)*5+2,none⟩=_:=(World.cell?_of_block (a:=⟨b,off+(len-1-k)*5+2,none⟩) hkb).trans (hc (len-1-k) 2 hj (by omega))
      have c3:wr.cell? ⟨b,off+(len-1-k)*5+3,none⟩=_:=(World.cell?_of_block (a:=⟨b,off+(len-1-k)*5+3,none⟩) hkb).trans (hc (len-1-k) 3 hj (by omega))
      have c4:wr.cell? ⟨b,off+(len-1-k)*5+4,none⟩=_:=(World.cell?_of_block (a:=⟨b,off+(len-1-k)*5+4,none⟩) hkb).trans (hc (len-1-k) 4 hj (by omega))
      have g0:(0:Int)<=(len:Int)-1-k:=by omega
      have g1:(len:Int)-1-k<len:=by omega
      simp only[vE]at hy
      gi_wp2
      refine hR.mono ?_
      rintro e W3 (⟨rfl,hJ3,GC⟩|⟨rfl,Oc⟩)
      · gi_wp2
        go_roundw
        case rel=>exact⟨k+1,by omega,by simp;omega,hJ3,(hKc _ _ GC Bs (.inl rfl)).trans hkB,(hKc _ _ GC b (.inr rfl)).trans hkb⟩
        case measure=>simp[intOf];omega
      · gi_wp2
        refine bodyPost_ret (results_none rfl _ _ _) rfl ?_
        exact⟨⟨_,rfl⟩,.inr ⟨_,Oc⟩⟩
    · obtain rfl:k=len:=by omega
      gi_wp2
      go_end0
      exact⟨⟨_,rfl⟩,.inl IV⟩
set_option maxHeartbeats 1000000 in
theorem Jp(l Bs:Nat)(sa:Option Addr)(cap:Nat)(J:World->Prop)(W:World)(hBs:W.cell? ⟨Bs,0,none⟩=some (.slice sa 0 cap))(h0:J W):
    CallsIn Fence.wide 1 Tryz.prog 110 #[.func (.yield l) #[] #[],.pointer (some ⟨Bs,0,none⟩)] W λe W'=>(∃v,e = .returned v)/\J W':=by
  refine callsIn_of_wp Tryz.func110 rfl trivial ?_ rfl
  simp only[Tryz.ntmps110,List.size_toArray,List.length_cons,List.length_nil,Nat.reduceAdd,Nat.reduceSub,Array.replicate_succ,Array.replicate_zero,List.push_toArray,List.append_toArray,List.nil_append,List.cons_append]
  gi_wp2
  gi_loopw [3] (λi wr=>i = .int .i64 (-1)/\J wr) (λ_ _=>0)
  case atStart=>exact⟨rfl,h0⟩
  case round=>
    obtain⟨rfl,IV⟩:=hrel
    gi_wp2
    go_end0
    exact⟨⟨_,rfl⟩,IV⟩
set_option maxHeartbeats 1000000 in
theorem ab8(sa:Option Addr)(len cap:Nat)(w:World):
    CallsIn Fence.wide 0 Tryz.prog 91 #[.slice sa len cap] w λe w'=>e = .returned (.func (.func 110) #[] #[.pointer (some ⟨w.heap.size,0,none⟩)])/\w'=w.alloc (.cells #[.slice sa len cap] 45):=by
  refine callsIn_of_wp Tryz.func91 rfl trivial ?_ rfl
  simp only[Tryz.ntmps91,List.size_toArray,List.length_cons,List.length_nil,Nat.reduceAdd,Nat.reduceSub,Array.replicate_succ,Array.replicate_zero,List.push_toArray,List.append_toArray,List.nil_append,List.cons_append]
  gi_wp2
  go_ret
  exact⟨rfl,rfl⟩
open Go.Vi in
theorem OR(Bs len:Nat)(sa:Option Addr)(cap:Nat)(z:Nat->Nat->Int)(hlen:len<=1099511627776){H:FH}{O0:Nat->Prop}{w:World}(hok:cI H w)(hO:O0 Bs)(hBl:Bs<w.heap.size)(hBs:w.cell? ⟨Bs,0,none⟩=some (.slice sa len cap))
    (vx:len=0\/∃b off c,sa=some ⟨b,off,none⟩/\H b=some c/\∀j i,j<len->i<5->w.cell? ⟨b,off+j*5+i,none⟩=some (.int .i64 (z j i))):
    qnN Tryz.prog 110 #[.pointer (some ⟨Bs,0,none⟩)] len (λi=>#[.int .i64 (len-1-i:Int),vE (z (len-1-i))]) H O0 w:=by
  intro l J Jx W hW _ _ hY h0
  have Of:W.cell? ⟨Bs,0,none⟩=some (.slice sa len cap):=(hW.cell (p:=⟨Bs,0,none⟩) hBl).trans hBs
  rcases vx with rfl|⟨b,off,c,rfl,hb,hc⟩
  · refine(callsIn_wide (n:=1)).1 ((Jp l Bs _ _ (λW=>J 0 O0 W) W Of h0).mono ?_)
    rintro e W' ⟨he,hj⟩
    exact⟨he,.inl ⟨_,hj⟩⟩
  · have zB:=(hok b c hb).lt
    refine(callsIn_wide (n:=1)).1 ((bw1 l Bs b off len cap z hlen (λi W=>J i O0 W) (λi W=>Jx i O0 W) (λA B=>AX H A B/\Rm O0 A B) ?_ ?_ W Of (λj i hj hi=>(hW.cell (p:=⟨b,off+j*5+i,none⟩) zB).trans (hc j i hj hi)) h0).mono ?_)
    · rintro A B ⟨h1,h2⟩ k (rfl|rfl)
      · exact h2 _ hO
      · exact h1 _ _ hb
    · intro m i W1 hi hj
      obtain⟨fn,tmps,assign,body,hy,hR⟩:=hY m i O0 W1 hi hj
      refine⟨fn,tmps,assign,body,hy,hR.mono ?_⟩
      rintro e W' ⟨_,⟨h1,h2,h3,h4⟩|h⟩
      · exact .inl ⟨h1,h2,h3,h4⟩
      · exact .inr h
    · rintro e W' ⟨he,hj|⟨i,hj⟩⟩
      · exact⟨he,.inl ⟨_,hj⟩⟩
      · exact⟨he,.inr ⟨_,_,hj⟩⟩
theorem Rt(W:World)(arr:Array Value)(T:TypeId)(i:Nat):(W.alloc (.cells arr T)).cell? ⟨W.heap.size,i,none⟩=arr[i]?:=by
  have h:(W.alloc (.cells arr T)).heap[W.heap.size]? = some (.cells arr T (0,0)):=World.alloc_heap_new W _
  unfold World.cell?
  rw[h]
  simp
theorem qhx{A B:World}{row:Option Nat}(hg:A.grownBy B row){X q:Nat}{v:Value}(hr:∀r,row=some r->r≠X)(h:A.cell? ⟨X,q,none⟩=some v):B.cell? ⟨X,q,none⟩=some v:=
  (World.cell?_of_block (a:=⟨X,q,none⟩) (hg.block X (World.block_lt_of_cell? A ⟨X,q,none⟩ h) (λe=>hr X e.symm rfl))).trans h
theorem qmV{A:World}{O:Nat->Prop}{B:Nat}{row:Option Nat}(hr:∀r,row=some r->O r\/(B<=r/\∃o:Obj,A.heap[r]? = some o/\Go.Vi.mq o=false)){X q:Nat}{v:Value}(hO:¬O X)(h:A.cell? ⟨X,q,none⟩=some v):∀r,row=some r->r≠X:=by
  rintro r e rfl
  rcases hr r e with h1|⟨_,o,ho,hc⟩
  · exact hO h1
  · obtain⟨o',ho',hc'⟩:=cells_of_cell h
    have ho':A.heap[r]? = some o':=ho'
    rw[ho]at ho'
    cases ho'
    cases o<;>first|(cases hc;done)|(cases hc';done)
open Go.Vi in
set_option maxRecDepth 100000 in
set_option maxHeartbeats 4000000 in
theorem acd(Lb o len:Nat)(sa:Option Addr)(cap:Nat)(z:Nat->Nat->Int)(hlen:len<=1099511627776){H:FH}{w:World}(hok:cI H w)(hLl:Lb<w.heap.size)(hL:w.cell? ⟨Lb,o+3,none⟩=some (.slice sa len cap))
    (vx:len=0\/∃b off c,sa=some ⟨b,off,none⟩/\H b=some c/\∀j i,j<len->i<5->w.cell? ⟨b,off+j*5+i,none⟩=some (.int .i64 (z j i))):
    qnN Tryz.prog 90 #[.pointer (some ⟨Lb,o,none⟩)] len (λi=>#[vE (z (len-1-i))]) H (λ_=>False) w:=by
  intro l J Jx W hW hJ hJx hY h0
  have hL':W.cell? ⟨Lb,o+3,none⟩=some (.slice sa len cap):=(hW.cell (p:=⟨Lb,o+3,none⟩) hLl).trans hL
  have hLW:Lb<W.heap.size:=Nat.lt_of_lt_of_le hLl hW.size
  have hLA:(W.alloc (.cells #[.func (.yield l) #[] #[]] 113)).cell? ⟨Lb,o+3,none⟩=some (.slice sa len cap):=(World.cell?_of_block (a:=⟨Lb,o+3,none⟩) (heap_alloc_old W _ hLW)).trans hL'
  refine(callsIn_wide (n:=1)).1 (callsIn_of_wp_marks Tryz.func90 rfl trivial ?_ rfl)
  simp only[Tryz.ntmps90,List.size_toArray,List.length_cons,List.length_nil,Nat.reduceAdd,Nat.reduceSub,Array.replicate_succ,Array.replicate_zero,List.push_toArray,List.append_toArray,List.nil_append,List.cons_append]
  gi_wp2
  refine⟨trivial,(ab8 sa len cap _).mono ?_⟩
  rintro e w' ⟨rfl,rfl⟩
  gi_wp2
  obtain⟨W2,Sm⟩:∃W2,(W.alloc (.cells #[.func (.yield l) #[] #[]] 113)).alloc (.cells #[.slice sa len cap] 45)=W2:=⟨_,rfl⟩
  have KD:W2.heap.size=W.heap.size+2:=by rw[<-Sm];simp
  have hcY:W2.cell? ⟨W.heap.size,0,none⟩=some (.func (.yield l) #[] #[]):=by
    rw[<-Sm,World.cell?_of_block (a:=⟨W.heap.size,0,none⟩) (heap_alloc_old _ _ (by simp))]
    exact Rt _ _ _ _
  have hcB:W2.cell? ⟨W.heap.size+1,0,none⟩=some (.slice sa len cap):=by
    rw[<-Sm]
    have:=Rt (W.alloc (.cells #[.func (.yield l) #[] #[]] 113)) #[.slice sa len cap] 45 0
    rwa[World.size_alloc]at this
  have KO:∀b,b<W.heap.size->W2.heap[b]? = W.heap[b]?:=λb hb=>by
    rw[<-Sm]
    exact(heap_alloc_old _ _ (by simp;omega)).trans (heap_alloc_old _ _ hb)
  have IW:J 0 (λb=>b=W.heap.size+1\/b=W.heap.size) W2:=by
    rw[<-Sm]
    have s1:=hJ 0 _ (λb=>b=W.heap.size) W (W.alloc (.cells #[.func (.yield l) #[] #[]] 113)) h0 ⟨none,World.grownBy_alloc _ _ none,λr e=>(by cases e),λb=>by simp only[World.size_alloc,false_or];omega⟩
    exact hJ 0 _ _ _ _ s1 ⟨none,World.grownBy_alloc _ _ none,λr e=>(by cases e),λb=>by simp only[World.size_alloc];omega⟩
  have gB:cI H W2:=by
    intro b c hb
    have hlt:=(hok b c hb).lt
    exact(hok b c hb).block ((KO b (Nat.lt_of_lt_of_le hlt hW.size)).trans (hW.block b hlt))
  have Ss:∀b c,H b=some c->b<w.heap.size:=λb c hb=>by
    exact(hok b c hb).lt
  have Wj:len=0\/∃b off c,sa=some ⟨b,off,none⟩/\H b=some c/\∀j i,j<len->i<5->W2.cell? ⟨b,off+j*5+i,none⟩=some (.int .i64 (z j i)):=by
    rcases vx with h|⟨b,off,c,e,hb,hc⟩
    · exact .inl h
    · have hlt:=Ss b c hb
      refine .inr ⟨b,off,c,e,hb,λj i hj hi=>?_⟩
      rw[World.cell?_of_block (a:=⟨b,off+j*5+i,none⟩) (KO b (Nat.lt_of_lt_of_le hlt hW.size)),hW.cell (p:=⟨b,off+j*5+i,none⟩) hlt]
      exact hc j i hj hi
  have hseq:=OR (W.heap.size+1) len sa cap z hlen (O0:=λb=>b=W.heap.size+1) gB rfl (by omega) hcB Wj
  rw[Sm]
  refine(wpIn_wide (n:=1)).2 (qj7 (gf:=110) (pre:=#[]) (λy=>(Array.empty_append (xs:=#[y])).symm▸rfl) rfl (λargs w'=>wy (qX Tryz.func110 rfl (by kernel_rfl)) args w') (λb c hb=>by have:=Ss b c hb;have:=hW.size;omega) hseq (λi=>rfl) (λb hb=>by omega)
    (λi O W'=>(∀b,O b->b<W'.heap.size)/\∃E:Nat->Prop,J i (λb=>O b\/E b) W'/\E W.heap.size/\(∀b,E b->¬O b/\b<W'.heap.size)/\W'.cell? ⟨W.heap.size,0,none⟩=some (.func (.yield l) #[] #[]))
    (λx O W'=>(∀b,O b->b<W'.heap.size)/\∃(E:Nat->Prop) (X:Nat),J x.1 (λb=>O b\/E b) W'/\E W.heap.size/\E X/\(∀b,E b->¬O b/\b<W'.heap.size)/\W'.cell? ⟨W.heap.size,0,none⟩=some (.func (.yield l) #[] #[])/\
      (∀(q:Nat),q<5->W'.cell? ⟨X,q,none⟩=some (.int .i64 (z (len-1-x.1) q)))/\
      x.2={tmps:=#[.func (.yield l) #[] #[],.pointer (some ⟨Lb,o,none⟩),.pointer (some ⟨W.heap.size,0,none⟩),undef,.pointer (some ⟨X,0,none⟩),.pointer (some ⟨Lb,o+3,none⟩),.slice sa len cap,.func (.func 110) #[] #[.pointer (some ⟨W.heap.size+1,0,none⟩)],.int .i64 (len-1-x.1:Int),vE (z (len-1-x.1)),undef,undef,undef,undef],defers:=[]})
    (λc O W'=>c = .ret/\∃(E:Nat->Prop) (i:Nat),Jx i (λb=>O b\/E b) W') ?_ ?_ ?_ ?_ ?_ ?_ ?_ ?_)
  · rintro i O O' A B ⟨IT,E,hj,zD,hE,IL⟩ ⟨row,fE,hr,hO⟩
    refine⟨λb hb=>((hO b).1 hb).elim (λh=>Nat.lt_of_lt_of_le (IT b h) fE.size) (λh=>h.2),E,hJ _ _ _ _ _ hj ⟨row,fE,λr e=>(hr r e).imp .inl (λh=>⟨by omega,h.2⟩),λb=>?_⟩,zD,λb hb=>⟨λh=>?_,Nat.lt_of_lt_of_le (hE b hb).2 fE.size⟩,qhx fE (qmV hr (hE _ zD).1 IL) IL⟩
    · show(O' b\/E b)↔(O b\/E b)\/(A.heap.size<=b/\b<B.heap.size)
      rw[hO,or_assoc,or_assoc,or_comm (a:=A.heap.size<=b/\b<B.heap.size)]
    · rcases(hO b).1 h with h|h
      · exact(hE b hb).1 h
      · have:=(hE b hb).2;omega
  · rintro i O O' A B ⟨IT,E,X,hj,zD,hEX,hE,IL,IM,ha⟩ ⟨row,fE,hr,hO⟩
    refine⟨λb hb=>((hO b).1 hb).elim (λh=>Nat.lt_of_lt_of_le (IT b h) fE.size) (λh=>h.2),E,X,hJ _ _ _ _ _ hj ⟨row,fE,λr e=>(hr r e).imp .inl (λh=>⟨by omega,h.2⟩),λb=>?_⟩,zD,hEX,λb hb=>⟨λh=>?_,Nat.lt_of_lt_of_le (hE b hb).2 fE.size⟩,qhx fE (qmV hr (hE _ zD).1 IL) IL,λq hq=>qhx fE (qmV hr (hE _ hEX).1 (IM q hq)) (IM q hq),ha⟩
    · show(O' b\/E b)↔(O b\/E b)\/(A.heap.size<=b/\b<B.heap.size)
      rw[hO,or_assoc,or_assoc,or_comm (a:=A.heap.size<=b/\b<B.heap.size)]
    · rcases(hO b).1 h with h|h
      · exact(hE b hb).1 h
      · have:=(hE b hb).2;omega
  · rintro c O O' A B ⟨hc,E,i,hj⟩ ⟨row,fE,hr,hO⟩
    refine⟨hc,E,i,hJx _ _ _ _ _ hj ⟨row,fE,λr e=>(hr r e).imp .inl (λh=>⟨by omega,h.2⟩),λb=>?_⟩⟩
    show(O' b\/E b)↔(O b\/E b)\/(A.heap.size<=b/\b<B.heap.size)
    rw[hO,or_assoc,or_assoc,or_comm (a:=A.heap.size<=b/\b<B.heap.size)]
  · exact⟨λb hb=>by omega,λb=>b=W.heap.size,IW,rfl,λb hb=>by omega,hcY⟩
  · -- the loop variable
    rintro l' n i O W' hi ⟨IT,E,hj,zD,hE,IL⟩
    simp only[vE]
    gi_wp2
    have Sr:∀b c,H b=some c->b<W'.heap.size:=λb c hb=>by have:=Ss b c hb;have:=hW.size;have:=(hE _ zD).2;omega
    refine⟨⟨λb hb=>by rw[World.size_alloc];exact Nat.lt_succ_of_lt (IT b hb),λb=>b=W'.heap.size\/E b,W'.heap.size,?_,.inr zD,.inl rfl,?_,?_,?_,rfl⟩,?_,?_,?_⟩
    · refine hJ _ _ _ _ _ hj ⟨none,World.grownBy_alloc _ _ none,λr e=>(by cases e),λb=>?_⟩
      show O b\/b=W'.heap.size\/E b↔(O b\/E b)\/_
      rw[World.size_alloc,or_assoc]
      refine or_congr Iff.rfl ?_
      rw[or_comm]
      exact or_congr Iff.rfl (by omega)
    · rintro b (rfl|hb)
      · exact⟨λh=>by have:=IT _ h;omega,by simp⟩
      · have:=hE b hb
        exact⟨this.1,by rw[World.size_alloc];omega⟩
    · rw[World.cell?_of_block (a:=⟨W.heap.size,0,none⟩) (heap_alloc_old _ _ (hE _ zD).2)]
      exact IL
    · intro q hq
      rw[Rt]
      match q,hq with
      |0,_=>rfl
      |1,_=>rfl
      |2,_=>rfl
      |3,_=>rfl
      |4,_=>rfl
    · exact⟨by simp,λk o hk hh _=>(heap_alloc_old _ _ (Array.getElem?_eq_some_iff.1 hh).1).trans hh⟩
    · exact λb c hb=>heap_alloc_old _ _ (Sr b c hb)
    · exact λb hb=>heap_alloc_old _ _ (IT b hb)
  · rintro l' n i O a₁ W' hi ⟨IT,E,X,hj,zD,hEX,hE,IL,IM,ha⟩
    dsimp only at ha hj IM
    subst ha
    obtain⟨fn,tmps,assign,body,hy,hR⟩:=hY (n-1) i _ W' hi hj
    have c0:=IM 0 (by omega)
    have c1:=IM 1 (by omega)
    have c2:=IM 2 (by omega)
    have c3:=IM 3 (by omega)
    have c4:=IM 4 (by omega)
    simp only[vE]at hy
    gi_wp2
    refine⟨λh=>absurd h (by decide),RoundIn.mono (F:=Fence.wide.inRound l') hR ?_⟩
    rintro e W3 ⟨KW,⟨rfl,hJ3,VY,KU⟩|⟨rfl,Oc⟩⟩
    · gi_wp2
      refine⟨⟨KW.size,λk o hk=>KW.same k o (by omega)⟩,VY,λb hb=>KU b (.inl hb),λb hb=>Nat.lt_of_lt_of_le (IT b hb) KW.size,E,hJ3,zD,λb hb=>⟨(hE b hb).1,Nat.lt_of_lt_of_le (hE b hb).2 KW.size⟩,?_⟩
      rw[World.cell?_of_block (a:=⟨W.heap.size,0,none⟩) (KU _ (.inr zD))]
      exact IL
    · gi_wp2
      exact⟨⟨KW.size,λk o hk=>KW.same k o (by omega)⟩,rfl,E,i+1,Oc⟩
  · rintro D O W' hD ⟨_,E,hj,_⟩ hh
    gi_wp2
    refine⟨by simp,.inl ⟨_,_,rfl,run_takeDeferred hh,?_⟩⟩
    exact⟨_,results_none rfl _ _ _,⟨_,rfl⟩,.inl ⟨_,hJ.putObj _ hj (by omega) hh rfl⟩⟩
  · rintro D c O W' hD ⟨rfl,E,i,hj⟩ hh
    refine wp_ret ?_
    refine⟨by simp,.inl ⟨_,_,rfl,run_takeDeferred hh,?_⟩⟩
    exact⟨_,results_none rfl _ _ _,⟨_,rfl⟩,.inr ⟨_,_,hJx.putObj _ hj (by omega) hh rfl⟩⟩
end Go.Proofs.Tryz.Ib
