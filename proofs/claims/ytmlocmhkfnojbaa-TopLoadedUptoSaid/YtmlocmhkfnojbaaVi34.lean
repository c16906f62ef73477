/- The abstract interpreter 'Vi', thirty-fourth part: a range over a function that yields the elements of a list, in order. No condition beyond those typed in each theorem. -/
import Derived.Test.YtmlocmhkfnojbaaVi33
import Derived.RangeFuncWrites
namespace Go.Vi
open Go.RowKit
structure qdL (B:Nat) (W W':World):Prop where
 size:W.heap.size<=W'.heap.size
 same:∀(k:Nat) (o:Go.Obj),B<=k->W.heap[k]? = some o->qjN o=false->W'.heap[k]? = some o
def qdK(H:FH)(W W':World):Prop:=∀(b:Nat) (c:FB),H b=some c->W'.heap[b]? = W.heap[b]?
def qjd(O:Nat->Prop)(W W':World):Prop:=∀b,O b->W'.heap[b]? = W.heap[b]?
def qha(B:Nat)(O O':Nat->Prop)(W W':World):Prop:=
 ∃row,W.grownBy W' row/\(∀r,row=some r->O r\/(B<=r/\∃o:Go.Obj,W.heap[r]? = some o/\qjN o=false))/\∀b,O' b↔O b\/(W.heap.size<=b/\b<W'.heap.size)
def qhw{β:Type}(B:Nat)(J:β->(Nat->Prop)->World->Prop):Prop:=∀i O O' W W',J i O W->qha B O O' W W'->J i O' W'
def qfe(P:Program)(f:FuncId)(ar:Value->Array Value)(N:Nat)(enc:Nat->Array Value)(H:FH)(O0:Nat->Prop)(w:World):Prop:=
 ∀(l:Nat) (J Jx:Nat->(Nat->Prop)->World->Prop) (W:World),Below w.heap.size w W->qhw W.heap.size J->qhw W.heap.size Jx->
  (∀m i O W1,i<N->J i O W1->YieldAt Fence.wide m P l (enc i) W1 λe W'=>qdL W.heap.size W1 W'/\((e = .returned (.bool true)/\J (i+1) O W'/\qdK H W1 W'/\qjd O W1 W')\/(e = .returned (.bool false)/\Jx (i+1) O W')))->
  J 0 O0 W->Calls P f (ar (.func (.yield l) #[] #[])) W λe W'=>(∃v,e = .returned v)/\((∃O,J N O W')\/∃i O,Jx i O W')
def SeqOrd(P:Program)(f:FuncId)(lb:Array Value)(N:Nat)(enc:Nat->Array Value)(H:FH)(O0:Nat->Prop)(w:World):Prop:=qfe P f (λy=>#[y]++lb) N enc H O0 w
def roundEnd(B:Nat)(H:FH)(O:Nat->Prop)(I:Nat->(Nat->Prop)->World->Prop)(Ix:Code->(Nat->Prop)->World->Prop)(i:Nat)(W:World):Exit->Act->World->Prop
 |.normal,_,W'=>qdL B W W'/\qdK H W W'/\qjd O W W'/\I (i+1) O W'
 |.ret,_,W'=>qdL B W W'/\Ix .ret O W'
 |.exit id,_,W'=>qdL B W W'/\Ix (.exit id) O W'
 |_,_,_=>False
section
variable {P:Program}
theorem qhw.putObj{β:Type}{B:Nat}{I:β->(Nat->Prop)->World->Prop}(h:qhw B I){s:β}{O:Nat->Prop}{W:World}{l:Nat}{o:Go.Obj}(o':Go.Obj)(hs:I s O W)(hB:B<=l)(hl:W.heap[l]? = some o)(ho:qjN o=false):I s O (W.putObj l o'):=
 h s O O W _ hs ⟨some l,grownBy_putObj' W l o',λr e=>by cases e;exact .inr ⟨hB,o,hl,ho⟩,λb=>⟨.inl,λhh=>hh.elim id (λhh=>by simp at hh;omega)⟩⟩
theorem qnS{g:Operand}{ps:Array Tmp}{assign body:Code}{Q:Exit->Act->World->Prop}{a:Act}{w:World}{gf:FuncId}{pre lb:Array Value}{ar:Value->Array Value}(har:∀y,ar y=pre ++ #[y]++lb)(hg:a.eval g = .func (.func gf) pre lb)(eg:∀args w,(callFunc gf args).run P w = .ok (.enter gf args) w)
  {N:Nat} {enc:Nat->Array Value} {H:FH} {O0:Nat->Prop} (hH:∀b c,H b=some c->b<w.heap.size) (hseq:qfe P gf ar N enc H O0 w) (hps:∀i,(enc i).size=ps.size) (hOl:∀b,O0 b->b<w.heap.size)
  (I:Nat->(Nat->Prop)->World->Prop) (Ia:Nat×Act->(Nat->Prop)->World->Prop) (Ix:Code->(Nat->Prop)->World->Prop) (hI:qhw w.heap.size I) (hIa:qhw w.heap.size Ia) (hIx:qhw w.heap.size Ix) (h0:I 0 O0 w)
  (hassign:∀(l n i:Nat) (O:Nat->Prop) (W:World),i<N->I i O W->assign.wpIn (Fence.wide.inRound l) n P (Exit.then (λa₁ W₁=>Ia (i,a₁) O W₁/\qdL w.heap.size W W₁/\qdK H W W₁/\qjd O W W₁) (λ_ _ _=>False)) {tmps:=(ps.zip (enc i)).foldl (λt (p,v)=>t.setIfInBounds p v) a.tmps,defers:=[]} W)
  (hbody:∀(l n i:Nat) (O:Nat->Prop) (a₁:Act) (W:World),i<N->Ia (i,a₁) O W->body.wpIn (Fence.wide.inRound l) n P (roundEnd w.heap.size H O I Ix i W) a₁ W)
  (hdone:∀(D:Nat) (O:Nat->Prop) (W:World),w.heap.size<=D->I N O W->W.heap[D]? = some (.deferred (some []))->Q .normal {a with defers:={target:=.collected D,args:=#[]}::a.defers} W)
  (hstop:∀(D:Nat) (c:Code) (O:Nat->Prop) (W:World),w.heap.size<=D->Ix c O W->W.heap[D]? = some (.deferred (some []))->c.wp P Q {a with defers:={target:=.collected D,args:=#[]}::a.defers} W):
  (Code.rangeFunc g ps assign body).wp P Q a w:=by
 refine(wpIn_wide (n:=1)).1 (wpIn_rangeFunc ?_)
 intro fn _
 obtain⟨rec,hrec⟩:∃rec:LoopState->Option Code->Loop,rec=λst pe=>{state:=st,pending:=pe,fn,tmps:=a.tmps,params:=ps,assign,body,defers:=w.heap.size}:=⟨_,rfl⟩
 obtain⟨W1,hW1⟩:∃W1,(w.alloc (.deferred (some []))).alloc (.loop (rec .ready none))=W1:=⟨_,rfl⟩
 have hL1:W1.heap[w.heap.size+1]? = some (.loop (rec .ready none)):=by
  rw[<-hW1];have:=World.alloc_heap_new (w.alloc (.deferred (some []))) (.loop (rec .ready none));rwa[World.size_alloc]at this
 have hK1:W1.heap[w.heap.size]? = some (.deferred (some [])):=by
  rw[<-hW1];exact(Below.heap_alloc _ _ _ (by simp)).trans (World.alloc_heap_new w _)
 have hsz1:W1.heap.size=w.heap.size+2:=by rw[<-hW1];simp
 have hI1:I 0 (λb=>O0 b\/b=w.heap.size\/b=w.heap.size+1) W1:=by
  rw[<-hW1]
  have s1:=hI 0 O0 (λb=>O0 b\/b=w.heap.size) w (w.alloc (.deferred (some []))) h0 ⟨none,World.grownBy_alloc _ _ none,λr e=>(by cases e),λb=>by rw[World.size_alloc];exact or_congr Iff.rfl (by omega)⟩
  exact hI 0 _ _ _ _ s1 ⟨none,World.grownBy_alloc _ _ none,λr e=>(by cases e),λb=>by simp only[World.size_alloc];rw[or_assoc];exact or_congr Iff.rfl (by omega)⟩
 have hb1:Below w.heap.size w W1:=by
  rw[<-hW1];exact((Below.refl _ w).alloc (Nat.le_refl _) _).alloc (by simp) _
 have hKb:∀(W:World) (l:Nat) (o':Go.Obj),w.heap.size<=l->qdK H W (W.putObj l o'):=λW l o' hl b c hb=>World.putObj_heap_other (by have:=hH b c hb;omega)
 have hKt:∀{A B D:World},qdK H A B->qdK H B D->qdK H A D:=λh1 h2 b c hb=>(h2 b c hb).trans (h1 b c hb)
 refine⟨w.heap.size+1,[{target:=.collected w.heap.size,args:=#[]}],W1,{target:=.fn (.func gf) lb,args:=pre ++ #[.func (.yield (w.heap.size+1)) #[] #[]]},W1,gf,
  pre ++ #[.func (.yield (w.heap.size+1)) #[] #[]]++lb,W1,?_,?_,?_,?_,λ_=>Nat.le_refl _,?_⟩
 ·rw[<-hW1,hrec];exact run_enterLoop_outer _ _ _ _ _
 ·simp only[resolve,hg]
  simp[go_sem]
 ·intro f' _;trivial
 ·simp[invoke,go_sem,eg]
 ·-- what the law keeps beside the caller's invariant
  have hst:∀{A B:World} {O O':Nat->Prop} {k:Nat} {o:Go.Obj},qha W1.heap.size O O' A B->¬O k->k<W1.heap.size->A.heap[k]? = some o->B.heap[k]? = some o:=by
   rintro A B O O' k o ⟨row,hg',hr,_⟩ hO hk h
   refine(hg'.block _ (Array.getElem?_eq_some_iff.1 h).1 (λe=>?_)).trans h
   rcases hr _ e.symm with h1|h1
   ·exact hO h1
   ·omega
  have hup:∀{β:Type} {J:β->(Nat->Prop)->World->Prop} {i:β} {A B:World} {O O':Nat->Prop},qhw w.heap.size J->qha W1.heap.size O O' A B->J i (λb=>O b\/b=w.heap.size\/b=w.heap.size+1) A->J i (λb=>O' b\/b=w.heap.size\/b=w.heap.size+1) B:=by
   rintro β J i A B O O' hJ ⟨row,hg',hr,hO⟩ h
   refine hJ _ _ _ _ _ h ⟨row,hg',λr e=>?_,λb=>?_⟩
   ·rcases hr r e with h1|⟨h1,h2⟩
    ·exact .inl (.inl h1)
    ·exact .inr ⟨by omega,h2⟩
   ·show(O' b\/_)↔(O b\/_)\/_
    rw[hO]
    constructor
    ·rintro((h|h)|h)
     ·exact .inl (.inl h)
     ·exact .inr h
     ·exact .inl (.inr h)
    ·rintro((h|h)|h)
     ·exact .inl (.inl h)
     ·exact .inr h
     ·exact .inl (.inr h)
  have hN:∀{O O':Nat->Prop} {A B:World},(∀b,O b->b≠w.heap.size/\b≠w.heap.size+1)->W1.heap.size<=A.heap.size->qha W1.heap.size O O' A B->∀b,O' b->b≠w.heap.size/\b≠w.heap.size+1:=by
   rintro O O' A B hn hA ⟨_,_,_,hO⟩ b hb
   rcases(hO b).1 hb with h|h
   ·exact hn b h
   ·omega
  have hq:=λ(J Jx:Nat->(Nat->Prop)->World->Prop)=>hseq (w.heap.size+1) J Jx
  rw[har]at hq
  refine(callsIn_wide (n:=0)).2 ((hq
   (λi O W=>I i (λb=>O b\/b=w.heap.size\/b=w.heap.size+1) W/\W.heap[w.heap.size+1]? = some (.loop (rec .ready none))/\W.heap[w.heap.size]? = some (.deferred (some []))/\W1.heap.size<=W.heap.size/\∀b,O b->b≠w.heap.size/\b≠w.heap.size+1)
   (λi O W=>∃c,Ix c (λb=>O b\/b=w.heap.size\/b=w.heap.size+1) W/\W.heap[w.heap.size+1]? = some (.loop (rec .done (some c)))/\W.heap[w.heap.size]? = some (.deferred (some []))/\W1.heap.size<=W.heap.size/\∀b,O b->b≠w.heap.size/\b≠w.heap.size+1)
   W1 hb1
   (λs O O' A B hs hstep=>⟨hup hI hstep hs.1,hst hstep (λh=>(hs.2.2.2.2 _ h).2 rfl) (by omega) hs.2.1,hst hstep (λh=>(hs.2.2.2.2 _ h).1 rfl) (by omega) hs.2.2.1,Nat.le_trans hs.2.2.2.1 (by obtain⟨_,h,_⟩:=hstep;exact h.size),hN hs.2.2.2.2 hs.2.2.2.1 hstep⟩)
   (λs O O' A B hs hstep=>by
    obtain⟨c,hc,hl,hk,hz,hn⟩:=hs
    exact⟨c,hup hIx hstep hc,hst hstep (λh=>(hn _ h).2 rfl) (by omega) hl,hst hstep (λh=>(hn _ h).1 rfl) (by omega) hk,Nat.le_trans hz (by obtain⟨_,h,_⟩:=hstep;exact h.size),hN hn hz hstep⟩)
   ?_ ⟨hI1,hL1,hK1,Nat.le_refl _,λb hb=>by have:=hOl b hb;omega⟩).mono ?_)
  ·-- one round
   rintro m i O W hi ⟨hii,hl,hk,hz,hnO⟩
   have hlt:w.heap.size+1<W.heap.size:=(Array.getElem?_eq_some_iff.1 hl).1
   have hy:=run_yield (P:=P) (args:=enc i) hl (by rw[hrec];exact hps i)
   rw[hrec]at hy
   refine⟨fn,_,assign,body,hy,roundIn_of_wpIn trivial (wpIn_mono (hassign _ m i _ W hi hii) ?_)⟩
   rintro e a₁ W2 hp
   cases e with
   |normal=>
    obtain⟨hia,hko,hkp,hkO⟩:=hp
    have hl2:=(hko.same _ _ (by omega) hl rfl)
    have hk2:=(hko.same _ _ (Nat.le_refl _) hk rfl)
    have hlt2:w.heap.size+1<W2.heap.size:=(Array.getElem?_eq_some_iff.1 hl2).1
    refine⟨_,run_beginRound hl2 (by rw[hrec]),?_⟩
    have hl3:(W2.putObj (w.heap.size+1) (.loop {rec .ready none with state:=.busy})).heap[w.heap.size+1]? = some (.loop {rec .ready none with state:=.busy}):=World.putObj_heap_same hlt2
    have hk3:(W2.putObj (w.heap.size+1) (.loop {rec .ready none with state:=.busy})).heap[w.heap.size]? = some (.deferred (some [])):=(World.putObj_heap_other (by omega)).trans hk2
    have hw3:qdK H W2 (W2.putObj (w.heap.size+1) (.loop {rec .ready none with state:=.busy})):=hKb _ _ _ (by omega)
    refine wpIn_mono (hbody _ m i _ a₁ _ hi (hIa.putObj _ hia (by omega) hl2 rfl)) ?_
    have fin:∀(jump:Option Code) (W4:World),qdL w.heap.size (W2.putObj (w.heap.size+1) (.loop {rec .ready none with state:=.busy})) W4->
      (Instr.endRound (w.heap.size+1) jump).run P W4 = .ok (.bool jump.isNone) (W4.putObj (w.heap.size+1) (.loop (rec (if jump.isNone then .ready else .done) jump)))/\
      W4.heap[w.heap.size+1]? = some (.loop {rec .ready none with state:=.busy})/\
      (W4.putObj (w.heap.size+1) (.loop (rec (if jump.isNone then .ready else .done) jump))).heap[w.heap.size+1]? = some (.loop (rec (if jump.isNone then .ready else .done) jump))/\
      (W4.putObj (w.heap.size+1) (.loop (rec (if jump.isNone then .ready else .done) jump))).heap[w.heap.size]? = some (.deferred (some []))/\W1.heap.size<=(W4.putObj (w.heap.size+1) (.loop (rec (if jump.isNone then .ready else .done) jump))).heap.size:=λjump W4 hk4=>by
     have hl4:=hk4.same _ _ (by omega) hl3 rfl
     have:=run_endRound (P:=P) jump hl4
     rw[hrec]at this ⊢
     refine⟨this,by rw[hrec]at hl4;exact hl4,World.putObj_heap_same (Array.getElem?_eq_some_iff.1 hl4).1,(World.putObj_heap_other (by omega)).trans (hk4.same _ _ (Nat.le_refl _) hk3 rfl),?_⟩
     have h1:=hk4.size
     have h2:=hko.size
     simp at h1 ⊢
     omega
    have whole:∀(W4:World) (o':Go.Obj),qdL w.heap.size (W2.putObj (w.heap.size+1) (.loop {rec .ready none with state:=.busy})) W4->qdL W1.heap.size W (W4.putObj (w.heap.size+1) o'):=λW4 o' hk4=>
     ⟨by have h1:=hk4.size;have h2:=hko.size;simp at h1 ⊢;omega,λk o hk' hko' hoc=>(World.putObj_heap_other (by omega)).trans (hk4.same k o (by omega) ((World.putObj_heap_other (by omega)).trans (hko.same k o (by omega) hko' hoc)) hoc)⟩
    rintro e a3 W4 hp
    cases e with
    |normal=>
     obtain⟨hk4,hkp4,hkO4,hi4⟩:=hp
     obtain⟨hr,hl4,hl5,hk5,hz5⟩:=fin none W4 hk4
     refine⟨_,_,hr,whole _ _ hk4,.inl ⟨rfl,⟨hI.putObj _ hi4 (by omega) hl4 rfl,hl5,hk5,hz5,hnO⟩,hKt (hKt hkp hw3) (hKt hkp4 (hKb _ _ _ (by omega))),λb hb=>?_⟩⟩
     have hbn:=hnO b hb
     exact(World.putObj_heap_other (by omega)).trans ((hkO4 b (.inl hb)).trans ((World.putObj_heap_other (by omega)).trans (hkO b (.inl hb))))
    |ret=>
     obtain⟨hk4,hi4⟩:=hp
     obtain⟨hr,hl4,hl5,hk5,hz5⟩:=fin (some .ret) W4 hk4
     exact⟨_,_,hr,whole _ _ hk4,.inr ⟨rfl,.ret,hIx.putObj _ hi4 (by omega) hl4 rfl,hl5,hk5,hz5,hnO⟩⟩
    |exit id=>
     obtain⟨hk4,hi4⟩:=hp
     obtain⟨hr,hl4,hl5,hk5,hz5⟩:=fin (some (.exit id)) W4 hk4
     exact⟨_,_,hr,whole _ _ hk4,.inr ⟨rfl,.exit id,hIx.putObj _ hi4 (by omega) hl4 rfl,hl5,hk5,hz5,hnO⟩⟩
    |_=>exact hp.elim
   |_=>exact hp.elim
  ·-- behind the iterator
   rintro e W2 ⟨⟨v,rfl⟩,(⟨O,hi,hl,hk,_⟩|⟨i,O,c,hi,hl,hk,_⟩)⟩
   ·exact⟨none,_,by have:=run_endLoop (P:=P) hl (by rw[hrec];simp);rw[hrec]at this;exact this,hdone _ _ _ (Nat.le_refl _) (hI.putObj _ hi (by omega) hl rfl) ((World.putObj_heap_other (by omega)).trans hk)⟩
   ·exact⟨some c,_,by have:=run_endLoop (P:=P) hl (by rw[hrec];simp);rw[hrec]at this;exact this,(wpIn_wide (n:=1)).2 (hstop _ c _ _ (Nat.le_refl _) (hIx.putObj _ hi (by omega) hl rfl) ((World.putObj_heap_other (by omega)).trans hk))⟩
end
end Go.Vi
