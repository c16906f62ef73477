/- The contracts of functions of the program, printed by program from the interpreter: each says what a call returns. No condition beyond those typed in each theorem. -/
import Derived.Test.YtmlocmhkfnojbaaGreatFn1
namespace Go.Proofs.Tryz.V
noncomputable section
open Go.Vi
set_option maxRecDepth 100000
namespace Hs
open Go.Shelf Go.RowKit Go.Lib Go.Sort Go.Vi
def oE(x y:Int):Int:=if x≠0 then x else y
set_option maxHeartbeats 1000000 in
theorem Xe(g:Nat)(x y:Int)(W:World)(t:TypeId)(hg:W.heap[g]? = some (.cells #[.int .i64 x,.int .i64 y] t (0,0))):Calls Tryz.prog 76 #[.slice (some ⟨g,0,none⟩) 2 2] W λe w'=>e = .returned (.int .i64 (oE x y))/\w'=W:=by
  have c0:W.cell? ⟨g,0,none⟩=some (.int .i64 x):=by simp[World.cell?,hg]
  have c1:W.cell? ⟨g,1,none⟩=some (.int .i64 y):=by simp[World.cell?,hg]
  go_enter Tryz.func76,Tryz.ntmps76
  go_wp2
  refine wp_loop_rounds 3 ?_
  rw[rounds_succ]
  go_wp2
  · rename_i hx
    have hx:x≠0:=by simpa using hx
    go_ret
    exact⟨by simp[oE,hx],rfl⟩
  rename_i hx
  have hx:x=0:=by simpa using hx
  rw[rounds_succ]
  go_wp2
  · rename_i hy
    have hy:y≠0:=by simpa using hy
    go_ret
    exact⟨by simp[oE,hx],rfl⟩
  rename_i hy
  have hy:y=0:=by simpa using hy
  rw[rounds_succ]
  go_wp2
  go_ret
  exact⟨by simp[oE,hx,hy],rfl⟩
def zo(n:Int):Prop:=-1000000000000<=n/\n<=1000000000000
set_option maxHeartbeats 1000000 in
theorem Xf(c d:Int×Int)(W:World)(h1:zo c.1)(h2:zo c.2)(h3:zo d.1)(h4:zo d.2):
    Calls Tryz.prog 55 #[jS c,jS d] W λe w'=>e = .returned (.int .i64 (oE (c.1-d.1) (c.2-d.2)))/\∃q os',w'=grow (W.drewN q) os':=by
  obtain⟨c1,c2⟩:=c
  obtain⟨d1,d2⟩:=d
  unfold zo at h1 h2 h3 h4
  simp only at h1 h2 h3 h4 ⊢
  have Sc:wrap64 (c1-d1)=c1-d1:=by unfold wrap64;omega
  have hw2:wrap64 (c2-d2)=c2-d2:=by unfold wrap64;omega
  have hb:∀(o1 o2 o3:Obj),(((W.alloc o1).alloc o2).alloc o3).heap[W.heap.size+1+1]? = some o3:=by
    intro o1 o2 o3
    have h:=Array.getElem?_push_size (xs:=((W.alloc o1).alloc o2).heap) (x:=o3)
    have e:((W.alloc o1).alloc o2).heap.size=W.heap.size+1+1:=by
      unfold World.alloc
      rw[Array.size_push,Array.size_push]
    rw[e]at h
    exact h
  unfold jS
  go_enter Tryz.func55,Tryz.ntmps55
  go_wp2_with (go_at_call 76;refine(Xe _ _ _ _ 3 (hb _ _ _)).mono ?_;rintro e w' ⟨rfl,rfl⟩)
  go_ret
  exact⟨rfl,0,_,by rw[alloc_eq_grow,alloc_eq_grow,alloc_eq_grow,grow_grow,grow_grow];rfl⟩
set_option maxHeartbeats 2000000 in
set_option maxRecDepth 100000 in
theorem qoF(hkp:nv Tryz.prog 131){l:List (XK×XK)}(p q:XK)(W:World){b0 o b:Nat}(hc:W.cell? ⟨b0,o,none⟩=some (.map (some b)))(hm:rS Tryz.prog 131 jS W b l)
    (hp1:lN p.1=true) (hp2:lN p.2=true) (hq1:lN q.1=true) (r_:lN q.2=true)
    (h1:zo ((jE l q).getD (0,0)).1) (h2:zo ((jE l q).getD (0,0)).2) (h3:zo ((jE l p).getD (0,0)).1) (h4:zo ((jE l p).getD (0,0)).2):
    Calls Tryz.prog 57 #[jS p,jS q,.pointer (some ⟨b0,o,none⟩)] W λe w'=>e = .returned (.int .i64 (oE (((jE l q).getD (0,0)).1-((jE l p).getD (0,0)).1) (((jE l q).getD (0,0)).2-((jE l p).getD (0,0)).2)))/\∃q os',w'=grow (W.drewN q) os':=by
  have mixed:Tryz.prog.follows .mixedOrders=true:=by kernel_rfl
  have hT:Tryz.prog.underlying 127=some (.map 131 124):=by kernel_rfl
  obtain⟨p1,p2⟩:=p
  obtain⟨q1,q2⟩:=q
  have zB:b0<W.heap.size:=by
    unfold World.cell? at hc
    split at hc
    · rename_i h;exact(Array.getElem?_eq_some_iff.1 h).1
    · cases hc
  obtain⟨eb,nb,hbk,hbF⟩:=hm.fz
  have Lh:b<W.heap.size:=(Array.getElem?_eq_some_iff.1 hbk).1
  have hmg:∀(w':World),w'.heap[b]? = W.heap[b]?->rS Tryz.prog 131 jS w' b l:=λw' e=>hm.block e
  unfold jS
  go_enter Tryz.func57,Tryz.ntmps57
  go_wp2_with fail
  obtain⟨o1,uN⟩:∃o1,o1=Obj.cells #[Value.int .i64 p1,Value.int .i64 p2] 131:=⟨_,rfl⟩
  obtain⟨o2,df⟩:∃o2,o2=Obj.cells #[Value.int .i64 q1,Value.int .i64 q2] 131:=⟨_,rfl⟩
  rw[<-uN,<-df]
  obtain⟨V,hV⟩:∃V,V=(W.alloc o1).alloc o2:=⟨_,rfl⟩
  have hVs:V.heap.size=W.heap.size+2:=by rw[hV];simp
  have hg1:V.heap[W.heap.size]? = some o1:=by
    rw[hV,heap_alloc_old _ _ (by simp),heap_alloc_new]
  have hg2:V.heap[W.heap.size+1]? = some o2:=by
    have:=heap_alloc_new (W.alloc o1) o2
    rw[World.size_alloc]at this
    rw[hV];exact this
  have hold:∀k,k<W.heap.size->V.heap[k]? = W.heap[k]?:=λk hk=>by
    rw[hV,heap_alloc_old _ _ (by simp;omega),heap_alloc_old _ _ hk]
  have fE:∀n os k,k<V.heap.size->(grow (V.drewN n) os).heap[k]? = V.heap[k]?:=λn os k hk=>by
    show(V.heap++os)[k]? = _
    rw[Array.getElem?_append_left hk]
  have f0:∀n os,(grow (V.drewN n) os).cell? ⟨b0,o,none⟩=some (.map (some b)):=λn os=>by
    have e:(grow (V.drewN n) os).heap[b0]? = W.heap[b0]?:=by rw[fE _ _ _ (by omega),hold _ zB]
    unfold World.cell? at hc ⊢
    simp only[e]
    exact hc
  have f1:∀n os,(grow (V.drewN n) os).cell? ⟨W.heap.size,0,none⟩=some (.int .i64 p1):=λn os=>by
    have e:(grow (V.drewN n) os).heap[W.heap.size]? = some o1:=by rw[fE _ _ _ (by omega),hg1]
    simp[World.cell?,e,uN]
  have f2:∀n os,(grow (V.drewN n) os).cell? ⟨W.heap.size,1,none⟩=some (.int .i64 p2):=λn os=>by
    have e:(grow (V.drewN n) os).heap[W.heap.size]? = some o1:=by rw[fE _ _ _ (by omega),hg1]
    simp[World.cell?,e,uN]
  have f3:∀n os,(grow (V.drewN n) os).cell? ⟨W.heap.size+1,0,none⟩=some (.int .i64 q1):=λn os=>by
    have e:(grow (V.drewN n) os).heap[W.heap.size+1]? = some o2:=by rw[fE _ _ _ (by omega),hg2]
    simp[World.cell?,e,df]
  have f4:∀n os,(grow (V.drewN n) os).cell? ⟨W.heap.size+1,1,none⟩=some (.int .i64 q2):=λn os=>by
    have e:(grow (V.drewN n) os).heap[W.heap.size+1]? = some o2:=by rw[fE _ _ _ (by omega),hg2]
    simp[World.cell?,e,df]
  have hMg:∀n os,rS Tryz.prog 131 jS (grow (V.drewN n) os) b l:=λn os=>hm.block (by rw[fE _ _ _ (by omega),hold _ Lh])
  have l1:∀n os,(Instr.lookup 127 (.map (some b)) (.agg #[.int .i64 p1,.int .i64 p2]) false).run Tryz.prog (grow (V.drewN n) os) = .ok (jS ((jE l (p1,p2)).getD (0,0))) (grow (V.drewN n) os):=λn os=>
    ((hMg n os).look hkp hT (z0:=((0:Int),(0:Int))) (q:=(p1,p2)) (Tryz.zeroValue124 _) hp1 hp2).2
  have l2:∀n os,(Instr.lookup 127 (.map (some b)) (.agg #[.int .i64 q1,.int .i64 q2]) false).run Tryz.prog (grow (V.drewN n) os) = .ok (jS ((jE l (q1,q2)).getD (0,0))) (grow (V.drewN n) os):=λn os=>
    ((hMg n os).look hkp hT (z0:=((0:Int),(0:Int))) (q:=(q1,q2)) (Tryz.zeroValue124 _) hq1 r_).2
  obtain⟨cp,hcp⟩:∃cp,cp=(jE l (p1,p2)).getD (0,0):=⟨_,rfl⟩
  obtain⟨cq,hcq⟩:∃cq,cq=(jE l (q1,q2)).getD (0,0):=⟨_,rfl⟩
  rw[<-hcp]at l1 h3 h4
  rw[<-hcq]at l2 h1 h2
  have hcg:∀n os,Calls Tryz.prog 55 #[jS cq,jS cp] (grow (V.drewN n) os) λe w'=>e = .returned (.int .i64 (oE (cq.1-cp.1) (cq.2-cp.2)))/\∃q os',w'=grow ((grow (V.drewN n) os).drewN q) os':=λn os=>Xf cq cp _ h1 h2 h3 h4
  have fin:∀n os,∃q os',grow (V.drewN n) os=grow (W.drewN q) os':=λn os=>⟨n,#[o1,o2]++os,by
    rw[hV,alloc_eq_grow,alloc_eq_grow,grow_grow]
    show grow (grow (W.drewN n) _) os=_
    rw[grow_grow];rfl⟩
  rw[<-hV]
  have FIN:Aside _:=fin
  have HCP:Hid (cp=(jE l (p1,p2)).getD (0,0)/\cq=(jE l (q1,q2)).getD (0,0)):=⟨hcp,hcq⟩
  clear hMg fE hold hg1 hg2 hm hmg hc hV hVs uN df fin hcp hcq h1 h2 h3 h4 hbk hbF Lh zB
  go_quiet_grown (refine Calls.grown_of (hcg _ _))
  go_wp2_with fail
  go_ret
  rw[<-HCP.out.1,<-HCP.out.2]
  exact⟨rfl,FIN.out _ _⟩
theorem kY(x y:Int):oE x y<0↔x<0\/(x=0/\y<0):=by
  unfold oE
  split
  · omega
  · omega
def eW(m:List (XK×XK))(p:XK):Prop:=lN p.1=true/\lN p.2=true/\zo ((jE m p).getD (0,0)).1/\zo ((jE m p).getD (0,0)).2
def uh(m:List (XK×XK))(x y:XK):Int:=oE (((jE m y).getD (0,0)).1-((jE m x).getD (0,0)).1) (((jE m y).getD (0,0)).2-((jE m x).getD (0,0)).2)
theorem YW(m:List (XK×XK))(x y:{p // eW m p}):ltOf (λx y:{p // eW m p}=>uh m x.1 y.1) x y=decide (uh m x.1 y.1<0):=rfl
theorem Ma(m:List (XK×XK)):SWO (ltOf λx y:{p // eW m p}=>uh m x.1 y.1) where
  irrefl x:=by rw[YW];unfold uh;rw[decide_eq_false_iff_not,kY];omega
  trans x y z h1 h2:=by rw[YW]at *;unfold uh at *;rw[decide_eq_true_eq,kY]at *;omega
  ntrans x y z h1 h2:=by rw[YW]at *;unfold uh at *;rw[decide_eq_false_iff_not,kY]at *;omega
def Au(m:List (XK×XK))[Inhabited {p // eW m p}](d:Array {p // eW m p}):List XK:=
  (pdq (ltOf λx y:{p // eW m p}=>uh m x.1 y.1) d 0 d.size (Lib.bitLen d.size) true true).toList.map (·.1)
def Th(m:List (XK×XK)):List {p // eW m p}->Option (List XK)
  |[]=>none
  |x::r=>some (@Au m ⟨x⟩ (x::r).toArray)
theorem att{α:Type}{P:α->Prop}(l:List α)(h:∀x∈l,P x):(l.attachWith P h).map (·.1)=l:=by
  apply List.ext_getElem
  · simp
  · intro i h1 h2
    simp
theorem qog{m:List (XK×XK)}[Inhabited {p // eW m p}](d:Array {p // eW m p}):(Au m d).Perm (d.toList.map (·.1))/\(Au m d).Pairwise λx y=>¬uh m y x<0:=by
  obtain⟨hp,hs⟩:=pdq_sorts (ltOf λx y:{p // eW m p}=>uh m x.1 y.1) (Ma m) d 0 d.size (Lib.bitLen d.size) true true (Nat.zero_le _) (Nat.le_refl _) (Or.inl rfl)
  unfold Au
  generalize pdq (ltOf λx y:{p // eW m p}=>uh m x.1 y.1) d 0 d.size (Lib.bitLen d.size) true true=d' at hp hs ⊢
  have hds:d'.size=d.size:=hp.1
  have VG:d'.toList.Perm d.toList:=by
    have h5:=hp.2.2
    rw[Array.toList_extract,Array.toList_extract]at h5
    simpa[List.extract_eq_take_drop,hds,List.take_of_length_le]using h5
  refine⟨VG.map _,?_⟩
  rw[List.pairwise_map,List.pairwise_iff_getElem]
  intro i j hi hj hij
  have hj':j<d'.size:=by simpa using hj
  have h5:=hs i j (Nat.zero_le _) hij (by omega)
  rw[getElem!_pos d' i (by omega),getElem!_pos d' j hj']at h5
  rw[YW,decide_eq_false_iff_not]at h5
  simpa using h5
def FT(o:Option (List (XK×XK)))(l:List (Int×Int)):Option dQ:=
  match o with
  |none=>none
  |some m=>open Classical in if h:l.length<=1000000/\∀p∈l,eW m p then Th m (l.attachWith (eW m) h.2)else none
theorem As{m:List (XK×XK)}{l:List (Int×Int)}(h1:l.length<=1000000)(h2:∀p∈l,eW m p)(hne:l≠[]):∃l',FT (some m) l=some l'/\l'.Perm l/\l'.Pairwise λx y=>¬uh m y x<0:=by
  have h:l.length<=1000000/\∀p∈l,eW m p:=⟨h1,h2⟩
  have e2:=att l h.2
  have e3:FT (some m) l=Th m (l.attachWith (eW m) h.2):=by
    unfold FT
    dsimp only
    rw[dif_pos h]
  rw[e3]
  revert e2
  generalize l.attachWith (eW m) h.2=la
  intro e2
  cases la with
  |nil=>exact absurd e2.symm hne
  |cons x r=>
    obtain⟨hp,hs⟩:=@qog m ⟨x⟩ (x::r).toArray
    refine⟨_,rfl,?_,hs⟩
    rw[<-e2]
    exact hp
theorem qof{m:List (XK×XK)}{l l2:List (Int×Int)}(h:FT (some m) l=some l2):l.length<=1000000/\l≠[]/\∃(i:Inhabited {p // eW m p}) (d:Array {p // eW m p}),d.toList.map (·.1)=l/\ @Au m i d=l2:=by
  unfold FT at h
  dsimp only at h
  split at h
  case isFalse=>cases h
  rename_i hall
  have e2:=att l hall.2
  revert e2 h
  generalize l.attachWith (eW m) hall.2=la
  intro h e2
  cases la with
  |nil=>cases h
  |cons x r=>exact⟨hall.1,by rw[<-e2];simp,⟨x⟩,_,e2,Option.some.inj h⟩
def xs:XS:=⟨56,57,.ext false 0 131 124,131,.str eS,FT⟩
theorem qmQ(hkp:nv Tryz.prog 131){m:List (XK×XK)}{l l2:List (Int×Int)}(mz:FT (some m) l=some l2){w:World}{H:FH}{b o:Nat}{blk:Array Value}{φ:qH}(hok:cI H w)(WB:H b=some (.cells blk))(an:qm Tryz.prog (.ext false 0 131 124) w H (some m:Option (List (XK×XK))) (ct blk o 1) [])
    (bh:qR Tryz.prog w H ⟨true,.list true 131 (.str eS),l⟩ φ) (hfr:∀c∈φ.fp,H c=none/\c<w.heap.size):
    Calls Tryz.prog 56 #[φ.ax,.func (.func 57) #[] #[.pointer (some ⟨b,o,none⟩)]] w λe w'=>e = .returned (.tuple #[])/\jO (· ∈φ.fp) w w'/\qR Tryz.prog w' H ⟨true,.list true 131 (.str eS),l2⟩ φ:=by
  obtain⟨bm,eB,_,c,hHm,hmF⟩:=an
  have eB:ct blk o 1=[.map (some bm)]:=eB
  obtain⟨tb,fb,Gw⟩:=hok b _ WB
  have hmX:rS Tryz.prog 131 jS w bm m:=hmF.U' (hok bm c hHm)
  have hcell:w.cell? ⟨b,o,none⟩=some (.map (some bm)):=by
    have:blk[o]? = some (.map (some bm)):=by
      unfold ct at eB
      have h:=congrArg (·[0]?) eB
      simpa using h
    simp[World.cell?,Gw,this]
  obtain⟨hlim,hne,inst,da,mG,mz⟩:=qof mz
  have hds:da.size=l.length:=by rw[<-mG];simp
  let t:Ty:=.pair zI zI
  have Lh:(Ty.str t).aM=true:=rfl
  rcases qkN Lh bh with⟨hl0,hh⟩|⟨g,cap,cur,hh,bl,hg,h1,h2,h3,h4⟩
  · exact absurd hl0 hne
  have hgf:H g=none:=(hfr g (by rw[bl];simp)).1
  have hbg:b≠g:=λe=>by rw[e,hgf]at WB;cases WB
  have hmg:bm≠g:=λe=>by rw[e,hgf]at hHm;cases hHm
  have hk:∀x:{p // eW m p},(jw t x.1).length=t.size:=λx=>qm.length (P:=Tryz.prog) t (RP t rfl w H x.1)
  have wT:∀x:{p // eW m p},∀u∈jw t x.1,u.oneCell'=true:=λx=>qm.one (P:=Tryz.prog) t (RP t rfl w H x.1)
  have hmap:∀lb:List {p // eW m p},(lb.map λx=>jw t x.1).flatten=((lb.map (·.1)).map (jw (.str t))).flatten:=λlb=>by
    rw[List.map_map];rfl
  have hH:HoldsK (λx:{p // eW m p}=>jw t x.1) t.size w g 0 da:=by
    intro j hj
    have hj':j<l.length*(Ty.str t).size:=by
      have h:j<l.length*t.size:=by rw[<-hds];exact Nat.lt_of_lt_of_eq hj (size_flatK _ _ _)
      exact h
    have hf:=qjq (λx:{p // eW m p}=>jw t x.1) hk da
    refine⟨?_,?_⟩
    · rw[qw hg,Nat.zero_add,<-Array.getElem?_toList]
      have h5:(flatK (λx:{p // eW m p}=>jw t x.1) t.size da).toList[j]? = cur.toList[j]?:=by
        rw[hf,hmap,mG,<-h4,List.getElem?_take,if_pos hj']
      rw[<-h5,Array.getElem?_toList,getElem!_pos _ j hj]
      exact Array.getElem?_eq_getElem _
    · simp[World.frozen?,hg]
  have hcmp:CmpLays Tryz.prog 57 #[.pointer (some ⟨b,o,none⟩)] (λx:{p // eW m p}=>jw t x.1) t.size (λx y=>uh m x.1 y.1) g 0 da.size w:=by
    intro n os dk hdk x y
    have hgw:(Sort.ahead w n).heap[g]? = some (.cells cur 131 (0,0)):=hg
    have hW:∀k,k<w.heap.size->k≠g->(sortWorldK (λx:{p // eW m p}=>jw t x.1) t.size w g 0 n dk os).heap[k]? = w.heap[k]?:=by
      intro k Cx hkg
      have hsize:(putRowK (λx:{p // eW m p}=>jw t x.1) t.size (Sort.ahead w n) g 0 dk).heap.size=w.heap.size:=size_putRowK _ _ _ _ _ _
      unfold sortWorldK
      show((putRowK (λx:{p // eW m p}=>jw t x.1) t.size (Sort.ahead w n) g 0 dk).heap++os)[k]? = _
      rw[Array.getElem?_append_left (by rw[hsize];exact Cx)]
      exact(qfb id (Sort.ahead w n) g (flatK (λx:{p // eW m p}=>jw t x.1) t.size dk) hgw).2 k hkg
    generalize sortWorldK (λx:{p // eW m p}=>jw t x.1) t.size w g 0 n dk os=W at hW ⊢
    have hlb:b<w.heap.size:=(Array.getElem?_eq_some_iff.1 Gw).1
    have hlm:bm<w.heap.size:=(hok bm c hHm).lt
    obtain⟨⟨x1,x2⟩,hx⟩:=x
    obtain⟨⟨y1,y2⟩,hy⟩:=y
    exact qoF hkp (x1,x2) (y1,y2) W (by unfold World.cell? at hcell ⊢;rw[hW b hlb hbg];exact hcell) (hmX.block (hW bm hlm hmg)) hx.1 hx.2.1 hy.1 hy.2.1 hy.2.2.1 hy.2.2.2 hx.2.2.1 hx.2.2.2
  have hc:=Go.Proofs.AnyQ.slices_SortFunc_eq Tryz.Tj t.size (λw=>by kernel_rfl) (λw=>by kernel_rfl) (λx:{p // eW m p}=>jw t x.1) hk wT (λx y=>uh m x.1 y.1) (Ma m) 57 #[.pointer (some ⟨b,o,none⟩)] g 0 cap da w
    (enters_of Tryz.func57 (by kernel_rfl) rfl) hcmp hH (Array.getElem?_eq_some_iff.1 hg).1 (by rw[hds];omega)
  have mz:(pdq (ltOf λx y:{p // eW m p}=>uh m x.1 y.1) da 0 l.length (Lib.bitLen l.length) true true).toList.map (·.1)=l2:=by rw[<-hds];exact mz
  rw[hds]at hc
  rw[hh]
  refine hc.mono ?_
  rintro e w' ⟨rfl,n,os,rfl⟩
  obtain⟨hp,_⟩:=pdq_sorts (ltOf λx y:{p // eW m p}=>uh m x.1 y.1) (Ma m) da 0 l.length (Lib.bitLen l.length) true true (Nat.zero_le _) (by rw[hds];exact Nat.le_refl _) (Or.inl rfl)
  generalize pdq (ltOf λx y:{p // eW m p}=>uh m x.1 y.1) da 0 l.length (Lib.bitLen l.length) true true=d' at hp mz ⊢
  have bn:d'.toList.map (·.1)=l2:=mz
  have abv:d'.size=l.length:=hp.1.trans hds
  obtain⟨hm,ho⟩:=GV (P:=Tryz.prog) (l':=l2) Lh bh hh bl hg h1 h2 h3 (by rw[<-bn,List.length_map,Array.length_toList,abv]) (F:=flatK (λx:{p // eW m p}=>jw t x.1) t.size d') (by
    rw[qjq _ hk,hmap,bn]) n os
  exact⟨rfl,hm,ho⟩
theorem SL:DL Tryz.prog xs where
  eO:=qX Tryz.func56 rfl (by kernel_rfl)
  sort x l l2 mz w H b o blk φ hok WB an bh aq hfr:=by
    have mz:FT x l=some l2:=mz
    cases x with
    |none=>cases mz
    |some m=>exact qmQ wI mz hok WB an bh hfr
end Hs
def Qy(_n:Nat)(aW:(List sA))(i_1:Int)(k_2:Int):Option cr:=
  qn aW i_1 λe1=>qn aW k_2 λe2=>qa (Ln (e1.2,e2.2,())) λy3=>some (((decide (y3.1.1<0)),()),())
def rF(d:(List sA)×Int×Int×Unit):Option cr:=Qy qk d.1 d.2.1 d.2.2.1
def Nb:qS:=⟨[.v (.list false 158 (.str z_)),.v zI,.v zI],[.v .bool],rF⟩
def Xn:jB:=⟨19,bV,[],[(55,MX)],[],[],[],[],[],[],[],[],[],[],none,[],[],[],none,none,[]⟩
theorem JG(n:Nat)(d):qL Xn n Tryz.f137 (body Tryz.f137) Nb.ps Nb.rs d=Qy n d.1 d.2.1 d.2.2.1:=by kernel_rfl
theorem abG:qJ Tryz.prog 137 Nb:=hQ (aa:=Xn) (qz qB (qf h55 qq) rfl (by kernel_rfl)) Tryz.func137 (by kernel_rfl) (qE (by kernel_rfl)) (by kernel_rfl) (JG qk)
def Qx(_n:Nat)(aW:(List sA)):Option (((XK×XK)×Unit)×((List sA)×Unit)):=
  vg (λ(e1:(Int×Int)×(Int×Int))=>vg (some ((e1,()),((aW.take (IntKind.wrap .i64 ((aW.length:Int)-1)).toNat),()))) λE=>qv [bO 0 (IntKind.wrap .i64 ((aW.length:Int)-1)) (bO (IntKind.wrap .i64 ((aW.length:Int)-1)) (aW.length:Int) (E)),bO 0 (IntKind.wrap .i64 ((aW.length:Int)-1)) (bO (IntKind.wrap .i64 ((aW.length:Int)-1)) (aW.length:Int) (E))]) λE=>qv [qv [qv [bx (IntKind.wrap .i64 ((aW.length:Int)-1)) aW.length (qv [qn aW (IntKind.wrap .i64 ((aW.length:Int)-1)) λe1=>E e1,qn aW (IntKind.wrap .i64 ((aW.length:Int)-1)) λe2=>E e2]),bx (IntKind.wrap .i64 ((aW.length:Int)-1)) aW.length (qn aW (IntKind.wrap .i64 ((aW.length:Int)-1)) λe3=>E e3)],bx (IntKind.wrap .i64 ((aW.length:Int)-1)) aW.length (qn aW (IntKind.wrap .i64 ((aW.length:Int)-1)) λe4=>E e4)],qv [qv [bx (IntKind.wrap .i64 ((aW.length:Int)-1)) aW.length (qv [qn aW (IntKind.wrap .i64 ((aW.length:Int)-1)) λe5=>E e5,qn aW (IntKind.wrap .i64 ((aW.length:Int)-1)) λe6=>E e6]),bx (IntKind.wrap .i64 ((aW.length:Int)-1)) aW.length (qn aW (IntKind.wrap .i64 ((aW.length:Int)-1)) λe7=>E e7)],qv [bx (IntKind.wrap .i64 ((aW.length:Int)-1)) aW.length (qv [qn aW (IntKind.wrap .i64 ((aW.length:Int)-1)) λe8=>E e8,qn aW (IntKind.wrap .i64 ((aW.length:Int)-1)) λe9=>E e9]),bx (IntKind.wrap .i64 ((aW.length:Int)-1)) aW.length (qn aW (IntKind.wrap .i64 ((aW.length:Int)-1)) λoe=>E oe)],qv [bx (IntKind.wrap .i64 ((aW.length:Int)-1)) aW.length (qn aW (IntKind.wrap .i64 ((aW.length:Int)-1)) λOM=>E OM),bx (IntKind.wrap .i64 ((aW.length:Int)-1)) aW.length (qn aW (IntKind.wrap .i64 ((aW.length:Int)-1)) λsn=>E sn)]],qv [bx (IntKind.wrap .i64 ((aW.length:Int)-1)) aW.length (qn aW (IntKind.wrap .i64 ((aW.length:Int)-1)) λXa=>E Xa),bx (IntKind.wrap .i64 ((aW.length:Int)-1)) aW.length (qn aW (IntKind.wrap .i64 ((aW.length:Int)-1)) λzJ=>E zJ)]]
def Db(d:(List sA)×Unit):Option (((XK×XK)×Unit)×((List sA)×Unit)):=Qx qk d.1
def Na:qS:=⟨[.m (.list true 158 (.str z_))],[.v (.ext false 2 158 0)],Db⟩
def Xm:jB:=⟨27,bV,[],[],[],[],[1,2],[],[],[],[],[],[],[],none,[],[],[],some Hx.xq0,none,[]⟩
theorem JF(n:Nat)(d):qL Xm n Tryz.f138 (body Tryz.f138) Na.ps Na.rs d=Qx n d.1:=by kernel_rfl
theorem abF:qJ Tryz.prog 138 Na:=hQ (aa:=Xm) (qz qB (qq) rfl (by kernel_rfl) (hqu:=qm2 Hx.jo)) Tryz.func138 (by kernel_rfl) (qE (by kernel_rfl)) (by kernel_rfl) (JF qk)
def Qw(_n:Nat)(aW:(List sA))(x_1:(XK×XK)):Option Yl:=
  vg (some ((),((aW++[x_1]),()))) λE=>qv [qo ((aW.length:Int)+[x_1].length) (E),qv [qo ((aW.length:Int)+[x_1].length) (E),qo ((aW.length:Int)+[x_1].length) (E)]]
def yC(d:(List sA)×(XK×XK)×Unit):Option Yl:=Qw qk d.1 d.2.1
def M_:qS:=⟨[.m (.list true 158 (.str z_)),.v (.ext false 2 158 0)],[],yC⟩
def Xl:jB:=⟨13,bV,[],[],[],[],[0],[],[],[],[],[],[],[],none,[],[],[],some Hx.xq0,none,[]⟩
theorem JE(n:Nat)(d):qL Xl n Tryz.f139 (body Tryz.f139) M_.ps M_.rs d=Qw n d.1 d.2.1:=by kernel_rfl
theorem abE:qJ Tryz.prog 139 M_:=hQ (aa:=Xl) (qz qB (qq) rfl (by kernel_rfl) (hqu:=qm2 Hx.jo)) Tryz.func139 (by kernel_rfl) (qE (by kernel_rfl)) (by kernel_rfl) (JE qk)
def JD(_n:Nat)(aW:List sA)(i_1:Int)(k_2:Int):Option Yl:=
  bx k_2 aW.length (qn aW k_2 λe1=>bx i_1 aW.length (qn aW i_1 λe2=>bx i_1 aW.length (qn aW i_1 λ_=>bx k_2 (aW.set i_1.toNat e1).length (qn (aW.set i_1.toNat e1) k_2 λ_=>some ((),(((aW.set i_1.toNat e1).set k_2.toNat e2),()))))))
def oc(d:(List sA)×Int×Int×Unit):Option Yl:=JD qk d.1 d.2.1 d.2.2.1
def MZ:qS:=⟨[.mr 158 (.str z_),.v zI,.v zI],[],oc⟩
def Xk:jB:=⟨20,bV,[],[],[],[],[0],[],[],[],[],[],[],[],none,[],[],[],none,none,[]⟩
theorem JC(n:Nat)(d):qL Xk n Tryz.f140 (body Tryz.f140) MZ.ps MZ.rs d=JD n d.1 d.2.1 d.2.2.1:=by kernel_rfl
theorem abC:qJ Tryz.prog 140 MZ:=hQ (aa:=Xk) (qz qB (qq) rfl (by kernel_rfl)) Tryz.func140 (by kernel_rfl) (qE (by kernel_rfl)) (by kernel_rfl) (JC qk)
namespace Hp
open Go.Vi Go.Proofs Go.Shelf Go.RowKit Hx
set_option maxRecDepth 100000
theorem qnm{w:World}{l:List bG}{ax:Value}(hrow:w.ownsRow 0 158 4 ax l.length (l.map sG).flatten){i k:Int}{b:Bool}(hg:rF (l,i,k,())=some ((b,()),())):
    Calls Tryz.prog 137 #[ax,.int .i64 i,.int .i64 k] w λe w'=>e = .returned (.bool b)/\jO jA w w':=by
  obtain⟨H,hok,an⟩:=qnS (P:=Tryz.prog) hrow
  refine(abG.2 (l,i,k,()) _ hg w H [ax,.int .i64 i,.int .i64 k] [qA,qA,qA] hok ⟨ax,_,qA,_,rfl,rfl,rfl,rfl,⟨[ax],rfl,an⟩,_,_,qA,_,rfl,rfl,rfl,rfl,⟨[.int .i64 i],rfl,rfl,rfl⟩,_,_,qA,_,rfl,rfl,rfl,rfl,⟨[.int .i64 k],rfl,rfl,rfl⟩,rfl,rfl⟩ (by simp[qc,qA]) (by simp[qc,qA])).mono ?_
  rintro e w' ⟨us,H2,ag,aJ,rfl,hm,_,_,_,hres,_⟩
  obtain⟨v,vs',φ,iL,rfl,rfl,_,_,⟨cs,rfl,hc,_⟩,rfl,rfl⟩:=hres
  exact⟨by rw[hc];rfl,hm.mono (λb hb=>by simp[qc,qA]at hb)⟩
theorem qmN{w:World}{l l':List bG}{ax:Value}(hrow:w.ownsRow 0 158 4 ax l.length (l.map sG).flatten){i k:Int}(hg:oc (l,i,k,())=some ((),l',())):
    Calls Tryz.prog 140 #[ax,.int .i64 i,.int .i64 k] w λe w'=>e = .returned (.tuple #[])/\jO (· ∈ax.ownBlock.toList) w w'/\w'.ownsRow 0 158 4 ax l'.length (l'.map sG).flatten:=by
  have hlt:∀g,ax.ownBlock=some g->g<w.heap.size:=λg hg=>(World.ownsRow.lt hrow g hg).2
  have cn:qc [⟨0,ax,ax.ownBlock.toList⟩,qA,qA]=ax.ownBlock.toList:=by simp[qc,qA]
  have bh:qR Tryz.prog w (λ_=>none) ⟨true,.list true 158 Am,l⟩ ⟨0,ax,ax.ownBlock.toList⟩:=qR.eX rfl (by cases ax.ownBlock<;>simp) ⟨ax,_,[],rfl,by simp,hrow,Zl Tryz.prog w _ l⟩
  refine(abC.2 (l,i,k,()) _ hg w (λ_=>none) [ax,.int .i64 i,.int .i64 k] [⟨0,ax,ax.ownBlock.toList⟩,qA,qA] (λb c hb=>by cases hb)
    ⟨ax,_,_,_,rfl,rfl,rfl,bh,_,_,qA,_,rfl,rfl,rfl,rfl,⟨[.int .i64 i],rfl,rfl,rfl⟩,_,_,qA,_,rfl,rfl,rfl,rfl,⟨[.int .i64 k],rfl,rfl,rfl⟩,rfl,rfl⟩ (by rw[cn];cases ax.ownBlock<;>simp)
    (by rw[cn];intro b hb;exact⟨rfl,hlt b (by simpa using hb)⟩)).mono ?_
  rintro e w' ⟨us,H2,ag,aJ,rfl,hm,_,_,_,hres,dL,_,_⟩
  obtain⟨rfl,_⟩:=hres
  obtain⟨v1,vs1,SE,bZ,e1,rfl,uK,VJ,_⟩:=dL
  rw[cn]at hm
  obtain⟨rfl,_⟩:ax=v1/\[Value.int .i64 i,.int .i64 k]=vs1:=by
    injection e1 with e2 e3
    exact⟨e2,e3⟩
  have hr:=qR.dz VJ
  rw[<-uK]at hr
  obtain⟨IK,xs,f2,e4,e5,hown,hch⟩:=hr
  obtain⟨hx,_⟩:=qg5 hch
  obtain rfl:ax=IK:=by injection e4
  subst hx
  exact⟨rfl,hm,hown⟩
theorem zh{w:World}{l:List bG}{v:Value}{fp:List Nat}(h:ic 156 158 w l [v] fp)(aq:fp.Nodup):∃b ax,v = .iface 156 (.pointer (some ⟨b,0,none⟩))/\
    (method (328) 156 (.pointer (some ⟨b,0,none⟩)) "Less").run Tryz.prog w = .ok (137,ax) w/\(method (328) 156 (.pointer (some ⟨b,0,none⟩)) "Swap").run Tryz.prog w = .ok (140,ax) w/\(method (328) 156 (.pointer (some ⟨b,0,none⟩)) "Len").run Tryz.prog w = .ok (136,ax) w/\
    (∀i k r,rF (l,i,k,())=some ((r,()),())->Calls Tryz.prog 137 #[ax,.int .i64 i,.int .i64 k] w λe w'=>e = .returned (.bool r)/\jO jA w w'/\ic 156 158 w' l [v] fp)/\
    (∀i k l',oc (l,i,k,())=some ((),l',())->Calls Tryz.prog 140 #[ax,.int .i64 i,.int .i64 k] w λe w'=>e = .returned (.tuple #[])/\jO (· ∈fp) w w'/\ic 156 158 w' l' [v] fp)/\
    Calls Tryz.prog 136 #[ax] w λe w'=>e = .returned (.int .i64 (l.length:Int))/\jO jA w w'/\ic 156 158 w' l [v] fp:=by
  obtain⟨bq,tt,ax,rfl,rfl,hb,hrow⟩:=Za h
  have hst:∀w',jO jA w w'->ic 156 158 w' l [.iface 156 (.pointer (some ⟨bq,0,none⟩))] (bq::ax.ownBlock.toList):=λw' hm=>
    ⟨bq,tt,ax,rfl,rfl,(hm.block bq (Array.getElem?_eq_some_iff.1 hb).1 (λh=>h)).trans hb,ZN hrow (λb hb'=>hm.block b (World.ownsRow.lt hrow b (by simpa using hb')).2 (λh=>h))⟩
  refine⟨bq,ax,rfl,?_,?_,?_,?_,?_,?_⟩
  · have e:(method (328) 156 (.pointer (some ⟨bq,0,none⟩)) "Less").run Tryz.prog w=((do let v <-Go.loadVar 160 ⟨bq,0,none⟩;pure (137,v)):Sem (FuncId×Value)).run Tryz.prog w:=by kernel_rfl
    rw[e,Sem.run_bind,Uc hb];rfl
  · have e:(method (328) 156 (.pointer (some ⟨bq,0,none⟩)) "Swap").run Tryz.prog w=((do let v <-Go.loadVar 160 ⟨bq,0,none⟩;pure (140,v)):Sem (FuncId×Value)).run Tryz.prog w:=by kernel_rfl
    rw[e,Sem.run_bind,Uc hb];rfl
  · have e:(method (328) 156 (.pointer (some ⟨bq,0,none⟩)) "Len").run Tryz.prog w=((do let v <-Go.loadVar 160 ⟨bq,0,none⟩;pure (136,v)):Sem (FuncId×Value)).run Tryz.prog w:=by kernel_rfl
    rw[e,Sem.run_bind,Uc hb];rfl
  · intro i k r hg
    refine(qnm hrow hg).mono ?_
    rintro e w' ⟨he,hm⟩
    exact⟨he,hm,hst w' hm⟩
  · intro i k l' hg
    refine(qmN hrow hg).mono ?_
    rintro e w' ⟨he,hm,hown⟩
    refine⟨he,hm.mono (λb hb=>List.mem_cons_of_mem _ hb),bq,tt,ax,rfl,rfl,?_,hown⟩
    rw[hm.block bq (Array.getElem?_eq_some_iff.1 hb).1 (λhh=>(List.nodup_cons.1 aq).1 hh)]
    exact hb
  · obtain⟨IK,e1,hc⟩:=qnV h
    have e2:IK=ax:=by
      have e:(callMethod (.iface 156 (.pointer (some ⟨bq,0,none⟩))) "Len" #[]).run Tryz.prog w=((do let v <-Go.loadVar 160 ⟨bq,0,none⟩;callFunc 136 (#[v] ++ #[])):Sem Next).run Tryz.prog w:=by kernel_rfl
      rw[e,Sem.run_bind,Uc hb]at e1
      have e3:=(wy (P:=Tryz.prog) (qX Tryz.func136 rfl (by kernel_rfl)) (#[ax] ++ #[]) w).symm.trans e1
      injection e3 with e3
      injection e3 with _ e3
      have e4:=congrArg Array.toList e3
      simp at e4
      exact e4.symm
    rw[e2]at hc
    refine hc.mono ?_
    rintro e w' ⟨he,hm⟩
    exact⟨he,hm,hst w' hm⟩
theorem qnU{w:World}{l:List bG}{b:Nat}{tt:TypeId}{ax:Value}(hb:w.heap[b]? = some (.cells #[ax] tt (0,0)))(hrow:w.ownsRow 0 158 4 ax l.length (l.map sG).flatten)(aq:(b::ax.ownBlock.toList).Nodup):
    qR Tryz.prog w (λ_=>none) ⟨false,.list true 158 Am,l⟩ ⟨b,.nilFunc,b::ax.ownBlock.toList⟩:=
  ⟨rfl,aq,#[ax],tt,ax.ownBlock.toList,hb,⟨ax,_,[],rfl,by simp,hrow,Zl Tryz.prog w _ l⟩,rfl⟩
theorem qnX{w:World}{H:FH}{l:List bG}{φ:qH}(h:qR Tryz.prog w H ⟨false,.list true 158 Am,l⟩ φ):ic 156 158 w l [.iface 156 (.pointer (some ⟨φ.b,0,none⟩))] φ.fp/\φ.fp.Nodup:=by
  obtain⟨_,aq,blk,t,aC,hb,⟨ax,xs,f2,e1,e2,hown,hch⟩,e3⟩:=h
  obtain⟨hx,rfl⟩:=qg5 hch
  subst hx
  have e:blk = #[ax]:=by
    apply Array.ext'
    exact e1
  subst e
  rw[List.append_nil]at e2
  exact⟨⟨φ.b,t,ax,rfl,by rw[e3,e2],hb,hown⟩,aq⟩
theorem AM{w:World}{l l':List bG}{x:bG}{v:Value}{fp:List Nat}(h:ic 156 158 w l [v] fp)(aq:fp.Nodup)(hg:Db (l,())=some ((x,()),l',())):∃b,v = .iface 156 (.pointer (some ⟨b,0,none⟩))/\
    Calls Tryz.prog 138 #[.pointer (some ⟨b,0,none⟩)] w λe w'=>e = .returned (.iface 158 (uD x))/\∃aC,jO (· ∈fp) w w'/\ic 156 158 w' l' [v] aC/\aC.Nodup/\∀b∈aC,b∈fp\/w.heap.size<=b:=by
  obtain⟨bq,tt,ax,rfl,rfl,hb,hrow⟩:=Za h
  refine⟨bq,rfl,?_⟩
  · have cn:qc [⟨bq,.nilFunc,bq::ax.ownBlock.toList⟩]=bq::ax.ownBlock.toList:=by simp[qc]
    refine(abF.2 (l,()) _ hg w (λ_=>none) [.pointer (some ⟨bq,0,none⟩)] [⟨bq,.nilFunc,bq::ax.ownBlock.toList⟩] (λb c hb=>by cases hb) ⟨_,_,_,_,rfl,rfl,rfl,qnU hb hrow aq,rfl,rfl⟩ (by rw[cn];exact aq)
      (by rw[cn];intro b hb';rcases List.mem_cons.1 hb' with rfl|hb';exact⟨rfl,(Array.getElem?_eq_some_iff.1 hb).1⟩;exact⟨rfl,(World.ownsRow.lt hrow b (by simpa using hb')).2⟩)).mono ?_
    rintro e w' ⟨us,H2,ag,aJ,rfl,hm,_,_,_,hres,dL,dJ,hall⟩
    obtain⟨v1,vs',φ,iL,rfl,rfl,_,hφ,⟨cs,rfl,hc,_⟩,rfl,rfl⟩:=hres
    obtain⟨v2,oq,kT,LA,e1,rfl,fV,bh,e2,rfl⟩:=dL
    rw[cn]at hm hall
    obtain⟨hq,hn⟩:=qnX bh
    have e3:kT.b=bq:=by
      injection e1 with e4 _
      rw[fV]at e4
      injection e4 with e4
      injection e4 with e4
      injection e4 with e4
      exact e4.symm
    rw[e3]at hq
    refine⟨by rw[hc];rfl,kT.fp,hm,hq,hn,λb hb=>(hall b (by simpa[qc,hφ]using hb)).2.1⟩
theorem qok{w:World}{l l':List bG}{x:bG}{v:Value}{fp:List Nat}(h:ic 156 158 w l [v] fp)(aq:fp.Nodup)(hg:yC (l,x,())=some ((),l',())):∃b,v = .iface 156 (.pointer (some ⟨b,0,none⟩))/\
    Calls Tryz.prog 139 #[.pointer (some ⟨b,0,none⟩),.iface 158 (uD x)] w λe w'=>e = .returned (.tuple #[])/\∃aC,jO (· ∈fp) w w'/\ic 156 158 w' l' [v] aC/\aC.Nodup/\∀b∈aC,b∈fp\/w.heap.size<=b:=by
  obtain⟨bq,tt,ax,rfl,rfl,hb,hrow⟩:=Za h
  refine⟨bq,rfl,?_⟩
  · have cn:qc [⟨bq,.nilFunc,bq::ax.ownBlock.toList⟩,qA]=bq::ax.ownBlock.toList:=by simp[qc,qA]
    refine(abE.2 (l,x,()) _ hg w (λ_=>none) [.pointer (some ⟨bq,0,none⟩),.iface 158 (uD x)] [⟨bq,.nilFunc,bq::ax.ownBlock.toList⟩,qA] (λb c hb=>by cases hb) ⟨_,_,_,_,rfl,rfl,rfl,qnU hb hrow aq,_,_,qA,_,rfl,rfl,rfl,rfl,⟨[.iface 158 (uD x)],rfl,rfl,rfl⟩,rfl,rfl⟩ (by rw[cn];exact aq)
      (by rw[cn];intro b hb';rcases List.mem_cons.1 hb' with rfl|hb';exact⟨rfl,(Array.getElem?_eq_some_iff.1 hb).1⟩;exact⟨rfl,(World.ownsRow.lt hrow b (by simpa using hb')).2⟩)).mono ?_
    rintro e w' ⟨us,H2,ag,aJ,rfl,hm,_,_,_,hres,dL,dJ,hall⟩
    obtain⟨rfl,rfl⟩:=hres
    obtain⟨v2,oq,kT,LA,e1,rfl,fV,bh,acp⟩:=dL
    rw[cn]at hm hall
    obtain⟨hq,hn⟩:=qnX bh
    have e3:kT.b=bq:=by
      injection e1 with e4 _
      rw[fV]at e4
      injection e4 with e4
      injection e4 with e4
      injection e4 with e4
      exact e4.symm
    rw[e3]at hq
    refine⟨rfl,kT.fp,hm,hq,hn,λb hb=>(hall b ?_).2.1⟩
    show b∈qc ([]++kT::LA)
    simp[qc,hb]
end Hp
namespace Hp
open Go.Vi Go.Proofs Go.Shelf Go.RowKit Hx
attribute [local go_sem] Oper.semAt_some
set_option maxRecDepth 100000
def intOf:Value->Int
  |.int _ n=>n
  |_=>0
def LL:Nat->List bG->Int->Option (List bG)
  |0,_,_=>none
  |m+1,l,j=>if(j-1).tdiv 2=j then some l else qa (rF (l,j,(j-1).tdiv 2,())) λr=>if r.1.1=false then some l else qa (oc (l,(j-1).tdiv 2,j,())) λr=>LL m r.2.1 ((j-1).tdiv 2)
set_option maxHeartbeats 2000000 in
theorem GI{v:Value}{l':List bG}{fp:List Nat}{w:World}{m:Nat}{l:List bG}{j:Int}(h:ic 156 158 w l [v] fp)(aq:fp.Nodup)(h0:0<=j)(h1:j<=1000000000000)(hup:LL m l j=some l'):
    Calls Tryz.prog 95 #[v,.int .i64 j] w λe w'=>e = .returned (.tuple #[])/\jO (· ∈fp) w w'/\ic 156 158 w' l' [v] fp:=by
  refine(callsIn_wide (n:=0)).1 (callsIn_of_wp Tryz.func95 rfl trivial ?_ rfl)
  simp only[Tryz.ntmps95,List.size_toArray,List.length_cons,List.length_nil,Nat.reduceAdd,Nat.reduceSub,Array.replicate_succ,Array.replicate_zero,List.push_toArray,List.append_toArray,List.nil_append,List.cons_append]
  obtain⟨bq,abu,rfl,_⟩:=zh h aq
  have abS:∀args w,(callFunc 137 args).run Tryz.prog w = .ok (.enter 137 args) w:=λargs w=>wy (qX Tryz.func137 rfl (by kernel_rfl)) args w
  have W_:∀args w,(callFunc 140 args).run Tryz.prog w = .ok (.enter 140 args) w:=λargs w=>wy (qX Tryz.func140 rfl (by kernel_rfl)) args w
  gi_wp2
  gi_loopw [1] (λi wr=>∃(m:Nat) (l2:List bG) (j2:Int),i = .int .i64 j2/\0<=j2/\j2<=j/\ic 156 158 wr l2 [.iface 156 (.pointer (some ⟨bq,0,none⟩))] fp/\LL m l2 j2=some l'/\jO (· ∈fp) w wr) (λi _=>(intOf i).toNat)
  case atStart=>exact⟨m,l,j,rfl,h0,Int.le_refl _,h,hup,jO.refl _ _⟩
  case round=>
    obtain⟨m,l2,j2,rfl,k0,k1,hq,hu,hm⟩:=hrel
    obtain⟨rI,ax,e1,mL,mS,_,cL,cS,_⟩:=zh hq aq
    obtain rfl:bq=rI:=by
      injection e1 with _ e1
      injection e1 with e1
      injection e1 with e1
      injection e1
    cases m with
    |zero=>cases hu
    |succ m=>
    unfold LL at hu
    by_cases hij:(j2-1).tdiv 2=j2
    · rw[if_pos hij]at hu
      have Ce:=Option.some.inj hu
      gi_wp2
      all_goals (refine⟨λ_ _=>trivial,?_⟩;gi_wp2;go_end0;exact⟨rfl,hm,by rw[<-Ce];exact hq⟩)
    · rw[if_neg hij,qj]at hu
      obtain⟨⟨⟨r,⟨⟩⟩,⟨⟩⟩,hr,hu⟩:=Option.bind_eq_some_iff.1 hu
      simp only at hu
      have hne:((j2-1).tdiv 2==j2)=false:=by simpa using hij
      obtain⟨kG,cO⟩:0<=(j2-1).tdiv 2/\(j2-1).tdiv 2<j2:=by
        rcases Int.lt_or_le 0 j2 with h|h
        · have e:(j2-1).tdiv 2=(j2-1)/2:=Int.tdiv_eq_ediv_of_nonneg (by omega)
          rw[e];omega
        · obtain rfl:j2=0:=by omega
          exact absurd rfl hij
      gi_wp2
      all_goals
        first
        |refine⟨trivial,(callsIn_wide (n:=0)).2 ((cL _ _ _ hr).mono ?_)⟩
        |refine⟨trivial,rfl,(callsIn_wide (n:=0)).2 ((cL _ _ _ hr).mono ?_)⟩
        |(refine⟨λ_ _=>trivial,?_⟩;gi_wp2;refine⟨rfl,(callsIn_wide (n:=0)).2 ((cL _ _ _ hr).mono ?_)⟩)
        rintro e wa ⟨rfl,hma,KM⟩
        have Cu:jO (· ∈fp) w wa:=hm.trans (hma.mono (λ_ h=>h.elim))
        clear mS mL cL cS
        obtain⟨rI,ax,e1,_,mS,_,_,cS,_⟩:=zh KM aq
        obtain rfl:bq=rI:=by
          injection e1 with _ e1
          injection e1 with e1
          injection e1 with e1
          injection e1
        cases r with
        |false=>
          rw[if_pos rfl]at hu
          have Ce:=Option.some.inj hu
          gi_wp2
          go_end0
          exact⟨rfl,Cu,by rw[<-Ce];exact KM⟩
        |true=>
          rw[if_neg (by simp),qj]at hu
          obtain⟨⟨⟨⟩,l3,⟨⟩⟩,hs,hu⟩:=Option.bind_eq_some_iff.1 hu
          simp only at hu
          gi_wp2
          all_goals
            first
            |refine⟨trivial,(callsIn_wide (n:=0)).2 ((cS _ _ _ hs).mono ?_)⟩
            |refine⟨trivial,rfl,(callsIn_wide (n:=0)).2 ((cS _ _ _ hs).mono ?_)⟩
            |(refine⟨λ_ _=>trivial,?_⟩;gi_wp2;refine⟨rfl,(callsIn_wide (n:=0)).2 ((cS _ _ _ hs).mono ?_)⟩)
            rintro e wb ⟨rfl,hmb,NF⟩
            gi_wp2
            go_roundw
            case rel=>exact⟨m,l3,(j2-1).tdiv 2,rfl,by omega,by omega,NF,hu,Cu.trans hmb⟩
            case measure=>simp[intOf];omega
def ON:Nat->List bG->Int->Int->Option (List bG)
  |0,_,_,_=>none
  |m+1,l,i,n=>if n<=2*i+1 then some l else
      qa (if 2*i+1+1<n then(rF (l,2*i+1+1,2*i+1,())).map (·.1.1)else some false) λb=>
      qa (rF (l,cond b (2*i+1+1) (2*i+1),i,())) λr=>if r.1.1=false then some l else
      qa (oc (l,i,cond b (2*i+1+1) (2*i+1),())) λy=>ON m y.2.1 (cond b (2*i+1+1) (2*i+1)) n
set_option maxHeartbeats 4000000 in
theorem Jk{v:Value}{l':List bG}{fp:List Nat}{w:World}{m:Nat}{l:List bG}{i n:Int}(h:ic 156 158 w l [v] fp)(aq:fp.Nodup)(h0:0<=i)(NS:i<=1000000000000)(KQ:n<=1000000000000)(hdn:ON m l i n=some l'):
    Calls Tryz.prog 94 #[v,.int .i64 i,.int .i64 n] w λe w'=>(∃r,e = .returned r)/\jO (· ∈fp) w w'/\ic 156 158 w' l' [v] fp:=by
  refine(callsIn_wide (n:=0)).1 (callsIn_of_wp Tryz.func94 rfl trivial ?_ rfl)
  simp only[Tryz.ntmps94,List.size_toArray,List.length_cons,List.length_nil,Nat.reduceAdd,Nat.reduceSub,Array.replicate_succ,Array.replicate_zero,List.push_toArray,List.append_toArray,List.nil_append,List.cons_append]
  obtain⟨bq,abu,rfl,_⟩:=zh h aq
  have abS:∀args w,(callFunc 137 args).run Tryz.prog w = .ok (.enter 137 args) w:=λargs w=>wy (qX Tryz.func137 rfl (by kernel_rfl)) args w
  have W_:∀args w,(callFunc 140 args).run Tryz.prog w = .ok (.enter 140 args) w:=λargs w=>wy (qX Tryz.func140 rfl (by kernel_rfl)) args w
  gi_wp2
  gi_loopw [7] (λx wr=>∃(m:Nat) (l2:List bG) (i2:Int),x = .int .i64 i2/\(0<=i2/\i2<=1000000000000)/\ic 156 158 wr l2 [.iface 156 (.pointer (some ⟨bq,0,none⟩))] fp/\ON m l2 i2 n=some l'/\jO (· ∈fp) w wr) (λx _=>(n-intOf x).toNat)
  case atStart=>exact⟨m,l,i,rfl,⟨h0,NS⟩,h,hdn,jO.refl _ _⟩
  case round=>
    obtain⟨m,l2,i2,rfl,⟨k0,k1⟩,hq,hu,hm⟩:=hrel
    obtain⟨rI,ax,e1,mL,mS,_,cL,cS,_⟩:=zh hq aq
    obtain rfl:bq=rI:=by
      injection e1 with _ e1
      injection e1 with e1
      injection e1 with e1
      injection e1
    cases m with
    |zero=>cases hu
    |succ m=>
    unfold ON at hu
    by_cases hn:n<=2*i2+1
    · rw[if_pos hn]at hu
      have Ce:=Option.some.inj hu
      gi_wp2
      all_goals
        try (refine⟨λ_ _=>trivial,?_⟩;gi_wp2)
        go_ret
        exact⟨⟨_,rfl⟩,hm,by rw[<-Ce];exact hq⟩
    · rw[if_neg hn,qj]at hu
      obtain⟨b,hb,hu⟩:=Option.bind_eq_some_iff.1 hu
      by_cases h2:2*i2+1+1<n
      · rw[if_pos h2]at hb
        obtain⟨⟨⟨b',⟨⟩⟩,⟨⟩⟩,zC,e2⟩:=Option.map_eq_some_iff.1 hb
        simp only at e2
        subst e2
        gi_wp2
        all_goals
          first
          |refine⟨trivial,(callsIn_wide (n:=0)).2 ((cL _ _ _ zC).mono ?_)⟩
          |refine⟨trivial,rfl,(callsIn_wide (n:=0)).2 ((cL _ _ _ zC).mono ?_)⟩
          |(refine⟨λ_ _=>trivial,?_⟩;gi_wp2;refine⟨rfl,(callsIn_wide (n:=0)).2 ((cL _ _ _ zC).mono ?_)⟩)
          |(gi_wp2;refine⟨rfl,(callsIn_wide (n:=0)).2 ((cL _ _ _ zC).mono ?_)⟩)
          rintro e wa ⟨rfl,hma,KM⟩
          have Cu:jO (· ∈fp) w wa:=hm.trans (hma.mono (λ_ h=>h.elim))
          clear mL mS cL cS
          obtain⟨rI,ax,e1,mL,mS,_,cL,cS,_⟩:=zh KM aq
          obtain rfl:bq=rI:=by
            injection e1 with _ e1
            injection e1 with e1
            injection e1 with e1
            injection e1
          cases b' with
          |true=>
            rw[qj]at hu
            obtain⟨⟨⟨r,⟨⟩⟩,⟨⟩⟩,hr,hu⟩:=Option.bind_eq_some_iff.1 hu
            simp only[cond_true,cond_false]at hu hr
            gi_wp2
            all_goals
              first
              |refine⟨trivial,(callsIn_wide (n:=0)).2 ((cL _ _ _ hr).mono ?_)⟩
              |refine⟨trivial,rfl,(callsIn_wide (n:=0)).2 ((cL _ _ _ hr).mono ?_)⟩
              |(refine⟨λ_ _=>trivial,?_⟩;gi_wp2;refine⟨rfl,(callsIn_wide (n:=0)).2 ((cL _ _ _ hr).mono ?_)⟩)
              |(gi_wp2;refine⟨rfl,(callsIn_wide (n:=0)).2 ((cL _ _ _ hr).mono ?_)⟩)
              rintro e wc ⟨rfl,zy,zv⟩
              have t_:jO (· ∈fp) w wc:=(Cu).trans (zy.mono (λ_ h=>h.elim))
              clear mL mS cL cS
              obtain⟨rI,ax,e1,mL,mS,_,cL,cS,_⟩:=zh zv aq
              obtain rfl:bq=rI:=by
                injection e1 with _ e1
                injection e1 with e1
                injection e1 with e1
                injection e1
              cases r with
              |false=>
                rw[if_pos rfl]at hu
                have Ce:=Option.some.inj hu
                gi_wp2
                all_goals
                  try (refine⟨λ_ _=>trivial,?_⟩;gi_wp2)
                  go_ret
                  exact⟨⟨_,rfl⟩,t_,by rw[<-Ce];exact zv⟩
              |true=>
                rw[if_neg (by simp),qj]at hu
                obtain⟨⟨⟨⟩,l3,⟨⟩⟩,hs,hu⟩:=Option.bind_eq_some_iff.1 hu
                simp only[cond_true,cond_false]at hu hs
                gi_wp2
                all_goals
                  first
                  |refine⟨trivial,(callsIn_wide (n:=0)).2 ((cS _ _ _ hs).mono ?_)⟩
                  |refine⟨trivial,rfl,(callsIn_wide (n:=0)).2 ((cS _ _ _ hs).mono ?_)⟩
                  |(refine⟨λ_ _=>trivial,?_⟩;gi_wp2;refine⟨rfl,(callsIn_wide (n:=0)).2 ((cS _ _ _ hs).mono ?_)⟩)
                  |(gi_wp2;refine⟨rfl,(callsIn_wide (n:=0)).2 ((cS _ _ _ hs).mono ?_)⟩)
                  rintro e wd ⟨rfl,yl,NE⟩
                  gi_wp2
                  go_roundw
                  case rel=>exact⟨m,l3,2*i2+1+1,rfl,by omega,NE,hu,t_.trans yl⟩
                  case measure=>simp[intOf];omega
          |false=>
            rw[qj]at hu
            obtain⟨⟨⟨r,⟨⟩⟩,⟨⟩⟩,hr,hu⟩:=Option.bind_eq_some_iff.1 hu
            simp only[cond_true,cond_false]at hu hr
            gi_wp2
            all_goals
              first
              |refine⟨trivial,(callsIn_wide (n:=0)).2 ((cL _ _ _ hr).mono ?_)⟩
              |refine⟨trivial,rfl,(callsIn_wide (n:=0)).2 ((cL _ _ _ hr).mono ?_)⟩
              |(refine⟨λ_ _=>trivial,?_⟩;gi_wp2;refine⟨rfl,(callsIn_wide (n:=0)).2 ((cL _ _ _ hr).mono ?_)⟩)
              |(gi_wp2;refine⟨rfl,(callsIn_wide (n:=0)).2 ((cL _ _ _ hr).mono ?_)⟩)
              rintro e wc ⟨rfl,zy,zv⟩
              have t_:jO (· ∈fp) w wc:=(Cu).trans (zy.mono (λ_ h=>h.elim))
              clear mL mS cL cS
              obtain⟨rI,ax,e1,mL,mS,_,cL,cS,_⟩:=zh zv aq
              obtain rfl:bq=rI:=by
                injection e1 with _ e1
                injection e1 with e1
                injection e1 with e1
                injection e1
              cases r with
              |false=>
                rw[if_pos rfl]at hu
                have Ce:=Option.some.inj hu
                gi_wp2
                all_goals
                  try (refine⟨λ_ _=>trivial,?_⟩;gi_wp2)
                  go_ret
                  exact⟨⟨_,rfl⟩,t_,by rw[<-Ce];exact zv⟩
              |true=>
                rw[if_neg (by simp),qj]at hu
                obtain⟨⟨⟨⟩,l3,⟨⟩⟩,hs,hu⟩:=Option.bind_eq_some_iff.1 hu
                simp only[cond_true,cond_false]at hu hs
                gi_wp2
                all_goals
                  first
                  |refine⟨trivial,(callsIn_wide (n:=0)).2 ((cS _ _ _ hs).mono ?_)⟩
                  |refine⟨trivial,rfl,(callsIn_wide (n:=0)).2 ((cS _ _ _ hs).mono ?_)⟩
                  |(refine⟨λ_ _=>trivial,?_⟩;gi_wp2;refine⟨rfl,(callsIn_wide (n:=0)).2 ((cS _ _ _ hs).mono ?_)⟩)
                  |(gi_wp2;refine⟨rfl,(callsIn_wide (n:=0)).2 ((cS _ _ _ hs).mono ?_)⟩)
                  rintro e wd ⟨rfl,yl,NE⟩
                  gi_wp2
                  go_roundw
                  case rel=>exact⟨m,l3,2*i2+1,rfl,by omega,NE,hu,t_.trans yl⟩
                  case measure=>simp[intOf];omega
      · rw[if_neg h2]at hb
        cases hb
        gi_wp2
        all_goals
          refine⟨λ_ _=>trivial,?_⟩
          rw[qj]at hu
          obtain⟨⟨⟨r,⟨⟩⟩,⟨⟩⟩,hr,hu⟩:=Option.bind_eq_some_iff.1 hu
          simp only[cond_true,cond_false]at hu hr
          gi_wp2
          all_goals
            first
            |refine⟨trivial,(callsIn_wide (n:=0)).2 ((cL _ _ _ hr).mono ?_)⟩
            |refine⟨trivial,rfl,(callsIn_wide (n:=0)).2 ((cL _ _ _ hr).mono ?_)⟩
            |(refine⟨λ_ _=>trivial,?_⟩;gi_wp2;refine⟨rfl,(callsIn_wide (n:=0)).2 ((cL _ _ _ hr).mono ?_)⟩)
            |(gi_wp2;refine⟨rfl,(callsIn_wide (n:=0)).2 ((cL _ _ _ hr).mono ?_)⟩)
            rintro e wc ⟨rfl,zy,zv⟩
            have t_:jO (· ∈fp) w wc:=(hm).trans (zy.mono (λ_ h=>h.elim))
            clear mL mS cL cS
            obtain⟨rI,ax,e1,mL,mS,_,cL,cS,_⟩:=zh zv aq
            obtain rfl:bq=rI:=by
              injection e1 with _ e1
              injection e1 with e1
              injection e1 with e1
              injection e1
            cases r with
            |false=>
              rw[if_pos rfl]at hu
              have Ce:=Option.some.inj hu
              gi_wp2
              all_goals
                try (refine⟨λ_ _=>trivial,?_⟩;gi_wp2)
                go_ret
                exact⟨⟨_,rfl⟩,t_,by rw[<-Ce];exact zv⟩
            |true=>
              rw[if_neg (by simp),qj]at hu
              obtain⟨⟨⟨⟩,l3,⟨⟩⟩,hs,hu⟩:=Option.bind_eq_some_iff.1 hu
              simp only[cond_true,cond_false]at hu hs
              gi_wp2
              all_goals
                first
                |refine⟨trivial,(callsIn_wide (n:=0)).2 ((cS _ _ _ hs).mono ?_)⟩
                |refine⟨trivial,rfl,(callsIn_wide (n:=0)).2 ((cS _ _ _ hs).mono ?_)⟩
                |(refine⟨λ_ _=>trivial,?_⟩;gi_wp2;refine⟨rfl,(callsIn_wide (n:=0)).2 ((cS _ _ _ hs).mono ?_)⟩)
                |(gi_wp2;refine⟨rfl,(callsIn_wide (n:=0)).2 ((cS _ _ _ hs).mono ?_)⟩)
                rintro e wd ⟨rfl,yl,NE⟩
                gi_wp2
                go_roundw
                case rel=>exact⟨m,l3,2*i2+1,rfl,by omega,NE,hu,t_.trans yl⟩
                case measure=>simp[intOf];omega
def g_(l:List bG)(x:bG):Option (List bG):=qa (yC (l,x,())) λr=>qo (r.2.1.length:Int) (LL (r.2.1.length+1) r.2.1 ((r.2.1.length:Int)-1))
def yA(l:List bG):Option (bG×List bG):=qo (l.length:Int) (qa (oc (l,0,(l.length:Int)-1,())) λr=>qa (ON (l.length+1) r.2.1 0 ((l.length:Int)-1)) λl2=>qa (Db (l2,())) λy=>some (y.1.1,y.2.1))
theorem qk2{R:Type}{n:Int}{k:Option R}{r:R}(h:qo n k=some r):n<=274877906944/\k=some r:=by
  rw[jQ]at h
  split at h
  · exact⟨by omega,h⟩
  · cases h
theorem wZ(l:List bG)(x:bG):yC (l,x,())=qo ((l.length:Int)+([x]:List bG).length) (some ((),(l++[x],()))):=by
  unfold yC Qw
  simp only[Gn,Gh,Gg]
theorem yB{l l1:List bG}{x:bG}(h:yC (l,x,())=some ((),l1,())):l1=l++[x]:=by
  rw[wZ]at h
  obtain⟨_,h⟩:=qk2 h
  injection h with h
  injection h with _ h
  injection h with h
  exact h.symm
set_option maxHeartbeats 2000000 in
theorem qol{w:World}{l l':List bG}{x:bG}{v:Value}{fp:List Nat}(h:ic 156 158 w l [v] fp)(aq:fp.Nodup)(hg:g_ l x=some l'):
    Calls Tryz.prog 75 #[v,.iface 158 (uD x)] w λe w'=>e = .returned (.tuple #[])/\∃aC,jO (· ∈fp) w w'/\ic 156 158 w' l' [v] aC/\aC.Nodup/\∀b∈aC,b∈fp\/w.heap.size<=b:=by
  unfold g_ at hg
  rw[qj]at hg
  obtain⟨⟨⟨⟩,l1,⟨⟩⟩,h1,hg⟩:=Option.bind_eq_some_iff.1 hg
  obtain⟨hl,hg⟩:=qk2 hg
  simp only at hl hg
  have hpos:1<=(l1.length:Int):=by
    have Cw:=yB h1
    rw[Cw,List.length_append]
    simp
    omega
  refine(callsIn_wide (n:=0)).1 (callsIn_of_wp Tryz.func75 rfl trivial ?_ rfl)
  simp only[Tryz.ntmps75,List.size_toArray,List.length_cons,List.length_nil,Nat.reduceAdd,Nat.reduceSub,Array.replicate_succ,Array.replicate_zero,List.push_toArray,List.append_toArray,List.nil_append,List.cons_append]
  obtain⟨bq,rfl,Cm⟩:=qok h aq h1
  have acw:∀args w,(callFunc 139 args).run Tryz.prog w = .ok (.enter 139 args) w:=λargs w=>wy (qX Tryz.func139 rfl (by kernel_rfl)) args w
  have abT:∀args w,(callFunc 136 args).run Tryz.prog w = .ok (.enter 136 args) w:=λargs w=>wy (qX Tryz.func136 rfl (by kernel_rfl)) args w
  have mP:(method 328 156 (.pointer (some ⟨bq,0,none⟩)) "Push").run Tryz.prog w = .ok (139,.pointer (some ⟨bq,0,none⟩)) w:=by kernel_rfl
  gi_wp2
  refine⟨trivial,rfl,(callsIn_wide (n:=0)).2 (Cm.mono ?_)⟩
  rintro e wa ⟨rfl,aC,hma,KM,aO,hnew⟩
  obtain⟨rI,ax,e1,_,_,mL,_,_,cL⟩:=zh KM aO
  obtain rfl:bq=rI:=by
    injection e1 with _ e1
    injection e1 with e1
    injection e1 with e1
    injection e1
  gi_wp2
  refine⟨trivial,rfl,(callsIn_wide (n:=0)).2 (cL.mono ?_)⟩
  rintro e wb ⟨rfl,hmb,NF⟩
  gi_wp2
  refine⟨trivial,rfl,(callsIn_wide (n:=0)).2 ((GI NF aO (by omega) (by omega) hg).mono ?_)⟩
  rintro e wc ⟨rfl,zy,zv⟩
  gi_wp2
  go_end0
  exact⟨rfl,aC,(hma.trans (hmb.mono (λ_ h=>h.elim))).bA zy (λb hb=>hnew b hb),zv,aO,hnew⟩
theorem Da{l l1:List bG}{i k:Int}(h:oc (l,i,k,())=some ((),l1,())):0<(l.length:Int):=by
  unfold oc JD bx at h
  simp only at h
  split at h
  · rename_i h0
    omega
  · cases h
set_option maxHeartbeats 2000000 in
theorem Bl{w:World}{l l':List bG}{x:bG}{v:Value}{fp:List Nat}(h:ic 156 158 w l [v] fp)(aq:fp.Nodup)(hg:yA l=some (x,l')):
    Calls Tryz.prog 74 #[v] w λe w'=>e = .returned (.iface 158 (uD x))/\∃aC,jO (· ∈fp) w w'/\ic 156 158 w' l' [v] aC/\aC.Nodup/\∀b∈aC,b∈fp\/w.heap.size<=b:=by
  unfold yA at hg
  obtain⟨hl,hg⟩:=qk2 hg
  rw[qj]at hg
  obtain⟨⟨⟨⟩,l1,⟨⟩⟩,h1,hg⟩:=Option.bind_eq_some_iff.1 hg
  rw[qj]at hg
  obtain⟨l2,h2,hg⟩:=Option.bind_eq_some_iff.1 hg
  rw[qj]at hg
  obtain⟨⟨⟨y,⟨⟩⟩,l3,⟨⟩⟩,h3,hg⟩:=Option.bind_eq_some_iff.1 hg
  simp only at h2 h3 hg
  obtain⟨rfl,rfl⟩:y=x/\l3=l':=by
    injection hg with hg
    injection hg with g1 g2
    exact⟨g1,g2⟩
  have hpos:1<=(l.length:Int):=Da h1
  obtain⟨n,hn⟩:∃n:Int,(l.length:Int)=n:=⟨_,rfl⟩
  rw[hn]at hl h1 h2 hpos
  refine(callsIn_wide (n:=0)).1 (callsIn_of_wp Tryz.func74 rfl trivial ?_ rfl)
  simp only[Tryz.ntmps74,List.size_toArray,List.length_cons,List.length_nil,Nat.reduceAdd,Nat.reduceSub,Array.replicate_succ,Array.replicate_zero,List.push_toArray,List.append_toArray,List.nil_append,List.cons_append]
  obtain⟨bq,ax,rfl,_,_,mL,_,_,cL⟩:=zh h aq
  rw[hn]at cL
  have abT:∀args w,(callFunc 136 args).run Tryz.prog w = .ok (.enter 136 args) w:=λargs w=>wy (qX Tryz.func136 rfl (by kernel_rfl)) args w
  have acy:∀args w,(callFunc 138 args).run Tryz.prog w = .ok (.enter 138 args) w:=λargs w=>wy (qX Tryz.func138 rfl (by kernel_rfl)) args w
  have W_:∀args w,(callFunc 140 args).run Tryz.prog w = .ok (.enter 140 args) w:=λargs w=>wy (qX Tryz.func140 rfl (by kernel_rfl)) args w
  gi_wp2
  refine⟨trivial,rfl,(callsIn_wide (n:=0)).2 (cL.mono ?_)⟩
  rintro e wa ⟨rfl,hma,KM⟩
  obtain⟨rI,IK,e1,_,mS,_,_,cS,_⟩:=zh KM aq
  obtain rfl:bq=rI:=by
    injection e1 with _ e1
    injection e1 with e1
    injection e1 with e1
    injection e1
  gi_wp2
  refine⟨trivial,rfl,(callsIn_wide (n:=0)).2 ((cS _ _ _ h1).mono ?_)⟩
  rintro e wb ⟨rfl,hmb,NF⟩
  gi_wp2
  refine⟨trivial,rfl,(callsIn_wide (n:=0)).2 ((Jk NF aq (by omega) (by omega) (by omega) h2).mono ?_)⟩
  rintro e wc ⟨⟨r,rfl⟩,zy,zv⟩
  obtain⟨rI,e1,NG⟩:=AM zv aq h3
  obtain rfl:bq=rI:=by
    injection e1 with _ e1
    injection e1 with e1
    injection e1 with e1
    injection e1
  have mP:(method 328 156 (.pointer (some ⟨bq,0,none⟩)) "Pop").run Tryz.prog wc = .ok (138,.pointer (some ⟨bq,0,none⟩)) wc:=by kernel_rfl
  gi_wp2
  refine⟨trivial,rfl,(callsIn_wide (n:=0)).2 (NG.mono ?_)⟩
  rintro e wd ⟨rfl,aC,yl,NE,aO,hnew⟩
  gi_wp2
  go_ret
  have Sf:jO (· ∈fp) w wc:=((hma.mono (λ_ h=>h.elim)).trans hmb).trans zy
  exact⟨rfl,aC,Sf.trans yl,NE,aO,λb hb=>(hnew b hb).imp_right (λh=>Nat.le_trans Sf.size h)⟩
def xq:XQ:=⟨156,158,74,75,yA,g_⟩
theorem SM:yG Tryz.prog xq where
  wrap:=jo.wrap
  kS:=jo.kS
  len:=jo.len
  eO:=jo.eO
  pop _ _ _ _ _ _ hq hn hg:=Bl hq hn hg
  push _ _ _ _ _ _ hq hn hg:=qol hq hn hg
end Hp
def vL(_n:Nat)(L:((Option (List (XK×XK)))×(Option (List (XK×XK)))×sA×Unit)->Option (X×((Option (List (XK×XK)))×(Option (List (XK×XK)))×Unit)))(iO:QN)(wC:(Option (List (XK×XK))))(pS:(Option (List (XK×XK))))(x_7:sA):Option (X×((Option (List (XK×XK)))×(Option (List (XK×XK)))×Unit)):=
  sF ((IntKind.wrap .i64 (x_7.2.1+iO.2.2.2.1)),(IntKind.wrap .i64 (x_7.2.2+iO.2.2.2.2))) λz8=>dR iO.2.2.1.1 (dR iO.2.2.1.2 (qa wC λl9=>cond (!((jE l9 iO.2.2.1).isSome)) (dR iO.2.2.1.1 (dR iO.2.2.1.2 (qa wC λVj=>qo (Vj.length:Int) (qa pS λIr=>qa (Hp.g_ Ir (iO.2.2.1,z8)) λr12=>L ((some (ep Vj iO.2.2.1 z8)),(some r12),x_7,()))))) (qa (Ln (z8,((jE l9 iO.2.2.1).getD ((0:Int),(0:Int))),())) λFO=>cond (decide (FO.1.1<0)) (dR iO.2.2.1.1 (dR iO.2.2.1.2 (qa wC λVh=>qo (Vh.length:Int) (qa pS λKA=>qa (Hp.g_ KA (iO.2.2.1,z8)) λr16=>L ((some (ep Vh iO.2.2.1 z8)),(some r16),x_7,()))))) (L (wC,pS,x_7,())))))
def gC(n:Nat):List QN->((Option (List (XK×XK)))×(Option (List (XK×XK)))×sA×Unit)->Option (X×((Option (List (XK×XK)))×(Option (List (XK×XK)))×Unit))
  |[],d=>some (.norm,(d.1,d.2.1,()))
  |x::r,d=>vL n (gC n r) x d.1 d.2.1 d.2.2.1
def TS:qc5:=⟨.str Yg,[4,6,7],[.m (.ext true 0 131 124),.m (.ext true 4 156 158),.r (.str z_)],[.norm],gC⟩
def Fu(n:Nat)(L:(uV×Unit)×((Option (List (XK×XK)))×(Option (List (XK×XK)))×(Option (List (XK×Int)))×Unit)×Unit->Option (((Unit)×((Option (List (XK×XK)))×Unit)×Unit)))(a_1:f_×(Int×bM))(fI:Option (List (XK×XK)))(pY:Option (List (XK×XK)))(vp:Option (List (XK×Int))):Option (((Unit)×((Option (List (XK×XK)))×Unit)×Unit)):=
  qa pY λl2=>cond (decide ((l2.length:Int)>0)) (qa pY λl3=>qa (Hp.yA l3) λr4=>dR r4.1.1.1 (dR r4.1.1.2 (qa vp λl5=>cond (((jE l5 r4.1.1).getD (0:Int))==1) (L ((a_1,()),(fI,(some r4.2),vp,()),())) (dR r4.1.1.1 (dR r4.1.1.2 (qa vp λl6=>qo (l6.length:Int) (qa (Wy.Nn.p.g (a_1,r4.1.1,())) λy7=>qa y7.1.1 λq8=>qa y7.1.2.1 λq9=>qa (Wy.nU.g (q8,q9,())) λIr=>qa (gC n Ir (fI,(some r4.2),r4.1,())) λrY=>cond (X.same .norm rY.1) (L ((a_1,()),(rY.2.1,rY.2.2.1,(some (ep l6 r4.1.1 1)),()),())) (none)))))))) (some ((),(fI,()),()))
def pw:Nat->(uV×Unit)×((Option (List (XK×XK)))×(Option (List (XK×XK)))×(Option (List (XK×Int)))×Unit)×Unit->Option (((Unit)×((Option (List (XK×XK)))×Unit)×Unit))
  |0,_=>none
  |n+1,d=>Fu n (pw n) d.1.1 d.2.1.1 d.2.1.2.1 d.2.1.2.2.1
def tr:jL:=⟨⟨[(1,.r (.str xB)),(4,.c (.ptr 4 [])),(5,.c (.view 20 [])),(6,.c (.ptr 6 []))],[(4,false,.ext true 0 131 124),(6,false,.ext true 4 156 158),(20,true,.ext true 1 131 3)],none⟩,[(.exit 0,⟨[(4,.c (.ptr 4 []))],[(4,false,.ext true 0 131 124)],none⟩)],pw⟩
def F54(n:Nat)(sr:uV):Option (((Option (List (XK×XK)))×Unit)×(Unit)):=
  dR (sr.2.2.2.1,0).1 (dR (sr.2.2.2.1,0).2 (qo (([]:List (XK×XK)).length:Int) (sF (some (ep ([]:List (XK×XK)) (sr.2.2.2.1,0) ((0:Int),(0:Int)))) λz1=>qa (pw n ((sr,()),(z1,(some [((sr.2.2.2.1,0),((0:Int),(0:Int)))]),(some []:Option (List (XK×Int))),()),())) λo12=>some ((o12.2.1.1,()),()))))
def SB(d:uV×Unit):Option (((Option (List (XK×XK)))×Unit)×(Unit)):=F54 qk d.1
def UP:qS:=⟨[.v (.str xB)],[.ir (.ext true 0 131 124)],SB⟩
def Xi:jB:=⟨88,bV,[(1,.str xB),(4,.ext true 0 131 124),(6,.ext true 4 156 158)],[(55,MX)],[(5,tr)],[],[],[(79,Wy.nU)],[(10,TS)],[(58,Wy.Nn)],[],[],[],[],none,[],[],[131],some Hp.xq,none,[]⟩
theorem PE(n:Nat)(d):qL Xi n Tryz.f54 (body Tryz.f54) UP.ps UP.rs d=F54 n d.1:=by kernel_rfl
theorem Ev(n:Nat)(d):(tr).g (n+1) d=run Xi n (nth 0 (qe (body Tryz.f54))) ((tr).ins.fill d) (qV (tr) n):=by kernel_rfl
theorem aat:qe (body Tryz.f54)=[nth 0 (qe (body Tryz.f54))]:=by kernel_rfl
theorem yH(n:Nat)(x r d):(TS).g n (x::r) d=run Xi n (DI (nth 0 (jI (body Tryz.f54)))) (Mw TS [45] d x) (G_ (JZ Xi TS n (Jr (nth 0 (jI (body Tryz.f54)))) r d) Mf):=by kernel_rfl
theorem aad:jI (body Tryz.f54)=[nth 0 (jI (body Tryz.f54))]:=by kernel_rfl
theorem Og:qJ Tryz.prog 54 UP:=Zd mixed (aa:=Xi) (qz qB (qf h55 qq) rfl (by kernel_rfl) (TE (TU Wy.k58 TD)) (hky:=qnp wI) (hqu:=qm2 Hp.SM)) (YK Wy.wL wJ) Tryz.func54 rfl rfl (by kernel_rfl) rfl (by rw[aat];simp only[List.forall_mem_cons];exact⟨qP (key:=5) (li:=tr) (by kernel_rfl) rfl (λ_=>rfl) (Ev),λ_ h=>by cases h⟩) (by rw[aad];simp only[List.forall_mem_cons];exact⟨Un (key:=10) (li:=TS) (pl:=[45]) (by kernel_rfl) rfl (by kernel_rfl) (by kernel_rfl) (qE (by kernel_rfl)) (λ_ _=>rfl) yH,λ_ h=>by cases h⟩) (by kernel_rfl) (λd y h=>⟨qk,(PE qk d).trans h⟩)
def Fv(_n:Nat)(L:(Int×Bool×Unit)×((Int×Int)×(List (XK×XK)×Option (XK×XK))×Unit)×Unit->Option uCh)(ee:Int)(It:Bool)(fI:Int×Int)(gi:List (XK×XK)×Option (XK×XK)):Option uCh:=
  Mm gi.1 (some ((It,()),(fI,()),())) λu3=>qa (ij u3.1 gi.1,some u3).2 λu4=>cond (u4.1.1==ee) (cond (!It) (L ((ee,true,()),(u4.2,(ij u3.1 gi.1,some u3),()),())) (qa (Ln (u4.2,fI,())) λy5=>cond (decide (y5.1.1<0)) (L ((ee,true,()),(u4.2,(ij u3.1 gi.1,some u3),()),())) (L ((ee,It,()),(fI,(ij u3.1 gi.1,some u3),()),())))) (L ((ee,It,()),(fI,(ij u3.1 gi.1,some u3),()),()))
def px:Nat->(Int×Bool×Unit)×((Int×Int)×(List (XK×XK)×Option (XK×XK))×Unit)×Unit->Option uCh
  |0,_=>none
  |n+1,d=>Fv n (px n) d.1.1 d.1.2.1 d.2.1.1 d.2.1.2.1
def tu:jL:=⟨⟨[(1,.v zI),(4,.c (.ptr 4 [])),(5,.v .bool),(10,.c (.view 10 []))],[(4,false,.str eS),(10,true,.ext true 3 131 124)],none⟩,[(.exit 0,⟨[(4,.c (.ptr 4 [])),(5,.v .bool)],[(4,false,.str eS)],none⟩)],px⟩
def F53(n:Nat)(sr:uV)(ee:Int):Option (((Int×Int)×Bool×Unit)×(Unit)):=
  qa (SB (sr,())) λy1=>qa y1.1.1 λl2=>qa (px n ((ee,false,()),(((0:Int),(0:Int)),(l2,none),()),())) λo6=>some ((o6.2.1.1,o6.1.1,()),())
def g53(d:uV×Int×Unit):Option (((Int×Int)×Bool×Unit)×(Unit)):=F53 qk d.1 d.2.1
def p53:qS:=⟨[.v (.str xB),.v zI],[.v (.str eS),.v .bool],g53⟩
def c53:jB:=⟨33,bV,[(2,.str xB)],[(54,UP),(55,MX)],[(2,tu)],[],[],[],[],[],[],[],[],[],none,[],[],[131],none,none,[]⟩
theorem PF(n:Nat)(d):qL c53 n Tryz.f53 (body Tryz.f53) p53.ps p53.rs d=F53 n d.1 d.2.1:=by kernel_rfl
theorem Ex(n:Nat)(d):(tu).g (n+1) d=run c53 n (nth 0 (qe (body Tryz.f53))) ((tu).ins.fill d) (qV (tu) n):=by kernel_rfl
theorem aau:qe (body Tryz.f53)=[nth 0 (qe (body Tryz.f53))]:=by kernel_rfl
theorem h53:qJ Tryz.prog 53 p53:=hQ (aa:=c53) (qz qB (qf Og (qf h55 qq)) rfl (by kernel_rfl) (hky:=qnp wI)) Tryz.func53 (by kernel_rfl) (by rw[aau];simp only[List.forall_mem_cons];exact⟨qP (key:=2) (li:=tu) (by kernel_rfl) rfl (λ_=>rfl) (Ex),λ_ h=>by cases h⟩) (by kernel_rfl) (PF qk)
def uw(_n:Nat)(L:(Int×uV×(Option (List (XK×XK)))×Unit)×(dQ×(Int×Int)×(Option (List (XK×XK)))×dQ×(List (XK×XK)×Option (XK×XK))×Unit)×Unit->Option Unit)(S:((Int×uV×(Option (List (XK×XK)))×Unit)×(dQ×(Option (List (XK×XK)))×dQ×Unit)×Unit)->Prop)(ee:Int)(a_2:f_×(Int×bM))(vB:Option (List (XK×XK)))(fI:List (Int×Int))(pY:Int×Int)(Ig:Option (List (XK×XK)))(Ie:List (Int×Int))(Ih:List (XK×XK)×Option (XK×XK)):Option Unit:=
  Mm Ih.1 (kS (S ((ee,a_2,vB,()),(fI,Ig,Ie,()),()))) λu4=>qa (ij u4.1 Ih.1,some u4).2 λu5=>qa (Ln (u5.2,pY,())) λy6=>cond (decide (y6.1.1<=0)) (qo ((Ie.length:Int)+[u5.1].length) (L ((ee,a_2,vB,()),(fI,pY,Ig,(Ie++[u5.1]),(ij u4.1 Ih.1,some u4),()),()))) (L ((ee,a_2,vB,()),(fI,pY,Ig,Ie,(ij u4.1 Ih.1,some u4),()),()))
def ng:Nat->((Int×uV×(Option (List (XK×XK)))×Unit)×(dQ×(Int×Int)×(Option (List (XK×XK)))×dQ×(List (XK×XK)×Option (XK×XK))×Unit)×Unit)->(((Int×uV×(Option (List (XK×XK)))×Unit)×(dQ×(Option (List (XK×XK)))×dQ×Unit)×Unit)->Prop)->Option Unit
  |0,_,_=>none
  |n+1,d,S=>uw n (λd=>ng n d S) S d.1.1 d.1.2.1 d.1.2.2.1 d.2.1.1 d.2.1.2.1 d.2.1.2.2.1 d.2.1.2.2.2.1 d.2.1.2.2.2.2.1
def tJ:Tu:=⟨⟨[(1,.v zI),(2,.r (.str xB)),(4,.c (.ptr 4 [])),(6,.c (.ptr 6 [])),(7,.c (.ptr 7 [])),(8,.r (.ext false 0 131 124)),(9,.c (.view 9 [])),(37,.c (.view 37 []))],[(4,false,.list true 100 (.str eS)),(6,false,.str eS),(7,false,.ext true 0 131 124),(9,true,.list true 131 (.str eS)),(37,true,.ext true 3 131 124)],none⟩,[(.exit 0,⟨[(1,.v zI),(2,.r (.str xB)),(4,.c (.ptr 4 [])),(7,.c (.ptr 7 [])),(8,.r (.ext false 0 131 124)),(9,.c (.view 9 []))],[(4,false,.list true 100 (.str eS)),(7,false,.ext true 0 131 124),(9,true,.list true 131 (.str eS))],none⟩)],ng⟩
def vN(_n:Nat)(L:((Option (List (XK×XK)))×(Int×Int)×Unit)->Option (X×((Option (List (XK×XK)))×Unit)))(xE:QN)(ej:(Option (List (XK×XK))))(iU:(Int×Int)):Option (X×((Option (List (XK×XK)))×Unit)):=
  dR xE.2.2.1.1 (dR xE.2.2.1.2 (qa ej λl12=>sF ((IntKind.wrap .i64 ((((jE l12 xE.2.2.1).getD ((0:Int),(0:Int))).1)+xE.2.2.2.1)),(IntKind.wrap .i64 ((((jE l12 xE.2.2.1).getD ((0:Int),(0:Int))).2)+1))) λz13=>dR iU.1 (dR iU.2 (qa ej λVh=>cond ((jE l12 xE.2.2.1).isSome) (cond (!((jE Vh iU).isSome)) (dR iU.1 (dR iU.2 (qa ej λKA=>qo (KA.length:Int) (L ((some (ep KA iU z13)),iU,()))))) (qa (Ln (z13,((jE Vh iU).getD ((0:Int),(0:Int))),())) λSJ=>cond (decide (SJ.1.1<0)) (dR iU.1 (dR iU.2 (qa ej λl17=>qo (l17.length:Int) (L ((some (ep l17 iU z13)),iU,()))))) (L (ej,iU,())))) (L (ej,iU,()))))))
def gE(n:Nat):List QN->((Option (List (XK×XK)))×(Int×Int)×Unit)->Option (X×((Option (List (XK×XK)))×Unit))
  |[],d=>some (.norm,(d.1,()))
  |x::r,d=>vN n (gE n r) x d.1 d.2.1
def TQ:qc5:=⟨.str Yg,[7,13],[.m (.ext true 0 131 124),.r (.str eS)],[.norm],gE⟩
def vZ(n:Nat)(L:(Int×uV×Int×Int×Unit)×(dQ×(Option (List (XK×XK)))×dQ×Unit)×Unit->Option ((SQ×(dQ×(Option (List (XK×XK)))×Unit)×Unit)))(ee:Int)(a_2:f_×(Int×bM))(LX:Int)(Ag:Int)(fI:List (Int×Int))(Ig:Option (List (XK×XK)))(Ie:List (Int×Int)):Option ((SQ×(dQ×(Option (List (XK×XK)))×Unit)×Unit)):=
  cond (decide (Ag<LX)) (bx Ag Ie.length (qn Ie Ag λe9=>cond (e9.1==ee) (dR e9.1 (dR e9.2 (qa Ig λVj=>qo (Vj.length:Int) (L ((ee,a_2,LX,(IntKind.wrap .i64 (Ag+1)),()),(fI,(some (ep Vj e9 ((0:Int),(0:Int)))),Ie,()),()))))) (qa (Wy.Nn.p.g (a_2,e9,())) λYe=>qa Ye.1.1 λKv=>qa Ye.1.2.1 λRU=>qa (Wy.nU.g (Kv,RU,())) λKA=>qa (gE n KA (Ig,e9,())) λNk=>cond (X.same .norm Nk.1) (L ((ee,a_2,LX,(IntKind.wrap .i64 (Ag+1)),()),(fI,Nk.2.1,Ie,()),())) (none)))) (some ((ee,a_2,()),(fI,Ig,()),()))
def gH:Nat->(Int×uV×Int×Int×Unit)×(dQ×(Option (List (XK×XK)))×dQ×Unit)×Unit->Option ((SQ×(dQ×(Option (List (XK×XK)))×Unit)×Unit))
  |0,_=>none
  |n+1,d=>vZ n (gH n) d.1.1 d.1.2.1 d.1.2.2.1 d.1.2.2.2.1 d.2.1.1 d.2.1.2.1 d.2.1.2.2.1
def me:jL:=⟨⟨[(1,.v zI),(2,.r (.str xB)),(4,.c (.ptr 4 [])),(7,.c (.ptr 7 [])),(54,.c (.view 9 [])),(55,.v zI),(56,.v zI)],[(4,false,.list true 100 (.str eS)),(7,false,.ext true 0 131 124),(9,true,.list true 131 (.str eS))],none⟩,[(.exit 2,⟨[(1,.v zI),(2,.r (.str xB)),(4,.c (.ptr 4 [])),(7,.c (.ptr 7 []))],[(4,false,.list true 100 (.str eS)),(7,false,.ext true 0 131 124)],none⟩)],gH⟩
def vM(_n:Nat)(L:(dQ×(Option (List (XK×XK)))×(Int×Int)×Int×Unit)->Option (X×(dQ×(Option (List (XK×XK)))×(Int×Int)×Int×Unit)))(eL:QN)(j_4:dQ)(ej:(Option (List (XK×XK))))(oU:(Int×Int))(lR:Int):Option (X×(dQ×(Option (List (XK×XK)))×(Int×Int)×Int×Unit)):=
  dR eL.2.2.1.1 (dR eL.2.2.1.2 (qa ej λVg=>cond (!((jE Vg eL.2.2.1).isSome)) (L (j_4,ej,oU,lR,())) (dR oU.1 (dR oU.2 (qa ej λl19=>cond (!(((((IntKind.wrap .i64 ((((jE Vg eL.2.2.1).getD ((0:Int),(0:Int))).1)+eL.2.2.2.1)),(IntKind.wrap .i64 ((((jE Vg eL.2.2.1).getD ((0:Int),(0:Int))).2)+1))).1)==(((jE l19 oU).getD ((0:Int),(0:Int))).1))&&((((IntKind.wrap .i64 ((((jE Vg eL.2.2.1).getD ((0:Int),(0:Int))).1)+eL.2.2.2.1)),(IntKind.wrap .i64 ((((jE Vg eL.2.2.1).getD ((0:Int),(0:Int))).2)+1))).2)==(((jE l19 oU).getD ((0:Int),(0:Int))).2)))) (L (j_4,ej,oU,lR,())) (qo ((j_4.length:Int)+[(eL.1,(IntKind.wrap .i64 (lR+eL.2.1)))].length) (some (.exit 8,((j_4++[(eL.1,(IntKind.wrap .i64 (lR+eL.2.1)))]),ej,eL.2.2.1,(IntKind.wrap .i64 (lR+eL.2.2.2.1)),())))))))))
def gD(n:Nat):List QN->(dQ×(Option (List (XK×XK)))×(Int×Int)×Int×Unit)->Option (X×(dQ×(Option (List (XK×XK)))×(Int×Int)×Int×Unit))
  |[],d=>some (.norm,(d.1,d.2.1,d.2.2.1,d.2.2.2.1,()))
  |x::r,d=>vM n (gD n r) x d.1 d.2.1 d.2.2.1 d.2.2.2.1
def TR:qc5:=⟨.str Yg,[4,7,20,21],[.m (.list true 100 (.str eS)),.m (.ext true 0 131 124),.m (.str eS),.m zI],[.norm,.exit 8],gD⟩
def vY(n:Nat)(L:SQ×(dQ×(Option (List (XK×XK)))×(Int×Int)×Int×Unit)×Unit->Option uDa)(ee:Int)(a_2:f_×(Int×bM))(fI:List (Int×Int))(Ig:Option (List (XK×XK)))(vp:Int×Int)(aak:Int):Option uDa:=
  cond (vp.1 !=ee) (qa (Wy.Nn.p.g (a_2,vp,())) λFN=>qa FN.1.1 λq18=>qa FN.1.2.1 λq19=>qa (Wy.nU.g (q18,q19,())) λl21=>qa (gD n l21 (fI,Ig,vp,aak,())) λkL=>cond (X.same .norm kL.1) (L ((ee,a_2,()),(kL.2.1,kL.2.2.1,kL.2.2.2.1,kL.2.2.2.2.1,()),())) (cond (X.same (.exit 8) kL.1) (L ((ee,a_2,()),(kL.2.1,kL.2.2.1,kL.2.2.2.1,kL.2.2.2.2.1,()),())) (none))) (some ((),(fI,()),()))
def gG:Nat->SQ×(dQ×(Option (List (XK×XK)))×(Int×Int)×Int×Unit)×Unit->Option uDa
  |0,_=>none
  |n+1,d=>vY n (gG n) d.1.1 d.1.2.1 d.2.1.1 d.2.1.2.1 d.2.1.2.2.1 d.2.1.2.2.2.1
def mc:jL:=⟨⟨[(1,.v zI),(2,.r (.str xB)),(4,.c (.ptr 4 [])),(7,.c (.ptr 7 [])),(20,.c (.ptr 20 [])),(21,.c (.ptr 21 []))],[(4,false,.list true 100 (.str eS)),(7,false,.ext true 0 131 124),(20,false,.str eS),(21,false,.int .i64)],none⟩,[(.exit 6,⟨[(4,.c (.ptr 4 []))],[(4,false,.list true 100 (.str eS))],none⟩)],gG⟩
def F31(n:Nat)(sr:uV)(ee:Int):Option ((dQ×Bool×Unit)×(Unit)):=
  qa (g53 (sr,ee,())) λy1=>cond (!y1.1.2.1) (some (([],false,()),())) (qa (SB (sr,())) λy2=>qa y2.1.1 λl3=>QK (λS=>ng n ((ee,sr,y2.1.1,()),(([]:List (Int×Int)),y1.1.1,(some []:Option (List (XK×XK))),([]:List (Int×Int)),(l3,none),()),()) S=some ()) λo7=>qa ((Hs.FT o7.1.2.2.1 o7.2.1.2.2.1).map λl=>((),(l,()))) λy8=>qa (gH n ((o7.1.1,o7.1.2.1,(y8.2.1.length:Int),0,()),(o7.2.1.1,o7.2.1.2.1,y8.2.1,()),())) λoF=>vg (qa (gG n ((oF.1.1,oF.1.2.1,()),(oF.2.1.1,oF.2.1.2.1,(oF.1.2.1.2.2.2.1,0),oF.1.2.1.2.2.2.2.1,()),())) λo22=>some ((o22.2.1.1,true,()),())) λE=>qv [qv [E,E],qv [E,E],qv [E,E]])
def SC(d:uV×Int×Unit):Option ((dQ×Bool×Unit)×(Unit)):=F31 qk d.1 d.2.1
def p31:qS:=⟨[.v (.str xB),.v zI],[.v (.list false 100 (.str eS)),.v .bool],SC⟩
def Jo:jB:=⟨167,bV,[(2,.str xB),(4,.list true 100 (.str eS)),(7,.ext true 0 131 124),(8,.ext true 0 131 124)],[(53,p53),(54,UP),(55,MX)],[(14,me),(27,mc)],[],[8000036,26],[(79,Wy.nU)],[(19,TQ),(29,TR)],[(58,Wy.Nn)],[],[],[],[],none,[],[],[131],none,some Hs.xs,[(8,tJ)]⟩
theorem Qd(n:Nat)(d):qL Jo n Tryz.f31 (body Tryz.f31) p31.ps p31.rs d=F31 n d.1 d.2.1:=by kernel_rfl
theorem EO(n:Nat)(d)(S):(tJ).w (n+1) d S=run Jo n (nth 0 (qe (body Tryz.f31))) ((tJ).ins.fill d) (qc3 (tJ) n S):=by kernel_rfl
theorem yS(n:Nat)(d):(me).g (n+1) d=run Jo n (nth 1 (qe (body Tryz.f31))) ((me).ins.fill d) (qV (me) n):=by kernel_rfl
theorem yR(n:Nat)(d):(mc).g (n+1) d=run Jo n (nth 2 (qe (body Tryz.f31))) ((mc).ins.fill d) (qV (mc) n):=by kernel_rfl
theorem aaC:qe (body Tryz.f31)=[nth 0 (qe (body Tryz.f31)),nth 1 (qe (body Tryz.f31)),nth 2 (qe (body Tryz.f31))]:=by kernel_rfl
theorem yJ(n:Nat)(x r d):(TQ).g n (x::r) d=run Jo n (DI (nth 0 (jI (body Tryz.f31)))) (Mw TQ [70] d x) (G_ (JZ Jo TQ n (Jr (nth 0 (jI (body Tryz.f31)))) r d) Mf):=by kernel_rfl
theorem yI(n:Nat)(x r d):(TR).g n (x::r) d=run Jo n (DI (nth 1 (jI (body Tryz.f31)))) (Mw TR [123] d x) (G_ (JZ Jo TR n (Jr (nth 1 (jI (body Tryz.f31)))) r d) Mf):=by kernel_rfl
theorem aag:jI (body Tryz.f31)=[nth 0 (jI (body Tryz.f31)),nth 1 (jI (body Tryz.f31))]:=by kernel_rfl
theorem Oi:qJ Tryz.prog 31 p31:=Zd mixed (aa:=Jo) (qz qB (qf h53 (qf Og (qf h55 qq))) rfl (by kernel_rfl) (TE (TU Wy.k58 TD)) (hky:=qnp wI) (KH:=GQ Hs.SL)) (YK Wy.wL wJ) Tryz.func31 rfl rfl (by kernel_rfl) rfl (by rw[aaC];simp only[List.forall_mem_cons];exact⟨BH (key:=8) (lw:=tJ) (by kernel_rfl) rfl rfl (λ_ _=>rfl) (EO),qP (key:=14) (li:=me) (by kernel_rfl) rfl (λ_=>rfl) (yS),qP (key:=27) (li:=mc) (by kernel_rfl) rfl (λ_=>rfl) (yR),λ_ h=>by cases h⟩) (by rw[aag];simp only[List.forall_mem_cons];exact⟨Un (key:=19) (li:=TQ) (pl:=[70]) (by kernel_rfl) rfl (by kernel_rfl) (by kernel_rfl) (qE (by kernel_rfl)) (λ_ _=>rfl) yJ,Un (key:=29) (li:=TR) (pl:=[123]) (by kernel_rfl) rfl (by kernel_rfl) (by kernel_rfl) (qE (by kernel_rfl)) (λ_ _=>rfl) yI,λ_ h=>by cases h⟩) (by kernel_rfl) (λd y h=>⟨qk,(Qd qk d).trans h⟩)
def FK(_n:Nat)(L:(Int×nJ×Int×Int×Unit)×(f_×((Option Nat)×(List Int))×Unit)×Unit->Option ((((Option ((Option Nat)×(List Int)))×Int×Unit)×(Unit)×Unit) ⊕ ((Unit)×(((Option Nat)×(List Int))×Unit)×Unit)))(sB:Int)(lF:List (Int×bM))(pJ:Int)(nL:Int)(fI:(List Bool)×(List bM))(au:(Option Nat)×(List Int)):Option ((((Option ((Option Nat)×(List Int)))×Int×Unit)×(Unit)×Unit) ⊕ ((Unit)×(((Option Nat)×(List Int))×Unit)×Unit)):=
  cond (decide (nL<pJ)) (qn lF nL λe3=>qa (SC ((fI,e3),sB,())) λy4=>cond (!y4.1.2.1) (some (.inl ((none,3,()),(),()))) (cond (decide ((y4.1.1.length:Int)>0)) (qn y4.1.1 (IntKind.wrap .i64 ((y4.1.1.length:Int)-1)) λe5=>qn y4.1.1 (IntKind.wrap .i64 ((y4.1.1.length:Int)-1)) λe6=>qn fI.2 e6.1 λe7=>vg (λ(n8:Nat)=>L ((sB,lF,pJ,(IntKind.wrap .i64 (nL+1)),()),(fI,(((some (n8+[y4.1.1].length):Option Nat),((none:Option Nat),au.2).2).1,((((none:Option Nat),au.2).2)++[(IntKind.wrap .i64 (e5.2+e7.2.2.1))])),()),())) λE=>qv [qv [qv [qa au.1 λn8=>qo ((n8:Int)+([y4.1.1].length:Int)) (qv [qo (((((none:Option Nat),au.2).2).length:Int)+[(IntKind.wrap .i64 (e5.2+e7.2.2.1))].length) (E n8),qo (((((none:Option Nat),au.2).2).length:Int)+[(IntKind.wrap .i64 (e5.2+e7.2.2.1))].length) (E n8)]),qv [qa au.1 λn9=>qo ((n9:Int)+([y4.1.1].length:Int)) (qo (((((none:Option Nat),au.2).2).length:Int)+[(IntKind.wrap .i64 (e5.2+e7.2.2.1))].length) (E n9)),qa au.1 λn10=>qo ((n10:Int)+([y4.1.1].length:Int)) (qo (((((none:Option Nat),au.2).2).length:Int)+[(IntKind.wrap .i64 (e5.2+e7.2.2.1))].length) (E n10))],qv [qa au.1 λn11=>qo ((n11:Int)+([y4.1.1].length:Int)) (qo (((((none:Option Nat),au.2).2).length:Int)+[(IntKind.wrap .i64 (e5.2+e7.2.2.1))].length) (E n11)),qa au.1 λn12=>qo ((n12:Int)+([y4.1.1].length:Int)) (qo (((((none:Option Nat),au.2).2).length:Int)+[(IntKind.wrap .i64 (e5.2+e7.2.2.1))].length) (E n12))]],qv [qv [qa au.1 λn13=>qo ((n13:Int)+([y4.1.1].length:Int)) (qo (((((none:Option Nat),au.2).2).length:Int)+[(IntKind.wrap .i64 (e5.2+e7.2.2.1))].length) (E n13)),qa au.1 λn14=>qo ((n14:Int)+([y4.1.1].length:Int)) (qo (((((none:Option Nat),au.2).2).length:Int)+[(IntKind.wrap .i64 (e5.2+e7.2.2.1))].length) (E n14))],qa au.1 λn15=>qo ((n15:Int)+([y4.1.1].length:Int)) (qo (((((none:Option Nat),au.2).2).length:Int)+[(IntKind.wrap .i64 (e5.2+e7.2.2.1))].length) (E n15))],qv [qv [qa au.1 λn16=>qo ((n16:Int)+([y4.1.1].length:Int)) (qo (((((none:Option Nat),au.2).2).length:Int)+[(IntKind.wrap .i64 (e5.2+e7.2.2.1))].length) (E n16)),qa au.1 λn17=>qo ((n17:Int)+([y4.1.1].length:Int)) (qo (((((none:Option Nat),au.2).2).length:Int)+[(IntKind.wrap .i64 (e5.2+e7.2.2.1))].length) (E n17))],qa au.1 λn18=>qo ((n18:Int)+([y4.1.1].length:Int)) (qo (((((none:Option Nat),au.2).2).length:Int)+[(IntKind.wrap .i64 (e5.2+e7.2.2.1))].length) (E n18))]],qv [qv [qa au.1 λn19=>qo ((n19:Int)+([y4.1.1].length:Int)) (qv [qo (((((none:Option Nat),au.2).2).length:Int)+[(IntKind.wrap .i64 (e5.2+e7.2.2.1))].length) (E n19),qo (((((none:Option Nat),au.2).2).length:Int)+[(IntKind.wrap .i64 (e5.2+e7.2.2.1))].length) (E n19)]),qv [qa au.1 λn20=>qo ((n20:Int)+([y4.1.1].length:Int)) (qo (((((none:Option Nat),au.2).2).length:Int)+[(IntKind.wrap .i64 (e5.2+e7.2.2.1))].length) (E n20)),qa au.1 λn21=>qo ((n21:Int)+([y4.1.1].length:Int)) (qo (((((none:Option Nat),au.2).2).length:Int)+[(IntKind.wrap .i64 (e5.2+e7.2.2.1))].length) (E n21))],qv [qa au.1 λn22=>qo ((n22:Int)+([y4.1.1].length:Int)) (qo (((((none:Option Nat),au.2).2).length:Int)+[(IntKind.wrap .i64 (e5.2+e7.2.2.1))].length) (E n22)),qa au.1 λn23=>qo ((n23:Int)+([y4.1.1].length:Int)) (qo (((((none:Option Nat),au.2).2).length:Int)+[(IntKind.wrap .i64 (e5.2+e7.2.2.1))].length) (E n23))]],qv [qv [qa au.1 λn24=>qo ((n24:Int)+([y4.1.1].length:Int)) (qo (((((none:Option Nat),au.2).2).length:Int)+[(IntKind.wrap .i64 (e5.2+e7.2.2.1))].length) (E n24)),qa au.1 λn25=>qo ((n25:Int)+([y4.1.1].length:Int)) (qo (((((none:Option Nat),au.2).2).length:Int)+[(IntKind.wrap .i64 (e5.2+e7.2.2.1))].length) (E n25))],qa au.1 λn26=>qo ((n26:Int)+([y4.1.1].length:Int)) (qo (((((none:Option Nat),au.2).2).length:Int)+[(IntKind.wrap .i64 (e5.2+e7.2.2.1))].length) (E n26))],qv [qa au.1 λn27=>qo ((n27:Int)+([y4.1.1].length:Int)) (qo (((((none:Option Nat),au.2).2).length:Int)+[(IntKind.wrap .i64 (e5.2+e7.2.2.1))].length) (E n27)),qa au.1 λn28=>qo ((n28:Int)+([y4.1.1].length:Int)) (qo (((((none:Option Nat),au.2).2).length:Int)+[(IntKind.wrap .i64 (e5.2+e7.2.2.1))].length) (E n28))]],qv [qv [qv [qa au.1 λn29=>qo ((n29:Int)+([y4.1.1].length:Int)) (qo (((((none:Option Nat),au.2).2).length:Int)+[(IntKind.wrap .i64 (e5.2+e7.2.2.1))].length) (E n29)),qa au.1 λn30=>qo ((n30:Int)+([y4.1.1].length:Int)) (qo (((((none:Option Nat),au.2).2).length:Int)+[(IntKind.wrap .i64 (e5.2+e7.2.2.1))].length) (E n30))],qa au.1 λn31=>qo ((n31:Int)+([y4.1.1].length:Int)) (qo (((((none:Option Nat),au.2).2).length:Int)+[(IntKind.wrap .i64 (e5.2+e7.2.2.1))].length) (E n31))],qv [qv [qa au.1 λn32=>qo ((n32:Int)+([y4.1.1].length:Int)) (qo (((((none:Option Nat),au.2).2).length:Int)+[(IntKind.wrap .i64 (e5.2+e7.2.2.1))].length) (E n32)),qa au.1 λn33=>qo ((n33:Int)+([y4.1.1].length:Int)) (qo (((((none:Option Nat),au.2).2).length:Int)+[(IntKind.wrap .i64 (e5.2+e7.2.2.1))].length) (E n33))],qa au.1 λn34=>qo ((n34:Int)+([y4.1.1].length:Int)) (qo (((((none:Option Nat),au.2).2).length:Int)+[(IntKind.wrap .i64 (e5.2+e7.2.2.1))].length) (E n34))],qv [qa au.1 λn35=>qo ((n35:Int)+([y4.1.1].length:Int)) (qo (((((none:Option Nat),au.2).2).length:Int)+[(IntKind.wrap .i64 (e5.2+e7.2.2.1))].length) (E n35)),qa au.1 λn36=>qo ((n36:Int)+([y4.1.1].length:Int)) (qo (((((none:Option Nat),au.2).2).length:Int)+[(IntKind.wrap .i64 (e5.2+e7.2.2.1))].length) (E n36))]],qv [qv [qv [qa au.1 λn37=>qo ((n37:Int)+([y4.1.1].length:Int)) (qo (((((none:Option Nat),au.2).2).length:Int)+[(IntKind.wrap .i64 (e5.2+e7.2.2.1))].length) (E n37)),qa au.1 λn38=>qo ((n38:Int)+([y4.1.1].length:Int)) (qo (((((none:Option Nat),au.2).2).length:Int)+[(IntKind.wrap .i64 (e5.2+e7.2.2.1))].length) (E n38))],qa au.1 λn39=>qo ((n39:Int)+([y4.1.1].length:Int)) (qo (((((none:Option Nat),au.2).2).length:Int)+[(IntKind.wrap .i64 (e5.2+e7.2.2.1))].length) (E n39))],qv [qa au.1 λn40=>qo ((n40:Int)+([y4.1.1].length:Int)) (qo (((((none:Option Nat),au.2).2).length:Int)+[(IntKind.wrap .i64 (e5.2+e7.2.2.1))].length) (E n40)),qa au.1 λn41=>qo ((n41:Int)+([y4.1.1].length:Int)) (qo (((((none:Option Nat),au.2).2).length:Int)+[(IntKind.wrap .i64 (e5.2+e7.2.2.1))].length) (E n41))],qv [qa au.1 λn42=>qo ((n42:Int)+([y4.1.1].length:Int)) (qo (((((none:Option Nat),au.2).2).length:Int)+[(IntKind.wrap .i64 (e5.2+e7.2.2.1))].length) (E n42)),qa au.1 λn43=>qo ((n43:Int)+([y4.1.1].length:Int)) (qo (((((none:Option Nat),au.2).2).length:Int)+[(IntKind.wrap .i64 (e5.2+e7.2.2.1))].length) (E n43))]]]) (vg (λ(n44:Nat)=>L ((sB,lF,pJ,(IntKind.wrap .i64 (nL+1)),()),(fI,(((some (n44+[y4.1.1].length):Option Nat),((none:Option Nat),au.2).2).1,((((none:Option Nat),au.2).2)++[e3.2.2.2.1])),()),())) λE=>qv [qv [qv [qa au.1 λn44=>qo ((n44:Int)+([y4.1.1].length:Int)) (qv [qo (((((none:Option Nat),au.2).2).length:Int)+[e3.2.2.2.1].length) (E n44),qo (((((none:Option Nat),au.2).2).length:Int)+[e3.2.2.2.1].length) (E n44)]),qv [qa au.1 λn45=>qo ((n45:Int)+([y4.1.1].length:Int)) (qo (((((none:Option Nat),au.2).2).length:Int)+[e3.2.2.2.1].length) (E n45)),qa au.1 λn46=>qo ((n46:Int)+([y4.1.1].length:Int)) (qo (((((none:Option Nat),au.2).2).length:Int)+[e3.2.2.2.1].length) (E n46))],qv [qa au.1 λn47=>qo ((n47:Int)+([y4.1.1].length:Int)) (qo (((((none:Option Nat),au.2).2).length:Int)+[e3.2.2.2.1].length) (E n47)),qa au.1 λn48=>qo ((n48:Int)+([y4.1.1].length:Int)) (qo (((((none:Option Nat),au.2).2).length:Int)+[e3.2.2.2.1].length) (E n48))]],qv [qv [qa au.1 λn49=>qo ((n49:Int)+([y4.1.1].length:Int)) (qo (((((none:Option Nat),au.2).2).length:Int)+[e3.2.2.2.1].length) (E n49)),qa au.1 λn50=>qo ((n50:Int)+([y4.1.1].length:Int)) (qo (((((none:Option Nat),au.2).2).length:Int)+[e3.2.2.2.1].length) (E n50))],qa au.1 λn51=>qo ((n51:Int)+([y4.1.1].length:Int)) (qo (((((none:Option Nat),au.2).2).length:Int)+[e3.2.2.2.1].length) (E n51))],qv [qv [qa au.1 λn52=>qo ((n52:Int)+([y4.1.1].length:Int)) (qo (((((none:Option Nat),au.2).2).length:Int)+[e3.2.2.2.1].length) (E n52)),qa au.1 λn53=>qo ((n53:Int)+([y4.1.1].length:Int)) (qo (((((none:Option Nat),au.2).2).length:Int)+[e3.2.2.2.1].length) (E n53))],qa au.1 λn54=>qo ((n54:Int)+([y4.1.1].length:Int)) (qo (((((none:Option Nat),au.2).2).length:Int)+[e3.2.2.2.1].length) (E n54))]],qv [qv [qa au.1 λn55=>qo ((n55:Int)+([y4.1.1].length:Int)) (qv [qo (((((none:Option Nat),au.2).2).length:Int)+[e3.2.2.2.1].length) (E n55),qo (((((none:Option Nat),au.2).2).length:Int)+[e3.2.2.2.1].length) (E n55)]),qv [qa au.1 λn56=>qo ((n56:Int)+([y4.1.1].length:Int)) (qo (((((none:Option Nat),au.2).2).length:Int)+[e3.2.2.2.1].length) (E n56)),qa au.1 λn57=>qo ((n57:Int)+([y4.1.1].length:Int)) (qo (((((none:Option Nat),au.2).2).length:Int)+[e3.2.2.2.1].length) (E n57))],qv [qa au.1 λn58=>qo ((n58:Int)+([y4.1.1].length:Int)) (qo (((((none:Option Nat),au.2).2).length:Int)+[e3.2.2.2.1].length) (E n58)),qa au.1 λn59=>qo ((n59:Int)+([y4.1.1].length:Int)) (qo (((((none:Option Nat),au.2).2).length:Int)+[e3.2.2.2.1].length) (E n59))]],qv [qv [qa au.1 λn60=>qo ((n60:Int)+([y4.1.1].length:Int)) (qo (((((none:Option Nat),au.2).2).length:Int)+[e3.2.2.2.1].length) (E n60)),qa au.1 λn61=>qo ((n61:Int)+([y4.1.1].length:Int)) (qo (((((none:Option Nat),au.2).2).length:Int)+[e3.2.2.2.1].length) (E n61))],qa au.1 λn62=>qo ((n62:Int)+([y4.1.1].length:Int)) (qo (((((none:Option Nat),au.2).2).length:Int)+[e3.2.2.2.1].length) (E n62))],qv [qa au.1 λn63=>qo ((n63:Int)+([y4.1.1].length:Int)) (qo (((((none:Option Nat),au.2).2).length:Int)+[e3.2.2.2.1].length) (E n63)),qa au.1 λn64=>qo ((n64:Int)+([y4.1.1].length:Int)) (qo (((((none:Option Nat),au.2).2).length:Int)+[e3.2.2.2.1].length) (E n64))]],qv [qv [qv [qa au.1 λn65=>qo ((n65:Int)+([y4.1.1].length:Int)) (qo (((((none:Option Nat),au.2).2).length:Int)+[e3.2.2.2.1].length) (E n65)),qa au.1 λn66=>qo ((n66:Int)+([y4.1.1].length:Int)) (qo (((((none:Option Nat),au.2).2).length:Int)+[e3.2.2.2.1].length) (E n66))],qa au.1 λn67=>qo ((n67:Int)+([y4.1.1].length:Int)) (qo (((((none:Option Nat),au.2).2).length:Int)+[e3.2.2.2.1].length) (E n67))],qv [qv [qa au.1 λn68=>qo ((n68:Int)+([y4.1.1].length:Int)) (qo (((((none:Option Nat),au.2).2).length:Int)+[e3.2.2.2.1].length) (E n68)),qa au.1 λn69=>qo ((n69:Int)+([y4.1.1].length:Int)) (qo (((((none:Option Nat),au.2).2).length:Int)+[e3.2.2.2.1].length) (E n69))],qa au.1 λn70=>qo ((n70:Int)+([y4.1.1].length:Int)) (qo (((((none:Option Nat),au.2).2).length:Int)+[e3.2.2.2.1].length) (E n70))],qv [qa au.1 λn71=>qo ((n71:Int)+([y4.1.1].length:Int)) (qo (((((none:Option Nat),au.2).2).length:Int)+[e3.2.2.2.1].length) (E n71)),qa au.1 λn72=>qo ((n72:Int)+([y4.1.1].length:Int)) (qo (((((none:Option Nat),au.2).2).length:Int)+[e3.2.2.2.1].length) (E n72))]],qv [qv [qv [qa au.1 λn73=>qo ((n73:Int)+([y4.1.1].length:Int)) (qo (((((none:Option Nat),au.2).2).length:Int)+[e3.2.2.2.1].length) (E n73)),qa au.1 λn74=>qo ((n74:Int)+([y4.1.1].length:Int)) (qo (((((none:Option Nat),au.2).2).length:Int)+[e3.2.2.2.1].length) (E n74))],qa au.1 λn75=>qo ((n75:Int)+([y4.1.1].length:Int)) (qo (((((none:Option Nat),au.2).2).length:Int)+[e3.2.2.2.1].length) (E n75))],qv [qa au.1 λn76=>qo ((n76:Int)+([y4.1.1].length:Int)) (qo (((((none:Option Nat),au.2).2).length:Int)+[e3.2.2.2.1].length) (E n76)),qa au.1 λn77=>qo ((n77:Int)+([y4.1.1].length:Int)) (qo (((((none:Option Nat),au.2).2).length:Int)+[e3.2.2.2.1].length) (E n77))],qv [qa au.1 λn78=>qo ((n78:Int)+([y4.1.1].length:Int)) (qo (((((none:Option Nat),au.2).2).length:Int)+[e3.2.2.2.1].length) (E n78)),qa au.1 λn79=>qo ((n79:Int)+([y4.1.1].length:Int)) (qo (((((none:Option Nat),au.2).2).length:Int)+[e3.2.2.2.1].length) (E n79))]]]))) (some (.inr ((),(au,()),())))
def nq:Nat->(Int×nJ×Int×Int×Unit)×(f_×((Option Nat)×(List Int))×Unit)×Unit->Option ((((Option ((Option Nat)×(List Int)))×Int×Unit)×(Unit)×Unit) ⊕ ((Unit)×(((Option Nat)×(List Int))×Unit)×Unit))
  |0,_=>none
  |n+1,d=>FK n (nq n) d.1.1 d.1.2.1 d.1.2.2.1 d.1.2.2.2.1 d.2.1.1 d.2.1.2.1
def tO:jL:=⟨⟨[(2,.v zI),(4,.c (.ptr 4 [])),(11,.c (.ptr 29 [])),(30,.v zZ),(31,.v zI),(32,.v zI)],[(4,false,.str ou),(29,false,.str (.pair (.ext true 5 94 0) pI))],none⟩,[(.ret,⟨[(8,.v (.ptr (.str (.pair (.ext false 5 94 0) gu)))),(9,.v zI)],[],none⟩),(.exit 0,⟨[(11,.c (.ptr 29 []))],[(29,false,.str (.pair (.ext true 5 94 0) pI))],none⟩)],nq⟩
def F16(n:Nat)(gj:f_)(l_1:nJ)(sB:Int)(wX:Int):Option (((Option ((Option Nat)×(List Int)))×Int×Unit)×(Unit)):=
  qa (g29 (gj,sB,l_1,())) λy1=>cond (y1.1.1 !=0) (some ((none,y1.1.1,()),())) (qa (wY (wX,0,100,())) λy2=>cond (!y2.1.1) (some ((none,1,()),())) (qa (nq n ((sB,l_1,(l_1.length:Int),0,()),(gj,((some 0:Option Nat),([]:List Int)),()),())) λo80=>fD o80 (λd81=>some ((d81.1.1,d81.1.2.1,()),())) (λd82=>some (((some d82.2.1.1),0,()),()))))
def g16(d:f_×nJ×Int×Int×Unit):Option (((Option ((Option Nat)×(List Int)))×Int×Unit)×(Unit)):=F16 qk d.1 d.2.1 d.2.2.1 d.2.2.2.1
def p16:qS:=⟨[.v (.str ou),.v zZ,.v zI,.v zI],[.v (.ptr (.str (.pair (.ext false 5 94 0) gu))),.v zI],g16⟩
def c16:jB:=⟨92,bV,[(28,.str (.pair (.ext true 5 94 0) pI))],[(29,p29),(30,Kx),(31,p31)],[(8,tO)],[],[17],[],[],[],[],[],[],[],none,[(87,85)],[],[],none,none,[]⟩
theorem Qs(n:Nat)(d):qL c16 n Tryz.f16 (body Tryz.f16) p16.ps p16.rs d=F16 n d.1 d.2.1 d.2.2.1 d.2.2.2.1:=by kernel_rfl
theorem EX(n:Nat)(d):(tO).g (n+1) d=run c16 n (nth 0 (qe (body Tryz.f16))) ((tO).ins.fill d) (qV (tO) n):=by kernel_rfl
theorem aaH:qe (body Tryz.f16)=[nth 0 (qe (body Tryz.f16))]:=by kernel_rfl
theorem vA:qJ Tryz.prog 16 p16:=hQ (aa:=c16) (qz qB (qf h29 (qf WC (qf Oi qq))) rfl (by kernel_rfl)) Tryz.func16 (by kernel_rfl) (by rw[aaH];simp only[List.forall_mem_cons];exact⟨qP (key:=8) (li:=tO) (by kernel_rfl) rfl (λ_=>rfl) (EX),λ_ h=>by cases h⟩) (by kernel_rfl) (Qs qk)
end
end Go.Proofs.Tryz.V
