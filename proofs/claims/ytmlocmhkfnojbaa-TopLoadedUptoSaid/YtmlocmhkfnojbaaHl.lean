/- The layout of the library's sort of places. No condition. -/
import Derived.Test.YtmlocmhkfnojbaaWy2
import Derived.LoopN
import Derived.Ground.SlsfProg
import Derived.Ground.NamesProg
import Derived.Shelf.SlSortCmp.InsertionK
import Derived.Shelf.SlSortCmp.WholeK
import Derived.Test.YtmlocmhkfnojbaaVi40
namespace Go.Vi
open Go.Proofs Go.Shelf Go.Sort Go.RowKit
section
variable {P:Program} {ρ:Ren}
def qao:(τ:Ty)->τ.den->List Value
  |.int k,x=>[.int k x]
  |.bool,b=>[.bool b]
  |.pair a b,x=>qao a x.1++qao b x.2
  |.str t,x=>qao t x
  |_,_=>[]
theorem qdy:(τ:Ty)->τ.isBare=true->∀{w:World} {H:FH} {x:τ.den} {cs:List Value} {fp:List Nat},qm P τ w H x cs fp->cs=qao τ x/\fp=[]
  |.int _,_,_,_,_,_,_,h=>h
  |.bool,_,_,_,_,_,_,h=>h
  |.pair a b,hb,_,_,_,_,_,h=>by
    simp only[Ty.isBare,Bool.and_eq_true]at hb
    obtain⟨c1,c2,f1,f2,rfl,rfl,h1,h2⟩:=h
    obtain⟨rfl,rfl⟩:=qdy a hb.1 h1
    obtain⟨rfl,rfl⟩:=qdy b hb.2 h2
    exact⟨rfl,rfl⟩
  |.str t,hb,_,_,_,_,_,h=>qdy t hb h
theorem qcs:(τ:Ty)->τ.isBare=true->∀(w:World) (H:FH) (x:τ.den),qm P τ w H x (qao τ x) []
  |.int _,_,_,_,_=>⟨rfl,rfl⟩
  |.bool,_,_,_,_=>⟨rfl,rfl⟩
  |.pair a b,hb,w,H,x=>by
    simp only[Ty.isBare,Bool.and_eq_true]at hb
    exact⟨_,_,[],[],rfl,rfl,qcs a hb.1 w H x.1,qcs b hb.2 w H x.2⟩
  |.str t,hb,w,H,x=>qcs t hb w H x
theorem qhs{e:Ty}(hb:e.isBare=true){w:World}{H:FH}:∀{l:List e.den} {xs:List Value} {fp:List Nat},qe (qm P e w H) l xs fp->xs=(l.map (qao e)).flatten/\fp=[]
  |[],_,_,⟨h1,h2⟩=>⟨h1,h2⟩
  |_::l,_,_,⟨c,xs',f,fp',e1,e2,h1,h2⟩=>by
    obtain⟨h3,h4⟩:=qhs hb h2
    obtain⟨h5,h6⟩:=qdy e hb h1
    rw[e1,e2,h3,h4,h5,h6]
    exact⟨by simp,rfl⟩
theorem qht{e:Ty}(hb:e.isBare=true)(w:World)(H:FH):∀(l:List e.den),qe (qm P e w H) l (l.map (qao e)).flatten []
  |[]=>⟨rfl,rfl⟩
  |x::l=>⟨qao e x,(l.map (qao e)).flatten,[],[],by simp,rfl,qcs e hb w H x,qht hb w H l⟩
theorem qhn{k:Nat}:∀(l:List (List Value)),(∀x∈l,x.length=k)->∀t,t<l.length*k->l.flatten[t]? = (l[t/k]?).bind (·[t%k]?)
  |[],_,t,h=>by simp at h
  |c::r,hk,t,h=>by
    have hc:=hk c (by simp)
    have hk0:0<k:=by
      rcases Nat.eq_zero_or_pos k with h0|h0
      · rw[h0]at h;simp at h
      · exact h0
    rw[List.flatten_cons]
    by_cases ht:t<k
    · rw[List.getElem?_append_left (by omega),Nat.div_eq_of_lt ht,Nat.mod_eq_of_lt ht]
      rfl
    · obtain⟨s,rfl⟩:∃s,t=k+s:=⟨t-k,by omega⟩
      rw[List.getElem?_append_right (by omega),hc,Nat.add_sub_cancel_left,Nat.add_mod_left,Nat.add_div_left s hk0,List.getElem?_cons_succ]
      refine qhn r (λx hx=>hk x (by simp[hx])) s ?_
      rw[List.length_cons,Nat.add_mul]at h
      omega
theorem qiX{α:Type}[Inhabited α](enc:α->List Value){k:Nat}(hk:∀x,(enc x).length=k)(d:Array α):(flatK enc k d).toList=(d.toList.map enc).flatten:=by
  have hl:(d.toList.map enc).flatten.length=d.size*k:=by
    have:∀l:List α,(l.map enc).flatten.length=l.length*k:=λl=>by
      induction l with
      |nil=>simp
      |cons x l ih=>rw[List.map_cons,List.flatten_cons,List.length_append,ih,hk,List.length_cons,Nat.add_mul];omega
    rw[this,Array.length_toList]
  apply List.ext_getElem?
  intro t
  by_cases ht:t<d.size*k
  · have hk0:0<k:=by
      rcases Nat.eq_zero_or_pos k with h0|h0
      · rw[h0]at ht;simp at ht
      · exact h0
    have hd:t/k<d.size:=Nat.div_lt_of_lt_mul (by rwa[Nat.mul_comm])
    have hm:t%k<(enc d[t/k]).length:=by rw[hk];exact Nat.mod_lt _ hk0
    rw[qhn _ (by simpa using λx _=>hk x) t (by simpa using ht)]
    have h1:(flatK enc k d).toList[t]? = some (flatK enc k d)[t]!:=by
      rw[Array.getElem?_toList,getElem!_pos _ t (by simpa using ht)]
      exact Array.getElem?_eq_getElem _
    rw[h1,get_flatK enc k d t ht,getElem!_pos d (t/k) hd,getElem!_pos (enc d[t/k]) (t%k) hm]
    simp only[List.getElem?_map,Array.getElem?_toList,Array.getElem?_eq_getElem hd,Option.map_some,Option.bind_some,List.getElem?_eq_getElem hm]
  · rw[List.getElem?_eq_none (by simpa using ht),List.getElem?_eq_none (by rw[hl];omega)]
theorem qmu{cur F:Array Value}(h:F.size<=cur.size):(putCells id 0 F cur).toList.take F.size=F.toList:=by
  apply List.ext_getElem?
  intro k
  rw[List.getElem?_take]
  by_cases hk:k<F.size
  · rw[if_pos hk]
    have h1:k<cur.size:=by omega
    simp[putCells,hk,h1,Nat.sub_zero]
  · rw[if_neg hk]
    rw[List.getElem?_eq_none (by simpa using hk)]
theorem row_put{tid:TypeId}{e:Ty}(hb:e.isBare=true){w:World}{H:FH}{l l':List e.den}{φ:qB}{g cap:Nat}{cur F:Array Value}(hobj:qK P w H ⟨true,.list true tid e,l⟩ φ)(hhd:φ.hdr = .slice (some ⟨g,0,none⟩) l.length cap)(hfp:φ.fp=[g])
    (hg:w.heap[g]? = some (.cells cur tid (0,0))) (h1:l.length<=cap) (h2:cap<=maxLen) (h3:cur.size=cap*e.size) (hll:l'.length=l.length) (hF:F.toList=(l'.map (qao e)).flatten) (n:Nat) (os:Array Go.Obj):
    jM (· ∈φ.fp) w (grow (putRow id (Sort.ahead w n) g 0 F) os)/\qK P (grow (putRow id (Sort.ahead w n) g 0 F) os) H ⟨true,.list true tid e,l'⟩ φ:=by
  have hg':(Sort.ahead w n).heap[g]? = some (.cells cur tid (0,0)):=hg
  obtain⟨q1,q2⟩:=qeD id (Sort.ahead w n) g F hg'
  have hsize:(putRow id (Sort.ahead w n) g 0 F).heap.size=w.heap.size:=by simp[putRow,mapBlock,Sort.ahead]
  have hold:∀k,k<w.heap.size->(grow (putRow id (Sort.ahead w n) g 0 F) os).heap[k]? = (putRow id (Sort.ahead w n) g 0 F).heap[k]?:=λk hk=>by
    show((putRow id (Sort.ahead w n) g 0 F).heap++os)[k]? = _
    rw[Array.getElem?_append_left (by rw[hsize];exact hk)]
  have hglt:g<w.heap.size:=(Array.getElem?_eq_some_iff.1 hg).1
  have hch:qe (qm P e (grow (putRow id (Sort.ahead w n) g 0 F) os) H) l' (l'.map (qao e)).flatten []:=qht hb _ _ l'
  have hFl:F.size=l.length*e.size:=by
    rw[<-Array.length_toList,hF,<-hll]
    have:=qe.length (n:=e.size) (λ_ _ _ hh=>qm.length e hh) hch
    exact this
  have hFc:F.size<=cur.size:=by rw[hFl,h3];exact Nat.mul_le_mul_right _ h1
  refine⟨⟨rfl,rfl,rfl,?_,λk hk hM=>?_⟩,qK.of_list hobj.1 hobj.2.1 ⟨φ.hdr,F.toList,[],rfl,?_,⟨?_,.inr ⟨g,cap,putCells id 0 F cur,?_,Nat.zero_le _,?_,?_,h2,?_,?_⟩⟩,?_⟩⟩
  · show _<=((putRow id (Sort.ahead w n) g 0 F).heap++os).size
    rw[Array.size_append,hsize]
    omega
  · rw[hold k hk]
    exact q2 k (λe=>hM (by rw[hfp,e];simp))
  · rw[hhd,hfp];simp[Value.ownBlock]
  · rw[Array.length_toList,hFl,hll]
  · rw[hhd,hll]
  · rw[hold g hglt];exact q1
  · rw[hll];exact h1
  · simp[putCells,h3]
  · rw[hll,<-hFl];exact qmu hFc
  · rw[hF];exact hch
theorem qkl{tid:TypeId}{e:Ty}(hb:e.isBare=true){w:World}{H:FH}{l:List e.den}{φ:qB}(hobj:qK P w H ⟨true,.list true tid e,l⟩ φ):
    (l=[]/\φ.hdr = .slice none 0 0)\/∃g cap cur,φ.hdr = .slice (some ⟨g,0,none⟩) l.length cap/\φ.fp=[g]/\w.heap[g]? = some (.cells cur tid (0,0))/\l.length<=cap/\cap<=maxLen/\cur.size=cap*e.size/\cur.toList.take (l.length*e.size)=(l.map (qao e)).flatten:=by
  obtain⟨hdr,xs,fp',e1,e2,ho,hch⟩:=hobj.row_list
  obtain⟨hx,rfl⟩:=qhs hb hch
  subst hx
  have e1:φ.hdr=hdr:=by simpa using e1
  rcases ho.2 with⟨hv0,hz⟩|⟨g,cap,cur,hv1,_,hg,h1,h2,h3,h4⟩
  · exact .inl ⟨List.eq_nil_of_length_eq_zero hz,by rw[e1,hv0]⟩
  · exact .inr ⟨g,cap,cur,by rw[e1,hv1],by rw[e2,hv1];simp[Value.ownBlock],hg,h1,h2,h3,h4⟩
end
end Go.Vi
namespace Go.Proofs
open Go.Shelf
def Try.sortP_ren:Go.Shelf.Ren:=⟨fun|6=>40|15=>58|14=>57|28=>75|29=>76|20=>67|21=>68|22=>69|23=>70|24=>71|25=>72|26=>73|27=>74|46=>78|47=>79|48=>80|49=>81|50=>82|57=>85|n=>n,fun|22=>100|24=>102|25=>105|3=>3|39=>143|0=>0|53=>162|55=>164|4=>4|46=>155|45=>154|50=>159|5=>5|9=>9|66=>168|70=>172|76=>178|77=>179|n=>n,fun|n=>n⟩
theorem Try.sortP:Go.Proofs.SlLaysF0.n6 Try.prog Try.sortP_ren:={
  mixed:=by kernel_rfl
  f6:=⟨Try.f40.name,by decide,Try.func40.trans (congrArg some (by kernel_rfl))⟩
  f14:=⟨Try.f57.name,by decide,Try.func57.trans (congrArg some (by kernel_rfl))⟩
  f15:=Try.func58.trans (congrArg some (by kernel_rfl))
  f20:=⟨Try.f67.name,by decide,Try.func67.trans (congrArg some (by kernel_rfl))⟩
  f21:=⟨Try.f68.name,by decide,Try.func68.trans (congrArg some (by kernel_rfl))⟩
  f22:=⟨Try.f69.name,by decide,Try.func69.trans (congrArg some (by kernel_rfl))⟩
  f23:=⟨Try.f70.name,by decide,Try.func70.trans (congrArg some (by kernel_rfl))⟩
  f24:=⟨Try.f71.name,by decide,Try.func71.trans (congrArg some (by kernel_rfl))⟩
  f25:=⟨Try.f72.name,by decide,Try.func72.trans (congrArg some (by kernel_rfl))⟩
  f26:=⟨Try.f73.name,by decide,Try.func73.trans (congrArg some (by kernel_rfl))⟩
  f27:=⟨Try.f74.name,by decide,Try.func74.trans (congrArg some (by kernel_rfl))⟩
  f28:=Try.func75.trans (congrArg some (by kernel_rfl))
  f29:=Try.func76.trans (congrArg some (by kernel_rfl))
  f46:=⟨Try.f78.name,by decide,Try.func78.trans (congrArg some (by kernel_rfl))⟩
  f47:=Try.func79.trans (congrArg some (by kernel_rfl))
  f48:=Try.func80.trans (congrArg some (by kernel_rfl))
  f49:=⟨Try.f81.name,by decide,Try.func81.trans (congrArg some (by kernel_rfl))⟩
  f50:=⟨Try.f82.name,by decide,Try.func82.trans (congrArg some (by kernel_rfl))⟩
  f57:=⟨Try.f85.name,by decide,Try.func85.trans (congrArg some (by kernel_rfl))⟩
  t0:=Try.underlying0
  a0:=Try.isAgg0
  z0:=Try.sizeOf0
  v0:=Try.zeroValue0
  t3:=Try.underlying3
  a3:=Try.isAgg3
  z3:=Try.sizeOf3
  v3:=Try.zeroValue3
  t4:=Try.underlying4
  a4:=Try.isAgg4
  z4:=Try.sizeOf4
  v4:=Try.zeroValue4
  t5:=Try.underlying5
  a5:=Try.isAgg5
  z5:=Try.sizeOf5
  v5:=Try.zeroValue5
  t9:=Try.underlying9
  a9:=Try.isAgg9
  z9:=Try.sizeOf9
  v9:=Try.zeroValue9
  t22:=Try.underlying100
  a22:=Try.isAgg100
  z22:=Try.sizeOf100
  v22:=Try.zeroValue100
  t25:=Try.underlying105
  a25:=Try.isAgg105
  z25:=Try.sizeOf105
  v25:=Try.zeroValue105
  t39:=Try.underlying143
  a39:=Try.isAgg143
  z39:=Try.sizeOf143
  v39:=Try.zeroValue143
  t45:=Try.underlying154
  a45:=Try.isAgg154
  z45:=Try.sizeOf154
  v45:=Try.zeroValue154
  t46:=Try.underlying155
  a46:=Try.isAgg155
  z46:=Try.sizeOf155
  v46:=Try.zeroValue155
  t50:=Try.underlying159
  a50:=Try.isAgg159
  z50:=Try.sizeOf159
  v50:=Try.zeroValue159
  t53:=Try.underlying162
  a53:=Try.isAgg162
  z53:=Try.sizeOf162
  v53:=Try.zeroValue162
  t55:=Try.underlying164
  a55:=Try.isAgg164
  z55:=Try.sizeOf164
  v55:=Try.zeroValue164
  t66:=Try.underlying168
  a66:=Try.isAgg168
  z66:=Try.sizeOf168
  v66:=Try.zeroValue168
  t70:=Try.underlying172
  a70:=Try.isAgg172
  z70:=Try.sizeOf172
  v70:=Try.zeroValue172
  t76:=Try.underlying178
  a76:=Try.isAgg178
  z76:=Try.sizeOf178
  v76:=Try.zeroValue178
  t77:=Try.underlying179
  a77:=Try.isAgg179
  z77:=Try.sizeOf179
  v77:=Try.zeroValue179}
end Go.Proofs
