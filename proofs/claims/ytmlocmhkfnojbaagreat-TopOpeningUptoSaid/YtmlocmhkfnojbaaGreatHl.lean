/- The layout of the library's sort of places. No condition. -/
import Derived.Test.YtmlocmhkfnojbaaGreatWy2
import Derived.LoopN
import Derived.Ground.SlsfProg
import Derived.Ground.NamesProg
import Derived.Shelf.SlSortCmp.InsertionK
import Derived.Shelf.SlSortCmp.WholeK
import Derived.Test.YtmlocmhkfnojbaaGreatVi40
namespace Go.Vi
open Go.Proofs Go.Shelf Go.Sort Go.RowKit
section
variable {P:Program} {ρ:Ren}
def jw:(τ:Ty)->τ.den->List Value
  |.int k,x=>[.int k x]
  |.bool,b=>[.bool b]
  |.pair a b,x=>jw a x.1++jw b x.2
  |.str t,x=>jw t x
  |_,_=>[]
theorem ZG:(τ:Ty)->τ.aM=true->∀{w:World} {H:FH} {x:τ.den} {cs:List Value} {fp:List Nat},qm P τ w H x cs fp->cs=jw τ x/\fp=[]
  |.int _,_,_,_,_,_,_,h=>h
  |.bool,_,_,_,_,_,_,h=>h
  |.pair a b,hb,_,_,_,_,_,h=>by
    simp only[Ty.aM,Bool.and_eq_true]at hb
    obtain⟨c1,c2,f1,f2,rfl,rfl,h1,h2⟩:=h
    obtain⟨rfl,rfl⟩:=ZG a hb.1 h1
    obtain⟨rfl,rfl⟩:=ZG b hb.2 h2
    exact⟨rfl,rfl⟩
  |.str t,hb,_,_,_,_,_,h=>ZG t hb h
theorem RP:(τ:Ty)->τ.aM=true->∀(w:World) (H:FH) (x:τ.den),qm P τ w H x (jw τ x) []
  |.int _,_,_,_,_=>⟨rfl,rfl⟩
  |.bool,_,_,_,_=>⟨rfl,rfl⟩
  |.pair a b,hb,w,H,x=>by
    simp only[Ty.aM,Bool.and_eq_true]at hb
    exact⟨_,_,[],[],rfl,rfl,RP a hb.1 w H x.1,RP b hb.2 w H x.2⟩
  |.str t,hb,w,H,x=>RP t hb w H x
theorem qh1{e:Ty}(hb:e.aM=true){w:World}{H:FH}:∀{l:List e.den} {xs:List Value} {fp:List Nat},qd (qm P e w H) l xs fp->xs=(l.map (jw e)).flatten/\fp=[]
  |[],_,_,⟨h1,h2⟩=>⟨h1,h2⟩
  |_::l,_,_,⟨c,xs',f,aC,e1,e2,h1,h2⟩=>by
    obtain⟨h3,h4⟩:=qh1 hb h2
    obtain⟨h5,h6⟩:=ZG e hb h1
    rw[e1,e2,h3,h4,h5,h6]
    exact⟨by simp,rfl⟩
theorem qh3{e:Ty}(hb:e.aM=true)(w:World)(H:FH):∀(l:List e.den),qd (qm P e w H) l (l.map (jw e)).flatten []
  |[]=>⟨rfl,rfl⟩
  |x::l=>⟨jw e x,(l.map (jw e)).flatten,[],[],by simp,rfl,RP e hb w H x,qh3 hb w H l⟩
theorem qhP{k:Nat}:∀(l:List (List Value)),(∀x∈l,x.length=k)->∀t,t<l.length*k->l.flatten[t]? = (l[t/k]?).bind (·[t%k]?)
  |[],_,t,h=>by simp at h
  |c::r,hk,t,h=>by
    have hc:=hk c (by simp)
    have hk0:0<k:=by
      rcases Nat.eq_zero_or_pos k with h0|h0
      · rw[h0]at h;simp at h
      · exact h0
    rw[List.flatten_cons]
    by_cases ht:t<k
    · rw[List.getElem?_append_left (by omega),Nat.div_eq_of_lt ht,Nat.mod_eq_of_lt ht]
      rfl
    · obtain⟨s,rfl⟩:∃s,t=k+s:=⟨t-k,by omega⟩
      rw[List.getElem?_append_right (by omega),hc,Nat.add_sub_cancel_left,Nat.add_mod_left,Nat.add_div_left s hk0,List.getElem?_cons_succ]
      refine qhP r (λx hx=>hk x (by simp[hx])) s ?_
      rw[List.length_cons,Nat.add_mul]at h
      omega
theorem qjq{α:Type}[Inhabited α](enc:α->List Value){k:Nat}(hk:∀x,(enc x).length=k)(d:Array α):(flatK enc k d).toList=(d.toList.map enc).flatten:=by
  have hl:(d.toList.map enc).flatten.length=d.size*k:=by
    have:∀l:List α,(l.map enc).flatten.length=l.length*k:=λl=>by
      induction l with
      |nil=>simp
      |cons x l ih=>rw[List.map_cons,List.flatten_cons,List.length_append,ih,hk,List.length_cons,Nat.add_mul];omega
    rw[this,Array.length_toList]
  apply List.ext_getElem?
  intro t
  by_cases ht:t<d.size*k
  · have hk0:0<k:=by
      rcases Nat.eq_zero_or_pos k with h0|h0
      · rw[h0]at ht;simp at ht
      · exact h0
    have hd:t/k<d.size:=Nat.div_lt_of_lt_mul (by rwa[Nat.mul_comm])
    have hm:t%k<(enc d[t/k]).length:=by rw[hk];exact Nat.mod_lt _ hk0
    rw[qhP _ (by simpa using λx _=>hk x) t (by simpa using ht)]
    have h1:(flatK enc k d).toList[t]? = some (flatK enc k d)[t]!:=by
      rw[Array.getElem?_toList,getElem!_pos _ t (by simpa using ht)]
      exact Array.getElem?_eq_getElem _
    rw[h1,get_flatK enc k d t ht,getElem!_pos d (t/k) hd,getElem!_pos (enc d[t/k]) (t%k) hm]
    simp only[List.getElem?_map,Array.getElem?_toList,Array.getElem?_eq_getElem hd,Option.map_some,Option.bind_some,List.getElem?_eq_getElem hm]
  · rw[List.getElem?_eq_none (by simpa using ht),List.getElem?_eq_none (by rw[hl];omega)]
theorem qm4{cur F:Array Value}(h:F.size<=cur.size):(putCells id 0 F cur).toList.take F.size=F.toList:=by
  apply List.ext_getElem?
  intro k
  rw[List.getElem?_take]
  by_cases hk:k<F.size
  · rw[if_pos hk]
    have h1:k<cur.size:=by omega
    simp[putCells,hk,h1,Nat.sub_zero]
  · rw[if_neg hk]
    rw[List.getElem?_eq_none (by simpa using hk)]
theorem GV{tid:TypeId}{e:Ty}(hb:e.aM=true){w:World}{H:FH}{l l':List e.den}{φ:qH}{g cap:Nat}{cur F:Array Value}(bh:qR P w H ⟨true,.list true tid e,l⟩ φ)(uP:φ.ax = .slice (some ⟨g,0,none⟩) l.length cap)(bl:φ.fp=[g])
    (hg:w.heap[g]? = some (.cells cur tid (0,0))) (h1:l.length<=cap) (h2:cap<=maxLen) (h3:cur.size=cap*e.size) (IF:l'.length=l.length) (hF:F.toList=(l'.map (jw e)).flatten) (n:Nat) (os:Array Go.Obj):
    jO (· ∈φ.fp) w (grow (putRow id (Sort.ahead w n) g 0 F) os)/\qR P (grow (putRow id (Sort.ahead w n) g 0 F) os) H ⟨true,.list true tid e,l'⟩ φ:=by
  have uQ:(Sort.ahead w n).heap[g]? = some (.cells cur tid (0,0)):=hg
  obtain⟨q1,q2⟩:=qfb id (Sort.ahead w n) g F uQ
  have hsize:(putRow id (Sort.ahead w n) g 0 F).heap.size=w.heap.size:=by simp[putRow,mapBlock,Sort.ahead]
  have hold:∀k,k<w.heap.size->(grow (putRow id (Sort.ahead w n) g 0 F) os).heap[k]? = (putRow id (Sort.ahead w n) g 0 F).heap[k]?:=λk hk=>by
    show((putRow id (Sort.ahead w n) g 0 F).heap++os)[k]? = _
    rw[Array.getElem?_append_left (by rw[hsize];exact hk)]
  have abn:g<w.heap.size:=(Array.getElem?_eq_some_iff.1 hg).1
  have hch:qd (qm P e (grow (putRow id (Sort.ahead w n) g 0 F) os) H) l' (l'.map (jw e)).flatten []:=qh3 hb _ _ l'
  have hFl:F.size=l.length*e.size:=by
    rw[<-Array.length_toList,hF,<-IF]
    have:=qd.length (n:=e.size) (λ_ _ _ hh=>qm.length e hh) hch
    exact this
  have hFc:F.size<=cur.size:=by rw[hFl,h3];exact Nat.mul_le_mul_right _ h1
  refine⟨⟨rfl,rfl,rfl,?_,λk hk hM=>?_⟩,qR.eX bh.1 bh.2.1 ⟨φ.ax,F.toList,[],rfl,?_,⟨?_,.inr ⟨g,cap,putCells id 0 F cur,?_,Nat.zero_le _,?_,?_,h2,?_,?_⟩⟩,?_⟩⟩
  · show _<=((putRow id (Sort.ahead w n) g 0 F).heap++os).size
    rw[Array.size_append,hsize]
    omega
  · rw[hold k hk]
    exact q2 k (λe=>hM (by rw[bl,e];simp))
  · rw[uP,bl];simp[Value.ownBlock]
  · rw[Array.length_toList,hFl,IF]
  · rw[uP,IF]
  · rw[hold g abn];exact q1
  · rw[IF];exact h1
  · simp[putCells,h3]
  · rw[IF,<-hFl];exact qm4 hFc
  · rw[hF];exact hch
theorem qkN{tid:TypeId}{e:Ty}(hb:e.aM=true){w:World}{H:FH}{l:List e.den}{φ:qH}(bh:qR P w H ⟨true,.list true tid e,l⟩ φ):
    (l=[]/\φ.ax = .slice none 0 0)\/∃g cap cur,φ.ax = .slice (some ⟨g,0,none⟩) l.length cap/\φ.fp=[g]/\w.heap[g]? = some (.cells cur tid (0,0))/\l.length<=cap/\cap<=maxLen/\cur.size=cap*e.size/\cur.toList.take (l.length*e.size)=(l.map (jw e)).flatten:=by
  obtain⟨ax,xs,aC,e1,e2,ho,hch⟩:=bh.dz
  obtain⟨hx,rfl⟩:=qh1 hb hch
  subst hx
  have e1:φ.ax=ax:=by simpa using e1
  rcases ho.2 with⟨nW,hz⟩|⟨g,cap,cur,uK,_,hg,h1,h2,h3,h4⟩
  · exact .inl ⟨List.eq_nil_of_length_eq_zero hz,by rw[e1,nW]⟩
  · exact .inr ⟨g,cap,cur,by rw[e1,uK],by rw[e2,uK];simp[Value.ownBlock],hg,h1,h2,h3,h4⟩
end
end Go.Vi
namespace Go.Proofs
open Go.Shelf
def Tryz.xH:Go.Shelf.Ren:=⟨fun|6=>56|15=>78|14=>77|28=>104|29=>105|20=>96|21=>97|22=>98|23=>99|24=>100|25=>101|26=>102|27=>103|46=>113|47=>114|48=>115|49=>116|50=>117|57=>118|n=>n,fun|22=>129|24=>131|25=>134|3=>3|39=>169|0=>0|53=>193|55=>195|4=>4|46=>187|45=>186|50=>80|5=>5|9=>9|66=>204|70=>208|76=>210|77=>211|n=>n,fun|n=>n⟩
theorem Tryz.Tj:Go.Proofs.SlLaysF0.n6 Tryz.prog Tryz.xH:={
  mixed:=by kernel_rfl
  f6:=⟨Tryz.f56.name,by decide,Tryz.func56.trans (congrArg some (by kernel_rfl))⟩
  f14:=⟨Tryz.f77.name,by decide,Tryz.func77.trans (congrArg some (by kernel_rfl))⟩
  f15:=Tryz.func78.trans (congrArg some (by kernel_rfl))
  f20:=⟨Tryz.f96.name,by decide,Tryz.func96.trans (congrArg some (by kernel_rfl))⟩
  f21:=⟨Tryz.f97.name,by decide,Tryz.func97.trans (congrArg some (by kernel_rfl))⟩
  f22:=⟨Tryz.f98.name,by decide,Tryz.func98.trans (congrArg some (by kernel_rfl))⟩
  f23:=⟨Tryz.f99.name,by decide,Tryz.func99.trans (congrArg some (by kernel_rfl))⟩
  f24:=⟨Tryz.f100.name,by decide,Tryz.func100.trans (congrArg some (by kernel_rfl))⟩
  f25:=⟨Tryz.f101.name,by decide,Tryz.func101.trans (congrArg some (by kernel_rfl))⟩
  f26:=⟨Tryz.f102.name,by decide,Tryz.func102.trans (congrArg some (by kernel_rfl))⟩
  f27:=⟨Tryz.f103.name,by decide,Tryz.func103.trans (congrArg some (by kernel_rfl))⟩
  f28:=Tryz.func104.trans (congrArg some (by kernel_rfl))
  f29:=Tryz.func105.trans (congrArg some (by kernel_rfl))
  f46:=⟨Tryz.f113.name,by decide,Tryz.func113.trans (congrArg some (by kernel_rfl))⟩
  f47:=Tryz.func114.trans (congrArg some (by kernel_rfl))
  f48:=Tryz.func115.trans (congrArg some (by kernel_rfl))
  f49:=⟨Tryz.f116.name,by decide,Tryz.func116.trans (congrArg some (by kernel_rfl))⟩
  f50:=⟨Tryz.f117.name,by decide,Tryz.func117.trans (congrArg some (by kernel_rfl))⟩
  f57:=⟨Tryz.f118.name,by decide,Tryz.func118.trans (congrArg some (by kernel_rfl))⟩
  t0:=Tryz.underlying0
  a0:=Tryz.isAgg0
  z0:=Tryz.sizeOf0
  v0:=Tryz.zeroValue0
  t3:=Tryz.underlying3
  a3:=Tryz.isAgg3
  z3:=Tryz.sizeOf3
  v3:=Tryz.zeroValue3
  t4:=Tryz.underlying4
  a4:=Tryz.isAgg4
  z4:=Tryz.sizeOf4
  v4:=Tryz.zeroValue4
  t5:=Tryz.underlying5
  a5:=Tryz.isAgg5
  z5:=Tryz.sizeOf5
  v5:=Tryz.zeroValue5
  t9:=Tryz.underlying9
  a9:=Tryz.isAgg9
  z9:=Tryz.sizeOf9
  v9:=Tryz.zeroValue9
  t22:=Tryz.underlying129
  a22:=Tryz.isAgg129
  z22:=Tryz.sizeOf129
  v22:=Tryz.zeroValue129
  t25:=Tryz.underlying134
  a25:=Tryz.isAgg134
  z25:=Tryz.sizeOf134
  v25:=Tryz.zeroValue134
  t39:=Tryz.underlying169
  a39:=Tryz.isAgg169
  z39:=Tryz.sizeOf169
  v39:=Tryz.zeroValue169
  t45:=Tryz.underlying186
  a45:=Tryz.isAgg186
  z45:=Tryz.sizeOf186
  v45:=Tryz.zeroValue186
  t46:=Tryz.underlying187
  a46:=Tryz.isAgg187
  z46:=Tryz.sizeOf187
  v46:=Tryz.zeroValue187
  t50:=Tryz.underlying80
  a50:=Tryz.isAgg80
  z50:=Tryz.sizeOf80
  v50:=Tryz.zeroValue80
  t53:=Tryz.underlying193
  a53:=Tryz.isAgg193
  z53:=Tryz.sizeOf193
  v53:=Tryz.zeroValue193
  t55:=Tryz.underlying195
  a55:=Tryz.isAgg195
  z55:=Tryz.sizeOf195
  v55:=Tryz.zeroValue195
  t66:=Tryz.underlying204
  a66:=Tryz.isAgg204
  z66:=Tryz.sizeOf204
  v66:=Tryz.zeroValue204
  t70:=Tryz.underlying208
  a70:=Tryz.isAgg208
  z70:=Tryz.sizeOf208
  v70:=Tryz.zeroValue208
  t76:=Tryz.underlying210
  a76:=Tryz.isAgg210
  z76:=Tryz.sizeOf210
  v76:=Tryz.zeroValue210
  t77:=Tryz.underlying211
  a77:=Tryz.isAgg211
  z77:=Tryz.sizeOf211
  v77:=Tryz.zeroValue211}
end Go.Proofs
