/- A heap in a list, plain. No condition beyond those typed in each theorem. -/
namespace Go.Proofs.Try.V.Cv
abbrev Pt:=Int×Int
abbrev Stp:=Pt×Pt
def K(c:Int×Int):Int:=c.1*1000000+c.2
def gs(l:List Stp)(i:Nat):Stp:=l.getD i ((0,0),(0,0))
def ky(l:List Stp)(i:Nat):Int:=K (gs l i).2
def qbl(l:List Stp)(i k:Nat):List Stp:=(l.set i (gs l k)).set k (gs l i)
theorem gs_at{l:List Stp}{i:Nat}(h:i<l.length):l[i]? = some (gs l i):=by
 unfold gs
 rw[List.getD_eq_getElem?_getD,List.getElem?_eq_getElem h]
 rfl
theorem qiL{l:List Stp}{i:Nat}(h:i<l.length):gs l i=l[i]:=by
 have:=gs_at h
 rw[List.getElem?_eq_getElem h]at this
 exact(Option.some.inj this).symm
theorem qaY(l:List Stp)(i k:Nat):(qbl l i k).length=l.length:=by simp[qbl]
theorem qhN{l:List Stp}{i k:Nat}(hi:i<l.length)(hk:k<l.length)(t:Nat):gs (qbl l i k) t=if t=k then gs l i else if t=i then gs l k else gs l t:=by
 unfold qbl
 show((l.set i (gs l k)).set k (gs l i)).getD t _=_
 rw[List.getD_eq_getElem?_getD,List.getElem?_set,List.getElem?_set]
 simp only[List.length_set]
 by_cases h1:t=k
 ·subst h1
  simp[hk]
 ·by_cases h2:t=i
  ·subst h2
   rw[if_neg (λe=>h1 e.symm),if_pos rfl,if_neg h1,if_pos rfl]
   simp[hi]
  ·rw[if_neg (λe=>h1 e.symm),if_neg (λe=>h2 e.symm),if_neg h1,if_neg h2]
   unfold gs
   rw[List.getD_eq_getElem?_getD]
theorem qkA{l:List Stp}{i k:Nat}(hi:i<l.length)(hk:k<l.length)(t:Nat):ky (qbl l i k) t=if t=k then ky l i else if t=i then ky l k else ky l t:=by
 unfold ky
 rw[qhN hi hk]
 split
 ·rfl
 ·split<;>rfl
theorem qcj{l:List Stp}{i k:Nat}(hi:i<l.length)(hk:k<l.length):(qbl l i k).Perm l:=by
 have h:=Array.swap_perm (xs:=l.toArray) (i:=i) (j:=k) (by simpa using hi) (by simpa using hk)
 have h2:=h.toList
 have e:(l.toArray.swap i k (by simpa using hi) (by simpa using hk)).toList=qbl l i k:=by
  apply List.ext_getElem?
  intro t
  simp only[Array.getElem?_toList,qbl,qiL hi,qiL hk]
  rw[Array.getElem?_swap]
  simp only[List.getElem_toArray,List.getElem?_toArray,List.size_toArray]
  rw[List.getElem?_set,List.getElem?_set]
  simp only[List.length_set]
  by_cases h1:k=t
  ·subst h1
   by_cases h3:i=k
   ·subst h3;simp[hi]
   ·simp[h3,hk]
  ·by_cases h2:i=t
   ·subst h2;simp[hi,h1]
   ·simp[h1,h2]
 rw[e]at h2
 simpa using h2
def qeX(l:List Stp)(n:Nat):Prop:=∀i,0<i->i<n->ky l ((i-1)/2)<=ky l i
theorem qeX.root{l:List Stp}{n:Nat}(h:qeX l n):∀i,i<n->ky l 0<=ky l i
 |0,_=>Int.le_refl _
 |i+1,hi=>Int.le_trans (h.root ((i+1-1)/2) (by omega)) (h (i+1) (by omega) hi)
decreasing_by omega
def upA:Nat->List Stp->Nat->List Stp
 |0,l,_=>l
 |m+1,l,j=>if j=0 then l else if ¬ky l j<ky l ((j-1)/2)then l else upA m (qbl l ((j-1)/2) j) ((j-1)/2)
def ql7(l:List Stp)(j:Nat):Prop:=(∀i,0<i->i<l.length->i≠j->ky l ((i-1)/2)<=ky l i)/\∀i,0<i->i<l.length->(i-1)/2=j->0<j->ky l ((j-1)/2)<=ky l i
theorem ql7.step{l:List Stp}{j:Nat}(h:ql7 l j)(hj:j<l.length)(h0:0<j)(hlt:ky l j<ky l ((j-1)/2)):ql7 (qbl l ((j-1)/2) j) ((j-1)/2):=by
 obtain⟨h1,h2⟩:=h
 obtain⟨p,hp⟩:∃p,p=(j-1)/2:=⟨_,rfl⟩
 rw[<-hp]at hlt ⊢
 have hpj:p<j:=by omega
 have hpl:p<l.length:=by omega
 have e:∀t,ky (qbl l p j) t=if t=j then ky l p else if t=p then ky l j else ky l t:=qkA hpl hj
 refine⟨λi hi hil hip=>?_,λi hi hil hip hp0=>?_⟩
 ·rw[qaY]at hil
  rw[e,e]
  by_cases hij:i=j
  ·subst hij
   rw[<-hp,if_neg (by omega),if_pos rfl,if_pos rfl]
   omega
  ·have h3:=h1 i hi hil hij
   rw[if_neg hij,if_neg hip]
   by_cases hq:(i-1)/2=j
   ·rw[if_pos hq]
    have:=h2 i hi hil hq h0
    rw[<-hp]at this
    exact this
   ·rw[if_neg hq]
    by_cases hq2:(i-1)/2=p
    ·rw[if_pos hq2]
     rw[hq2]at h3
     omega
    ·rw[if_neg hq2]
     exact h3
 ·rw[qaY]at hil
  rw[e,e,if_neg (show ¬(p-1)/2=j by omega),if_neg (show ¬(p-1)/2=p by omega)]
  have h4:=h1 p hp0 hpl (by omega)
  by_cases hij:i=j
  ·rw[if_pos hij]
   exact h4
  ·rw[if_neg hij,if_neg (by omega)]
   have h5:=h1 i hi hil hij
   rw[hip]at h5
   omega
theorem upA_ok:∀(m:Nat) {l:List Stp} {j:Nat},j<m->j<l.length->ql7 l j->qeX (upA m l j) l.length/\(upA m l j).Perm l
 |0,_,_,h,_,_=>by omega
 |m+1,l,j,hm,hj,h=>by
  unfold upA
  split
  ·rename_i h0
   exact⟨λi hi hil=>h.1 i hi hil (by omega),List.Perm.refl _⟩
  ·rename_i h0
   split
   ·rename_i hn
    refine⟨λi hi hil=>?_,List.Perm.refl _⟩
    by_cases hij:i=j
    ·subst hij;omega
    ·exact h.1 i hi hil hij
   ·rename_i hn
    have hlt:ky l j<ky l ((j-1)/2):=by
     rcases Int.lt_or_le (ky l j) (ky l ((j-1)/2))with h|h
     ·exact h
     ·exact absurd (by omega) hn
    have hs:=h.step hj (by omega) hlt
    have hl:=qaY l ((j-1)/2) j
    obtain⟨r1,r2⟩:=upA_ok m (l:=qbl l ((j-1)/2) j) (j:=(j-1)/2) (by omega) (by rw[hl];omega) hs
    rw[hl]at r1
    exact⟨r1,r2.trans (qcj (by omega) hj)⟩
theorem qgj{l:List Stp}{x:Stp}{i:Nat}(h:i<l.length):gs (l++[x]) i=gs l i:=by
 unfold gs
 rw[List.getD_eq_getElem?_getD,List.getD_eq_getElem?_getD,List.getElem?_append_left h]
theorem push_inv{l:List Stp}(h:qeX l l.length)(x:Stp):ql7 (l++[x]) l.length:=by
 have hl:(l++[x]).length=l.length+1:=by simp
 refine⟨λi hi hil hne=>?_,λi hi hil hq h0=>?_⟩
 ·unfold ky
  rw[qgj (by omega),qgj (by omega)]
  exact h i hi (by omega)
 ·omega
theorem push_ok{l:List Stp}(h:qeX l l.length)(x:Stp):qeX (upA (l.length+2) (l++[x]) l.length) (l.length+1)/\(upA (l.length+2) (l++[x]) l.length).Perm (x::l):=by
 have hl:(l++[x]).length=l.length+1:=by simp
 obtain⟨h1,h2⟩:=upA_ok (l.length+2) (l:=l++[x]) (j:=l.length) (by omega) (by omega) (push_inv h x)
 rw[hl]at h1
 exact⟨h1,h2.trans (List.perm_append_singleton _ _)⟩
def chd(l:List Stp)(n i:Nat):Nat:=if 2*i+2<n/\ky l (2*i+2)<ky l (2*i+1)then 2*i+2 else 2*i+1
def dnA:Nat->List Stp->Nat->Nat->List Stp
 |0,l,_,_=>l
 |m+1,l,i,n=>if n<=2*i+1 then l else if ¬ky l (chd l n i)<ky l i then l else dnA m (qbl l i (chd l n i)) (chd l n i) n
def qmb(l:List Stp)(n i:Nat):Prop:=(∀k,0<k->k<n->(k-1)/2≠i->ky l ((k-1)/2)<=ky l k)/\(0<i->∀k,0<k->k<n->(k-1)/2=i->ky l ((i-1)/2)<=ky l k)
theorem qlU(l:List Stp){n i:Nat}(h:2*i+1<n):chd l n i<n/\(chd l n i-1)/2=i/\0<chd l n i/\∀k,0<k->k<n->(k-1)/2=i->ky l (chd l n i)<=ky l k:=by
 unfold chd
 split
 ·rename_i hc
  refine⟨by omega,by omega,by omega,λk hk hkn hq=>?_⟩
  have:k=2*i+1\/k=2*i+2:=by omega
  rcases this with rfl|rfl
  ·omega
  ·exact Int.le_refl _
 ·rename_i hc
  refine⟨by omega,by omega,by omega,λk hk hkn hq=>?_⟩
  have:k=2*i+1\/k=2*i+2:=by omega
  rcases this with rfl|rfl
  ·exact Int.le_refl _
  ·rcases Int.lt_or_le (ky l (2*i+2)) (ky l (2*i+1))with h|h
   ·exact absurd ⟨hkn,h⟩ hc
   ·exact h
theorem qmb.step{l:List Stp}{n i j:Nat}(h:qmb l n i)(hn:n<=l.length)(hjn:j<n)(hji:(j-1)/2=i)(hj0:0<j)(hmin:∀k,0<k->k<n->(k-1)/2=i->ky l j<=ky l k)(hlt:ky l j<ky l i):qmb (qbl l i j) n j:=by
 obtain⟨h1,h2⟩:=h
 have hij:i<j:=by omega
 have e:∀t,ky (qbl l i j) t=if t=j then ky l i else if t=i then ky l j else ky l t:=qkA (by omega) (by omega)
 refine⟨λk hk hkn hq=>?_,λ_ k hk hkn hq=>?_⟩
 ·rw[e,e,if_neg hq]
  by_cases hqi:(k-1)/2=i
  ·rw[if_pos hqi]
   by_cases hkj:k=j
   ·rw[if_pos hkj];omega
   ·rw[if_neg hkj,if_neg (by omega)]
    exact hmin k hk hkn hqi
  ·rw[if_neg hqi,if_neg (by intro e;rw[e]at hqi;exact hqi hji)]
   by_cases hki:k=i
   ·rw[if_pos hki]
    subst hki
    exact h2 hk j hj0 hjn hji
   ·rw[if_neg hki]
    exact h1 k hk hkn hqi
 ·rw[e,e,hji,if_neg (by omega),if_pos rfl,if_neg (by omega),if_neg (by omega)]
  have:=h1 k hk hkn (by omega)
  rw[hq]at this
  exact this
theorem dnA_ok:∀(m:Nat) {l:List Stp} {i n:Nat},n<m+i->n<=l.length->i<=n->qmb l n i->qeX (dnA m l i n) n/\(dnA m l i n).Perm l/\∀t,n<=t->gs (dnA m l i n) t=gs l t
 |0,_,_,_,h,_,_,_=>by omega
 |m+1,l,i,n,hm,hn,hin,h=>by
  unfold dnA
  split
  ·rename_i h0
   refine⟨λk hk hkn=>h.1 k hk hkn (by omega),List.Perm.refl _,λ_ _=>rfl⟩
  ·rename_i h0
   obtain⟨c1,c2,c3,c4⟩:=qlU l (n:=n) (i:=i) (by omega)
   split
   ·rename_i hnl
    refine⟨λk hk hkn=>?_,List.Perm.refl _,λ_ _=>rfl⟩
    by_cases hq:(k-1)/2=i
    ·have:=c4 k hk hkn hq
     rw[hq]
     omega
    ·exact h.1 k hk hkn hq
   ·rename_i hnl
    have hlt:ky l (chd l n i)<ky l i:=by
     rcases Int.lt_or_le (ky l (chd l n i)) (ky l i)with h|h
     ·exact h
     ·exact absurd (by omega) hnl
    have hs:=h.step hn c1 c2 c3 c4 hlt
    have hl:=qaY l i (chd l n i)
    obtain⟨r1,r2,r3⟩:=dnA_ok m (l:=qbl l i (chd l n i)) (i:=chd l n i) (n:=n) (by omega) (by rw[hl];exact hn) (by omega) hs
    refine⟨r1,r2.trans (qcj (by omega) (by omega)),λt ht=>?_⟩
    rw[r3 t ht,qhN (by omega) (by omega),if_neg (by omega),if_neg (by omega)]
theorem pop_ok{l:List Stp}(h:qeX l l.length){n:Nat}(hl:l.length=n+1):∃l2,l2=dnA (n+2) (qbl l 0 n) 0 n/\l2.length=n+1/\gs l2 n=gs l 0/\qeX (l2.take n) n/\l.Perm (gs l 0::l2.take n)/\∀y∈l,K (gs l 0).2<=K y.2:=by
 have hsl:=qaY l 0 n
 have e:∀t,ky (qbl l 0 n) t=if t=n then ky l 0 else if t=0 then ky l n else ky l t:=qkA (by omega) (by omega)
 have hd:qmb (qbl l 0 n) n 0:=by
  refine⟨λk hk hkn hq=>?_,λh=>by omega⟩
  rw[e,e,if_neg (by omega),if_neg hq,if_neg (by omega),if_neg (by omega)]
  exact h k hk (by omega)
 obtain⟨r1,r2,r3⟩:=dnA_ok (n+2) (l:=qbl l 0 n) (i:=0) (n:=n) (by omega) (by omega) (by omega) hd
 refine⟨_,rfl,?_,?_,?_,?_,?_⟩
 ·rw[r2.length_eq,hsl,hl]
 ·rw[r3 n (Nat.le_refl _),qhN (by omega) (by omega),if_pos rfl]
 ·intro i hi hin
  have ht:∀t,t<n->ky ((dnA (n+2) (qbl l 0 n) 0 n).take n) t=ky (dnA (n+2) (qbl l 0 n) 0 n) t:=λt ht=>by
   unfold ky gs
   rw[List.getD_eq_getElem?_getD,List.getD_eq_getElem?_getD,List.getElem?_take,if_pos ht]
  rw[ht _ (by omega),ht _ hin]
  exact r1 i hi hin
 ·obtain⟨l2,hl2⟩:∃l2,l2=dnA (n+2) (qbl l 0 n) 0 n:=⟨_,rfl⟩
  rw[<-hl2]at r2 ⊢
  have hlen:l2.length=n+1:=by rw[r2.length_eq,hsl,hl]
  have hg:gs l2 n=gs l 0:=by
   rw[hl2,r3 n (Nat.le_refl _),qhN (by omega) (by omega),if_pos rfl]
  have e2:l2=l2.take n++[gs l 0]:=by
   conv=>lhs;rw[<-List.take_append_drop n l2]
   congr 1
   rw[List.drop_eq_getElem_cons (by omega),List.drop_of_length_le (by omega),<-hg,qiL (by omega)]
  have p2:l.Perm l2:=(qcj (by omega) (by omega)).symm.trans r2.symm
  rw[e2]at p2
  have e3:(l2.take n++[gs l 0]).take n=l2.take n:=by
   rw[List.take_append_of_le_length (by rw[List.length_take];omega),List.take_take,Nat.min_self]
  exact p2.trans (List.perm_append_singleton _ _)
 ·intro y hy
  obtain⟨i,hi,rfl⟩:=List.getElem_of_mem hy
  have:=h.root i hi
  unfold ky at this
  rw[qiL (i:=i) hi]at this
  exact this
end Go.Proofs.Try.V.Cv
