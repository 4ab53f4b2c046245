import Derived.Test.YtfpjecjadlgdcaaGreatDoorPtTopBounds8
set_option linter.unusedVariables false
set_option linter.unusedSimpArgs false
set_option linter.defProp false
namespace Go.Proofs.YtfpjecjadlgdcaaGreatDoor
open Go.RowKit
def A3(L:List Oper)(c:Nat)(B:Array Bool→Bool):List (Nat×Nat)→Array Bool→Bool
 |[],a=>B a
 |(i,k)::r,a=>match k with
  |0=>decide (Region.ready .any L.toArray a=[i])&&A3 L c B r (a.setIfInBounds i true)
  |1=>(Region.ready .any L.toArray a).contains i&&Region.free .any L.toArray a i&&decide (i≠c)&&decide (i≠L.length)&&A3 L c B r (a.setIfInBounds i true)
  |2=>(Region.ready .any L.toArray a).contains i&&Region.free .any L.toArray a i&&decide (i≠c)&&decide (i≠L.length)&&ie L c i&&A3 L c B r (a.setIfInBounds i true)
  |_=>false
theorem Ji{P:Program}{L:List Oper}{c n0:Nat}{Sw Ss:World→Prop}{Q Q':Act→World→Prop}{Bc:Array Bool→Bool}(F:Region.noSelect L.toArray=true)
  (m:∀(ph:Bool) (b:Array Bool) (a:Act) (w:World),Bc b=true→Cls L b→b.getD c false=ph→SG c L.length Sw Ss b w→Q' a w→I4 P L.toArray (fun e a w=>e=.normal∧Q a w) (SG c L.length Sw Ss) n0 b a w):
  ∀(ord:List (Nat×Nat)) (ph:Bool) (b:Array Bool) (a:Act) (w:World),A3 L c Bc ord b=true→Cls L b→(b.getD c false=ph)→SG c L.length Sw Ss b w→Jf P L c L.length Sw Ss Q' ph ord a w→
   I4 P L.toArray (fun e a w=>e=.normal∧Q a w) (SG c L.length Sw Ss) (ord.length+n0) b a w
 |[],ph,b,a,w,y,u,p,hS,h=>by
  rw[Lt,Nb];exact m ph b a w y u p hS h
 |(i,0)::r,ph,b,a,w,y,u,p,hS,⟨o,B,h⟩=>by
  simp only[A3,JL,OD]at y
  obtain⟨K,J⟩:=y;have g:i∈Region.ready .any L.toArray b:=by rw[K];simp
  have I:=u.put g;have H:i<L.length:=(K0.1 B).1;have d:(b.setIfInBounds i true).getD c false=(ph||Nat.beq i c):=by
   cases e:Nat.beq i c with
   |true=>
    obtain rfl:=MB e;have:=u.size;simp[Js,show i<b.size by omega]
   |false=>
    have f:i≠c:=fun h=>by subst h;rw[My]at e;cases e
    rw[qX f,p,JX]
  rw[Lm,Mv];refine⟨fun S=>(by rw[S]at g;cases g),fun j G=>?_⟩;rw[K,L0]at G
  subst G;have s:L.toArray[j]?=some o:=by simpa using B
  unfold wpOp;simp only[s];split
  ·rename_i D
   rw[OK D]at h
   refine .inl (Jj (fun x a w f hf=>absurd hf.1 f) (Ng (fun T w' M=>⟨fun _=>⟨M.1,fun C=>M.2.1 (d▸C)⟩,Ji F m r _ _ _ _ J I d (fun _=>⟨M.1,fun C=>M.2.1 (d▸C)⟩) M.2.2⟩) h))
  ·rename_i D
   rw[OJ D]at h
   exact⟨fun _=>⟨h.1,fun C=>h.2.1 (d▸C)⟩,Ji F m r _ _ _ _ J I d (fun _=>⟨h.1,fun C=>h.2.1 (d▸C)⟩) h.2.2⟩
 |(i,1)::r,ph,b,a,w,y,u,p,hS,⟨o,v,B,N,h⟩=>by
  simp only[A3,JL,OD]at y
  obtain⟨⟨⟨⟨h1,h2⟩,f⟩,q⟩,h3⟩:=y;have g:i∈Region.ready .any L.toArray b:=by simpa using h1
  have s:L.toArray[i]?=some o:=by simpa using B
  have d:(b.setIfInBounds i true).getD c false=ph:=by rw[qX f];exact p
  have H:i<L.length:=(K0.1 B).1;have E:b.getD i false=false:=by
   have:=(OM.1 g).1;have O:=u.size;rw[qY O7]at this
   simpa using this
  have A:∀l:Array Bool,Cls L l→l.getD L.length false=false:=fun l t=>by
   have:=t.size;simp[Js,Ju (show l.size≤L.length by omega)]
  rw[Lm,Mv];exact I5 s (Nt F) (fun _ _ _ h=>by cases h.1) (fun l=>Cls L l∧l.getD i false=false) (fun l j t z G=>⟨t.1.put G,by rw[qX z];exact t.2⟩) (fun l w=>dI f q l w) (r.length+n0) b a w ⟨u,E⟩ (Ns s h2) g
   (Jn N fun w ⟨l,t,D⟩=>(D (A l t.1)).1) hS (Ji F m r ph _ _ _ h3 (u.put g) d ((dI f q _ _).2 hS) h)
 |(i,2)::r,ph,b,a,w,y,u,p,hS,⟨o,v,B,N,h⟩=>by
  simp only[A3,JL,OD]at y
  obtain⟨⟨⟨⟨⟨h1,h2⟩,f⟩,q⟩,R⟩,h3⟩:=y;have g:i∈Region.ready .any L.toArray b:=by simpa using h1
  have s:L.toArray[i]?=some o:=by simpa using B
  have d:(b.setIfInBounds i true).getD c false=ph:=by rw[qX f];exact p
  have H:i<L.length:=(K0.1 B).1;have E:b.getD i false=false:=by
   have:=(OM.1 g).1;have O:=u.size;rw[qY O7]at this
   simpa using this
  have A:∀l:Array Bool,Cls L l→l.getD L.length false=false:=fun l t=>by
   have:=t.size;simp[Js,Ju (show l.size≤L.length by omega)]
  rw[Lm,Mv];exact I5 s (Nt F) (fun _ _ _ h=>by cases h.1) (fun l=>Cls L l∧l.getD i false=false) (fun l j t z G=>⟨t.1.put G,by rw[qX z];exact t.2⟩) (fun l w=>dI f q l w) (r.length+n0) b a w ⟨u,E⟩ (Ns s h2) g
   (Jn N fun w ⟨l,t,D⟩=>(D (A l t.1)).2 (ig R t.1 t.2)) hS (Ji F m r ph _ _ _ h3 (u.put g) d ((dI f q _ _).2 hS) h)
 |(i,k+3)::r,ph,b,a,w,y,u,p,hS,_=>by simp[A3]at y
def AT(P:Program)(ops:List Oper)(o:Oper)(a:Act)(w:World)(K:Act→World→Prop):Prop:=
 if Region.wanted o (yielded ops.toArray a.tmps)=true then o.wp P a w K (fun e _ _=>e=.normal)else K (a.put o.dst undef) w
def Bp(L:List Oper)(i c:Nat)(a:Array Bool):Bool:=
 (decide (Region.ready .any L.toArray a=[i,c])||decide (Region.ready .any L.toArray a=[c,i]))&&decide (Region.ready .any L.toArray (a.setIfInBounds i true)=[c])&&decide (Region.ready .any L.toArray (a.setIfInBounds c true)=[i])&&
  (Region.ready .any L.toArray ((a.setIfInBounds i true).setIfInBounds c true)).isEmpty&&(Region.ready .any L.toArray ((a.setIfInBounds c true).setIfInBounds i true)).isEmpty&&decide (i≠c)
def Bq(P:Program)(L:List Oper)(i c:Nat)(Sw Ss:World→Prop)(Q:Act→World→Prop)(a:Act)(w:World):Prop:=
 ∃oi oc,L[i]?=some oi∧L[c]?=some oc∧AT P L oi a w (fun d w'=>Sw w'∧Ss w'∧AT P L oc d w' (fun b w''=>Sw w''∧Q b w''))∧AT P L oc a w (fun d w'=>Sw w'∧True∧AT P L oi d w' (fun b w''=>Sw w''∧Q b w''))
theorem AV{P:Program}{L:List Oper}{i:Nat}{o:Oper}{Q:Act→World→Prop}{K K':Act→World→Prop}{a:Act}{w:World}(j:L[i]?=some o)(h:AT P L o a w K)(g:∀a w,K a w→K' a w):wpOp P L.toArray (fun e a w=>e=.normal∧Q a w) i K' a w:=by
 have d:L.toArray[i]?=some o:=by simpa using j
 unfold AT at h
 unfold wpOp;simp only[d];split
 ·rename_i b
  rw[OK b]at h
  exact .inl (Jj (fun x a w f hf=>absurd hf f) (Ng g h))
 ·rename_i b
  rw[OJ b]at h
  exact g _ _ h
theorem Br{P:Program}{L:List Oper}{i c:Nat}{Sw Ss:World→Prop}{Q:Act→World→Prop}(b:Array Bool)(a:Act)(w:World)(x:Bp L i c b=true)(E:Cls L b)(h:Bq P L i c Sw Ss Q a w):
  I4 P L.toArray (fun e a w=>e=.normal∧Q a w) (SG c L.length Sw Ss) 2 b a w:=by
 unfold Bp at x
 simp only[JL,JW,OD,Lk]at x
 obtain⟨⟨⟨⟨⟨h1,h2⟩,h3⟩,h4⟩,F⟩,u⟩:=x;obtain⟨oi,oc,m,f,k1,k2⟩:=h;have q:i∈Region.ready .any L.toArray b:=by rcases h1 with h1|h1<;>rw[h1]<;>simp
 have D:c∈Region.ready .any L.toArray b:=by rcases h1 with h1|h1<;>rw[h1]<;>simp
 have z:=E.size;have C:c<L.length:=(K0.1 f).1;have d:(b.setIfInBounds c true).getD c false=true:=by simp[Js,show c<b.size by omega]
 have last:∀(l:Array Bool) (j:Nat) (o:Oper) (g:Act) (w':World),L[j]?=some o→Region.ready .any L.toArray l=[j]→Region.ready .any L.toArray (l.setIfInBounds j true)=[]→(l.setIfInBounds j true).getD c false=true→AT P L o g w' (fun r w''=>Sw w''∧Q r w'')→
   I4 P L.toArray (fun e a w=>e=.normal∧Q a w) (SG c L.length Sw Ss) 1 l g w':=fun l j o g w' A y t B ho1=>by
  refine⟨fun s=>(by rw[y]at s;cases s),fun G p=>?_⟩;rw[y,L0]at p
  subst p;exact AV A ho1 fun r w'' hq=>⟨fun _=>⟨hq.1,fun k=>by rw[B]at k;cases k⟩,t,rfl,hq.2⟩
 refine⟨fun s=>(by rw[s]at q;cases q),fun j p=>?_⟩;have v:j=i∨j=c:=by rcases h1 with h1|h1<;>rw[h1]at p<;>simp at p<;>omega
 rcases v with rfl|rfl
 ·refine AV m k1 fun g w' hq=>⟨fun _=>⟨hq.1,fun _=>hq.2.1⟩,last _ c oc g w' f h2 h4 ?_ hq.2.2⟩
  simp[Js,show c<b.size by omega]
 ·refine AV f k2 fun g w' hq=>⟨fun _=>⟨hq.1,fun k=>by rw[d]at k;cases k⟩,last _ i oi g w' m h3 F ?_ hq.2.2⟩
  rw[qX u];exact d
section
variable {P:Program}{Q:Exit→Act→World→Prop}{n:Nat}{σ:Sg}{w:World}{L:List Oper}{i c:Nat}{Sw Ss:World→Prop}
def c9(P:Program)(L:List Oper)(i c:Nat)(Sw Ss:World→Prop)(Q:Exit→Act→World→Prop):Exit→Act→World→Prop:=fun x a w=>x=.normal∧Bq P L i c Sw Ss (fun a w=>Q .normal a w) a w
theorem aI{id:Nat}(i c:Nat)(Sw Ss:World→Prop)(ord:List (Nat×Nat))(l:P.follows .mixedOrders=true)(d:(Region.noSelect L.toArray&&decide (ord.length+2=L.length)&&A3 L c (Bp L i c) ord (Array.replicate L.length false))=true)(g:Sw (drew w))(hS:Ss (drew w))
  (h:HP P L c L.length Sw Ss (c9 P L i c Sw Ss Q) false ord n σ (drew w)):CW P (.region id L.toArray true) Q n σ w:=by
 unfold CW;unfold HP at h;intro a s
 simp only[JL,OD]at d
 obtain⟨⟨j,m⟩,d⟩:=d;have f:∀k,(Array.replicate L.length false).getD k false=false:=fun k=>by
  simp[Js,Jy];split<;>rfl
 have h1:=Ji (n0:=2) (Bc:=Bp L i c) (Q:=fun a w=>Q .normal a w) j (fun ph b a w r q _ _ hq=>Br b a w r q hq.2) ord false (Array.replicate L.length false) a (Go.Proofs.YtfpjecjadlgdcaaGreatDoor.drew w) d ⟨by simp,fun k o e=>by rw[f k]at e;cases e⟩ (f c) (fun _=>⟨g,fun _=>hS⟩) (h a s);rw[m]at h1
 have h2:(Code.region id L.toArray true).wp P (fun x a w=>x=.normal∧Q .normal a w) a w:=O5 l (by simpa using I8 _ _ _ _ h1);exact O4 h2 (fun x t w' ⟨p,hq⟩=>by subst p;exact hq)
theorem AU{o:Oper}{K:Act→World→Prop}{a:Act}(h:wpList P L.toArray (fun x a w=>x=.normal∧K a w) [o] a w):AT P L o a w K:=by
 simp only[wpList]at h
 unfold AT;split
 ·rename_i b
  rw[OK b]at h
  rcases h with h2|⟨_,f⟩
  ·refine Ng (fun j w' g=>g.2) (Jj (fun x a w d hf=>absurd hf.1 d) h2)
  ·obtain⟨_,_,e⟩:=f
   exact absurd e.1 O_
 ·rename_i b
  rw[OJ b]at h
  exact h.2
def dR(P:Program)(L:List Oper)(Sw S1:World→Prop)(o:Oper)(Q:Exit→Act→World→Prop):Exit→Act→World→Prop:=fun x a w=>x=.normal∧Sw w∧S1 w∧AT P L o a w (fun a w=>Sw w∧Q .normal a w)
def bD(Sw:World→Prop)(Q:Exit→Act→World→Prop):Exit→Act→World→Prop:=fun x a w=>x=.normal∧Sw w∧Q .normal a w
theorem EX.pair{oi oc:Oper}(hi:Ab L i=some oi)(b:Ab L c=some oc)(h1:WL P L (dR P L Sw Ss oc Q) [oi] n σ w)(h2:WL P L (dR P L Sw (fun _=>True) oi Q) [oc] n σ w):EX (c9 P L i c Sw Ss Q) .normal n σ w:=by
 unfold EX;unfold WL at h1 h2
 intro a d
 rw[Ac]at hi b
 exact⟨rfl,oi,oc,hi,b,AU (h1 a d),AU (h2 a d)⟩
theorem bx{S1:World→Prop}{o:Oper}(b:Sw w)(d:S1 w)(h:WL P L (bD Sw Q) [o] n σ w):EX (dR P L Sw S1 o Q) .normal n σ w:=by
 unfold EX;unfold WL at h
 exact fun a e=>⟨rfl,b,d,AU (h a e)⟩
theorem aW(b:Sw w)(h:EX Q .normal n σ w):EX (bD Sw Q) .normal n σ w:=by
 unfold EX at*
 exact fun a d=>⟨rfl,b,h a d⟩
theorem HP.app1f{α:Type}[Rep α]{x0:α}{bytes:Nat}{F:Nat→Prop}{e i z d d1:Nat}{ty ty1:TypeId}{pos pos1:String}{af af1:Array Edge}{g g1:Option (Nat×Bool)}{t et:TypeId}{x y:Operand}{rest:List (Nat×Nat)}{v u:Value}{xs:List α}{yv:α}{B:Nat}{wc:World}
  (ho1:Ab L z=some ⟨some d1,.buildSlice t 1 [(0,y)].toArray,ty1,pos1,af1,g1⟩) (O:Ab L i=some ⟨some d,.call ⟨.builtin .append,#[x,.tmp d1],#[t,t]⟩,ty,pos,af,g⟩)
  (G:Nat.beq z c=false) (E:Nat.beq i c=false)
  (H:gd L σ ⟨some d1,.buildSlice t 1 [(0,y)].toArray,ty1,pos1,af1,g1⟩=some true) (J:Nat.ble (d1+1) n=true)
  (I:∀u,gd L ((d1,.slice u 1 1)::σ) ⟨some d,.call ⟨.builtin .append,#[x,.tmp d1],#[t,t]⟩,ty,pos,af,g⟩=some true) (hd:Nat.ble (d+1) n=true)
  (K:ev σ y=some u) (M:∀u,ev ((d1,.slice u 1 1)::σ) x=some v) [V:IsS P t et] [U:IsT P et α] [T:IsZ P et x0 bytes] (o:Own wc B et F v xs) (N:Rd wc F u yv) (S:B≤wc.heap.size) (hF:∀b,F b→b<wc.heap.size)
  (A:sz α≤16777216) (R:xs.length+1≤maxLen) (q:(xs.length+1)*bytes≤140737488355328) (hS:∀w',wc.grownBy w' v.ownBlock→Sw w'∧Ss w')
  (h:∀m w' p,Own w' B et F m (xs++[yv])→wc.grownBy w' v.ownBlock→(∀g,m.ownBlock=some g→v.ownBlock=some g∨wc.heap.size≤g)→HP P L c e Sw Ss Q false rest n ((d,m)::(d1,.slice p 1 1)::σ) w'):
  HP P L c e Sw Ss Q false ((z,0)::(i,0)::rest) n σ wc:=by
 refine HP.mut ho1 ?_;rw[G];refine WL.lit (vs:=[u]) (ys:=[yv]) H J rfl (by simp[FA,nL,K]) rfl ⟨N,trivial⟩ (by simpa using A) hF (fun s ho1 a=>?_);have f:wc.heap.size≤s.heap.size:=a.size;have l:Own s B et F v xs:=o.kept a (fun _ _ h=>by cases h) fun b q=>⟨hF b q,fun h=>by cases h⟩
 have g2:wc.grownBy s v.ownBlock:=⟨a.os,a.tape,a.output,a.size,fun k r _=>a.block k r (fun h=>by cases h)⟩;refine WL.nil (ba (ph:=false||false) (hS _ g2).1 (fun _=>(hS _ g2).2) ?_);refine HP.mut O ?_;rw[E];refine WL.app (ys:=[yv]) (I _) hd (M _) pU l ho1.src (MN S f) (fun b q=>MQ (hF b q) f) (by simpa using R) (by simpa using q) (fun m w' C j hnb=>?_);have g3:wc.grownBy w' v.ownBlock:=⟨j.os.trans a.os,j.tape.trans a.tape,j.output.trans a.output,MN f j.size,fun k r D=>(j.block k (MQ r f) D).trans (a.block k r (fun h=>by cases h))⟩;exact WL.nil (ba (ph:=false||false||false) (hS _ g3).1 (fun _=>(hS _ g3).2) (h m w' _ C g3 (fun g I=>(hnb g I).imp id (fun h=>MN f h))))
end
section
variable {P:Program}{Q:Exit→Act→World→Prop}{n:Nat}{σ:Sg}{w:World}{L rest:List Oper}{α:Type}[Rep α]{F:Nat→Prop}{e:TypeId}{ty:TypeId}{pos:String}{af:Array Edge}{g:Option (Nat×Bool)}
theorem fA{x y:Operand}{u:Value}{B b off cap:Nat}{xs:List α}{yv:α}{i:Nat}(z:gd L σ ⟨none,.store e x y,ty,pos,af,g⟩=some true)
  (q:ev σ x=some (.pointer (some ⟨b,off+i*sz α,none⟩))) (p:ev σ y=some u) [D:IsT P e α] (c:Own w B e F (.slice (some ⟨b,off,none⟩) xs.length cap) xs) (h1:i<xs.length) (r:Rd w F u yv)
  (h:∀w',Own w' B e F (.slice (some ⟨b,off,none⟩) xs.length cap) (xs.set i yv)→w.grownBy w' (some b)→WL P L Q rest n σ w'):WL P L Q (⟨none,.store e x y,ty,pos,af,g⟩::rest) n σ w:=by
 rcases c with⟨m,d⟩|⟨E,off',cap',cur,m,t⟩
 ·subst d;simp at h1
 ·obtain⟨j,_,f⟩:=Oi m
  cases j;subst f
  obtain⟨w',s,k,l⟩:=Ee (P:=P) (v:=u) (i:=i) t h1 r;refine fp z (fun a o=>?_) (h w' k l);have C:=o.ev q;have A:=o.ev p;simp[execOp,C,A,Instr.storeAt,Instr.sureAddr,s]
end
theorem qm(k n:Int)(t:Ltl)(m:cW):(qz k n t m).1.length+(qz k n t m).2.length≤m.1.length+m.2.length+1:=by
 unfold qz;split
 ·dsimp only;split<;>simp;omega
 ·split
  ·dsimp only;split<;>simp;omega
  ·omega
mutual
theorem ql:∀(t:Ltl) (m:cW),(qi t m).1.length+(qi t m).2.length≤m.1.length+m.2.length+t.nodes
 |.mk k n kids,m=>by
  simp only[qi,Ltl.nodes];have h1:=qm k n (.mk k n kids) m;have h2:=qu kids (qz k n (.mk k n kids) m);omega
theorem qu:∀(l:List Ltl) (m:cW),(qr l m).1.length+(qr l m).2.length≤m.1.length+m.2.length+Ltl.nodesL l
 |[],m=>by simp[qr]
 |x::r,m=>by
  simp only[qr,Ltl.nodesL];have h1:=ql x m;have h2:=qu r (qi x m);omega
end
theorem qy{kids:List Ltl}{m:cW}{i:Nat}(h:i<kids.length):qr (kids.take (i+1)) m=qi kids[i] (qr (kids.take i) m):=by
 have:∀(l:List Ltl) (m:cW) (x:Ltl),qr (l++[x]) m=qi x (qr l m):=by
  intro l
  induction l with
  |nil=>intro m x;simp[qr]
  |cons y r a=>intro m x;simp only[Kl,qr];exact a _ x
 rw[Mo h,this]
theorem qp(k n:Int)(kids:List Ltl)(m:cW):qi (.mk k n kids) m=qr kids (qz k n (.mk k n kids) m):=by simp only[qi]
structure MkO(w:World)(B:Nat)(F:Nat→Prop)(sb:Nat)(av pv:Value)(m:cW):Prop where
 blk:Blk w sb 212 [av,pv]
 a:Own w B 3 cZ av m.1
 p:Own w B 32 F pv m.2
 ge:B≤sb
 na:∀g,av.ownBlock=some g→g≠sb
 np:∀g,pv.ownBlock=some g→g≠sb
 nap:∀g,av.ownBlock=some g→pv.ownBlock≠some g
 hF:∀b,F b→b<B
def yU(sb:Nat)(av pv:Value):Nat→Prop:=fun b=>b=sb∨av.ownBlock=some b∨pv.ownBlock=some b
theorem MkO.ext{w w':World}{B:Nat}{F:Nat→Prop}{sb:Nat}{av pv:Value}{m:cW}(h:MkO w B F sb av pv m)(d:B≤w.heap.size)(a:Ext w w'):MkO w' B F sb av pv m:=
 ⟨h.blk.ext a,h.a.extN a,h.p.ext a (fun b c=>MQ (h.hF b c) d),h.ge,h.na,h.np,h.nap,h.hF⟩
theorem MkO.lo{w:World}{B:Nat}{F:Nat→Prop}{sb:Nat}{av pv:Value}{m:cW}(h:MkO w B F sb av pv m):∀b,yU sb av pv b→B≤b∧b<w.heap.size:=fun b c=>by
 rcases c with a|a|a
 ·have:=h.ge;have:=h.blk.lt;omega
 ·exact⟨(h.a.lt b a).1,(h.a.lt b a).2.1⟩
 ·exact⟨(h.p.lt b a).1,(h.p.lt b a).2.1⟩
theorem MkO.rd{w:World}{B:Nat}{F:Nat→Prop}{sb:Nat}{av pv:Value}{m:cW}(h:MkO w B F sb av pv m)(i:B≤w.heap.size):MkA w sb m:=by
 obtain⟨ao,ac,rfl,h1⟩:=h.a.oldN.sl;obtain⟨a,c,rfl,h2⟩:=h.p.slF (F':=c7 w) (fun b f=>MQ (h.hF b f) i) (fun g d=>(h.p.lt g d).2.1);exact⟨ao,ac,a,c,h.blk,h1,h2⟩
theorem E1{l:List Ltl}{x y:Ltl}:(l++[x]).set l.length y=l++[y]:=by
 rw[List.set_append_right _ _ Pu];simp
set_option maxHeartbeats 4000000 in
theorem qD:∀(d:Nat) (t:Ltl),t.nodes≤d→IG t→∀(w:World) {B sb:Nat} {F:Nat→Prop} {av pv:Value} {m:cW} {ko:Option Addr} {kc:Nat},MkO w B F sb av pv m→B≤w.heap.size→Sl w F ko kc t.kids→m.1.length+m.2.length+t.nodes≤1000→
  Rt Tryz.prog 113 [Pz sb,ym t.k t.n ko t.kids.length kc].toArray w fun v w'=>∃av' pv',MkO w' B F sb av' pv' (qi t m)∧Chg (yU sb av pv) w w'∧(∀g,av'.ownBlock=some g→av.ownBlock=some g∨w.heap.size≤g)∧∀g,pv'.ownBlock=some g→pv.ownBlock=some g∨w.heap.size≤g:=by
 intro d
 induction d with
 |zero=>intro t h;have:=t.nodes_pos;omega
 |succ d ih=>
  rintro⟨k,n,kids⟩ hd hwf w B sb F av pv m ko kc hM hB hk hsz
  simp only[Ltl.k,Ltl.n,Ltl.kids]at hk⊢
  have hkl:=w_ hwf;have hlo:=hM.lo;have hF:=hM.hF;refine dE Tryz.func113 Tryz.ntmps113 rfl rfl ?_;rw[qp];have hlen1:=qm k n (.mk k n kids) m;refine PB ?_;refine dX rfl rfl rfl fun H hb3 e1=>?_
  have l3:=hb3.lt;have y1:=e1.size;have Y:=hM.ext hB e1;apply WL.nil;apply bz;refine aB (S:=Value×Value) (fun s=>[(0,Pz sb),(3,Pz w.heap.size)])
   (fun s w'=>MkO w' B F sb s.1 s.2 (qz k n (.mk k n kids) m)∧Chg (yU sb av pv) H w'∧(∀g,s.1.ownBlock=some g→av.ownBlock=some g∨H.heap.size≤g)∧∀g,s.2.ownBlock=some g→pv.ownBlock=some g∨H.heap.size≤g) ?_ ?_
  ·have skip:∀(A:World) (e2:Ext H A),qz k n (.mk k n kids) m=m→MkO A B F sb av pv (qz k n (.mk k n kids) m)∧Chg (yU sb av pv) H A∧(∀g,av.ownBlock=some g→av.ownBlock=some g∨H.heap.size≤g)∧∀g,pv.ownBlock=some g→pv.ownBlock=some g∨H.heap.size≤g:=fun A e2 W=>by
    rw[W];exact⟨Y.ext O7 e2,Chg.of_ext _ e2,fun g f=>.inl f,fun g f=>.inl f⟩
   by_cases h3:k=3
   ·have W:qz k n (.mk k n kids) m=(if n∈m.1 then m.1 else m.1++[n],m.2):=by unfold qz;rw[OK h3]
    subst h3;obtain⟨ao,ac,hav,h1⟩:=Y.a.oldN.sl;subst hav;have hD:=Ext.drew H;have hSE:∀z,(fun z:World=>Ext (drew H) z) z→Ext (drew H) z:=fun _ h=>h
    have hblkd:=Y.blk.ext hD;have hb3d:=hb3.ext hD;refine Qz ?_;refine aF (fun z:World=>Ext (drew H) z) [(0,true),(1,true),(2,true),(3,true),(4,true),(5,true),(6,false),(7,true)] mixed O8 Pw ?_;refine RK ?_;refine cr rfl (WL.call rfl rfl rfl (kH (drew H) n (h1.up hD)) ?_);rintro _ A ⟨rfl,e2⟩
    refine WL.nil (a_ e2 ?_);have G:Ext H A:=hD.trans e2;cases hc:m.1.contains n with
    |true=>
     have hin:n∈m.1:=by simpa using hc
     rw[OK hin]at W
     refine RR ?_;refine Q2 ?_;exact aU (.slice ao m.1.length ac,pv) O6 (skip A G W)
    |false=>
     have hin:n∉m.1:=by simpa using hc
     rw[OJ hin]at W
     refine RR ?_;have a:=Y.ext O7 G;have J:=a.blk;have V:=hb3.ext G;have z12:=G.size;have lsb:=J.lt;have y:=Ext.drew A;have O:=J.ext y;have hb3d2:=V.ext y;have hna:=a.na;have hnap:=a.nap;have E:=a.lo;have hK5:∀u,(fun x:World=>x.heap[w.heap.size]?=(drew A).heap[w.heap.size]?∧x.heap[sb]?=(drew A).heap[sb]?) u→u.heap[w.heap.size]?=(drew A).heap[w.heap.size]?:=fun _ h=>h.1
     have hKs:∀u,(fun x:World=>x.heap[w.heap.size]?=(drew A).heap[w.heap.size]?∧x.heap[sb]?=(drew A).heap[sb]?) u→u.heap[sb]?=(drew A).heap[sb]?:=fun _ h=>h.2
     have K:∀g,(Value.slice ao m.1.length ac).ownBlock=some g→g≠w.heap.size:=fun g f=>by have:=(hlo g (.inr (.inl f))).2;omega
     refine Ra ?_;refine aE (fun x:World=>x.heap[w.heap.size]?=(drew A).heap[w.heap.size]?∧x.heap[sb]?=(drew A).heap[sb]?) [(0,true),(1,true),(2,true),(3,true),(4,true),(5,true),(6,true),(7,false),(8,false),(9,false),(10,false)] 11 mixed O8 ⟨rfl,rfl⟩ ?_;refine RJ ?_;refine bV (α:=Int) (F:=cZ) (bytes:=8) (yv:=n) rfl rfl rfl rfl Pg rfl rfl Pg (a.a.extN y) Pt (by have:=y.size;omega) Pj O9 Pb O7
      (fun z hz=>⟨hz.block _ (by have:=y.size;omega) (fun e=>K _ e.symm rfl),hz.block _ (by have:=y.size;omega) (fun e=>hna _ e.symm rfl)⟩) (fun cl Z q5 ho5 C D=>?_)
     obtain⟨lo',lc',rfl⟩:=ho5.val;have R:=O.kept C (fun e=>hna _ e.symm rfl);have T:Z.heap[w.heap.size]?=(drew A).heap[w.heap.size]?∧Z.heap[sb]?=(drew A).heap[sb]?:=⟨C.block _ (by have:=y.size;omega) (fun e=>K _ e.symm rfl),C.block _ (by have:=y.size;omega) (fun e=>hna _ e.symm rfl)⟩;refine cr rfl (fh rfl rfl rfl (WL.nil (a_ T ?_)));refine cr rfl (eG rfl rfl rfl (WL.nil (a_ T (HL.nil ?_))));refine bp rfl (WL.st rfl rfl rfl R rfl rfl Pr (fun w6 I p=>WL.nil (bu ?_)));have hC6:Chg (yU sb (.slice ao m.1.length ac) pv) H w6:=(((Chg.of_ext (yU sb (.slice ao m.1.length ac) pv) (G.trans y)).grown C (fun g f=>.inr (.inl f)))).grown p Pp;have hp6:Own w6 B 32 F pv m.2:=((a.p.ext y (fun b j=>by have:=hF b j;omega)).kept C (fun g f e=>hnap g e.symm f) (fun b j=>⟨by have:=hF b j;have:=y.size;omega,fun e=>by have:=(E b (.inr (.inl e.symm))).1;have:=hF b j;omega⟩)).kept p (fun g f e=>a.np g f (Nn e)) (fun b j=>⟨by have:=hF b j;have:=y.size;have:=C.size;omega,fun e=>by have:=Nn e;have:=hF b j;have:=a.ge;omega⟩);have z5:=C.size;have zd:=y.size;have hns:∀g,(Value.slice lo' (m.1++[n]).length lc').ownBlock=some g→g≠sb:=fun g f=>(D g f).elim (hna g) (fun h=>by omega)
     refine QZ ?_;refine aU (.slice lo' (m.1++[n]).length lc',pv) O6 ?_;rw[W];refine⟨⟨I,ho5.keptN p (fun g f e=>hns g f (Nn e)),hp6,a.ge,hns,a.np,fun g f hg2=>?_,hF⟩,hC6,fun g f=>(D g f).imp id (fun h=>by omega),fun g f=>.inl f⟩;rcases D g f with h|h
     ·exact hnap g h hg2
     ·have:=(E g (.inr (.inr hg2))).2;omega
   by_cases h7:k=7∨k=8∨k=9
   ·have W:qz k n (.mk k n kids) m=(m.1,if m.2.any (Eu (.mk k n kids))=true then m.2 else m.2++[.mk k n kids]):=by unfold qz;rw[OJ h3,OK h7]
    have b3:(k==3)=false:=by rw[Oo];exact h3
    have hkk:(k==7)=true∨((k==7)=false∧(k==8)=true)∨((k==7)=false∧(k==8)=false∧(k==9)=true):=by
     simp only[Oq,Oo];omega
    refine QX ?_;rw[b3];apply aw;rfl;refine az [(0,Pz sb),(3,Pz w.heap.size),(29,.bool true)] ?_ ?_
    ·refine Qt ?_
     rcases hkk with h|⟨h,h2⟩|⟨h,h2,h3⟩
     ·rw[h]
      refine P5 ?_;exact aS O6
     ·rw[h]
      refine QA ?_;rw[h2];refine P5 ?_;exact aS O6
     ·rw[h]
      refine QA ?_;rw[h2];refine QA ?_;rw[h3];skip;exact aS O6
    have hpart:=BG H (t:=.mk k n kids) (Y.rd O7) (hk.mono (w':=H) (fun b j=>e1.block b (by have:=hF b j;omega)) (fun b j=>by have:=hF b j;exact(show b<H.heap.size by omega)));refine Q7 ?_;refine WL.call rfl rfl rfl hpart ?_;rintro _ A ⟨rfl,G⟩
    have a:=Y.ext O7 G;have hany:=vl (Eu (.mk k n kids)) m.2;by_cases ha:m.2.any (Eu (.mk k n kids))=true
    ·rw[OK ha]at W
     rw[ha,OD]at hany
     have hlt:decide (BA m (.mk k n kids)<0)=false:=Oz (by unfold BA;omega);refine PN ?_;rw[hlt];refine Q2 ?_;exact aU (av,pv) O6 (skip A G W)
    ·rw[OJ ha]at W
     rw[JR]at ha
     rw[ha,OA]at hany
     have hlt:decide (BA m (.mk k n kids)<0)=true:=OC (by unfold BA;omega);refine PN ?_;rw[hlt];have J:=a.blk;have V:=hb3.ext G;have z12:=G.size;have lsb:=J.lt;have y:=Ext.drew A;have zd:(drew A).heap.size=A.heap.size:=rfl;have O:=J.ext y;have hb3d2:=V.ext y;have E:=a.lo;obtain⟨po,pc,rfl⟩:=a.p.val;have hpd:=a.p.ext y (fun b j=>by have:=hF b j;omega);have K:∀g,(Value.slice po m.2.length pc).ownBlock=some g→g≠w.heap.size:=fun g f=>by have:=(hlo g (.inr (.inr f))).2;omega
     have hKs:∀u,(fun x:World=>x.heap[sb]?=(drew A).heap[sb]?∧x.heap[w.heap.size]?=(drew A).heap[w.heap.size]?) u→u.heap[sb]?=(drew A).heap[sb]?:=fun _ h=>h.1
     have hK3:∀u,(fun x:World=>x.heap[w.heap.size]?=(drew A).heap[w.heap.size]?) u→u.heap[w.heap.size]?=(drew A).heap[w.heap.size]?:=fun _ h=>h
     refine Qu ?_;refine aI 9 12 (fun x:World=>x.heap[w.heap.size]?=(drew A).heap[w.heap.size]?) (fun x:World=>x.heap[sb]?=(drew A).heap[sb]?∧x.heap[w.heap.size]?=(drew A).heap[w.heap.size]?)
      (GZ 1 [(0,true),(1,true),(2,true),(4,true)]++(GZ 2 [(3,true),(5,true)]++((6,0)::(7,0)::(GZ 1 [(8,true),(10,true),(11,true)]++[])))) mixed O8 rfl ⟨rfl,rfl⟩ ?_
     refine HP.weak [(0,true),(1,true),(2,true),(4,true)] rfl ?_;refine RK ?_;refine cf hK3 rfl rfl rfl rfl hb3d2 rfl ?_;refine RQ ?_;refine bd ?_;refine HP.early [(3,true),(5,true)] rfl ?_;refine RS ?_;refine bd ?_;refine HP.app1f (α:=Ltl) (F:=F) (bytes:=40) (yv:=(.mk 0 0 []:Ltl)) rfl rfl rfl rfl rfl rfl Pg rfl rfl Pg hpd (Rd.mkLtl (kids:=[]) (Sl.zero _ _)) O7 (fun b j=>by have:=hF b j;omega) O9 Pb O7
      (fun z hz=>⟨hz.block _ O7 (fun e=>K _ e.symm rfl),hz.block _ O7 (fun e=>a.np _ e.symm rfl),hz.block _ O7 (fun e=>K _ e.symm rfl)⟩) (fun cl Z q5 ho5 C D=>?_)
     have z5:=C.size;obtain⟨g5,off,c5,rfl⟩:∃g5 off c5,cl=.slice (some ⟨g5,off,none⟩) (m.2++[(.mk 0 0 []:Ltl)]).length c5:=by
      rcases ho5 with⟨_,h⟩|⟨g,o,c,cur,h,_⟩
      ·simp at h
      ·exact⟨g,o,c,h⟩
     have hlt5:=(ho5.lt g5 rfl);have M:g5≠sb:=fun e=>(D g5 rfl).elim (fun h=>a.np g5 h e) (fun h=>by omega)
     have U:g5≠w.heap.size:=fun e=>(D g5 rfl).elim (fun h=>K g5 h e) (fun h=>by omega)
     have R:=O.kept C (fun e=>a.np _ e.symm rfl);have T:Z.heap[w.heap.size]?=(drew A).heap[w.heap.size]?:=C.block _ O7 (fun e=>K _ e.symm rfl);have hS5s:Z.heap[sb]?=(drew A).heap[sb]?:=C.block _ O7 (fun e=>a.np _ e.symm rfl);have hkF:∀{z:World},(∀b,F b→z.heap[b]?=w.heap[b]?)→Rd z F (ym k n ko kids.length kc) (Ltl.mk k n kids):=fun {z} hz=>Rd.mkLtl (hk.mono hz Pl)
     have hF5:∀b,F b→Z.heap[b]?=w.heap[b]?:=fun b j=>by
      have h1:=hF b j;exact(C.block b O7 (fun e=>by have:=(E b (.inr (.inr e.symm))).1;omega)).trans (((e1.trans G).trans y).block b O7)
     have hB5:B≤g5:=hlt5.1;refine HP.weak [(8,true),(10,true),(11,true)] rfl ?_;skip;refine ca (α:=Ltl) rfl rfl rfl rfl rfl O7 Pc ?_;rw[Kb];refine RT ?_;refine bd ?_;refine HP.nil ?_;have done:∀{z:World},Blk z sb 212 [av,.slice (some ⟨g5,off,none⟩) (m.2++[(.mk 0 0 []:Ltl)]).length c5]→Own z B 32 F (.slice (some ⟨g5,off,none⟩) (m.2++[(.mk 0 0 []:Ltl)]).length c5) ((m.2++[(.mk 0 0 []:Ltl)]).set m.2.length (.mk k n kids))→Own z B 3 cZ av m.1→Chg (yU sb av (.slice po m.2.length pc)) H z→
       MkO z B F sb av (.slice (some ⟨g5,off,none⟩) (m.2++[(.mk 0 0 []:Ltl)]).length c5) (qz k n (.mk k n kids) m)∧Chg (yU sb av (.slice po m.2.length pc)) H z∧(∀g,av.ownBlock=some g→av.ownBlock=some g∨H.heap.size≤g)∧∀g,(Value.slice (some ⟨g5,off,none⟩) (m.2++[(.mk 0 0 []:Ltl)]).length c5).ownBlock=some g→(Value.slice po m.2.length pc).ownBlock=some g∨H.heap.size≤g:=by
      intro z hbz hoz haz hcz
      rw[W];rw[E1]at hoz
      refine⟨⟨hbz,haz,?_,a.ge,a.na,fun g f=>by cases f;exact M,fun g f hg2=>?_,hF⟩,hcz,fun g f=>.inl f,fun g f=>(D g f).imp id (fun h=>by omega)⟩
      ·rw[show(m.2++[(.mk 0 0 []:Ltl)]).length=(m.2++[(.mk k n kids:Ltl)]).length by simp]at*
       exact hoz
      ·rcases D g hg2 with h|h
       ·exact a.nap g f h
       ·have:=(E g (.inr (.inl f))).2;omega
     have ha5:Own Z B 3 cZ av m.1:=(a.a.extN y).keptN C (fun g f e=>a.nap g f e.symm);have hC5:Chg (yU sb av (.slice po m.2.length pc)) H Z:=(Chg.of_ext (yU sb av (.slice po m.2.length pc)) (G.trans y)).grown C (fun g f=>.inr (.inr f));have hag5:∀g,av.ownBlock=some g→g≠g5:=fun g f e=>by
      subst e;rcases D g rfl with h|h
      ·exact a.nap g f h
      ·have:=(E g (.inr (.inl f))).2;omega
     have hgM:yU sb av (.slice po m.2.length pc) g5∨H.heap.size≤g5:=(D g5 rfl).imp (fun h=>.inr (.inr h)) (fun h=>by omega);refine EX.pair rfl rfl ?_ ?_
     ·refine fA (α:=Ltl) (i:=m.2.length) (yv:=(.mk k n kids:Ltl)) rfl rfl rfl ho5 O_ (hkF hF5) (fun w6 ho6 p=>WL.nil (bx ?_ ⟨?_,?_⟩ ?_))
      ·exact(p.block _ O7 (fun e=>U (Nn e).symm)).trans T
      ·exact(p.block _ O7 (fun e=>M (Nn e).symm)).trans hS5s
      ·exact(p.block _ O7 (fun e=>U (Nn e).symm)).trans T
      ·have I:=R.kept p (fun e=>M (Nn e).symm)
       refine WL.st rfl rfl rfl I rfl rfl Pr (fun w7 hblk7 N=>WL.nil (aW ?_ ?_))
       ·have z6:=p.size
        exact(N.block _ O7 (fun e=>by have:=Nn e;have:=hM.blk.lt;omega)).trans ((p.block _ O7 (fun e=>U (Nn e).symm)).trans T)
       ·refine QZ ?_
        refine aU (av,_) O6 (done hblk7 (ho6.kept N (fun g f e=>by cases f;exact M (Nn e)) (fun b j=>⟨by have:=hF b j;have:=p.size;omega,fun e=>by have:=Nn e;have:=hF b j;have:=a.ge;omega⟩)) ((ha5.keptN p (fun g f e=>hag5 g f (Nn e))).keptN N (fun g f e=>a.na g f (Nn e))) ?_);exact(hC5.then (Chg.of_grown p) (fun b j=>by cases j;exact hgM)).grown N Pp
     ·refine WL.st rfl rfl rfl R rfl rfl Pr (fun w6 I p=>WL.nil (bx ?_ trivial ?_))
      ·exact(p.block _ O7 (fun e=>by have:=Nn e;have:=(E sb (.inl rfl)).2;have:=hM.blk.lt;omega)).trans T
      ·have z6:=p.size
       have ho6:=ho5.kept p (fun g f e=>by cases f;exact M (Nn e)) (fun b j=>⟨by have:=hF b j;omega,fun e=>by have:=Nn e;have:=hF b j;have:=a.ge;omega⟩);refine fA (α:=Ltl) (i:=m.2.length) (yv:=(.mk k n kids:Ltl)) rfl rfl rfl ho6 O_ (hkF (fun b j=>(p.block b (by have:=hF b j;omega) (fun e=>by have:=Nn e;have:=hF b j;have:=a.ge;omega)).trans (hF5 b j))) (fun w7 ho7 N=>WL.nil (aW ?_ ?_))
       ·exact(N.block _ O7 (fun e=>U (Nn e).symm)).trans ((p.block _ O7 (fun e=>by have:=Nn e;have:=hM.blk.lt;omega)).trans T)
       ·refine QZ ?_
        refine aU (av,_) O6 (done (I.kept N (fun e=>M (Nn e).symm)) ho7 ((ha5.keptN p (fun g f e=>a.na g f (Nn e))).keptN N (fun g f e=>hag5 g f (Nn e))) ?_);exact(hC5.grown p Pp).then (Chg.of_grown N) (fun b j=>by cases j;exact hgM)
   ·have W:qz k n (.mk k n kids) m=m:=by unfold qz;rw[OJ h3,OJ h7]
    have b3:(k==3)=false:=by rw[Oo];exact h3
    have b7:(k==7)=false:=by rw[Oo];omega
    have b8:(k==8)=false:=by rw[Oo];omega
    have b9:(k==9)=false:=by rw[Oo];omega
    refine QX ?_;rw[b3];refine QA ?_;rw[b7];refine QA ?_;rw[b8];refine QA ?_;rw[b9];refine Q2 ?_;exact aU (av,pv) O6 (skip H Pw W)
  ·rintro⟨av1,pv1⟩ A ⟨a,hC2,na2,np2⟩
   dsimp only at a hC2 na2 np2⊢
   have z2:=hC2.size;have V:Blk A w.heap.size 32 [Py k,Py n,.slice ko kids.length kc]:=(hC2.block _ l3 (fun j=>by have:=(hlo _ j).2;omega)).trans hb3;have E:=a.lo;have hk2:Sl A F ko kc kids:=hk.mono (fun b j=>(hC2.block b (by have:=hF b j;omega) (fun hs=>by have:=(hlo b hs).1;have:=hF b j;omega)).trans (e1.block b (by have:=hF b j;omega))) Pl;have hmk:(qz k n (.mk k n kids) m).1.length+(qz k n (.mk k n kids) m).2.length+Ltl.nodesL kids≤1000:=by
    simp only[Ltl.nodes]at hsz;omega
   generalize qz k n (.mk k n kids) m=m1 at*
   refine QX ?_;refine CW.loop (S:=Nat×Value×Value) (fun s=>[(0,Pz sb),(49,.slice ko kids.length kc),(50,Py kids.length),(51,Py s.1)])
    (fun s w'=>s.1≤kids.length∧MkO w' B F sb s.2.1 s.2.2 (qr (kids.take s.1) m1)∧Chg (yU sb av1 pv1) A w'∧(∀g,s.2.1.ownBlock=some g→av1.ownBlock=some g∨A.heap.size≤g)∧∀g,s.2.2.ownBlock=some g→pv1.ownBlock=some g∨A.heap.size≤g) (fun s=>kids.length -s.1) (0,av1,pv1) O6
    ⟨Nc _,by simpa[qr]using a,Chg.refl _ _,fun g f=>.inl f,fun g f=>.inl f⟩ ?_
   rintro⟨i,cv,qv⟩ w3 ⟨hi,hM3,hC3,na3,np3⟩
   dsimp only at hi hM3 hC3 na3 np3⊢
   have z3:=hC3.size;have hlo3:=hM3.lo;have hk3:Sl w3 F ko kc kids:=hk2.mono (fun b j=>hC3.block b (by have:=hF b j;omega) (fun hs=>by have:=(E b hs).1;have:=hF b j;omega)) Pl;refine Qt ?_;apply CW.cond rfl<;>intro h
   ·have X:i<kids.length:=by simp at h;omega
    have hwk:=IL hwf X;have hnk:=zT hd X;have hlen3:=qu (kids.take i) m1;have htk:=qy (m:=m1) X;have hnn:Ltl.nodesL (kids.take i)+kids[i].nodes≤Ltl.nodesL kids:=by
     have:∀(l:List Ltl) (i:Nat) (h:i<l.length),Ltl.nodesL (l.take i)+l[i].nodes≤Ltl.nodesL l:=by
      intro l
      induction l with
      |nil=>intro i h;simp at h
      |cons x r ih2=>
       intro i h
       cases i with
       |zero=>simp[Ltl.nodesL]
       |succ i=>
        have:=ih2 i (by simpa using h);simp only[Mn,Ltl.nodesL,K9];omega
     exact this kids i X
    refine Rb ?_;refine eC rfl rfl rfl rfl rfl hk3 X Pg (fun u q hu=>?_);obtain⟨uo,uc,rfl,hku⟩:=Rd.ltl hu;generalize kids[i]=x at*
    skip;refine WL.alloc rfl rfl (fun w4 hb5 e4=>?_);skip;refine WL.st rfl rfl rfl hb5 rfl rfl Pr (fun Z hb5 C=>?_);have e5:Ext w3 Z:=e4.grown C e4.size Pi;have z5:=e5.size;refine Q4 ?_;refine WL.call rfl rfl rfl (ih x hnk hwk Z (hM3.ext O7 e5) O7 (hku.mono (fun b j=>e5.block b (by have:=hF b j;omega)) Pl) O7) ?_;rintro _ w6 ⟨cv',qv',hM6,hC6,na6,np6⟩
    rw[←htk]at hM6
    refine Qc ?_;refine EX.back (i+1,cv',qv') O6 ⟨X,hM6,(hC3.trans (Chg.of_ext _ e5)).then hC6 (fun b j=>?_),fun g f=>?_,fun g f=>?_⟩ Pa
    ·rcases j with h|h|h
     ·exact .inl (.inl h)
     ·exact(na3 b h).imp (fun h=>.inr (.inl h)) id
     ·exact(np3 b h).imp (fun h=>.inr (.inr h)) id
    ·exact(na6 g f).elim (na3 g) (fun h=>.inr O7)
    ·exact(np6 g f).elim (np3 g) (fun h=>.inr O7)
   ·obtain rfl:i=kids.length:=by simp at h;omega
    rw[Mk]at hM3
    refine QF ?_;refine aV rfl ⟨cv,qv,hM3,((Chg.of_ext _ e1).trans hC2).then hC3 (fun b j=>?_),fun g f=>?_,fun g f=>?_⟩
    ·rcases j with h|h|h
     ·exact .inl (.inl h)
     ·exact(na2 b h).imp (fun h=>.inr (.inl h)) (fun h=>by omega)
     ·exact(np2 b h).imp (fun h=>.inr (.inr h)) (fun h=>by omega)
    ·exact(na3 g f).elim (fun h=>(na2 g h).imp id (fun h=>by omega)) (fun h=>.inr O7)
    ·exact(np3 g f).elim (fun h=>(np2 g h).imp id (fun h=>by omega)) (fun h=>.inr O7)
structure MkF(w:World)(F:Nat→Prop)(sb:Nat)(m:cW):Prop where
 ok:∃ao ac po pc,Blk w sb 212 [.slice ao m.1.length ac,.slice po m.2.length pc]∧Sl w F ao ac m.1∧Sl w F po pc m.2
 sb:F sb
theorem MkF.to{w w':World}{F:Nat→Prop}{sb:Nat}{m:cW}(h:MkF w F sb m)(a:∀b,F b→w'.heap[b]?=w.heap[b]?):MkF w' F sb m:=by
 obtain⟨ao,ac,d,e,h1,h2,h3⟩:=h.ok;exact⟨⟨ao,ac,d,e,(a sb h.sb).trans h1,h2.mono a Pl,h3.mono a Pl⟩,h.sb⟩
theorem MkF.rd{w:World}{F:Nat→Prop}{sb:Nat}{m:cW}(h:MkF w F sb m)(hF:∀b,F b→b<w.heap.size):MkA w sb m:=by
 obtain⟨ao,ac,a,d,h1,h2,h3⟩:=h.ok;exact⟨ao,ac,a,d,h1,h2.mono Pq hF,h3.mono Pq hF⟩
structure OutA(w:World)(B b7:Nat)(c:Nat→Value)(xs:List Int)(vs:List Raw)(mu no:List Nat)(us:List Raw):Prop where
 blk:Blk w b7 144 [c 0,c 1,c 2,c 3,c 4]
 o0:Own w B 3 cZ (c 0) xs
 o1:Own w B 39 cZ (c 1) vs
 o2:Own w B 131 cZ (c 2) mu
 o3:Own w B 131 cZ (c 3) no
 o4:Own w B 39 cZ (c 4) us
 dj:∀i j,i<5→j<5→i≠j→∀g,(c i).ownBlock=some g→(c j).ownBlock≠some g
 lb:b7<B
def oM(b2 b7:Nat)(c:Nat→Value):Nat→Prop:=fun b=>b=b2∨b=b7∨∃i,i<5∧(c i).ownBlock=some b
def Ip(c:Nat→Value)(i:Nat)(v:Value):Nat→Value:=fun j=>if j=i then v else c j
section
variable {w w' w'':World}{B b2 b7:Nat}{c:Nat→Value}{xs:List Int}{vs us:List Raw}{mu no:List Nat}{i:Nat}{v':Value}
theorem OutA.lt(h:OutA w B b7 c xs vs mu no us):∀j,j<5→∀g,(c j).ownBlock=some g→B≤g∧g<w.heap.size:=fun j b g a=>by
 match j,b with
 |0,_=>exact⟨(h.o0.lt g a).1,(h.o0.lt g a).2.1⟩
 |1,_=>exact⟨(h.o1.lt g a).1,(h.o1.lt g a).2.1⟩
 |2,_=>exact⟨(h.o2.lt g a).1,(h.o2.lt g a).2.1⟩
 |3,_=>exact⟨(h.o3.lt g a).1,(h.o3.lt g a).2.1⟩
 |4,_=>exact⟨(h.o4.lt g a).1,(h.o4.lt g a).2.1⟩
theorem OutA.ext(h:OutA w B b7 c xs vs mu no us)(a:Ext w w'):OutA w' B b7 c xs vs mu no us:=
 ⟨h.blk.ext a,h.o0.extN a,h.o1.extN a,h.o2.extN a,h.o3.extN a,h.o4.extN a,h.dj,h.lb⟩
theorem OutA.step(h:OutA w B b7 c xs vs mu no us)(hi:i<5)(q:w.grownBy w' (c i).ownBlock)(p:w'.grownBy w'' (some b7))(m:∀g,v'.ownBlock=some g→(c i).ownBlock=some g∨w.heap.size≤g)(y:B≤w.heap.size):
  (∀j,j<5→j≠i→∀{α:Type} [Rep α] {e:TypeId} {ys:List α},Own w B e cZ (c j) ys→Own w'' B e cZ (c j) ys)∧(∀{α:Type} [Rep α] {e:TypeId} {ys:List α},Own w' B e cZ v' ys→Own w'' B e cZ v' ys)∧
   (∀j k,j<5→k<5→j≠k→∀g,(Ip c i v' j).ownBlock=some g→(Ip c i v' k).ownBlock≠some g)∧Chg (oM b2 b7 c) w w''∧(∀b,oM b2 b7 (Ip c i v') b→oM b2 b7 c b∨w.heap.size≤b)∧Chg (fun b=>b=b7∨B≤b) w w'':=by
 have o:=h.lt;have hlb:=h.lb;have x:=q.size;refine⟨fun j n l α _ e ys s=>(s.keptN q (fun g d r=>h.dj j i n hi l g d r.symm)).keptN p (fun g d r=>by have:=(o j n g d).1;have:=Nn r;omega),
  fun s=>s.keptN p (fun g d r=>by have:=(s.lt g d).1;have:=Nn r;omega),fun j k n t l g d a=>?_,((Chg.of_grown q).wk (fun b f=>.inr (.inr ⟨i,hi,f⟩))).grown p (fun g d=>by cases d;exact .inr (.inl rfl)),fun b f=>?_,?_⟩
 ·unfold Ip at d a
  by_cases v:j=i
  ·subst v
   rw[OK rfl]at d
   rw[OJ (fun e=>l e.symm)]at a
   rcases m g d with h1|h1
   ·exact h.dj j k n t l g h1 a
   ·have:=(o k t g a).2;omega
  ·rw[OJ v]at d
   by_cases u:k=i
   ·subst u
    rw[OK rfl]at a
    rcases m g a with h1|h1
    ·exact h.dj j k n t l g d h1
    ·have:=(o j n g d).2;omega
   ·rw[OJ u]at a
    exact h.dj j k n t l g d a
 ·rcases f with f|f|⟨j,n,f⟩
  ·exact .inl (.inl f)
  ·exact .inl (.inr (.inl f))
  ·unfold Ip at f
   by_cases e:j=i
   ·subst e
    rw[OK rfl]at f
    exact(m b f).imp (fun h=>.inr (.inr ⟨j,n,h⟩)) id
   ·rw[OJ e]at f
    exact .inl (.inr (.inr ⟨j,n,f⟩))
 ·exact((Chg.of_grown q).wk (fun b f=>.inr (o i hi b f).1)).grown p Pp
end
def iQ(m:cW)(K i:Nat):List (List Int):=(List.range K).map fun k=>((List.range i).filter fun t=>decide (wz m t=k)).map fun t:Nat=>(t:Int)
theorem iS{m:cW}{K i:Nat}:(iQ m K i).length=K:=by unfold iQ;rw[Ls,Lv]
theorem iR{m:cW}{K i k:Nat}(h:k<(iQ m K i).length):(iQ m K i)[k]=((List.range i).filter fun t=>decide (wz m t=k)).map fun t:Nat=>(t:Int):=by
 simp only[iQ,Lb,Ld]
theorem iU{m:cW}{K i k:Nat}(h:k<(iQ m K i).length):(iQ m K i)[k].length≤i:=by
 rw[iR,Ls];exact MN (Lr _ _) (by rw[Lv];exact MM _)
theorem iV{m:cW}{K:Nat}:iQ m K 0=List.replicate K []:=by
 unfold iQ;refine KD O_ fun i h1 h2=>?_
 simp
theorem iT{m:cW}{K i:Nat}(h:wz m i<(iQ m K i).length):(iQ m K i).set (wz m i) ((iQ m K i)[wz m i]++[(i:Int)])=iQ m K (i+1):=by
 refine KD (by rw[Lz,iS,iS]) fun j h1 h2=>?_
 rw[Lf,iR h2,Mb,KF,LE];by_cases e:wz m i=j
 ·subst e
  rw[OK rfl,iR];simp
 ·rw[OJ e,iR]
  simp[e]
def EE(p:Nat→Bool)(i:Nat):List Int:=((List.range i).filter p).map fun s:Nat=>(s:Int)
theorem EG{p:Nat→Bool}{i:Nat}:EE p (i+1)=if p i=true then EE p i++[(i:Int)]else EE p i:=by
 unfold EE;rw[Mb,KF,LE,KG,KJ];cases p i<;>simp
theorem EF{p:Nat→Bool}{i:Nat}:(EE p i).length≤i:=by
 unfold EE;rw[Ls];exact MN (Lr _ _) (by rw[Lv];exact MM _)
theorem rngM_next{α:Type}{f:Nat→α}{i:Nat}:(List.range (i+1)).map f=(List.range i).map f++[f i]:=by rw[Mb,LE];rfl
theorem C1(w:World)(F:Nat→Prop)(x:Nat)(h:x<18446744073709551616):Rd w F (.int .u64 (x:Int)) x:=⟨_,rfl,C6 _ _ x h⟩
theorem zn(w:World):AutoAt w (c7 w) (.agg #[.slice none 0 0,.slice none 0 0,.slice none 0 0,.slice none 0 0,.slice none 0 0]) nilA5:=
 ⟨none,0,none,0,none,0,none,0,none,0,rfl,Sl.zero w _,Sl.zero w _,Sl.zero w _,Sl.zero w _,Sl.zero w _⟩
set_option maxHeartbeats 4000000 in
theorem cT(w0:World){t:Ltl}{ko:Option Addr}{kc:Nat}(hk:Sl w0 (c7 w0) ko kc t.kids):
  Rt Tryz.prog 61 [ym t.k t.n ko t.kids.length kc].toArray w0 fun v w'=>(∃rv,v=.tuple ⟨[rv,Py (yu t).2]⟩∧AutoAt w' (c7 w') rv (yu t).1)∧Ext w0 w':=by
 refine dD Tryz.func61 Tryz.ntmps61 rfl rfl ?_;have hE:=Ext.refl w0;refine PB ?_;refine dX rfl rfl rfl fun n M e1=>?_
 have hE:=hE.trans e1;have l1:=M.lt;skip;refine WL.alloc rfl rfl (fun w2 hb2 V=>?_);have M:=M.ext V;have hE:=hE.trans V;have l2:=hb2.lt;have y2:=V.size;refine Q4 ?_;refine WL.call rfl rfl rfl (c_ w2 (hk.up hE) Pl) ?_;rintro _ w3 ⟨x,rfl,hx,e3⟩
 unfold yu;have hpl:=BX (t:=t);have hhas:=B1 t;generalize (BW t).2=err at*
 generalize (BW t).1=f at*
 obtain⟨fo,fc,rfl,hfk⟩:=Rd.ltl hx;have M:=M.ext e3;have hb2:=hb2.ext e3;have hE:=hE.trans e3;have y3:=e3.size;refine Ri ?_;refine WL.st rfl rfl rfl M rfl rfl Pr (fun w4 M hg4=>?_);have y4:=hg4.size;have hE4:Ext w0 w4:=hE.grown hg4 hE.size Pk;have hb24:=hb2.kept hg4 Po;have hfk4:Sl w4 (Nw w2 w3) fo fc f.kids:=hfk.mono (fun b d=>hg4.block b d.2 (fun e=>by have:=Nn e;have:=d.1;omega)) Pl;clear hfk hx hg4 hb2 e1 V e3 hE;refine Qt ?_;apply CW.cond rfl<;>intro h
 ·have h:err≠0:=by simpa using h
  rw[OK h];refine PB ?_;refine WL.build (parts:=[]) rfl rfl rfl rfl ?_;refine Ri ?_;refine WL.st rfl rfl rfl hb24 rfl rfl Pr (fun w5 hb5 hg5=>?_);have hE5:Ext w0 w5:=hE4.grown hg5 hE4.size Pk;refine PS ?_;exact bh rfl rfl rfl hb5 rfl ⟨⟨_,rfl,zn _⟩,hE5⟩
 have h:err=0:=by simpa using h
 obtain⟨hw,rfl,hwp,hn60⟩:=hpl h;have hhas:=hhas hw;rw[OJ (by simp[h])];clear h hpl;generalize BY t=f at*
 obtain⟨hT,hF⟩:=Gw hwp hhas.1 hhas.2;have hga:=ql f ([],[]);have hmlen:=Gu f;refine QH ?_;refine WL.build (parts:=[]) rfl rfl rfl rfl ?_;refine dX rfl rfl rfl fun w5 hsb e5=>?_
 have l5:=hsb.lt;have y5:=e5.size;have hM5:MkO w5 w4.heap.size (Nw w2 w3) w4.heap.size (.slice none 0 0) (.slice none 0 0) ([],[]):=
  ⟨hsb,Own.nil,Own.nil,MM _,(fun g H=>by cases H),(fun g H=>by cases H),(fun g H=>by cases H),fun b d=>by have:=d.2;omega⟩
 have hb15:=M.ext e5;have hb25:=hb24.ext e5;have hE5:=hE4.trans e5;refine Q4 ?_;refine WL.call rfl rfl rfl (qD _ f Pu hwp w5 hM5 y5 (hfk4.mono (fun b d=>e5.block b (by have:=d.2;omega)) Pl) Pc) ?_;rintro _ w6 ⟨av,pv,L,hC6,na6,np6⟩
 have y6:=hC6.size;have hlo6:=L.lo;have hC6':Chg (fun b=>b=w4.heap.size) w5 w6:=hC6.wk (fun b d=>by
  rcases d with h|h|h
  ·exact h
  ·cases h
  ·cases h)
 have hblk6:=L.blk;refine P9 ?_;refine WL.call rfl rfl rfl (FF w6 L.a (by simp at hga;omega)) ?_;rintro _ w7 ⟨rfl,hso,hg7⟩
 have y7:=hg7.size;have hsbE:w4.heap.size<w5.heap.size:=l5;have hM7:MkO w7 w4.heap.size (Nw w2 w3) w4.heap.size av pv (Gt f):=
  ⟨L.blk.kept hg7 (fun e=>L.na _ e.symm rfl),hso,L.p.kept hg7 (fun g H e=>L.nap g e.symm H) (fun b d=>⟨by have:=d.2;omega,fun e=>by have:=(hlo6 b (.inr (.inl e.symm))).1;have:=d.2;omega⟩),L.ge,L.na,L.np,L.nap,L.hF⟩
 have Z:∀b,b<w4.heap.size→w7.heap[b]?=w4.heap[b]?:=fun b d=>(hg7.block b O7 (fun e=>by have:=(hlo6 b (.inr (.inl e.symm))).1;omega)).trans ((hC6'.block b O7 O7).trans (e5.block b d))
 have hb17:Blk w7 _ _ _:=(Z _ O7).trans M;have hb27:Blk w7 _ _ _:=(Z _ O7).trans hb24;have hE7:Ext w0 w7:=by
  have h1:Ext w4 w7:=⟨hg7.os.trans (hC6.os.trans e5.os),hg7.tape.trans (hC6.tape.trans e5.tape),hg7.output.trans (hC6.output.trans e5.output),by omega,Z⟩;exact hE4.trans h1
 have hfk7:Sl w7 (Nw w2 w3) fo fc f.kids:=hfk4.mono (fun b d=>Z b (by have:=d.2;omega)) Pl;clear L hC6 na6 np6 hC6' hblk6 hso hg7 hM5 hsb hb15 hb25 hfk4 hb24 M e5 hE5 hlo6;obtain⟨ao,ac,rfl⟩:=hM7.a.val;obtain⟨po,pc,rfl⟩:=hM7.p.val;have hblk7:=hM7.blk;have hml:(Gt f).1.length+(Gt f).2.length≤60:=by rw[hmlen.1,hmlen.2];simp at hga;omega
 refine Rf ?_;refine QL.nil (fun w8 e8=>?_);have hE8:=hE7.trans e8;have hb18:=hb17.ext e8;have hb28:=hb27.ext e8;have y8:=e8.size;have hM8:=hM7.ext O7 e8;have hfk8:=hfk7.mono (w':=w8) (fun b d=>e8.block b (by have:=d.2;omega)) (F':=fun b=>b<w8.heap.size) (fun b d=>by have:=d.2;omega);rw[show(((Gt f).1.length:Nat):Int)+(((Gt f).2.length:Nat):Int)=((Ah (Gt f):Nat):Int) by unfold Ah;omega];refine Qt ?_;apply CW.cond rfl<;>intro h
 ·have h:Ah (Gt f)>10:=by exact_mod_cast OQ h
  rw[OK h];refine PB ?_;refine WL.build (parts:=[]) rfl rfl rfl rfl ?_;skip;refine WL.st rfl rfl rfl hb28 rfl rfl Pr (fun w9 hb9 hg9=>?_);have hE9:Ext w0 w9:=hE8.grown hg9 hE8.size Pk;refine PS ?_;exact bh rfl rfl rfl hb9 rfl ⟨⟨_,rfl,zn _⟩,hE9⟩
 have h10:¬Ah (Gt f)>10:=by exact_mod_cast OP h
 rw[OJ h10];clear h;have hlo8:=hM8.lo;have hMk8:MkF w8 (fun b=>b<w8.heap.size) w4.heap.size (Gt f):=by
  obtain⟨po',pc',ep,hps⟩:=hM8.p.slF (F':=fun b=>b<w8.heap.size) (fun b d=>by have:=d.2;omega) (fun g H=>(hM8.p.lt g H).2.1);obtain⟨ao',ac',ea,has⟩:=hM8.a.slF (F':=fun b=>b<w8.heap.size) (fun b d=>d.elim) (fun g H=>(hM8.a.lt g H).2.1);obtain⟨rfl,_,rfl⟩:=Oi ep;obtain⟨rfl,_,rfl⟩:=Oi ea;exact⟨⟨ao,ac,po,pc,hM8.blk,has,hps⟩,by omega⟩
 have hmk:=hMk8;clear hM7 hM8 hblk7 hE7 hb17 hb27 hfk7 Z hlo8 hmlen hga e8;generalize Gt f=m at*
 generalize hsbn:w4.heap.size=sb at*
 have X:m.1.length≤20∧m.2.length≤20:=by unfold Ah at h10;omega
 have hpN:(1 <<< Ah m)=2 ^ Ah m:=M2 _;have hp10:2 ^ Ah m≤2 ^ 10:=M4 O7 O7;have hpK:(1 <<< m.2.length)=2 ^ m.2.length:=M2 _;have hpK10:2 ^ m.2.length≤2 ^ 10:=M4 O7 (by unfold Ah at h10;omega);refine QH ?_;refine WL.alloc rfl rfl (fun w9 hb7 e9=>?_);have l9:=hb7.lt;have hb19:=hb18.ext e9;have hb29:=hb28.ext e9;have hmk9:=hmk.to (w':=w9) (fun b d=>e9.block b d);have hfk9:=hfk8.mono (w':=w9) (fun b d=>e9.block b d) (F':=fun b=>b<w8.heap.size) Pl;have hE9:=hE8.trans e9;obtain⟨ao',ac',po',pc',hblk9,has9,hps9⟩:=hmk9.ok;generalize hb7n:w8.heap.size=b7 at*
 refine QE ?_;rw[Ff (show m.2.length<62 by omega)];generalize 1 <<< m.2.length=K at*
 refine eW (α:=Raw) rfl rfl rfl rfl O7 Pb (fun w10 ho10 hg10=>?_);have e10:Ext w9 w10:=(JI _ _).grown hg10 Pu Pn;generalize hbv:Value.slice (some ⟨w9.heap.size,0,none⟩) (K) (K)=bv at*
 have hN10:OwnN w10 w9.heap.size 39 3 bv _ (List.replicate (K) ([]:List Int)):=OwnN.made ho10;rw[←iV (m:=m)]at hN10
 clear ho10 hg10;refine Qj ?_;rw[Ff (show Ah m<62 by omega)];generalize 1 <<< Ah m=N at*
 refine CW.loop (S:=Nat×List Raw) (fun s=>[(1,Pz w0.heap.size),(2,Pz n.heap.size),(5,Pz sb),(6,Py ((Ah m:Nat):Int)),(7,Pz b7),(8,bv),(57,Py (N:Int)),(58,Py s.1)])
  (fun s w=>s.1≤N∧OwnN w w9.heap.size 39 3 bv s.2 (iQ m (K) s.1)∧Ext w9 w) (fun s=>N -s.1) (0,_) O6 ⟨Nc _,hN10,e10⟩ ?_
 clear hN10 e10;rintro⟨i,vs⟩ w ⟨hi,hN,e⟩
 dsimp only at hi hN e⊢
 have hvl:=hN.len;rw[iS]at hvl
 refine Qt ?_;apply CW.cond rfl<;>intro h
 ·have I:i<N:=by have h:=OQ h;omega
  clear h;refine PT ?_;refine WL.call rfl rfl rfl (wB w ((hmk9.rd (fun b d=>by omega)).ext e) hT (by rw[hpN]at I;omega) X) ?_;rintro _ w11 ⟨rfl,e11⟩
  have hN11:=hN.ext e11;have e911:=e.trans e11;have hkl:wz m i<K:=by rw[hpK];exact Bo
  have hkv:wz m i<vs.length:=by omega
  have hkb:wz m i<(iQ m (K) i).length:=by rw[iS];exact hkl
  have hin:=hN11.inn (wz m i) hkv hkb;have hrow:=iU (m:=m) hkb;have A:=iT (m:=m) hkb;generalize wz m i=k at*
  refine Qq ?_;refine eE rfl rfl rfl rfl rfl hN11.out hkv Pg (fun u q hu=>?_);obtain⟨rfl,_⟩:=hu.raw;refine Ri ?_;refine dW (F:=cZ) (yv:=(i:Int)) rfl rfl Pg rfl rfl Pg hin Pt e911.size Pj O9 Pb O7 (fun v' w12 p ho12 hg12 hnb=>?_);have hmid:=hN11.mid hkv hg12;skip;refine ft (u:=v') (yv:=⟨v'⟩) rfl rfl rfl rfl hmid hkv Pg Pg (Rd.mkRaw _ _ _ ?_) (fun w13 q ho13 hg13=>?_)
  ·obtain⟨a,b,rfl⟩:=ho12.val;rfl
  have hN13:=hN11.set hkv ho12 hg12 hnb ho13 hg13;rw[A]at hN13
  have e13:Ext w9 w13:=(e911.grown hg12 e911.size (fun b d=>(hin.lt b d).1)).grown hg13 (MN e911.size hg12.size) (fun b d=>(hN11.out.lt b d).1);refine Qc ?_;exact EX.back (i+1,vs.set k ⟨v'⟩) O6 ⟨I,hN13,e13⟩ Pa
 obtain rfl:N=i:=by have h:=OP h;omega
 clear h hi;have hlN:=hN.lt;obtain⟨bo,bc,rfl,hby⟩:=hN.sl;have yw:=e.size;have hbyL:=hby.mono (w':=w) Pq (F':=fun b=>w9.heap.size≤b∧b<w.heap.size) (fun b d=>hlN b d);have hmkL:=hmk9.to (w':=w) (fun b d=>e.block b O7);have hfkL:=hfk9.mono (w':=w) (fun b d=>e.block b O7) (F':=fun b=>b<b7) Pl;have hb7L:=hb7.ext e;have hb1L:=hb19.ext e;have hb2L:=hb29.ext e;have hEL:=hE9.trans e;have hNlt:N≤1024:=by rw[hpN];exact hp10
 clear hN hvl hby hlN hb7 hb19 hb29 hmk9 hfk9 e9 hE9 hE8 hb18 hb28 hmk hfk8 hblk9 has9 hps9 e;generalize hwLn:w.heap.size=wn at*
 have r:∀{z:World},Chg (fun b=>b=b7∨wn≤b) w z→∀b,b<wn→b≠b7→z.heap[b]?=w.heap[b]?:=fun {z} U b d hne=>U.block b O7 O7
 have hMA:∀{z:World},Chg (fun b=>b=b7∨wn≤b) w z→MkA z sb m∧Sl z (c7 z) fo fc f.kids∧Blk z w0.heap.size 32 [Py f.k,Py f.n,.slice fo f.kids.length fc]∧Sl z (fun b=>w9.heap.size≤b∧b<wn) bo bc (iQ m K N):=fun {z} U=>by
  have hz:=U.size;exact⟨(hmkL.to (fun b d=>r U b O7 O7)).rd (fun b d=>by omega),hfkL.mono (fun b d=>r U b O7 O7) (fun b d=>by exact(show b<z.heap.size by omega)),(r U _ O7 O7).trans hb1L,hbyL.mono (fun b d=>r U b d.2 O7) Pl⟩
 refine Q9 ?_;rw[Ff (show Ah m<62 by omega),show(1 <<< Ah m:Nat)=N by rw[M2,hpN]];refine CW.loop (S:=Nat×(Nat→Value)×List Raw) (fun s=>[(1,Pz w0.heap.size),(2,Pz n.heap.size),(5,Pz sb),(6,Py ((Ah m:Nat):Int)),(7,Pz b7),(8,.slice bo (iQ m K N).length bc),(76,Py (N:Int)),(77,Py s.1)])
  (fun s z=>s.1≤N∧OutA z wn b7 s.2.1 (EE (fun x=>rR m x f) s.1) s.2.2 ((List.range s.1).map fun x=>iz m x true) ((List.range s.1).map fun x=>iz m x false) []∧InnR z (oM n.heap.size b7 s.2.1) s.2.2 ((List.range s.1).map fun x=>EE (fun t=>decide (wz m t=x >>> m.1.length)) N)∧Chg (fun b=>b=b7∨wn≤b) w z)
  (fun s=>N -s.1) (0,(fun _=>.slice none 0 0),[]) O6 ⟨Nc _,⟨hb7L,Own.nil,Own.nil,Own.nil,Own.nil,Own.nil,(fun i j _ _ _ g H=>by cases H),by omega⟩,InnR.nil,Chg.refl _ _⟩ ?_
 rintro⟨i,c,vs⟩ z ⟨hi,Y,hR,U⟩
 dsimp only at hi Y hR U⊢
 obtain⟨kMA,kfk,kb1,kby⟩:=hMA U;have hz:=U.size;have hlt:=Y.lt;have hRl:=hR.len;rw[Ls,Lv]at hRl
 refine Qt ?_;apply CW.cond rfl<;>intro h
 ·have I:i<N:=by have h:=OQ h;omega
  clear h;have hs20:i<1048576:=by omega
  apply CW.skip;apply bz;apply CW.seq;apply CW.block;apply CW.seq;apply CW.region;refine Ri ?_;apply WL.nil;apply bz;refine aB (S:=Nat→Value) (fun c'=>[(1,Pz w0.heap.size),(2,Pz n.heap.size),(5,Pz sb),(6,Py ((Ah m:Nat):Int)),(7,Pz b7),(8,.slice bo (iQ m K N).length bc),(11,Py (i:Int)),(76,Py (N:Int)),(77,Py (i:Int))])
   (fun c' z'=>OutA z' wn b7 c' (EE (fun x=>rR m x f) (i+1)) vs ((List.range i).map fun x=>iz m x true) ((List.range i).map fun x=>iz m x false) []∧InnR z' (oM n.heap.size b7 c') vs ((List.range i).map fun x=>EE (fun t=>decide (wz m t=x >>> m.1.length)) N)∧Chg (fun b=>b=b7∨wn≤b) w z') ?_ ?_
  ·refine Q4 ?_
   refine WL.call rfl rfl rfl (GV _ f Pu z kMA hF kfk hs20 X) ?_;rintro _ z1 ⟨rfl,e1⟩
   have O:=Y.ext e1;have hR1:=hR.to (Chg.of_ext (oM n.heap.size b7 c) e1) (fun b d=>.inl d);have hC1:=U.trans (Chg.of_ext _ e1);have A:=EG (p:=fun x=>rR m x f) (i:=i);have hxl:=EF (p:=fun x=>rR m x f) (i:=i);have hz1:=e1.size;cases hh:rR m i f with
   |false=>
    simp only[hh]at A
    rw[OJ O9]at A
    refine Qv ?_;exact aU c O6 ⟨by rw[A];exact O,hR1,hC1⟩
   |true=>
    simp only[hh]at A
    rw[OK trivial]at A
    have hblk1:=O.blk;have hlt1:=O.lt;refine Q7 ?_;refine dW (F:=cZ) (yv:=(i:Int)) rfl rfl Pg rfl rfl Pg O.o0 Pt O7 Pj O9 Pb O7 (fun v' z2 p ho2 hg2 hnb=>?_);obtain⟨so,sc,rfl⟩:=ho2.val;have hblk2:=hblk1.kept hg2 (fun e=>by have:=(hlt1 0 O7 b7 e.symm).1;have:=Y.lb;omega);refine Rm ?_;refine WL.st rfl rfl rfl hblk2 rfl rfl Pr (fun z3 J hg3=>?_);obtain⟨kk,kn,kd,kc,km,kw⟩:=O.step (b2:=n.heap.size) (i:=0) (by omega) hg2 hg3 hnb O7;have ho3:=kn ho2;rw[←A]at ho3
    refine PZ ?_;refine aU (Ip c 0 _) O6 ⟨⟨J,?_,kk 1 O7 O7 O.o1,kk 2 O7 O7 O.o2,kk 3 O7 O7 O.o3,kk 4 O7 O7 O.o4,kd,Y.lb⟩,hR1.to kc km,hC1.then kw (fun b d=>.inl d)⟩;rw[show(EE (fun x=>rR m x f) i++[(i:Int)]).length=(EE (fun x=>rR m x f) (i+1)).length by rw[A]]at*
    exact ho3
  rintro c1 z1 ⟨O,hR1,hC1⟩
  have hs20':i<2 ^ 20:=by omega
  have hD:Ext z1 (drew z1):=Ext.drew z1;have hzd:=hD.size;have hz1:=hC1.size;have D:=O.ext hD;have hRd:=hR1.to (Chg.of_ext (oM n.heap.size b7 c1) hD) (fun b d=>.inl d);have T:=hC1.trans (Chg.of_ext _ hD);have o:=D.blk;have hltd:=D.lt;have lb:=D.lb;obtain⟨kMA,kfk,kb1,kby⟩:=hMA T;have howe:i >>> m.1.length<K:=by
   rw[hpK,M6,MA (Nat.two_pow_pos _),←Nat.pow_add];rw[hpN]at I
   unfold Ah at I
   rw[Ms];exact I
  have hkb:i >>> m.1.length<(iQ m K N).length:=by rw[iS];exact howe
  have hrowN:(iQ m K N)[i >>> m.1.length]=EE (fun t=>decide (wz m t=i >>> m.1.length)) N:=iR hkb;have hrowl:=EF (p:=fun t=>decide (wz m t=i >>> m.1.length)) (i:=N);refine P1 ?_;refine aE (fun x:World=>∀b,b<wn→x.heap[b]?=(drew z1).heap[b]?) [(0,true),(1,true),(2,true),(3,true),(4,true),(5,false),(6,true),(7,true),(8,false),(9,false),(10,false),(11,false)] 12 mixed O8 Pq ?_;refine RF ?_;refine ck (fun u h=>h b7 lb) rfl rfl rfl rfl o rfl ?_;refine RE ?_;refine cr rfl (WL.call rfl rfl rfl (Bh _ kMA X.1) ?_);rintro _ _ ⟨rfl,rfl⟩
  refine WL.nil (a_ Pq ?_);skip;refine bY (k:=i >>> m.1.length) (fun u h b d=>h b d.2) rfl rfl rfl rfl rfl rfl rfl kby hkb Pg (fun u q hu=>?_);rw[hrowN]at hu
  obtain⟨ro,rc,rfl,hrow⟩:=hu.sl;refine cr rfl (WL.call rfl rfl rfl (kj (drew z1) (hrow.mono Pq (fun b d=>by have:=d.2;exact(show b<(drew z1).heap.size by omega))) O7) ?_);rintro rv z2 ⟨hrv,V⟩
  have hz2:=V.size;refine WL.nil (a_ (fun b d=>V.block b O7) ?_);obtain⟨ro',rc',rfl⟩:=hrv.val;have G:=D.ext V;have hR2:=hRd.to (Chg.of_ext (oM n.heap.size b7 c1) V) (fun b d=>.inl d);have hC2:=T.trans (Chg.of_ext _ V);have hlt2:=G.lt;have hlo1:=G.o1.lt;refine bV (α:=Raw) (F:=cZ) (bytes:=24) (yv:=(⟨.slice ro' (EE (fun t=>decide (wz m t=i >>> m.1.length)) N).length rc'⟩:Raw)) rfl rfl rfl rfl Pg rfl rfl Pg G.o1 (Rd.mkRaw _ _ _ rfl) O7 Pj O9 Pb O7
   (fun u hu b d=>(hu.block b O7 (fun e=>by have:=(hlo1 b e.symm).1;omega)).trans (V.block b O7)) (fun v' z3 p ho3 hg3 hnb=>?_)
  obtain⟨so,sc,rfl⟩:=ho3.val;have J:=G.blk.kept hg3 (fun e=>by have:=(hlo1 b7 e.symm).1;omega);have hz3:z2.heap.size≤z3.heap.size:=hg3.size;refine cr rfl (eG rfl rfl rfl (WL.nil (a_ (fun b d=>(hg3.block b O7 (fun e=>by have:=(hlo1 b e.symm).1;omega)).trans (V.block b O7)) (HL.nil ?_))));refine bp rfl (WL.st rfl rfl rfl J rfl rfl Pr (fun z4 hblk4 hg4=>WL.nil (bu ?_)));obtain⟨kk,kn,kd,kc,km,kw⟩:=G.step (b2:=n.heap.size) (i:=1) (by omega) hg3 hg4 hnb O7;have hrvR:Rd z2 (Fz z2 (oM n.heap.size b7 c1)) _ _:=hrv.rd.mono Pq (fun g H=>H.elim (fun h=>h.elim) (fun H=>⟨(hrv.lt g H).2.1,fun h=>by
   have h1:=(hrv.lt g H).1;rcases h with h|h|⟨j,hj,h⟩
   ·omega
   ·omega
   ·have:=(hltd j hj g h).2;omega⟩))
  have hR4:=(hR2.push hrvR).to kc km;rw[←rngM_next]at hR4
  have hA4:OutA z4 wn b7 (Ip c1 1 _) _ _ _ _ _:=⟨hblk4,kk 0 O7 O7 G.o0,kn ho3,kk 2 O7 O7 G.o2,kk 3 O7 O7 G.o3,kk 4 O7 O7 G.o4,kd,lb⟩;have hC4:=hC2.then kw (fun b d=>.inl d);generalize hc2:Ip c1 1 _=c2 at hA4 hR4
  clear kk kn kd kc km kw hrvR hblk4 hg4 J hlt2 hlo1 hg3 hnb ho3 G hR2 hC2 V hrv hrow o hltd kMA kfk kb1 kby D hRd T hD O hR1 hC1;apply bz;have hD:Ext z4 (drew z4):=Ext.drew z4;have hzd:=hD.size;have hzi:=hC4.size;have D:=hA4.ext hD;have T:=hC4.trans (Chg.of_ext _ hD);have o:=D.blk;have lb:=D.lb;obtain⟨kMA,kfk,kb1,kby⟩:=hMA T;refine P1 ?_;refine aE (fun x:World=>∀b,b<wn→x.heap[b]?=(drew z4).heap[b]?) [(0,true),(1,true),(2,true),(3,true),(4,false),(5,false),(6,false),(7,false)] 8 mixed O8 Pq ?_;refine RF ?_;refine ck (fun u h=>h b7 lb) rfl rfl rfl rfl o rfl ?_;refine RE ?_;refine cr rfl (WL.call rfl rfl rfl (iB _ true kMA hT.ok hs20 X.1) ?_);rintro _ zc ⟨rfl,ec⟩
  have hzc:=ec.size;refine WL.nil (a_ (fun b d=>ec.block b O7) ?_);have l:=D.ext ec;have hRc:=hR4.to (Chg.of_ext (oM n.heap.size b7 c2) (hD.trans ec)) (fun b d=>.inl d);have hCc:=T.trans (Chg.of_ext _ ec);have E:=l.o2.lt;refine bV (α:=Nat) (F:=cZ) (bytes:=8) (yv:=iz m i true) rfl rfl rfl rfl Pg rfl rfl Pg l.o2 (C1 _ _ _ (iw (fun x hx=>(hT.ok.ra x hx).2) Pu)) O7 Pj O9 (by unfold maxLen;rw[Ls,Lv];omega) (by rw[Ls,Lv];omega)
   (fun u hu b d=>(hu.block b O7 (fun e=>by have:=(E b e.symm).1;omega)).trans (ec.block b O7)) (fun v' zA p hoA Q hnb=>?_)
  obtain⟨so,sc,rfl⟩:=hoA.val;have R:=l.blk.kept Q (fun e=>by have:=(E b7 e.symm).1;omega);have hzA:zc.heap.size≤zA.heap.size:=Q.size;refine cr rfl (eG rfl rfl rfl (WL.nil (a_ (fun b d=>(Q.block b O7 (fun e=>by have:=(E b e.symm).1;omega)).trans (ec.block b O7)) (HL.nil ?_))));refine bp rfl (WL.st rfl rfl rfl R rfl rfl Pr (fun z5 C hgB=>WL.nil (bu ?_)));obtain⟨kk,kn,kd,kc,km,kw⟩:=l.step (b2:=n.heap.size) (i:=2) (by omega) Q hgB hnb O7;have hR5:=hRc.to kc km;have P:=hoA;rw[show((List.range i).map fun x=>iz m x true)++[iz m i true]=(List.range (i+1)).map fun x=>iz m x true from rngM_next.symm]at P C kd km hR5 kn
  have hA5:OutA z5 wn b7 (Ip c2 2 _) _ _ _ _ _:=⟨C,kk 0 O7 O7 l.o0,kk 1 O7 O7 l.o1,kn P,kk 3 O7 O7 l.o3,kk 4 O7 O7 l.o4,kd,lb⟩;have hC5:=hCc.then kw (fun b d=>.inl d);generalize hcv5:Ip c2 2 _=c3 at hA5 hR5
  clear kk kn kd kc km kw Q hgB hnb hoA P l hRc hCc ec o kMA kfk kb1 kby D T hD hA4 hR4 hC4 R C E;apply bz;have hD:Ext z5 (drew z5):=Ext.drew z5;have hzd:=hD.size;have hzi:=hC5.size;have D:=hA5.ext hD;have T:=hC5.trans (Chg.of_ext _ hD);have o:=D.blk;have lb:=D.lb;obtain⟨kMA,kfk,kb1,kby⟩:=hMA T;skip;refine aE (fun x:World=>∀b,b<wn→x.heap[b]?=(drew z5).heap[b]?) [(0,true),(1,true),(2,true),(3,true),(4,false),(5,false),(6,false),(7,false)] 8 mixed O8 Pq ?_;refine RF ?_;refine ck (fun u h=>h b7 lb) rfl rfl rfl rfl o rfl ?_;refine RE ?_;refine cr rfl (WL.call rfl rfl rfl (iB _ false kMA hT.ok hs20 X.1) ?_);rintro _ zc ⟨rfl,ec⟩
  have hzc:=ec.size;refine WL.nil (a_ (fun b d=>ec.block b O7) ?_);have l:=D.ext ec;have hRc:=hR5.to (Chg.of_ext (oM n.heap.size b7 c3) (hD.trans ec)) (fun b d=>.inl d);have hCc:=T.trans (Chg.of_ext _ ec);have E:=l.o3.lt;refine bV (α:=Nat) (F:=cZ) (bytes:=8) (yv:=iz m i false) rfl rfl rfl rfl Pg rfl rfl Pg l.o3 (C1 _ _ _ (iw (fun x hx=>(hT.ok.ra x hx).2) Pu)) O7 Pj O9 (by unfold maxLen;rw[Ls,Lv];omega) (by rw[Ls,Lv];omega)
   (fun u hu b d=>(hu.block b O7 (fun e=>by have:=(E b e.symm).1;omega)).trans (ec.block b O7)) (fun v' zA p hoA Q hnb=>?_)
  obtain⟨so,sc,rfl⟩:=hoA.val;have R:=l.blk.kept Q (fun e=>by have:=(E b7 e.symm).1;omega);have hzA:zc.heap.size≤zA.heap.size:=Q.size;refine cr rfl (eG rfl rfl rfl (WL.nil (a_ (fun b d=>(Q.block b O7 (fun e=>by have:=(E b e.symm).1;omega)).trans (ec.block b O7)) (HL.nil ?_))));refine bp rfl (WL.st rfl rfl rfl R rfl rfl Pr (fun z6 C hgB=>WL.nil (bu ?_)));obtain⟨kk,kn,kd,kc,km,kw⟩:=l.step (b2:=n.heap.size) (i:=3) (by omega) Q hgB hnb O7;have hR6:=hRc.to kc km;have P:=hoA;rw[show((List.range i).map fun x=>iz m x false)++[iz m i false]=(List.range (i+1)).map fun x=>iz m x false from rngM_next.symm]at P C kd km hR6 kn
  have hA6:OutA z6 wn b7 (Ip c3 3 _) _ _ _ _ _:=⟨C,kk 0 O7 O7 l.o0,kk 1 O7 O7 l.o1,kk 2 O7 O7 l.o2,kn P,kk 4 O7 O7 l.o4,kd,lb⟩;have hC6:=hCc.then kw (fun b d=>.inl d);generalize hcv6:Ip c3 3 _=c4 at hA6 hR6
  clear kk kn kd kc km kw Q hgB hnb hoA P l hRc hCc ec o kMA kfk kb1 kby D T hD hA5 hR5 hC5 R C E;refine Qc ?_;exact EX.back (i+1,c4,_) O6 ⟨I,hA6,hR6,hC6⟩ Pa
 obtain rfl:N=i:=by have h:=OP h;omega
 clear h hi hRl;obtain⟨mao,mac,mpo,mpc,hblkw,hasw,hpsw⟩:=hmkL.ok;have hblkz:Blk z _ _ _:=(r U sb O7 O7).trans hblkw;refine Qy ?_;refine CW.loop (S:=Nat×(Nat→Value)×List Raw) (fun s=>[(2,Pz n.heap.size),(5,Pz sb),(6,Py ((Ah m:Nat):Int)),(7,Pz b7),(122,.slice mpo m.2.length mpc),(123,Py m.2.length),(124,Py s.1)])
  (fun s z=>s.1≤m.2.length∧OutA z wn b7 s.2.1 (EE (fun x=>rR m x f) N) vs ((List.range N).map fun x=>iz m x true) ((List.range N).map fun x=>iz m x false) s.2.2∧InnR z (oM n.heap.size b7 s.2.1) vs ((List.range N).map fun x=>EE (fun t=>decide (wz m t=x >>> m.1.length)) N)∧
   InnR z (oM n.heap.size b7 s.2.1) s.2.2 (((m.2.take s.1).filter fun g=>decide (g.k≠7)).map fun g=>EE (ou m g) N)∧Chg (fun b=>b=b7∨wn≤b) w z)
  (fun s=>m.2.length -s.1) (0,c,[]) O6 ⟨Nc _,Y,hR,InnR.nil,U⟩ ?_
 clear hblkz Y hR U kMA kfk kb1 kby hlt hz c z;rintro⟨i,c,us⟩ z ⟨hi,Y,hR,hU,U⟩
 dsimp only at hi Y hR hU U⊢
 have hz:=U.size;have hlt:=Y.lt;have hUl:=hU.len;have hfl:((m.2.take i).filter fun g=>decide (g.k≠7)).length≤i:=MN (Lr _ _) (by rw[LB];omega);rw[Ls]at hUl
 refine Qt ?_;apply CW.cond rfl<;>intro h
 ·have I:i<m.2.length:=by have h:=OQ h;omega
  clear h;have hpsz:Sl z (fun b=>b<b7) mpo mpc m.2:=hpsw.mono (fun b d=>r U b (by have d:b<b7:=d;omega) (by have d:b<b7:=d;omega)) Pl;have htk:(m.2.take (i+1))=m.2.take i++[m.2[i]]:=by rw[Mi,KY I];rfl
  have hmem:m.2[i]∈m.2:=Lc I;refine Rb ?_;refine eC (i:=i) rfl rfl rfl rfl rfl hpsz I Pg (fun u q hu=>?_);generalize m.2[i]=g at*
  obtain⟨go,gc,rfl,hgk⟩:=Rd.ltl hu;clear hu hpsz;skip;refine WL.alloc rfl rfl (fun z1 hg1 e1=>?_);skip;refine WL.st rfl rfl rfl hg1 rfl rfl Pr (fun z2 hg2 hgg2=>?_);have V:Ext z z2:=JG e1 hgg2 e1.size Pi;have hz2:=V.size;have G:=Y.ext V;have hR2:=hR.to (Chg.of_ext (oM n.heap.size b7 c) V) (fun b d=>.inl d);have hU2:=hU.to (Chg.of_ext (oM n.heap.size b7 c) V) (fun b d=>.inl d);have hC2:=U.trans (Chg.of_ext _ V);have lg:=hg2.lt;have hgk2:=hgk.mono (w':=z2) (F':=fun b=>b<b7) (fun b d=>V.block b (by have d:b<b7:=d;omega)) Pl;have hOg:=hT.part hmem;clear hg1 e1 hgg2 Y hR hU U hgk;refine QR ?_;apply CW.cond rfl<;>intro h
  ·have h:g.k=7:=by simpa using h
   refine Qe ?_;refine EX.back (i+1,c,us) O6 ⟨I,G,hR2,?_,hC2⟩ Pa;rw[htk,KF,show([g].filter fun g=>decide (g.k≠7))=[] by simp[h],Ki];exact hU2
  have hk7:g.k≠7:=by simpa using h
  have htk2:((m.2.take (i+1)).filter fun g=>decide (g.k≠7))=((m.2.take i).filter fun g=>decide (g.k≠7))++[g]:=by rw[htk,KF,show([g].filter fun g=>decide (g.k≠7))=[g] by simp[hk7]]
  clear h htk;obtain⟨a,rfl⟩|⟨k,a,b,hk,rfl⟩:=BH (hT.ok.wp g hmem).1 (hT.ok.wp g hmem).2.1
  ·exact absurd rfl hk7
  clear hk7;generalize hgd:Ltl.mk k 0 [a,b]=g at*
  refine PT ?_;rw[Ff (show Ah m<62 by omega),show(1 <<< Ah m:Nat)=N by rw[M2,hpN]];refine CW.loop (S:=Nat×Value) (fun s=>[(2,Pz n.heap.size),(5,Pz sb),(6,Py ((Ah m:Nat):Int)),(7,Pz b7),(13,Pz z.heap.size),(14,s.2),(122,.slice mpo m.2.length mpc),(123,Py m.2.length),(124,Py i),(132,Py (N:Int)),(133,Py s.1)])
   (fun s y=>s.1≤N∧Own y z2.heap.size 3 cZ s.2 (EE (ou m g) s.1)∧Ext z2 y) (fun s=>N -s.1) (0,.slice none 0 0) O6 ⟨Nc _,Own.nil,Ext.refl _⟩ ?_
  rintro⟨j,sv⟩ y ⟨hj,hs,ey⟩
  dsimp only at hj hs ey⊢
  have hy:=ey.size;have hsl:=EF (p:=ou m g) (i:=j);refine Qt ?_;apply CW.cond rfl<;>intro h
  ·have hj':j<N:=by have h:=OQ h;omega
   clear h;have hgy:=hg2.ext ey;obtain⟨kMA,kfk,kb1,kby⟩:=hMA (hC2.trans (Chg.of_ext _ ey));have hgky:=hgk2.mono (w':=y) (F':=c7 y) (fun b d=>ey.block b (by have d:b<b7:=d;omega)) (fun b d=>(show b<y.heap.size by have d:b<b7:=d;omega));have A:=EG (p:=ou m g) (i:=j);subst hgd;refine QN ?_;refine WL.call rfl rfl rfl (GU _ (k:=k) (a:=a) (b:=b) kMA hOg hk hgky (show j<1048576 by omega) X) ?_;rintro v y1 ⟨hv,e1⟩
   have hs1:=hs.extN e1;have hey:=ey.trans e1;have hy1:=hey.size;generalize ou m (.mk k 0 [a,b]) j=bb at hv A
   subst hv;cases bb with
   |false=>
    rw[OJ O9]at A
    refine P0 ?_;exact EX.back (j+1,sv) O6 ⟨hj',by rw[A];exact hs1,hey⟩ Pa
   |true=>
    rw[OK rfl]at A
    refine Ra ?_;refine dW (F:=cZ) (yv:=(j:Int)) rfl rfl Pg rfl rfl Pg hs1 Pt O7 Pj O9 Pb O7 (fun v' y2 p ho2 hgr2 hnb=>?_);rw[←A]at ho2
    refine Qc ?_;exact EX.back (j+1,v') O6 ⟨hj',ho2,hey.grown hgr2 hey.size (fun g H=>(hs1.lt g H).1)⟩ Pa
  obtain rfl:N=j:=by have h:=OP h;omega
  clear h hj;have W:=G.ext ey;have hRy:=hR2.to (Chg.of_ext (oM n.heap.size b7 c) ey) (fun b d=>.inl d);have hUy:=hU2.to (Chg.of_ext (oM n.heap.size b7 c) ey) (fun b d=>.inl d);have hCy:=hC2.trans (Chg.of_ext _ ey);have hblky:=W.blk;have hlty:=W.lt;have lb:=W.lb;have hlo4:=W.o4.lt;obtain⟨ro,rc,rfl⟩:=hs.val;clear G hR2 hU2 hC2 hg2;refine QT ?_;refine dW (α:=Raw) (F:=cZ) (yv:=(⟨.slice ro (EE (ou m g) N).length rc⟩:Raw)) rfl rfl Pg rfl rfl Pg W.o4 (Rd.mkRaw _ _ _ rfl) O7 Pj O9 Pb O7 (fun v' y2 p ho2 hgr2 hnb=>?_);obtain⟨so,sc,rfl⟩:=ho2.val;have hblk2:=hblky.kept hgr2 (fun e=>by have:=(hlo4 b7 e.symm).1;omega);refine Rm ?_;refine WL.st rfl rfl rfl hblk2 rfl rfl Pr (fun y3 J hgr3=>?_);obtain⟨kk,kn,kd,kc,km,kw⟩:=W.step (b2:=n.heap.size) (i:=4) (by omega) hgr2 hgr3 hnb O7;have hrvR:Rd y (Fz y (oM n.heap.size b7 c)) _ _:=hs.rd.mono Pq (fun g H=>H.elim (fun h=>h.elim) (fun H=>⟨(hs.lt g H).2.1,fun h=>by
   have h1:=(hs.lt g H).1;rcases h with h|h|⟨j,hj,h⟩
   ·omega
   ·omega
   ·have:=(hlt j hj g h).2;omega⟩))
  have hU3:=(hUy.push hrvR).to kc km;rw[show((m.2.take i).filter fun g=>decide (g.k≠7)).map (fun g=>EE (ou m g) N)++[EE (ou m g) N]=((m.2.take (i+1)).filter fun g=>decide (g.k≠7)).map (fun g=>EE (ou m g) N) by rw[htk2,LE];rfl]at hU3
  have hA3:OutA y3 wn b7 (Ip c 4 _) _ _ _ _ _:=⟨J,kk 0 O7 O7 W.o0,kk 1 O7 O7 W.o1,kk 2 O7 O7 W.o2,kk 3 O7 O7 W.o3,kn ho2,kd,lb⟩;refine Qc ?_;exact EX.back (i+1,_,_) O6 ⟨I,hA3,hRy.to kc km,hU3,hCy.then kw (fun b d=>.inl d)⟩ Pa
 obtain rfl:i=m.2.length:=by have h:=OP h;omega
 rw[Mk]at hU
 clear h hi;have hblkz:=Y.blk;have lb:=Y.lb;have hb2z:Blk z _ _ _:=(r U n.heap.size O7 O7).trans hb2L;have hE:Ext w0 z:=Chg.ext hEL U (fun b d=>by omega);have hFF:∀b,Fz z (oM n.heap.size b7 c) b→b<z.heap.size∧b≠n.heap.size:=fun b d=>⟨d.1,fun e=>d.2 (.inl e)⟩
 have hFo:∀j,j<5→∀g,(c j).ownBlock=some g→g<z.heap.size∧g≠n.heap.size:=fun j hj g H=>⟨(hlt j hj g H).2,by have:=(hlt j hj g H).1;omega⟩
 obtain⟨a1,d1,e1,s1⟩:=Y.o0.slF (F':=fun b=>b<z.heap.size∧b≠n.heap.size) Pj (hFo 0 O7);obtain⟨a2,d2,V,s2⟩:=hR.sl (F:=fun b=>b<z.heap.size∧b≠n.heap.size) Y.o1 hFF (hFo 1 O7);obtain⟨a3,d3,e3,s3⟩:=Y.o2.slF (F':=fun b=>b<z.heap.size∧b≠n.heap.size) Pj (hFo 2 O7);obtain⟨a4,d4,e4,s4⟩:=Y.o3.slF (F':=fun b=>b<z.heap.size∧b≠n.heap.size) Pj (hFo 3 O7);obtain⟨a5,d5,e5,s5⟩:=hU.sl (F:=fun b=>b<z.heap.size∧b≠n.heap.size) Y.o4 hFF (hFo 4 O7);rw[e1,V,e3,e4,e5]at hblkz
 clear Y hR hU;refine QT ?_;refine WL.st rfl rfl rfl hb2z rfl rfl Pr (fun z1 M hg1=>?_);have hz1:=hg1.size;have hk1:∀b,b<z.heap.size∧b≠n.heap.size→z1.heap[b]?=z.heap[b]?:=fun b d=>hg1.block b d.1 (fun e=>d.2 (Nn e))
 have hk2:∀b,b<z.heap.size∧b≠n.heap.size→c7 z1 b:=fun b d=>(show b<z1.heap.size by omega)
 have hE1:Ext w0 z1:=hE.grown hg1 hE.size Pk;refine PK ?_;have hT5:Gr m f=(EE (fun x=>rR m x f) N,(List.range N).map fun x=>EE (fun t=>decide (wz m t=x >>> m.1.length)) N,(List.range N).map fun x=>iz m x true,(List.range N).map fun x=>iz m x false,(m.2.filter fun g=>decide (g.k≠7)).map fun g=>EE (ou m g) N):=by rw[hpN];rfl
 refine bh rfl rfl rfl M rfl ⟨⟨_,rfl,?_⟩,hE1⟩;show AutoAt z1 (c7 z1) _ (Gr m f);rw[hT5];exact⟨a1,d1,a2,d2,a3,d3,a4,d4,a5,d5,rfl,s1.mono hk1 hk2,s2.mono hk1 hk2,s3.mono hk1 hk2,s4.mono hk1 hk2,s5.mono hk1 hk2⟩

theorem Sl.notB{w:World}{F:Nat→Prop}{ao:Option Addr}{cap b:Nat}{xs:List Int}{e:TypeId}{cells:List Value}(h:Sl w F ao cap xs)(m:Blk w b e cells)(l:∀(k:Nat) (x:Int),cells[k]?≠some (Value.int IntKind.i64 x)):Sl w (fun c=>F c∧c≠b) ao cap xs:=by
 refine⟨h.le,h.mx,h.nil,fun i hi=>?_⟩;obtain⟨c,off,n,hf,f,d,g⟩:=h.el i hi;have a:f=[Value.int IntKind.i64 xs[i]]:=g;refine⟨c,off,n,⟨hf,fun j=>?_⟩,f,d,a⟩;subst a;have h1:=d 0 _ rfl;rw[j,Ow w b _ cells.toArray e (0,0) m]at h1
 exact l _ _ (by simpa using h1)
def ai(W:cN)(f:Ltl):Prop:=∀ρ,WWay W ρ→EH (fun i=>W.2.2.1.getD (ρ i) 0) f 0
def z_(f:Ltl):Ltl:=.mk 4 0 [f]
theorem sem_not{L:Nat→Nat}{f:Ltl}{i:Nat}:EH L (z_ f) i↔¬EH L f i:=by simp[z_,EH,ET,ES]
theorem nN{W:cN}{f:Ltl}(d:dc W)(h:(yu (z_ f)).2=0):aP W (yu (z_ f)).1↔¬ai W f:=by
 have b:=fun L=>(yx (L:=L) h).2.1
 have okA:=(yx (L:=fun _=>0) h).1;constructor
 ·rintro⟨r,c⟩ a
  obtain⟨h1,h2⟩:=nR d (Ay okA) c;exact sem_not.1 ((b _).1 h2) (a _ h1)
 ·intro hn
  unfold ai at hn
  rw[J4]at hn
  obtain⟨ρ,hρ⟩:=hn;rw[Classical.not_imp]at hρ
  exact nP hρ.1 ((b _).2 (sem_not.2 hρ.2))
structure JudE(W:cN)(f:Ltl)(s l:List Int)(is:Bool)(err:Int):Prop where
 bad:err≠0→is=false∧s=[]∧l=[]
 good:jt W=0→(jv f 1 0).1=0→(yu (z_ f)).2=0→err=0
 ok:err=0→jt W=0∧(jv f 1 0).1=0∧IG f∧(yu (z_ f)).2=0∧(is=true↔ai W f)∧(is=true→s=[]∧l=[])∧(is=false→PathE W (yu (z_ f)).1 s l)
theorem ww{W:cN}{f:Ltl}{s l:List Int}{is:Bool}{err:Int}(hf:(jv f 1 0).1=0)(h:(yu (z_ f)).2=0)(hF:bR W (yu (z_ f)).1 s l is err):JudE W f s l (!is&&decide (err=0)) err:=by
 have c:=(yx (L:=fun _=>0) h).2.2;have g:IG f:=by
  have:=c;unfold z_ at this
  simp only[IG,IH]at this
  exact this.2.2.2.2.1
 have okA:=(yx (L:=fun _=>0) h).1;rcases hF with⟨i,rfl,rfl,rfl,d⟩|⟨rfl,a,n,⟨rfl,rfl,rfl,e⟩|⟨rfl,j,hP⟩⟩
 ·exact⟨fun _=>⟨by simp[i],rfl,rfl⟩,fun a _ _=>(d a (jj okA)).elim,fun m=>absurd m i⟩
 ·exact⟨fun h=>absurd rfl h,fun _ _ _=>rfl,fun _=>⟨a,hf,g,h,⟨fun _=>J5.1 (fun hn=>e ((nN (ju a) h).2 hn)),fun _=>by simp⟩,fun _=>⟨rfl,rfl⟩,fun b=>by simp at b⟩⟩
 ·exact⟨fun h=>absurd rfl h,fun _ _ _=>rfl,fun _=>⟨a,hf,g,h,⟨fun b=>by simp at b,fun k=>absurd k ((nN (ju a) h).1 j)⟩,fun b=>by simp at b,fun _=>hP⟩⟩
theorem wv{W:cN}{f:Ltl}{err:Int}(h:err≠0)(d:jt W=0→(jv f 1 0).1=0→(yu (z_ f)).2=0→False):JudE W f [] [] false err:=
 ⟨fun _=>⟨rfl,rfl,rfl⟩,fun a b c=>(d a b c).elim,fun e=>absurd e h⟩
set_option maxHeartbeats 1000000 in
theorem wd(w0:World){vf:Value}{W:cN}{f:Ltl}{o1 o2 o3 o4:Option Addr}{c1 c2 c3 c4:Nat}(h1:Sl w0 (c7 w0) o1 c1 W.1)(h2:Sl w0 (c7 w0) o2 c2 W.2.1)(h3:Sl w0 (c7 w0) o3 c3 W.2.2.1)(h4:Sl w0 (c7 w0) o4 c4 W.2.2.2)(hf:RL w0 vf f)
  (sW:∀j,(W.2.1.getD j []).length≤1048576) (tW:W.1.length≤1048576):
  Rt Tryz.prog 26 [I1 o1 c1 o2 c2 o3 c3 o4 c4 W.1.length W.2.1.length W.2.2.1.length W.2.2.2.length,vf].toArray w0 fun v w'=>(∃s l is err so sc lo Z,v=.tuple ⟨[BL so sc lo Z s l,.bool is,Py err]⟩∧Sl w' (c7 w') so sc s∧Sl w' (c7 w') lo Z l∧JudE W f s l is err)∧Ext w0 w':=by
 have hm3:=h3.len63;obtain⟨ko,kc,rfl,hk⟩:=Rd.ltl hf;refine dE Tryz.func26 Tryz.ntmps26 rfl rfl ?_;have c:=Ext.refl w0;refine PB ?_;refine dX rfl rfl rfl fun w1 d e1=>?_
 have c:=c.trans e1;skip;refine dX rfl rfl rfl fun w2 g e2=>?_
 have d:=d.ext e2;have c:=c.trans e2;skip;refine WL.alloc rfl rfl (fun w3 a Y=>?_);have d:=d.ext Y;have g:=g.ext Y;have l2:=c.size;have c:=c.trans Y;have l4:=a.lt;refine Q4 ?_;refine WL.call rfl rfl rfl (Ix w3 (h1.up c) (h2.up c) hm3 (h4.up c)) ?_;rintro _ w4 ⟨rfl,R⟩
 have d:=d.ext R;have g:=g.ext R;have a:=a.ext R;have c:=c.trans R;clear e1 e2 Y;refine Qt ?_;apply CW.cond rfl<;>intro h
 ·have h:jt W≠0:=by simpa using h
  refine PB ?_;refine WL.build (parts:=[]) rfl rfl rfl rfl ?_;refine Ri ?_;refine WL.st rfl rfl rfl a rfl rfl Pr (fun U hb5 hg5=>?_);have hE5:Ext w0 U:=c.grown hg5 c.size Pk;refine PS ?_;exact bl rfl rfl rfl rfl hb5 rfl ⟨⟨[],[],false,_,_,_,_,_,rfl,Sl.zero U _,Sl.zero U _,wv h (fun P _ _=>h P)⟩,hE5⟩
 have hW:jt W=0:=by simpa using h
 clear h;refine QH ?_;refine WL.call rfl rfl rfl (yk w4 (hk.up c) Pl) ?_;rintro _ U ⟨rfl,Q⟩
 have d:=d.ext Q;have g:=g.ext Q;have a:=a.ext Q;have c:=c.trans Q;refine Qt ?_;apply CW.cond rfl<;>intro h
 ·have h:(jv f 1 0).1≠0:=by simpa using h
  refine PB ?_;refine WL.build (parts:=[]) rfl rfl rfl rfl ?_;refine Ri ?_;refine WL.st rfl rfl rfl a rfl rfl Pr (fun C hb6 hg6=>?_);have hE6:Ext w0 C:=c.grown hg6 c.size Pk;refine PS ?_;exact bl rfl rfl rfl rfl hb6 rfl ⟨⟨[],[],false,_,_,_,_,_,rfl,Sl.zero C _,Sl.zero C _,wv h (fun _ P _=>h P)⟩,hE6⟩
 have hcf:(jv f 1 0).1=0:=by simpa using h
 clear h;refine QH ?_;refine eT [f] rfl rfl rfl rfl rfl ⟨RL.ext hf c,trivial⟩ (by show 1*3≤16777216;decide) (fun u C e6 hu _=>?_);obtain⟨fo,fc,rfl,H⟩:=hu.sl;skip;refine WL.build (parts:=[(0,_),(2,_)]) rfl rfl rfl rfl ?_;skip;refine WL.call rfl rfl rfl (cT C (t:=z_ f) H) ?_;rintro _ w7 ⟨⟨rv,rfl,hr⟩,e7⟩
 have n:=e6.trans e7;have d:=d.ext n;have g:=g.ext n;have a:=a.ext n;have c:=c.trans n;have D:=yy (z_ f);have I:=fun s l is err=>ww (W:=W) (s:=s) (l:=l) (is:=is) (err:=err) hcf
 have E:=fun err h=>wv (W:=W) (f:=f) (err:=err) h
 obtain⟨q1,f1,q2,f2,q3,f3,q4,f4,q5,f5,rfl,p1,p2,p3,p4,p5⟩:=hr.ok;generalize (yu (z_ f)).2=e at*
 generalize (yu (z_ f)).1=A at*
 clear hr;refine Ri ?_;refine WL.alloc rfl rfl (fun w8 K e8=>?_);skip;refine WL.st rfl rfl rfl K rfl rfl Pr (fun T K F=>?_);have p:Ext w7 T:=e8.grown F e8.size Pi;have d:=d.ext p;have a:=a.ext p;have c:=c.trans p;have hA:AutoAt T (c7 T) _ A:=⟨q1,f1,q2,f2,q3,f3,q4,f4,q5,f5,rfl,p1.up p,p2.up p,p3.up p,p4.up p,p5.up p⟩;clear R Q e6 e7 n e8 p F p1 p2 p3 p4 p5 H hu g;refine Qt ?_;apply CW.cond rfl<;>intro h
 ·have h:e≠0:=by simpa using h
  refine PB ?_;refine WL.build (parts:=[]) rfl rfl rfl rfl ?_;refine Ri ?_;refine WL.st rfl rfl rfl a rfl rfl Pr (fun i M G=>?_);have O:Ext w0 i:=c.grown G c.size Pk;refine PS ?_;exact bl rfl rfl rfl rfl M rfl ⟨⟨[],[],false,_,_,_,_,_,rfl,Sl.zero i _,Sl.zero i _,E _ h (fun _ _ P=>h P)⟩,O⟩
 have he:e=0:=by simpa using h
 clear h;refine QH ?_;refine WL.call rfl rfl rfl (pi T (W:=W) (A:=A) (h1.up c) (h2.up c) (h3.up c) (h4.up c) hA sW D.2.1 tW D.2.2) ?_;rintro _ i ⟨⟨s,l,is,err,so,sc,lo,Z,rfl,hs,hl,hF⟩,S⟩
 have a:=a.ext S;have c:=c.trans S;refine Ri ?_;refine WL.alloc rfl rfl (fun w11 y B=>?_);skip;refine WL.st rfl rfl rfl y rfl rfl Pr (fun o y w=>?_);have q:Ext i o:=B.grown w B.size Pi;have a:=a.ext q;have c:=c.trans q;have hs:=hs.up q;have hl:=hl.up q;have hJ:=I s l is err he hF;clear B w I E hF;have z4:w2.heap.size<o.heap.size:=a.lt;cases is<;>by_cases X:err=0
 all_goals
  first
   |rw[show decide (err=0)=true by simpa using X]at hJ
   |rw[show decide (err=0)=false by simpa using X]at hJ
  first
   |have J:(err==0)=true:=by simpa using X
   |have J:(err==0)=false:=by simpa using X
  refine Q7 ?_
  try rw[J]
  skip;refine WL.st rfl rfl rfl a rfl rfl Pr (fun z L m=>?_);have N:Ext w0 z:=c.grown m c.size Pk;have r:∀{ao:Option Addr} {cap:Nat} {xs:List Int},Sl o (c7 o) ao cap xs→Sl z (c7 z) ao cap xs:=fun h=>(h.notB a (fun k x=>by
   match k with
   |0=>simp
   |1=>simp
   |k+2=>simp)).mono (fun b V=>m.block b V.1 (fun e=>V.2 (Nn e))) (fun b V=>MQ V.1 m.size)
  refine PK ?_;exact bl rfl rfl rfl rfl L rfl ⟨⟨s,l,_,err,_,_,_,_,rfl,r hs,r hl,hJ⟩,N⟩
theorem Ej(P:Program)(w:World)(a:Int)(s:Nat)(b:s≤62)(t:TypeId):(binOp .shr t (Py a) (Py (s:Int))).run P w=.ok (Py (a / 2 ^ s)) w:=by
 rw[binOp_shr,shift_shr_i64 (h₀:=by omega) (h₁:=by omega),Kb];rfl
section
variable {P:Program}{Q:Exit→Act→World→Prop}{n:Nat}{σ:Sg}{w:World}{L rest:List Oper}{d:Nat}{ty:TypeId}{pos:String}{af:Array Edge}{g:Option (Nat×Bool)}{t yt:TypeId}{x y:Operand}
theorem fw{a:Int}{s:Nat}(i:gd L σ ⟨some d,.binOp .shr t x y yt,ty,pos,af,g⟩=some true)(hd:Nat.ble (d+1) n=true)(e:ev σ x=some (Py a))(c:ev σ y=some (Py (s:Int)))(f:s≤62)
  (h:WL P L Q rest n ((d,Py (a / 2 ^ s))::σ) w):WL P L Q (⟨some d,.binOp .shr t x y yt,ty,pos,af,g⟩::rest) n σ w:=by
 refine WL.run i hd (fun j b=>?_) h;have:=Ej P w a s f t;simp[execOp,b.ev e,b.ev c,nt (op:=.shr) rfl,this]
end
abbrev cK:=Int×Int×Int
def F6(kind n:Int)(ins:List Int)(o:Nat):List cK:=
 if kind=4∨kind=2∨kind=3 then ins.map fun f=>(n,f,(2:Int) ^ o -1)
 else if kind=5 then ins.flatMap fun f=>(List.range o).map fun k:Nat=>(n,f,(2:Int) ^ k)
 else if kind=6 then [(n,-1,(2:Int) ^ o -1)]
 else if kind=7 then(List.range (2 ^ o -1)).map fun k:Nat=>(n,-1,(k:Int)+1)
 else []
def xb(p:cI)(n:Nat):Int:=(p.1.getD n (⟨#[]⟩,0)).2
def Gd(p:cI)(n:Nat):List cK:=F6 (xb p n) (n:Int) (vT p.2 (n:Int)) (A8 p.2 (n:Int)).length
def Ge(p:cI)(k:Nat):List cK:=(List.range k).flatMap (Gd p)
abbrev Ga(p:cI):List cK:=Ge p p.1.length
noncomputable def F4(p:cI):List cK×Int:=if jL p≠0 then([],jL p)else if(Ga p).length>60 then([],2)else(Ga p,0)
theorem Gg{p:cI}{k:Nat}:Ge p (k+1)=Ge p k++Gd p k:=by
 unfold Ge;rw[Mb,KM];simp
theorem Cd(o:Nat):(1:Int)≤2 ^ o:=by
 have:=M0 (n:=o)
 exact_mod_cast this
theorem Cb{o m:Nat}(h:o≤m):(2:Int) ^ o≤2 ^ m:=by
 have:=M4 (n:=2) O7 h
 exact_mod_cast this
theorem Cc{o m:Nat}(h:o<m):(2:Int) ^ o<2 ^ m:=by
 have:=M5 (a:=2) O7 h
 exact_mod_cast this
section
variable {kind n:Int}{ins:List Int}{o:Nat}
theorem F9:∀s∈F6 kind n ins o,s.1=n:=by
 intro s a
 unfold F6 at a
 split at a
 ·obtain⟨f,_,rfl⟩:=LU.1 a;rfl
 split at a
 ·obtain⟨f,_,a⟩:=LS.1 a
  obtain⟨k,_,rfl⟩:=LU.1 a;rfl
 split at a
 ·rw[L0]at a;subst a;rfl
 split at a
 ·obtain⟨k,_,rfl⟩:=LU.1 a;rfl
 ·cases a
theorem F7:∀s∈F6 kind n ins o,s.2.1= -1∨s.2.1∈ins:=by
 intro s a
 unfold F6 at a
 split at a
 ·obtain⟨f,h,rfl⟩:=LU.1 a;exact .inr h
 split at a
 ·obtain⟨f,h,a⟩:=LS.1 a
  obtain⟨k,_,rfl⟩:=LU.1 a;exact .inr h
 split at a
 ·rw[L0]at a;subst a;exact .inl rfl
 split at a
 ·obtain⟨k,_,rfl⟩:=LU.1 a;exact .inl rfl
 ·cases a
theorem F_:∀s∈F6 kind n ins o,0≤s.2.2∧s.2.2<2 ^ o:=by
 intro s a
 have c:=Cd o;unfold F6 at a
 split at a
 ·obtain⟨f,h,rfl⟩:=LU.1 a;dsimp only;omega
 split at a
 ·obtain⟨f,h,a⟩:=LS.1 a
  obtain⟨k,b,rfl⟩:=LU.1 a;have:=Cc (LZ.1 b);have:=Cd k;dsimp only;omega
 split at a
 ·rw[L0]at a;subst a;dsimp only;omega
 split at a
 ·obtain⟨k,b,rfl⟩:=LU.1 a
  have b:=LZ.1 b;have:((2 ^ o:Nat):Int)=(2:Int) ^ o:=by push_cast;rfl
  dsimp only;omega
 ·cases a
theorem F8(h:ins.length≤30)(d:o≤30)(e:kind=7→o≤4):(F6 kind n ins o).length≤900:=by
 unfold F6;split
 ·rw[Ls];omega
 split
 ·rw[List.length_flatMap]
  have:∀l:List Int,(l.map fun f:Int=>((List.range o).map fun k:Nat=>((n,f,(2:Int) ^ k):cK)).length).sum=l.length*o:=fun l=>by
   induction l with
   |nil=>simp
   |cons a l c=>rw[LG,Mh,c,Ls,Lv,Lm,Mt];omega
  rw[this];exact MV h d
 split
 ·simp
 split
 ·rename_i b
  have:=e b;rw[Ls,Lv];have:2 ^ o≤2 ^ 4:=M4 O7 this;omega
 ·simp
end
theorem vU{fl:List cF}{n:Int}:(vT fl n).Nodup:=by
 unfold vT vV;rw[List.Nodup,L_];exact(L5.filter _).imp fun a e=>a O7
theorem AJ{p:cI}(h:OkPr p){n:Nat}(hn:n<p.1.length)(a:xb p n=7):(A8 p.2 (n:Int)).length≤4:=by
 have:=h.count n hn;unfold xb at a
 rw[a]at this
 unfold kP at this
 simp at this
 omega
theorem Gf{p:cI}(h:OkPr p):∀k,k≤p.1.length→(Ge p k).length≤900*k
 |0,_=>by simp[Ge]
 |k+1,c=>by
  have b:=Gf h k O7;rw[Gg,Ll];have h1:(vT p.2 (k:Int)).length≤p.2.length:=vW;have h2:(A8 p.2 (k:Int)).length≤p.2.length:=Ba;have:=h.f;have:=F8 (kind:=xb p k) (n:=(k:Int)) (ins:=vT p.2 (k:Int)) (o:=(A8 p.2 (k:Int)).length) O7 O7 (fun a=>AJ h O7 a);unfold Gd;omega
theorem stepsP_mem{p:cI}{k:Nat}{s:cK}:s∈Ge p k↔∃n,n<k∧s∈Gd p n:=by
 unfold Ge;rw[LS];exact exists_congr fun n=>by rw[LZ]
def hZ(p:cI):List Int:=p.2.map fun f=>if xb p f.1.toNat=1 then 1 else 0
def G1(n:Int):Bool:=decide (n<0)||decide (n>9)
noncomputable def jG(p:cI)(m:List Int):Int:=if(F4 p).2≠0 then(F4 p).2 else if m.length≠p.2.length∨m.any G1=true then 1 else 0
def kA(fl:List cF)(n:Int)(s:List Bool×List Int)(i:Nat):List Bool×List Int:=
 if(fl.getD i (0,0)).2=n∧s.1.getD i false=false then(s.1.set i true,s.2++[(i:Int)])else s
def kr(fl:List cF)(but:Int):Nat→List Bool→List Int→List Bool
 |0,out,_=>out
 |_+1,out,[]=>out
 |f+1,out,x::r=>
  if(fl.getD x.toNat (0,0)).1=but then kr fl but f out r
  else kr fl but f ((List.range fl.length).foldl (kA fl (fl.getD x.toNat (0,0)).1) (out,r)).1 ((List.range fl.length).foldl (kA fl (fl.getD x.toNat (0,0)).1) (out,r)).2
def kx(fl:List cF)(flow:Nat)(but:Int):List Bool:=kr fl but fl.length ((List.replicate fl.length false).set flow true) [(flow:Int)]
def oG(l:List Bool):Nat:=l.countP fun b=>!b
theorem oJ{l:List Bool}{k:Nat}(a:k<l.length)(h:l.getD k false=false):oG (l.set k true)+1=oG l:=by
 unfold oG;rw[KT,KY a]at h
 have h:l[k]=false:=h;rw[Kt a,h];have:0<l.countP fun b=>!b:=Kr.2 ⟨l[k],Lc a,by simp[h]⟩
 simp;omega
theorem oI{n:Nat}:oG (List.replicate n false)=n:=by simp[oG,Ks]
theorem oH{l:List Bool}:oG l≤l.length:=Kq
structure ComeI(fl:List cF)(out:List Bool)(todo:List Int):Prop where
 len:out.length=fl.length
 ok:∀x∈todo,0≤x∧x<fl.length
theorem kB{fl:List cF}{n:Int}{out:List Bool}{a:List Int}{i:Nat}(hi:i<fl.length)(h:ComeI fl out a):
  ComeI fl (kA fl n (out,a) i).1 (kA fl n (out,a) i).2∧(kA fl n (out,a) i).2.length+oG (kA fl n (out,a) i).1=a.length+oG out:=by
 unfold kA;split
 ·rename_i c
  have:=oJ (l:=out) (k:=i) (by rw[h.len];exact hi) c.2;refine⟨⟨by simpa using h.len,fun x b=>?_⟩,by simp only[Ll,Lm,Lt];omega⟩;rcases LK.1 b with b|b
  ·exact h.ok x b
  ·rw[L0]at b;omega
 ·exact⟨h,rfl⟩
theorem ku{fl:List cF}{but:Int}{f:Nat}{out:List Bool}:kr fl but f out []=out:=by cases f<;>rfl
theorem kt{fl:List cF}{but:Int}:∀(f:Nat) (out:List Bool) (b:List Int),out.length=fl.length→(kr fl but f out b).length=fl.length
 |0,out,_,h=>h
 |_+1,out,[],h=>h
 |f+1,out,x::r,h=>by
  unfold kr;split
  ·exact kt f _ _ h
  ·refine kt f _ _ ?_
   have:∀(l:List Nat) (s:List Bool×List Int),s.1.length=fl.length→(l.foldl (kA fl (fl.getD x.toNat (0,0)).1) s).1.length=fl.length:=by
    intro l
    induction l with
    |nil=>intro s h;exact h
    |cons a l c=>
     intro s h
     refine c _ ?_;unfold kA;split
     ·simpa using h
     ·exact h
   exact this _ _ h
theorem ky{fl:List cF}{flow:Nat}{but:Int}:(kx fl flow but).length=fl.length:=kt _ _ _ O_
def gT(p:cI)(m:List Int)(node f:Int):Bool:=(List.range p.2.length).any fun i=>(kx p.2 f.toNat node).getD i false&&decide (m.getD i 0>0)&&decide ((p.2.getD i (0,0)).2≠node)
def wq(p:cI)(m:List Int)(node:Int):Bool:=
 if(vT p.2 node).any (fun f=>!decide (m.getD f.toNat 0>0)&&gT p m node f)=true then false else(vT p.2 node).any fun f=>decide (m.getD f.toNat 0>0)
def m_(p:cI)(m:List Int)(s:cK):Bool:=
 if 0≤s.2.1 then decide (m.getD s.2.1.toNat 0>0)else if xb p s.1.toNat=7 then wq p m s.1 else !(vT p.2 s.1).any fun f=>m.getD f.toNat 0==0
def i7(p:cI)(m:List Int)(k:Nat):List Int:=((List.range k).filter fun i=>m_ p m ((Ga p).getD i (0,0,0))).map fun i:Nat=>(i:Int)
abbrev i6(p:cI)(m:List Int):List Int:=i7 p m (Ga p).length
theorem i9{p:cI}{m:List Int}{k:Nat}:i7 p m (k+1)=i7 p m k++(if m_ p m ((Ga p).getD k (0,0,0))=true then [(k:Int)]else []):=by
 unfold i7;rw[Mb,KF,LE]
 congr 1
 by_cases h:m_ p m ((Ga p).getD k (0,0,0))=true
 ·rw[OK h,KI (p:=fun i=>m_ p m ((Ga p).getD i (0,0,0))) h];rfl
 ·rw[OJ h,KH (p:=fun i=>m_ p m ((Ga p).getD i (0,0,0))) h];rfl
def GN(m:List Int)(s:cK)(f:Int):Int:=if s.2.1=f∨s.2.1<0∧m.getD f.toNat 0>0 then m.getD f.toNat 0 -1 else m.getD f.toNat 0
def GD(s:cK):List Int→List Int→List Int
 |m,[]=>m
 |m,f::r=>GD s (m.set f.toNat (GN m s f)) r
def iq(n:Int)(k:Nat):Int:=(n / 2 ^ k) % 2
def CA(n:Int):Nat→List Int→List Int→Option (List Int)
 |_,m,[]=>some m
 |k,m,f::r=>if iq n k=1 then(if m.getD f.toNat 0+1>9 then none else CA n (k+1) (m.set f.toNat (m.getD f.toNat 0+1)) r)else CA n (k+1) m r
def pw(p:cI)(m:List Int)(s:cK):Option (List Int):=
 if xb p s.1.toNat=3 then some (m.map fun _=>0)else CA s.2.2 0 (GD s m (vT p.2 s.1)) (A8 p.2 s.1)
noncomputable def pj(p:cI)(m:List Int)(k:Int):List Int×Int:=
 if jG p m≠0 then([],jG p m)else if k<0∨k≥(Ga p).length then([],1)
 else if m_ p m ((Ga p).getD k.toNat (0,0,0))=false then([],9)
 else((pw p m ((Ga p).getD k.toNat (0,0,0))).getD [],if(pw p m ((Ga p).getD k.toNat (0,0,0))).isSome then 0 else 7)
noncomputable def i3(p:cI)(m:List Int):List Int:=if jG p m=0 then i6 p m else []
theorem vO(w0:World){ao:Option Addr}{cap:Nat}{xs:List (ByteArray×Int)}{fv:Value}(p:(ByteArray×Int)→Bool)(f:Sl w0 (c7 w0) ao cap xs)
  (hf:∀w,Ext w0 w→∀i (h:i<xs.length) u,Rd w (c7 w0) u xs[i]→FnV Tryz.prog fv [u] w fun v w'=>v=.bool (p xs[i])∧Ext w w'):
  Rt Tryz.prog 152 [.slice ao xs.length cap,fv].toArray w0 fun v w'=>v=Py (idxOf p xs)∧Ext w0 w':=by
 have m:=f.len63;refine dE Tryz.func152 Tryz.ntmps152 rfl rfl ?_;refine Q3 ?_;refine CW.loop (S:=Nat) (fun k=>[(0,.slice ao xs.length cap),(1,fv),(7,Py xs.length),(8,Py k)])
  (fun k w=>k≤xs.length∧Ext w0 w∧∀j (h:j<xs.length),j<k→p xs[j]=false) (fun k=>xs.length -k) 0 O6 ⟨by omega,Ext.refl _,by omega⟩ ?_
 rintro k w ⟨n,b,hn⟩
 refine Qt ?_;apply CW.cond rfl<;>intro h
 ·simp at h
  refine PT ?_;refine eC rfl rfl rfl rfl rfl (f.at b) h Pg (fun u q g=>?_);refine d7 rfl rfl rfl rfl (hf w b k h u g) ?_;rintro v w' ⟨rfl,a⟩
  refine PU ?_;refine CW.cond rfl (fun d=>?_) (fun d=>?_)
  ·refine PA ?_
   refine be rfl rfl ⟨?_,b.trans a⟩;rw[vq h hn d]
  ·refine PI ?_
   refine EX.back (k+1) O6 ⟨h,b.trans a,?_⟩ O7;intro j c l
   by_cases e:j=k
   ·subst e;exact d
   ·exact hn j c O7
 ·simp at h
  refine P_ ?_;refine be rfl rfl ⟨?_,b⟩;rw[vw (fun j c=>hn j c O7)]
theorem kF(w0:World){ao:Option Addr}{cap:Nat}{xs:List (ByteArray×Int)}{fv:Value}(p:(ByteArray×Int)→Bool)(a:Sl w0 (c7 w0) ao cap xs)
  (hf:∀w,Ext w0 w→∀i (h:i<xs.length) u,Rd w (c7 w0) u xs[i]→FnV Tryz.prog fv [u] w fun v w'=>v=.bool (p xs[i])∧Ext w w'):
  Rt Tryz.prog 213 [.slice ao xs.length cap,fv].toArray w0 fun v w'=>v=.bool (xs.any p)∧Ext w0 w':=by
 refine dE Tryz.func213 Tryz.ntmps213 rfl rfl ?_;refine Qt ?_;refine WL.call rfl rfl rfl (vO w0 p a hf) ?_;rintro v w' ⟨rfl,b⟩
 refine PK ?_;refine be rfl rfl ⟨?_,b⟩;rw[←vl]
class IsStr(P:Program)(t:TypeId):Prop where
 ok:P.underlying t=some .string
instance uT:IsStr Tryz.prog 9:=⟨Oa⟩
section
variable {P:Program}{Q:Exit→Act→World→Prop}{n:Nat}{σ:Sg}{w:World}{L rest:List Oper}{d:Nat}{op:Op}{ty:TypeId}{pos:String}{af:Array Edge}{g:Option (Nat×Bool)}{t:TypeId}{x ix:Operand}
theorem eR{s:ByteArray}(e:gd L σ ⟨some d,.call ⟨.builtin .len,#[x],#[t]⟩,ty,pos,af,g⟩=some true)(hd:Nat.ble (d+1) n=true)
  (b:ev σ x=some (.string s)) [c:IsStr P t] (h:WL P L Q rest n ((d,Py (s.size:Int))::σ) w):WL P L Q (⟨some d,.call ⟨.builtin .len,#[x],#[t]⟩,ty,pos,af,g⟩::rest) n σ w:=by
 refine WL.run e hd (fun a f=>?_) h;simp[execOp,resolve,invoke,builtin,f.ev b,Builtin.len_,OW c.ok,goInt]
theorem dZ{s:ByteArray}{i:Nat}{kd:IntKind}(j:gd L σ ⟨some d,.index t x ix,ty,pos,af,g⟩=some true)(hd:Nat.ble (d+1) n=true)
  (c:ev σ x=some (.string s)) (hi:ev σ ix=some (.int kd (i:Int))) [f:IsStr P t] (h1:i<s.size) (h:WL P L Q rest n ((d,.int .u8 ((s[i]).toNat:Int))::σ) w):WL P L Q (⟨some d,.index t x ix,ty,pos,af,g⟩::rest) n σ w:=by
 refine WL.run j hd (fun a b=>?_) h;have e:s[i]?=some s[i]:=by simp[h1]
 simp[execOp,b.ev c,b.ev hi,Instr.index,asIntOf,OW f.ok,e]
end
abbrev Cq(so:Option Addr)(sc:Nat)(fo:Option Addr)(fc:Nat)(n m:Nat):Value:=.agg [.slice so n sc,.slice fo m fc].toArray
theorem Rd.proc{w:World}{F:Nat→Prop}{v:Value}{x:cI}(h:Rd w F v x):∃so sc fo fc,v=Cq so sc fo fc x.1.length x.2.length∧Sl w F so sc x.1∧Sl w F fo fc x.2:=by
 obtain⟨c1,c2,rfl,h1,h2⟩:=h.pr;obtain⟨so,sc,rfl,k1⟩:=C9 h1;obtain⟨lo,a,rfl,k2⟩:=C9 h2;exact⟨so,sc,lo,a,rfl,k1,k2⟩
theorem Rd.flow{w:World}{F:Nat→Prop}{v:Value}{x:cF}(h:Rd w F v x):v=.agg [Py x.1,Py x.2].toArray:=by
 obtain⟨c1,c2,rfl,h1,h2⟩:=h.pr;rw[C3 h1,C3 h2];rfl
theorem Rd.node{w:World}{F:Nat→Prop}{v:Value}{x:cG}(h:Rd w F v x):v=.agg [.string x.1,Py x.2].toArray:=by
 obtain⟨c1,c2,rfl,h1,h2⟩:=h.pr;rw[C3 h2,h1.1];rfl
theorem qH{l:List cF}{j:Nat}(h:j<l.length):l.getD j (0,0)=l[j]:=by rw[KT,KY h];rfl
theorem qL{l:List cG}{j:Nat}(h:j<l.length):l.getD j (⟨#[]⟩,0)=l[j]:=by rw[KT,KY h];rfl
theorem Fx(s:ByteArray):s.data.toList.length=s.size:=by simp
theorem cX(w0:World)(s:ByteArray):Rt Tryz.prog 51 [.string s].toArray w0 fun v w'=>v=.bool (yZ s)∧Ext w0 w':=by
 refine dD Tryz.func51 Tryz.ntmps51 rfl rfl ?_;unfold yZ y0;refine Qt ?_;by_cases h1:(s.data.toList==[])=true
 ·rw[show(s.data.toList==(ByteArray.mk #[]).data.toList)=true from h1]
  refine Q6 ?_;refine be rfl rfl ⟨?_,Ext.refl _⟩;rfl
 have h1:(s.data.toList==[])=false:=by simpa using h1
 rw[show(s.data.toList==(ByteArray.mk #[]).data.toList)=false from h1]
 try rw[h1]
 refine Ri ?_;refine eR rfl rfl rfl ?_;rw[←Fx];refine Ri ?_;by_cases h2:decide ((s.data.toList.length:Int)>8)=true
 ·rw[h2]
  refine Q6 ?_;exact be rfl rfl ⟨rfl,Ext.refl _⟩
 have h2:decide ((s.data.toList.length:Int)>8)=false:=by simpa using h2
 rw[h2];refine Ri ?_;by_cases h3:(s.data.toList==[116,114,117,101])=true
 ·rw[show(s.data.toList==(ByteArray.mk #[116,114,117,101]).data.toList)=true from h3]
  try rw[h3]
  refine Q6 ?_;exact be rfl rfl ⟨rfl,Ext.refl _⟩
 have h3:(s.data.toList==[116,114,117,101])=false:=by simpa using h3
 rw[show(s.data.toList==(ByteArray.mk #[116,114,117,101]).data.toList)=false from h3]
 try rw[h3]
 refine Ri ?_;by_cases h4:(s.data.toList==[102,97,108,115,101])=true
 ·rw[show(s.data.toList==(ByteArray.mk #[102,97,108,115,101]).data.toList)=true from h4]
  try rw[h4]
  refine Q6 ?_;exact be rfl rfl ⟨rfl,Ext.refl _⟩
 have h4:(s.data.toList==[102,97,108,115,101])=false:=by simpa using h4
 rw[show(s.data.toList==(ByteArray.mk #[102,97,108,115,101]).data.toList)=false from h4]
 try rw[h4]
 refine PN ?_;by_cases g:(s.data.toList==[115,105,108,101,110,116])=true
 ·rw[show(s.data.toList==(ByteArray.mk #[115,105,108,101,110,116]).data.toList)=true from g]
  try rw[g]
  refine Q6 ?_;exact be rfl rfl ⟨rfl,Ext.refl _⟩
 have g:(s.data.toList==[115,105,108,101,110,116])=false:=by simpa using g
 rw[show(s.data.toList==(ByteArray.mk #[115,105,108,101,110,116]).data.toList)=false from g]
 try rw[g]
 simp only[JT,JZ];have o:s.size≤8:=by have:=Fx s;simp at h2;omega
 refine Qv ?_;refine eR rfl rfl rfl ?_;refine Qs ?_;refine CW.loop (S:=Nat) (fun i=>[(0,.string s),(24,Py s.size),(25,Py i)])
  (fun i w=>i≤s.size∧w=w0∧∀j (h:j<s.size),j<i→yg s[j]=true) (fun i=>s.size -i) 0 O6 ⟨by omega,rfl,by omega⟩ ?_
 rintro i w ⟨hi,rfl,hn⟩
 have c:∀j (h:j<s.size),s.data.toList[j]'(by rw[Fx];exact h)=s[j]:=fun j h=>by simp;rfl
 refine Qt ?_;apply CW.cond rfl<;>intro h
 ·have a:i<s.size:=by simp at h;omega
  have d:yg s[i]=false→s.data.toList.all yg=false:=fun n=>by
   rw[List.all_eq_false];exact⟨_,Lc (by rw[Fx];exact a),by rw[c i a,n];simp⟩
  refine PT ?_;refine dZ rfl rfl rfl rfl a ?_;refine Ri ?_;by_cases b:decide (((s[i].toNat:Nat):Int)<97)=true
  ·rw[b]
   refine PM ?_;refine be rfl rfl ⟨?_,Ext.refl _⟩;rw[d (by unfold yg;rw[b];rfl)]
  have b:decide (((s[i].toNat:Nat):Int)<97)=false:=by simpa using b
  rw[b];refine Ri ?_;refine dZ rfl rfl rfl rfl a ?_;refine PN ?_;apply CW.cond rfl<;>intro k
  ·refine PA ?_
   refine be rfl rfl ⟨?_,Ext.refl _⟩;rw[d (by unfold yg;rw[b,k];rfl)]
  ·refine PI ?_
   refine EX.back (i+1) O6 ⟨a,rfl,fun j f m=>?_⟩ O7;by_cases e:j=i
   ·subst e;unfold yg;rw[b,k];rfl
   ·exact hn j f O7
 ·have a:i=s.size:=by simp at h;omega
  subst a;refine P_ ?_;refine be rfl rfl ⟨?_,Ext.refl _⟩;rw[Kd.2];intro x l
  obtain⟨j,f,rfl⟩:=LT.1 l;rw[Fx]at f
  rw[c j f];exact hn j f f
theorem kQ(w0:World)(k:Int)(i o:Nat):Rt Tryz.prog 138 [Py k,Py (i:Int),Py (o:Int)].toArray w0 fun v w'=>v=.bool (kP k i o)∧w0=w':=by
 refine dF Tryz.func138 Tryz.ntmps138 rfl rfl ?_;have d:∀(a:Nat) (b:Nat),(((a:Int))==(b:Int))=decide (a=b):=fun a b=>by rw[JN];simp;omega
 have c:∀(a:Nat),decide ((a:Int)>0)=decide (0<a):=fun a=>by rw[JN];simp
 unfold kP;refine Qj ?_;by_cases h1:k=1
 ·subst h1
  refine Qi ?_;by_cases hi:i=0
  ·subst hi
   refine P2 ?_;refine be rfl rfl ⟨?_,rfl⟩;rw[show((o:Int)==1)=decide (o=1) from d o 1];simp
  ·have:((i:Int)==0)=false:=by simpa using hi
   rw[this];refine Qb ?_;refine be rfl rfl ⟨?_,rfl⟩;simp[hi]
 have b1:(k==1)=false:=by simpa using h1
 rw[OJ h1,b1];refine Qv ?_;by_cases h2:k=2
 ·subst h2
  refine Qi ?_;by_cases hi:0<i
  ·rw[c i,OC hi]
   refine P2 ?_;refine be rfl rfl ⟨?_,rfl⟩;rw[show((o:Int)==0)=decide (o=0) from d o 0];simp
  ·rw[c i,Oz hi]
   refine Qb ?_;refine be rfl rfl ⟨?_,rfl⟩;simp
 have b2:(k==2)=false:=by simpa using h2
 rw[b2];refine QA ?_;by_cases h3:k=3
 ·subst h3
  refine Qi ?_;by_cases hi:0<i
  ·rw[c i,OC hi]
   refine P2 ?_;refine be rfl rfl ⟨?_,rfl⟩;rw[show((o:Int)==0)=decide (o=0) from d o 0];simp
  ·rw[c i,Oz hi]
   refine Qb ?_;refine be rfl rfl ⟨?_,rfl⟩;simp
 have p:(k==3)=false:=by simpa using h3
 rw[OJ O7,p];refine Qv ?_;by_cases h4:k=4
 ·subst h4
  refine Qi ?_;by_cases hi:0<i
  ·rw[c i,OC hi]
   refine P2 ?_;refine be rfl rfl ⟨?_,rfl⟩;rw[show((o:Int)==1)=decide (o=1) from d o 1];simp
  ·rw[c i,Oz hi]
   refine Qb ?_;refine be rfl rfl ⟨?_,rfl⟩;simp
 have n:(k==4)=false:=by simpa using h4
 rw[OJ h4,n];refine Qv ?_;by_cases e:k=7
 ·subst e
  refine QC ?_;apply CW.cond rfl<;>intro f
  ·refine PA ?_
   refine be rfl rfl ⟨?_,rfl⟩;simp at f
   simp;omega
  simp at f
  refine QP ?_;by_cases hi:0<i
  ·rw[c i,OC hi]
   refine P2 ?_;refine be rfl rfl ⟨?_,rfl⟩;rw[c o];simp;omega
  ·rw[c i,Oz hi]
   refine Qb ?_;refine be rfl rfl ⟨?_,rfl⟩;simp
 have j:(k==7)=false:=by simpa using e
 rw[OJ e,j];refine Qv ?_;by_cases h:k=5
 ·subst h
  refine Qi ?_;by_cases hi:0<i
  ·rw[c i,OC hi]
   refine P2 ?_;refine be rfl rfl ⟨?_,rfl⟩;rw[c o];simp
  ·rw[c i,Oz hi]
   refine Qb ?_;refine be rfl rfl ⟨?_,rfl⟩;simp
 have m:(k==5)=false:=by simpa using h
 rw[m];refine QA ?_;by_cases g:k=6
 ·subst g
  refine Qi ?_;by_cases hi:0<i
  ·rw[c i,OC hi]
   refine P2 ?_;refine be rfl rfl ⟨?_,rfl⟩;rw[c o];simp
  ·rw[c i,Oz hi]
   refine Qb ?_;refine be rfl rfl ⟨?_,rfl⟩;simp
 have l:(k==6)=false:=by simpa using g
 rw[OJ O7,l];refine QC ?_;exact be rfl rfl ⟨rfl,rfl⟩
theorem vY(w0:World){so fo:Option Addr}{sc fc k:Nat}{fl:List cF}(hf:Sl w0 (c7 w0) fo fc fl)(n:Int)(I:fl.length≤1000):
  Rt Tryz.prog 139 [Cq so sc fo fc k fl.length,Py n].toArray w0 fun v w'=>Own w' w0.heap.size 3 cZ v (vT fl n)∧Ext w0 w':=by
 refine dE Tryz.func139 Tryz.ntmps139 rfl rfl ?_;refine PB ?_;refine dX rfl rfl rfl fun g D t=>?_
 refine QX ?_;refine CW.loop (S:=Nat×Value) (fun s=>[(1,Py n),(2,Pz w0.heap.size),(5,s.2),(9,.slice fo fl.length fc),(10,Py fl.length),(11,Py s.1)])
  (fun s w=>s.1≤fl.length∧Own w g.heap.size 3 cZ s.2 (vV fl n s.1)∧Ext g w) (fun s=>fl.length -s.1) (0,.slice none 0 0) O6 ⟨Nc _,Own.nil,Ext.refl _⟩ ?_
 rintro⟨i,ov⟩ z ⟨hi,d,r⟩
 dsimp only at hi d⊢
 have m:=t.trans r;have C:=vW (fl:=fl) (n:=n) (k:=i);have a:=vX (fl:=fl) (n:=n) (k:=i);refine Qt ?_;apply CW.cond rfl<;>intro h
 ·have c:i<fl.length:=by simp at h;omega
  rw[qH c]at a
  refine PX ?_;refine eC rfl rfl rfl rfl rfl (hf.at m) c Pg (fun u q B=>?_);obtain rfl:=B.flow;skip;refine WL.alloc rfl rfl (fun H f o=>?_);refine Ri ?_;refine WL.st rfl rfl rfl f rfl rfl Pr (fun y f l=>?_);have e:Ext z y:=o.grown l o.size Pi;have d:=d.extN e;have e:=r.trans e;refine QR ?_;apply CW.cond rfl<;>intro h2
  ·rw[OK h2]at a
   refine PY ?_;refine dW (F:=cZ) (yv:=(i:Int)) rfl rfl Pg rfl rfl Pg d Pt e.size Pj O9 Pb O7 (fun A x p ho5 j hnb=>?_);rw[←a]at ho5
   have G:Ext g x:=e.grown j e.size (fun b E=>(d.lt b E).1);refine Qc ?_;exact EX.back (i+1,A) O6 ⟨c,ho5,G⟩ Pa
  ·rw[OJ (by rw[h2];simp),Ki]at a
   refine PI ?_;exact EX.back (i+1,ov) O6 ⟨c,by dsimp only;rw[a];exact d,e⟩ Pa
 ·obtain rfl:i=fl.length:=by simp at h;omega
  refine P_ ?_;exact be rfl rfl ⟨d.low t.size,m⟩
theorem Bd(w0:World){so fo:Option Addr}{sc fc k:Nat}{fl:List cF}(hf:Sl w0 (c7 w0) fo fc fl)(n:Int)(I:fl.length≤1000):
  Rt Tryz.prog 140 [Cq so sc fo fc k fl.length,Py n].toArray w0 fun v w'=>Own w' w0.heap.size 3 cZ v (A8 fl n)∧Ext w0 w':=by
 refine dE Tryz.func140 Tryz.ntmps140 rfl rfl ?_;refine PB ?_;refine dX rfl rfl rfl fun g D t=>?_
 refine QX ?_;refine CW.loop (S:=Nat×Value) (fun s=>[(1,Py n),(2,Pz w0.heap.size),(5,s.2),(9,.slice fo fl.length fc),(10,Py fl.length),(11,Py s.1)])
  (fun s w=>s.1≤fl.length∧Own w g.heap.size 3 cZ s.2 (A_ fl n s.1)∧Ext g w) (fun s=>fl.length -s.1) (0,.slice none 0 0) O6 ⟨Nc _,Own.nil,Ext.refl _⟩ ?_
 rintro⟨i,ov⟩ z ⟨hi,d,r⟩
 dsimp only at hi d⊢
 have m:=t.trans r;have C:=Ba (fl:=fl) (n:=n) (k:=i);have a:=Bb (fl:=fl) (n:=n) (k:=i);refine Qt ?_;apply CW.cond rfl<;>intro h
 ·have c:i<fl.length:=by simp at h;omega
  rw[qH c]at a
  refine PX ?_;refine eC rfl rfl rfl rfl rfl (hf.at m) c Pg (fun u q B=>?_);obtain rfl:=B.flow;skip;refine WL.alloc rfl rfl (fun H f o=>?_);refine Ri ?_;refine WL.st rfl rfl rfl f rfl rfl Pr (fun y f l=>?_);have e:Ext z y:=o.grown l o.size Pi;have d:=d.extN e;have e:=r.trans e;refine QR ?_;apply CW.cond rfl<;>intro h2
  ·rw[OK h2]at a
   refine PY ?_;refine dW (F:=cZ) (yv:=(i:Int)) rfl rfl Pg rfl rfl Pg d Pt e.size Pj O9 Pb O7 (fun A x p ho5 j hnb=>?_);rw[←a]at ho5
   have G:Ext g x:=e.grown j e.size (fun b E=>(d.lt b E).1);refine Qc ?_;exact EX.back (i+1,A) O6 ⟨c,ho5,G⟩ Pa
  ·rw[OJ (by rw[h2];simp),Ki]at a
   refine PI ?_;exact EX.back (i+1,ov) O6 ⟨c,by dsimp only;rw[a];exact d,e⟩ Pa
 ·obtain rfl:i=fl.length:=by simp at h;omega
  refine P_ ?_;exact be rfl rfl ⟨d.low t.size,m⟩
theorem zL(w:World)(m:cG)(b:Nat){x:cG}(a:Blk w b 123 [.string x.1,Py x.2]):
  Rt Tryz.prog 214 [.agg [.string m.1,Py m.2].toArray,Pz b].toArray w fun v w'=>v=.bool (yY m.1 x.1)∧Ext w w':=by
 refine dE Tryz.func214 Tryz.ntmps214 rfl rfl ?_;refine PB ?_;refine dX rfl rfl rfl fun e d c=>?_
 have a:=a.ext c;refine Q8 ?_;exact be rfl rfl ⟨rfl,c⟩
theorem zU(w0:World){so fo:Option Addr}{sc fc k:Nat}{ns:List cG}(p:Sl w0 (c7 w0) so sc ns):
  Rt Tryz.prog 137 [Cq so sc fo fc ns.length k].toArray w0 fun v w'=>v=Py (zM ns)∧Ext w0 w':=by
 have O:=p.len63;have H:=p.le;refine dD Tryz.func137 Tryz.ntmps137 rfl rfl ?_;refine PB ?_;refine dX rfl rfl rfl fun F a M=>?_
 have J:=a.lt;refine QX ?_;refine CW.loop (S:=Nat) (fun i=>[(1,Pz w0.heap.size),(6,.slice so ns.length sc),(7,Py ns.length),(8,Py i)])
  (fun i w=>i≤ns.length∧Ext F w∧∀j,j<i→zG ns j=0) (fun i=>ns.length -i) 0 O6 ⟨by omega,Ext.refl _,by omega⟩ ?_
 rintro i w ⟨hi,e,g⟩
 have f:=M.trans e;have a:=a.ext e;refine Qt ?_;apply CW.cond rfl<;>intro h
 ·have d:i<ns.length:=by simp at h;omega
  have l:=qL d;refine PX ?_;refine eC rfl rfl rfl rfl rfl (p.at f) d Pg (fun u q s=>?_);obtain rfl:=s.node;skip;refine WL.alloc rfl rfl (fun N c D=>?_);have I:=c.lt;refine Ri ?_;refine WL.st rfl rfl rfl c rfl rfl Pr (fun C c x=>?_);have A:Ext w C:=D.grown x D.size Pi;have a:=a.ext A;have f:=f.trans A;refine QR ?_;refine WL.call rfl rfl rfl (cX C ns[i].1) ?_;rintro _ E ⟨rfl,r⟩
  have a:=a.ext r;have c:=c.ext r;have f:=f.trans r;have z:=A.trans r;have b:(!yZ ns[i].1||decide (ns[i].2<1)||decide (ns[i].2>7))=true→zM ns=1:=fun L=>by
   have:zG ns i=1:=by unfold zG;rw[l,OK L]
   rw[zO d g (by rw[this];decide),this]
  refine Ri ?_;by_cases c1:yZ ns[i].1=true
  ·rw[c1]at b⊢
   refine Rs ?_;by_cases c2:decide (ns[i].2<1)=true
   ·rw[c2]
    refine PM ?_;refine be rfl rfl ⟨?_,f⟩;rw[b (by rw[c2];rfl)]
   have c2:decide (ns[i].2<1)=false:=by simpa using c2
   rw[c2];refine QM ?_;by_cases c3:decide (ns[i].2>7)=true
   ·rw[c3]
    refine QK ?_;refine be rfl rfl ⟨?_,f⟩;rw[b (by rw[c2,c3];rfl)]
   have c3:decide (ns[i].2>7)=false:=by simpa using c3
   rw[c3];refine QI ?_;refine eh (α:=cG) i rfl rfl rfl rfl rfl O7 ?_;refine Rq ?_;have n:=(p.up f).take (k:=i) O7;have t:(ns.take i).length=i:=by rw[LB];omega
   have o:=kF E (fv:=.func (.func 214) [].toArray [Pz w.heap.size].toArray) (fun m=>yY m.1 ns[i].1) n (fun B G j K u s=>by
    obtain rfl:=s.node;exact FnV.mk (cs:=[_]) (zL B _ _ (c.ext G)))
   rw[t]at o
   refine WL.call rfl rfl rfl o ?_;rintro _ B ⟨rfl,y⟩
   have a:=a.ext y;refine PU ?_;apply CW.cond rfl<;>intro h2
   ·refine PA ?_
    refine be rfl rfl ⟨?_,f.trans y⟩;have:zG ns i=4:=by unfold zG;rw[l,OJ (by rw[show yZ ns[i].1=true from c1,c2,c3];simp),OK h2]
    rw[zO d g (by rw[this];decide),this]
   ·refine PI ?_
    refine EX.back (i+1) O6 ⟨d,(e.trans z).trans y,fun j K=>?_⟩ O7;by_cases ej:j=i
    ·subst ej
     unfold zG;rw[l,OJ (by rw[show yZ ns[j].1=true from c1,c2,c3];simp),OJ (by rw[h2];simp)]
    ·exact g j O7
  ·have c1:yZ ns[i].1=false:=by simpa using c1
   rw[c1]at b⊢
   refine PM ?_;refine be rfl rfl ⟨?_,f⟩;rw[b rfl]
 ·obtain rfl:i=ns.length:=by simp at h;omega
  refine P_ ?_;refine be rfl rfl ⟨?_,f⟩;rw[zP g]
def pL(n:Nat)(fl:List cF)(i:Nat):bU:=pJ n (fl.take i)
theorem pN{n:Nat}{fl:List cF}{i:Nat}:(pL n fl i).length=n:=by simp[pL,pJ]
theorem pP{n:Nat}{fl:List cF}:pL n fl 0=List.replicate n []:=by
 refine KD (by simp[pL,pJ]) fun k h1 h2=>?_
 simp[pL,pJ]
theorem pM{n:Nat}{fl:List cF}{i k:Nat}(h:k<n):(pL n fl i)[k]'(by rw[pN];exact h)=((fl.take i).filter fun f=>f.1==(k:Int)).map (·.2):=by simp[pL,pJ]
theorem pO{n:Nat}{fl:List cF}{i a:Nat}{b:Int}(hi:i<fl.length)(hf:fl[i]=((a:Int),b))(d:a<n):
  (pL n fl i).set a ((((fl.take i).filter fun f=>f.1==(a:Int)).map (·.2))++[b])=pL n fl (i+1):=by
 refine KD (by simp[pN]) fun k h1 h2=>?_
 have c:k<n:=by rw[pN]at h2;exact h2
 rw[Lf,pM c,pM c,←Mj hi,hf,KF,LE];by_cases e:a=k
 ·subst e;rw[OK rfl];simp
 ·rw[OJ e]
  have:((a:Int)==(k:Int))=false:=by simpa using fun h:(a:Int)=k=>e O7
  simp[KG,this]
theorem pK{n:Nat}{fl:List cF}:mG (pJ n fl)≤n*fl.length:=by
 unfold mG pJ;rw[LH];have:∀m:List Nat,(m.map (List.length∘fun k:Nat=>(fl.filter fun f=>f.1==(k:Int)).map (·.2))).sum≤m.length*fl.length:=fun m=>by
  induction m with
  |nil=>simp
  |cons a m b=>
   simp only[LG,Mh,Lm,Mt,M1];have:(List.length∘fun k:Nat=>(fl.filter fun f=>f.1==(k:Int)).map (·.2)) a≤fl.length:=by
    show((fl.filter fun f=>f.1==(a:Int)).map (·.2)).length≤_;rw[Ls];exact Lr _ _
   omega
 have:=this (List.range n);rwa[Lv]at this
theorem FZ{ns:List cG}{k:Nat}:FX ns (k+1)=FX ns k++if((ns.getD k (⟨#[]⟩,0)).2==1)=true then [k]else []:=by
 unfold FX;rw[Mb,KF]
 congr 1
 by_cases e:((ns.getD k (⟨#[]⟩,0)).2==1)=true
 ·rw[OK e];simp only[KG,e,KJ];rfl
 ·rw[OJ e];simp only[KG,e,KJ];rfl
def xw(l:List Nat):Int:=(l.getLast?.map fun n:Nat=>(n:Int)).getD (-1)
theorem FY{ns:List cG}{k:Nat}:(FX ns k).length≤k:=by
 unfold FX;exact MN (Lr _ _) O_
theorem jO{ns:List cG}{fl:List cF}{s:Nat}(h:FX ns ns.length=[s]):jN (ns,fl)=if(CP (pJ ns.length fl) [(s:Int)]).contains false=true then 6 else 0:=by
 have c:(pJ ns.length fl).length=ns.length:=by simp[pJ]
 have b:(∃n,n<ns.length∧¬Rch (pJ ns.length fl) (((FX ns ns.length).getLast?.map fun n:Nat=>(n:Int)).toList) n)↔(CP (pJ ns.length fl) [(s:Int)]).contains false=true:=by
  rw[h,Kn,LT];show(∃n,n<ns.length∧¬Rch (pJ ns.length fl) [(s:Int)] n)↔_;constructor
  ·rintro⟨n,hn,e⟩
   have a:n<(CP (pJ ns.length fl) [(s:Int)]).length:=by rw[CR,c];exact hn
   refine⟨n,a,?_⟩;rw[←JR,CQ a];exact e
  ·rintro⟨n,hn,f⟩
   have a:n<ns.length:=by rw[CR,c]at hn;exact hn
   exact⟨n,a,fun e=>by rw[(CQ hn).2 e]at f;cases f⟩
 unfold jN;by_cases d:(CP (pJ ns.length fl) [(s:Int)]).contains false=true
 ·rw[OK d];exact OK (b.2 d)
 ·rw[OJ d];exact OJ (fun h=>d (b.1 h))
theorem aK(w0:World){so fo:Option Addr}{sc fc:Nat}{ns:List cG}{fl:List cF}(hs:Sl w0 (c7 w0) so sc ns)(hf:Sl w0 (c7 w0) fo fc fl):
  Rt Tryz.prog 75 [Cq so sc fo fc ns.length fl.length].toArray w0 fun v w'=>v=Py (jL (ns,fl))∧Ext w0 w':=by
 have hms:=hs.len63;have hmf:=hf.len63;refine dD Tryz.func75 Tryz.ntmps75 rfl rfl ?_;have L:=Ext.refl w0;refine PB ?_;refine dX rfl rfl rfl fun w1 P e1=>?_
 have L:=L.trans e1;unfold jL;dsimp only;refine QX ?_
 (refine eV rfl rfl (fun h=>?_) (fun h=>?_))
 ·refine Q6 ?_
  refine be rfl rfl ⟨?_,L⟩;rw[OK (.inl (by simp at h;omega))]
 have c1:ns.length≤20:=by simp at h;omega
 clear h;refine Q_ ?_;apply CW.cond rfl<;>intro h
 ·refine QO ?_
  refine be rfl rfl ⟨?_,L⟩;rw[OK (.inr (by simp at h;omega))]
 have c2:fl.length≤30:=by simp at h;omega
 clear h;rw[OJ O7];refine QH ?_;refine WL.call rfl rfl rfl (zU w1 (hs.up L)) ?_;rintro _ m ⟨rfl,e2⟩
 have P:=P.ext e2;have L:=L.trans e2;refine Qt ?_;apply CW.cond rfl<;>intro h
 ·have h:zM ns≠0:=by simpa using h
  refine QO ?_;refine be rfl rfl ⟨?_,L⟩;rw[OK h]
 have h:zM ns=0:=by simpa using h
 rw[OJ (by simp[h])];clear h e1 e2;have z2:=L.size;refine QP ?_;refine eW (α:=Raw) rfl rfl rfl rfl O7 Pb (fun w3 ho3 hg3=>?_);have e3:Ext m w3:=(JI _ _).grown hg3 Pu Pn;have hN3:OwnN w3 m.heap.size 39 3 (.slice (some ⟨m.heap.size,0,none⟩) ns.length ns.length) _ (List.replicate ns.length ([]:List Int)):=OwnN.made ho3;rw[←pP (fl:=fl)]at hN3
 have hb13:=P.ext e3;clear ho3 hg3;refine QX ?_;refine CW.loop (S:=Nat×List Raw) (fun s=>[(1,Pz w0.heap.size),(4,.slice (some ⟨m.heap.size,0,none⟩) ns.length ns.length),(35,.slice fo fl.length fc),(36,Py fl.length),(37,Py s.1)])
  (fun s w=>s.1≤fl.length∧(∀f∈fl.take s.1,pG ns.length f=false)∧OwnN w m.heap.size 39 3 (.slice (some ⟨m.heap.size,0,none⟩) ns.length ns.length) s.2 (pL ns.length fl s.1)∧Ext m w) (fun s=>fl.length -s.1) (0,_) O6 ⟨Nc _,(fun f hf=>by simp at hf),hN3,e3⟩ ?_
 rintro⟨i,vs⟩ X ⟨hi,E,K,e4⟩
 dsimp only at hi E K⊢
 have hE4:=L.trans e4;have hN4:=K;have hsz:m.heap.size<X.heap.size:=(K.out.lt _ rfl).2.1;refine Qt ?_;apply CW.cond rfl<;>intro h
 ·have d:i<fl.length:=by simp at h;omega
  have y:pG ns.length fl[i]=true→(if fl.any (pG ns.length)=true then(1:Int)else if(FX ns ns.length).length≠1 then 1 else if(List.range ns.length).any (gQ (ns,fl))=true then 1 else jN (ns,fl))=1:=fun Q=>by
   rw[OK (Kg.2 ⟨_,Lc d,Q⟩)]
  refine Rb ?_;refine eC rfl rfl rfl rfl rfl (hf.at hE4) d Pg (fun u q Y=>?_);obtain rfl:=Y.flow;skip;refine WL.alloc rfl rfl (fun w5 O W=>?_);skip;refine WL.st rfl rfl rfl O rfl rfl Pr (fun M O hg6=>?_);have H:Ext X M:=W.grown hg6 W.size Pi;have K:=K.ext H;have l:=hE4.trans H;have e26:=e4.trans H;refine QR ?_;by_cases d1:decide (fl[i].1<0)=true
  ·rw[d1]
   refine PM ?_;refine be rfl rfl ⟨?_,l⟩;rw[y (by unfold pG;rw[d1];rfl)]
  have d1:decide (fl[i].1<0)=false:=by simpa using d1
  rw[d1];refine Ru ?_;by_cases d2:decide (fl[i].1≥(ns.length:Int))=true
  ·rw[d2]
   refine PM ?_;refine be rfl rfl ⟨?_,l⟩;rw[y (by unfold pG;rw[d1,d2];rfl)]
  have d2:decide (fl[i].1≥(ns.length:Int))=false:=by simpa using d2
  rw[d2];refine Rs ?_;by_cases d3:decide (fl[i].2<0)=true
  ·rw[d3]
   refine PM ?_;refine be rfl rfl ⟨?_,l⟩;rw[y (by unfold pG;rw[d1,d2,d3];rfl)]
  have d3:decide (fl[i].2<0)=false:=by simpa using d3
  rw[d3];refine Q_ ?_;apply CW.cond rfl<;>intro d4
  ·refine PA ?_
   refine be rfl rfl ⟨?_,l⟩;rw[y (by unfold pG;rw[d1,d2,d3,d4];rfl)]
  have hgd:pG ns.length fl[i]=false:=by unfold pG;rw[d1,d2,d3,d4];rfl
  simp at d1 d2 d3 d4
  obtain⟨a,ea⟩:=J7 d1;have R:a<ns.length:=by omega
  have hfi:fl[i]=((a:Int),fl[i].2):=by rw[←ea]
  have c:=pO d hfi R;have t:=K.len;rw[pN]at t
  have o:a<vs.length:=by omega
  have hd:=Ext.drew M;have G:=K.ext hd;have hb6d:=O.ext hd;have hin:=G.inn a o (by rw[pN];exact R);rw[pM R]at hin
  have hrl:(((fl.take i).filter fun f=>f.1==(a:Int)).map (·.2)).length≤30:=by
   rw[Ls];exact MN (Lr _ _) (by rw[LB];omega)
  obtain⟨oo,oc,hov,T⟩:=G.out.slF (F':=fun b=>b=m.heap.size) Pj (fun g hg=>by cases hg;rfl);obtain⟨rfl,_,rfl⟩:=Oi hov;rw[←t]at T
  have hsz6:=H.size;have hszd:=hd.size;have hl6:=O.lt;rw[ea]at hb6d
  refine QY ?_;have hK:∀z,(fun z:World=>∀b,b=m.heap.size∨b=X.heap.size→z.heap[b]?=(drew M).heap[b]?) z→z.heap[X.heap.size]?=(drew M).heap[X.heap.size]?:=fun z hz=>hz _ (.inr rfl)
  refine aE (fun z:World=>∀b,b=m.heap.size∨b=X.heap.size→z.heap[b]?=(drew M).heap[b]?) [(0,true),(1,true),(2,true),(3,true),(4,true),(5,true),(6,true),(7,true),(8,true),(9,true),(10,false),(11,false),(12,true)] 13 mixed O8 Pq ?_;refine RJ ?_;rw[←t];refine bY (w:=drew M) (F:=fun b=>b=m.heap.size) (fun z hz b Q=>hz b (.inl Q)) rfl rfl rfl rfl rfl rfl rfl T o Pg (fun u q Y=>?_);obtain⟨rfl,_⟩:=Y.raw;rw[t];refine RP ?_;refine bV (bytes:=8) rfl rfl rfl rfl Pg rfl rfl Pg hin Pt O7 Pj O9 Pb O7
   (fun z hz b Q=>hz.block b O7 (fun e=>?_)) (fun v' w7 p ho7 D hnb=>?_)
  ·rcases Q with rfl|rfl
   ·exact G.dio a o _ e.symm rfl
   ·exact absurd ((hN4.inn a o (by rw[pN];exact R)).lt _ e.symm).2.1 (MO _)
  rw[hfi]at ho7
  have hmid:=G.mid o D;skip;refine cy (yv:=(⟨v'⟩:Raw)) rfl rfl rfl rfl rfl rfl hmid o Pg Pg (Rd.mkRaw _ _ _ ?_) (fun I q ho8 N=>?_)
  ·obtain⟨a,b,rfl⟩:=ho7.val;rfl
  have hN8:=G.set o ho7 D hnb ho8 N;rw[c]at hN8
  have e26d:=e26.trans hd;have e8:Ext m I:=(e26d.grown D e26d.size (fun b Q=>(hin.lt b Q).1)).grown N (MN e26d.size D.size) (fun b Q=>(G.out.lt b Q).1);refine Qc ?_;refine EX.back (i+1,vs.set a ⟨v'⟩) O6 ⟨d,fun f hf'=>?_,hN8,e8⟩ Pa;dsimp only at hf'
  rw[←Mj d]at hf'
  rcases LK.1 hf' with h1|h1
  ·exact E f h1
  ·rw[L0]at h1;subst h1;exact hgd
 obtain rfl:i=fl.length:=by simp at h;omega
 rw[Mk]at E
 have A:fl.any (pG ns.length)=false:=Kf.2 (fun f hf=>by simp[E f hf]);have hfok:∀f∈fl,0≤f.1∧f.1<ns.length∧0≤f.2∧f.2<ns.length:=fun f hf=>by
  have:=E f hf;unfold pG at this
  simp at this
  omega
 rw[OJ (by rw[A];simp)];have hgG:pL ns.length fl fl.length=pJ ns.length fl:=by unfold pL;rw[Mk]
 rw[hgG]at K
 have C:(pJ ns.length fl).length=ns.length:=by simp[pJ]
 have hgok:okG (pJ ns.length fl):=by
  intro r hr x hx
  rw[C];obtain⟨k,_,rfl⟩:=LU.1 hr;obtain⟨f,hf,rfl⟩:=LU.1 hx;exact(hfok f (LR.1 hf).1).2.2
 have hge:=pK (n:=ns.length) (fl:=fl);have hge2:ns.length*fl.length≤20*30:=MV c1 c2;obtain⟨go,gc,hgv,hg⟩:=K.old.sl;rw[C]at hgv
 obtain⟨rfl,_,rfl⟩:=Oi hgv;have hb14:=P.ext e4;clear h hi E K hN4 hN3 A hgv;refine Qy ?_;refine CW.loop (S:=Nat) (fun i=>[(1,Pz w0.heap.size),(4,.slice (some ⟨m.heap.size,0,none⟩) ns.length ns.length),(7,Py (xw (FX ns i))),(8,Py ((FX ns i).length:Int)),(78,.slice so ns.length sc),(79,Py ns.length),(80,Py i)])
  (fun i w=>i≤ns.length∧Ext X w) (fun i=>ns.length -i) 0 O6 ⟨by omega,Ext.refl _⟩ ?_
 rintro i w5 ⟨hi,W⟩
 have hE5:=hE4.trans W;have c:=FZ (ns:=ns) (k:=i);have hsl:=FY (ns:=ns) (k:=i);refine Qt ?_;apply CW.cond rfl<;>intro h
 ·have d:i<ns.length:=by simp at h;omega
  rw[qL d]at c
  refine PX ?_;refine eC rfl rfl rfl rfl rfl (hs.at hE5) d Pg (fun u q Y=>?_);obtain rfl:=Y.node;skip;refine WL.alloc rfl rfl (fun M U H=>?_);refine Ri ?_;refine WL.st rfl rfl rfl U rfl rfl Pr (fun w7 U D=>?_);have V:Ext w5 w7:=H.grown D H.size Pi;refine QR ?_;apply CW.cond rfl<;>intro h2
  ·rw[OK h2]at c
   have hn1:((FX ns i).length:Int)+1=((FX ns (i+1)).length:Int):=by rw[c];simp
   have hn2:(i:Int)=xw (FX ns (i+1)):=by rw[c];simp[xw]
   refine Qx ?_;refine EX.back (i+1) ⟨rfl,rfl,?_,?_,rfl,rfl,rfl,trivial⟩ ⟨d,W.trans V⟩ O7
   ·rw[←hn2];rfl
   ·rw[←hn1];rfl
  ·rw[OJ (by rw[h2];simp),Ki]at c
   refine PI ?_;refine EX.back (i+1) ?_ ⟨d,W.trans V⟩ O7;rw[c];exact O6
 obtain rfl:i=ns.length:=by simp at h;omega
 have hb15:=hb14.ext W;clear h hi c;refine P_ ?_;apply CW.cond rfl<;>intro h
 ·have h:(FX ns ns.length).length≠1:=by simp at h;omega
  refine QO ?_;refine be rfl rfl ⟨?_,hE5⟩;rw[OK h]
 have h1:(FX ns ns.length).length=1:=by simp at h;omega
 rw[OJ O7];obtain⟨s,Z⟩:=Lo.1 h1;have hsn:s<ns.length:=by
  have:s∈FX ns ns.length:=by rw[Z];simp
  unfold FX at this
  exact LZ.1 (LR.1 this).1
 rw[jO Z,Z];rw[show xw [s]=(s:Int) from rfl];clear h;refine QP ?_;refine CW.loop (S:=Nat) (fun i=>[(1,Pz w0.heap.size),(4,.slice (some ⟨m.heap.size,0,none⟩) ns.length ns.length),(7,Py (s:Int)),(95,.slice so ns.length sc),(96,Py ns.length),(97,Py i)])
  (fun i w=>i≤ns.length∧Ext w5 w∧∀j,j<i→gQ (ns,fl) j=false) (fun i=>ns.length -i) 0 O6 ⟨by omega,Ext.refl _,by omega⟩ ?_
 rintro i M ⟨hi,H,hno⟩
 have l:=hE5.trans H;have hb16:=hb15.ext H;refine Qt ?_;apply CW.cond rfl<;>intro h
 ·have d:i<ns.length:=by simp at h;omega
  have hnd:=qL d;refine PX ?_;refine eC rfl rfl rfl rfl rfl (hs.at l) d Pg (fun u q Y=>?_);obtain rfl:=Y.node;skip;refine WL.alloc rfl rfl (fun w7 J V=>?_);refine Ri ?_;refine WL.st rfl rfl rfl J rfl rfl Pr (fun I J N=>?_);have e8:Ext M I:=V.grown N V.size Pi;have hb18:=hb16.ext e8;have hE8:=l.trans e8;have hd:=Ext.drew I;have hSE:∀x,(fun x=>Ext I x) x→Ext I x:=fun _ h=>h
  have hb12d:=J;refine PP ?_;refine aF (fun x=>Ext I x) [(0,true),(1,true),(2,true),(3,true),(6,true),(7,true),(4,false),(5,true),(8,false),(9,true),(10,false),(11,true)] mixed O8 (Ext.drew I) ?_;refine RO ?_;refine cr rfl (WL.call rfl rfl rfl (vY (drew I) (hf.up (hE8.trans hd)) (i:Int) O7) ?_);rintro iv w9 ⟨hoi,e9⟩
  have hT9:=hd.trans e9;obtain⟨iao,ica,rfl⟩:=hoi.val;refine WL.nil (a_ hT9 ?_);refine RG ?_;refine cr rfl (WL.call rfl rfl rfl (Bd w9 (hf.up (hE8.trans hT9)) (i:Int) O7) ?_);rintro ov w10 ⟨hoo,e10⟩
  have B:=hT9.trans e10;obtain⟨oao,oca,rfl⟩:=hoo.val;refine WL.nil (a_ B ?_);refine RG ?_;refine cr rfl (WL.call rfl rfl rfl (kQ w10 ns[i].2 (vT fl (i:Int)).length (A8 fl (i:Int)).length) ?_);rintro _ _ ⟨rfl,rfl⟩
  refine WL.nil (a_ B ?_);have hbc:gQ (ns,fl) i=!kP ns[i].2 (vT fl (i:Int)).length (A8 fl (i:Int)).length:=by unfold gQ;rw[hnd]
  refine RR ?_;refine PC ?_;apply CW.cond rfl<;>intro h2
  ·refine PA ?_
   refine be rfl rfl ⟨?_,hE8.trans B⟩;rw[OK (Kg.2 ⟨i,LZ.2 d,by rw[hbc];exact h2⟩)]
  ·refine PI ?_
   refine EX.back (i+1) O6 ⟨d,(H.trans e8).trans B,fun j hj=>?_⟩ O7;by_cases e:j=i
   ·subst e;rw[hbc];exact h2
   ·exact hno j O7
 obtain rfl:i=ns.length:=by simp at h;omega
 have A:(List.range ns.length).any (gQ (ns,fl))=false:=Kf.2 (fun j hj=>by simp[hno j (LZ.1 hj)]);rw[OJ (by rw[A];simp)];clear h hi hno;have hg6:=hg.up (W.trans H);refine Qo ?_;refine eT [(s:Int)] rfl rfl rfl rfl rfl (.cons Pt .nil) (by show 1*1≤16777216;decide) (fun v7 w7 V r7 _=>?_);obtain⟨lo,lc,rfl,hls⟩:=r7.sl;have hsok:AF (pJ ns.length fl).length [(s:Int)]:=fun x hx=>by rw[L0]at hx;subst hx;rw[C];omega
 have hrF:=Da hgok hsok O7;rw[←C];have hRR:=dA w7 (hg6.up V) hls (by simp only[LA];omega);rw[hrF,C]at hRR
 rw[C];skip;refine WL.call rfl rfl rfl hRR ?_;rintro _ I ⟨rv,rfl,hor,e8⟩
 obtain⟨ro,rc,rfl,hrs⟩:=hor.oldN.sl;refine Qt ?_;refine WL.call rfl rfl rfl (kG I false hrs) ?_;rintro _ w9 ⟨rfl,e9⟩
 have hE9:=((l.trans V).trans e8).trans e9;refine PU ?_;apply CW.cond rfl<;>intro h2
 ·refine QO ?_
  refine be rfl rfl ⟨?_,hE9⟩;rw[OK h2]
 ·refine QU ?_
  refine be rfl rfl ⟨?_,hE9⟩;rw[OJ (by rw[h2];simp)]
noncomputable def xT(p:cI)(n:Int):Int:=if jL p≠0 then jL p else if n<0∨n≥p.1.length then 1 else 0
theorem xV(w0:World){so fo:Option Addr}{sc fc:Nat}{ns:List cG}{fl:List cF}(f:Sl w0 (c7 w0) so sc ns)(hf:Sl w0 (c7 w0) fo fc fl)(n:Int){fv:Value}(sel:List Int)
  (d:fl.length≤30→∀w,Ext w0 w→FnV Tryz.prog fv [Cq so sc fo fc ns.length fl.length,Py n] w fun v w'=>Own w' w.heap.size 3 cZ v sel∧Ext w w'):
  Rt Tryz.prog 215 [Cq so sc fo fc ns.length fl.length,Py n,fv].toArray w0 fun v w'=>∃x,v=.tuple ⟨[x,Py (xT (ns,fl) n)]⟩∧Own w' w0.heap.size 3 cZ x (if xT (ns,fl) n=0 then sel else [])∧Ext w0 w':=by
 have l:=f.len63;refine dF Tryz.func215 Tryz.ntmps215 rfl rfl ?_;have a:=Ext.refl w0;refine PB ?_;refine dX rfl rfl rfl fun j b o=>?_
 have a:=a.trans o;unfold xT;dsimp only;refine Q4 ?_;refine WL.call rfl rfl rfl (aK j (f.up a) (hf.up a)) ?_;rintro _ i ⟨rfl,g⟩
 have b:=b.ext g;have a:=a.trans g;refine Qt ?_;apply CW.cond rfl<;>intro h
 ·have h:jL (ns,fl)≠0:=by simpa using h
  refine QO ?_;refine bf rfl rfl rfl ⟨_,by rw[OK h],?_,a⟩;rw[OK h,OJ h];exact Own.nil
 have h:jL (ns,fl)=0:=by simpa using h
 have c:=jM h;rw[OJ (by simp[h])];clear h;refine Qm ?_
 (refine eV rfl rfl (fun h=>?_) (fun h=>?_))
 ·refine Q6 ?_
  have e:(if n<0∨n≥(ns.length:Int)then(1:Int)else 0)=1:=OK (.inl (by simpa using h));exact bf rfl rfl rfl ⟨_,by rw[e],by rw[e,OJ O9];exact Own.nil,a⟩
 have h1:¬n<0:=by simpa using h
 clear h;refine Q_ ?_;apply CW.cond rfl<;>intro h
 ·have h:n≥ns.length:=by simpa using h
  refine QO ?_;have e:(if n<0∨n≥(ns.length:Int)then(1:Int)else 0)=1:=OK (.inr h);exact bf rfl rfl rfl ⟨_,by rw[e],by rw[e,OJ O9];exact Own.nil,a⟩
 have h2:¬n≥ns.length:=by simpa using h
 rw[OJ O7,OK rfl];clear h;refine P4 ?_;refine d7 rfl rfl rfl rfl (d c.f i a) ?_;rintro x p ⟨k,m⟩
 refine PK ?_;exact bf rfl rfl rfl ⟨_,rfl,k.low a.size,a.trans m⟩
theorem cB(w0:World){so fo:Option Addr}{sc fc:Nat}{ns:List cG}{fl:List cF}(d:Sl w0 (c7 w0) so sc ns)(hf:Sl w0 (c7 w0) fo fc fl)(n:Int):
  Rt Tryz.prog 142 [Cq so sc fo fc ns.length fl.length,Py n].toArray w0 fun v w'=>∃x,v=.tuple ⟨[x,Py (xT (ns,fl) n)]⟩∧Own w' w0.heap.size 3 cZ x (if xT (ns,fl) n=0 then vT fl n else [])∧Ext w0 w':=by
 refine dE Tryz.func142 Tryz.ntmps142 rfl rfl ?_;refine PB ?_;refine dX rfl rfl rfl fun b i a=>?_
 refine Q4 ?_;refine WL.call rfl rfl rfl (xV b (d.up a) (hf.up a) n (vT fl n) (fun h w c=>FnV.mk (cs:=[]) (vY w (hf.up (a.trans c)) n O7))) ?_;rintro _ g ⟨x,rfl,e,f⟩
 refine PK ?_;exact bf rfl rfl rfl ⟨x,rfl,e.low a.size,a.trans f⟩
theorem c8(w0:World){so fo:Option Addr}{sc fc:Nat}{ns:List cG}{fl:List cF}(d:Sl w0 (c7 w0) so sc ns)(hf:Sl w0 (c7 w0) fo fc fl)(n:Int):
  Rt Tryz.prog 143 [Cq so sc fo fc ns.length fl.length,Py n].toArray w0 fun v w'=>∃x,v=.tuple ⟨[x,Py (xT (ns,fl) n)]⟩∧Own w' w0.heap.size 3 cZ x (if xT (ns,fl) n=0 then A8 fl n else [])∧Ext w0 w':=by
 refine dE Tryz.func143 Tryz.ntmps143 rfl rfl ?_;refine PB ?_;refine dX rfl rfl rfl fun b i a=>?_
 refine Q4 ?_;refine WL.call rfl rfl rfl (xV b (d.up a) (hf.up a) n (A8 fl n) (fun h w c=>FnV.mk (cs:=[]) (Bd w (hf.up (a.trans c)) n O7))) ?_;rintro _ g ⟨x,rfl,e,f⟩
 refine PK ?_;exact bf rfl rfl rfl ⟨x,rfl,e.low a.size,a.trans f⟩
end Go.Proofs.YtfpjecjadlgdcaaGreatDoor
