import Derived.Test.YtfpjecjadlgdcaaGreatDoorPtTopBounds7
set_option linter.unusedVariables false
set_option linter.unusedSimpArgs false
set_option linter.defProp false
namespace Go.Proofs.YtfpjecjadlgdcaaGreatDoor
open Go.RowKit
def I4(P:Program)(ops:Array Oper)(Q:Exit→Act→World→Prop)(S:Array Bool→World→Prop):Nat→Array Bool→Act→World→Prop
 |0,f,a,w=>Region.ready .any ops f=[]∧Q .normal a w
 |fuel+1,f,a,w=>
  (Region.ready .any ops f=[]→Q .normal a w)∧
  ∀i∈Region.ready .any ops f,wpOp P ops Q i (fun h w'=>S (f.setIfInBounds i true) w'∧I4 P ops Q S fuel (f.setIfInBounds i true) h w') a w
section
variable {P:Program}{ops:Array Oper}{Q:Exit→Act→World→Prop}{S:Array Bool→World→Prop}
theorem I8:∀(fuel:Nat) (f:Array Bool) (a:Act) (w:World),I4 P ops Q S fuel f a w→wpAny P .any ops Q fuel f a w
 |0,_,_,_,h=>h
 |fuel+1,_,_,_,h=>⟨h.1,fun i hi=>O2 (fun k w' j=>I8 fuel _ k w' j.2) (h.2 i hi)⟩
theorem I5{i:Nat}{oi:Oper}{v:Value}(hi:ops[i]?=some oi)(r:∀(j:Nat) (o:Oper) cs b,ops[j]?=some o→o.op≠.select cs b)
  (hQ:∀c a w,Q (.panic c) (a.put oi.dst v) w→Q (.panic c) a w) (Rch:Array Bool→Prop) (hR:∀L j,Rch L→j≠i→j∈Region.ready .any ops L→Rch (L.setIfInBounds j true))
  (z:∀L w,S (L.setIfInBounds i true) w↔S L w):
  ∀(fuel:Nat) (f:Array Bool) (a:Act) (w:World),Rch f→
   (∀j oj,ops[j]?=some oj→j≠i→f.getD j true=false→(∀e∈oj.after,Region.binds .any e=true→e.on≠i)→oi.apart ops oj=true)→
   i∈Region.ready .any ops f→YieldsIf P ops (fun w=>∃L,Rch L∧S L w) oi v a→S f w→
   I4 P ops Q S fuel (f.setIfInBounds i true) (a.put oi.dst v) w→I4 P ops Q S (fuel+1) f a w:=by
 intro fuel
 induction fuel with
 |zero=>
  intro f a w q _ u G hS H
  refine⟨fun h=>(by rw[h]at u;cases u),fun j D=>?_⟩;by_cases l:j=i
  ·subst l;exact G.wpOp hi ⟨f,q,hS⟩ ⟨(z _ _).2 hS,H⟩
  ·have:=OR D l
   rw[H.1]at this
   cases this
 |succ fuel R=>
  intro f a w q m u G hS H
  refine⟨fun h=>(by rw[h]at u;cases u),fun j D=>?_⟩;by_cases l:j=i
  ·subst l;exact G.wpOp hi ⟨f,q,hS⟩ ⟨(z _ _).2 hS,H⟩
  ·have h1:=H.2 j (OR D l)
   obtain⟨s,oj,y,E⟩:=OM.1 D;have B:∀e∈oj.after,Region.binds .any e=true→e.on≠i:=fun e U V K=>by
    have h1:=E e U V;have O:=(OM.1 u).1;rw[K]at h1
    rcases MR i f.size with N|N
    ·simp[N]at O h1;rw[O]at h1;cases h1
    ·simp[Ju N]at h1
   have h2:=wpOp_putIf y (m j oj y l s B) (fun cs b=>r i oi cs b hi) (fun cs b=>r j oj cs b y) hQ G h1;have p:∀k ok,ops[k]?=some ok→k≠i→(f.setIfInBounds j true).getD k true=false→
     (∀e∈ok.after,Region.binds .any e=true→e.on≠i)→oi.apart ops ok=true:=fun k ok T J A I=>by
    refine m k ok T J ?_ I;by_cases C:j=k
    ·subst C;exact s
    ·rw[getD_set_ne true C]at A;exact A
   refine O2 (fun W w' h3=>?_) h2;have M:(f.setIfInBounds i true).setIfInBounds j true=(f.setIfInBounds j true).setIfInBounds i true:=JD _ _ (Nf l);rw[M]at h3
   have F:=(z _ _).1 h3.2.1;exact⟨F,R (f.setIfInBounds j true) W w' (hR _ _ q l D) p (OR u (Nf l)) h3.1 F h3.2.2⟩
end
structure Cls(L:List Oper)(l:Array Bool):Prop where
 size:l.size=L.length
 cl:∀k o,l.getD k false=true→L[k]?=some o→∀j∈AO o,l.getD j false=true
theorem Cls.put{L:List Oper}{l:Array Bool}(h:Cls L l){j:Nat}(r:j∈Region.ready .any L.toArray l):Cls L (l.setIfInBounds j true):=by
 obtain⟨_,o,q,s⟩:=OM.1 r;have a:L[j]?=some o:=by simpa using q
 refine⟨by simpa using h.size,fun k p f ho2 x m=>?_⟩;refine listed_set.2 (.inr ?_);rcases listed_set.1 f with⟨rfl,_⟩|f
 ·rw[a]at ho2;cases ho2
  exact AP s x m
 ·exact h.cl k p f ho2 x m
def SG(c e:Nat)(Sw Ss:World→Prop):Array Bool→World→Prop:=fun l w=>l.getD e false=false→Sw w∧(l.getD c false=false→Ss w)
theorem qX{l:Array Bool}{i c:Nat}(a:i≠c):(l.setIfInBounds i true).getD c false=l.getD c false:=by
 simp only[Js];rw[JA a]
theorem dI{c e i:Nat}(f:i≠c)(a:i≠e){Sw Ss:World→Prop}(l:Array Bool)(w:World):SG c e Sw Ss (l.setIfInBounds i true) w↔SG c e Sw Ss l w:=by
 unfold SG;rw[qX f,qX a]
def ie(L:List Oper)(c i:Nat):Bool:=(mark L (c+1) ((List.replicate (c+1) false).set c true)).getD i false
theorem ig{L:List Oper}{l:Array Bool}{c i:Nat}(h:ie L c i=true)(p:Cls L l)(hi:l.getD i false=false):l.getD c false=false:=by
 cases f:l.getD c false with
 |false=>rfl
 |true=>
  have:=yM (L:=L) (S:=fun x=>l.getD x false=true) (fun x o a k j m=>p.cl x o a k j m) (c+1) ((List.replicate (c+1) false).set c true) (fun x a=>by
   by_cases e:c=x
   ·subst e;exact f
   ·exfalso
    simp[KT,K4,e,K3]at a
    split at a<;>simp at a) i h
  rw[hi]at this;cases this
def A2(L:List Oper)(c e:Nat):List (Nat×Nat)→Array Bool→Bool
 |[],a=>(Region.ready .any L.toArray a).isEmpty
 |(i,k)::r,a=>match k with
  |0=>decide (Region.ready .any L.toArray a=[i])&&decide (i≠e)&&A2 L c e r (a.setIfInBounds i true)
  |1=>(Region.ready .any L.toArray a).contains i&&Region.free .any L.toArray a i&&decide (i≠c)&&decide (i≠e)&&(decide (L.length≤e)||ie L e i)&&A2 L c e r (a.setIfInBounds i true)
  |2=>(Region.ready .any L.toArray a).contains i&&Region.free .any L.toArray a i&&decide (i≠c)&&decide (i≠e)&&(decide (L.length≤e)||ie L e i)&&ie L c i&&A2 L c e r (a.setIfInBounds i true)
  |_=>decide (Region.ready .any L.toArray a=[i])&&decide (i=e)&&A2 L c e r (a.setIfInBounds i true)
def Jf(P:Program)(ops:List Oper)(c e:Nat)(Sw Ss:World→Prop)(Q:Act→World→Prop):Bool→List (Nat×Nat)→Act→World→Prop
 |_,[],a,w=>Q a w
 |ph,(i,k)::r,a,w=>match k with
  |0=>∃o,ops[i]?=some o∧(if Region.wanted o (yielded ops.toArray a.tmps)=true then o.wp P a w (fun f w'=>Sw w'∧((ph||Nat.beq i c)=false→Ss w')∧Jf P ops c e Sw Ss Q (ph||Nat.beq i c) r f w') (fun e a w=>e=.normal∧Q a w)else Sw w∧((ph||Nat.beq i c)=false→Ss w)∧Jf P ops c e Sw Ss Q (ph||Nat.beq i c) r (a.put o.dst undef) w)
  |1=>∃o v,ops[i]?=some o∧YieldsIf P ops.toArray Sw o v a∧Jf P ops c e Sw Ss Q ph r (a.put o.dst v) w
  |2=>∃o v,ops[i]?=some o∧YieldsIf P ops.toArray Ss o v a∧Jf P ops c e Sw Ss Q ph r (a.put o.dst v) w
  |_=>r=[]∧∃o,ops[i]?=some o∧(if Region.wanted o (yielded ops.toArray a.tmps)=true then o.wp P a w Q (fun e a w=>e=.normal∧Q a w)else Q (a.put o.dst undef) w)
theorem Jn{P:Program}{ops:Array Oper}{S S':World→Prop}{o:Oper}{v:Value}{a:Act}(h:YieldsIf P ops S o v a)(hS:∀w,S' w→S w):YieldsIf P ops S' o v a:=
 h.imp (fun⟨h1,h2⟩=>⟨h1,fun w f=>h2 w (hS w f)⟩) id
theorem Jh{P:Program}{L:List Oper}{c e:Nat}{Sw Ss:World→Prop}{Q:Act→World→Prop}(T:Region.noSelect L.toArray=true):
  ∀(ord:List (Nat×Nat)) (ph:Bool) (f:Array Bool) (a:Act) (w:World),A2 L c e ord f=true→Cls L f→(f.getD c false=ph)→SG c e Sw Ss f w→Jf P L c e Sw Ss Q ph ord a w→
   I4 P L.toArray (fun e a w=>e=.normal∧Q a w) (SG c e Sw Ss) ord.length f a w
 |[],ph,f,a,w,z,_,_,_,h=>by
  simp only[A2,Lk]at z
  exact⟨z,rfl,h⟩
 |(i,0)::r,ph,f,a,w,z,B,A,hS,⟨o,D,h⟩=>by
  simp only[A2,JL,OD]at z
  obtain⟨⟨G,_⟩,I⟩:=z;have p:i∈Region.ready .any L.toArray f:=by rw[G];simp
  have V:=B.put p;have N:i<L.length:=(K0.1 D).1;have m:(f.setIfInBounds i true).getD c false=(ph||Nat.beq i c):=by
   cases e:Nat.beq i c with
   |true=>
    obtain rfl:=MB e;have:=B.size;simp[Js,show i<f.size by omega]
   |false=>
    have s:i≠c:=fun h=>by subst h;rw[My]at e;cases e
    rw[qX s,A,JX]
  refine⟨fun h0=>(by rw[h0]at p;cases p),fun j H=>?_⟩;rw[G,L0]at H
  subst H;have q:L.toArray[j]?=some o:=by simpa using D
  unfold wpOp;simp only[q];split
  ·rename_i C
   rw[OK C]at h
   exact .inl (Ng (fun U w' R=>⟨fun _=>⟨R.1,fun K=>R.2.1 (m▸K)⟩,Jh T r _ _ _ _ I V m (fun _=>⟨R.1,fun K=>R.2.1 (m▸K)⟩) R.2.2⟩) h)
  ·rename_i C
   rw[OJ C]at h
   exact⟨fun _=>⟨h.1,fun K=>h.2.1 (m▸K)⟩,Jh T r _ _ _ _ I V m (fun _=>⟨h.1,fun K=>h.2.1 (m▸K)⟩) h.2.2⟩
 |(i,1)::r,ph,f,a,w,z,B,A,hS,⟨o,v,D,W,h⟩=>by
  simp only[A2,JL,OD,JW]at z
  obtain⟨⟨⟨⟨⟨h1,h2⟩,s⟩,y⟩,O⟩,h3⟩:=z;have p:i∈Region.ready .any L.toArray f:=by simpa using h1
  have q:L.toArray[i]?=some o:=by simpa using D
  have m:(f.setIfInBounds i true).getD c false=ph:=by rw[qX s];exact A
  have N:i<L.length:=(K0.1 D).1;have M:f.getD i false=false:=by
   have:=(OM.1 p).1;have X:=B.size;rw[qY O7]at this
   simpa using this
  have F:∀l:Array Bool,Cls L l→l.getD i false=false→l.getD e false=false:=fun l u hi=>O.elim (fun h=>by
   have:=u.size;simp[Js,Ju (show l.size≤e by omega)]) (fun h=>ig h u hi)
  exact I5 q (Nt T) (fun _ _ _ h=>by cases h.1) (fun l=>Cls L l∧l.getD i false=false) (fun l j u E H=>⟨u.1.put H,by rw[qX E];exact u.2⟩) (fun l w=>dI s y l w) r.length f a w ⟨B,M⟩ (Ns q h2) p
   (Jn W fun w ⟨l,u,C⟩=>(C (F l u.1 u.2)).1) hS (Jh T r ph _ _ _ h3 (B.put p) m ((dI s y _ _).2 hS) h)
 |(i,2)::r,ph,f,a,w,z,B,A,hS,⟨o,v,D,W,h⟩=>by
  simp only[A2,JL,OD,JW]at z
  obtain⟨⟨⟨⟨⟨⟨h1,h2⟩,s⟩,y⟩,O⟩,Y⟩,h3⟩:=z;have p:i∈Region.ready .any L.toArray f:=by simpa using h1
  have q:L.toArray[i]?=some o:=by simpa using D
  have m:(f.setIfInBounds i true).getD c false=ph:=by rw[qX s];exact A
  have N:i<L.length:=(K0.1 D).1;have M:f.getD i false=false:=by
   have:=(OM.1 p).1;have X:=B.size;rw[qY O7]at this
   simpa using this
  have F:∀l:Array Bool,Cls L l→l.getD i false=false→l.getD e false=false:=fun l u hi=>O.elim (fun h=>by
   have:=u.size;simp[Js,Ju (show l.size≤e by omega)]) (fun h=>ig h u hi)
  exact I5 q (Nt T) (fun _ _ _ h=>by cases h.1) (fun l=>Cls L l∧l.getD i false=false) (fun l j u E H=>⟨u.1.put H,by rw[qX E];exact u.2⟩) (fun l w=>dI s y l w) r.length f a w ⟨B,M⟩ (Ns q h2) p
   (Jn W fun w ⟨l,u,C⟩=>(C (F l u.1 u.2)).2 (ig Y u.1 u.2)) hS (Jh T r ph _ _ _ h3 (B.put p) m ((dI s y _ _).2 hS) h)
 |(i,k+3)::r,ph,f,a,w,z,B,A,hS,⟨hr,o,D,h⟩=>by
  subst hr;simp only[A2,JL,OD]at z
  obtain⟨⟨G,rfl⟩,I⟩:=z;have p:i∈Region.ready .any L.toArray f:=by rw[G];simp
  have N:i<L.length:=(K0.1 D).1;have Z:(f.setIfInBounds i true).getD i false=true:=by
   have:=B.size;simp[Js,show i<f.size by omega]
  refine⟨fun h0=>(by rw[h0]at p;cases p),fun j H=>?_⟩;rw[G,L0]at H
  subst H;have q:L.toArray[j]?=some o:=by simpa using D
  have J:∀U w',Q U w'→SG c j Sw Ss (f.setIfInBounds j true) w'∧I4 P L.toArray (fun e a w=>e=.normal∧Q a w) (SG c j Sw Ss) ([]:List (Nat×Nat)).length (f.setIfInBounds j true) U w':=fun U w' hq=>
   ⟨fun h=>(by rw[Z]at h;cases h),by simpa using I,rfl,hq⟩
  unfold wpOp;simp only[q];split
  ·rename_i C
   rw[OK C]at h
   exact .inl (Ng (fun U w' R=>J U w' R) h)
  ·rename_i C
   rw[OJ C]at h
   exact J _ _ h
@[irreducible] def HP (P:Program) (ops:List Oper) (c e:Nat) (Sw Ss:World→Prop) (Q:Exit→Act→World→Prop) (ph:Bool) (ord:List (Nat×Nat)) (n:Nat) (σ:Sg) (w:World):Prop:=
  ∀a,Fr n σ a→Jf P ops c e Sw Ss (fun a w=>Q .normal a w) ph ord a w
section
variable {P:Program}{Q:Exit→Act→World→Prop}{n:Nat}{σ:Sg}{w:World}{L:List Oper}{c e:Nat}{Sw Ss:World→Prop}
theorem aH{id:Nat}(c e:Nat)(Sw Ss:World→Prop)(ord:List (Nat×Nat))(q:P.follows .mixedOrders=true)(f:(Region.noSelect L.toArray&&decide (ord.length=L.length)&&A2 L c e ord (Array.replicate L.length false))=true)(m:Sw (drew w))(hS:Ss (drew w))(h:HP P L c e Sw Ss Q false ord n σ (drew w)):CW P (.region id L.toArray true) Q n σ w:=by
 unfold CW;unfold HP at h;intro a u
 simp only[JL,OD]at f
 obtain⟨⟨p,r⟩,f⟩:=f;have l:∀k,(Array.replicate L.length false).getD k false=false:=fun k=>by
  simp[Js,Jy];split<;>rfl
 have h1:=Jh (Q:=fun a w=>Q .normal a w) p ord false (Array.replicate L.length false) a (Go.Proofs.YtfpjecjadlgdcaaGreatDoor.drew w) f ⟨by simp,fun k o j=>by rw[l k]at j;cases j⟩ (l c) (fun _=>⟨m,fun _=>hS⟩) (h a u);rw[r]at h1
 have h2:(Code.region id L.toArray true).wp P (fun x a w=>x=.normal∧Q .normal a w) a w:=O5 q (by simpa using I8 _ _ _ _ h1);exact O4 h2 (fun x v w' ⟨s,hq⟩=>by subst s;exact hq)
theorem HP.nil{ph:Bool}(h:EX Q .normal n σ w):HP P L c e Sw Ss Q ph [] n σ w:=by
 unfold HP;unfold EX at h;exact fun a f=>h a f
def ah(P:Program)(ops:List Oper)(c e:Nat)(Sw Ss:World→Prop)(Q:Exit→Act→World→Prop)(ph:Bool)(ord:List (Nat×Nat)):Exit→Act→World→Prop:=
 fun x a w=>x=.normal∧Sw w∧(ph=false→Ss w)∧Jf P ops c e Sw Ss (fun a w=>Q .normal a w) ph ord a w
def GZ(k:Nat):List (Nat×Bool)→List (Nat×Nat)
 |[]=>[]
 |(i,_)::r=>(i,k)::GZ k r
def fY:List (Nat×Bool)→Bool
 |[]=>true
 |(_,b)::r=>b&&fY r
theorem Jg{Q:Act→World→Prop}{ph:Bool}{r:List (Nat×Nat)}{S:World→Prop}{k:Nat}(j:∀i r a w,Jf P L c e Sw Ss Q ph ((i,k)::r) a w↔∃o v,L[i]?=some o∧YieldsIf P L.toArray S o v a∧Jf P L c e Sw Ss Q ph r (a.put o.dst v) w):∀(s:List (Nat×Bool)) (a:Act) (w:World),fY s=true→Jb P L S (fun a w=>Jf P L c e Sw Ss Q ph r a w) s a w→Jf P L c e Sw Ss Q ph (GZ k s++r) a w
 |[],a,w,_,h=>h
 |(i,true)::s,a,w,f,⟨o,v,m,l,h⟩=>(j i _ a w).2 ⟨o,v,m,l,Jg j s _ _ (by simpa[fY]using f) h⟩
 |(i,false)::s,a,w,f,_=>by simp[fY]at f
def dB(P:Program)(ops:List Oper)(c e:Nat)(Sw Ss:World→Prop)(Q:Exit→Act→World→Prop)(ph:Bool)(ord:List (Nat×Nat)):Exit→Act→World→Prop:=
 fun x a w=>x=.normal∧Jf P ops c e Sw Ss (fun a w=>Q .normal a w) ph ord a w
theorem HP.weak{ph:Bool}{r:List (Nat×Nat)}(s:List (Nat×Bool))(j:fY s=true)(h:HL P L Sw (dB P L c e Sw Ss Q ph r) s n σ w):HP P L c e Sw Ss Q ph (GZ 1 s++r) n σ w:=by
 unfold HP;unfold HL at h
 intro a q
 have h2:Jb P L Sw (fun a w=>Jf P L c e Sw Ss (fun a w=>Q .normal a w) ph r a w) s a w:=by
  have f:∀(s:List (Nat×Bool)) (a:Act) (w:World),fY s=true→Jb P L Sw (fun a w=>dB P L c e Sw Ss Q ph r .normal a w) s a w→Jb P L Sw (fun a w=>Jf P L c e Sw Ss (fun a w=>Q .normal a w) ph r a w) s a w:=by
   intro s
   induction s with
   |nil=>intro a w _ h;exact h.2
   |cons x s l=>
    obtain⟨i,b⟩:=x;intro a w j h
    cases b with
    |false=>simp[fY]at j
    |true=>
     obtain⟨o,v,p,m,h⟩:=h;exact⟨o,v,p,m,l _ _ (by simpa[fY]using j) h⟩
  exact f s a w j (h a q)
 exact Jg (S:=Sw) (k:=1) (fun i r a w=>J6) s a w j h2
theorem HP.early{ph:Bool}{r:List (Nat×Nat)}(s:List (Nat×Bool))(j:fY s=true)(h:HL P L Ss (dB P L c e Sw Ss Q ph r) s n σ w):HP P L c e Sw Ss Q ph (GZ 2 s++r) n σ w:=by
 unfold HP;unfold HL at h
 intro a q
 have h2:Jb P L Ss (fun a w=>Jf P L c e Sw Ss (fun a w=>Q .normal a w) ph r a w) s a w:=by
  have f:∀(s:List (Nat×Bool)) (a:Act) (w:World),fY s=true→Jb P L Ss (fun a w=>dB P L c e Sw Ss Q ph r .normal a w) s a w→Jb P L Ss (fun a w=>Jf P L c e Sw Ss (fun a w=>Q .normal a w) ph r a w) s a w:=by
   intro s
   induction s with
   |nil=>intro a w _ h;exact h.2
   |cons x s l=>
    obtain⟨i,b⟩:=x;intro a w j h
    cases b with
    |false=>simp[fY]at j
    |true=>
     obtain⟨o,v,p,m,h⟩:=h;exact⟨o,v,p,m,l _ _ (by simpa[fY]using j) h⟩
  exact f s a w j (h a q)
 exact Jg (S:=Ss) (k:=2) (fun i r a w=>J6) s a w j h2
theorem bd{ph:Bool}{r:List (Nat×Nat)}(h:HP P L c e Sw Ss Q ph r n σ w):EX (dB P L c e Sw Ss Q ph r) .normal n σ w:=by
 unfold EX;unfold HP at h
 exact fun a f=>⟨rfl,h a f⟩
theorem HP.mut{ph:Bool}{i:Nat}{r:List (Nat×Nat)}{o:Oper}(k:Ab L i=some o)(h:WL P L (ah P L c e Sw Ss Q (ph||Nat.beq i c) r) [o] n σ w):HP P L c e Sw Ss Q ph ((i,0)::r) n σ w:=by
 unfold HP;unfold WL at h
 intro a p
 rw[Ac]at k
 have h2:=h a p;simp only[wpList]at h2
 refine⟨o,k,?_⟩;split
 ·rename_i f
  rw[OK f]at h2
  rcases h2 with h2|⟨_,m⟩
  ·refine Ng (fun s w' q=>q.2) (Jj (fun x a w j hf=>absurd hf.1 j) h2)
  ·obtain⟨_,_,l⟩:=m
   exact absurd l.1 O_
 ·rename_i f
  rw[OJ f]at h2
  exact h2.2
theorem ba{ph:Bool}{r:List (Nat×Nat)}(f:Sw w)(j:ph=false→Ss w)(h:HP P L c e Sw Ss Q ph r n σ w):EX (ah P L c e Sw Ss Q ph r) .normal n σ w:=by
 unfold EX;unfold HP at h
 exact fun a k=>⟨rfl,f,j,h a k⟩
theorem HP.last{ph:Bool}{i:Nat}{o:Oper}(k:Ab L i=some o)(h:WL P L (fun x a w=>x=.normal∧Q .normal a w) [o] n σ w):HP P L c e Sw Ss Q ph [(i,3)] n σ w:=by
 unfold HP;unfold WL at h
 intro a p
 rw[Ac]at k
 have h2:=h a p;simp only[wpList]at h2
 refine⟨rfl,o,k,?_⟩;split
 ·rename_i f
  rw[OK f]at h2
  rcases h2 with h2|⟨_,m⟩
  ·refine Ng (fun r w' q=>q.2) (Jj (fun x a w j hf=>absurd hf.1 j) h2)
  ·obtain⟨_,_,l⟩:=m
   exact absurd l.1 O_
 ·rename_i f
  rw[OJ f]at h2
  exact h2.2
theorem HP.app1{α:Type}[Rep α]{x0:α}{bytes:Nat}{F:Nat→Prop}{i I d d1:Nat}{ty ty1:TypeId}{pos pos1:String}{af af1:Array Edge}{g g1:Option (Nat×Bool)}{t et:TypeId}{x y:Operand}{rest:List (Nat×Nat)}{v u:Value}{xs:List α}{yv:α}{B:Nat}{wc:World}
  (ho1:Ab L I=some ⟨some d1,.buildSlice t 1 [(0,y)].toArray,ty1,pos1,af1,g1⟩) (N:Ab L i=some ⟨some d,.call ⟨.builtin .append,#[x,.tmp d1],#[t,t]⟩,ty,pos,af,g⟩)
  (E:gd L σ ⟨some d1,.buildSlice t 1 [(0,y)].toArray,ty1,pos1,af1,g1⟩=some true) (H:Nat.ble (d1+1) n=true)
  (G:∀u,gd L ((d1,.slice u 1 1)::σ) ⟨some d,.call ⟨.builtin .append,#[x,.tmp d1],#[t,t]⟩,ty,pos,af,g⟩=some true) (hd:Nat.ble (d+1) n=true)
  (J:ev σ y=some u) (K:∀u,ev ((d1,.slice u 1 1)::σ) x=some v) [V:IsS P t et] [U:IsT P et α] [T:IsZ P et x0 bytes] (q:Own wc B et F v xs) (M:Rd wc F u yv) (R:B≤wc.heap.size) (hF:∀b,F b→b<wc.heap.size)
  (A:sz α≤16777216) (O:xs.length+1≤maxLen) (r:(xs.length+1)*bytes≤140737488355328) (hS:∀w',wc.grownBy w' v.ownBlock→Sw w')
  (h:∀m w' p,Own w' B et F m (xs++[yv])→wc.grownBy w' v.ownBlock→(∀g,m.ownBlock=some g→v.ownBlock=some g∨wc.heap.size≤g)→HP P L c e Sw Ss Q true rest n ((d,m)::(d1,.slice p 1 1)::σ) w'):
  HP P L c e Sw Ss Q true ((I,0)::(i,0)::rest) n σ wc:=by
 refine HP.mut ho1 ?_;refine WL.lit (vs:=[u]) (ys:=[yv]) E H rfl (by simp[FA,nL,J]) rfl ⟨M,trivial⟩ (by simpa using A) hF (fun z ho1 a=>?_);have f:wc.heap.size≤z.heap.size:=a.size;have l:Own z B et F v xs:=q.kept a (fun _ _ h=>by cases h) fun b r=>⟨hF b r,fun h=>by cases h⟩
 have g2:wc.grownBy z v.ownBlock:=⟨a.os,a.tape,a.output,a.size,fun k s _=>a.block k s (fun h=>by cases h)⟩;refine WL.nil (ba (ph:=true) (hS _ g2) (fun h=>by cases h) ?_);refine HP.mut N ?_;refine WL.app (ys:=[yv]) (G _) hd (K _) pU l ho1.src (MN R f) (fun b r=>MQ (hF b r) f) (by simpa using O) (by simpa using r) (fun m w' C j hnb=>?_);have g3:wc.grownBy w' v.ownBlock:=⟨j.os.trans a.os,j.tape.trans a.tape,j.output.trans a.output,MN f j.size,fun k s D=>(j.block k (MQ s f) D).trans (a.block k s (fun h=>by cases h))⟩;exact WL.nil (ba (ph:=true) (hS _ g3) (fun h=>by cases h) (h m w' _ C g3 (fun g G=>(hnb g G).imp id (fun h=>MN f h))))
end
section
variable {P:Program}{Q:Exit→Act→World→Prop}{n:Nat}{σ:Sg}{wc:World}{L:List Oper}{S:World→Prop}{ord:List (Nat×Bool)}{i d:Nat}{ty:TypeId}{pos:String}{af:Array Edge}{g:Option (Nat×Bool)}{t:TypeId}{x:Operand}{b o:Nat}
theorem cj{v:Value}(s:∀k,S k→∃e cells,Blk k b e cells∧Af cells o=some v)(p:Ab L i=some ⟨some d,.load t x,ty,pos,af,g⟩)(q:gd L σ ⟨some d,.load t x,ty,pos,af,g⟩=some true)(hd:Nat.ble (d+1) n=true)(l:ev σ x=some (.pointer (some ⟨b,o,none⟩)))[u:IsC P t 1 false]
  (h:HL P L S Q ord n ((d,v)::σ) wc):HL P L S Q ((i,true)::ord) n σ wc:=by
 refine HL.run p q hd (fun a r w' f=>?_) h;obtain⟨e,cells,j,m⟩:=s w' f;simp[execOp,r.ev l,D0 (P:=P) (t:=t) w' j m]
end
theorem Dm{fn:Func}{a u s:Nat}{t:TypeId}(h:fn.results=#[.cell a t,.tmp u,.tmp s])(tmps:Array Value)(P:Program)(w:World){p:Addr}{v:Value}(b:tmps.getD a undef=.pointer (some p))(c:(loadVar t p).run P w=.ok v w):
  (results fn tmps).run P w=.ok (.tuple ⟨[v,tmps.getD u undef,tmps.getD s undef]⟩) w:=by
 simp only[Js]at b⊢
 simp[results,h,b,asAddr,c]
theorem bl{P:Program}{n:Nat}{σ:Sg}{w:World}{fn:Func}{a b u s:Nat}{t e:TypeId}{cells:List Value}{k:Nat}{x y:Value}{R:Value→World→Prop}(o:fn.results=#[.cell a t,.tmp u,.tmp s])(r:fnd σ a=some (Pz b))(g:fnd σ u=some x)(m:fnd σ s=some y)[p:IsC P t k true](q:Blk w b e cells)(l:xI cells=k)(h:R (.tuple ⟨[.agg cells.toArray,x,y]⟩) w):
  EX (bodyPost P fn fun e w'=>∃v,e=.returned v∧R v w') .ret n σ w:=by
 unfold EX;intro ac c
 refine Ov (Dm o _ _ _ (c.slot a _ r) (v:=.agg cells.toArray) ?_) c.defers ⟨_,by rw[c.slot u x g,c.slot s y m],h⟩;rw[xJ]at l
 have d:=OS (P:=P) w ⟨b,0,none⟩ cells (fun j u g=>by rw[Oj,Nb];exact q.cell g);obtain⟨i,dd,h1,h2,h3,h4⟩:=p.ok;have f:(isAgg t).run P w=.ok true w:=by
  unfold isAgg;rw[Nv,OW h3 w,←h4];cases dd<;>rfl
 rw[l]at d
 simp[loadVar,f,sizeOf,typeInfo,h1,h2,d]
def bR(W:cN)(A:cD)(s l:List Int)(is:Bool)(err:Int):Prop:=
 (err≠0∧is=false∧s=[]∧l=[]∧(jt W=0→ji A=0→False))∨(err=0∧jt W=0∧ji A=0∧((is=false∧s=[]∧l=[]∧¬aP W A)∨(is=true∧aP W A∧PathE W A s l)))
def ot(sb mb:Nat)(lv nv:Value):Nat→Prop:=fun b=>b=sb∨b=mb∨lv.ownBlock=some b∨nv.ownBlock=some b
structure FndI(w8 w:World)(B:Nat)(e:EA)(sb mb:Nat)(lv nv fv:Value)(fr:List Int)(vs:List Raw)(ps:List de)(nx:List (List Int)):Prop where
 em:Em w B e sb mb lv nv fv ps
 run:RunE (pD e.W e.A) (zi e.W e.A) (FW e.W e.A) ps fr nx
 hn:Own w w8.heap.size 39 cZ nv vs
 inn:InnR w (ot sb mb lv nv) vs nx
 hf:∃fo fc,fv=.slice fo fr.length fc∧Sl w (Fz w (ot sb mb lv nv)) fo fc fr
 chg:Chg (fun b=>b=sb∨b=mb) w8 w
 lvn:∀g,lv.ownBlock=some g→w8.heap.size≤g
 dis:∀g,nv.ownBlock=some g→lv.ownBlock≠some g
 rows:∀r∈nx,r.length≤1099511627776
theorem o_(w:World)(b e:Nat){a:Option Addr}{c:Nat}{part:List Int}{p:Int}{k:Nat}(j:Blk w b 39 [.slice a part.length c])(g:Blk w e 3 [Py p])(f:Sl w (c7 w) a c part)(d:k<part.length):
  Rt Tryz.prog 127 [Py (k:Int),Pz b,Pz e].toArray w fun v w'=>v=.bool (decide (part.getD k 0=p))∧Ext w w':=by
 refine dF Tryz.func127 Tryz.ntmps127 rfl rfl ?_;refine Re ?_;refine di rfl rfl rfl rfl rfl Pl f d rfl Pg (fun q=>?_);refine Ry ?_;refine QL.nil (fun i h=>?_);refine PQ ?_;refine be rfl rfl ⟨?_,h⟩;rw[IP d];rfl
set_option maxHeartbeats 4000000 in
theorem pi(w0:World){va:Value}{W:cN}{A:cD}{o1 o2 o3 o4:Option Addr}{c1 c2 c3 c4:Nat}(h1:Sl w0 (c7 w0) o1 c1 W.1)(h2:Sl w0 (c7 w0) o2 c2 W.2.1)(h3:Sl w0 (c7 w0) o3 c3 W.2.2.1)(h4:Sl w0 (c7 w0) o4 c4 W.2.2.2)(ha:AutoAt w0 (c7 w0) va A)
  (sW:∀j,(W.2.1.getD j []).length≤1048576) (sA:∀j,(A.2.1.getD j []).length≤1048576) (tW:W.1.length≤1048576) (tA:A.1.length≤1048576):
  Rt Tryz.prog 62 [I1 o1 c1 o2 c2 o3 c3 o4 c4 W.1.length W.2.1.length W.2.2.1.length W.2.2.2.length,va].toArray w0 fun v w'=>(∃s l is err so sc lo lc,v=.tuple ⟨[BL so sc lo lc s l,.bool is,Py err]⟩∧Sl w' (c7 w') so sc s∧Sl w' (c7 w') lo lc l∧bR W A s l is err)∧Ext w0 w':=by
 obtain⟨k1,d1,k2,d2,k3,d3,k4,d4,k5,d5,rfl,g1,g2,g3,g4,g5⟩:=ha.ok;refine dE Tryz.func62 Tryz.ntmps62 rfl rfl ?_;have C:=Ext.refl w0;refine PB ?_;refine dX rfl rfl rfl fun w1 L e1=>?_
 have C:=C.trans e1;skip;refine dX rfl rfl rfl fun w2 P e2=>?_
 have L:=L.ext e2;have C:=C.trans e2;skip;refine WL.alloc rfl rfl (fun w3 N e3=>?_);have L:=L.ext e3;have P:=P.ext e3;have C:=C.trans e3;have y1:=e1.size;have y2:=e2.size;have y3:=N.lt;have l2:=L.lt;have l3:=P.lt;refine Q4 ?_;refine WL.call rfl rfl rfl (Ix w3 (h1.up C) (h2.up C) h3.len63 (h4.up C)) ?_;rintro _ w4 ⟨rfl,e4⟩
 have L:=L.ext e4;have P:=P.ext e4;have N:=N.ext e4;have C:=C.trans e4;have y4:=e4.size;have nilS:=fun(w:World)=>Sl.zero (α:=Int) w (c7 w)
 refine Qt ?_;apply CW.cond rfl<;>intro h
 ·have h:jt W≠0:=by simpa using h
  refine PB ?_;refine WL.build (parts:=[]) rfl rfl rfl rfl ?_;refine Ri ?_;refine WL.st rfl rfl rfl N rfl rfl Pr (fun Y hb5 hg5=>?_);have hE5:Ext w0 Y:=C.grown hg5 C.size Pk;refine PS ?_;exact bl rfl rfl rfl rfl hb5 rfl ⟨⟨[],[],false,_,_,_,_,_,rfl,nilS _,nilS _,.inl ⟨h,rfl,rfl,rfl,fun h'=>absurd h' h⟩⟩,hE5⟩
 have hW:jt W=0:=by simpa using h
 clear h;refine QH ?_;refine WL.call rfl rfl rfl (fH w4 (A:=A) ⟨k1,d1,k2,d2,k3,d3,k4,d4,k5,d5,rfl,g1.up C,g2.up C,g3.up C,g4.up C,g5.up C⟩) ?_;rintro _ Y ⟨rfl,e5⟩
 have L:=L.ext e5;have P:=P.ext e5;have N:=N.ext e5;have C:=C.trans e5;have y5:=e5.size;refine Qt ?_;apply CW.cond rfl<;>intro h
 ·have h:ji A≠0:=by simpa using h
  refine PB ?_;refine WL.build (parts:=[]) rfl rfl rfl rfl ?_;refine Ri ?_;refine WL.st rfl rfl rfl N rfl rfl Pr (fun w6 hb5 hg5=>?_);have hE5:Ext w0 w6:=C.grown hg5 C.size Pk;refine PS ?_;exact bl rfl rfl rfl rfl hb5 rfl ⟨⟨[],[],false,_,_,_,_,_,rfl,nilS _,nilS _,.inl ⟨h,rfl,rfl,rfl,fun _ h'=>absurd h' h⟩⟩,hE5⟩
 have hA:ji A=0:=by simpa using h
 clear h;have okA:=jk hA;obtain⟨w600,w80,wlb,wst,wnx,wfr⟩:=jU hW;refine QH ?_;refine fd (k:=226) rfl rfl (fun hnum=>?_);have e6:Ext Y (Y.alloc (.map #[] 0)):=Ext.alloc Y _;generalize Y.alloc (.map #[] 0)=w6 at*
 refine WL.build rfl rfl rfl rfl ?_;refine dX rfl rfl rfl fun Z hsb e7=>?_
 have lm:=hnum.lt;have L:=(L.ext e6).ext e7;have P:=(P.ext e6).ext e7;have N:=(N.ext e6).ext e7;have hnum:=hnum.ext e7;have hE7:=(C.trans e6).trans e7;have y6:=e6.size;have y7:=hsb.lt;obtain⟨e,heW,heA,hein,hecells⟩:∃e:EA,e.W=W∧e.A=A∧EIn Y (c7 Y) e∧∀mb lv nv fv,mC e mb lv nv fv=[.slice o1 W.1.length c1,.slice o2 W.2.1.length c2,.slice o3 W.2.2.1.length c3,.slice o4 W.2.2.2.length c4,.slice k1 A.1.length d1,.slice k2 A.2.1.length d2,.slice k3 A.2.2.1.length d3,.slice k4 A.2.2.2.1.length d4,.slice k5 A.2.2.2.2.length d5,.map (some mb),lv,nv,fv]:=
  ⟨⟨o1,c1,o2,c2,o3,c3,o4,c4,k1,d1,k2,d2,k3,d3,k4,d4,k5,d5,W,A⟩,rfl,rfl,⟨h1.up C,h2.up C,h3.up C,h4.up C,g1.up C,g2.up C,g3.up C,g4.up C,g5.up C⟩,fun _ _ _ _=>rfl⟩
 subst heW heA;have hEm7:Em Z Y.heap.size e w6.heap.size Y.heap.size (.slice none 0 0) (.slice none 0 0) (.slice none 0 0) []:=
  ⟨by rw[hecells];exact hsb,hnum,Own.nil,hein.to (fun b o=>(e6.trans e7).block b o) (fun b h=>h),⟨y6,MM _⟩,by omega,(fun g i=>by cases i),List.Pairwise.nil,(fun p hp=>by cases hp),⟨w600,okA.n,wlb,okA.mu,okA.no⟩⟩
 have hG1:=h1.up C;have hG2:=h2.up C;have hK1:=g1.up C;have hK2:=g2.up C;have lb4:=N.lt;clear hecells hein hsb hnum h1 h2 h3 h4 g1 g2 g3 g4 g5 ha;have e57:=e6.trans e7;clear e6 e7;have U:w0.heap.size<Y.heap.size∧w1.heap.size<Y.heap.size∧w2.heap.size<Y.heap.size:=by omega
 generalize hBn:Y.heap.size=B at*
 generalize hsbn:w6.heap.size=sb at*
 have hB7:B≤Z.heap.size:=by omega
 have I:∀b,b<B→Z.heap[b]?=Y.heap[b]?:=fun b o=>e57.block b O7
 refine QR ?_;refine WL.call rfl rfl rfl (kT Z hEm7 hB7 (hG1.mono (w':=Z) (fun b o=>I b (by rw[←hBn];exact o)) (fun b o=>by rw[←hBn];exact o)) (hK1.mono (w':=Z) (fun b o=>I b (by rw[←hBn];exact o)) (fun b o=>by rw[←hBn];exact o)) wst okA.st tW tA) ?_;rintro fv w8 ⟨lv,d⟩
 obtain⟨fo,fc,rfl⟩:=d.own.val
 change CrI Z w8 B e sb B (.slice none 0 0) lv (.slice fo (CH (pD e.W e.A) (FW e.W e.A) [] []).2.length fc) (.slice none 0 0) (.slice none 0 0) (CH (pD e.W e.A) (FW e.W e.A) [] []).1 (CH (pD e.W e.A) (FW e.W e.A) [] []).2 at d
 have z8:=d.chg.size;have J:=d.em.blk;have hlt8:=fun g i=>d.em.lo.lt g i
 have hof8:=fun g i=>d.own.lt g i
 have hnl8:=d.em.nl;have hlv8:∀g,lv.ownBlock=some g→Z.heap.size≤g:=fun g i=>(d.new g i).resolve_left (fun h=>by cases h)
 have hC8:Chg (fun b=>b=sb∨b=B) Z w8:=d.chg.wk (fun b h=>by
  rcases h with h|h|h
  ·exact .inl h
  ·exact .inr h
  ·cases h)
 refine Rk ?_;refine WL.st rfl rfl rfl J rfl rfl Pr (fun w9 X G=>?_);have z9:=G.size;have hC9:Chg (fun b=>b=sb∨b=B) Z w9:=hC8.grown G Pp;have hPW:dc e.W:=ju hW;have hold9:∀{w:World},Chg (fun b=>b=sb∨b=B) Z w→∀b,b<B→w.heap[b]?=Y.heap[b]?:=fun {w} hC b o=>(hC.block b O7 O7).trans (I b o)
 have hstart:=RunE.init (fit:=pD e.W e.A) (next:=zi e.W e.A) (start:=FW e.W e.A);have hI0:FndI Z w9 B e sb B lv (.slice none 0 0) (.slice fo (CH (pD e.W e.A) (FW e.W e.A) [] []).2.length fc) (CH (pD e.W e.A) (FW e.W e.A) [] []).2 [] (CH (pD e.W e.A) (FW e.W e.A) [] []).1 []:=by
  refine⟨⟨X,d.em.num.kept G Po,d.em.lo.keptN G (fun g i e=>(hnl8 g i).1 (Nn e)),d.em.inn.to (fun b o=>G.block b O7 Po) Pl,d.em.ge,d.em.ne,hnl8,d.em.nd,d.em.ins,d.em.ok⟩,hstart,Own.nil,InnR.nil,?_,hC9,hlv8,(fun g i=>by cases i),(fun r hr=>by cases hr)⟩;have ho9:=d.own.keptN G (fun g i e=>by have:=(hof8 g i).1;have:=Nn e;omega);obtain⟨fo',fc',e,hsl⟩:=ho9.slF (F':=Fz w9 (ot sb B lv (.slice none 0 0))) Pj (fun g i=>⟨(ho9.lt g i).2.1,fun h=>by
   have h1:=(hof8 g i).1;rcases h with h|h|h|h
   ·omega
   ·omega
   ·exact d.dis g i h
   ·cases h⟩)
  exact⟨fo',fc',e,hsl⟩
 generalize hfrn:(CH (pD e.W e.A) (FW e.W e.A) [] []).2=fr at*
 generalize (CH (pD e.W e.A) (FW e.W e.A) [] []).1=ps0 at*
 clear d J hlt8 hof8 hnl8 hlv8 hC8 X G hC9 hstart;have z79:Z.heap.size≤w9.heap.size:=by omega
 clear z8 z9 w8;refine Qj ?_;refine CW.loop (S:=Nat×Value×Value×List Raw×List de×List (List Int)) (fun s=>[(2,Pz w0.heap.size),(3,Pz w1.heap.size),(4,Pz w2.heap.size),(9,Pz sb),(10,Py s.1)])
  (fun s w=>FndI Z w B e sb B s.2.1 s.2.2.1 (.slice fo fr.length fc) fr s.2.2.2.1 s.2.2.2.2.1 s.2.2.2.2.2∧s.2.2.2.2.2.length=s.1) (fun s=>1228801 -s.1) (0,lv,.slice none 0 0,[],ps0,[]) O6 ⟨hI0,rfl⟩ ?_
 clear hI0 hEm7;rintro⟨n,lv,nv,vs,ps,nx⟩ w ⟨t,hnl⟩
 dsimp only at t hnl⊢
 have M:=t.em.blk;have hpl:=t.em.len;have hle:=t.run.le;have hcw:=hold9 t.chg;have hb2w:Blk w _ _ _:=((hcw _ U.1).trans (I _ U.1).symm).trans L;have hb3w:Blk w _ _ _:=((hcw _ U.2.1).trans (I _ U.2.1).symm).trans P;have hb4w:Blk w _ _ _:=((hcw _ U.2.2).trans (I _ U.2.2).symm).trans N;have zw:=t.chg.size;obtain⟨lo,lc,rfl⟩:=t.em.lo.val;obtain⟨no,nc,rfl⟩:=t.hn.val;refine QE ?_;apply CW.cond rfl<;>intro h
 ·have hn':n<ps.length:=by simp at h;omega
  clear h;have hpn:ps.getD n (0,0)=ps[n]:=by rw[KT,KY hn'];rfl
  have R:=t.em.ins _ (Lc hn');obtain⟨x,hx⟩:=J7 R.1.1;obtain⟨y,hy⟩:=J7 R.2.1;have hxl:x<e.W.2.1.length:=by have:=R.1.2;omega
  have hyl:y<e.A.2.1.length:=by have:=R.2.2;omega
  have hrX:e.W.2.1.getD x []=e.W.2.1[x]:=IN hxl;have hrY:e.A.2.1.getD y []=e.A.2.1[y]:=IN hyl;have hnext:zi e.W e.A (ps.getD nx.length (0,0))=Bs e.W.2.1[x] e.A.2.1[y]:=by
   rw[hnl,hpn];unfold zi;rw[hx,hy,Kb,Kb,hrX,hrY]
  have Q:=t.run.step O7;rw[hnext]at Q
  have hsX:=sW x;rw[hrX]at hsX
  have hsY:=sA y;rw[hrY]at hsY
  have hokX:AF e.W.2.1.length e.W.2.1[x]:=(wnx _ (Lc hxl)).2;have hokY:AF e.A.2.1.length e.A.2.1[y]:=okA.nx _ (Lc hyl);have hD:Ext w (drew w):=Ext.drew w;have zd:(drew w).heap.size=w.heap.size:=rfl;have hblkd:=M.ext hD;have hb2d:=hb2w.ext hD;have hb3d:=hb3w.ext hD;obtain⟨lo',lc',el,hlsl⟩:=(t.em.lo.extN hD).oldN.sl;obtain⟨rfl,_,rfl⟩:=Oi el;obtain⟨lb,off,rfl,hFb,hc1,hc2⟩:=hlsl.pairAt n hn';rw[hx]at hc1
  rw[hy]at hc2
  have hG2d:=hG2.mono (w':=drew w) (fun b o=>(hD.block b (by have h':b<Y.heap.size:=o;omega)).trans (hcw b (by rw[←hBn];exact o))) (F':=fun b=>b<B) (fun b o=>by rw[←hBn];exact o);have hK2d:=hK2.mono (w':=drew w) (fun b o=>(hD.block b (by have h':b<Y.heap.size:=o;omega)).trans (hcw b (by rw[←hBn];exact o))) (F':=fun b=>b<B) (fun b o=>by rw[←hBn];exact o);have hKs:∀u,(fun z:World=>z=drew w) u→u.heap[sb]?=(drew w).heap[sb]?:=fun u hu=>by rw[hu]
  have hKb2:∀u,(fun z:World=>z=drew w) u→u.heap[w0.heap.size]?=(drew w).heap[w0.heap.size]?:=fun u hu=>by rw[hu]
  have hKb3:∀u,(fun z:World=>z=drew w) u→u.heap[w1.heap.size]?=(drew w).heap[w1.heap.size]?:=fun u hu=>by rw[hu]
  have hKK:∀(F:Nat→Prop) z,(fun x:World=>x=drew w) z→∀b,F b→z.heap[b]?=(drew w).heap[b]?:=fun F z hz b _=>by rw[hz]
  have hSE:∀z,(fun x:World=>x=drew w) z→Ext (drew w) z:=fun z hz=>by rw[hz];exact Ext.refl _
  refine Rb ?_;refine aH 30 35 (fun z:World=>∃l',Blk z sb 223 (mC e B l' (.slice no vs.length nc) (.slice fo fr.length fc))) (fun z:World=>z=drew w)
   (GZ 1 [(0,true),(1,true),(2,true),(3,true),(4,true)]++(GZ 2 [(5,true),(6,true),(7,true),(8,true),(9,true),(10,true),(11,true),(12,true),(13,true),(14,true),(15,true),(16,true),(17,true),(18,true),(19,true),(20,true),(21,true),(22,true),(23,true),(24,true),(25,true),(26,true),(27,true),(28,true),(29,true)]++[(30,0),(31,0),(32,0),(33,1),(34,1),(35,3)])) mixed O8 ⟨_,hblkd⟩ rfl ?_
  refine HP.weak [(0,true),(1,true),(2,true),(3,true),(4,true)] rfl ?_;refine RK ?_;refine cj (v:=.slice no vs.length nc) (fun z hz=>by obtain⟨l',o⟩:=hz;exact⟨_,_,o,rfl⟩) rfl rfl rfl rfl ?_;refine RQ ?_;refine bd ?_;refine HP.early [(5,true),(6,true),(7,true),(8,true),(9,true),(10,true),(11,true),(12,true),(13,true),(14,true),(15,true),(16,true),(17,true),(18,true),(19,true),(20,true),(21,true),(22,true),(23,true),(24,true),(25,true),(26,true),(27,true),(28,true),(29,true)] rfl ?_;refine RK ?_;refine ca (α:=de) rfl rfl rfl rfl rfl O7 O7 ?_;refine RF ?_;refine HL.load (α:=Int) (F:=cZ) hSE rfl rfl rfl rfl (by have:=hFb;exact this) Pj hc1 rfl ?_;refine bY (k:=x) (F:=fun b=>b<B) (hKK _) rfl rfl rfl rfl rfl rfl rfl hG2d hxl Pg (fun u q hu=>?_);obtain⟨ro,rc,rfl,hrow⟩:=hu.sl;clear hu;refine RK ?_;refine ca (α:=de) rfl rfl rfl rfl rfl O7 O7 ?_;refine RF ?_;refine HL.load (α:=Int) (F:=cZ) hSE rfl rfl rfl rfl (by have:=hFb;exact this) Pj hc2 rfl ?_;refine bY (k:=y) (F:=fun b=>b<B) (hKK _) rfl rfl rfl rfl rfl rfl rfl hK2d hyl Pg (fun u q hu=>?_);obtain⟨so,sc,rfl,hsow⟩:=hu.sl;clear hu;refine RQ ?_;refine bd ?_;refine HP.mut rfl (WL.call rfl rfl rfl (kT (drew w) (t.em.ext O7 hD) O7 hrow hsow hokX hokY hsX hsY) ?_);rintro rv w8 ⟨lv',d⟩
  obtain⟨uo,uc,rfl⟩:=d.own.val;rw[show pC e=pD e.W e.A from rfl]at d⊢
  have hput:=CI (fit:=pD e.W e.A) (Bs e.W.2.1[x] e.A.2.1[y]) ps [] t.em.nd;have hplen:=hput.len;rw[Bu]at hplen
  have hmulX:=MV hsX hsY;generalize hP:CH (pD e.W e.A) (Bs e.W.2.1[x] e.A.2.1[y]) ps []=pq at*
  have J:=d.em.blk;have z8:=d.chg.size;have lsb:=M.lt;have D:=fun g i=>t.hn.lt g i
  have hllt:=fun g i=>t.em.lo.lt g i
  have hlu:=fun g i=>d.own.lt g i
  have hlc:=fun g i=>d.em.lo.lt g i
  have hnle:=d.em.nl;have hvl:=t.inn.len;refine WL.nil (ba (ph:=true) ⟨_,J⟩ (fun h=>by cases h) ?_);have hn8:Own w8 Z.heap.size 39 cZ (.slice no vs.length nc) vs:=(t.hn.extN hD).chg d.chg (fun b o hs=>by
   have hx:=D b o;rcases hs with h|h|h
   ·omega
   ·omega
   ·exact t.dis b o h)
  refine HP.app1 (α:=Raw) (F:=cZ) (bytes:=24) (yv:=(⟨.slice uo pq.2.length uc⟩:Raw)) rfl rfl rfl rfl Pg rfl rfl Pg hn8 (Rd.mkRaw _ _ _ rfl) O7 Pj O9 Pb O7
   (fun z hz=>⟨_,J.kept hz (fun e=>by have:=D sb e.symm;omega)⟩) (fun nv' w9 q9 ho9 G hnb9=>?_)
  obtain⟨no',nc',rfl⟩:=ho9.val;have X:=J.kept G (fun e=>by have:=D sb e.symm;omega);have z9:=G.size;refine HP.weak (r:=[(35,3)]) [(33,true),(34,true)] rfl ?_;refine RT ?_;refine bd ?_;refine HP.last rfl (WL.st rfl rfl rfl X rfl rfl Pr (fun w10 hblk10 T=>WL.nil (bu ?_)));have z10:=T.size;have hlv':∀g,lv'.ownBlock=some g→Z.heap.size≤g:=fun g i=>(d.new g i).elim (t.lvn g) (fun h=>by omega)
  have hdis8:∀g,(Value.slice no vs.length nc).ownBlock=some g→lv'.ownBlock≠some g:=fun g i hl=>(d.new g hl).elim (t.dis g i) (fun h=>by have:=(D g i).2.1;omega)
  have hM68:∀b,ot sb B lv' (.slice no vs.length nc) b→ot sb B (.slice (some ⟨lb,off,none⟩) ps.length lc) (.slice no vs.length nc) b∨w.heap.size≤b:=fun b h=>by
   rcases h with h|h|h|h
   ·exact .inl (.inl h)
   ·exact .inl (.inr (.inl h))
   ·exact(d.new b h).imp (fun h=>.inr (.inr (.inl h))) id
   ·exact .inl (.inr (.inr (.inr h)))
  have hC68:Chg (ot sb B (.slice (some ⟨lb,off,none⟩) ps.length lc) (.slice no vs.length nc)) w w8:=(Chg.of_ext _ hD).trans (d.chg.wk (fun b h=>by
   rcases h with h|h|h
   ·exact .inl h
   ·exact .inr (.inl h)
   ·exact .inr (.inr (.inl h))))
  have hC810:Chg (ot sb B lv' (.slice no vs.length nc)) w8 w10:=((Chg.of_grown G).wk (fun b h=>.inr (.inr (.inr h)))).grown T Pp;have hM810:∀b,ot sb B lv' (.slice no' (vs++[(⟨.slice uo pq.2.length uc⟩:Raw)]).length nc') b→ot sb B lv' (.slice no vs.length nc) b∨w8.heap.size≤b:=fun b h=>by
   rcases h with h|h|h|h
   ·exact .inl (.inl h)
   ·exact .inl (.inr (.inl h))
   ·exact .inl (.inr (.inr (.inl h)))
   ·exact(hnb9 b h).imp (fun h=>.inr (.inr (.inr h))) id
  have hrow8:Rd w8 (Fz w8 (ot sb B lv' (.slice no vs.length nc))) (.slice uo pq.2.length uc) pq.2:=
   d.own.rd.mono Pq (fun g i=>i.elim (fun h=>h.elim) (fun i=>⟨(hlu g i).2.1,fun h=>by
    have h1:=(hlu g i).1;rcases h with h|h|h|h
    ·omega
    ·omega
    ·exact d.dis g i h
    ·have:=(D g h).2.1;omega⟩))
  have hin10:=((t.inn.to hC68 hM68).push hrow8).to hC810 hM810;obtain⟨fo',fc',ef,hfs⟩:=t.hf;obtain⟨rfl,_,rfl⟩:=Oi ef;have hfs10:=(hfs.fz hC68 hM68).fz hC810 hM810;have hC10:Chg (fun b=>b=sb∨b=B) Z w10:=(t.chg.then hC68 (fun b h=>by
   rcases h with h|h|h|h
   ·exact .inl (.inl h)
   ·exact .inl (.inr h)
   ·exact .inr (t.lvn b h)
   ·exact .inr (D b h).1)).then hC810 (fun b h=>by
   rcases h with h|h|h|h
   ·exact .inl (.inl h)
   ·exact .inl (.inr h)
   ·exact .inr (hlv' b h)
   ·exact .inr (D b h).1)
  have hne10:=d.em.ne;refine Qc ?_;refine EX.back (n+1,lv',.slice no' (vs++[(⟨.slice uo pq.2.length uc⟩:Raw)]).length nc',vs++[(⟨.slice uo pq.2.length uc⟩:Raw)],pq.1,nx++[pq.2]) O6
   ⟨⟨⟨hblk10,(d.em.num.kept G (fun e=>by have:=D B e.symm;omega)).kept T Po,(d.em.lo.keptN G (fun g i e=>hdis8 g e.symm i)).keptN T (fun g i e=>(hnle g i).1 (Nn e)),
     d.em.inn.to (fun b o=>(T.block b O7 Po).trans (G.block b O7 (fun e=>by have:=D b e.symm;omega))) Pl,d.em.ge,hne10,hnle,d.em.nd,d.em.ins,d.em.ok⟩,Q,ho9.keptN T (fun g i e=>by
      have:=Nn e;rcases hnb9 g i with h|h
      ·have:=(D g h).1;omega
      ·omega),hin10,⟨fo,fc,rfl,hfs10⟩,hC10,hlv',fun g i hl=>?_,fun r hr=>?_⟩,by dsimp only;rw[Ll,hnl];rfl⟩ Pa
  ·rcases hnb9 g i with h|h
   ·exact hdis8 g h hl
   ·have:=(hlc g hl).2.1;omega
  ·rcases LK.1 hr with hr|hr
   ·exact t.rows r hr
   ·rw[L0]at hr;subst hr;simp at hplen;omega
 have O:nx.length=ps.length:=by simp at h;omega
 clear h;have i:=t.run.okG O;have hfl:=t.run.okF O;have hN:nx.length≤1228800:=by omega
 obtain⟨no',nc',en,hns⟩:=t.inn.old t.hn;obtain⟨rfl,hvl,rfl⟩:=Oi en;obtain⟨fo',fc',ef,hfs⟩:=t.hf;obtain⟨rfl,_,rfl⟩:=Oi ef;have hfs:=hfs.old';obtain⟨lo',lc',el,hls⟩:=t.em.lo.oldN.sl;obtain⟨rfl,_,rfl⟩:=Oi el;have hem:=t.em;have Q:=t.run;have hrows:=t.rows;have R:=t.em.ins;rw[hvl]at M hem
 have hE0w:Ext w0 w:=Chg.ext hE7 t.chg (fun b o=>by rcases o with h|h<;>omega);have hE0:∀{x:World},Ext w x→Ext w0 x:=fun {x} hx=>hE0w.trans hx
 clear t;refine QT ?_;refine WL.call rfl rfl rfl (dM w hns Pl i O7) ?_;rintro pv w10 ⟨part,hpo,hPt,e10⟩
 obtain⟨po,pc,rfl,hps⟩:=hpo.oldN.sl;have hppl:=hPt.len;skip;refine WL.alloc rfl rfl (fun w11 H e11=>?_);skip;refine WL.st rfl rfl rfl H rfl rfl Pr (fun w12 H hg12=>?_);have e12:Ext w10 w12:=e11.grown hg12 e11.size Pi;have x12:=e10.trans e12;clear e11 hg12;refine Qt ?_;refine WL.call rfl rfl rfl (nG w12 (hem.ext O7 x12) (by have:=x12.size;omega) wfr okA.fr w80 okA.f) ?_;rintro _ w13 ⟨so,sc,rfl,hss,e13⟩
 have x13:=x12.trans e13;have hsx:E4 e.W e.A ps=E2 (FP e.W e.A) ps:=by unfold E4 E2 FP;rw[LE,LH,LH];rfl
 have hslen:∀S∈E4 e.W e.A ps,S.length=nx.length:=fun S hS=>by
  rw[hsx]at hS
  obtain⟨f,_,rfl⟩:=LU.1 hS;rw[Ls,O]
 have hsn:(E4 e.W e.A ps).length≤160:=by unfold E4;rw[Ll,Ls,Ls];have:=okA.f;omega
 generalize hsets:E4 e.W e.A ps=sets at*
 have H:=H.ext e13;refine Qa ?_;refine WL.call rfl rfl rfl (mU w13 (M.ext x13) O.symm (hns.up x13) (hps.up (e12.trans e13)) hss i hPt hN hslen) ?_;rintro _ w14 ⟨p,rfl,hp,e14⟩
 have x14:=x13.trans e14;have H:=H.ext e14;skip;refine WL.alloc rfl rfl (fun w15 hb13 e15=>?_);skip;refine WL.st rfl rfl rfl hb13 rfl rfl Pr (fun w16 hb13 hg16=>?_);have e16:Ext w14 w16:=e15.grown hg16 e15.size Pi;have x16:=x14.trans e16;clear e15 hg16;have H:=H.ext e16;have V:=CK (Ss:=FP e.W e.A) Q O hPt;rw[←hsx]at V
 refine Qa ?_;apply CW.cond rfl<;>intro h
 ·have h:p<0:=by simpa using h
  have hno:¬aP e.W e.A:=fun hr=>by
   obtain⟨c,h1,h2,h3⟩:=V.1 hr;rcases hp with⟨_,hp⟩|⟨hp,_⟩
   ·exact hp c h1 h2 h3
   ·omega
  refine PB ?_;refine WL.build (parts:=[]) rfl rfl rfl rfl ?_;skip;refine WL.st rfl rfl rfl (hb4w.ext x16) rfl rfl Pr (fun E hb17 hg17=>?_);have hE17:Ext w0 E:=(hE0 x16).grown hg17 (hE0 x16).size Pk;refine PS ?_;exact bl rfl rfl rfl rfl hb17 rfl ⟨⟨[],[],false,_,_,_,_,_,rfl,nilS _,nilS _,.inr ⟨rfl,hW,hA,.inl ⟨rfl,rfl,rfl,hno⟩⟩⟩,hE17⟩
 have h:¬p<0:=by simpa using h
 obtain⟨hp0,hpN,hgood⟩:0≤p∧p<nx.length∧bT nx part sets p:=hp.resolve_left (fun h'=>by omega);have hyes:aP e.W e.A:=V.2 ⟨p,hp0,hpN,hgood⟩;clear hp h V;obtain⟨u,hu,hup,_⟩:=id hgood.1;obtain⟨a,haf,hrc⟩:=Q.reach O u hu;have hD:Ext w16 (drew w16):=Ext.drew w16;have xd:=x16.trans hD;have hblkd:=M.ext xd;have hb11d:=H.ext hD;have hb13d:=hb13.ext hD;have hSE:∀z,(fun z:World=>Ext (drew w16) z) z→Ext (drew w16) z:=fun _ h=>h
 refine QY ?_;refine aF (fun z:World=>Ext (drew w16) z) [(0,true),(1,true),(2,true),(3,true),(4,true),(5,true),(6,true),(7,false),(8,true)] mixed O8 Pw ?_;refine RO ?_;have hpd:=((hps.up (e12.trans e13)).up (e14.trans e16)).up hD;refine cr rfl (WL.call rfl rfl rfl (nQ (drew w16) (fr:=fr) (part:=part) (only:= -1) (to:=fun k=>decide (part.getD k 0=p)) hblkd (hns.up xd) (hfs.up xd) hpd i hfl hppl hN (fun z hz k hk=>FnV.mk (cs:=[_,_]) (o_ z _ _ (hb11d.ext hz) (hb13d.ext hz) (hpd.up hz) O7))) ?_);rintro stv E ⟨st,hso,K,e17⟩
 have K:WyOK nx fr (fun k=>decide (part.getD k 0=p)) (fQ part (-1)) st:=by
  rcases K with⟨_,K⟩|K
  ·exact absurd K (IB haf hrc (OC hup))
  ·exact K
 refine WL.nil (a_ e17 ?_);refine RR ?_;have x17:=xd.trans e17;have hb1117:=hb11d.ext e17;have hp17:=hpd.up e17;have hstn:=K.ne;have hstl:=K.len;obtain⟨sto,stc,rfl,hsts⟩:=hso.oldN.sl;have hlast:0≤st.getD (st.length -1) 0∧st.getD (st.length -1) 0<nx.length:=by
  rw[KT,KY O7];exact K.rg _ (Lc _)
 obtain⟨m,hm⟩:=J7 hlast.1;have hml:m<nx.length:=by omega
 have hmp:part.getD m 0=p:=by have:=K.en;rw[hm]at this;simpa using this
 have hlel:st[st.length -1]'O7=(m:Int):=by rw[←hm,KT,KY O7];rfl
 have hgd2:bT nx part sets (part.getD m 0):=by rw[hmp];exact hgood
 have hD2:Ext E (drew E):=Ext.drew E;have hblk2:=M.ext (x17.trans hD2);have hb112:=hb1117.ext hD2;have hsts2:=hsts.up hD2;have hSE:∀z,(fun z:World=>Ext (drew E) z) z→Ext (drew E) z:=fun _ h=>h
 have hKK:∀(F:Nat→Prop) (hF:∀b,F b→b<(drew E).heap.size) z,(fun z:World=>Ext (drew E) z) z→∀b,F b→z.heap[b]?=(drew E).heap[b]?:=fun F hF z hz b o=>hz.block b (hF b o)
 refine QY ?_;refine aF (fun z:World=>Ext (drew E) z) [(0,true),(1,true),(2,true),(3,true),(4,true),(5,true),(6,true),(7,true),(8,true),(9,false),(10,true)] mixed O8 Pw ?_;refine RN ?_;rw[show((st.length:Nat):Int) -1=((st.length -1:Nat):Int) by omega];refine bY (w:=drew E) (F:=c7 (drew E)) (k:=st.length -1) (hKK _ Pl) rfl rfl rfl rfl rfl rfl rfl hsts2 O7 Pg (fun u q hu=>?_);obtain rfl:=hu.int;rw[hlel];refine RK ?_;refine cr rfl (WL.call rfl rfl rfl (nB (drew E) hblk2 (hns.up (x17.trans hD2)) (hp17.up hD2) (((hss.up e14).up e16).up ((hD.trans e17).trans hD2)) i hPt hN hslen hsn hrows hml hgd2) ?_);rintro lov w18 ⟨lo2,hlo,hRO,e18⟩
 refine WL.nil (a_ e18 ?_);refine RR ?_;have x18:=(x17.trans hD2).trans e18;have e1718:=hD2.trans e18;have hlol:=hRO.len;have hlsl:sets.length+1≤161:=by omega
 have hlmul:=MV hlsl hN;obtain⟨loo,loc,rfl,hlos⟩:=hlo.oldN.sl;have hso18:=hso.extN e1718;have hblk18:=M.ext x18;have hls18:=hls.up x18;rw[O]at hlmul hlol
 have hokst:AF ps.length (st.take (st.length -1)):=fun y hy=>by rw[←O];exact K.rg y (LY hy)
 have hoklo:AF ps.length lo2:=fun y hy=>by rw[←O];exact hRO.rg y hy
 have hb418:=hb4w.ext x18;refine QD ?_;refine eq (α:=Int) (st.length -1) O7 rfl rfl rfl rfl hso18 O7 (fun v19 ho19 hob19=>?_);obtain⟨cuo,cuc,rfl,hcus⟩:=ho19.oldN.sl;skip;refine WL.call rfl rfl rfl (nH w18 hblk18 hls18 hcus hokst (by rw[LB];omega)) ?_;rintro sv w19 ⟨hsv,e19⟩
 obtain⟨svo,svc,rfl,hsvs⟩:=hsv.slF (F':=fun b=>w18.heap.size≤b∧b<w19.heap.size) Pj (fun g i=>⟨(hsv.lt g i).1,(hsv.lt g i).2.1⟩);refine Ri ?_;refine WL.call rfl rfl rfl (nH w19 (hblk18.ext e19) (hls18.up e19) (hlos.up e19) hoklo O7) ?_;rintro lv2 w20 ⟨hlv2,e20⟩
 obtain⟨lvo,lvc,rfl,hlvs⟩:=hlv2.slF (F':=fun b=>w19.heap.size≤b∧b<w20.heap.size) Pj (fun g i=>⟨(hlv2.lt g i).1,(hlv2.lt g i).2.1⟩);have x20:=(x18.trans e19).trans e20;skip;refine WL.build rfl rfl rfl rfl ?_;skip;refine WL.st rfl rfl rfl (hb418.ext (e19.trans e20)) rfl rfl Pr (fun w21 hb21 hg21=>?_);have hE21:Ext w0 w21:=(hE0 x20).grown hg21 (hE0 x20).size Pk;have hRO':RoOK nx (st.getD (st.length -1) 0).toNat (E2 (FP e.W e.A) ps) lo2:=by rw[hm,Kb,←hsx];exact hRO
 have hpath:=BM Q O R hPW (Az okA) K hRO' O7 O7;have q18:=x18.size;have q19:=e19.size;have q20:=e20.size;have r1:=hsvs.mono (w':=w21) (fun b o=>(hg21.block b O7 Po).trans (e20.block b o.2)) (F':=c7 w21) (fun b o=>by have:=hg21.size;exact(show b<w21.heap.size by omega));have r2:=hlvs.mono (w':=w21) (fun b o=>hg21.block b o.2 Po) (F':=c7 w21) (fun b o=>by have:=hg21.size;exact(show b<w21.heap.size by omega));refine PK ?_;exact bl rfl rfl rfl rfl hb21 rfl ⟨⟨_,_,true,0,_,_,_,_,rfl,r1,r2,.inr ⟨rfl,hW,hA,.inr ⟨rfl,hyes,hpath⟩⟩⟩,hE21⟩

section
variable {fr:List (List Int)}{q:Nat→de}
end







instance rU:IsZC Tryz.prog 144 [.slice none 0 0,.slice none 0 0,.slice none 0 0,.slice none 0 0,.slice none 0 0]:=IsZC.of (z:=.agg #[.slice none 0 0,.slice none 0 0,.slice none 0 0,.slice none 0 0,.slice none 0 0]) O8 rfl


def Bm(f:Nat→Bool):Nat→Nat
 |0=>0
 |c+1=>if f c=true then Bm f c|||(1 <<< c)else Bm f c
theorem iy(c j:Nat):(1 <<< c).testBit j=decide (j=c):=by
 rw[M2,Nat.testBit_two_pow];exact Oy.2 ⟨fun h=>h.symm,fun h=>h.symm⟩
theorem Bn{f:Nat→Bool}:∀{c j:Nat},(Bm f c).testBit j=(decide (j<c)&&f j)
 |0,j=>by simp[Bm]
 |c+1,j=>by
  rw[Bm];by_cases hf:f c=true
  ·rw[OK hf,Nat.testBit_or,Bn,iy]
   by_cases e:j=c
   ·subst e;simp[hf]
   ·have:decide (j<c+1)=decide (j<c):=Oy.2 O7
    rw[this,Oz e,JX]
  ·rw[OJ hf,Bn]
   by_cases e:j=c
   ·subst e;simp[hf]
   ·have:decide (j<c+1)=decide (j<c):=Oy.2 O7
    rw[this]
theorem Bo{f:Nat→Bool}:∀{c:Nat},Bm f c<2 ^ c
 |0=>by simp[Bm]
 |c+1=>by
  have h:=Bo (f:=f) (c:=c);rw[Bm];have h2:2 ^ c≤2 ^ (c+1):=M4 O7 O7;split
  ·exact M3 (MQ h h2) (by rw[M2];exact M5 O7 O7)
  ·omega
abbrev cW:=List Int×List Ltl
def qz(k n:Int)(t:Ltl)(m:cW):cW:=if k=3 then(if n∈m.1 then m.1 else m.1++[n],m.2)else if k=7∨k=8∨k=9 then(m.1,if m.2.any (Eu t)=true then m.2 else m.2++[t])else m
mutual
def qi:Ltl→cW→cW
 |.mk k n kids,m=>qr kids (qz k n (.mk k n kids) m)
def qr:List Ltl→cW→cW
 |[],m=>m
 |x::r,m=>qr r (qi x m)
end
mutual
def Cov(m:cW):Ltl→Prop
 |.mk k n kids=>(k=3→n∈m.1)∧((k=7∨k=8∨k=9)→.mk k n kids∈m.2)∧Covs m kids
def Covs(m:cW):List Ltl→Prop
 |[]=>True
 |x::r=>Cov m x∧Covs m r
end
def Les(m c:cW):Prop:=(∀x∈m.1,x∈c.1)∧∀x∈m.2,x∈c.2
theorem Les.refl(m:cW):Les m m:=⟨fun _ h=>h,fun _ h=>h⟩
theorem Les.trans{a b c:cW}(h:Les a b)(k:Les b c):Les a c:=⟨fun x d=>k.1 x (h.1 x d),fun x d=>k.2 x (h.2 x d)⟩
mutual
theorem Cov.les{m d:cW}(h:Les m d):∀t,Cov m t→Cov d t
 |.mk k n kids,c=>by
  simp only[Cov]at c⊢
  exact⟨fun e=>h.1 _ (c.1 e),fun e=>h.2 _ (c.2.1 e),Covs.les h kids c.2.2⟩
theorem Covs.les{m d:cW}(h:Les m d):∀l,Covs m l→Covs d l
 |[],_=>trivial
 |x::r,c=>by
  simp only[Covs]at c⊢
  exact⟨Cov.les h x c.1,Covs.les h r c.2⟩
end
theorem qB(k n:Int)(t:Ltl)(m:cW):Les m (qz k n t m):=by
 unfold qz;split
 ·refine⟨fun x c=>?_,fun _ h=>h⟩
  dsimp only;split
  ·exact c
  ·exact LL _ c
 ·split
  ·refine⟨fun _ h=>h,fun x c=>?_⟩
   dsimp only;split
   ·exact c
   ·exact LL _ c
  ·exact Les.refl m
mutual
theorem qn:∀(t:Ltl) (m:cW),Les m (qi t m)
 |.mk k n kids,m=>by
  simp only[qi];exact(qB k n _ m).trans (qw kids _)
theorem qw:∀(l:List Ltl) (m:cW),Les m (qr l m)
 |[],m=>Les.refl m
 |x::r,m=>by
  simp only[qr];exact(qn x m).trans (qw r _)
end
theorem qA(k n:Int)(kids:List Ltl)(m:cW):(k=3→n∈(qz k n (.mk k n kids) m).1)∧((k=7∨k=8∨k=9)→.mk k n kids∈(qz k n (.mk k n kids) m).2):=by
 unfold qz;refine⟨fun h=>?_,fun h=>?_⟩
 ·rw[OK h]
  dsimp only;split
  ·assumption
  ·exact LM _ O_
 ·rw[OJ O7,OK h]
  dsimp only;split
  ·rename_i c
   rw[Kg]at c
   obtain⟨x,d,c⟩:=c;rw[(Ev _ _).1 c];exact d
  ·exact LM _ O_
mutual
theorem qk:∀(t:Ltl) (m:cW),Cov (qi t m) t
 |.mk k n kids,m=>by
  simp only[Cov,qi];have h:=qA k n kids m;have c:=qw kids (qz k n (.mk k n kids) m);exact⟨fun e=>c.1 _ (h.1 e),fun e=>c.2 _ (h.2 e),qt kids _⟩
theorem qt:∀(l:List Ltl) (m:cW),Covs (qr l m) l
 |[],m=>trivial
 |x::r,m=>by
  simp only[Covs,qr];exact⟨Cov.les (qw r _) x (qk x m),qt r _⟩
end
structure OkM(m:cW):Prop where
 na:m.1.Nodup
 ra:∀x∈m.1,0≤x∧x≤63
 wp:∀g∈m.2,IG g∧(g.k=7∨g.k=8∨g.k=9)∧rP g 10=false∧rP g 11=false
theorem OkM.nil:OkM ([],[]):=⟨List.Pairwise.nil,(fun x c=>by cases c),(fun x c=>by cases c)⟩
theorem qC{k n:Int}{kids:List Ltl}{m:cW}(c:OkM m)(h:IG (.mk k n kids))(o:rP (.mk k n kids) 10=false)(h1:rP (.mk k n kids) 11=false):OkM (qz k n (.mk k n kids) m):=by
 unfold qz;simp only[IG]at h
 split
 ·refine⟨?_,fun x d=>?_,c.wp⟩
  ·dsimp only
   split
   ·exact c.na
   ·rename_i hn
    rw[L3];exact⟨c.na,Ma _ _,fun a l b i e=>hn (by rw[L0]at i;rw[←i,←e];exact l)⟩
  ·dsimp only at d
   split at d
   ·exact c.ra x d
   ·rcases LK.1 d with d|d
    ·exact c.ra x d
    ·rw[L0]at d;subst d;exact⟨h.2.1,h.2.2.1⟩
 ·split
  ·rename_i j
   refine⟨c.na,c.ra,fun g f=>?_⟩;dsimp only at f
   split at f
   ·exact c.wp g f
   ·rcases LK.1 f with f|f
    ·exact c.wp g f
    ·rw[L0]at f;subst f
     exact⟨by simp only[IG];exact h,j,o,h1⟩
  ·exact c
mutual
theorem qq:∀(t:Ltl) (m:cW),OkM m→IG t→rP t 10=false→rP t 11=false→OkM (qi t m)
 |.mk k n kids,m,e,c,d,h1=>by
  have h:=qC e c d h1;simp only[qi];simp only[IG]at c
  simp only[rP,JV]at d h1
  exact qx kids _ h c.2.2.2.2 d.2 h1.2
theorem qx:∀(l:List Ltl) (m:cW),OkM m→IH l→rQ l 10=false→rQ l 11=false→OkM (qr l m)
 |[],m,e,_,_,_=>e
 |x::r,m,e,c,d,h1=>by
  simp only[qr];simp only[IH]at c
  simp only[rQ,JV]at d h1
  exact qx r _ (qq x m e c.1 d.1 h1.1) c.2 d.2 h1.2
end
def aL(m c:cW):Prop:=∀g∈m.2,Cov c g
mutual
theorem qj:∀(t:Ltl) (m d:cW),Les (qi t m) d→aL m d→aL (qi t m) d
 |.mk k n kids,m,d,f,e=>by
  have h1:=Cov.les f _ (qk (.mk k n kids) m);simp only[qi]at f⊢
  refine qs kids _ d f fun g c=>?_
  unfold qz at c
  split at c
  ·exact e g c
  ·split at c
   ·dsimp only at c
    split at c
    ·exact e g c
    ·rcases LK.1 c with c|c
     ·exact e g c
     ·rw[L0]at c;subst c;exact h1
   ·exact e g c
theorem qs:∀(l:List Ltl) (m d:cW),Les (qr l m) d→aL m d→aL (qr l m) d
 |[],m,d,_,e=>e
 |x::r,m,d,f,e=>by
  simp only[qr]at f⊢
  exact qs r _ d f (qj x m d ((qw r _).trans f) e)
end
def BA(m:cW)(t:Ltl):Int:=idxOf (Eu t) m.2
def gF(m:cW)(n:Int):Int:=idxOf (fun y=>n==y) m.1
def j8(m:cW)(s:Nat)(t:Ltl):Bool:=if t.k=3 then s.testBit (gF m t.n).toNat else s.testBit (m.1.length+(BA m t).toNat)
mutual
def rR(m:cW)(s:Nat):Ltl→Bool
 |.mk k n kids=>
  if k=1 then true else if k=2 then false
  else if k=4 then !((rS m s kids).getD 0 false)
  else if k=5 then(rS m s kids).getD 0 false&&(rS m s kids).getD 1 false
  else if k=6 then(rS m s kids).getD 0 false||(rS m s kids).getD 1 false
  else if k=8 then(rS m s kids).getD 1 false||((rS m s kids).getD 0 false&&j8 m s (.mk k n kids))
  else if k=9 then(rS m s kids).getD 1 false&&((rS m s kids).getD 0 false||j8 m s (.mk k n kids))
  else j8 m s (.mk k n kids)
def rS(m:cW)(s:Nat):List Ltl→List Bool
 |[]=>[]
 |x::r=>rR m s x::rS m s r
end
def gp(g:Ltl):Ltl:=if g.k=7 then g.kids.getD 0 (.mk 0 0 [])else g
def zp:Ltl:=.mk 0 0 []
def wz(m:cW)(s:Nat):Nat:=Bm (fun i=>rR m s (gp (m.2.getD i zp))) m.2.length
def iu(at':List Int)(s:Nat)(is:Bool):Nat→Nat
 |0=>0
 |c+1=>if s.testBit c=is then iu at' s is c|||(1 <<< (at'.getD c 0).toNat)else iu at' s is c
def iz(m:cW)(s:Nat)(is:Bool):Nat:=iu m.1 s is m.1.length
def ou(m:cW)(g:Ltl)(s:Nat):Bool:=if g.k=8 then !(rR m s g)||rR m s (g.kids.getD 1 zp)else rR m s g||!(rR m s (g.kids.getD 1 zp))
theorem bitP_bit{at':List Int}{s:Nat}{is:Bool}{a:Nat}:∀{c:Nat},(iu at' s is c).testBit a=true↔∃i,i<c∧s.testBit i=is∧(at'.getD i 0).toNat=a
 |0=>by simp[iu]
 |c+1=>by
  rw[iu];by_cases h:s.testBit c=is
  ·rw[OK h,Nat.testBit_or,JW,bitP_bit,iy,OD]
   constructor
   ·rintro(⟨i,h1,h2⟩|h1)
    ·exact⟨i,by omega,h2⟩
    ·exact⟨c,by omega,h,h1.symm⟩
   ·rintro⟨i,h1,h2,h3⟩
    by_cases e:i=c
    ·subst e;exact .inr h3.symm
    ·exact .inl ⟨i,by omega,h2,h3⟩
  ·rw[OJ h,bitP_bit]
   constructor
   ·rintro⟨i,h1,h2⟩;exact⟨i,by omega,h2⟩
   ·rintro⟨i,h1,h2,h3⟩
    by_cases e:i=c
    ·subst e;exact absurd h2 h
    ·exact⟨i,by omega,h2,h3⟩
theorem iw{at':List Int}{s:Nat}{is:Bool}(h:∀x∈at',x≤63):∀{c:Nat},c≤at'.length→iu at' s is c<2 ^ 64
 |0,_=>by simp[iu]
 |c+1,d=>by
  have h1:=iw (s:=s) (is:=is) h (c:=c) O7;rw[iu];split
  ·refine M3 h1 ?_
   rw[M2];have:=h (at'.getD c 0) (by rw[KT,KY O7];exact Lc _);exact M5 O7 O7
  ·exact h1
theorem vr{α:Type}{p:α→Bool}{l:List α}{x:α}(d:x∈l)(c:p x=true)(f:∀y,p y=true→y=x):∃i,∃h:i<l.length,idxOf p l=(i:Int)∧l[i]=x:=by
 unfold idxOf;cases e:l.findIdx? p with
 |none=>
  rw[KK]at e
  rw[e x d]at c;cases c
 |some i=>
  obtain⟨h1,h2,_⟩:=KL.1 e;exact⟨i,h1,rfl,f _ h2⟩
theorem BB{m:cW}{t:Ltl}(h:t∈m.2):∃i,∃h:i<m.2.length,BA m t=(i:Int)∧m.2[i]=t:=
 vr h (Ew t) (fun y c=>((Ev _ _).1 c).symm)
theorem gG{m:cW}{n:Int}(h:n∈m.1):∃i,∃h:i<m.1.length,gF m n=(i:Int)∧m.1[i]=n:=
 vr h O_ (fun y c=>by simpa using Eq.symm (by simpa using c))
section
variable {m:cW}{s:Nat}{n:Int}{a b:Ltl}
theorem ho1:rR m s (.mk 1 n [])=true:=by simp[rR]
theorem ho2:rR m s (.mk 2 n [])=false:=by simp[rR]
theorem ho3:rR m s (.mk 3 n [])=s.testBit (gF m n).toNat:=by simp[rR,j8,Ltl.k,Ltl.n]
theorem ho4:rR m s (.mk 4 n [a])=!rR m s a:=by simp[rR,rS]
theorem ho5:rR m s (.mk 5 n [a,b])=(rR m s a&&rR m s b):=by simp[rR,rS]
theorem ho6:rR m s (.mk 6 n [a,b])=(rR m s a||rR m s b):=by simp[rR,rS]
theorem ho7:rR m s (.mk 7 n [a])=s.testBit (m.1.length+(BA m (.mk 7 n [a])).toNat):=by simp[rR,j8,Ltl.k]
theorem ho8:rR m s (.mk 8 n [a,b])=(rR m s b||(rR m s a&&s.testBit (m.1.length+(BA m (.mk 8 n [a,b])).toNat))):=by simp[rR,rS,j8,Ltl.k]
theorem ho9:rR m s (.mk 9 n [a,b])=(rR m s b&&(rR m s a||s.testBit (m.1.length+(BA m (.mk 9 n [a,b])).toNat))):=by simp[rR,rS,j8,Ltl.k]
end
theorem Fh{x a:Nat}:x >>> a&&&1=1↔x.testBit a=true:=by
 rw[Nat.testBit_eq_decide_div_mod_eq,OD,Nat.and_one_is_mod,M6]
structure OkF(m:cW)(t:Ltl):Prop where
 wf:IG t
 h10:rP t 10=false
 h11:rP t 11=false
 cov:Cov m t
theorem OkF.un{m:cW}{k n:Int}{a:Ltl}(h:OkF m (.mk k n [a])):OkF m a:=by
 obtain⟨h1,h2,h3,h4⟩:=h;simp only[IG,IH]at h1
 simp only[rP,rQ,JV]at h2 h3
 simp only[Cov,Covs]at h4
 exact⟨h1.2.2.2.2.1,h2.2.1,h3.2.1,h4.2.2.1⟩
theorem OkF.b1{m:cW}{k n:Int}{a b:Ltl}(h:OkF m (.mk k n [a,b])):OkF m a:=by
 obtain⟨h1,h2,h3,h4⟩:=h;simp only[IG,IH]at h1
 simp only[rP,rQ,JV]at h2 h3
 simp only[Cov,Covs]at h4
 exact⟨h1.2.2.2.2.1,h2.2.1,h3.2.1,h4.2.2.1⟩
theorem OkF.b2{m:cW}{k n:Int}{a b:Ltl}(h:OkF m (.mk k n [a,b])):OkF m b:=by
 obtain⟨h1,h2,h3,h4⟩:=h;simp only[IG,IH]at h1
 simp only[rP,rQ,JV]at h2 h3
 simp only[Cov,Covs]at h4
 exact⟨h1.2.2.2.2.2.1,h2.2.2.1,h3.2.2.1,h4.2.2.2.1⟩
structure OkT(m:cW):Prop where
 ok:OkM m
 clo:aL m m
theorem BH{g:Ltl}(c:IG g)(d:g.k=7∨g.k=8∨g.k=9):(∃a,g=.mk 7 0 [a])∨∃k a b,(k=8∨k=9)∧g=.mk k 0 [a,b]:=by
 obtain⟨k,n,kids⟩:=g;simp only[Ltl.k]at d
 simp only[IG]at c
 obtain⟨h1,_,_,h4,_⟩:=c;have hn:n=0:=h4 O7;subst hn;rcases d with rfl|rfl|rfl
 ·have:kids.length=1:=by simp[wY]at h1;omega
  obtain⟨a,rfl⟩:=Lo.1 this;exact .inl ⟨a,rfl⟩
 ·have:kids.length=2:=by simp[wY]at h1;omega
  match kids,this with
  |[a,b],_=>exact .inr ⟨8,a,b,.inl rfl,rfl⟩
 ·have:kids.length=2:=by simp[wY]at h1;omega
  match kids,this with
  |[a,b],_=>exact .inr ⟨9,a,b,.inr rfl,rfl⟩
theorem OkT.part{m:cW}(h:OkT m){g:Ltl}(a:g∈m.2):OkF m g:=⟨(h.ok.wp g a).1,(h.ok.wp g a).2.2.1,(h.ok.wp g a).2.2.2,h.clo g a⟩
theorem OkT.arg{m:cW}(h:OkT m){g:Ltl}(c:g∈m.2):OkF m (gp g):=by
 have h1:=h.part c;rcases BH h1.wf (h.ok.wp g c).2.1 with⟨a,rfl⟩|⟨k,a,b,d,rfl⟩
 ·exact h1.un
 ·unfold gp
  rw[OJ (by simp only[Ltl.k];omega)];exact h1
abbrev Ah(m:cW):Nat:=m.1.length+m.2.length
def Gr(m:cW)(f:Ltl):cD:=
 (((List.range (2 ^ Ah m)).filter fun s=>rR m s f).map fun s:Nat=>(s:Int),
  (List.range (2 ^ Ah m)).map fun s=>((List.range (2 ^ Ah m)).filter fun t=>decide (wz m t=s >>> m.1.length)).map fun t:Nat=>(t:Int),
  (List.range (2 ^ Ah m)).map fun s=>iz m s true,(List.range (2 ^ Ah m)).map fun s=>iz m s false,
  (m.2.filter fun g=>decide (g.k≠7)).map fun g=>((List.range (2 ^ Ah m)).filter fun s=>ou m g s).map fun s:Nat=>(s:Int))
section
variable {m:cW}{L:Nat→Nat}
theorem rj{l:List Ltl}{j:Nat}(h:j<l.length):l.getD j zp=l[j]:=by rw[KT,KY h];rfl
theorem wA{s j:Nat}:(wz m s).testBit j=(decide (j<m.2.length)&&rR m s (gp (m.2.getD j zp))):=Bn
theorem BD{s t:Nat}(h:wz m t=s >>> m.1.length){g:Ltl}(c:g∈m.2):s.testBit (m.1.length+(BA m g).toNat)=rR m t (gp g):=by
 obtain⟨j,b,e,a⟩:=BB c;rw[e,Kb,←Na,←h,wA,OC b,JZ,rj b,a]
theorem GW{H A B:Nat→Prop}(c:∀i,H i↔B i∨(A i∧H (i+1)))(hf:∀i,∃j,i≤j∧(¬H j∨B j))(i:Nat):H i↔Til A B i:=by
 constructor
 ·intro h
  refine J1 fun hn=>?_
  have:∀d,H (i+d)∧¬Til A B (i+d):=fun d=>by
   induction d with
   |zero=>exact⟨h,hn⟩
   |succ d b=>
    obtain⟨h1,h2⟩:=b;have h3:¬B (i+d):=fun e=>h2 (Til.step.2 (.inl e))
    have h4:=((c _).1 h1).resolve_left h3;exact⟨h4.2,fun k=>h2 (Til.step.2 (.inr ⟨h4.1,k⟩))⟩
  obtain⟨j,l,a⟩:=hf i;have h1:=this (j -i);rw[show i+(j -i)=j by omega]at h1
  rcases a with a|a
  ·exact a h1.1
  ·exact h1.2 (Til.step.2 (.inl a))
 ·rintro⟨j,f,e,g⟩
  have:∀d,d≤j -i→H (j -d):=fun d=>by
   induction d with
   |zero=>intro _;exact(c _).2 (.inl e)
   |succ d b=>
    intro hd
    refine(c _).2 (.inr ⟨g _ O7 O7,?_⟩);rw[show j -(d+1)+1=j -d by omega];exact b O7
  have h1:=this (j -i) Pu;rwa[show j -(j -i)=i by omega]at h1
theorem Ed(w:OkT m){r:Nat→Nat}(c:∀i,wz m (r (i+1))=r i >>> m.1.length)(p:∀i,∀n∈m.1,(r i).testBit (gF m n).toNat=(L i).testBit n.toNat)
  (d:∀g∈m.2,g.k≠7→∀i,∃j,i≤j∧ou m g (r j)=true):∀t,OkF m t→∀i,rR m (r i) t=true↔EH L t i:=by
 intro t s
 refine IK (M:=fun t=>OkF m t→∀i,rR m (r i) t=true↔EH L t i) ?_ ?_ ?_ ?_ ?_ t s.wf s
 ·intro _ i;rw[ho1,EI];simp
 ·intro _ i;rw[ho2,EL];simp
 ·intro n _ _ hf i
  have e:=hf.cov;simp only[Cov]at e
  rw[ho3,EM,Fh,p i n (e.1 trivial)]
 ·intro k a q _ u hf i
  have l:=u hf.un;have e:=hf.cov;simp only[Cov]at e
  rcases q with rfl|rfl|rfl|rfl
  ·rw[ho4,EN,←l i];simp
  ·have f:=e.2.1 (.inl rfl)
   rw[ho7,EQ,←l (i+1),BD (c i) f];exact J6
  ·have:=hf.h10;simp[rP]at this
  ·have:=hf.h11;simp[rP]at this
 ·intro k a b q _ _ iha ihb hf i
  have l:=iha hf.b1;have o:=ihb hf.b2;have e:=hf.cov;simp only[Cov]at e
  rcases q with rfl|rfl|rfl|rfl
  ·rw[ho5,EO,←l i,←o i];simp
  ·rw[ho6,EP,←l i,←o i];simp
  ·have f:=e.2.1 (.inr (.inl rfl))
   rw[sem8];refine GW (H:=fun i=>rR m (r i) (.mk 8 0 [a,b])=true) (fun i=>?_) (fun i=>?_) i
   ·rw[ho8,BD (c i) f,JW,JL,l i,o i]
    exact J6
   ·obtain⟨j,h1,h2⟩:=d _ f (by simp[Ltl.k]) i
    refine⟨j,h1,?_⟩;unfold ou at h2
    rw[OK (by rfl),JW]at h2
    rcases h2 with h2|h2
    ·exact .inl (by simpa using h2)
    ·exact .inr ((o j).1 h2)
  ·have f:=e.2.1 (.inr (.inr rfl))
   rw[ER];have v:=GW (H:=fun i=>¬rR m (r i) (.mk 9 0 [a,b])=true) (A:=fun j=>¬EH L a j) (B:=fun j=>¬EH L b j) (fun i=>?_) (fun i=>?_) i
   ·rw[←v];exact J5.symm
   ·rw[ho9,BD (c i) f,JL,JW,l i,o i,J3,OO]
    exact J6
   ·obtain⟨j,h1,h2⟩:=d _ f (by simp[Ltl.k]) i
    refine⟨j,h1,?_⟩;unfold ou at h2
    rw[OJ (by simp[Ltl.k]),JW]at h2
    rcases h2 with h2|h2
    ·exact .inl (fun h=>h h2)
    ·refine .inr fun h=>?_
     have h2:(!rR m (r j) b)=true:=h2;have h3:rR m (r j) b=false:=by simpa using h2
     rw[(o j).2 h]at h3
     cases h3
theorem pE(i:OkM m){s x:Nat}:(x&&&iz m s true=iz m s true∧x&&&iz m s false=0)↔∀j,j<m.1.length→x.testBit (m.1.getD j 0).toNat=s.testBit j:=by
 have g:∀y,x&&&y=y↔∀a,y.testBit a=true→x.testBit a=true:=fun y=>by
  constructor
  ·intro h a b
   have:=Ox (fun z=>z.testBit a) h;simp only[M_,b,Bool.and_true]at this
   exact this
  ·intro h
   refine MC fun a=>?_
   rw[M_];cases e:y.testBit a
   ·simp
   ·rw[h a e];rfl
 have f:∀y,x&&&y=0↔∀a,y.testBit a=true→x.testBit a=false:=fun y=>by
  constructor
  ·intro h a b
   have:=Ox (fun z=>z.testBit a) h;simp only[M_,b,Bool.and_true,Nd]at this
   exact this
  ·intro h
   refine MC fun a=>?_
   rw[M_,Nd];cases e:y.testBit a
   ·simp
   ·rw[h a e];rfl
 rw[g,f];unfold iz;constructor
 ·rintro⟨h1,h2⟩ j d
  cases c:s.testBit j
  ·exact h2 _ (bitP_bit.2 ⟨j,d,c,rfl⟩)
  ·exact h1 _ (bitP_bit.2 ⟨j,d,c,rfl⟩)
 ·intro h
  refine⟨fun a b=>?_,fun a b=>?_⟩
  ·obtain⟨j,d,c,rfl⟩:=bitP_bit.1 b
   rw[h j d,c]
  ·obtain⟨j,d,c,rfl⟩:=bitP_bit.1 b
   rw[h j d,c]
theorem gH{n:Int}(h:n∈m.1):(gF m n).toNat<m.1.length∧m.1.getD (gF m n).toNat 0=n:=by
 obtain⟨j,a,e,hn⟩:=gG h;rw[e,Kb];exact⟨a,by rw[KT,KY a];exact hn⟩
open Classical in
noncomputable def Fm(L:Nat→Nat)(m:cW)(i:Nat):Nat:=
 Bm (fun j=>if j<m.1.length then(L i).testBit (m.1.getD j 0).toNat else decide (EH L (gp (m.2.getD (j -m.1.length) zp)) (i+1))) (Ah m)
theorem Fp{i j:Nat}(h:j<m.1.length):(Fm L m i).testBit j=(L i).testBit (m.1.getD j 0).toNat:=by
 unfold Fm;rw[Bn,OC (show j<Ah m by unfold Ah;omega),OK h,JZ]
theorem Fq{i j:Nat}(h:j<m.2.length):(Fm L m i).testBit (m.1.length+j)=true↔EH L (gp (m.2.getD j zp)) (i+1):=by
 unfold Fm;rw[Bn,OC (show m.1.length+j<Ah m by unfold Ah;omega),OJ O7,JZ,Mw];exact @OE _ (Classical.propDecidable _)
theorem Fs{i:Nat}{g:Ltl}(c:g∈m.2):(Fm L m i).testBit (m.1.length+(BA m g).toNat)=true↔EH L (gp g) (i+1):=by
 obtain⟨j,b,e,a⟩:=BB c;rw[e,Kb,Fq b,rj b,a]
theorem Fv(o:OkT m):∀t,OkF m t→∀i,rR m (Fm L m i) t=true↔EH L t i:=by
 intro t h
 refine IK (M:=fun t=>OkF m t→∀i,rR m (Fm L m i) t=true↔EH L t i) ?_ ?_ ?_ ?_ ?_ t h.wf h
 ·intro _ i;rw[ho1,EI];simp
 ·intro _ i;rw[ho2,EL];simp
 ·intro n _ _ hf i
  have c:=hf.cov;simp only[Cov]at c
  obtain⟨h1,h2⟩:=gH (c.1 trivial);rw[ho3,EM,Fh,Fp h1,h2]
 ·intro k a g _ l hf i
  have d:=l hf.un;have c:=hf.cov;simp only[Cov]at c
  rcases g with rfl|rfl|rfl|rfl
  ·rw[ho4,EN,←d i];simp
  ·have e:=c.2.1 (.inl rfl)
   rw[ho7,EQ,Fs e];exact J6
  ·have:=hf.h10;simp[rP]at this
  ·have:=hf.h11;simp[rP]at this
 ·intro k a b g _ _ iha ihb hf i
  have d:=iha hf.b1;have f:=ihb hf.b2;have c:=hf.cov;simp only[Cov]at c
  rcases g with rfl|rfl|rfl|rfl
  ·rw[ho5,EO,←d i,←f i];simp
  ·rw[ho6,EP,←d i,←f i];simp
  ·have e:=c.2.1 (.inr (.inl rfl))
   rw[ho8,JW,JL,Fs e,d i,f i,sem8,Til.step];have:EH L (gp (.mk 8 0 [a,b])) (i+1)↔Til (EH L a) (EH L b) (i+1):=sem8;rw[this]
  ·have e:=c.2.1 (.inr (.inr rfl))
   rw[ho9,JL,JW,Fs e,d i,f i,ER,Til.step];have:EH L (gp (.mk 9 0 [a,b])) (i+1)↔¬Til (fun j=>¬EH L a j) (fun j=>¬EH L b j) (i+1):=ER;rw[this,OO,J3,J5,J5]
theorem Fw(b:OkT m)(i:Nat):wz m (Fm L m (i+1))=Fm L m i >>> m.1.length:=by
 refine MC fun j=>?_
 rw[wA,Na];by_cases a:j<m.2.length
 ·rw[OC a,JZ,JN,Fq a]
  exact Fv b _ (b.arg (by rw[rj a];exact Lc a)) (i+1)
 ·rw[Oz a,JO]
  unfold Fm;rw[Bn,Oz (show¬m.1.length+j<Ah m by unfold Ah;omega),JO]
theorem Ft(d:OkT m){g:Ltl}(l:g∈m.2)(p:g.k≠7)(i:Nat):∃j,i≤j∧ou m g (Fm L m j)=true:=by
 have hf:=d.part l;rcases BH hf.wf (d.ok.wp g l).2.1 with⟨a,rfl⟩|⟨k,a,b,f,rfl⟩
 ·exact absurd rfl p
 have n:=fun j=>Fv (L:=L) d b hf.b2 j
 have c:=fun j=>Fv (L:=L) d _ hf j
 rcases f with rfl|rfl
 ·by_cases h:rR m (Fm L m i) (.mk 8 0 [a,b])=true
  ·obtain⟨j,h1,h2,_⟩:=sem8.1 ((c i).1 h)
   refine⟨j,h1,?_⟩;unfold ou;rw[OK (by rfl),JW];exact .inr ((n j).2 h2)
  ·refine⟨i,MM _,?_⟩
   unfold ou;rw[OK (by rfl),JW];exact .inl (by simpa using h)
 ·by_cases h:rR m (Fm L m i) (.mk 9 0 [a,b])=true
  ·refine⟨i,MM _,?_⟩
   unfold ou;rw[OJ (by simp[Ltl.k]),JW];exact .inl h
  ·have o:¬EH L (.mk 9 0 [a,b]) i:=fun h2=>h ((c i).2 h2)
   rw[ER,J5]at o
   obtain⟨j,h1,h2,_⟩:=o;refine⟨j,h1,?_⟩;unfold ou;rw[OJ (by simp[Ltl.k]),JW];refine .inr ?_;show(!rR m (Fm L m j) b)=true;cases e:rR m (Fm L m j) b
   ·rfl
   ·exact absurd ((n j).1 e) h2
theorem rangeN_mem{N:Nat}{p:Nat→Bool}{x:Nat}:(x:Int)∈((List.range N).filter p).map (fun s:Nat=>(s:Int))↔x<N∧p x=true:=by
 rw[LU];constructor
 ·rintro⟨y,a,e⟩
  rw[LR,LZ]at a
  have:y=x:=by omega
  subst this;exact a
 ·intro h;exact⟨x,LR.2 ⟨LZ.2 h.1,h.2⟩,rfl⟩
theorem yJ{N:Nat}{f:Nat→Nat}{x:Nat}(h:x<N):((List.range N).map f).getD x 0=f x:=by
 rw[KT,K1,K2 h];rfl
theorem yF{N:Nat}{f:Nat→List Int}{x:Nat}(h:x<N):((List.range N).map f).getD x []=f x:=by
 rw[KT,K1,K2 h];rfl
theorem GB{f:Ltl}{x:Nat}(h:x<2 ^ Ah m):(Gr m f).2.1.getD x []=((List.range (2 ^ Ah m)).filter fun t=>decide (wz m t=x >>> m.1.length)).map fun t:Nat=>(t:Int):=yF (f:=fun s=>((List.range (2 ^ Ah m)).filter fun t=>decide (wz m t=s >>> m.1.length)).map fun t:Nat=>(t:Int)) h
theorem Gz{f:Ltl}{x:Nat}(h:x<2 ^ Ah m):(Gr m f).2.2.1.getD x 0=iz m x true:=yJ (f:=fun s=>iz m s true) h
theorem GA{f:Ltl}{x:Nat}(h:x<2 ^ Ah m):(Gr m f).2.2.2.1.getD x 0=iz m x false:=yJ (f:=fun s=>iz m s false) h
theorem Gy(d:OkT m){f:Ltl}(hf:OkF m f):aa (Gr m f) L↔EH L f 0:=by
 constructor
 ·rintro⟨r,e⟩
  have o:=rangeN_mem.1 e.first;have a:∀i,r i<2 ^ Ah m:=fun i=>by
   induction i with
   |zero=>exact o.1
   |succ i p=>
    have h1:=e.step i;rw[GB p]at h1
    exact(rangeN_mem.1 h1).1
  have b:∀i,wz m (r (i+1))=r i >>> m.1.length:=fun i=>by
   have h1:=e.step i;rw[GB (a i)]at h1
   exact OQ (rangeN_mem.1 h1).2
  have l:∀i,∀n∈m.1,(r i).testBit (gF m n).toNat=(L i).testBit n.toNat:=fun i n hn=>by
   have h1:=e.fits i;unfold pB at h1
   rw[JL,OD,OD,Gz (a i),GA (a i)]at h1
   obtain⟨h2,h3⟩:=gH hn;have h4:=(pE d.ok).1 h1 _ h2;rw[h3]at h4
   exact h4.symm
  have c:∀g∈m.2,g.k≠7→∀i,∃j,i≤j∧ou m g (r j)=true:=fun g k q i=>by
   obtain⟨j,h1,h2⟩:=e.fair _ (LU.2 ⟨g,LR.2 ⟨k,OC q⟩,rfl⟩) i;exact⟨j,h1,(rangeN_mem.1 h2).2⟩
  exact(Ed d b l c f hf 0).1 o.2
 ·intro h
  have a:∀i,Fm L m i<2 ^ Ah m:=fun i=>Bo
  refine⟨Fm L m,rangeN_mem.2 ⟨a 0,(Fv d f hf 0).2 h⟩,fun i=>?_,fun i=>?_,fun F hF i=>?_⟩
  ·unfold pB
   rw[JL,OD,OD,Gz (a i),GA (a i)];exact(pE d.ok).2 fun j s=>(Fp s).symm
  ·rw[GB (a i)]
   exact rangeN_mem.2 ⟨a (i+1),OC (Fw d i)⟩
  ·obtain⟨g,k,rfl⟩:=LU.1 hF
   rw[LR]at k
   obtain⟨j,h1,h2⟩:=Ft (L:=L) d k.1 (OQ k.2) i;exact⟨j,h1,rangeN_mem.2 ⟨a j,h2⟩⟩
end
theorem Cv:∀(m:Nat) (a b:Ltl),a.nodes≤m→∀(w:World) (F:Nat→Prop) (ao D:Option Addr) (ac bc:Nat),Sl w F ao ac a.kids→Sl w F D bc b.kids→(∀b,F b→b<w.heap.size)→
  Rt Tryz.prog 246 [ym a.k a.n ao a.kids.length ac,ym b.k b.n D b.kids.length bc].toArray w fun v w'=>v=.bool (Eu a b)∧Ext w w':=by
 intro m
 induction m with
 |zero=>intro a b h;have:=a.nodes_pos;omega
 |succ m L=>
  rintro⟨k,n,xs⟩ ⟨k',x,ys⟩ V w F ao D ac bc G f hF
  simp only[Ltl.k,Ltl.n,Ltl.kids,Ltl.nodes]at*
  have M:=G.len63;refine dE Tryz.func246 Tryz.ntmps246 rfl rfl ?_;refine PB ?_;refine dX rfl rfl rfl fun K hf C=>?_
  skip;refine dX rfl rfl rfl fun J Q d=>?_
  have hf:=hf.ext d;have d:=C.trans d;have hS:Eu (.mk k n xs) (.mk k' x ys)=(k==k'&&n==x&&Ex xs ys):=by simp[Eu]
  rw[hS];refine QR ?_;cases h1:(k != k')with
  |true=>
   refine Q6 ?_;refine be rfl rfl ⟨?_,d⟩;simp at h1;simp[h1]
  |false=>
  have h1:k=k':=by simpa using h1
  refine Rs ?_;cases h2:(n != x)with
  |true=>
   refine Q6 ?_;refine be rfl rfl ⟨?_,d⟩;simp at h2;simp[h2]
  |false=>
  have h2:n=x:=by simpa using h2
  refine Q_ ?_;cases h3:((xs.length:Int) != (ys.length:Int))with
  |true=>
   refine Q6 ?_;refine be rfl rfl ⟨?_,d⟩;have h3:xs.length≠ys.length:=by simp at h3;omega
   have:Ex xs ys=false:=by
    rw[JM,Ne,Ey];exact fun e=>h3 (by rw[e])
   rw[this];simp
  |false=>
  have h3:xs.length=ys.length:=by simp at h3;omega
  refine QI ?_;refine CW.loop (S:=Nat) (fun i=>[(2,Pz w.heap.size),(3,Pz K.heap.size),(29,Py xs.length),(30,Py i)])
   (fun i w'=>i≤xs.length∧Ext J w'∧∀j (h:j<xs.length) (H:j<ys.length),j<i→Eu xs[j] ys[j]=true) (fun i=>xs.length -i) 0 O6 ⟨by omega,Ext.refl _,by omega⟩ ?_
  rintro i I ⟨hi,g,l⟩
  have R:=hf.ext g;have P:=Q.ext g;have c:=d.trans g;refine Qt ?_;apply CW.cond rfl<;>intro h
  ·have h:i<xs.length:=by simpa using h
   have H:i<ys.length:=by omega
   refine Rh ?_;refine dk rfl rfl rfl rfl rfl (fun b f=>MQ (hF b f) c.size) (G.up0 c hF) h Pg (fun u q N=>?_);refine Ry ?_;refine dk rfl rfl rfl rfl rfl (fun b f=>MQ (hF b f) c.size) (f.up0 c hF) H Pg (fun T U y=>?_);obtain⟨uo,uc,rfl,A⟩:=Rd.ltl N;obtain⟨uo',uc',rfl,t⟩:=Rd.ltl y;have r:∀b,F b→b<I.heap.size:=fun b f=>MQ (hF b f) c.size
   have o:(xs[i]).nodes≤m:=by have:=Ltl.nodes_kid xs xs[i] (Lc h);omega
   refine QL.call (v:=.bool (Eu xs[i] ys[i])) rfl rfl rfl (fun E s=>L xs[i] ys[i] o E F uo uo' uc uc' (A.up0 s r) (t.up0 s r) (fun b f=>MQ (r b f) s.size)) ?_;refine Rl ?_;refine QL.nil (fun E s=>?_);cases z:Eu xs[i] ys[i]with
   |true=>
    refine P0 ?_;refine EX.back (i+1) O6 ⟨h,g.trans s,fun j B p O=>?_⟩ O7;by_cases e:j=i
    ·subst e;exact z
    ·exact l j B p O7
   |false=>
    refine QK ?_;refine be rfl rfl ⟨?_,c.trans s⟩;have:Ex xs ys=false:=by
     rw[JM,Ne,Ey];intro e
     subst e;rw[Ew]at z
     cases z
    rw[this];simp
  ·have h:¬i<xs.length:=by simpa using h
   refine P_ ?_;refine be rfl rfl ⟨?_,c⟩;have:Ex xs ys=true:=by
    rw[Ey];exact KD h3 (fun j B p=>(Ev _ _).1 (l j B p O7))
   rw[this];simp[h1,h2]
theorem w_{k n:Int}{kids:List Ltl}(h:IG (.mk k n kids)):kids.length≤2:=by
 simp only[IG]at h
 have h1:=h.1;unfold wY at h1
 split at h1
 ·omega
 ·split at h1
  ·omega
  ·split at h1<;>omega
theorem IL{k n:Int}{kids:List Ltl}(h:IG (.mk k n kids)){i:Nat}(hi:i<kids.length):IG kids[i]:=by
 simp only[IG]at h
 exact II kids i hi h.2.2.2.2
theorem zT{k n:Int}{kids:List Ltl}{m:Nat}(h:(Ltl.mk k n kids).nodes≤m+1){i:Nat}(hi:i<kids.length):(kids[i]).nodes≤m:=by
 have:=Ltl.nodes_kid kids kids[i] (Lc hi);simp only[Ltl.nodes]at h
 omega

theorem B3:∀(m:Nat) (t:Ltl),t.nodes≤m→IG t→∀(w:World) (F:Nat→Prop) (ao:Option Addr) (cap:Nat),Sl w F ao cap t.kids→(∀b,F b→b<w.heap.size)→
  Rt Tryz.prog 191 [ym t.k t.n ao t.kids.length cap].toArray w fun v w'=>Rd w' (Nw w w') v (BY t)∧Ext w w':=by
 intro m
 induction m with
 |zero=>intro t h;have:=t.nodes_pos;omega
 |succ m ih=>
  rintro⟨k,n,kids⟩ hm W w F ao cap hs hF
  simp only[Ltl.k,Ltl.n,Ltl.kids]at*
  have hkl:=w_ W;refine dD Tryz.func191 Tryz.ntmps191 rfl rfl ?_;refine PB ?_;refine dX rfl rfl rfl fun P hf hE1=>?_
  refine WL.alloc rfl rfl (fun s hr hE2=>?_);have hf:=hf.ext hE2;have H:=hE1.trans hE2;have hz1:w.heap.size≤P.heap.size:=hE1.size;have O:=hf.lt;have hlr:=hr.lt;refine QR ?_;refine WL.build rfl rfl rfl rfl ?_;refine WL.alloc rfl rfl (fun w3 ho hE3=>?_);refine WL.st rfl rfl rfl ho rfl rfl Pr (fun C ho4 hg4=>?_);have e4:Ext s C:=hE3.grown hg4 hE3.size Pi;have hf4:=hf.ext e4;have hr4:=hr.ext e4;have hE4:=H.trans e4;have hlo:=ho4.lt;have hsz:=H.size;clear hf hr ho hg4 hE3 e4 H;refine QX ?_;refine CW.loop (S:=Nat×Value) (fun x=>[(1,Pz w.heap.size),(2,Pz P.heap.size),(3,Pz s.heap.size),(12,.slice ao kids.length cap),(13,Py kids.length),(14,Py x.1)])
   (fun x w'=>x.1≤kids.length∧Ext w w'∧C.heap.size≤w'.heap.size∧Blk w' w.heap.size 32 [Py k,Py n,.slice ao kids.length cap]∧Blk w' P.heap.size 32 [Py 0,Py 0,.slice none 0 0]∧
    Blk w' s.heap.size 32 [Py k,Py n,x.2]∧Grow C.heap.size 32 w' x.2 (BZ (kids.take x.1))) (fun x=>kids.length -x.1) (0,.slice none 0 0) O6 ⟨by simp,hE4,MM _,hf4,hr4,ho4,by simpa[BZ]using Grow.nil⟩ ?_
  rintro⟨i,kv⟩ c ⟨hi,p,Q,hf5,E,ho5,G⟩
  dsimp only at hi p Q hf5 E ho5 G⊢
  clear hf4 hr4 ho4;refine Qt ?_;apply CW.cond rfl<;>intro h
  ·have h:i<kids.length:=by simpa using h
   refine Rb ?_;refine eC rfl rfl rfl rfl rfl (hs.up0 p hF) h Pg (fun u q hu=>?_);obtain⟨uo,uc,rfl,hku⟩:=Rd.ltl hu;refine WL.alloc rfl rfl (fun K L hE6=>?_);refine WL.st rfl rfl rfl L rfl rfl Pr (fun j hx7 hg7=>?_);have f:Ext c j:=hE6.grown hg7 hE6.size Pi;have z:=p.trans f;have ed:=Ext.drew j;have hd:=z.trans ed;have ho7:=(ho5.ext f).ext ed;have hxd:=hx7.ext ed;have hG7:=(G.ext f).ext ed;have hlx:=hx7.lt;have U:=f.size;have hKo:∀x,(fun x:World=>x.heap[s.heap.size]?=(drew j).heap[s.heap.size]?∧x.heap[c.heap.size]?=(drew j).heap[c.heap.size]?) x→x.heap[s.heap.size]?=(drew j).heap[s.heap.size]?:=fun _ h=>h.1
   have hKx:∀x,(fun x:World=>x.heap[s.heap.size]?=(drew j).heap[s.heap.size]?∧x.heap[c.heap.size]?=(drew j).heap[c.heap.size]?) x→x.heap[c.heap.size]?=(drew j).heap[c.heap.size]?:=fun _ h=>h.2
   refine PU ?_;refine aE (fun x:World=>x.heap[s.heap.size]?=(drew j).heap[s.heap.size]?∧x.heap[c.heap.size]?=(drew j).heap[c.heap.size]?) [(0,true),(1,true),(2,true),(3,false),(4,false),(5,false),(6,true)] 7 mixed O8 ⟨rfl,rfl⟩ ?_;refine RP ?_;refine ce hKx rfl rfl rfl rfl hxd rfl ?_;skip;have hFd:∀b,F b→b<(drew j).heap.size:=fun b a=>MQ (hF b a) hd.size
   have hku':Sl (drew j) F uo uc (kids[i]).kids:=hku.up0 (f.trans ed) (fun b a=>MQ (hF b a) p.size);refine cr rfl (WL.call rfl rfl rfl (ih kids[i] (zT hm h) (IL W h) (drew j) F uo uc hku' hFd) ?_);rintro v J ⟨M,I⟩
   have ho8:=ho7.ext I;have hG8:=hG7.ext I;have hsz8:j.heap.size≤J.heap.size:=I.size;refine WL.nil (a_ ⟨I.block _ ho7.lt,I.block _ hlx⟩ ?_);have hgl:=hG7.lt;obtain⟨F',o,hO,hsub⟩:=hG8.open (Fu:=Nw (drew j) J) (fun b a=>⟨MN Q (MN U a.1),a.2⟩) (fun g hg a=>by have:=(hgl g hg).2;have:=a.1;omega);have N:(BZ (kids.take i)).length=i:=by rw[B0,Ls,LB];omega
   have B:=G.lt;refine bV (bytes:=40) (F:=F') rfl rfl rfl rfl Pg rfl rfl Pg hO (M.wk hsub) O7 (fun b a=>(o b a).2) O9 (by rw[N];unfold maxLen;omega) (by rw[N];omega)
    (fun w' hg'=>⟨(hg'.block _ ho8.lt (fun e=>?_)).trans (I.block _ ho7.lt),(hg'.block _ O7 (fun e=>?_)).trans (I.block _ hlx)⟩) (fun cV T q2 hO9 D hnb=>?_)
   ·have:=(B _ e.symm).1;omega
   ·have:=(B _ e.symm).2;omega
   have hG9:Grow C.heap.size 32 T cV (BZ (kids.take i)++[BY kids[i]]):=⟨F',fun b a=>⟨(o b a).1,MQ (o b a).2 D.size⟩,hO9⟩;rw[show BZ (kids.take i)++[BY kids[i]]=BZ (kids.take (i+1)) by rw[B0,B0,Mo h,LE];rfl]at hG9
   obtain⟨co,cc,rfl,_⟩:=hG9.sl;have hnr:∀r,r<C.heap.size→some r≠kv.ownBlock:=fun r hr e=>by have:=(B _ e.symm).1;omega
   have ho9:=ho8.kept D (hnr _ O7);have hf9:=((((hf5.ext f).ext ed).ext I)).kept D (hnr _ O7);have hr9:=((((E.ext f).ext ed).ext I)).kept D (hnr _ O7);have hE8:=hd.trans I;have hE9:Ext w T:=hE8.grown D hE8.size (fun g hg=>by have:=(B g hg).1;omega);refine RT ?_;refine bp rfl (WL.st rfl rfl rfl ho9 rfl rfl Pr (fun w10 ho10 l=>WL.nil (bu ?_)));have hE10:Ext w w10:=hE9.grown l hE9.size Pk;have hsz9:=D.size;have hsz10:=l.size;refine Qc ?_;exact EX.back (i+1,.slice co (BZ (kids.take (i+1))).length cc) O6 ⟨h,hE10,by omega,hf9.kept l Po,hr9.kept l Po,ho10,hG9.kept l O7⟩ Pa
  ·have h:¬i<kids.length:=by simpa using h
   have hik:i=kids.length:=by omega
   subst hik;rw[Mk]at G
   obtain⟨co,cc,rfl,Y⟩:=G.sl;have N:(BZ kids).length=kids.length:=by rw[B0,Ls]
   have hout:Rd c (fun b=>C.heap.size≤b∧b<c.heap.size) (ym k n co (BZ kids).length cc) (Ltl.mk k n (BZ kids)):=Rd.mkLtl Y;have hN:BY (.mk k n kids)=if k=10 then Ltl.mk 8 0 [.mk 1 0 [],(BZ kids).getD 0 (.mk 0 0 [])]else if k=11 then .mk 9 0 [.mk 2 0 [],(BZ kids).getD 0 (.mk 0 0 [])]else .mk k n (BZ kids):=by simp only[BY]
   rw[hN];have R:k=10∨k=11→0<(BZ kids).length:=by
    intro hc
    rw[N];have h:=W;simp only[IG]at h
    have h1:=h.1;unfold wY at h1
    rw[OJ O7,OK O7]at h1
    omega
   have fin:∀(J T:World) (F':Nat→Prop) (v:Value) (t':Ltl),Rd J F' v t'→(∀b,F' b→C.heap.size≤b∧b<J.heap.size)→J.grownBy T (some P.heap.size)→Rd T (Nw w T) v t':=by
    intro J T F' v t' M o hg
    exact(M.kept hg (fun b a=>⟨(o b a).2,fun e=>by have:=Nn e;have:=(o b a).1;omega⟩)).wk (fun b a=>⟨by have:=(o b a).1;omega,MQ (o b a).2 hg.size⟩)
   refine Qy ?_;cases h10:(k==10)with
   |true=>
    have h10:k=10:=by simpa using h10
    have h0:=R (.inl h10);rw[OK h10];have d:=Ext.drew c;have ho6:=ho5.ext d;have hz5:c.heap.size=(drew c).heap.size:=rfl;have hK:∀x,(fun x:World=>SO P.heap.size (drew c) x) x→x.heap[s.heap.size]?=(drew c).heap[s.heap.size]?:=fun x L=>L.2 _ O7 ho6.lt
    refine Qu ?_;refine aF (fun x:World=>SO P.heap.size (drew c) x) [(1,true),(2,true),(3,true),(4,true),(0,false),(5,false),(6,false)] mixed O8 (SO.refl _ _) ?_;refine RP ?_;refine bY (w:=drew c) (F:=fun b=>C.heap.size≤b∧b<c.heap.size) (k:=0) (fun x L b a=>L.2 b (by have:=a.1;omega) a.2) rfl rfl rfl rfl rfl rfl rfl (Y.up0 d (fun b a=>a.2)) h0 Pg (fun u q hu=>?_);refine cr rfl (WL.call rfl rfl rfl (Cw (drew c) cZ 1) ?_);rintro lf K ⟨O,A⟩
    refine WL.nil (a_ ((SO.refl _ _).ext A) ?_);have V:c.heap.size≤K.heap.size:=A.size;have X:Rd K (fun b=>C.heap.size≤b∧b<c.heap.size) u (BZ kids)[0]:=hu.up0 A (fun b a=>a.2);refine cr rfl (WL.call rfl rfl rfl (Cx K (F:=fun b=>C.heap.size≤b∧b<c.heap.size) (fun b a=>MQ a.2 V) 8 (O.wk fun _ h=>h.elim) X) ?_);rintro v j ⟨M,f⟩
    obtain⟨vo,vc,rfl,hkv⟩:=Rd.ltl M;refine WL.nil (a_ (((SO.refl _ _).ext A).ext f) ?_);have U:=f.size;refine cr rfl (WL.st rfl rfl rfl (((E.ext d).ext A).ext f) rfl rfl Pr (fun J Z y=>?_));refine WL.nil (a_ ((((SO.refl _ _).ext A).ext f).st y) (HL.nil ?_));have z:=((p.trans d).trans A).trans f;have hgd:(BZ kids).getD 0 (.mk 0 0 [])=(BZ kids)[0]:=by simp[KT,h0]
    refine Qk ?_;refine bg rfl rfl Z rfl ⟨?_,z.grown y z.size Pk⟩;rw[hgd];refine fin _ _ _ _ _ M (fun b a=>?_) y;rcases a with a|a
    ·exact⟨a.1,by have:=a.2;omega⟩
    ·exact⟨by have:=a.1;omega,a.2⟩
   |false=>
   have h10:k≠10:=by simpa using h10
   rw[OJ h10];refine QA ?_;cases h11:(k==11)with
   |true=>
    have h11:k=11:=by simpa using h11
    have h0:=R (.inr h11);rw[OK h11];have d:=Ext.drew c;have ho6:=ho5.ext d;have hz5:c.heap.size=(drew c).heap.size:=rfl;have hK:∀x,(fun x:World=>SO P.heap.size (drew c) x) x→x.heap[s.heap.size]?=(drew c).heap[s.heap.size]?:=fun x L=>L.2 _ O7 ho6.lt
    refine Qu ?_;refine aF (fun x:World=>SO P.heap.size (drew c) x) [(1,true),(2,true),(3,true),(4,true),(0,false),(5,false),(6,false)] mixed O8 (SO.refl _ _) ?_;refine RP ?_;refine bY (w:=drew c) (F:=fun b=>C.heap.size≤b∧b<c.heap.size) (k:=0) (fun x L b a=>L.2 b (by have:=a.1;omega) a.2) rfl rfl rfl rfl rfl rfl rfl (Y.up0 d (fun b a=>a.2)) h0 Pg (fun u q hu=>?_);refine cr rfl (WL.call rfl rfl rfl (Cw (drew c) cZ 2) ?_);rintro lf K ⟨O,A⟩
    refine WL.nil (a_ ((SO.refl _ _).ext A) ?_);have V:c.heap.size≤K.heap.size:=A.size;have X:Rd K (fun b=>C.heap.size≤b∧b<c.heap.size) u (BZ kids)[0]:=hu.up0 A (fun b a=>a.2);refine cr rfl (WL.call rfl rfl rfl (Cx K (F:=fun b=>C.heap.size≤b∧b<c.heap.size) (fun b a=>MQ a.2 V) 9 (O.wk fun _ h=>h.elim) X) ?_);rintro v j ⟨M,f⟩
    obtain⟨vo,vc,rfl,hkv⟩:=Rd.ltl M;refine WL.nil (a_ (((SO.refl _ _).ext A).ext f) ?_);have U:=f.size;refine cr rfl (WL.st rfl rfl rfl (((E.ext d).ext A).ext f) rfl rfl Pr (fun J Z y=>?_));refine WL.nil (a_ ((((SO.refl _ _).ext A).ext f).st y) (HL.nil ?_));have z:=((p.trans d).trans A).trans f;have hgd:(BZ kids).getD 0 (.mk 0 0 [])=(BZ kids)[0]:=by simp[KT,h0]
    refine Qk ?_;refine bg rfl rfl Z rfl ⟨?_,z.grown y z.size Pk⟩;rw[hgd];refine fin _ _ _ _ _ M (fun b a=>?_) y;rcases a with a|a
    ·exact⟨a.1,by have:=a.2;omega⟩
    ·exact⟨by have:=a.1;omega,a.2⟩
   |false=>
    have h11:k≠11:=by simpa using h11
    rw[OJ h11];refine Ql ?_;refine WL.st rfl rfl rfl E rfl rfl Pr (fun K hr6 hg6=>?_);refine PO ?_;exact bg rfl rfl hr6 rfl ⟨fin _ _ _ _ _ hout (fun b a=>a) hg6,p.grown hg6 p.size Pk⟩
def G7(t:Ltl):Ltl×Int:=if(jv t 1 0).1≠0 then(.mk 0 0 [],(jv t 1 0).1)else(t,0)
theorem G8(w:World){F:Nat→Prop}{v:Value}{t:Ltl}(h:Rd w F v t)(hF:∀b,F b→b<w.heap.size):
  Rt Tryz.prog 190 [v].toArray w fun u w'=>∃x,u=.tuple ⟨[x,Py (G7 t).2]⟩∧Rd w' F x (G7 t).1∧Ext w w':=by
 obtain⟨ao,cap,rfl,s⟩:=Rd.ltl h;refine dD Tryz.func190 Tryz.ntmps190 rfl rfl ?_;refine PB ?_;refine dX rfl rfl rfl fun p hf j=>?_
 refine WL.alloc rfl rfl (fun o r i=>?_);have hf:=hf.ext i;have a:=j.trans i;refine Q4 ?_;refine WL.call rfl rfl rfl (yk o (s.up0 a hF) (fun b A=>MQ (hF b A) a.size)) ?_;rintro _ n ⟨rfl,l⟩
 have z:=hf.ext l;have f:=r.ext l;have g:=a.trans l;have q:=j.size;have fin:∀k,n.grownBy k (some p.heap.size)→Ext w k:=fun k y=>g.grown y g.size Pk
 refine Qt ?_;unfold G7;apply CW.cond rfl<;>intro e
 ·have e:(jv t 1 0).1≠0:=by simpa using e
  rw[OK e];refine PB ?_;refine WL.build (parts:=[]) rfl rfl rfl rfl ?_;refine Ri ?_;refine WL.st rfl rfl rfl f rfl rfl Pr (fun m d c=>?_);refine PS ?_;exact bh rfl rfl rfl d rfl ⟨_,rfl,Rd.mkLtl (kids:=[]) (Sl.zero _ _),fin _ c⟩
 ·have e:(jv t 1 0).1=0:=by simpa using e
  rw[OJ (by simp[e])];refine QH ?_;refine WL.st rfl rfl rfl f rfl rfl Pr (fun m d c=>?_);refine PK ?_;exact bh rfl rfl rfl d rfl ⟨_,rfl,Rd.up0 h (fin _ c) hF,fin _ c⟩
def BW(t:Ltl):Ltl×Int:=if(jv t 1 0).1≠0 then(.mk 0 0 [],(jv t 1 0).1)else G7 (BY t)
theorem c_(w:World){F:Nat→Prop}{t:Ltl}{ao:Option Addr}{cap:Nat}(C:Sl w F ao cap t.kids)(hF:∀b,F b→b<w.heap.size):
  Rt Tryz.prog 112 [ym t.k t.n ao t.kids.length cap].toArray w fun u w'=>∃x,u=.tuple ⟨[x,Py (BW t).2]⟩∧Rd w' (Nw w w') x (BW t).1∧Ext w w':=by
 refine dD Tryz.func112 Tryz.ntmps112 rfl rfl ?_;refine PB ?_;refine dX rfl rfl rfl fun P hf l=>?_
 refine WL.alloc rfl rfl (fun z B g=>?_);have hf:=hf.ext g;have d:=l.trans g;have q:∀b,F b→b<z.heap.size:=fun b a=>MQ (hF b a) d.size
 refine Q4 ?_;refine WL.call rfl rfl rfl (yk z (C.up0 d hF) q) ?_;rintro _ D ⟨rfl,m⟩
 have M:=hf.ext m;have j:=B.ext m;have c:=d.trans m;have I:=l.size;have H:=g.size;have K:=B.lt;have G:=m.size;refine Qt ?_;unfold BW;apply CW.cond rfl<;>intro h
 ·have h:(jv t 1 0).1≠0:=by simpa using h
  rw[OK h];refine PB ?_;refine WL.build (parts:=[]) rfl rfl rfl rfl ?_;refine Ri ?_;refine WL.st rfl rfl rfl j rfl rfl Pr (fun y o p=>?_);refine PS ?_;exact bh rfl rfl rfl o rfl ⟨_,rfl,Rd.mkLtl (kids:=[]) (Sl.zero _ _),c.grown p c.size Pk⟩
 ·have h:(jv t 1 0).1=0:=by simpa using h
  rw[OJ (by simp[h])];refine QH ?_;refine WL.call rfl rfl rfl (B3 t.nodes t Pu (jC t 1 0 h) D F ao cap (C.up0 c hF) (fun b a=>MQ (hF b a) c.size)) ?_;rintro v y ⟨J,s⟩
  refine WL.call rfl rfl rfl (G8 y J (fun b a=>a.2)) ?_;rintro _ O ⟨x,rfl,A,r⟩
  obtain⟨xo,xc,rfl,L⟩:=Rd.ltl A;have k:=(c.trans s).trans r;have E:=s.size;have i:=r.size;refine Ri ?_;refine WL.st rfl rfl rfl ((j.ext s).ext r) rfl rfl Pr (fun N n f=>?_);refine PK ?_;refine bh rfl rfl rfl n rfl ⟨_,rfl,?_,k.grown f k.size Pk⟩;exact(A.kept f (fun b a=>⟨MQ a.2 i,fun e=>by have:=Nn e;have:=a.1;omega⟩)).wk (fun b a=>⟨by have:=a.1;omega,MQ a.2 (MN i f.size)⟩)
open Go.Shelf
def FE:Ren:=⟨fun x=>if Nat.beq x 125=true then 195 else if Nat.beq x 128=true then 256 else if Nat.beq x 129=true then 257 else if Nat.beq x 189=true then 114 else if Nat.beq x 215=true then 279 else if Nat.beq x 216=true then 253 else if Nat.beq x 257=true then 194 else if Nat.beq x 294=true then 247 else if Nat.beq x 295=true then 248 else if Nat.beq x 296=true then 249 else if Nat.beq x 297=true then 250 else if Nat.beq x 298=true then 251 else if Nat.beq x 299=true then 252 else if Nat.beq x 300=true then 254 else if Nat.beq x 301=true then 255 else if Nat.beq x 328=true then 274 else if Nat.beq x 329=true then 275 else if Nat.beq x 330=true then 276 else if Nat.beq x 331=true then 277 else if Nat.beq x 332=true then 278 else if Nat.beq x 343=true then 283 else 0,fun x=>if Nat.beq x 0=true then 0 else if Nat.beq x 3=true then 3 else if Nat.beq x 4=true then 4 else if Nat.beq x 5=true then 5 else if Nat.beq x 9=true then 9 else if Nat.beq x 28=true then 39 else if Nat.beq x 46=true then 275 else if Nat.beq x 51=true then 315 else if Nat.beq x 53=true then 131 else if Nat.beq x 131=true then 232 else if Nat.beq x 182=true then 307 else if Nat.beq x 183=true then 308 else if Nat.beq x 218=true then 332 else if Nat.beq x 222=true then 206 else if Nat.beq x 228=true then 338 else if Nat.beq x 229=true then 339 else 0,fun x=>x⟩
set_option maxRecDepth 100000 in
theorem FD:Lays.n189 Tryz.prog FE where
 mixed:=by kernel_rfl
 f125:=(Tryz.func195).trans O8
 f128:=(Tryz.func256).trans O8
 f129:=(Tryz.func257).trans O8
 f189:=(Tryz.func114).trans O8
 f215:=(Tryz.func279).trans O8
 f216:=(Tryz.func253).trans O8
 f257:=(Tryz.func194).trans O8
 f294:=(Tryz.func247).trans O8
 f295:=(Tryz.func248).trans O8
 f296:=(Tryz.func249).trans O8
 f297:=(Tryz.func250).trans O8
 f298:=(Tryz.func251).trans O8
 f299:=(Tryz.func252).trans O8
 f300:=(Tryz.func254).trans O8
 f301:=(Tryz.func255).trans O8
 f328:=(Tryz.func274).trans O8
 f329:=(Tryz.func275).trans O8
 f330:=(Tryz.func276).trans O8
 f331:=(Tryz.func277).trans O8
 f332:=(Tryz.func278).trans O8
 f343:=(Tryz.func283).trans O8
 t0:=Tryz.underlying0
 a0:=Tryz.isAgg0
 z0:=Tryz.sizeOf0
 v0:=Tryz.zeroValue0
 t3:=NU
 a3:=NA
 z3:=NE
 v3:=Od
 t4:=N0
 a4:=NB
 z4:=NG
 v4:=Of
 t5:=N4
 a5:=Tryz.isAgg5
 z5:=Tryz.sizeOf5
 v5:=Og
 t9:=Oa
 a9:=Tryz.isAgg9
 z9:=Tryz.sizeOf9
 v9:=Oh
 t28:=NZ
 a28:=Tryz.isAgg39
 z28:=Tryz.sizeOf39
 v28:=Tryz.zeroValue39
 t46:=NS
 a46:=Tryz.isAgg275
 z46:=ND
 v46:=Oc
 t51:=NW
 a51:=Tryz.isAgg315
 z51:=NF
 v51:=Oe
 t53:=NI
 a53:=Tryz.isAgg131
 z53:=Tryz.sizeOf131
 v53:=Tryz.zeroValue131
 t131:=Tryz.underlying232
 a131:=Tryz.isAgg232
 z131:=Tryz.sizeOf232
 v131:=Tryz.zeroValue232
 t182:=Tryz.underlying307
 a182:=Tryz.isAgg307
 z182:=Tryz.sizeOf307
 v182:=Tryz.zeroValue307
 t183:=Tryz.underlying308
 a183:=Tryz.isAgg308
 z183:=Tryz.sizeOf308
 v183:=Tryz.zeroValue308
 t218:=Tryz.underlying332
 a218:=Tryz.isAgg332
 z218:=Tryz.sizeOf332
 v218:=Tryz.zeroValue332
 t222:=Tryz.underlying206
 a222:=Tryz.isAgg206
 z222:=Tryz.sizeOf206
 v222:=Tryz.zeroValue206
 t228:=Tryz.underlying338
 a228:=Tryz.isAgg338
 z228:=Tryz.sizeOf338
 v228:=Tryz.zeroValue338
 t229:=Tryz.underlying339
 a229:=Tryz.isAgg339
 z229:=Tryz.sizeOf339
 v229:=Tryz.zeroValue339
theorem oq(w:World)(os:Array Obj):Ext w (Sort.grow w os):=⟨rfl,rfl,rfl,by simp[Sort.grow],fun k a=>by simp[Sort.grow,Jt a]⟩
def FB(xs:List Int):List Int:=xs.mergeSort fun x y=>decide (x≤y)
theorem sortI_mem{xs:List Int}{x:Int}:x∈FB xs↔x∈xs:=List.mem_mergeSort
theorem FC{xs:List Int}:(FB xs).length=xs.length:=List.length_mergeSort xs
theorem FF(w:World){B:Nat}{v:Value}{xs:List Int}(a:Own w B 3 cZ v xs)(o:xs.length<4611686018427387904):
  Rt Tryz.prog 114 [v].toArray w fun u w'=>u=.tuple #[]∧Own w' B 3 cZ v (FB xs)∧w.grownBy w' v.ownBlock:=by
 have H:w.grownBy w v.ownBlock:=⟨rfl,rfl,rfl,MM _,fun _ _ _=>rfl⟩;rcases a with⟨rfl,rfl⟩|⟨g,off,cap,cur,rfl,a⟩
 ·refine J0 (Any.slices_Sort_int_none FD none 0 w) ?_
  rintro e w' ⟨rfl,rfl⟩
  exact⟨_,rfl,rfl,by rw[show FB []=[] by simp[FB]];exact Own.nil,H⟩
 ·have s:sz Int=1:=rfl
  have q:=a.fit;have L:=a.le;have G:=a.mx;have r:=mY a.el;rw[s,MY]at q r
  have b:∀j (d:j<xs.length),cur[off+j]?=some (Py xs[j]):=fun j d=>by
   have h1:((cur.toList.drop off).take xs.length)[j]?=(xs.map fun x=>Py x)[j]?:=by rw[r]
   rw[K6 d,KX,K1,KY d]at h1
   simpa using h1
  have M:Sort.Holds (Value.int .i64) w g off xs.toArray:=fun j d=>by
   have p:j<xs.length:=by simpa using d
   constructor
   ·have:xs.toArray[j]! =xs[j]:=by simp[p]
    rw[this];simp[World.cell?,a.blk,b j p]
   ·simp[World.frozen?,a.blk]
  have z:=FC (xs:=xs);refine J0 (Any.slices_Sort_int FD g off cap xs w M (Jv.1 a.blk).1 o) ?_;rintro e w' ⟨rfl,n,os,rfl⟩
  generalize m:(xs.mergeSort fun x y=>decide (x≤y))=ys at*
  have l:ys.length=xs.length:=by rw[←m];exact z
  rw[show FB xs=ys from m];have f:(Sort.putRow (Value.int .i64) (Sort.ahead w n) g off ys.toArray).heap[g]?=some (.cells (Sort.putCells (Value.int .i64) off ys.toArray cur) 3 (0,0)):=by
   show(w.heap.modify g _)[g]?=_;rw[Jx,OK rfl,a.blk];rfl
  have c:∀k,k≠g→(Sort.putRow (Value.int .i64) (Sort.ahead w n) g off ys.toArray).heap[k]?=w.heap[k]?:=fun k J=>by
   show(w.heap.modify g _)[k]?=_;rw[Jx,OJ (fun e=>J e.symm)]
  have A:(Sort.putRow (Value.int .i64) (Sort.ahead w n) g off ys.toArray).heap.size=w.heap.size:=by
   show(w.heap.modify g _).size=_;rw[JE]
  have E:(Sort.putRow (Value.int .i64) (Sort.ahead w n) g off ys.toArray).os=w.os:=rfl;have t:(Sort.putRow (Value.int .i64) (Sort.ahead w n) g off ys.toArray).tape=w.tape:=rfl;have D:(Sort.putRow (Value.int .i64) (Sort.ahead w n) g off ys.toArray).output=w.output:=rfl;generalize Sort.putRow (Value.int .i64) (Sort.ahead w n) g off ys.toArray=i at*
  have h:Ext i (Sort.grow i os):=oq i os;generalize Sort.grow i os=K at*
  have C:(Sort.putCells (Value.int .i64) off ys.toArray cur).size=cur.size:=by simp[Sort.putCells]
  have ho1:Own i B 3 cZ (.slice (some ⟨g,off,none⟩) xs.length cap) ys:=by
   refine .inr ⟨g,off,cap,_,by rw[l],⟨f,a.ge,a.nF,by omega,G,by rw[C,s];omega,?_⟩⟩;have N:(((Sort.putCells (Value.int .i64) off ys.toArray cur).toList.drop off).take (ys.length*sz Int))=ys.map fun x=>Py x:=by
    rw[s,MY];refine KE fun j=>?_
    by_cases d:j<xs.length
    ·rw[K6 O7,KX,JB,Sort.putCells,Jw,b j d,K1,KY O7]
     simp[show j<ys.length by omega,show off+j<off+ys.length by omega]
    ·rw[KZ Pc,KZ Pc]
   rw[N];exact mZ _ _ _
  have I:w.grownBy K (some g):=⟨h.os.trans E,h.tape.trans t,h.output.trans D,MN O7 h.size,fun k J F=>(h.block k O7).trans (c k (fun e=>F (by rw[e])))⟩;exact⟨_,rfl,rfl,ho1.extN h,I⟩
def Gt(f:Ltl):cW:=(FB (qi f ([],[])).1,(qi f ([],[])).2)
def nilA5:cD:=([],[],[],[],[])
def yu(t:Ltl):cD×Int:=if(BW t).2≠0 then(nilA5,(BW t).2)else if Ah (Gt (BW t).1)>10 then(nilA5,2)else(Gr (Gt (BW t).1) (BW t).1,0)
theorem BX{t:Ltl}(h:(BW t).2=0):IG t∧(BW t).1=BY t∧IG (BY t)∧(BY t).nodes≤60:=by
 unfold BW at h⊢
 split at h
 ·rename_i h1;exact absurd h h1
 rename_i h1;rw[OJ h1];unfold G7 at h⊢
 split at h
 ·rename_i h2;exact absurd h h2
 rename_i h2;rw[OJ h2];have h1:=(jV t).1 (by simpa using h1);have h2:=(jV (BY t)).1 (by simpa using h2);exact⟨h1.1,rfl,h2.1,h2.2.1⟩
theorem Gv(f:Ltl):Les (qi f ([],[])) (Gt f):=⟨fun x a=>sortI_mem.2 a,fun x a=>a⟩
theorem Gx{f:Ltl}(b:IG f)(c:rP f 10=false)(h1:rP f 11=false):OkM (Gt f):=by
 have h:=qq f ([],[]) OkM.nil b c h1;exact⟨(List.mergeSort_perm _ _).nodup_iff.2 h.na,fun x a=>h.ra x (sortI_mem.1 a),h.wp⟩
theorem Gw{f:Ltl}(b:IG f)(c:rP f 10=false)(h1:rP f 11=false):OkT (Gt f)∧OkF (Gt f) f:=by
 have d:=Cov.les (Gv f) f (qk f ([],[]));refine⟨⟨Gx b c h1,fun g a=>?_⟩,b,c,h1,d⟩;exact qj f ([],[]) (Gt f) (Gv f) (fun g a=>by cases a) g a
theorem Gu(f:Ltl):(Gt f).1.length=(qi f ([],[])).1.length∧(Gt f).2=(qi f ([],[])).2:=⟨FC,rfl⟩
theorem Gs{m:cW}{f:Ltl}(h:Ah m≤10):OkA (Gr m f):=by
 have i:2 ^ Ah m≤2 ^ 10:=M4 O7 h;have b:(Gr m f).2.1.length=2 ^ Ah m:=by show(List.map _ _).length=_;rw[Ls,Lv]
 have c:∀(p:Nat→Bool),AF (2 ^ Ah m) (((List.range (2 ^ Ah m)).filter p).map fun s:Nat=>(s:Int)):=fun p x e=>by
  obtain⟨y,d,rfl⟩:=LU.1 e;rw[LR,LZ]at d
  have:=d.1;constructor
  ·omega
  ·exact_mod_cast this
 refine⟨by rw[b];omega,?_,?_,?_,?_,fun r a=>?_,fun r a=>?_⟩
 ·show(List.map _ (List.filter _ _)).length≤80
  rw[Ls];have:=Lr (fun g:Ltl=>decide (g.k≠7)) m.2;unfold Ah at h;omega
 ·rw[b];show(List.map _ _).length=_;rw[Ls,Lv]
 ·rw[b];show(List.map _ _).length=_;rw[Ls,Lv]
 ·rw[b];exact c _
 ·rw[b]
  obtain⟨s,_,rfl⟩:=LU.1 a;exact c _
 ·rw[b]
  obtain⟨s,_,rfl⟩:=LU.1 a;exact c _
theorem yx{t:Ltl}{L:Nat→Nat}(h:(yu t).2=0):OkA (yu t).1∧(aa (yu t).1 L↔EH L t 0)∧IG t:=by
 unfold yu at h⊢
 split at h
 ·rename_i h1;exact absurd h h1
 rename_i h1;rw[OJ h1];split at h
 ·exact absurd h O9
 rename_i h2;rw[OJ h2];obtain⟨b,c,a,_⟩:=BX (by simpa using h1:(BW t).2=0);rw[c]at h2⊢
 have hh:=B1 t b;obtain⟨d,hF⟩:=Gw a hh.1 hh.2;refine⟨Gs O7,?_,b⟩;show aa (Gr (Gt (BY t)) (BY t)) L↔EH L t 0;rw[Gy d hF,B4 t b 0]
theorem Gj{g:List (List Int)}{n:Nat}(h:∀r∈g,r.length≤n):mG g≤g.length*n:=by
 induction g with
 |nil=>simp[mG]
 |cons a r b=>
  have h1:=b (fun x c=>h x (LO _ c));have h2:=h a (LP ..);unfold mG at*
  simp only[LG,Mh,Lm,Mt];omega
theorem ED{p:Nat→Bool}{N:Nat}:(((List.range N).filter p).map fun s:Nat=>(s:Int)).length≤N:=by
 rw[Ls];exact MN (Lr _ _) (by rw[Lv];exact MM _)
theorem yy(t:Ltl):mG (yu t).1.2.1+(yu t).1.1.length≤8589934592∧(∀j,((yu t).1.2.1.getD j []).length≤1048576)∧(yu t).1.1.length≤1048576:=by
 have c:mG nilA5.2.1+nilA5.1.length≤8589934592∧(∀j,(nilA5.2.1.getD j []).length≤1048576)∧nilA5.1.length≤1048576:=by
  refine⟨by decide,fun j=>?_,by decide⟩;show(([]:List (List Int)).getD j []).length≤_;simp
 unfold yu;split
 ·exact c
 ·split
  ·exact c
  ·rename_i h10
   generalize Gt (BW t).1=m at*
   generalize (BW t).1=f;have b:2 ^ Ah m≤2 ^ 10:=M4 O7 O7;have a:∀r∈(Gr m f).2.1,r.length≤1024:=fun r d=>by
    obtain⟨s,_,rfl⟩:=LU.1 d;exact MN ED b
   have e:(Gr m f).2.1.length≤1024:=by
    show((List.range (2 ^ Ah m)).map _).length≤1024;rw[Ls,Lv];exact b
   have h1:(Gr m f).1.length≤1024:=MN ED b;have h2:=Gj a;have h3:(Gr m f).2.1.length*1024≤1024*1024:=MX _ e;dsimp only;refine⟨by omega,fun j=>?_,by omega⟩;rw[KT];cases g:(Gr m f).2.1[j]? with
   |none=>simp
   |some r=>exact MN (a r (LW g)) O9


instance wb:IsF Tryz.prog 244:=⟨_,Tryz.func244,rfl,by decide⟩
theorem vN(w0:World){ao:Option Addr}{cap:Nat}{xs:List Ltl}{fv:Value}(p:Ltl→Bool)(f:Sl w0 (c7 w0) ao cap xs)
  (hf:∀w,Ext w0 w→∀i (h:i<xs.length) u,Rd w (c7 w0) u xs[i]→FnV Tryz.prog fv [u] w fun v w'=>v=.bool (p xs[i])∧Ext w w'):
  Rt Tryz.prog 244 [.slice ao xs.length cap,fv].toArray w0 fun v w'=>v=Py (idxOf p xs)∧Ext w0 w':=by
 have m:=f.len63;refine dE Tryz.func244 Tryz.ntmps244 rfl rfl ?_;refine Q3 ?_;refine CW.loop (S:=Nat) (fun k=>[(0,.slice ao xs.length cap),(1,fv),(7,Py xs.length),(8,Py k)])
  (fun k w=>k≤xs.length∧Ext w0 w∧∀j (h:j<xs.length),j<k→p xs[j]=false) (fun k=>xs.length -k) 0 O6 ⟨by omega,Ext.refl _,by omega⟩ ?_
 rintro k w ⟨n,b,hn⟩
 refine Qt ?_;apply CW.cond rfl<;>intro h
 ·simp at h
  refine PT ?_;refine eC rfl rfl rfl rfl rfl (f.at b) h Pg (fun u q g=>?_);refine d7 rfl rfl rfl rfl (hf w b k h u g) ?_;rintro v w' ⟨rfl,a⟩
  refine PU ?_;refine CW.cond rfl (fun d=>?_) (fun d=>?_)
  ·refine PA ?_
   refine be rfl rfl ⟨?_,b.trans a⟩;rw[vq h hn d]
  ·refine PI ?_
   refine EX.back (k+1) O6 ⟨h,b.trans a,?_⟩ O7;intro j c l
   by_cases e:j=k
   ·subst e;exact d
   ·exact hn j c O7
 ·simp at h
  refine P_ ?_;refine be rfl rfl ⟨?_,b⟩;rw[vw (fun j c=>hn j c O7)]
theorem iA(a b:Nat)(f:a<4611686018427387904)(e:b<4611686018427387904):bits .and .i64 (a:Int) (b:Int)=((a&&&b:Nat):Int):=by
 have c:a&&&b≤a:=Nat.and_le_left;have h1:(BitVec.ofInt 64 (a:Int)).toNat=a:=by
  rw[JJ,JK];exact MT O7
 have h2:(BitVec.ofInt 64 (b:Int)).toNat=b:=by
  rw[JJ,JK];exact MT O7
 show IntKind.i64.wrap ((BitVec.ofInt 64 (a:Int)&&&BitVec.ofInt 64 (b:Int)).toNat:Int)=_;rw[BitVec.toNat_and,h1,h2,Jk O7 O7]
theorem iC(a b:Nat)(f:a<4611686018427387904)(e:b<4611686018427387904):bits .or .i64 (a:Int) (b:Int)=((a|||b:Nat):Int):=by
 have c:a|||b<2 ^ 62:=M3 O7 O7;have h1:(BitVec.ofInt 64 (a:Int)).toNat=a:=by
  rw[JJ,JK];exact MT O7
 have h2:(BitVec.ofInt 64 (b:Int)).toNat=b:=by
  rw[JJ,JK];exact MT O7
 show IntKind.i64.wrap ((BitVec.ofInt 64 (a:Int)|||BitVec.ofInt 64 (b:Int)).toNat:Int)=_;rw[BitVec.toNat_or,h1,h2,Jk O7 O7]
theorem iD(a b:Nat)(e:a<18446744073709551616)(c:b<18446744073709551616):bits .or .u64 (a:Int) (b:Int)=((a|||b:Nat):Int):=bits_or_u64_nat a b e c
theorem Ff{s:Nat}(a:s<62):IntKind.i64.wrap (1*2 ^ min ((s:Int)).toNat IntKind.i64.bits)=((1 <<< s:Nat):Int):=by
 have h1:min s (IntKind.bits .i64)=s:=by show min s 64=s;omega
 have h2:2 ^ s<2 ^ 62:=M5 O7 a;simp only[Kb,h1,Ka];have h3:((2:Int) ^ s)=((2 ^ s:Nat):Int):=by norm_cast
 rw[h3,M2];generalize 2 ^ s=x at*
 rw[Jk O7 O7]
theorem Fg{s:Nat}(a:s<64):IntKind.u64.wrap (1*2 ^ min ((s:Int)).toNat IntKind.u64.bits)=((1 <<< s:Nat):Int):=by
 have h1:min s (IntKind.bits .u64)=s:=by show min s 64=s;omega
 have h2:2 ^ s<2 ^ 64:=M5 O7 a;simp only[Kb,h1,Ka];have h3:((2:Int) ^ s)=((2 ^ s:Nat):Int):=by norm_cast
 rw[h3,M2,IntKind.wrap_u64];generalize 2 ^ s=x at*
 omega
theorem Ei(P:Program)(w:World)(a s:Nat)(b:s≤62)(t:TypeId):(binOp .shr t (Py (a:Int)) (Py (s:Int))).run P w=.ok (Py ((a >>> s:Nat):Int)) w:=by
 rw[binOp_shr,shift_shr_i64 (h₀:=by omega) (h₁:=by omega),Kb,M6];have:((a:Int) / 2 ^ s)=((a / 2 ^ s:Nat):Int):=by norm_cast
 rw[this];rfl
section
variable {P:Program}{Q:Exit→Act→World→Prop}{n:Nat}{σ:Sg}{w wc:World}{L rest:List Oper}{ord:List (Nat×Bool)}{S:World→Prop}{i d:Nat}{ty:TypeId}{pos:String}{af:Array Edge}{g:Option (Nat×Bool)}{t yt:TypeId}{x y:Operand}
theorem fu{a s:Nat}(j:gd L σ ⟨some d,.binOp .shr t x y yt,ty,pos,af,g⟩=some true)(hd:Nat.ble (d+1) n=true)(e:ev σ x=some (Py (a:Int)))(c:ev σ y=some (Py (s:Int)))(f:s≤62)
  (h:WL P L Q rest n ((d,Py ((a >>> s:Nat):Int))::σ) w):WL P L Q (⟨some d,.binOp .shr t x y yt,ty,pos,af,g⟩::rest) n σ w:=by
 refine WL.run j hd (fun k b=>?_) h;have:=Ei P w a s f t;simp[execOp,b.ev e,b.ev c,nt (op:=.shr) rfl,this]
theorem cz{a s:Nat}(k:Ab L i=some ⟨some d,.binOp .shr t x y yt,ty,pos,af,g⟩)(l:gd L σ ⟨some d,.binOp .shr t x y yt,ty,pos,af,g⟩=some true)(hd:Nat.ble (d+1) n=true)(f:ev σ x=some (Py (a:Int)))(e:ev σ y=some (Py (s:Int)))(j:s≤62)
  (h:HL P L S Q ord n ((d,Py ((a >>> s:Nat):Int))::σ) wc):HL P L S Q ((i,true)::ord) n σ wc:=by
 refine HL.run k l hd (fun m b c _=>?_) h;have:=Ei P c a s j t;simp[execOp,b.ev f,b.ev e,nt (op:=.shr) rfl,this]
end
instance u5:IsFd Tryz.prog 212 0 0:=IsFd.of O8
instance u6:IsFd Tryz.prog 212 1 1:=IsFd.of O8
instance u7:IsZC Tryz.prog 212 [.slice none 0 0,.slice none 0 0]:=IsZC.of (z:=.agg #[.slice none 0 0,.slice none 0 0]) O8 rfl
instance u9:IsBd Tryz.prog 212 [(0,1),(1,1)]:=IsBd.of O8
structure MkA(w:World)(sb:Nat)(m:cW):Prop where
 ok:∃ao ac po pc,Blk w sb 212 [.slice ao m.1.length ac,.slice po m.2.length pc]∧Sl w (c7 w) ao ac m.1∧Sl w (c7 w) po pc m.2
theorem MkA.ext{w w':World}{sb:Nat}{m:cW}(h:MkA w sb m)(a:Ext w w'):MkA w' sb m:=by
 obtain⟨ao,ac,b,c,h1,h2,h3⟩:=h.ok;exact⟨ao,ac,b,c,h1.ext a,h2.up a,h3.up a⟩
theorem Bx(w:World)(b:Nat){t g:Ltl}{ao go:Option Addr}{ac gc:Nat}(d:Blk w b 32 [Py t.k,Py t.n,.slice ao t.kids.length ac])(e:Sl w (c7 w) ao ac t.kids)(f:Sl w (c7 w) go gc g.kids):
  Rt Tryz.prog 245 [ym g.k g.n go g.kids.length gc,Pz b].toArray w fun v w'=>v=.bool (Eu t g)∧Ext w w':=by
 refine dE Tryz.func245 Tryz.ntmps245 rfl rfl ?_;refine PB ?_;refine dX rfl rfl rfl fun c h a=>?_
 have d:=d.ext a;refine Q4 ?_;refine WL.call rfl rfl rfl (Cv _ t g Pu c (c7 c) ao go ac gc (e.up a) (f.up a) Pl) ?_;rintro _ j ⟨rfl,i⟩
 refine PK ?_;exact be rfl rfl ⟨rfl,a.trans i⟩
theorem BG(w:World){sb:Nat}{m:cW}{t:Ltl}{ko:Option Addr}{kc:Nat}(n:MkA w sb m)(j:Sl w (c7 w) ko kc t.kids):
  Rt Tryz.prog 193 [Pz sb,ym t.k t.n ko t.kids.length kc].toArray w fun v w'=>v=Py (BA m t)∧Ext w w':=by
 refine dE Tryz.func193 Tryz.ntmps193 rfl rfl ?_;refine PB ?_;refine dX rfl rfl rfl fun g c d=>?_
 obtain⟨ao,ac,p,q,f,h1,h2⟩:=(n.ext d).ok;refine QQ ?_;refine WL.call rfl rfl rfl (vN g (Eu t) h2 (fun e a i hi u h=>?_)) ?_
 ·obtain⟨go,gc,rfl,k⟩:=Rd.ltl h
  exact FnV.mk (cs:=[_]) (Bx e _ (c.ext a) (j.up (d.trans a)) (k.mono Pq (fun b l=>MQ l a.size)))
 rintro _ e ⟨rfl,o⟩
 refine PK ?_;exact be rfl rfl ⟨rfl,d.trans o⟩
theorem j9{s i:Nat}:((((s >>> i&&&1:Nat):Int))==1)=s.testBit i:=by
 rw[JN,←Fh];simp only[Oq];omega
theorem j_(w0:World){sb:Nat}{m:cW}{t:Ltl}{s:Nat}{ko:Option Addr}{kc:Nat}(o:MkA w0 sb m)(r:Sl w0 (c7 w0) ko kc t.kids)(A:s<1048576)(B:m.1.length≤20∧m.2.length≤20)(h3:t.k=3→t.n∈m.1)(q:t.k≠3→t∈m.2):
  Rt Tryz.prog 196 [Pz sb,ym t.k t.n ko t.kids.length kc,Py (s:Int)].toArray w0 fun v w'=>v=.bool (j8 m s t)∧Ext w0 w':=by
 refine dF Tryz.func196 Tryz.ntmps196 rfl rfl ?_;refine PB ?_;refine dX rfl rfl rfl fun a l g=>?_
 obtain⟨ao,ac,w,x,e,h1,h2⟩:=(o.ext g).ok;have c:∀i:Nat,s >>> i<4611686018427387904:=fun i=>by have:=M7 s i;omega
 have b:=Ext.drew a;have u:∀z,(fun z:World=>Ext (drew a) z) z→Ext (drew a) z:=fun _ h=>h
 have k:=e.ext b;have n:=l.ext b;refine QR ?_;apply CW.cond rfl<;>intro h
 ·have h:t.k=3:=by simpa using h
  obtain⟨i,hi,d,_⟩:=gG (h3 h);have j:j8 m s t=s.testBit i:=by unfold j8;rw[OK h,d,Kb]
  rw[j];refine P1 ?_;refine aF (fun z:World=>Ext (drew a) z) [(0,true),(1,true),(2,true),(3,true),(4,true),(5,true),(6,true),(7,false),(8,true),(9,true),(10,true),(11,true)] mixed O8 Pw ?_;refine RK ?_;refine cr rfl (WL.call rfl rfl rfl (vQ (drew a) t.n (h1.up b)) ?_);rintro _ p ⟨rfl,f⟩
  refine WL.nil (a_ f ?_);rw[show idxOf (fun y=>t.n==y) m.1=(i:Int) from d];skip;refine cz rfl rfl rfl rfl rfl O7 ?_;refine RR ?_;rw[show bits .and .i64 ((s >>> i:Nat):Int) 1=((s >>> i&&&1:Nat):Int) from iA _ 1 (c i) O7,j9];skip;refine Qk ?_;exact be rfl rfl ⟨rfl,(g.trans b).trans f⟩
 ·have h:t.k≠3:=by simpa using h
  obtain⟨i,hi,d,_⟩:=BB (q h);have j:j8 m s t=s.testBit (m.1.length+i):=by unfold j8;rw[OJ h,d,Kb]
  rw[j];refine QY ?_;refine aF (fun z:World=>Ext (drew a) z) [(0,true),(1,true),(2,true),(3,true),(4,true),(5,true),(6,true),(7,true),(8,false),(9,true),(10,true),(11,true),(12,true),(13,true)] mixed O8 Pw ?_;refine RO ?_;refine cr rfl (WL.call rfl rfl rfl (BG (drew a) (t:=t) ((o.ext g).ext b) (r.up (g.trans b))) ?_);rintro _ p ⟨rfl,f⟩
  refine WL.nil (a_ f ?_);rw[d];refine RP ?_;rw[show((m.1.length:Nat):Int)+(i:Int)=((m.1.length+i:Nat):Int) by omega];refine cz rfl rfl rfl rfl rfl O7 ?_;refine RR ?_;rw[show bits .and .i64 ((s >>> (m.1.length+i):Nat):Int) 1=((s >>> (m.1.length+i)&&&1:Nat):Int) from iA _ 1 (c _) O7,j9];skip;refine PQ ?_;exact be rfl rfl ⟨rfl,(g.trans b).trans f⟩
theorem IJ:∀t,IG t→t=.mk 1 0 []∨t=.mk 2 0 []∨(∃n,t=.mk 3 n [])∨(∃k a,(k=4∨k=7∨k=10∨k=11)∧t=.mk k 0 [a])∨∃k a b,(k=5∨k=6∨k=8∨k=9)∧t=.mk k 0 [a,b]:=
 IK (M:=fun t=>t=.mk 1 0 []∨t=.mk 2 0 []∨(∃n,t=.mk 3 n [])∨(∃k a,(k=4∨k=7∨k=10∨k=11)∧t=.mk k 0 [a])∨∃k a b,(k=5∨k=6∨k=8∨k=9)∧t=.mk k 0 [a,b])
  (.inl rfl) (.inr (.inl rfl)) (fun n _ _=>.inr (.inr (.inl ⟨n,rfl⟩))) (fun k a c _ _=>.inr (.inr (.inr (.inl ⟨k,a,c,rfl⟩)))) (fun k a b c _ _ _ _=>.inr (.inr (.inr (.inr ⟨k,a,b,c,rfl⟩))))
set_option maxHeartbeats 2000000 in
theorem GV:∀(d:Nat) (t:Ltl),t.nodes≤d→∀(w0:World) {sb:Nat} {m:cW} {s:Nat} {ko:Option Addr} {kc:Nat},MkA w0 sb m→OkF m t→Sl w0 (c7 w0) ko kc t.kids→s<1048576→(m.1.length≤20∧m.2.length≤20)→
  Rt Tryz.prog 116 [Pz sb,ym t.k t.n ko t.kids.length kc,Py (s:Int)].toArray w0 fun v w'=>v=.bool (rR m s t)∧Ext w0 w':=by
 intro d
 induction d with
 |zero=>intro t h;have:=t.nodes_pos;omega
 |succ d D=>
  intro t hd w0 sb m s ko kc A hF y w x
  have J:=hF.cov;rcases IJ t hF.wf with rfl|rfl|⟨n,rfl⟩|⟨k,a,G,rfl⟩|⟨k,a,b,G,rfl⟩
  ·refine dF Ny NC rfl rfl ?_
   rw[ho1];refine PB ?_;refine dX rfl rfl rfl fun p c e=>?_
   refine P8 ?_;exact be rfl rfl ⟨rfl,e⟩
  ·refine dF Ny NC rfl rfl ?_
   rw[ho2];refine PB ?_;refine dX rfl rfl rfl fun p c e=>?_
   refine P8 ?_;exact be rfl rfl ⟨rfl,e⟩
  ·simp only[Cov]at J
   have h3:=ho3 (m:=m) (s:=s) (n:=n);refine dF Ny NC rfl rfl ?_;refine PB ?_;refine dX rfl rfl rfl fun p c e=>?_
   refine Q5 ?_;refine WL.call rfl rfl rfl (j_ p (t:=.mk 3 n []) (A.ext e) (y.up e) w x (fun _=>J.1 trivial) (fun h=>absurd rfl h)) ?_;rintro _ C ⟨rfl,f⟩
   refine PK ?_;exact be rfl rfl ⟨by rw[h3];rfl,e.trans f⟩
  ·have H:=hF.un
   have z:a.nodes≤d:=by simp only[Ltl.nodes,Ltl.nodesL]at hd;omega
   rcases G with rfl|rfl|rfl|rfl
   ·refine dF Ny NC rfl rfl ?_
    rw[ho4];refine PB ?_;refine dX rfl rfl rfl fun p c e=>?_
    refine Qz ?_;refine eC (i:=0) rfl rfl rfl rfl rfl (y.up e) (by simp[Ltl.kids]) Pg (fun u q o=>?_);obtain⟨uo,uc,rfl,g⟩:=Rd.ltl (t:=a) o;refine Ri ?_;refine WL.call rfl rfl rfl (D a z p (A.ext e) H g w x) ?_;rintro _ C ⟨rfl,f⟩
    refine P2 ?_;exact be rfl rfl ⟨rfl,e.trans f⟩
   ·simp only[Cov]at J
    have N:=ho7 (m:=m) (s:=s) (n:=0) (a:=a);refine dF Ny NC rfl rfl ?_;refine PB ?_;refine dX rfl rfl rfl fun p c e=>?_
    refine Q5 ?_;refine WL.call rfl rfl rfl (j_ p (t:=.mk 7 0 [a]) (A.ext e) (y.up e) w x (fun h=>by cases h) (fun _=>J.2.1 O_)) ?_;rintro _ C ⟨rfl,f⟩
    refine PK ?_;exact be rfl rfl ⟨by rw[N];rfl,e.trans f⟩
   ·have:=hF.h10;simp[rP]at this
   ·have:=hF.h11;simp[rP]at this
  ·have H:=hF.b1
   have K:=hF.b2;have z:a.nodes≤d:=by simp only[Ltl.nodes,Ltl.nodesL]at hd;omega
   have E:b.nodes≤d:=by simp only[Ltl.nodes,Ltl.nodesL]at hd;omega
   rcases G with rfl|rfl|rfl|rfl
   ·refine dF Ny NC rfl rfl ?_
    rw[ho5];refine PB ?_;refine dX rfl rfl rfl fun p c e=>?_
    refine Qz ?_;refine eC (i:=0) rfl rfl rfl rfl rfl (y.up e) (by simp[Ltl.kids]) Pg (fun u q o=>?_);obtain⟨uo,uc,rfl,g⟩:=Rd.ltl (t:=a) o;refine Ri ?_;refine WL.call rfl rfl rfl (D a z p (A.ext e) H g w x) ?_;rintro _ C ⟨rfl,f⟩
    have c:=c.ext f;cases rR m s a
    ·refine Qb ?_
     exact be rfl rfl ⟨rfl,e.trans f⟩
    ·refine Rs ?_
     refine eC (i:=1) rfl rfl rfl rfl rfl (y.up (e.trans f)) (by simp[Ltl.kids]) Pg (fun u q o=>?_);obtain⟨vo,vc,rfl,r⟩:=Rd.ltl (t:=b) o;refine Ri ?_;refine WL.call rfl rfl rfl (D b E C (A.ext (e.trans f)) K r w x) ?_;rintro _ I ⟨rfl,F⟩
     refine P2 ?_;exact be rfl rfl ⟨rfl,(e.trans f).trans F⟩
   ·refine dF Ny NC rfl rfl ?_
    rw[ho6];refine PB ?_;refine dX rfl rfl rfl fun p c e=>?_
    refine Qz ?_;refine eC (i:=0) rfl rfl rfl rfl rfl (y.up e) (by simp[Ltl.kids]) Pg (fun u q o=>?_);obtain⟨uo,uc,rfl,g⟩:=Rd.ltl (t:=a) o;refine Ri ?_;refine WL.call rfl rfl rfl (D a z p (A.ext e) H g w x) ?_;rintro _ C ⟨rfl,f⟩
    have c:=c.ext f;cases rR m s a
    ·refine Rs ?_
     refine eC (i:=1) rfl rfl rfl rfl rfl (y.up (e.trans f)) (by simp[Ltl.kids]) Pg (fun u q o=>?_);obtain⟨vo,vc,rfl,r⟩:=Rd.ltl (t:=b) o;refine Ri ?_;refine WL.call rfl rfl rfl (D b E C (A.ext (e.trans f)) K r w x) ?_;rintro _ I ⟨rfl,F⟩
     refine P2 ?_;exact be rfl rfl ⟨rfl,(e.trans f).trans F⟩
    ·refine Qb ?_
     exact be rfl rfl ⟨rfl,e.trans f⟩
   ·have B:=hF.cov
    simp only[Cov]at B
    refine dF Ny NC rfl rfl ?_;rw[ho8];refine PB ?_;refine dX rfl rfl rfl fun p c e=>?_
    refine Qz ?_;refine eC (i:=1) rfl rfl rfl rfl rfl (y.up e) (by simp[Ltl.kids]) Pg (fun u q o=>?_);obtain⟨uo,uc,rfl,r⟩:=Rd.ltl (t:=b) o;refine Ri ?_;refine WL.call rfl rfl rfl (D b E p (A.ext e) K r w x) ?_;rintro _ C ⟨rfl,f⟩
    have c:=c.ext f;have l:=e.trans f;cases rR m s b
    ·refine Rs ?_
     refine eC (i:=0) rfl rfl rfl rfl rfl (y.up l) (by simp[Ltl.kids]) Pg (fun u q o=>?_);obtain⟨vo,vc,rfl,g⟩:=Rd.ltl (t:=a) o;refine Ri ?_;refine WL.call rfl rfl rfl (D a z C (A.ext l) H g w x) ?_;rintro _ I ⟨rfl,F⟩
     have c:=c.ext F;have j:=l.trans F;cases rR m s a
     ·refine Qb ?_
      exact be rfl rfl ⟨rfl,j⟩
     ·refine Rx ?_
      refine WL.call rfl rfl rfl (j_ I (t:=.mk 8 0 [a,b]) (A.ext j) (y.up j) w x (fun h=>by cases h) (fun _=>B.2.1 O_)) ?_;rintro _ M ⟨rfl,L⟩
      refine P2 ?_;exact be rfl rfl ⟨rfl,j.trans L⟩
    ·refine Qb ?_
     exact be rfl rfl ⟨rfl,l⟩
   ·have B:=hF.cov
    simp only[Cov]at B
    refine dF Ny NC rfl rfl ?_;rw[ho9];refine PB ?_;refine dX rfl rfl rfl fun p c e=>?_
    refine Qz ?_;refine eC (i:=1) rfl rfl rfl rfl rfl (y.up e) (by simp[Ltl.kids]) Pg (fun u q o=>?_);obtain⟨uo,uc,rfl,r⟩:=Rd.ltl (t:=b) o;refine Ri ?_;refine WL.call rfl rfl rfl (D b E p (A.ext e) K r w x) ?_;rintro _ C ⟨rfl,f⟩
    have c:=c.ext f;have l:=e.trans f;cases rR m s b
    ·refine Qb ?_
     exact be rfl rfl ⟨rfl,l⟩
    ·refine Rs ?_
     refine eC (i:=0) rfl rfl rfl rfl rfl (y.up l) (by simp[Ltl.kids]) Pg (fun u q o=>?_);obtain⟨vo,vc,rfl,g⟩:=Rd.ltl (t:=a) o;refine Ri ?_;refine WL.call rfl rfl rfl (D a z C (A.ext l) H g w x) ?_;rintro _ I ⟨rfl,F⟩
     have c:=c.ext F;have j:=l.trans F;cases rR m s a
     ·refine Rx ?_
      refine WL.call rfl rfl rfl (j_ I (t:=.mk 9 0 [a,b]) (A.ext j) (y.up j) w x (fun h=>by cases h) (fun _=>B.2.1 O_)) ?_;rintro _ M ⟨rfl,L⟩
      refine P2 ?_;exact be rfl rfl ⟨rfl,j.trans L⟩
     ·refine Qb ?_
      exact be rfl rfl ⟨rfl,j⟩
theorem Bh(w:World){sb:Nat}{m:cW}{s:Nat}(b:MkA w sb m)(e:m.1.length≤20):Rt Tryz.prog 118 [Pz sb,Py (s:Int)].toArray w fun v w'=>v=Py ((s >>> m.1.length:Nat):Int)∧w=w':=by
 obtain⟨ao,ac,c,d,a,h1,h2⟩:=b.ok;refine dE Tryz.func118 Tryz.ntmps118 rfl rfl ?_;refine QE ?_;refine fu rfl rfl rfl rfl O7 ?_;refine PK ?_;exact be rfl rfl ⟨rfl,rfl⟩
theorem gq{n:Int}{a:Ltl}:gp (.mk 7 n [a])=a:=rfl
theorem gr{k n:Int}{l:List Ltl}(h:k=8∨k=9):gp (.mk k n l)=.mk k n l:=by
 unfold gp;rw[OJ (by simp only[Ltl.k];omega)]
set_option maxHeartbeats 1000000 in
theorem wB(w0:World){sb:Nat}{m:cW}{s:Nat}(R:MkA w0 sb m)(Q:OkT m)(X:s<1048576)(Y:m.1.length≤20∧m.2.length≤20):
  Rt Tryz.prog 115 [Pz sb,Py (s:Int)].toArray w0 fun v w'=>v=Py ((wz m s:Nat):Int)∧Ext w0 w':=by
 obtain⟨ao,ac,po,pc,Z,h1,h2⟩:=R.ok;have hpl:=h2.len63;refine dE Tryz.func115 Tryz.ntmps115 rfl rfl ?_;refine QE ?_;refine CW.loop (S:=Nat) (fun i=>[(0,Pz sb),(1,Py (s:Int)),(5,Py ((Bm (fun i=>rR m s (gp (m.2.getD i zp))) i:Nat):Int)),(12,.slice po m.2.length pc),(13,Py m.2.length),(14,Py i)])
  (fun i w=>i≤m.2.length∧Ext w0 w) (fun i=>m.2.length -i) 0 O6 ⟨Nc _,Ext.refl _⟩ ?_
 rintro i w ⟨hi,I⟩
 have hpk:=Bo (f:=fun i=>rR m s (gp (m.2.getD i zp))) (c:=i);have y:2 ^ i≤2 ^ 20:=M4 O7 O7;refine Qt ?_;apply CW.cond rfl<;>intro h
 ·have j:i<m.2.length:=by simp at h;omega
  have F:m.2[i]∈m.2:=Lc j;have P:m.2.getD i zp=m.2[i]:=rj j;have hF:=Q.arg F;have N:=BH (Q.part F).wf (Q.ok.wp _ F).2.1;have d:Bm (fun i=>rR m s (gp (m.2.getD i zp))) (i+1)=if rR m s (gp m.2[i])=true then Bm (fun i=>rR m s (gp (m.2.getD i zp))) i|||(1 <<< i)else Bm (fun i=>rR m s (gp (m.2.getD i zp))) i:=by
   rw[Bm,P]
  have T:2 ^ i<4611686018427387904:=MP y O9;generalize Bm (fun i=>rR m s (gp (m.2.getD i zp))) i=acc at*
  have z:=iC acc (1 <<< i) O7 (by rw[M2];exact T);refine PX ?_;refine eC rfl rfl rfl rfl rfl (h2.up I) j Pg (fun u q M=>?_);generalize m.2[i]=g at*
  obtain⟨go,gc,rfl,C⟩:=Rd.ltl M;skip;refine WL.alloc rfl rfl (fun w1 l e1=>?_);have z1:=l.lt;refine Ri ?_;refine WL.st rfl rfl rfl l rfl rfl Pr (fun W l E=>?_);have K:Ext w W:=e1.grown E e1.size Pi;refine PJ ?_;refine WL.alloc rfl rfl (fun w3 o V=>?_);have l:=l.ext V;skip;refine WL.st rfl rfl rfl o rfl rfl Pr (fun L o D=>?_);have J:Ext W L:=V.grown D V.size Pi;have z2:=E.size;have n:=(I.trans K).trans J;have B:=C.up (K.trans J);have l:=l.kept D Po;rcases N with⟨a,rfl⟩|⟨k,a,b,hk,rfl⟩
  ·rw[gq]at hF d
   refine Qz ?_;refine eC (i:=0) rfl rfl rfl rfl rfl (C.mono (w':=L) (fun b r=>(K.trans J).block b r) (F':=c7 w) Pl) (by simp[Ltl.kids]) Pg (fun u q M=>?_);obtain⟨uo,uc,rfl,O⟩:=Rd.ltl (t:=a) M;skip;refine WL.st rfl rfl rfl o rfl rfl Pr (fun x o p=>?_);have U:Ext w0 x:=n.grown p n.size (fun g F=>by cases F;have:=I.size;omega);have z4:=(K.trans J).size;have z5:=p.size;have A:Sl x (c7 x) uo uc a.kids:=O.mono (fun b r=>p.block b (by have G:b<w.heap.size:=r;omega) (fun e=>by have:=Nn e;have G:b<w.heap.size:=r;omega)) (fun b r=>by have G:b<w.heap.size:=r;exact(show b<x.heap.size by omega));refine Q4 ?_;refine WL.call rfl rfl rfl (GV _ a Pu x (R.ext U) hF A X Y) ?_;rintro _ w6 ⟨rfl,H⟩
   cases hh:rR m s a
   ·rw[hh,OJ O9]at d
    refine P0 ?_;refine EX.back (i+1) ?_ ⟨j,U.trans H⟩ O7;rw[d];exact O6
   ·rw[hh,OK rfl]at d
    refine P3 ?_;rw[Ff (show i<62 by omega),z];skip;refine EX.back (i+1) ?_ ⟨j,U.trans H⟩ O7;rw[d];exact O6
  ·rw[gr hk]at hF d
   have h7:(k==7)=false:=by
    rw[Oo];omega
   refine QR ?_;refine CW.cond rfl (fun h=>by rw[show((Ltl.mk k 0 [a,b]).k==7)=false from h7]at h;cases h) (fun _=>?_);refine P4 ?_;refine WL.call rfl rfl rfl (GV _ (.mk k 0 [a,b]) Pu L (R.ext n) hF B X Y) ?_;rintro _ w6 ⟨rfl,H⟩
   cases hh:rR m s (.mk k 0 [a,b])
   ·rw[hh,OJ O9]at d
    refine P0 ?_;refine EX.back (i+1) ?_ ⟨j,n.trans H⟩ O7;rw[d];exact O6
   ·rw[hh,OK rfl]at d
    refine P3 ?_;rw[Ff (show i<62 by omega),z];skip;refine EX.back (i+1) ?_ ⟨j,n.trans H⟩ O7;rw[d];exact O6
 ·obtain rfl:i=m.2.length:=by simp at h;omega
  refine P_ ?_;exact be rfl rfl ⟨rfl,I⟩
theorem GT{s i:Nat}(a:s<1048576)(is:Bool):((((bits .and .i64 ((s >>> i:Nat):Int) 1:Int)==1))==is)=(s.testBit i==is):=by
 rw[show bits .and .i64 ((s >>> i:Nat):Int) 1=((s >>> i&&&1:Nat):Int) from iA _ 1 (by have:=M7 s i;omega) O7,j9]
set_option maxHeartbeats 1000000 in
theorem iB(w0:World){sb:Nat}{m:cW}{s:Nat}(is:Bool)(u:MkA w0 sb m)(l:OkM m)(r:s<1048576)(B:m.1.length≤20):
  Rt Tryz.prog 119 [Pz sb,Py (s:Int),.bool is].toArray w0 fun v w'=>v=.int .u64 ((iz m s is:Nat):Int)∧Ext w0 w':=by
 obtain⟨ao,ac,z,A,n,h1,h2⟩:=u.ok;refine dF Tryz.func119 Tryz.ntmps119 rfl rfl ?_;refine QE ?_;refine CW.loop (S:=Nat) (fun i=>[(1,Py (s:Int)),(2,.bool is),(7,.int .u64 ((iu m.1 s is i:Nat):Int)),(13,.slice ao m.1.length ac),(14,Py m.1.length),(15,Py i)])
  (fun i w=>i≤m.1.length∧Ext w0 w) (fun i=>m.1.length -i) 0 O6 ⟨Nc _,Ext.refl _⟩ ?_
 rintro i w ⟨hi,f⟩
 have t:=iw (s:=s) (is:=is) (fun x p=>(l.ra x p).2) hi;refine Qt ?_;apply CW.cond rfl<;>intro h
 ·have c:i<m.1.length:=by simp at h;omega
  have j:=l.ra _ (Lc c);have k:m.1.getD i 0=m.1[i]:=by rw[KT,KY c];rfl
  have b:iu m.1 s is (i+1)=if s.testBit i=is then iu m.1 s is i|||(1 <<< (m.1.getD i 0).toNat)else iu m.1 s is i:=rfl
  rw[k]at b
  generalize iu m.1 s is i=acc at*
  obtain⟨a,o⟩:=J7 j.1;have d:a<64:=by omega
  rw[o,Kb]at b
  have y:2 ^ a<2 ^ 64:=M5 O7 d;have g:=iD acc (1 <<< a) O7 (by rw[M2];omega);refine PX ?_;refine eB rfl rfl rfl rfl rfl (h1.up f) c o Pg (fun q=>?_);refine Qt ?_;refine fu rfl rfl rfl rfl O7 ?_;refine Q8 ?_;rw[GT r];by_cases e:s.testBit i=is
  ·rw[OK e]at b
   rw[show(s.testBit i==is)=true by rw[e];simp];refine P3 ?_;rw[Fg d,g];skip;refine EX.back (i+1) ?_ ⟨c,f⟩ O7;rw[b];exact O6
  ·rw[OJ e]at b
   rw[show(s.testBit i==is)=false by rw[Oo];exact e];refine P0 ?_;refine EX.back (i+1) ?_ ⟨c,f⟩ O7;rw[b];exact O6
 ·obtain rfl:i=m.1.length:=by simp at h;omega
  refine P_ ?_;exact be rfl rfl ⟨rfl,f⟩
set_option maxHeartbeats 1000000 in
theorem GU(w0:World){sb:Nat}{m:cW}{s:Nat}{k:Int}{a b:Ltl}{ko:Option Addr}{kc:Nat}(l:MkA w0 sb m)(hF:OkF m (.mk k 0 [a,b]))(y:k=8∨k=9)(f:Sl w0 (c7 w0) ko kc [a,b])(h:s<1048576)(j:m.1.length≤20∧m.2.length≤20):
  Rt Tryz.prog 120 [Pz sb,ym k 0 ko 2 kc,Py (s:Int)].toArray w0 fun v w'=>v=.bool (ou m (.mk k 0 [a,b]) s)∧Ext w0 w':=by
 have r:ou m (.mk k 0 [a,b]) s=if k=8 then !(rR m s (.mk k 0 [a,b]))||rR m s b else rR m s (.mk k 0 [a,b])||!(rR m s b):=rfl
 rw[r];rcases y with rfl|rfl
 ·rw[OK rfl]
  refine dF Tryz.func120 Tryz.ntmps120 rfl rfl ?_;refine PB ?_;refine dX rfl rfl rfl fun o d c=>?_
  refine Q7 ?_;refine WL.call rfl rfl rfl (GV _ (.mk 8 0 [a,b]) Pu o (l.ext c) hF (f.up c) h j) ?_;rintro _ n ⟨rfl,e⟩
  have d:=d.ext e;cases rR m s (.mk 8 0 [a,b])
  ·refine Qb ?_
   exact be rfl rfl ⟨rfl,c.trans e⟩
  ·refine Rs ?_
   refine eC (i:=1) rfl rfl rfl rfl rfl (f.up (c.trans e)) O_ Pg (fun u q p=>?_);obtain⟨vo,vc,rfl,g⟩:=Rd.ltl (t:=b) p;refine Ri ?_;refine WL.call rfl rfl rfl (GV _ b Pu n (l.ext (c.trans e)) hF.b2 g h j) ?_;rintro _ x ⟨rfl,w⟩
   refine PS ?_;exact be rfl rfl ⟨rfl,(c.trans e).trans w⟩
 ·rw[OJ O9]
  refine dF Tryz.func120 Tryz.ntmps120 rfl rfl ?_;refine PB ?_;refine dX rfl rfl rfl fun o d c=>?_
  refine Q5 ?_;refine WL.call rfl rfl rfl (GV _ (.mk 9 0 [a,b]) Pu o (l.ext c) hF (f.up c) h j) ?_;rintro _ n ⟨rfl,e⟩
  have d:=d.ext e;cases rR m s (.mk 9 0 [a,b])
  ·refine Rs ?_
   refine eC (i:=1) rfl rfl rfl rfl rfl (f.up (c.trans e)) O_ Pg (fun u q p=>?_);obtain⟨vo,vc,rfl,g⟩:=Rd.ltl (t:=b) p;refine Ri ?_;refine WL.call rfl rfl rfl (GV _ b Pu n (l.ext (c.trans e)) hF.b2 g h j) ?_;rintro _ x ⟨rfl,w⟩
   refine PK ?_;exact be rfl rfl ⟨rfl,(c.trans e).trans w⟩
  ·refine PL ?_
   exact be rfl rfl ⟨rfl,c.trans e⟩
end Go.Proofs.YtfpjecjadlgdcaaGreatDoor
