import Derived.Test.YtodmkmobdmcfbaaGreatDoorPtTopNot7
set_option linter.unusedVariables false
set_option linter.unusedSimpArgs false
set_option linter.defProp false
namespace Go.Proofs.YtodmkmobdmcfbaaGreatDoor
open Go.RowKit
def IZ(P:Program)(ops:Array Oper)(Q:Exit→Act→World→Prop)(S:Array Bool→World→Prop):Nat→Array Bool→Act→World→Prop
 |0,f,a,w=>Region.ready .any ops f=[]∧Q .normal a w
 |fuel+1,f,a,w=>
  (Region.ready .any ops f=[]→Q .normal a w)∧
  ∀i∈Region.ready .any ops f,wpOp P ops Q i (fun h w'=>S (f.setIfInBounds i true) w'∧IZ P ops Q S fuel (f.setIfInBounds i true) h w') a w
section
variable {P:Program}{ops:Array Oper}{Q:Exit→Act→World→Prop}{S:Array Bool→World→Prop}
theorem I3:∀(fuel:Nat) (f:Array Bool) (a:Act) (w:World),IZ P ops Q S fuel f a w→wpAny P .any ops Q fuel f a w
 |0,_,_,_,h=>h
 |fuel+1,_,_,_,h=>⟨h.1,fun i hi=>OU (fun k w' j=>I3 fuel _ k w' j.2) (h.2 i hi)⟩
theorem I0{i:Nat}{oi:Oper}{v:Value}(hi:ops[i]?=some oi)(r:∀(j:Nat) (o:Oper) cs b,ops[j]?=some o→o.op≠.select cs b)
  (hQ:∀c a w,Q (.panic c) (a.put oi.dst v) w→Q (.panic c) a w) (Rch:Array Bool→Prop) (hR:∀L j,Rch L→j≠i→j∈Region.ready .any ops L→Rch (L.setIfInBounds j true))
  (z:∀L w,S (L.setIfInBounds i true) w↔S L w):
  ∀(fuel:Nat) (f:Array Bool) (a:Act) (w:World),Rch f→
   (∀j oj,ops[j]?=some oj→j≠i→f.getD j true=false→(∀e∈oj.after,Region.binds .any e=true→e.on≠i)→oi.apart ops oj=true)→
   i∈Region.ready .any ops f→YieldsIf P ops (fun w=>∃L,Rch L∧S L w) oi v a→S f w→
   IZ P ops Q S fuel (f.setIfInBounds i true) (a.put oi.dst v) w→IZ P ops Q S (fuel+1) f a w:=by
 intro fuel
 induction fuel with
 |zero=>
  intro f a w q _ u G hS H
  refine⟨fun h=>(by rw[h]at u;cases u),fun j D=>?_⟩;by_cases l:j=i
  ·subst l;exact G.wpOp hi ⟨f,q,hS⟩ ⟨(z _ _).2 hS,H⟩
  ·have:=OL D l
   rw[H.1]at this
   cases this
 |succ fuel R=>
  intro f a w q m u G hS H
  refine⟨fun h=>(by rw[h]at u;cases u),fun j D=>?_⟩;by_cases l:j=i
  ·subst l;exact G.wpOp hi ⟨f,q,hS⟩ ⟨(z _ _).2 hS,H⟩
  ·have h1:=H.2 j (OL D l)
   obtain⟨s,oj,y,E⟩:=OG.1 D;have B:∀e∈oj.after,Region.binds .any e=true→e.on≠i:=fun e U V K=>by
    have h1:=E e U V;have O:=(OG.1 u).1;rw[K]at h1
    rcases MM i f.size with N|N
    ·simp[N]at O h1;rw[O]at h1;cases h1
    ·simp[Jp N]at h1
   have h2:=wpOp_putIf y (m j oj y l s B) (fun cs b=>r i oi cs b hi) (fun cs b=>r j oj cs b y) hQ G h1;have p:∀k ok,ops[k]?=some ok→k≠i→(f.setIfInBounds j true).getD k true=false→
     (∀e∈ok.after,Region.binds .any e=true→e.on≠i)→oi.apart ops ok=true:=fun k ok T J A I=>by
    refine m k ok T J ?_ I;by_cases C:j=k
    ·subst C;exact s
    ·rw[getD_set_ne true C]at A;exact A
   refine OU (fun W w' h3=>?_) h2;have M:(f.setIfInBounds i true).setIfInBounds j true=(f.setIfInBounds j true).setIfInBounds i true:=Jy _ _ (Na l);rw[M]at h3
   have F:=(z _ _).1 h3.2.1;exact⟨F,R (f.setIfInBounds j true) W w' (hR _ _ q l D) p (OL u (Na l)) h3.1 F h3.2.2⟩
end
structure Cls(L:List Oper)(l:Array Bool):Prop where
 size:l.size=L.length
 cl:∀k o,l.getD k false=true→L[k]?=some o→∀j∈AG o,l.getD j false=true
theorem Cls.put{L:List Oper}{l:Array Bool}(h:Cls L l){j:Nat}(r:j∈Region.ready .any L.toArray l):Cls L (l.setIfInBounds j true):=by
 obtain⟨_,o,q,s⟩:=OG.1 r;have a:L[j]?=some o:=by simpa using q
 refine⟨by simpa using h.size,fun k p f ho2 x m=>?_⟩;refine listed_set.2 (.inr ?_);rcases listed_set.1 f with⟨rfl,_⟩|f
 ·rw[a]at ho2;cases ho2
  exact AH s x m
 ·exact h.cl k p f ho2 x m
def SG(c e:Nat)(Sw Ss:World→Prop):Array Bool→World→Prop:=fun l w=>l.getD e false=false→Sw w∧(l.getD c false=false→Ss w)
theorem qW{l:Array Bool}{i c:Nat}(a:i≠c):(l.setIfInBounds i true).getD c false=l.getD c false:=by
 simp only[Jn];rw[Jv a]
theorem dI{c e i:Nat}(f:i≠c)(a:i≠e){Sw Ss:World→Prop}(l:Array Bool)(w:World):SG c e Sw Ss (l.setIfInBounds i true) w↔SG c e Sw Ss l w:=by
 unfold SG;rw[qW f,qW a]
def ig(L:List Oper)(c i:Nat):Bool:=(mark L (c+1) ((List.replicate (c+1) false).set c true)).getD i false
theorem ij{L:List Oper}{l:Array Bool}{c i:Nat}(h:ig L c i=true)(p:Cls L l)(hi:l.getD i false=false):l.getD c false=false:=by
 cases f:l.getD c false with
 |false=>rfl
 |true=>
  have:=yE (L:=L) (S:=fun x=>l.getD x false=true) (fun x o a k j m=>p.cl x o a k j m) (c+1) ((List.replicate (c+1) false).set c true) (fun x a=>by
   by_cases e:c=x
   ·subst e;exact f
   ·exfalso
    simp[KN,KZ,e,KY]at a
    split at a<;>simp at a) i h
  rw[hi]at this;cases this
def AU(L:List Oper)(c e:Nat):List (Nat×Nat)→Array Bool→Bool
 |[],a=>(Region.ready .any L.toArray a).isEmpty
 |(i,k)::r,a=>match k with
  |0=>decide (Region.ready .any L.toArray a=[i])&&decide (i≠e)&&AU L c e r (a.setIfInBounds i true)
  |1=>(Region.ready .any L.toArray a).contains i&&Region.free .any L.toArray a i&&decide (i≠c)&&decide (i≠e)&&(decide (L.length≤e)||ig L e i)&&AU L c e r (a.setIfInBounds i true)
  |2=>(Region.ready .any L.toArray a).contains i&&Region.free .any L.toArray a i&&decide (i≠c)&&decide (i≠e)&&(decide (L.length≤e)||ig L e i)&&ig L c i&&AU L c e r (a.setIfInBounds i true)
  |_=>decide (Region.ready .any L.toArray a=[i])&&decide (i=e)&&AU L c e r (a.setIfInBounds i true)
def Ja(P:Program)(ops:List Oper)(c e:Nat)(Sw Ss:World→Prop)(Q:Act→World→Prop):Bool→List (Nat×Nat)→Act→World→Prop
 |_,[],a,w=>Q a w
 |ph,(i,k)::r,a,w=>match k with
  |0=>∃o,ops[i]?=some o∧(if Region.wanted o (yielded ops.toArray a.tmps)=true then o.wp P a w (fun f w'=>Sw w'∧((ph||Nat.beq i c)=false→Ss w')∧Ja P ops c e Sw Ss Q (ph||Nat.beq i c) r f w') (fun e a w=>e=.normal∧Q a w)else Sw w∧((ph||Nat.beq i c)=false→Ss w)∧Ja P ops c e Sw Ss Q (ph||Nat.beq i c) r (a.put o.dst undef) w)
  |1=>∃o v,ops[i]?=some o∧YieldsIf P ops.toArray Sw o v a∧Ja P ops c e Sw Ss Q ph r (a.put o.dst v) w
  |2=>∃o v,ops[i]?=some o∧YieldsIf P ops.toArray Ss o v a∧Ja P ops c e Sw Ss Q ph r (a.put o.dst v) w
  |_=>r=[]∧∃o,ops[i]?=some o∧(if Region.wanted o (yielded ops.toArray a.tmps)=true then o.wp P a w Q (fun e a w=>e=.normal∧Q a w)else Q (a.put o.dst undef) w)
theorem Ji{P:Program}{ops:Array Oper}{S S':World→Prop}{o:Oper}{v:Value}{a:Act}(h:YieldsIf P ops S o v a)(hS:∀w,S' w→S w):YieldsIf P ops S' o v a:=
 h.imp (fun⟨h1,h2⟩=>⟨h1,fun w f=>h2 w (hS w f)⟩) id
theorem Jc{P:Program}{L:List Oper}{c e:Nat}{Sw Ss:World→Prop}{Q:Act→World→Prop}(T:Region.noSelect L.toArray=true):
  ∀(ord:List (Nat×Nat)) (ph:Bool) (f:Array Bool) (a:Act) (w:World),AU L c e ord f=true→Cls L f→(f.getD c false=ph)→SG c e Sw Ss f w→Ja P L c e Sw Ss Q ph ord a w→
   IZ P L.toArray (fun e a w=>e=.normal∧Q a w) (SG c e Sw Ss) ord.length f a w
 |[],ph,f,a,w,z,_,_,_,h=>by
  simp only[AU,Lf]at z
  exact⟨z,rfl,h⟩
 |(i,0)::r,ph,f,a,w,z,B,A,hS,⟨o,D,h⟩=>by
  simp only[AU,JG,Ow]at z
  obtain⟨⟨G,_⟩,I⟩:=z;have p:i∈Region.ready .any L.toArray f:=by rw[G];simp
  have V:=B.put p;have N:i<L.length:=(KV.1 D).1;have m:(f.setIfInBounds i true).getD c false=(ph||Nat.beq i c):=by
   cases e:Nat.beq i c with
   |true=>
    obtain rfl:=Mw e;have:=B.size;simp[Jn,show i<f.size by omega]
   |false=>
    have s:i≠c:=fun h=>by subst h;rw[Mt]at e;cases e
    rw[qW s,A,JS]
  refine⟨fun h0=>(by rw[h0]at p;cases p),fun j H=>?_⟩;rw[G,LV]at H
  subst H;have q:L.toArray[j]?=some o:=by simpa using D
  unfold wpOp;simp only[q];split
  ·rename_i C
   rw[OE C]at h
   exact .inl (Nb (fun U w' R=>⟨fun _=>⟨R.1,fun K=>R.2.1 (m▸K)⟩,Jc T r _ _ _ _ I V m (fun _=>⟨R.1,fun K=>R.2.1 (m▸K)⟩) R.2.2⟩) h)
  ·rename_i C
   rw[OD C]at h
   exact⟨fun _=>⟨h.1,fun K=>h.2.1 (m▸K)⟩,Jc T r _ _ _ _ I V m (fun _=>⟨h.1,fun K=>h.2.1 (m▸K)⟩) h.2.2⟩
 |(i,1)::r,ph,f,a,w,z,B,A,hS,⟨o,v,D,W,h⟩=>by
  simp only[AU,JG,Ow,JR]at z
  obtain⟨⟨⟨⟨⟨h1,h2⟩,s⟩,y⟩,O⟩,h3⟩:=z;have p:i∈Region.ready .any L.toArray f:=by simpa using h1
  have q:L.toArray[i]?=some o:=by simpa using D
  have m:(f.setIfInBounds i true).getD c false=ph:=by rw[qW s];exact A
  have N:i<L.length:=(KV.1 D).1;have M:f.getD i false=false:=by
   have:=(OG.1 p).1;have X:=B.size;rw[qX O0]at this
   simpa using this
  have F:∀l:Array Bool,Cls L l→l.getD i false=false→l.getD e false=false:=fun l u hi=>O.elim (fun h=>by
   have:=u.size;simp[Jn,Jp (show l.size≤e by omega)]) (fun h=>ij h u hi)
  exact I0 q (Np T) (fun _ _ _ h=>by cases h.1) (fun l=>Cls L l∧l.getD i false=false) (fun l j u E H=>⟨u.1.put H,by rw[qW E];exact u.2⟩) (fun l w=>dI s y l w) r.length f a w ⟨B,M⟩ (No q h2) p
   (Ji W fun w ⟨l,u,C⟩=>(C (F l u.1 u.2)).1) hS (Jc T r ph _ _ _ h3 (B.put p) m ((dI s y _ _).2 hS) h)
 |(i,2)::r,ph,f,a,w,z,B,A,hS,⟨o,v,D,W,h⟩=>by
  simp only[AU,JG,Ow,JR]at z
  obtain⟨⟨⟨⟨⟨⟨h1,h2⟩,s⟩,y⟩,O⟩,Y⟩,h3⟩:=z;have p:i∈Region.ready .any L.toArray f:=by simpa using h1
  have q:L.toArray[i]?=some o:=by simpa using D
  have m:(f.setIfInBounds i true).getD c false=ph:=by rw[qW s];exact A
  have N:i<L.length:=(KV.1 D).1;have M:f.getD i false=false:=by
   have:=(OG.1 p).1;have X:=B.size;rw[qX O0]at this
   simpa using this
  have F:∀l:Array Bool,Cls L l→l.getD i false=false→l.getD e false=false:=fun l u hi=>O.elim (fun h=>by
   have:=u.size;simp[Jn,Jp (show l.size≤e by omega)]) (fun h=>ij h u hi)
  exact I0 q (Np T) (fun _ _ _ h=>by cases h.1) (fun l=>Cls L l∧l.getD i false=false) (fun l j u E H=>⟨u.1.put H,by rw[qW E];exact u.2⟩) (fun l w=>dI s y l w) r.length f a w ⟨B,M⟩ (No q h2) p
   (Ji W fun w ⟨l,u,C⟩=>(C (F l u.1 u.2)).2 (ij Y u.1 u.2)) hS (Jc T r ph _ _ _ h3 (B.put p) m ((dI s y _ _).2 hS) h)
 |(i,k+3)::r,ph,f,a,w,z,B,A,hS,⟨hr,o,D,h⟩=>by
  subst hr;simp only[AU,JG,Ow]at z
  obtain⟨⟨G,rfl⟩,I⟩:=z;have p:i∈Region.ready .any L.toArray f:=by rw[G];simp
  have N:i<L.length:=(KV.1 D).1;have Z:(f.setIfInBounds i true).getD i false=true:=by
   have:=B.size;simp[Jn,show i<f.size by omega]
  refine⟨fun h0=>(by rw[h0]at p;cases p),fun j H=>?_⟩;rw[G,LV]at H
  subst H;have q:L.toArray[j]?=some o:=by simpa using D
  have J:∀U w',Q U w'→SG c j Sw Ss (f.setIfInBounds j true) w'∧IZ P L.toArray (fun e a w=>e=.normal∧Q a w) (SG c j Sw Ss) ([]:List (Nat×Nat)).length (f.setIfInBounds j true) U w':=fun U w' hq=>
   ⟨fun h=>(by rw[Z]at h;cases h),by simpa using I,rfl,hq⟩
  unfold wpOp;simp only[q];split
  ·rename_i C
   rw[OE C]at h
   exact .inl (Nb (fun U w' R=>J U w' R) h)
  ·rename_i C
   rw[OD C]at h
   exact J _ _ h
@[irreducible] def HP (P:Program) (ops:List Oper) (c e:Nat) (Sw Ss:World→Prop) (Q:Exit→Act→World→Prop) (ph:Bool) (ord:List (Nat×Nat)) (n:Nat) (σ:Sg) (w:World):Prop:=
  ∀a,Fr n σ a→Ja P ops c e Sw Ss (fun a w=>Q .normal a w) ph ord a w
section
variable {P:Program}{Q:Exit→Act→World→Prop}{n:Nat}{σ:Sg}{w:World}{L:List Oper}{c e:Nat}{Sw Ss:World→Prop}
theorem aH{id:Nat}(c e:Nat)(Sw Ss:World→Prop)(ord:List (Nat×Nat))(q:P.follows .mixedOrders=true)(f:(Region.noSelect L.toArray&&decide (ord.length=L.length)&&AU L c e ord (Array.replicate L.length false))=true)(m:Sw (drew w))(hS:Ss (drew w))(h:HP P L c e Sw Ss Q false ord n σ (drew w)):CW P (.region id L.toArray true) Q n σ w:=by
 unfold CW;unfold HP at h;intro a u
 simp only[JG,Ow]at f
 obtain⟨⟨p,r⟩,f⟩:=f;have l:∀k,(Array.replicate L.length false).getD k false=false:=fun k=>by
  simp[Jn,Jt];split<;>rfl
 have h1:=Jc (Q:=fun a w=>Q .normal a w) p ord false (Array.replicate L.length false) a (Go.Proofs.YtodmkmobdmcfbaaGreatDoor.drew w) f ⟨by simp,fun k o j=>by rw[l k]at j;cases j⟩ (l c) (fun _=>⟨m,fun _=>hS⟩) (h a u);rw[r]at h1
 have h2:(Code.region id L.toArray true).wp P (fun x a w=>x=.normal∧Q .normal a w) a w:=OY q (by simpa using I3 _ _ _ _ h1);exact OX h2 (fun x v w' ⟨s,hq⟩=>by subst s;exact hq)
theorem HP.nil{ph:Bool}(h:EX Q .normal n σ w):HP P L c e Sw Ss Q ph [] n σ w:=by
 unfold HP;unfold EX at h;exact fun a f=>h a f
def ah(P:Program)(ops:List Oper)(c e:Nat)(Sw Ss:World→Prop)(Q:Exit→Act→World→Prop)(ph:Bool)(ord:List (Nat×Nat)):Exit→Act→World→Prop:=
 fun x a w=>x=.normal∧Sw w∧(ph=false→Ss w)∧Ja P ops c e Sw Ss (fun a w=>Q .normal a w) ph ord a w
def GS(k:Nat):List (Nat×Bool)→List (Nat×Nat)
 |[]=>[]
 |(i,_)::r=>(i,k)::GS k r
def fY:List (Nat×Bool)→Bool
 |[]=>true
 |(_,b)::r=>b&&fY r
theorem Jb{Q:Act→World→Prop}{ph:Bool}{r:List (Nat×Nat)}{S:World→Prop}{k:Nat}(j:∀i r a w,Ja P L c e Sw Ss Q ph ((i,k)::r) a w↔∃o v,L[i]?=some o∧YieldsIf P L.toArray S o v a∧Ja P L c e Sw Ss Q ph r (a.put o.dst v) w):∀(s:List (Nat×Bool)) (a:Act) (w:World),fY s=true→I7 P L S (fun a w=>Ja P L c e Sw Ss Q ph r a w) s a w→Ja P L c e Sw Ss Q ph (GS k s++r) a w
 |[],a,w,_,h=>h
 |(i,true)::s,a,w,f,⟨o,v,m,l,h⟩=>(j i _ a w).2 ⟨o,v,m,l,Jb j s _ _ (by simpa[fY]using f) h⟩
 |(i,false)::s,a,w,f,_=>by simp[fY]at f
def dB(P:Program)(ops:List Oper)(c e:Nat)(Sw Ss:World→Prop)(Q:Exit→Act→World→Prop)(ph:Bool)(ord:List (Nat×Nat)):Exit→Act→World→Prop:=
 fun x a w=>x=.normal∧Ja P ops c e Sw Ss (fun a w=>Q .normal a w) ph ord a w
theorem HP.weak{ph:Bool}{r:List (Nat×Nat)}(s:List (Nat×Bool))(j:fY s=true)(h:HL P L Sw (dB P L c e Sw Ss Q ph r) s n σ w):HP P L c e Sw Ss Q ph (GS 1 s++r) n σ w:=by
 unfold HP;unfold HL at h
 intro a q
 have h2:I7 P L Sw (fun a w=>Ja P L c e Sw Ss (fun a w=>Q .normal a w) ph r a w) s a w:=by
  have f:∀(s:List (Nat×Bool)) (a:Act) (w:World),fY s=true→I7 P L Sw (fun a w=>dB P L c e Sw Ss Q ph r .normal a w) s a w→I7 P L Sw (fun a w=>Ja P L c e Sw Ss (fun a w=>Q .normal a w) ph r a w) s a w:=by
   intro s
   induction s with
   |nil=>intro a w _ h;exact h.2
   |cons x s l=>
    obtain⟨i,b⟩:=x;intro a w j h
    cases b with
    |false=>simp[fY]at j
    |true=>
     obtain⟨o,v,p,m,h⟩:=h;exact⟨o,v,p,m,l _ _ (by simpa[fY]using j) h⟩
  exact f s a w j (h a q)
 exact Jb (S:=Sw) (k:=1) (fun i r a w=>J1) s a w j h2
theorem HP.early{ph:Bool}{r:List (Nat×Nat)}(s:List (Nat×Bool))(j:fY s=true)(h:HL P L Ss (dB P L c e Sw Ss Q ph r) s n σ w):HP P L c e Sw Ss Q ph (GS 2 s++r) n σ w:=by
 unfold HP;unfold HL at h
 intro a q
 have h2:I7 P L Ss (fun a w=>Ja P L c e Sw Ss (fun a w=>Q .normal a w) ph r a w) s a w:=by
  have f:∀(s:List (Nat×Bool)) (a:Act) (w:World),fY s=true→I7 P L Ss (fun a w=>dB P L c e Sw Ss Q ph r .normal a w) s a w→I7 P L Ss (fun a w=>Ja P L c e Sw Ss (fun a w=>Q .normal a w) ph r a w) s a w:=by
   intro s
   induction s with
   |nil=>intro a w _ h;exact h.2
   |cons x s l=>
    obtain⟨i,b⟩:=x;intro a w j h
    cases b with
    |false=>simp[fY]at j
    |true=>
     obtain⟨o,v,p,m,h⟩:=h;exact⟨o,v,p,m,l _ _ (by simpa[fY]using j) h⟩
  exact f s a w j (h a q)
 exact Jb (S:=Ss) (k:=2) (fun i r a w=>J1) s a w j h2
theorem bd{ph:Bool}{r:List (Nat×Nat)}(h:HP P L c e Sw Ss Q ph r n σ w):EX (dB P L c e Sw Ss Q ph r) .normal n σ w:=by
 unfold EX;unfold HP at h
 exact fun a f=>⟨rfl,h a f⟩
theorem HP.mut{ph:Bool}{i:Nat}{r:List (Nat×Nat)}{o:Oper}(k:zU L i=some o)(h:WL P L (ah P L c e Sw Ss Q (ph||Nat.beq i c) r) [o] n σ w):HP P L c e Sw Ss Q ph ((i,0)::r) n σ w:=by
 unfold HP;unfold WL at h
 intro a p
 rw[zV]at k
 have h2:=h a p;simp only[wpList]at h2
 refine⟨o,k,?_⟩;split
 ·rename_i f
  rw[OE f]at h2
  rcases h2 with h2|⟨_,m⟩
  ·refine Nb (fun s w' q=>q.2) (Je (fun x a w j hf=>absurd hf.1 j) h2)
  ·obtain⟨_,_,l⟩:=m
   exact absurd l.1 O3
 ·rename_i f
  rw[OD f]at h2
  exact h2.2
theorem ba{ph:Bool}{r:List (Nat×Nat)}(f:Sw w)(j:ph=false→Ss w)(h:HP P L c e Sw Ss Q ph r n σ w):EX (ah P L c e Sw Ss Q ph r) .normal n σ w:=by
 unfold EX;unfold HP at h
 exact fun a k=>⟨rfl,f,j,h a k⟩
theorem HP.last{ph:Bool}{i:Nat}{o:Oper}(k:zU L i=some o)(h:WL P L (fun x a w=>x=.normal∧Q .normal a w) [o] n σ w):HP P L c e Sw Ss Q ph [(i,3)] n σ w:=by
 unfold HP;unfold WL at h
 intro a p
 rw[zV]at k
 have h2:=h a p;simp only[wpList]at h2
 refine⟨rfl,o,k,?_⟩;split
 ·rename_i f
  rw[OE f]at h2
  rcases h2 with h2|⟨_,m⟩
  ·refine Nb (fun r w' q=>q.2) (Je (fun x a w j hf=>absurd hf.1 j) h2)
  ·obtain⟨_,_,l⟩:=m
   exact absurd l.1 O3
 ·rename_i f
  rw[OD f]at h2
  exact h2.2
theorem HP.app1{α:Type}[Rep α]{x0:α}{bytes:Nat}{F:Nat→Prop}{i I d d1:Nat}{ty ty1:TypeId}{pos pos1:String}{af af1:Array Edge}{g g1:Option (Nat×Bool)}{t et:TypeId}{x y:Operand}{rest:List (Nat×Nat)}{v u:Value}{xs:List α}{yv:α}{B:Nat}{wc:World}
  (ho1:zU L I=some ⟨some d1,.buildSlice t 1 [(0,y)].toArray,ty1,pos1,af1,g1⟩) (N:zU L i=some ⟨some d,.call ⟨.builtin .append,#[x,.tmp d1],#[t,t]⟩,ty,pos,af,g⟩)
  (E:gd L σ ⟨some d1,.buildSlice t 1 [(0,y)].toArray,ty1,pos1,af1,g1⟩=some true) (H:Nat.ble (d1+1) n=true)
  (G:∀u,gd L ((d1,.slice u 1 1)::σ) ⟨some d,.call ⟨.builtin .append,#[x,.tmp d1],#[t,t]⟩,ty,pos,af,g⟩=some true) (hd:Nat.ble (d+1) n=true)
  (J:ev σ y=some u) (K:∀u,ev ((d1,.slice u 1 1)::σ) x=some v) [V:IsS P t et] [U:IsT P et α] [T:IsZ P et x0 bytes] (q:Own wc B et F v xs) (M:Rd wc F u yv) (R:B≤wc.heap.size) (hF:∀b,F b→b<wc.heap.size)
  (A:sz α≤16777216) (O:xs.length+1≤maxLen) (r:(xs.length+1)*bytes≤140737488355328) (hS:∀w',wc.grownBy w' v.ownBlock→Sw w')
  (h:∀m w' p,Own w' B et F m (xs++[yv])→wc.grownBy w' v.ownBlock→(∀g,m.ownBlock=some g→v.ownBlock=some g∨wc.heap.size≤g)→HP P L c e Sw Ss Q true rest n ((d,m)::(d1,.slice p 1 1)::σ) w'):
  HP P L c e Sw Ss Q true ((I,0)::(i,0)::rest) n σ wc:=by
 refine HP.mut ho1 ?_;refine WL.lit (vs:=[u]) (ys:=[yv]) E H rfl (by simp[Fq,nK,J]) rfl ⟨M,trivial⟩ (by simpa using A) hF (fun z ho1 a=>?_);have f:wc.heap.size≤z.heap.size:=a.size;have l:Own z B et F v xs:=q.kept a (fun _ _ h=>by cases h) fun b r=>⟨hF b r,fun h=>by cases h⟩
 have g2:wc.grownBy z v.ownBlock:=⟨a.os,a.tape,a.output,a.size,fun k s _=>a.block k s (fun h=>by cases h)⟩;refine WL.nil (ba (ph:=true) (hS _ g2) (fun h=>by cases h) ?_);refine HP.mut N ?_;refine WL.app (ys:=[yv]) (G _) hd (K _) pT l ho1.src (MH R f) (fun b r=>MK (hF b r) f) (by simpa using O) (by simpa using r) (fun m w' C j hnb=>?_);have g3:wc.grownBy w' v.ownBlock:=⟨j.os.trans a.os,j.tape.trans a.tape,j.output.trans a.output,MH f j.size,fun k s D=>(j.block k (MK s f) D).trans (a.block k s (fun h=>by cases h))⟩;exact WL.nil (ba (ph:=true) (hS _ g3) (fun h=>by cases h) (h m w' _ C g3 (fun g G=>(hnb g G).imp id (fun h=>MH f h))))
end
section
variable {P:Program}{Q:Exit→Act→World→Prop}{n:Nat}{σ:Sg}{wc:World}{L:List Oper}{S:World→Prop}{ord:List (Nat×Bool)}{i d:Nat}{ty:TypeId}{pos:String}{af:Array Edge}{g:Option (Nat×Bool)}{t:TypeId}{x:Operand}{b o:Nat}
theorem cj{v:Value}(s:∀k,S k→∃e cells,Blk k b e cells∧zY cells o=some v)(p:zU L i=some ⟨some d,.load t x,ty,pos,af,g⟩)(q:gd L σ ⟨some d,.load t x,ty,pos,af,g⟩=some true)(hd:Nat.ble (d+1) n=true)(l:ev σ x=some (.pointer (some ⟨b,o,none⟩)))[u:IsC P t 1 false]
  (h:HL P L S Q ord n ((d,v)::σ) wc):HL P L S Q ((i,true)::ord) n σ wc:=by
 refine HL.run p q hd (fun a r w' f=>?_) h;obtain⟨e,cells,j,m⟩:=s w' f;simp[execOp,r.ev l,DS (P:=P) (t:=t) w' j m]
end
theorem Dg{fn:Func}{a u s:Nat}{t:TypeId}(h:fn.results=#[.cell a t,.tmp u,.tmp s])(tmps:Array Value)(P:Program)(w:World){p:Addr}{v:Value}(b:tmps.getD a undef=.pointer (some p))(c:(loadVar t p).run P w=.ok v w):
  (results fn tmps).run P w=.ok (.tuple ⟨[v,tmps.getD u undef,tmps.getD s undef]⟩) w:=by
 simp only[Jn]at b⊢
 simp[results,h,b,asAddr,c]
theorem bl{P:Program}{n:Nat}{σ:Sg}{w:World}{fn:Func}{a b u s:Nat}{t e:TypeId}{cells:List Value}{k:Nat}{x y:Value}{R:Value→World→Prop}(o:fn.results=#[.cell a t,.tmp u,.tmp s])(r:fnd σ a=some (Pr b))(g:fnd σ u=some x)(m:fnd σ s=some y)[p:IsC P t k true](q:Blk w b e cells)(l:xz cells=k)(h:R (.tuple ⟨[.agg cells.toArray,x,y]⟩) w):
  EX (bodyPost P fn fun e w'=>∃v,e=.returned v∧R v w') .ret n σ w:=by
 unfold EX;intro ac c
 refine On (Dg o _ _ _ (c.slot a _ r) (v:=.agg cells.toArray) ?_) c.defers ⟨_,by rw[c.slot u x g,c.slot s y m],h⟩;rw[xA]at l
 have d:=OM (P:=P) w ⟨b,0,none⟩ cells (fun j u g=>by rw[Od,M8];exact q.cell g);obtain⟨i,dd,h1,h2,h3,h4⟩:=p.ok;have f:(isAgg t).run P w=.ok true w:=by
  unfold isAgg;rw[Nr,OP h3 w,←h4];cases dd<;>rfl
 rw[l]at d
 simp[loadVar,f,sizeOf,typeInfo,h1,h2,d]
def bR(W:cN)(A:cD)(s l:List Int)(is:Bool)(err:Int):Prop:=
 (err≠0∧is=false∧s=[]∧l=[]∧(ju W=0→jj A=0→False))∨(err=0∧ju W=0∧jj A=0∧((is=false∧s=[]∧l=[]∧¬aP W A)∨(is=true∧aP W A∧PathE W A s l)))
def ol(sb mb:Nat)(lv nv:Value):Nat→Prop:=fun b=>b=sb∨b=mb∨lv.ownBlock=some b∨nv.ownBlock=some b
structure FndI(w8 w:World)(B:Nat)(e:EA)(sb mb:Nat)(lv nv fv:Value)(fr:List Int)(vs:List Raw)(ps:List de)(nx:List (List Int)):Prop where
 em:Em w B e sb mb lv nv fv ps
 run:RunE (pC e.W e.A) (y0 e.W e.A) (FO e.W e.A) ps fr nx
 hn:Own w w8.heap.size 39 cZ nv vs
 inn:InnR w (ol sb mb lv nv) vs nx
 hf:∃fo fc,fv=.slice fo fr.length fc∧Sl w (Fz w (ol sb mb lv nv)) fo fc fr
 chg:Chg (fun b=>b=sb∨b=mb) w8 w
 lvn:∀g,lv.ownBlock=some g→w8.heap.size≤g
 dis:∀g,nv.ownBlock=some g→lv.ownBlock≠some g
 rows:∀r∈nx,r.length≤1099511627776
theorem o9(w:World)(b e:Nat){a:Option Addr}{c:Nat}{part:List Int}{p:Int}{k:Nat}(j:Blk w b 39 [.slice a part.length c])(g:Blk w e 3 [Pq p])(f:Sl w (c7 w) a c part)(d:k<part.length):
  Rt Tryz.prog 84 [Pq (k:Int),Pr b,Pr e].toArray w fun v w'=>v=.bool (decide (part.getD k 0=p))∧Ext w w':=by
 refine dF Tryz.func84 Tryz.ntmps84 rfl rfl ?_;refine Q7 ?_;refine di rfl rfl rfl rfl rfl Pe f d rfl O_ (fun q=>?_);refine Rp ?_;refine QL.nil (fun i h=>?_);refine PJ ?_;refine be rfl rfl ⟨?_,h⟩;rw[IJ d];rfl
set_option maxHeartbeats 4000000 in
theorem pg(w0:World){va:Value}{W:cN}{A:cD}{o1 o2 o3 o4:Option Addr}{c1 c2 c3 c4:Nat}(h1:Sl w0 (c7 w0) o1 c1 W.1)(h2:Sl w0 (c7 w0) o2 c2 W.2.1)(h3:Sl w0 (c7 w0) o3 c3 W.2.2.1)(h4:Sl w0 (c7 w0) o4 c4 W.2.2.2)(ha:AutoAt w0 (c7 w0) va A)
  (sW:∀j,(W.2.1.getD j []).length≤1048576) (sA:∀j,(A.2.1.getD j []).length≤1048576) (tW:W.1.length≤1048576) (tA:A.1.length≤1048576):
  Rt Tryz.prog 34 [IW o1 c1 o2 c2 o3 c3 o4 c4 W.1.length W.2.1.length W.2.2.1.length W.2.2.2.length,va].toArray w0 fun v w'=>(∃s l is err so sc lo lc,v=.tuple ⟨[BB so sc lo lc s l,.bool is,Pq err]⟩∧Sl w' (c7 w') so sc s∧Sl w' (c7 w') lo lc l∧bR W A s l is err)∧Ext w0 w':=by
 obtain⟨k1,d1,k2,d2,k3,d3,k4,d4,k5,d5,rfl,g1,g2,g3,g4,g5⟩:=ha.ok;refine dE Tryz.func34 Tryz.ntmps34 rfl rfl ?_;have C:=Ext.refl w0;refine Pu ?_;refine dX rfl rfl rfl fun w1 L e1=>?_
 have C:=C.trans e1;skip;refine dX rfl rfl rfl fun w2 P e2=>?_
 have L:=L.ext e2;have C:=C.trans e2;skip;refine WL.alloc rfl rfl (fun w3 N e3=>?_);have L:=L.ext e3;have P:=P.ext e3;have C:=C.trans e3;have y1:=e1.size;have y2:=e2.size;have y3:=N.lt;have l2:=L.lt;have l3:=P.lt;refine Q0 ?_;refine WL.call rfl rfl rfl (Is w3 (h1.up C) (h2.up C) h3.len63 (h4.up C)) ?_;rintro _ w4 ⟨rfl,e4⟩
 have L:=L.ext e4;have P:=P.ext e4;have N:=N.ext e4;have C:=C.trans e4;have y4:=e4.size;have nilS:=fun(w:World)=>Sl.zero (α:=Int) w (c7 w)
 refine Qm ?_;apply CW.cond rfl<;>intro h
 ·have h:ju W≠0:=by simpa using h
  refine Pu ?_;refine WL.build (parts:=[]) rfl rfl rfl rfl ?_;refine Ra ?_;refine WL.st rfl rfl rfl N rfl rfl Pk (fun Y hb5 hg5=>?_);have hE5:Ext w0 Y:=C.grown hg5 C.size Pd;refine PK ?_;exact bl rfl rfl rfl rfl hb5 rfl ⟨⟨[],[],false,_,_,_,_,_,rfl,nilS _,nilS _,.inl ⟨h,rfl,rfl,rfl,fun h'=>absurd h' h⟩⟩,hE5⟩
 have hW:ju W=0:=by simpa using h
 clear h;refine QC ?_;refine WL.call rfl rfl rfl (fH w4 (A:=A) ⟨k1,d1,k2,d2,k3,d3,k4,d4,k5,d5,rfl,g1.up C,g2.up C,g3.up C,g4.up C,g5.up C⟩) ?_;rintro _ Y ⟨rfl,e5⟩
 have L:=L.ext e5;have P:=P.ext e5;have N:=N.ext e5;have C:=C.trans e5;have y5:=e5.size;refine Qm ?_;apply CW.cond rfl<;>intro h
 ·have h:jj A≠0:=by simpa using h
  refine Pu ?_;refine WL.build (parts:=[]) rfl rfl rfl rfl ?_;refine Ra ?_;refine WL.st rfl rfl rfl N rfl rfl Pk (fun w6 hb5 hg5=>?_);have hE5:Ext w0 w6:=C.grown hg5 C.size Pd;refine PK ?_;exact bl rfl rfl rfl rfl hb5 rfl ⟨⟨[],[],false,_,_,_,_,_,rfl,nilS _,nilS _,.inl ⟨h,rfl,rfl,rfl,fun _ h'=>absurd h' h⟩⟩,hE5⟩
 have hA:jj A=0:=by simpa using h
 clear h;have okA:=jl hA;obtain⟨w600,w80,wlb,wst,wnx,wfr⟩:=jV hW;refine QC ?_;refine fd (k:=173) rfl rfl (fun hnum=>?_);have e6:Ext Y (Y.alloc (.map #[] 0)):=Ext.alloc Y _;generalize Y.alloc (.map #[] 0)=w6 at*
 refine WL.build rfl rfl rfl rfl ?_;refine dX rfl rfl rfl fun Z hsb e7=>?_
 have lm:=hnum.lt;have L:=(L.ext e6).ext e7;have P:=(P.ext e6).ext e7;have N:=(N.ext e6).ext e7;have hnum:=hnum.ext e7;have hE7:=(C.trans e6).trans e7;have y6:=e6.size;have y7:=hsb.lt;obtain⟨e,heW,heA,hein,hecells⟩:∃e:EA,e.W=W∧e.A=A∧EIn Y (c7 Y) e∧∀mb lv nv fv,mC e mb lv nv fv=[.slice o1 W.1.length c1,.slice o2 W.2.1.length c2,.slice o3 W.2.2.1.length c3,.slice o4 W.2.2.2.length c4,.slice k1 A.1.length d1,.slice k2 A.2.1.length d2,.slice k3 A.2.2.1.length d3,.slice k4 A.2.2.2.1.length d4,.slice k5 A.2.2.2.2.length d5,.map (some mb),lv,nv,fv]:=
  ⟨⟨o1,c1,o2,c2,o3,c3,o4,c4,k1,d1,k2,d2,k3,d3,k4,d4,k5,d5,W,A⟩,rfl,rfl,⟨h1.up C,h2.up C,h3.up C,h4.up C,g1.up C,g2.up C,g3.up C,g4.up C,g5.up C⟩,fun _ _ _ _=>rfl⟩
 subst heW heA;have hEm7:Em Z Y.heap.size e w6.heap.size Y.heap.size (.slice none 0 0) (.slice none 0 0) (.slice none 0 0) []:=
  ⟨by rw[hecells];exact hsb,hnum,Own.nil,hein.to (fun b o=>(e6.trans e7).block b o) (fun b h=>h),⟨y6,MF _⟩,by omega,(fun g i=>by cases i),List.Pairwise.nil,(fun p hp=>by cases hp),⟨w600,okA.n,wlb,okA.mu,okA.no⟩⟩
 have hG1:=h1.up C;have hG2:=h2.up C;have hK1:=g1.up C;have hK2:=g2.up C;have lb4:=N.lt;clear hecells hein hsb hnum h1 h2 h3 h4 g1 g2 g3 g4 g5 ha;have e57:=e6.trans e7;clear e6 e7;have U:w0.heap.size<Y.heap.size∧w1.heap.size<Y.heap.size∧w2.heap.size<Y.heap.size:=by omega
 generalize hBn:Y.heap.size=B at*
 generalize hsbn:w6.heap.size=sb at*
 have hB7:B≤Z.heap.size:=by omega
 have I:∀b,b<B→Z.heap[b]?=Y.heap[b]?:=fun b o=>e57.block b O0
 refine QM ?_;refine WL.call rfl rfl rfl (kU Z hEm7 hB7 (hG1.mono (w':=Z) (fun b o=>I b (by rw[←hBn];exact o)) (fun b o=>by rw[←hBn];exact o)) (hK1.mono (w':=Z) (fun b o=>I b (by rw[←hBn];exact o)) (fun b o=>by rw[←hBn];exact o)) wst okA.st tW tA) ?_;rintro fv w8 ⟨lv,d⟩
 obtain⟨fo,fc,rfl⟩:=d.own.val
 change CrI Z w8 B e sb B (.slice none 0 0) lv (.slice fo (CB (pC e.W e.A) (FO e.W e.A) [] []).2.length fc) (.slice none 0 0) (.slice none 0 0) (CB (pC e.W e.A) (FO e.W e.A) [] []).1 (CB (pC e.W e.A) (FO e.W e.A) [] []).2 at d
 have z8:=d.chg.size;have J:=d.em.blk;have hlt8:=fun g i=>d.em.lo.lt g i
 have hof8:=fun g i=>d.own.lt g i
 have hnl8:=d.em.nl;have hlv8:∀g,lv.ownBlock=some g→Z.heap.size≤g:=fun g i=>(d.new g i).resolve_left (fun h=>by cases h)
 have hC8:Chg (fun b=>b=sb∨b=B) Z w8:=d.chg.wk (fun b h=>by
  rcases h with h|h|h
  ·exact .inl h
  ·exact .inr h
  ·cases h)
 refine Re ?_;refine WL.st rfl rfl rfl J rfl rfl Pk (fun w9 X G=>?_);have z9:=G.size;have hC9:Chg (fun b=>b=sb∨b=B) Z w9:=hC8.grown G Pi;have hPW:dc e.W:=jv hW;have hold9:∀{w:World},Chg (fun b=>b=sb∨b=B) Z w→∀b,b<B→w.heap[b]?=Y.heap[b]?:=fun {w} hC b o=>(hC.block b O0 O0).trans (I b o)
 have hstart:=RunE.init (fit:=pC e.W e.A) (next:=y0 e.W e.A) (start:=FO e.W e.A);have hI0:FndI Z w9 B e sb B lv (.slice none 0 0) (.slice fo (CB (pC e.W e.A) (FO e.W e.A) [] []).2.length fc) (CB (pC e.W e.A) (FO e.W e.A) [] []).2 [] (CB (pC e.W e.A) (FO e.W e.A) [] []).1 []:=by
  refine⟨⟨X,d.em.num.kept G Ph,d.em.lo.keptN G (fun g i e=>(hnl8 g i).1 (Nj e)),d.em.inn.to (fun b o=>G.block b O0 Ph) Pe,d.em.ge,d.em.ne,hnl8,d.em.nd,d.em.ins,d.em.ok⟩,hstart,Own.nil,InnR.nil,?_,hC9,hlv8,(fun g i=>by cases i),(fun r hr=>by cases hr)⟩;have ho9:=d.own.keptN G (fun g i e=>by have:=(hof8 g i).1;have:=Nj e;omega);obtain⟨fo',fc',e,hsl⟩:=ho9.slF (F':=Fz w9 (ol sb B lv (.slice none 0 0))) Pc (fun g i=>⟨(ho9.lt g i).2.1,fun h=>by
   have h1:=(hof8 g i).1;rcases h with h|h|h|h
   ·omega
   ·omega
   ·exact d.dis g i h
   ·cases h⟩)
  exact⟨fo',fc',e,hsl⟩
 generalize hfrn:(CB (pC e.W e.A) (FO e.W e.A) [] []).2=fr at*
 generalize (CB (pC e.W e.A) (FO e.W e.A) [] []).1=ps0 at*
 clear d J hlt8 hof8 hnl8 hlv8 hC8 X G hC9 hstart;have z79:Z.heap.size≤w9.heap.size:=by omega
 clear z8 z9 w8;refine Qc ?_;refine CW.loop (S:=Nat×Value×Value×List Raw×List de×List (List Int)) (fun s=>[(2,Pr w0.heap.size),(3,Pr w1.heap.size),(4,Pr w2.heap.size),(9,Pr sb),(10,Pq s.1)])
  (fun s w=>FndI Z w B e sb B s.2.1 s.2.2.1 (.slice fo fr.length fc) fr s.2.2.2.1 s.2.2.2.2.1 s.2.2.2.2.2∧s.2.2.2.2.2.length=s.1) (fun s=>1228801 -s.1) (0,lv,.slice none 0 0,[],ps0,[]) OZ ⟨hI0,rfl⟩ ?_
 clear hI0 hEm7;rintro⟨n,lv,nv,vs,ps,nx⟩ w ⟨t,hnl⟩
 dsimp only at t hnl⊢
 have M:=t.em.blk;have hpl:=t.em.len;have hle:=t.run.le;have hcw:=hold9 t.chg;have hb2w:Blk w _ _ _:=((hcw _ U.1).trans (I _ U.1).symm).trans L;have hb3w:Blk w _ _ _:=((hcw _ U.2.1).trans (I _ U.2.1).symm).trans P;have hb4w:Blk w _ _ _:=((hcw _ U.2.2).trans (I _ U.2.2).symm).trans N;have zw:=t.chg.size;obtain⟨lo,lc,rfl⟩:=t.em.lo.val;obtain⟨no,nc,rfl⟩:=t.hn.val;refine Qz ?_;apply CW.cond rfl<;>intro h
 ·have hn':n<ps.length:=by simp at h;omega
  clear h;have hpn:ps.getD n (0,0)=ps[n]:=by rw[KN,KT hn'];rfl
  have R:=t.em.ins _ (K8 hn');obtain⟨x,hx⟩:=J2 R.1.1;obtain⟨y,hy⟩:=J2 R.2.1;have hxl:x<e.W.2.1.length:=by have:=R.1.2;omega
  have hyl:y<e.A.2.1.length:=by have:=R.2.2;omega
  have hrX:e.W.2.1.getD x []=e.W.2.1[x]:=II hxl;have hrY:e.A.2.1.getD y []=e.A.2.1[y]:=II hyl;have hnext:y0 e.W e.A (ps.getD nx.length (0,0))=Bj e.W.2.1[x] e.A.2.1[y]:=by
   rw[hnl,hpn];unfold y0;rw[hx,hy,J7,J7,hrX,hrY]
  have Q:=t.run.step O0;rw[hnext]at Q
  have hsX:=sW x;rw[hrX]at hsX
  have hsY:=sA y;rw[hrY]at hsY
  have hokX:Ax e.W.2.1.length e.W.2.1[x]:=(wnx _ (K8 hxl)).2;have hokY:Ax e.A.2.1.length e.A.2.1[y]:=okA.nx _ (K8 hyl);have hD:Ext w (drew w):=Ext.drew w;have zd:(drew w).heap.size=w.heap.size:=rfl;have hblkd:=M.ext hD;have hb2d:=hb2w.ext hD;have hb3d:=hb3w.ext hD;obtain⟨lo',lc',el,hlsl⟩:=(t.em.lo.extN hD).oldN.sl;obtain⟨rfl,_,rfl⟩:=Oc el;obtain⟨lb,off,rfl,hFb,hc1,hc2⟩:=hlsl.pairAt n hn';rw[hx]at hc1
  rw[hy]at hc2
  have hG2d:=hG2.mono (w':=drew w) (fun b o=>(hD.block b (by have h':b<Y.heap.size:=o;omega)).trans (hcw b (by rw[←hBn];exact o))) (F':=fun b=>b<B) (fun b o=>by rw[←hBn];exact o);have hK2d:=hK2.mono (w':=drew w) (fun b o=>(hD.block b (by have h':b<Y.heap.size:=o;omega)).trans (hcw b (by rw[←hBn];exact o))) (F':=fun b=>b<B) (fun b o=>by rw[←hBn];exact o);have hKs:∀u,(fun z:World=>z=drew w) u→u.heap[sb]?=(drew w).heap[sb]?:=fun u hu=>by rw[hu]
  have hKb2:∀u,(fun z:World=>z=drew w) u→u.heap[w0.heap.size]?=(drew w).heap[w0.heap.size]?:=fun u hu=>by rw[hu]
  have hKb3:∀u,(fun z:World=>z=drew w) u→u.heap[w1.heap.size]?=(drew w).heap[w1.heap.size]?:=fun u hu=>by rw[hu]
  have hKK:∀(F:Nat→Prop) z,(fun x:World=>x=drew w) z→∀b,F b→z.heap[b]?=(drew w).heap[b]?:=fun F z hz b _=>by rw[hz]
  have hSE:∀z,(fun x:World=>x=drew w) z→Ext (drew w) z:=fun z hz=>by rw[hz];exact Ext.refl _
  refine Q6 ?_;refine aH 30 35 (fun z:World=>∃l',Blk z sb 170 (mC e B l' (.slice no vs.length nc) (.slice fo fr.length fc))) (fun z:World=>z=drew w)
   (GS 1 [(0,true),(1,true),(2,true),(3,true),(4,true)]++(GS 2 [(5,true),(6,true),(7,true),(8,true),(9,true),(10,true),(11,true),(12,true),(13,true),(14,true),(15,true),(16,true),(17,true),(18,true),(19,true),(20,true),(21,true),(22,true),(23,true),(24,true),(25,true),(26,true),(27,true),(28,true),(29,true)]++[(30,0),(31,0),(32,0),(33,1),(34,1),(35,3)])) mixed O1 ⟨_,hblkd⟩ rfl ?_
  refine HP.weak [(0,true),(1,true),(2,true),(3,true),(4,true)] rfl ?_;refine RD ?_;refine cj (v:=.slice no vs.length nc) (fun z hz=>by obtain⟨l',o⟩:=hz;exact⟨_,_,o,rfl⟩) rfl rfl rfl rfl ?_;refine RI ?_;refine bd ?_;refine HP.early [(5,true),(6,true),(7,true),(8,true),(9,true),(10,true),(11,true),(12,true),(13,true),(14,true),(15,true),(16,true),(17,true),(18,true),(19,true),(20,true),(21,true),(22,true),(23,true),(24,true),(25,true),(26,true),(27,true),(28,true),(29,true)] rfl ?_;refine RD ?_;refine ca (α:=de) rfl rfl rfl rfl rfl O0 O0 ?_;refine Ry ?_;refine HL.load (α:=Int) (F:=cZ) hSE rfl rfl rfl rfl (by have:=hFb;exact this) Pc hc1 rfl ?_;refine bY (k:=x) (F:=fun b=>b<B) (hKK _) rfl rfl rfl rfl rfl rfl rfl hG2d hxl O_ (fun u q hu=>?_);obtain⟨ro,rc,rfl,hrow⟩:=hu.sl;clear hu;refine RD ?_;refine ca (α:=de) rfl rfl rfl rfl rfl O0 O0 ?_;refine Ry ?_;refine HL.load (α:=Int) (F:=cZ) hSE rfl rfl rfl rfl (by have:=hFb;exact this) Pc hc2 rfl ?_;refine bY (k:=y) (F:=fun b=>b<B) (hKK _) rfl rfl rfl rfl rfl rfl rfl hK2d hyl O_ (fun u q hu=>?_);obtain⟨so,sc,rfl,hsow⟩:=hu.sl;clear hu;refine RI ?_;refine bd ?_;refine HP.mut rfl (WL.call rfl rfl rfl (kU (drew w) (t.em.ext O0 hD) O0 hrow hsow hokX hokY hsX hsY) ?_);rintro rv w8 ⟨lv',d⟩
  obtain⟨uo,uc,rfl⟩:=d.own.val;rw[show pB e=pC e.W e.A from rfl]at d⊢
  have hput:=CC (fit:=pC e.W e.A) (Bj e.W.2.1[x] e.A.2.1[y]) ps [] t.em.nd;have hplen:=hput.len;rw[Bm]at hplen
  have hmulX:=MR hsX hsY;generalize hP:CB (pC e.W e.A) (Bj e.W.2.1[x] e.A.2.1[y]) ps []=pq at*
  have J:=d.em.blk;have z8:=d.chg.size;have lsb:=M.lt;have D:=fun g i=>t.hn.lt g i
  have hllt:=fun g i=>t.em.lo.lt g i
  have hlu:=fun g i=>d.own.lt g i
  have hlc:=fun g i=>d.em.lo.lt g i
  have hnle:=d.em.nl;have hvl:=t.inn.len;refine WL.nil (ba (ph:=true) ⟨_,J⟩ (fun h=>by cases h) ?_);have hn8:Own w8 Z.heap.size 39 cZ (.slice no vs.length nc) vs:=(t.hn.extN hD).chg d.chg (fun b o hs=>by
   have hx:=D b o;rcases hs with h|h|h
   ·omega
   ·omega
   ·exact t.dis b o h)
  refine HP.app1 (α:=Raw) (F:=cZ) (bytes:=24) (yv:=(⟨.slice uo pq.2.length uc⟩:Raw)) rfl rfl rfl rfl O_ rfl rfl O_ hn8 (Rd.mkRaw _ _ _ rfl) O0 Pc O2 O5 O0
   (fun z hz=>⟨_,J.kept hz (fun e=>by have:=D sb e.symm;omega)⟩) (fun nv' w9 q9 ho9 G hnb9=>?_)
  obtain⟨no',nc',rfl⟩:=ho9.val;have X:=J.kept G (fun e=>by have:=D sb e.symm;omega);have z9:=G.size;refine HP.weak (r:=[(35,3)]) [(33,true),(34,true)] rfl ?_;refine RM ?_;refine bd ?_;refine HP.last rfl (WL.st rfl rfl rfl X rfl rfl Pk (fun w10 hblk10 T=>WL.nil (bu ?_)));have z10:=T.size;have hlv':∀g,lv'.ownBlock=some g→Z.heap.size≤g:=fun g i=>(d.new g i).elim (t.lvn g) (fun h=>by omega)
  have hdis8:∀g,(Value.slice no vs.length nc).ownBlock=some g→lv'.ownBlock≠some g:=fun g i hl=>(d.new g hl).elim (t.dis g i) (fun h=>by have:=(D g i).2.1;omega)
  have hM68:∀b,ol sb B lv' (.slice no vs.length nc) b→ol sb B (.slice (some ⟨lb,off,none⟩) ps.length lc) (.slice no vs.length nc) b∨w.heap.size≤b:=fun b h=>by
   rcases h with h|h|h|h
   ·exact .inl (.inl h)
   ·exact .inl (.inr (.inl h))
   ·exact(d.new b h).imp (fun h=>.inr (.inr (.inl h))) id
   ·exact .inl (.inr (.inr (.inr h)))
  have hC68:Chg (ol sb B (.slice (some ⟨lb,off,none⟩) ps.length lc) (.slice no vs.length nc)) w w8:=(Chg.of_ext _ hD).trans (d.chg.wk (fun b h=>by
   rcases h with h|h|h
   ·exact .inl h
   ·exact .inr (.inl h)
   ·exact .inr (.inr (.inl h))))
  have hC810:Chg (ol sb B lv' (.slice no vs.length nc)) w8 w10:=((Chg.of_grown G).wk (fun b h=>.inr (.inr (.inr h)))).grown T Pi;have hM810:∀b,ol sb B lv' (.slice no' (vs++[(⟨.slice uo pq.2.length uc⟩:Raw)]).length nc') b→ol sb B lv' (.slice no vs.length nc) b∨w8.heap.size≤b:=fun b h=>by
   rcases h with h|h|h|h
   ·exact .inl (.inl h)
   ·exact .inl (.inr (.inl h))
   ·exact .inl (.inr (.inr (.inl h)))
   ·exact(hnb9 b h).imp (fun h=>.inr (.inr (.inr h))) id
  have hrow8:Rd w8 (Fz w8 (ol sb B lv' (.slice no vs.length nc))) (.slice uo pq.2.length uc) pq.2:=
   d.own.rd.mono Pj (fun g i=>i.elim (fun h=>h.elim) (fun i=>⟨(hlu g i).2.1,fun h=>by
    have h1:=(hlu g i).1;rcases h with h|h|h|h
    ·omega
    ·omega
    ·exact d.dis g i h
    ·have:=(D g h).2.1;omega⟩))
  have hin10:=((t.inn.to hC68 hM68).push hrow8).to hC810 hM810;obtain⟨fo',fc',ef,hfs⟩:=t.hf;obtain⟨rfl,_,rfl⟩:=Oc ef;have hfs10:=(hfs.fz hC68 hM68).fz hC810 hM810;have hC10:Chg (fun b=>b=sb∨b=B) Z w10:=(t.chg.then hC68 (fun b h=>by
   rcases h with h|h|h|h
   ·exact .inl (.inl h)
   ·exact .inl (.inr h)
   ·exact .inr (t.lvn b h)
   ·exact .inr (D b h).1)).then hC810 (fun b h=>by
   rcases h with h|h|h|h
   ·exact .inl (.inl h)
   ·exact .inl (.inr h)
   ·exact .inr (hlv' b h)
   ·exact .inr (D b h).1)
  have hne10:=d.em.ne;refine P6 ?_;refine EX.back (n+1,lv',.slice no' (vs++[(⟨.slice uo pq.2.length uc⟩:Raw)]).length nc',vs++[(⟨.slice uo pq.2.length uc⟩:Raw)],pq.1,nx++[pq.2]) OZ
   ⟨⟨⟨hblk10,(d.em.num.kept G (fun e=>by have:=D B e.symm;omega)).kept T Ph,(d.em.lo.keptN G (fun g i e=>hdis8 g e.symm i)).keptN T (fun g i e=>(hnle g i).1 (Nj e)),
     d.em.inn.to (fun b o=>(T.block b O0 Ph).trans (G.block b O0 (fun e=>by have:=D b e.symm;omega))) Pe,d.em.ge,hne10,hnle,d.em.nd,d.em.ins,d.em.ok⟩,Q,ho9.keptN T (fun g i e=>by
      have:=Nj e;rcases hnb9 g i with h|h
      ·have:=(D g h).1;omega
      ·omega),hin10,⟨fo,fc,rfl,hfs10⟩,hC10,hlv',fun g i hl=>?_,fun r hr=>?_⟩,by dsimp only;rw[Lg,hnl];rfl⟩ O4
  ·rcases hnb9 g i with h|h
   ·exact hdis8 g h hl
   ·have:=(hlc g hl).2.1;omega
  ·rcases LF.1 hr with hr|hr
   ·exact t.rows r hr
   ·rw[LV]at hr;subst hr;simp at hplen;omega
 have O:nx.length=ps.length:=by simp at h;omega
 clear h;have i:=t.run.okG O;have hfl:=t.run.okF O;have hN:nx.length≤1228800:=by omega
 obtain⟨no',nc',en,hns⟩:=t.inn.old t.hn;obtain⟨rfl,hvl,rfl⟩:=Oc en;obtain⟨fo',fc',ef,hfs⟩:=t.hf;obtain⟨rfl,_,rfl⟩:=Oc ef;have hfs:=hfs.old';obtain⟨lo',lc',el,hls⟩:=t.em.lo.oldN.sl;obtain⟨rfl,_,rfl⟩:=Oc el;have hem:=t.em;have Q:=t.run;have hrows:=t.rows;have R:=t.em.ins;rw[hvl]at M hem
 have hE0w:Ext w0 w:=Chg.ext hE7 t.chg (fun b o=>by rcases o with h|h<;>omega);have hE0:∀{x:World},Ext w x→Ext w0 x:=fun {x} hx=>hE0w.trans hx
 clear t;refine QP ?_;refine WL.call rfl rfl rfl (dM w hns Pe i O0) ?_;rintro pv w10 ⟨part,hpo,hPt,e10⟩
 obtain⟨po,pc,rfl,hps⟩:=hpo.oldN.sl;have hppl:=hPt.len;skip;refine WL.alloc rfl rfl (fun w11 H e11=>?_);skip;refine WL.st rfl rfl rfl H rfl rfl Pk (fun w12 H hg12=>?_);have e12:Ext w10 w12:=e11.grown hg12 e11.size Pb;have x12:=e10.trans e12;clear e11 hg12;refine Qm ?_;refine WL.call rfl rfl rfl (nE w12 (hem.ext O0 x12) (by have:=x12.size;omega) wfr okA.fr w80 okA.f) ?_;rintro _ w13 ⟨so,sc,rfl,hss,e13⟩
 have x13:=x12.trans e13;have hsx:EW e.W e.A ps=EU (FH e.W e.A) ps:=by unfold EW EU FH;rw[Lz,LC,LC];rfl
 have hslen:∀S∈EW e.W e.A ps,S.length=nx.length:=fun S hS=>by
  rw[hsx]at hS
  obtain⟨f,_,rfl⟩:=LP.1 hS;rw[Ln,O]
 have hsn:(EW e.W e.A ps).length≤160:=by unfold EW;rw[Lg,Ln,Ln];have:=okA.f;omega
 generalize hsets:EW e.W e.A ps=sets at*
 have H:=H.ext e13;refine P4 ?_;refine WL.call rfl rfl rfl (mT w13 (M.ext x13) O.symm (hns.up x13) (hps.up (e12.trans e13)) hss i hPt hN hslen) ?_;rintro _ w14 ⟨p,rfl,hp,e14⟩
 have x14:=x13.trans e14;have H:=H.ext e14;skip;refine WL.alloc rfl rfl (fun w15 hb13 e15=>?_);skip;refine WL.st rfl rfl rfl hb13 rfl rfl Pk (fun w16 hb13 hg16=>?_);have e16:Ext w14 w16:=e15.grown hg16 e15.size Pb;have x16:=x14.trans e16;clear e15 hg16;have H:=H.ext e16;have V:=CE (Ss:=FH e.W e.A) Q O hPt;rw[←hsx]at V
 refine P4 ?_;apply CW.cond rfl<;>intro h
 ·have h:p<0:=by simpa using h
  have hno:¬aP e.W e.A:=fun hr=>by
   obtain⟨c,h1,h2,h3⟩:=V.1 hr;rcases hp with⟨_,hp⟩|⟨hp,_⟩
   ·exact hp c h1 h2 h3
   ·omega
  refine Pu ?_;refine WL.build (parts:=[]) rfl rfl rfl rfl ?_;skip;refine WL.st rfl rfl rfl (hb4w.ext x16) rfl rfl Pk (fun E hb17 hg17=>?_);have hE17:Ext w0 E:=(hE0 x16).grown hg17 (hE0 x16).size Pd;refine PK ?_;exact bl rfl rfl rfl rfl hb17 rfl ⟨⟨[],[],false,_,_,_,_,_,rfl,nilS _,nilS _,.inr ⟨rfl,hW,hA,.inl ⟨rfl,rfl,rfl,hno⟩⟩⟩,hE17⟩
 have h:¬p<0:=by simpa using h
 obtain⟨hp0,hpN,hgood⟩:0≤p∧p<nx.length∧bT nx part sets p:=hp.resolve_left (fun h'=>by omega);have hyes:aP e.W e.A:=V.2 ⟨p,hp0,hpN,hgood⟩;clear hp h V;obtain⟨u,hu,hup,_⟩:=id hgood.1;obtain⟨a,haf,hrc⟩:=Q.reach O u hu;have hD:Ext w16 (drew w16):=Ext.drew w16;have xd:=x16.trans hD;have hblkd:=M.ext xd;have hb11d:=H.ext hD;have hb13d:=hb13.ext hD;have hSE:∀z,(fun z:World=>Ext (drew w16) z) z→Ext (drew w16) z:=fun _ h=>h
 refine QT ?_;refine aF (fun z:World=>Ext (drew w16) z) [(0,true),(1,true),(2,true),(3,true),(4,true),(5,true),(6,true),(7,false),(8,true)] mixed O1 Po ?_;refine RG ?_;have hpd:=((hps.up (e12.trans e13)).up (e14.trans e16)).up hD;refine cr rfl (WL.call rfl rfl rfl (nP (drew w16) (fr:=fr) (part:=part) (only:= -1) (to:=fun k=>decide (part.getD k 0=p)) hblkd (hns.up xd) (hfs.up xd) hpd i hfl hppl hN (fun z hz k hk=>FnV.mk (cs:=[_,_]) (o9 z _ _ (hb11d.ext hz) (hb13d.ext hz) (hpd.up hz) O0))) ?_);rintro stv E ⟨st,hso,K,e17⟩
 have K:WyOK nx fr (fun k=>decide (part.getD k 0=p)) (fQ part (-1)) st:=by
  rcases K with⟨_,K⟩|K
  ·exact absurd K (Iw haf hrc (Ov hup))
  ·exact K
 refine WL.nil (a_ e17 ?_);refine RJ ?_;have x17:=xd.trans e17;have hb1117:=hb11d.ext e17;have hp17:=hpd.up e17;have hstn:=K.ne;have hstl:=K.len;obtain⟨sto,stc,rfl,hsts⟩:=hso.oldN.sl;have hlast:0≤st.getD (st.length -1) 0∧st.getD (st.length -1) 0<nx.length:=by
  rw[KN,KT O0];exact K.rg _ (K8 _)
 obtain⟨m,hm⟩:=J2 hlast.1;have hml:m<nx.length:=by omega
 have hmp:part.getD m 0=p:=by have:=K.en;rw[hm]at this;simpa using this
 have hlel:st[st.length -1]'O0=(m:Int):=by rw[←hm,KN,KT O0];rfl
 have hgd2:bT nx part sets (part.getD m 0):=by rw[hmp];exact hgood
 have hD2:Ext E (drew E):=Ext.drew E;have hblk2:=M.ext (x17.trans hD2);have hb112:=hb1117.ext hD2;have hsts2:=hsts.up hD2;have hSE:∀z,(fun z:World=>Ext (drew E) z) z→Ext (drew E) z:=fun _ h=>h
 have hKK:∀(F:Nat→Prop) (hF:∀b,F b→b<(drew E).heap.size) z,(fun z:World=>Ext (drew E) z) z→∀b,F b→z.heap[b]?=(drew E).heap[b]?:=fun F hF z hz b o=>hz.block b (hF b o)
 refine QT ?_;refine aF (fun z:World=>Ext (drew E) z) [(0,true),(1,true),(2,true),(3,true),(4,true),(5,true),(6,true),(7,true),(8,true),(9,false),(10,true)] mixed O1 Po ?_;refine RF ?_;rw[show((st.length:Nat):Int) -1=((st.length -1:Nat):Int) by omega];refine bY (w:=drew E) (F:=c7 (drew E)) (k:=st.length -1) (hKK _ Pe) rfl rfl rfl rfl rfl rfl rfl hsts2 O0 O_ (fun u q hu=>?_);obtain rfl:=hu.int;rw[hlel];refine RD ?_;refine cr rfl (WL.call rfl rfl rfl (nA (drew E) hblk2 (hns.up (x17.trans hD2)) (hp17.up hD2) (((hss.up e14).up e16).up ((hD.trans e17).trans hD2)) i hPt hN hslen hsn hrows hml hgd2) ?_);rintro lov w18 ⟨lo2,hlo,hRO,e18⟩
 refine WL.nil (a_ e18 ?_);refine RJ ?_;have x18:=(x17.trans hD2).trans e18;have e1718:=hD2.trans e18;have hlol:=hRO.len;have hlsl:sets.length+1≤161:=by omega
 have hlmul:=MR hlsl hN;obtain⟨loo,loc,rfl,hlos⟩:=hlo.oldN.sl;have hso18:=hso.extN e1718;have hblk18:=M.ext x18;have hls18:=hls.up x18;rw[O]at hlmul hlol
 have hokst:Ax ps.length (st.take (st.length -1)):=fun y hy=>by rw[←O];exact K.rg y (LT hy)
 have hoklo:Ax ps.length lo2:=fun y hy=>by rw[←O];exact hRO.rg y hy
 have hb418:=hb4w.ext x18;refine Qy ?_;refine eq (α:=Int) (st.length -1) O0 rfl rfl rfl rfl hso18 O0 (fun v19 ho19 hob19=>?_);obtain⟨cuo,cuc,rfl,hcus⟩:=ho19.oldN.sl;skip;refine WL.call rfl rfl rfl (nG w18 hblk18 hls18 hcus hokst (by rw[Lv];omega)) ?_;rintro sv w19 ⟨hsv,e19⟩
 obtain⟨svo,svc,rfl,hsvs⟩:=hsv.slF (F':=fun b=>w18.heap.size≤b∧b<w19.heap.size) Pc (fun g i=>⟨(hsv.lt g i).1,(hsv.lt g i).2.1⟩);refine Ra ?_;refine WL.call rfl rfl rfl (nG w19 (hblk18.ext e19) (hls18.up e19) (hlos.up e19) hoklo O0) ?_;rintro lv2 w20 ⟨hlv2,e20⟩
 obtain⟨lvo,lvc,rfl,hlvs⟩:=hlv2.slF (F':=fun b=>w19.heap.size≤b∧b<w20.heap.size) Pc (fun g i=>⟨(hlv2.lt g i).1,(hlv2.lt g i).2.1⟩);have x20:=(x18.trans e19).trans e20;skip;refine WL.build rfl rfl rfl rfl ?_;skip;refine WL.st rfl rfl rfl (hb418.ext (e19.trans e20)) rfl rfl Pk (fun w21 hb21 hg21=>?_);have hE21:Ext w0 w21:=(hE0 x20).grown hg21 (hE0 x20).size Pd;have hRO':RoOK nx (st.getD (st.length -1) 0).toNat (EU (FH e.W e.A) ps) lo2:=by rw[hm,J7,←hsx];exact hRO
 have hpath:=BD Q O R hPW (Ar okA) K hRO' O0 O0;have q18:=x18.size;have q19:=e19.size;have q20:=e20.size;have r1:=hsvs.mono (w':=w21) (fun b o=>(hg21.block b O0 Ph).trans (e20.block b o.2)) (F':=c7 w21) (fun b o=>by have:=hg21.size;exact(show b<w21.heap.size by omega));have r2:=hlvs.mono (w':=w21) (fun b o=>hg21.block b o.2 Ph) (F':=c7 w21) (fun b o=>by have:=hg21.size;exact(show b<w21.heap.size by omega));refine PB ?_;exact bl rfl rfl rfl rfl hb21 rfl ⟨⟨_,_,true,0,_,_,_,_,rfl,r1,r2,.inr ⟨rfl,hW,hA,.inr ⟨rfl,hyes,hpath⟩⟩⟩,hE21⟩

section
variable {fr:List (List Int)}{q:Nat→de}
end







instance rT:IsZC Tryz.prog 97 [.slice none 0 0,.slice none 0 0,.slice none 0 0,.slice none 0 0,.slice none 0 0]:=IsZC.of (z:=.agg #[.slice none 0 0,.slice none 0 0,.slice none 0 0,.slice none 0 0,.slice none 0 0]) O1 rfl


def Bd(f:Nat→Bool):Nat→Nat
 |0=>0
 |c+1=>if f c=true then Bd f c|||(1 <<< c)else Bd f c
theorem iz(c j:Nat):(1 <<< c).testBit j=decide (j=c):=by
 rw[MY,Nat.testBit_two_pow];exact Or.2 ⟨fun h=>h.symm,fun h=>h.symm⟩
theorem Be{f:Nat→Bool}:∀{c j:Nat},(Bd f c).testBit j=(decide (j<c)&&f j)
 |0,j=>by simp[Bd]
 |c+1,j=>by
  rw[Bd];by_cases hf:f c=true
  ·rw[OE hf,Nat.testBit_or,Be,iz]
   by_cases e:j=c
   ·subst e;simp[hf]
   ·have:decide (j<c+1)=decide (j<c):=Or.2 O0
    rw[this,Ot e,JS]
  ·rw[OD hf,Be]
   by_cases e:j=c
   ·subst e;simp[hf]
   ·have:decide (j<c+1)=decide (j<c):=Or.2 O0
    rw[this]
theorem Bf{f:Nat→Bool}:∀{c:Nat},Bd f c<2 ^ c
 |0=>by simp[Bd]
 |c+1=>by
  have h:=Bf (f:=f) (c:=c);rw[Bd];have h2:2 ^ c≤2 ^ (c+1):=M0 O0 O0;split
  ·exact MZ (MK h h2) (by rw[MY];exact M1 O0 O0)
  ·omega
abbrev cW:=List Int×List Ltl
def qy(k n:Int)(t:Ltl)(m:cW):cW:=if k=3 then(if n∈m.1 then m.1 else m.1++[n],m.2)else if k=7∨k=8∨k=9 then(m.1,if m.2.any (El t)=true then m.2 else m.2++[t])else m
mutual
def qh:Ltl→cW→cW
 |.mk k n kids,m=>qq kids (qy k n (.mk k n kids) m)
def qq:List Ltl→cW→cW
 |[],m=>m
 |x::r,m=>qq r (qh x m)
end
mutual
def Cov(m:cW):Ltl→Prop
 |.mk k n kids=>(k=3→n∈m.1)∧((k=7∨k=8∨k=9)→.mk k n kids∈m.2)∧Covs m kids
def Covs(m:cW):List Ltl→Prop
 |[]=>True
 |x::r=>Cov m x∧Covs m r
end
def Les(m c:cW):Prop:=(∀x∈m.1,x∈c.1)∧∀x∈m.2,x∈c.2
theorem Les.refl(m:cW):Les m m:=⟨fun _ h=>h,fun _ h=>h⟩
theorem Les.trans{a b c:cW}(h:Les a b)(k:Les b c):Les a c:=⟨fun x d=>k.1 x (h.1 x d),fun x d=>k.2 x (h.2 x d)⟩
mutual
theorem Cov.les{m d:cW}(h:Les m d):∀t,Cov m t→Cov d t
 |.mk k n kids,c=>by
  simp only[Cov]at c⊢
  exact⟨fun e=>h.1 _ (c.1 e),fun e=>h.2 _ (c.2.1 e),Covs.les h kids c.2.2⟩
theorem Covs.les{m d:cW}(h:Les m d):∀l,Covs m l→Covs d l
 |[],_=>trivial
 |x::r,c=>by
  simp only[Covs]at c⊢
  exact⟨Cov.les h x c.1,Covs.les h r c.2⟩
end
theorem qA(k n:Int)(t:Ltl)(m:cW):Les m (qy k n t m):=by
 unfold qy;split
 ·refine⟨fun x c=>?_,fun _ h=>h⟩
  dsimp only;split
  ·exact c
  ·exact LG _ c
 ·split
  ·refine⟨fun _ h=>h,fun x c=>?_⟩
   dsimp only;split
   ·exact c
   ·exact LG _ c
  ·exact Les.refl m
mutual
theorem qm:∀(t:Ltl) (m:cW),Les m (qh t m)
 |.mk k n kids,m=>by
  simp only[qh];exact(qA k n _ m).trans (qu kids _)
theorem qu:∀(l:List Ltl) (m:cW),Les m (qq l m)
 |[],m=>Les.refl m
 |x::r,m=>by
  simp only[qq];exact(qm x m).trans (qu r _)
end
theorem qz(k n:Int)(kids:List Ltl)(m:cW):(k=3→n∈(qy k n (.mk k n kids) m).1)∧((k=7∨k=8∨k=9)→.mk k n kids∈(qy k n (.mk k n kids) m).2):=by
 unfold qy;refine⟨fun h=>?_,fun h=>?_⟩
 ·rw[OE h]
  dsimp only;split
  ·assumption
  ·exact LH _ O3
 ·rw[OD O0,OE h]
  dsimp only;split
  ·rename_i c
   rw[Kb]at c
   obtain⟨x,d,c⟩:=c;rw[(En _ _).1 c];exact d
  ·exact LH _ O3
mutual
theorem qj:∀(t:Ltl) (m:cW),Cov (qh t m) t
 |.mk k n kids,m=>by
  simp only[Cov,qh];have h:=qz k n kids m;have c:=qu kids (qy k n (.mk k n kids) m);exact⟨fun e=>c.1 _ (h.1 e),fun e=>c.2 _ (h.2 e),qs kids _⟩
theorem qs:∀(l:List Ltl) (m:cW),Covs (qq l m) l
 |[],m=>trivial
 |x::r,m=>by
  simp only[Covs,qq];exact⟨Cov.les (qu r _) x (qj x m),qs r _⟩
end
structure OkM(m:cW):Prop where
 na:m.1.Nodup
 ra:∀x∈m.1,0≤x∧x≤63
 wp:∀g∈m.2,IB g∧(g.k=7∨g.k=8∨g.k=9)∧rN g 10=false∧rN g 11=false
theorem OkM.nil:OkM ([],[]):=⟨List.Pairwise.nil,(fun x c=>by cases c),(fun x c=>by cases c)⟩
theorem qB{k n:Int}{kids:List Ltl}{m:cW}(c:OkM m)(h:IB (.mk k n kids))(o:rN (.mk k n kids) 10=false)(h1:rN (.mk k n kids) 11=false):OkM (qy k n (.mk k n kids) m):=by
 unfold qy;simp only[IB]at h
 split
 ·refine⟨?_,fun x d=>?_,c.wp⟩
  ·dsimp only
   split
   ·exact c.na
   ·rename_i hn
    rw[LY];exact⟨c.na,L6 _ _,fun a l b i e=>hn (by rw[LV]at i;rw[←i,←e];exact l)⟩
  ·dsimp only at d
   split at d
   ·exact c.ra x d
   ·rcases LF.1 d with d|d
    ·exact c.ra x d
    ·rw[LV]at d;subst d;exact⟨h.2.1,h.2.2.1⟩
 ·split
  ·rename_i j
   refine⟨c.na,c.ra,fun g f=>?_⟩;dsimp only at f
   split at f
   ·exact c.wp g f
   ·rcases LF.1 f with f|f
    ·exact c.wp g f
    ·rw[LV]at f;subst f
     exact⟨by simp only[IB];exact h,j,o,h1⟩
  ·exact c
mutual
theorem qp:∀(t:Ltl) (m:cW),OkM m→IB t→rN t 10=false→rN t 11=false→OkM (qh t m)
 |.mk k n kids,m,e,c,d,h1=>by
  have h:=qB e c d h1;simp only[qh];simp only[IB]at c
  simp only[rN,JQ]at d h1
  exact qw kids _ h c.2.2.2.2 d.2 h1.2
theorem qw:∀(l:List Ltl) (m:cW),OkM m→IC l→rP l 10=false→rP l 11=false→OkM (qq l m)
 |[],m,e,_,_,_=>e
 |x::r,m,e,c,d,h1=>by
  simp only[qq];simp only[IC]at c
  simp only[rP,JQ]at d h1
  exact qw r _ (qp x m e c.1 d.1 h1.1) c.2 d.2 h1.2
end
def aL(m c:cW):Prop:=∀g∈m.2,Cov c g
mutual
theorem qi:∀(t:Ltl) (m d:cW),Les (qh t m) d→aL m d→aL (qh t m) d
 |.mk k n kids,m,d,f,e=>by
  have h1:=Cov.les f _ (qj (.mk k n kids) m);simp only[qh]at f⊢
  refine qr kids _ d f fun g c=>?_
  unfold qy at c
  split at c
  ·exact e g c
  ·split at c
   ·dsimp only at c
    split at c
    ·exact e g c
    ·rcases LF.1 c with c|c
     ·exact e g c
     ·rw[LV]at c;subst c;exact h1
   ·exact e g c
theorem qr:∀(l:List Ltl) (m d:cW),Les (qq l m) d→aL m d→aL (qq l m) d
 |[],m,d,_,e=>e
 |x::r,m,d,f,e=>by
  simp only[qq]at f⊢
  exact qr r _ d f (qi x m d ((qu r _).trans f) e)
end
def Bs(m:cW)(t:Ltl):Int:=idxOf (El t) m.2
def gG(m:cW)(n:Int):Int:=idxOf (fun y=>n==y) m.1
def j9(m:cW)(s:Nat)(t:Ltl):Bool:=if t.k=3 then s.testBit (gG m t.n).toNat else s.testBit (m.1.length+(Bs m t).toNat)
mutual
def rQ(m:cW)(s:Nat):Ltl→Bool
 |.mk k n kids=>
  if k=1 then true else if k=2 then false
  else if k=4 then !((rR m s kids).getD 0 false)
  else if k=5 then(rR m s kids).getD 0 false&&(rR m s kids).getD 1 false
  else if k=6 then(rR m s kids).getD 0 false||(rR m s kids).getD 1 false
  else if k=8 then(rR m s kids).getD 1 false||((rR m s kids).getD 0 false&&j9 m s (.mk k n kids))
  else if k=9 then(rR m s kids).getD 1 false&&((rR m s kids).getD 0 false||j9 m s (.mk k n kids))
  else j9 m s (.mk k n kids)
def rR(m:cW)(s:Nat):List Ltl→List Bool
 |[]=>[]
 |x::r=>rQ m s x::rR m s r
end
def gq(g:Ltl):Ltl:=if g.k=7 then g.kids.getD 0 (.mk 0 0 [])else g
def zg:Ltl:=.mk 0 0 []
def wo(m:cW)(s:Nat):Nat:=Bd (fun i=>rQ m s (gq (m.2.getD i zg))) m.2.length
def iw(at':List Int)(s:Nat)(is:Bool):Nat→Nat
 |0=>0
 |c+1=>if s.testBit c=is then iw at' s is c|||(1 <<< (at'.getD c 0).toNat)else iw at' s is c
def iA(m:cW)(s:Nat)(is:Bool):Nat:=iw m.1 s is m.1.length
def oq(m:cW)(g:Ltl)(s:Nat):Bool:=if g.k=8 then !(rQ m s g)||rQ m s (g.kids.getD 1 zg)else rQ m s g||!(rQ m s (g.kids.getD 1 zg))
theorem bitP_bit{at':List Int}{s:Nat}{is:Bool}{a:Nat}:∀{c:Nat},(iw at' s is c).testBit a=true↔∃i,i<c∧s.testBit i=is∧(at'.getD i 0).toNat=a
 |0=>by simp[iw]
 |c+1=>by
  rw[iw];by_cases h:s.testBit c=is
  ·rw[OE h,Nat.testBit_or,JR,bitP_bit,iz,Ow]
   constructor
   ·rintro(⟨i,h1,h2⟩|h1)
    ·exact⟨i,by omega,h2⟩
    ·exact⟨c,by omega,h,h1.symm⟩
   ·rintro⟨i,h1,h2,h3⟩
    by_cases e:i=c
    ·subst e;exact .inr h3.symm
    ·exact .inl ⟨i,by omega,h2,h3⟩
  ·rw[OD h,bitP_bit]
   constructor
   ·rintro⟨i,h1,h2⟩;exact⟨i,by omega,h2⟩
   ·rintro⟨i,h1,h2,h3⟩
    by_cases e:i=c
    ·subst e;exact absurd h2 h
    ·exact⟨i,by omega,h2,h3⟩
theorem iy{at':List Int}{s:Nat}{is:Bool}(h:∀x∈at',x≤63):∀{c:Nat},c≤at'.length→iw at' s is c<2 ^ 64
 |0,_=>by simp[iw]
 |c+1,d=>by
  have h1:=iy (s:=s) (is:=is) h (c:=c) O0;rw[iw];split
  ·refine MZ h1 ?_
   rw[MY];have:=h (at'.getD c 0) (by rw[KN,KT O0];exact K8 _);exact M1 O0 O0
  ·exact h1
theorem vd{α:Type}{p:α→Bool}{l:List α}{x:α}(d:x∈l)(c:p x=true)(f:∀y,p y=true→y=x):∃i,∃h:i<l.length,idxOf p l=(i:Int)∧l[i]=x:=by
 unfold idxOf;cases e:l.findIdx? p with
 |none=>
  rw[KF]at e
  rw[e x d]at c;cases c
 |some i=>
  obtain⟨h1,h2,_⟩:=KG.1 e;exact⟨i,h1,rfl,f _ h2⟩
theorem Bt{m:cW}{t:Ltl}(h:t∈m.2):∃i,∃h:i<m.2.length,Bs m t=(i:Int)∧m.2[i]=t:=
 vd h (Eo t) (fun y c=>((En _ _).1 c).symm)
theorem gH{m:cW}{n:Int}(h:n∈m.1):∃i,∃h:i<m.1.length,gG m n=(i:Int)∧m.1[i]=n:=
 vd h O3 (fun y c=>by simpa using Eq.symm (by simpa using c))
section
variable {m:cW}{s:Nat}{n:Int}{a b:Ltl}
theorem ho1:rQ m s (.mk 1 n [])=true:=by simp[rQ]
theorem ho2:rQ m s (.mk 2 n [])=false:=by simp[rQ]
theorem ho3:rQ m s (.mk 3 n [])=s.testBit (gG m n).toNat:=by simp[rQ,j9,Ltl.k,Ltl.n]
theorem ho4:rQ m s (.mk 4 n [a])=!rQ m s a:=by simp[rQ,rR]
theorem ho5:rQ m s (.mk 5 n [a,b])=(rQ m s a&&rQ m s b):=by simp[rQ,rR]
theorem ho6:rQ m s (.mk 6 n [a,b])=(rQ m s a||rQ m s b):=by simp[rQ,rR]
theorem ho7:rQ m s (.mk 7 n [a])=s.testBit (m.1.length+(Bs m (.mk 7 n [a])).toNat):=by simp[rQ,j9,Ltl.k]
theorem ho8:rQ m s (.mk 8 n [a,b])=(rQ m s b||(rQ m s a&&s.testBit (m.1.length+(Bs m (.mk 8 n [a,b])).toNat))):=by simp[rQ,rR,j9,Ltl.k]
theorem ho9:rQ m s (.mk 9 n [a,b])=(rQ m s b&&(rQ m s a||s.testBit (m.1.length+(Bs m (.mk 9 n [a,b])).toNat))):=by simp[rQ,rR,j9,Ltl.k]
end
theorem E9{x a:Nat}:x >>> a&&&1=1↔x.testBit a=true:=by
 rw[Nat.testBit_eq_decide_div_mod_eq,Ow,Nat.and_one_is_mod,M2]
structure OkF(m:cW)(t:Ltl):Prop where
 wf:IB t
 h10:rN t 10=false
 h11:rN t 11=false
 cov:Cov m t
theorem OkF.un{m:cW}{k n:Int}{a:Ltl}(h:OkF m (.mk k n [a])):OkF m a:=by
 obtain⟨h1,h2,h3,h4⟩:=h;simp only[IB,IC]at h1
 simp only[rN,rP,JQ]at h2 h3
 simp only[Cov,Covs]at h4
 exact⟨h1.2.2.2.2.1,h2.2.1,h3.2.1,h4.2.2.1⟩
theorem OkF.b1{m:cW}{k n:Int}{a b:Ltl}(h:OkF m (.mk k n [a,b])):OkF m a:=by
 obtain⟨h1,h2,h3,h4⟩:=h;simp only[IB,IC]at h1
 simp only[rN,rP,JQ]at h2 h3
 simp only[Cov,Covs]at h4
 exact⟨h1.2.2.2.2.1,h2.2.1,h3.2.1,h4.2.2.1⟩
theorem OkF.b2{m:cW}{k n:Int}{a b:Ltl}(h:OkF m (.mk k n [a,b])):OkF m b:=by
 obtain⟨h1,h2,h3,h4⟩:=h;simp only[IB,IC]at h1
 simp only[rN,rP,JQ]at h2 h3
 simp only[Cov,Covs]at h4
 exact⟨h1.2.2.2.2.2.1,h2.2.2.1,h3.2.2.1,h4.2.2.2.1⟩
structure OkT(m:cW):Prop where
 ok:OkM m
 clo:aL m m
theorem Bx{g:Ltl}(c:IB g)(d:g.k=7∨g.k=8∨g.k=9):(∃a,g=.mk 7 0 [a])∨∃k a b,(k=8∨k=9)∧g=.mk k 0 [a,b]:=by
 obtain⟨k,n,kids⟩:=g;simp only[Ltl.k]at d
 simp only[IB]at c
 obtain⟨h1,_,_,h4,_⟩:=c;have hn:n=0:=h4 O0;subst hn;rcases d with rfl|rfl|rfl
 ·have:kids.length=1:=by simp[wO]at h1;omega
  obtain⟨a,rfl⟩:=Lj.1 this;exact .inl ⟨a,rfl⟩
 ·have:kids.length=2:=by simp[wO]at h1;omega
  match kids,this with
  |[a,b],_=>exact .inr ⟨8,a,b,.inl rfl,rfl⟩
 ·have:kids.length=2:=by simp[wO]at h1;omega
  match kids,this with
  |[a,b],_=>exact .inr ⟨9,a,b,.inr rfl,rfl⟩
theorem OkT.part{m:cW}(h:OkT m){g:Ltl}(a:g∈m.2):OkF m g:=⟨(h.ok.wp g a).1,(h.ok.wp g a).2.2.1,(h.ok.wp g a).2.2.2,h.clo g a⟩
theorem OkT.arg{m:cW}(h:OkT m){g:Ltl}(c:g∈m.2):OkF m (gq g):=by
 have h1:=h.part c;rcases Bx h1.wf (h.ok.wp g c).2.1 with⟨a,rfl⟩|⟨k,a,b,d,rfl⟩
 ·exact h1.un
 ·unfold gq
  rw[OD (by simp only[Ltl.k];omega)];exact h1
abbrev z_(m:cW):Nat:=m.1.length+m.2.length
def Gj(m:cW)(f:Ltl):cD:=
 (((List.range (2 ^ z_ m)).filter fun s=>rQ m s f).map fun s:Nat=>(s:Int),
  (List.range (2 ^ z_ m)).map fun s=>((List.range (2 ^ z_ m)).filter fun t=>decide (wo m t=s >>> m.1.length)).map fun t:Nat=>(t:Int),
  (List.range (2 ^ z_ m)).map fun s=>iA m s true,(List.range (2 ^ z_ m)).map fun s=>iA m s false,
  (m.2.filter fun g=>decide (g.k≠7)).map fun g=>((List.range (2 ^ z_ m)).filter fun s=>oq m g s).map fun s:Nat=>(s:Int))
section
variable {m:cW}{L:Nat→Nat}
theorem ri{l:List Ltl}{j:Nat}(h:j<l.length):l.getD j zg=l[j]:=by rw[KN,KT h];rfl
theorem wq{s j:Nat}:(wo m s).testBit j=(decide (j<m.2.length)&&rQ m s (gq (m.2.getD j zg))):=Be
theorem Bu{s t:Nat}(h:wo m t=s >>> m.1.length){g:Ltl}(c:g∈m.2):s.testBit (m.1.length+(Bs m g).toNat)=rQ m t (gq g):=by
 obtain⟨j,b,e,a⟩:=Bt c;rw[e,J7,←M7,←h,wq,Ov b,JU,ri b,a]
theorem GN{H A B:Nat→Prop}(c:∀i,H i↔B i∨(A i∧H (i+1)))(hf:∀i,∃j,i≤j∧(¬H j∨B j))(i:Nat):H i↔Til A B i:=by
 constructor
 ·intro h
  refine JW fun hn=>?_
  have:∀d,H (i+d)∧¬Til A B (i+d):=fun d=>by
   induction d with
   |zero=>exact⟨h,hn⟩
   |succ d b=>
    obtain⟨h1,h2⟩:=b;have h3:¬B (i+d):=fun e=>h2 (Til.step.2 (.inl e))
    have h4:=((c _).1 h1).resolve_left h3;exact⟨h4.2,fun k=>h2 (Til.step.2 (.inr ⟨h4.1,k⟩))⟩
  obtain⟨j,l,a⟩:=hf i;have h1:=this (j -i);rw[show i+(j -i)=j by omega]at h1
  rcases a with a|a
  ·exact a h1.1
  ·exact h1.2 (Til.step.2 (.inl a))
 ·rintro⟨j,f,e,g⟩
  have:∀d,d≤j -i→H (j -d):=fun d=>by
   induction d with
   |zero=>intro _;exact(c _).2 (.inl e)
   |succ d b=>
    intro hd
    refine(c _).2 (.inr ⟨g _ O0 O0,?_⟩);rw[show j -(d+1)+1=j -d by omega];exact b O0
  have h1:=this (j -i) Pm;rwa[show j -(j -i)=i by omega]at h1
theorem D6(w:OkT m){r:Nat→Nat}(c:∀i,wo m (r (i+1))=r i >>> m.1.length)(p:∀i,∀n∈m.1,(r i).testBit (gG m n).toNat=(L i).testBit n.toNat)
  (d:∀g∈m.2,g.k≠7→∀i,∃j,i≤j∧oq m g (r j)=true):∀t,OkF m t→∀i,rQ m (r i) t=true↔Ez L t i:=by
 intro t s
 refine IF (M:=fun t=>OkF m t→∀i,rQ m (r i) t=true↔Ez L t i) ?_ ?_ ?_ ?_ ?_ t s.wf s
 ·intro _ i;rw[ho1,EB];simp
 ·intro _ i;rw[ho2,EE];simp
 ·intro n _ _ hf i
  have e:=hf.cov;simp only[Cov]at e
  rw[ho3,EF,E9,p i n (e.1 trivial)]
 ·intro k a q _ u hf i
  have l:=u hf.un;have e:=hf.cov;simp only[Cov]at e
  rcases q with rfl|rfl|rfl|rfl
  ·rw[ho4,EG,←l i];simp
  ·have f:=e.2.1 (.inl rfl)
   rw[ho7,EJ,←l (i+1),Bu (c i) f];exact J1
  ·have:=hf.h10;simp[rN]at this
  ·have:=hf.h11;simp[rN]at this
 ·intro k a b q _ _ iha ihb hf i
  have l:=iha hf.b1;have o:=ihb hf.b2;have e:=hf.cov;simp only[Cov]at e
  rcases q with rfl|rfl|rfl|rfl
  ·rw[ho5,EH,←l i,←o i];simp
  ·rw[ho6,EI,←l i,←o i];simp
  ·have f:=e.2.1 (.inr (.inl rfl))
   rw[sem8];refine GN (H:=fun i=>rQ m (r i) (.mk 8 0 [a,b])=true) (fun i=>?_) (fun i=>?_) i
   ·rw[ho8,Bu (c i) f,JR,JG,l i,o i]
    exact J1
   ·obtain⟨j,h1,h2⟩:=d _ f (by simp[Ltl.k]) i
    refine⟨j,h1,?_⟩;unfold oq at h2
    rw[OE (by rfl),JR]at h2
    rcases h2 with h2|h2
    ·exact .inl (by simpa using h2)
    ·exact .inr ((o j).1 h2)
  ·have f:=e.2.1 (.inr (.inr rfl))
   rw[EK];have v:=GN (H:=fun i=>¬rQ m (r i) (.mk 9 0 [a,b])=true) (A:=fun j=>¬Ez L a j) (B:=fun j=>¬Ez L b j) (fun i=>?_) (fun i=>?_) i
   ·rw[←v];exact J0.symm
   ·rw[ho9,Bu (c i) f,JG,JR,l i,o i,JY,OI]
    exact J1
   ·obtain⟨j,h1,h2⟩:=d _ f (by simp[Ltl.k]) i
    refine⟨j,h1,?_⟩;unfold oq at h2
    rw[OD (by simp[Ltl.k]),JR]at h2
    rcases h2 with h2|h2
    ·exact .inl (fun h=>h h2)
    ·refine .inr fun h=>?_
     have h2:(!rQ m (r j) b)=true:=h2;have h3:rQ m (r j) b=false:=by simpa using h2
     rw[(o j).2 h]at h3
     cases h3
theorem pD(i:OkM m){s x:Nat}:(x&&&iA m s true=iA m s true∧x&&&iA m s false=0)↔∀j,j<m.1.length→x.testBit (m.1.getD j 0).toNat=s.testBit j:=by
 have g:∀y,x&&&y=y↔∀a,y.testBit a=true→x.testBit a=true:=fun y=>by
  constructor
  ·intro h a b
   have:=Oq (fun z=>z.testBit a) h;simp only[M6,b,Bool.and_true]at this
   exact this
  ·intro h
   refine Mx fun a=>?_
   rw[M6];cases e:y.testBit a
   ·simp
   ·rw[h a e];rfl
 have f:∀y,x&&&y=0↔∀a,y.testBit a=true→x.testBit a=false:=fun y=>by
  constructor
  ·intro h a b
   have:=Oq (fun z=>z.testBit a) h;simp only[M6,b,Bool.and_true,M_]at this
   exact this
  ·intro h
   refine Mx fun a=>?_
   rw[M6,M_];cases e:y.testBit a
   ·simp
   ·rw[h a e];rfl
 rw[g,f];unfold iA;constructor
 ·rintro⟨h1,h2⟩ j d
  cases c:s.testBit j
  ·exact h2 _ (bitP_bit.2 ⟨j,d,c,rfl⟩)
  ·exact h1 _ (bitP_bit.2 ⟨j,d,c,rfl⟩)
 ·intro h
  refine⟨fun a b=>?_,fun a b=>?_⟩
  ·obtain⟨j,d,c,rfl⟩:=bitP_bit.1 b
   rw[h j d,c]
  ·obtain⟨j,d,c,rfl⟩:=bitP_bit.1 b
   rw[h j d,c]
theorem gI{n:Int}(h:n∈m.1):(gG m n).toNat<m.1.length∧m.1.getD (gG m n).toNat 0=n:=by
 obtain⟨j,a,e,hn⟩:=gH h;rw[e,J7];exact⟨a,by rw[KN,KT a];exact hn⟩
open Classical in
noncomputable def Fe(L:Nat→Nat)(m:cW)(i:Nat):Nat:=
 Bd (fun j=>if j<m.1.length then(L i).testBit (m.1.getD j 0).toNat else decide (Ez L (gq (m.2.getD (j -m.1.length) zg)) (i+1))) (z_ m)
theorem Ff{i j:Nat}(h:j<m.1.length):(Fe L m i).testBit j=(L i).testBit (m.1.getD j 0).toNat:=by
 unfold Fe;rw[Be,Ov (show j<z_ m by unfold z_;omega),OE h,JU]
theorem Fg{i j:Nat}(h:j<m.2.length):(Fe L m i).testBit (m.1.length+j)=true↔Ez L (gq (m.2.getD j zg)) (i+1):=by
 unfold Fe;rw[Be,Ov (show m.1.length+j<z_ m by unfold z_;omega),OD O0,JU,Mr];exact @Ox _ (Classical.propDecidable _)
theorem Fh{i:Nat}{g:Ltl}(c:g∈m.2):(Fe L m i).testBit (m.1.length+(Bs m g).toNat)=true↔Ez L (gq g) (i+1):=by
 obtain⟨j,b,e,a⟩:=Bt c;rw[e,J7,Fg b,ri b,a]
theorem Fj(o:OkT m):∀t,OkF m t→∀i,rQ m (Fe L m i) t=true↔Ez L t i:=by
 intro t h
 refine IF (M:=fun t=>OkF m t→∀i,rQ m (Fe L m i) t=true↔Ez L t i) ?_ ?_ ?_ ?_ ?_ t h.wf h
 ·intro _ i;rw[ho1,EB];simp
 ·intro _ i;rw[ho2,EE];simp
 ·intro n _ _ hf i
  have c:=hf.cov;simp only[Cov]at c
  obtain⟨h1,h2⟩:=gI (c.1 trivial);rw[ho3,EF,E9,Ff h1,h2]
 ·intro k a g _ l hf i
  have d:=l hf.un;have c:=hf.cov;simp only[Cov]at c
  rcases g with rfl|rfl|rfl|rfl
  ·rw[ho4,EG,←d i];simp
  ·have e:=c.2.1 (.inl rfl)
   rw[ho7,EJ,Fh e];exact J1
  ·have:=hf.h10;simp[rN]at this
  ·have:=hf.h11;simp[rN]at this
 ·intro k a b g _ _ iha ihb hf i
  have d:=iha hf.b1;have f:=ihb hf.b2;have c:=hf.cov;simp only[Cov]at c
  rcases g with rfl|rfl|rfl|rfl
  ·rw[ho5,EH,←d i,←f i];simp
  ·rw[ho6,EI,←d i,←f i];simp
  ·have e:=c.2.1 (.inr (.inl rfl))
   rw[ho8,JR,JG,Fh e,d i,f i,sem8,Til.step];have:Ez L (gq (.mk 8 0 [a,b])) (i+1)↔Til (Ez L a) (Ez L b) (i+1):=sem8;rw[this]
  ·have e:=c.2.1 (.inr (.inr rfl))
   rw[ho9,JG,JR,Fh e,d i,f i,EK,Til.step];have:Ez L (gq (.mk 9 0 [a,b])) (i+1)↔¬Til (fun j=>¬Ez L a j) (fun j=>¬Ez L b j) (i+1):=EK;rw[this,OI,JY,J0,J0]
theorem Fk(b:OkT m)(i:Nat):wo m (Fe L m (i+1))=Fe L m i >>> m.1.length:=by
 refine Mx fun j=>?_
 rw[wq,M7];by_cases a:j<m.2.length
 ·rw[Ov a,JU,JI,Fg a]
  exact Fj b _ (b.arg (by rw[ri a];exact K8 a)) (i+1)
 ·rw[Ot a,JJ]
  unfold Fe;rw[Be,Ot (show¬m.1.length+j<z_ m by unfold z_;omega),JJ]
theorem Fi(d:OkT m){g:Ltl}(l:g∈m.2)(p:g.k≠7)(i:Nat):∃j,i≤j∧oq m g (Fe L m j)=true:=by
 have hf:=d.part l;rcases Bx hf.wf (d.ok.wp g l).2.1 with⟨a,rfl⟩|⟨k,a,b,f,rfl⟩
 ·exact absurd rfl p
 have n:=fun j=>Fj (L:=L) d b hf.b2 j
 have c:=fun j=>Fj (L:=L) d _ hf j
 rcases f with rfl|rfl
 ·by_cases h:rQ m (Fe L m i) (.mk 8 0 [a,b])=true
  ·obtain⟨j,h1,h2,_⟩:=sem8.1 ((c i).1 h)
   refine⟨j,h1,?_⟩;unfold oq;rw[OE (by rfl),JR];exact .inr ((n j).2 h2)
  ·refine⟨i,MF _,?_⟩
   unfold oq;rw[OE (by rfl),JR];exact .inl (by simpa using h)
 ·by_cases h:rQ m (Fe L m i) (.mk 9 0 [a,b])=true
  ·refine⟨i,MF _,?_⟩
   unfold oq;rw[OD (by simp[Ltl.k]),JR];exact .inl h
  ·have o:¬Ez L (.mk 9 0 [a,b]) i:=fun h2=>h ((c i).2 h2)
   rw[EK,J0]at o
   obtain⟨j,h1,h2,_⟩:=o;refine⟨j,h1,?_⟩;unfold oq;rw[OD (by simp[Ltl.k]),JR];refine .inr ?_;show(!rQ m (Fe L m j) b)=true;cases e:rQ m (Fe L m j) b
   ·rfl
   ·exact absurd ((n j).1 e) h2
theorem rangeN_mem{N:Nat}{p:Nat→Bool}{x:Nat}:(x:Int)∈((List.range N).filter p).map (fun s:Nat=>(s:Int))↔x<N∧p x=true:=by
 rw[LP];constructor
 ·rintro⟨y,a,e⟩
  rw[LM,LU]at a
  have:y=x:=by omega
  subst this;exact a
 ·intro h;exact⟨x,LM.2 ⟨LU.2 h.1,h.2⟩,rfl⟩
theorem yB{N:Nat}{f:Nat→Nat}{x:Nat}(h:x<N):((List.range N).map f).getD x 0=f x:=by
 rw[KN,KW,KX h];rfl
theorem yx{N:Nat}{f:Nat→List Int}{x:Nat}(h:x<N):((List.range N).map f).getD x []=f x:=by
 rw[KN,KW,KX h];rfl
theorem Gu{f:Ltl}{x:Nat}(h:x<2 ^ z_ m):(Gj m f).2.1.getD x []=((List.range (2 ^ z_ m)).filter fun t=>decide (wo m t=x >>> m.1.length)).map fun t:Nat=>(t:Int):=yx (f:=fun s=>((List.range (2 ^ z_ m)).filter fun t=>decide (wo m t=s >>> m.1.length)).map fun t:Nat=>(t:Int)) h
theorem Gs{f:Ltl}{x:Nat}(h:x<2 ^ z_ m):(Gj m f).2.2.1.getD x 0=iA m x true:=yB (f:=fun s=>iA m s true) h
theorem Gt{f:Ltl}{x:Nat}(h:x<2 ^ z_ m):(Gj m f).2.2.2.1.getD x 0=iA m x false:=yB (f:=fun s=>iA m s false) h
theorem Gr(d:OkT m){f:Ltl}(hf:OkF m f):aa (Gj m f) L↔Ez L f 0:=by
 constructor
 ·rintro⟨r,e⟩
  have o:=rangeN_mem.1 e.first;have a:∀i,r i<2 ^ z_ m:=fun i=>by
   induction i with
   |zero=>exact o.1
   |succ i p=>
    have h1:=e.step i;rw[Gu p]at h1
    exact(rangeN_mem.1 h1).1
  have b:∀i,wo m (r (i+1))=r i >>> m.1.length:=fun i=>by
   have h1:=e.step i;rw[Gu (a i)]at h1
   exact OK (rangeN_mem.1 h1).2
  have l:∀i,∀n∈m.1,(r i).testBit (gG m n).toNat=(L i).testBit n.toNat:=fun i n hn=>by
   have h1:=e.fits i;unfold pA at h1
   rw[JG,Ow,Ow,Gs (a i),Gt (a i)]at h1
   obtain⟨h2,h3⟩:=gI hn;have h4:=(pD d.ok).1 h1 _ h2;rw[h3]at h4
   exact h4.symm
  have c:∀g∈m.2,g.k≠7→∀i,∃j,i≤j∧oq m g (r j)=true:=fun g k q i=>by
   obtain⟨j,h1,h2⟩:=e.fair _ (LP.2 ⟨g,LM.2 ⟨k,Ov q⟩,rfl⟩) i;exact⟨j,h1,(rangeN_mem.1 h2).2⟩
  exact(D6 d b l c f hf 0).1 o.2
 ·intro h
  have a:∀i,Fe L m i<2 ^ z_ m:=fun i=>Bf
  refine⟨Fe L m,rangeN_mem.2 ⟨a 0,(Fj d f hf 0).2 h⟩,fun i=>?_,fun i=>?_,fun F hF i=>?_⟩
  ·unfold pA
   rw[JG,Ow,Ow,Gs (a i),Gt (a i)];exact(pD d.ok).2 fun j s=>(Ff s).symm
  ·rw[Gu (a i)]
   exact rangeN_mem.2 ⟨a (i+1),Ov (Fk d i)⟩
  ·obtain⟨g,k,rfl⟩:=LP.1 hF
   rw[LM]at k
   obtain⟨j,h1,h2⟩:=Fi (L:=L) d k.1 (OK k.2) i;exact⟨j,h1,rangeN_mem.2 ⟨a j,h2⟩⟩
end
theorem Cq:∀(m:Nat) (a b:Ltl),a.nodes≤m→∀(w:World) (F:Nat→Prop) (ao D:Option Addr) (ac bc:Nat),Sl w F ao ac a.kids→Sl w F D bc b.kids→(∀b,F b→b<w.heap.size)→
  Rt Tryz.prog 194 [ye a.k a.n ao a.kids.length ac,ye b.k b.n D b.kids.length bc].toArray w fun v w'=>v=.bool (El a b)∧Ext w w':=by
 intro m
 induction m with
 |zero=>intro a b h;have:=a.nodes_pos;omega
 |succ m L=>
  rintro⟨k,n,xs⟩ ⟨k',x,ys⟩ V w F ao D ac bc G f hF
  simp only[Ltl.k,Ltl.n,Ltl.kids,Ltl.nodes]at*
  have M:=G.len63;refine dE Tryz.func194 Tryz.ntmps194 rfl rfl ?_;refine Pu ?_;refine dX rfl rfl rfl fun K hf C=>?_
  skip;refine dX rfl rfl rfl fun J Q d=>?_
  have hf:=hf.ext d;have d:=C.trans d;have hS:El (.mk k n xs) (.mk k' x ys)=(k==k'&&n==x&&Ep xs ys):=by simp[El]
  rw[hS];refine QM ?_;cases h1:(k != k')with
  |true=>
   refine Q3 ?_;refine be rfl rfl ⟨?_,d⟩;simp at h1;simp[h1]
  |false=>
  have h1:k=k':=by simpa using h1
  refine Rl ?_;cases h2:(n != x)with
  |true=>
   refine Q3 ?_;refine be rfl rfl ⟨?_,d⟩;simp at h2;simp[h2]
  |false=>
  have h2:n=x:=by simpa using h2
  refine P2 ?_;cases h3:((xs.length:Int) != (ys.length:Int))with
  |true=>
   refine Q3 ?_;refine be rfl rfl ⟨?_,d⟩;have h3:xs.length≠ys.length:=by simp at h3;omega
   have:Ep xs ys=false:=by
    rw[JH,Ne,Er];exact fun e=>h3 (by rw[e])
   rw[this];simp
  |false=>
  have h3:xs.length=ys.length:=by simp at h3;omega
  refine QD ?_;refine CW.loop (S:=Nat) (fun i=>[(2,Pr w.heap.size),(3,Pr K.heap.size),(29,Pq xs.length),(30,Pq i)])
   (fun i w'=>i≤xs.length∧Ext J w'∧∀j (h:j<xs.length) (H:j<ys.length),j<i→El xs[j] ys[j]=true) (fun i=>xs.length -i) 0 OZ ⟨by omega,Ext.refl _,by omega⟩ ?_
  rintro i I ⟨hi,g,l⟩
  have R:=hf.ext g;have P:=Q.ext g;have c:=d.trans g;refine Qm ?_;apply CW.cond rfl<;>intro h
  ·have h:i<xs.length:=by simpa using h
   have H:i<ys.length:=by omega
   refine Q_ ?_;refine dk rfl rfl rfl rfl rfl (fun b f=>MK (hF b f) c.size) (G.up0 c hF) h O_ (fun u q N=>?_);refine Rp ?_;refine dk rfl rfl rfl rfl rfl (fun b f=>MK (hF b f) c.size) (f.up0 c hF) H O_ (fun T U y=>?_);obtain⟨uo,uc,rfl,A⟩:=Rd.ltl N;obtain⟨uo',uc',rfl,t⟩:=Rd.ltl y;have r:∀b,F b→b<I.heap.size:=fun b f=>MK (hF b f) c.size
   have o:(xs[i]).nodes≤m:=by have:=Ltl.nodes_kid xs xs[i] (K8 h);omega
   refine QL.call (v:=.bool (El xs[i] ys[i])) rfl rfl rfl (fun E s=>L xs[i] ys[i] o E F uo uo' uc uc' (A.up0 s r) (t.up0 s r) (fun b f=>MK (r b f) s.size)) ?_;refine Rf ?_;refine QL.nil (fun E s=>?_);cases z:El xs[i] ys[i]with
   |true=>
    refine PT ?_;refine EX.back (i+1) OZ ⟨h,g.trans s,fun j B p O=>?_⟩ O0;by_cases e:j=i
    ·subst e;exact z
    ·exact l j B p O0
   |false=>
    refine QF ?_;refine be rfl rfl ⟨?_,c.trans s⟩;have:Ep xs ys=false:=by
     rw[JH,Ne,Er];intro e
     subst e;rw[Eo]at z
     cases z
    rw[this];simp
  ·have h:¬i<xs.length:=by simpa using h
   refine P3 ?_;refine be rfl rfl ⟨?_,c⟩;have:Ep xs ys=true:=by
    rw[Er];exact Ky h3 (fun j B p=>(En _ _).1 (l j B p O0))
   rw[this];simp[h1,h2]
theorem wQ{k n:Int}{kids:List Ltl}(h:IB (.mk k n kids)):kids.length≤2:=by
 simp only[IB]at h
 have h1:=h.1;unfold wO at h1
 split at h1
 ·omega
 ·split at h1
  ·omega
  ·split at h1<;>omega
theorem IG{k n:Int}{kids:List Ltl}(h:IB (.mk k n kids)){i:Nat}(hi:i<kids.length):IB kids[i]:=by
 simp only[IB]at h
 exact ID kids i hi h.2.2.2.2
theorem zL{k n:Int}{kids:List Ltl}{m:Nat}(h:(Ltl.mk k n kids).nodes≤m+1){i:Nat}(hi:i<kids.length):(kids[i]).nodes≤m:=by
 have:=Ltl.nodes_kid kids kids[i] (K8 hi);simp only[Ltl.nodes]at h
 omega

theorem BX:∀(m:Nat) (t:Ltl),t.nodes≤m→IB t→∀(w:World) (F:Nat→Prop) (ao:Option Addr) (cap:Nat),Sl w F ao cap t.kids→(∀b,F b→b<w.heap.size)→
  Rt Tryz.prog 143 [ye t.k t.n ao t.kids.length cap].toArray w fun v w'=>Rd w' (Nw w w') v (BT t)∧Ext w w':=by
 intro m
 induction m with
 |zero=>intro t h;have:=t.nodes_pos;omega
 |succ m ih=>
  rintro⟨k,n,kids⟩ hm W w F ao cap hs hF
  simp only[Ltl.k,Ltl.n,Ltl.kids]at*
  have hkl:=wQ W;refine dD Tryz.func143 Tryz.ntmps143 rfl rfl ?_;refine Pu ?_;refine dX rfl rfl rfl fun P hf hE1=>?_
  refine WL.alloc rfl rfl (fun s hr hE2=>?_);have hf:=hf.ext hE2;have H:=hE1.trans hE2;have hz1:w.heap.size≤P.heap.size:=hE1.size;have O:=hf.lt;have hlr:=hr.lt;refine QM ?_;refine WL.build rfl rfl rfl rfl ?_;refine WL.alloc rfl rfl (fun w3 ho hE3=>?_);refine WL.st rfl rfl rfl ho rfl rfl Pk (fun C ho4 hg4=>?_);have e4:Ext s C:=hE3.grown hg4 hE3.size Pb;have hf4:=hf.ext e4;have hr4:=hr.ext e4;have hE4:=H.trans e4;have hlo:=ho4.lt;have hsz:=H.size;clear hf hr ho hg4 hE3 e4 H;refine QS ?_;refine CW.loop (S:=Nat×Value) (fun x=>[(1,Pr w.heap.size),(2,Pr P.heap.size),(3,Pr s.heap.size),(12,.slice ao kids.length cap),(13,Pq kids.length),(14,Pq x.1)])
   (fun x w'=>x.1≤kids.length∧Ext w w'∧C.heap.size≤w'.heap.size∧Blk w' w.heap.size 28 [Pq k,Pq n,.slice ao kids.length cap]∧Blk w' P.heap.size 28 [Pq 0,Pq 0,.slice none 0 0]∧
    Blk w' s.heap.size 28 [Pq k,Pq n,x.2]∧Grow C.heap.size 28 w' x.2 (BU (kids.take x.1))) (fun x=>kids.length -x.1) (0,.slice none 0 0) OZ ⟨by simp,hE4,MF _,hf4,hr4,ho4,by simpa[BU]using Grow.nil⟩ ?_
  rintro⟨i,kv⟩ c ⟨hi,p,Q,hf5,E,ho5,G⟩
  dsimp only at hi p Q hf5 E ho5 G⊢
  clear hf4 hr4 ho4;refine Qm ?_;apply CW.cond rfl<;>intro h
  ·have h:i<kids.length:=by simpa using h
   refine Q6 ?_;refine eC rfl rfl rfl rfl rfl (hs.up0 p hF) h O_ (fun u q hu=>?_);obtain⟨uo,uc,rfl,hku⟩:=Rd.ltl hu;refine WL.alloc rfl rfl (fun K L hE6=>?_);refine WL.st rfl rfl rfl L rfl rfl Pk (fun j hx7 hg7=>?_);have f:Ext c j:=hE6.grown hg7 hE6.size Pb;have z:=p.trans f;have ed:=Ext.drew j;have hd:=z.trans ed;have ho7:=(ho5.ext f).ext ed;have hxd:=hx7.ext ed;have hG7:=(G.ext f).ext ed;have hlx:=hx7.lt;have U:=f.size;have hKo:∀x,(fun x:World=>x.heap[s.heap.size]?=(drew j).heap[s.heap.size]?∧x.heap[c.heap.size]?=(drew j).heap[c.heap.size]?) x→x.heap[s.heap.size]?=(drew j).heap[s.heap.size]?:=fun _ h=>h.1
   have hKx:∀x,(fun x:World=>x.heap[s.heap.size]?=(drew j).heap[s.heap.size]?∧x.heap[c.heap.size]?=(drew j).heap[c.heap.size]?) x→x.heap[c.heap.size]?=(drew j).heap[c.heap.size]?:=fun _ h=>h.2
   refine PM ?_;refine aE (fun x:World=>x.heap[s.heap.size]?=(drew j).heap[s.heap.size]?∧x.heap[c.heap.size]?=(drew j).heap[c.heap.size]?) [(0,true),(1,true),(2,true),(3,false),(4,false),(5,false),(6,true)] 7 mixed O1 ⟨rfl,rfl⟩ ?_;refine RH ?_;refine ce hKx rfl rfl rfl rfl hxd rfl ?_;skip;have hFd:∀b,F b→b<(drew j).heap.size:=fun b a=>MK (hF b a) hd.size
   have hku':Sl (drew j) F uo uc (kids[i]).kids:=hku.up0 (f.trans ed) (fun b a=>MK (hF b a) p.size);refine cr rfl (WL.call rfl rfl rfl (ih kids[i] (zL hm h) (IG W h) (drew j) F uo uc hku' hFd) ?_);rintro v J ⟨M,I⟩
   have ho8:=ho7.ext I;have hG8:=hG7.ext I;have hsz8:j.heap.size≤J.heap.size:=I.size;refine WL.nil (a_ ⟨I.block _ ho7.lt,I.block _ hlx⟩ ?_);have hgl:=hG7.lt;obtain⟨F',o,hO,hsub⟩:=hG8.open (Fu:=Nw (drew j) J) (fun b a=>⟨MH Q (MH U a.1),a.2⟩) (fun g hg a=>by have:=(hgl g hg).2;have:=a.1;omega);have N:(BU (kids.take i)).length=i:=by rw[BV,Ln,Lv];omega
   have B:=G.lt;refine bV (bytes:=40) (F:=F') rfl rfl rfl rfl O_ rfl rfl O_ hO (M.wk hsub) O0 (fun b a=>(o b a).2) O2 (by rw[N];unfold maxLen;omega) (by rw[N];omega)
    (fun w' hg'=>⟨(hg'.block _ ho8.lt (fun e=>?_)).trans (I.block _ ho7.lt),(hg'.block _ O0 (fun e=>?_)).trans (I.block _ hlx)⟩) (fun cV T q2 hO9 D hnb=>?_)
   ·have:=(B _ e.symm).1;omega
   ·have:=(B _ e.symm).2;omega
   have hG9:Grow C.heap.size 28 T cV (BU (kids.take i)++[BT kids[i]]):=⟨F',fun b a=>⟨(o b a).1,MK (o b a).2 D.size⟩,hO9⟩;rw[show BU (kids.take i)++[BT kids[i]]=BU (kids.take (i+1)) by rw[BV,BV,Mj h,Lz];rfl]at hG9
   obtain⟨co,cc,rfl,_⟩:=hG9.sl;have hnr:∀r,r<C.heap.size→some r≠kv.ownBlock:=fun r hr e=>by have:=(B _ e.symm).1;omega
   have ho9:=ho8.kept D (hnr _ O0);have hf9:=((((hf5.ext f).ext ed).ext I)).kept D (hnr _ O0);have hr9:=((((E.ext f).ext ed).ext I)).kept D (hnr _ O0);have hE8:=hd.trans I;have hE9:Ext w T:=hE8.grown D hE8.size (fun g hg=>by have:=(B g hg).1;omega);refine RM ?_;refine bp rfl (WL.st rfl rfl rfl ho9 rfl rfl Pk (fun w10 ho10 l=>WL.nil (bu ?_)));have hE10:Ext w w10:=hE9.grown l hE9.size Pd;have hsz9:=D.size;have hsz10:=l.size;refine P6 ?_;exact EX.back (i+1,.slice co (BU (kids.take (i+1))).length cc) OZ ⟨h,hE10,by omega,hf9.kept l Ph,hr9.kept l Ph,ho10,hG9.kept l O0⟩ O4
  ·have h:¬i<kids.length:=by simpa using h
   have hik:i=kids.length:=by omega
   subst hik;rw[Mf]at G
   obtain⟨co,cc,rfl,Y⟩:=G.sl;have N:(BU kids).length=kids.length:=by rw[BV,Ln]
   have hout:Rd c (fun b=>C.heap.size≤b∧b<c.heap.size) (ye k n co (BU kids).length cc) (Ltl.mk k n (BU kids)):=Rd.mkLtl Y;have hN:BT (.mk k n kids)=if k=10 then Ltl.mk 8 0 [.mk 1 0 [],(BU kids).getD 0 (.mk 0 0 [])]else if k=11 then .mk 9 0 [.mk 2 0 [],(BU kids).getD 0 (.mk 0 0 [])]else .mk k n (BU kids):=by simp only[BT]
   rw[hN];have R:k=10∨k=11→0<(BU kids).length:=by
    intro hc
    rw[N];have h:=W;simp only[IB]at h
    have h1:=h.1;unfold wO at h1
    rw[OD O0,OE O0]at h1
    omega
   have fin:∀(J T:World) (F':Nat→Prop) (v:Value) (t':Ltl),Rd J F' v t'→(∀b,F' b→C.heap.size≤b∧b<J.heap.size)→J.grownBy T (some P.heap.size)→Rd T (Nw w T) v t':=by
    intro J T F' v t' M o hg
    exact(M.kept hg (fun b a=>⟨(o b a).2,fun e=>by have:=Nj e;have:=(o b a).1;omega⟩)).wk (fun b a=>⟨by have:=(o b a).1;omega,MK (o b a).2 hg.size⟩)
   refine Qo ?_;cases h10:(k==10)with
   |true=>
    have h10:k=10:=by simpa using h10
    have h0:=R (.inl h10);rw[OE h10];have d:=Ext.drew c;have ho6:=ho5.ext d;have hz5:c.heap.size=(drew c).heap.size:=rfl;have hK:∀x,(fun x:World=>SO P.heap.size (drew c) x) x→x.heap[s.heap.size]?=(drew c).heap[s.heap.size]?:=fun x L=>L.2 _ O0 ho6.lt
    refine Qn ?_;refine aF (fun x:World=>SO P.heap.size (drew c) x) [(1,true),(2,true),(3,true),(4,true),(0,false),(5,false),(6,false)] mixed O1 (SO.refl _ _) ?_;refine RH ?_;refine bY (w:=drew c) (F:=fun b=>C.heap.size≤b∧b<c.heap.size) (k:=0) (fun x L b a=>L.2 b (by have:=a.1;omega) a.2) rfl rfl rfl rfl rfl rfl rfl (Y.up0 d (fun b a=>a.2)) h0 O_ (fun u q hu=>?_);refine cr rfl (WL.call rfl rfl rfl (Cr (drew c) cZ 1) ?_);rintro lf K ⟨O,A⟩
    refine WL.nil (a_ ((SO.refl _ _).ext A) ?_);have V:c.heap.size≤K.heap.size:=A.size;have X:Rd K (fun b=>C.heap.size≤b∧b<c.heap.size) u (BU kids)[0]:=hu.up0 A (fun b a=>a.2);refine cr rfl (WL.call rfl rfl rfl (Cs K (F:=fun b=>C.heap.size≤b∧b<c.heap.size) (fun b a=>MK a.2 V) 8 (O.wk fun _ h=>h.elim) X) ?_);rintro v j ⟨M,f⟩
    obtain⟨vo,vc,rfl,hkv⟩:=Rd.ltl M;refine WL.nil (a_ (((SO.refl _ _).ext A).ext f) ?_);have U:=f.size;refine cr rfl (WL.st rfl rfl rfl (((E.ext d).ext A).ext f) rfl rfl Pk (fun J Z y=>?_));refine WL.nil (a_ ((((SO.refl _ _).ext A).ext f).st y) (HL.nil ?_));have z:=((p.trans d).trans A).trans f;have hgd:(BU kids).getD 0 (.mk 0 0 [])=(BU kids)[0]:=by simp[KN,h0]
    refine Qd ?_;refine bg rfl rfl Z rfl ⟨?_,z.grown y z.size Pd⟩;rw[hgd];refine fin _ _ _ _ _ M (fun b a=>?_) y;rcases a with a|a
    ·exact⟨a.1,by have:=a.2;omega⟩
    ·exact⟨by have:=a.1;omega,a.2⟩
   |false=>
   have h10:k≠10:=by simpa using h10
   rw[OD h10];refine Qt ?_;cases h11:(k==11)with
   |true=>
    have h11:k=11:=by simpa using h11
    have h0:=R (.inr h11);rw[OE h11];have d:=Ext.drew c;have ho6:=ho5.ext d;have hz5:c.heap.size=(drew c).heap.size:=rfl;have hK:∀x,(fun x:World=>SO P.heap.size (drew c) x) x→x.heap[s.heap.size]?=(drew c).heap[s.heap.size]?:=fun x L=>L.2 _ O0 ho6.lt
    refine Qn ?_;refine aF (fun x:World=>SO P.heap.size (drew c) x) [(1,true),(2,true),(3,true),(4,true),(0,false),(5,false),(6,false)] mixed O1 (SO.refl _ _) ?_;refine RH ?_;refine bY (w:=drew c) (F:=fun b=>C.heap.size≤b∧b<c.heap.size) (k:=0) (fun x L b a=>L.2 b (by have:=a.1;omega) a.2) rfl rfl rfl rfl rfl rfl rfl (Y.up0 d (fun b a=>a.2)) h0 O_ (fun u q hu=>?_);refine cr rfl (WL.call rfl rfl rfl (Cr (drew c) cZ 2) ?_);rintro lf K ⟨O,A⟩
    refine WL.nil (a_ ((SO.refl _ _).ext A) ?_);have V:c.heap.size≤K.heap.size:=A.size;have X:Rd K (fun b=>C.heap.size≤b∧b<c.heap.size) u (BU kids)[0]:=hu.up0 A (fun b a=>a.2);refine cr rfl (WL.call rfl rfl rfl (Cs K (F:=fun b=>C.heap.size≤b∧b<c.heap.size) (fun b a=>MK a.2 V) 9 (O.wk fun _ h=>h.elim) X) ?_);rintro v j ⟨M,f⟩
    obtain⟨vo,vc,rfl,hkv⟩:=Rd.ltl M;refine WL.nil (a_ (((SO.refl _ _).ext A).ext f) ?_);have U:=f.size;refine cr rfl (WL.st rfl rfl rfl (((E.ext d).ext A).ext f) rfl rfl Pk (fun J Z y=>?_));refine WL.nil (a_ ((((SO.refl _ _).ext A).ext f).st y) (HL.nil ?_));have z:=((p.trans d).trans A).trans f;have hgd:(BU kids).getD 0 (.mk 0 0 [])=(BU kids)[0]:=by simp[KN,h0]
    refine Qd ?_;refine bg rfl rfl Z rfl ⟨?_,z.grown y z.size Pd⟩;rw[hgd];refine fin _ _ _ _ _ M (fun b a=>?_) y;rcases a with a|a
    ·exact⟨a.1,by have:=a.2;omega⟩
    ·exact⟨by have:=a.1;omega,a.2⟩
   |false=>
    have h11:k≠11:=by simpa using h11
    rw[OD h11];refine Qe ?_;refine WL.st rfl rfl rfl E rfl rfl Pk (fun K hr6 hg6=>?_);refine PH ?_;exact bg rfl rfl hr6 rfl ⟨fin _ _ _ _ _ hout (fun b a=>a) hg6,p.grown hg6 p.size Pd⟩
def G0(t:Ltl):Ltl×Int:=if(jw t 1 0).1≠0 then(.mk 0 0 [],(jw t 1 0).1)else(t,0)
theorem G1(w:World){F:Nat→Prop}{v:Value}{t:Ltl}(h:Rd w F v t)(hF:∀b,F b→b<w.heap.size):
  Rt Tryz.prog 142 [v].toArray w fun u w'=>∃x,u=.tuple ⟨[x,Pq (G0 t).2]⟩∧Rd w' F x (G0 t).1∧Ext w w':=by
 obtain⟨ao,cap,rfl,s⟩:=Rd.ltl h;refine dD Tryz.func142 Tryz.ntmps142 rfl rfl ?_;refine Pu ?_;refine dX rfl rfl rfl fun p hf j=>?_
 refine WL.alloc rfl rfl (fun o r i=>?_);have hf:=hf.ext i;have a:=j.trans i;refine Q0 ?_;refine WL.call rfl rfl rfl (ya o (s.up0 a hF) (fun b A=>MK (hF b A) a.size)) ?_;rintro _ n ⟨rfl,l⟩
 have z:=hf.ext l;have f:=r.ext l;have g:=a.trans l;have q:=j.size;have fin:∀k,n.grownBy k (some p.heap.size)→Ext w k:=fun k y=>g.grown y g.size Pd
 refine Qm ?_;unfold G0;apply CW.cond rfl<;>intro e
 ·have e:(jw t 1 0).1≠0:=by simpa using e
  rw[OE e];refine Pu ?_;refine WL.build (parts:=[]) rfl rfl rfl rfl ?_;refine Ra ?_;refine WL.st rfl rfl rfl f rfl rfl Pk (fun m d c=>?_);refine PK ?_;exact bh rfl rfl rfl d rfl ⟨_,rfl,Rd.mkLtl (kids:=[]) (Sl.zero _ _),fin _ c⟩
 ·have e:(jw t 1 0).1=0:=by simpa using e
  rw[OD (by simp[e])];refine QC ?_;refine WL.st rfl rfl rfl f rfl rfl Pk (fun m d c=>?_);refine PB ?_;exact bh rfl rfl rfl d rfl ⟨_,rfl,Rd.up0 h (fin _ c) hF,fin _ c⟩
def BR(t:Ltl):Ltl×Int:=if(jw t 1 0).1≠0 then(.mk 0 0 [],(jw t 1 0).1)else G0 (BT t)
theorem c_(w:World){F:Nat→Prop}{t:Ltl}{ao:Option Addr}{cap:Nat}(C:Sl w F ao cap t.kids)(hF:∀b,F b→b<w.heap.size):
  Rt Tryz.prog 69 [ye t.k t.n ao t.kids.length cap].toArray w fun u w'=>∃x,u=.tuple ⟨[x,Pq (BR t).2]⟩∧Rd w' (Nw w w') x (BR t).1∧Ext w w':=by
 refine dD Tryz.func69 Tryz.ntmps69 rfl rfl ?_;refine Pu ?_;refine dX rfl rfl rfl fun P hf l=>?_
 refine WL.alloc rfl rfl (fun z B g=>?_);have hf:=hf.ext g;have d:=l.trans g;have q:∀b,F b→b<z.heap.size:=fun b a=>MK (hF b a) d.size
 refine Q0 ?_;refine WL.call rfl rfl rfl (ya z (C.up0 d hF) q) ?_;rintro _ D ⟨rfl,m⟩
 have M:=hf.ext m;have j:=B.ext m;have c:=d.trans m;have I:=l.size;have H:=g.size;have K:=B.lt;have G:=m.size;refine Qm ?_;unfold BR;apply CW.cond rfl<;>intro h
 ·have h:(jw t 1 0).1≠0:=by simpa using h
  rw[OE h];refine Pu ?_;refine WL.build (parts:=[]) rfl rfl rfl rfl ?_;refine Ra ?_;refine WL.st rfl rfl rfl j rfl rfl Pk (fun y o p=>?_);refine PK ?_;exact bh rfl rfl rfl o rfl ⟨_,rfl,Rd.mkLtl (kids:=[]) (Sl.zero _ _),c.grown p c.size Pd⟩
 ·have h:(jw t 1 0).1=0:=by simpa using h
  rw[OD (by simp[h])];refine QC ?_;refine WL.call rfl rfl rfl (BX t.nodes t Pm (jD t 1 0 h) D F ao cap (C.up0 c hF) (fun b a=>MK (hF b a) c.size)) ?_;rintro v y ⟨J,s⟩
  refine WL.call rfl rfl rfl (G1 y J (fun b a=>a.2)) ?_;rintro _ O ⟨x,rfl,A,r⟩
  obtain⟨xo,xc,rfl,L⟩:=Rd.ltl A;have k:=(c.trans s).trans r;have E:=s.size;have i:=r.size;refine Ra ?_;refine WL.st rfl rfl rfl ((j.ext s).ext r) rfl rfl Pk (fun N n f=>?_);refine PB ?_;refine bh rfl rfl rfl n rfl ⟨_,rfl,?_,k.grown f k.size Pd⟩;exact(A.kept f (fun b a=>⟨MK a.2 i,fun e=>by have:=Nj e;have:=a.1;omega⟩)).wk (fun b a=>⟨by have:=a.1;omega,MK a.2 (MH i f.size)⟩)
open Go.Shelf
def Fw:Ren:=⟨fun x=>if Nat.beq x 125=true then 147 else if Nat.beq x 128=true then 204 else if Nat.beq x 129=true then 205 else if Nat.beq x 189=true then 71 else if Nat.beq x 215=true then 229 else if Nat.beq x 216=true then 201 else if Nat.beq x 257=true then 146 else if Nat.beq x 294=true then 195 else if Nat.beq x 295=true then 196 else if Nat.beq x 296=true then 197 else if Nat.beq x 297=true then 198 else if Nat.beq x 298=true then 199 else if Nat.beq x 299=true then 200 else if Nat.beq x 300=true then 202 else if Nat.beq x 301=true then 203 else if Nat.beq x 328=true then 224 else if Nat.beq x 329=true then 225 else if Nat.beq x 330=true then 226 else if Nat.beq x 331=true then 227 else if Nat.beq x 332=true then 228 else if Nat.beq x 343=true then 238 else 0,fun x=>if Nat.beq x 0=true then 0 else if Nat.beq x 3=true then 3 else if Nat.beq x 4=true then 4 else if Nat.beq x 5=true then 5 else if Nat.beq x 9=true then 9 else if Nat.beq x 28=true then 39 else if Nat.beq x 46=true then 221 else if Nat.beq x 51=true then 263 else if Nat.beq x 53=true then 82 else if Nat.beq x 131=true then 230 else if Nat.beq x 182=true then 255 else if Nat.beq x 183=true then 256 else if Nat.beq x 218=true then 276 else if Nat.beq x 222=true then 151 else if Nat.beq x 228=true then 286 else if Nat.beq x 229=true then 287 else 0,fun x=>x⟩
set_option maxRecDepth 100000 in
theorem Fv:Lays.n189 Tryz.prog Fw where
 mixed:=by kernel_rfl
 f125:=(Tryz.func147).trans O1
 f128:=(Tryz.func204).trans O1
 f129:=(Tryz.func205).trans O1
 f189:=(Tryz.func71).trans O1
 f215:=(Tryz.func229).trans O1
 f216:=(Tryz.func201).trans O1
 f257:=(Tryz.func146).trans O1
 f294:=(Tryz.func195).trans O1
 f295:=(Tryz.func196).trans O1
 f296:=(Tryz.func197).trans O1
 f297:=(Tryz.func198).trans O1
 f298:=(Tryz.func199).trans O1
 f299:=(Tryz.func200).trans O1
 f300:=(Tryz.func202).trans O1
 f301:=(Tryz.func203).trans O1
 f328:=(Tryz.func224).trans O1
 f329:=(Tryz.func225).trans O1
 f330:=(Tryz.func226).trans O1
 f331:=(Tryz.func227).trans O1
 f332:=(Tryz.func228).trans O1
 f343:=(Tryz.func238).trans O1
 t0:=Tryz.underlying0
 a0:=Tryz.isAgg0
 z0:=Tryz.sizeOf0
 v0:=Tryz.zeroValue0
 t3:=NP
 a3:=Nv
 z3:=NB
 v3:=N9
 t4:=NT
 a4:=Nx
 z4:=NC
 v4:=N_
 t5:=NW
 a5:=Tryz.isAgg5
 z5:=Tryz.sizeOf5
 v5:=Oa
 t9:=N6
 a9:=Tryz.isAgg9
 z9:=Tryz.sizeOf9
 v9:=Ob
 t28:=NS
 a28:=Tryz.isAgg39
 z28:=Tryz.sizeOf39
 v28:=Tryz.zeroValue39
 t46:=NI
 a46:=Tryz.isAgg221
 z46:=Nz
 v46:=N7
 t51:=NO
 a51:=Tryz.isAgg263
 z51:=NA
 v51:=N8
 t53:=N5
 a53:=Tryz.isAgg82
 z53:=Tryz.sizeOf82
 v53:=Tryz.zeroValue82
 t131:=Tryz.underlying230
 a131:=Tryz.isAgg230
 z131:=Tryz.sizeOf230
 v131:=Tryz.zeroValue230
 t182:=Tryz.underlying255
 a182:=Tryz.isAgg255
 z182:=Tryz.sizeOf255
 v182:=Tryz.zeroValue255
 t183:=Tryz.underlying256
 a183:=Tryz.isAgg256
 z183:=Tryz.sizeOf256
 v183:=Tryz.zeroValue256
 t218:=Tryz.underlying276
 a218:=Tryz.isAgg276
 z218:=Tryz.sizeOf276
 v218:=Tryz.zeroValue276
 t222:=Tryz.underlying151
 a222:=Tryz.isAgg151
 z222:=Tryz.sizeOf151
 v222:=Tryz.zeroValue151
 t228:=Tryz.underlying286
 a228:=Tryz.isAgg286
 z228:=Tryz.sizeOf286
 v228:=Tryz.zeroValue286
 t229:=Tryz.underlying287
 a229:=Tryz.isAgg287
 z229:=Tryz.sizeOf287
 v229:=Tryz.zeroValue287
theorem oh(w:World)(os:Array Obj):Ext w (Sort.grow w os):=⟨rfl,rfl,rfl,by simp[Sort.grow],fun k a=>by simp[Sort.grow,Jo a]⟩
def Fs(xs:List Int):List Int:=xs.mergeSort fun x y=>decide (x≤y)
theorem sortI_mem{xs:List Int}{x:Int}:x∈Fs xs↔x∈xs:=List.mem_mergeSort
theorem Ft{xs:List Int}:(Fs xs).length=xs.length:=List.length_mergeSort xs
theorem Fx(w:World){B:Nat}{v:Value}{xs:List Int}(a:Own w B 3 cZ v xs)(o:xs.length<4611686018427387904):
  Rt Tryz.prog 71 [v].toArray w fun u w'=>u=.tuple #[]∧Own w' B 3 cZ v (Fs xs)∧w.grownBy w' v.ownBlock:=by
 have H:w.grownBy w v.ownBlock:=⟨rfl,rfl,rfl,MF _,fun _ _ _=>rfl⟩;rcases a with⟨rfl,rfl⟩|⟨g,off,cap,cur,rfl,a⟩
 ·refine JV (Any.slices_Sort_int_none Fv none 0 w) ?_
  rintro e w' ⟨rfl,rfl⟩
  exact⟨_,rfl,rfl,by rw[show Fs []=[] by simp[Fs]];exact Own.nil,H⟩
 ·have s:sz Int=1:=rfl
  have q:=a.fit;have L:=a.le;have G:=a.mx;have r:=mX a.el;rw[s,MU]at q r
  have b:∀j (d:j<xs.length),cur[off+j]?=some (Pq xs[j]):=fun j d=>by
   have h1:((cur.toList.drop off).take xs.length)[j]?=(xs.map fun x=>Pq x)[j]?:=by rw[r]
   rw[K1 d,KR,KW,KT d]at h1
   simpa using h1
  have M:Sort.Holds (Value.int .i64) w g off xs.toArray:=fun j d=>by
   have p:j<xs.length:=by simpa using d
   constructor
   ·have:xs.toArray[j]! =xs[j]:=by simp[p]
    rw[this];simp[World.cell?,a.blk,b j p]
   ·simp[World.frozen?,a.blk]
  have z:=Ft (xs:=xs);refine JV (Any.slices_Sort_int Fv g off cap xs w M (Jq.1 a.blk).1 o) ?_;rintro e w' ⟨rfl,n,os,rfl⟩
  generalize m:(xs.mergeSort fun x y=>decide (x≤y))=ys at*
  have l:ys.length=xs.length:=by rw[←m];exact z
  rw[show Fs xs=ys from m];have f:(Sort.putRow (Value.int .i64) (Sort.ahead w n) g off ys.toArray).heap[g]?=some (.cells (Sort.putCells (Value.int .i64) off ys.toArray cur) 3 (0,0)):=by
   show(w.heap.modify g _)[g]?=_;rw[Js,OE rfl,a.blk];rfl
  have c:∀k,k≠g→(Sort.putRow (Value.int .i64) (Sort.ahead w n) g off ys.toArray).heap[k]?=w.heap[k]?:=fun k J=>by
   show(w.heap.modify g _)[k]?=_;rw[Js,OD (fun e=>J e.symm)]
  have A:(Sort.putRow (Value.int .i64) (Sort.ahead w n) g off ys.toArray).heap.size=w.heap.size:=by
   show(w.heap.modify g _).size=_;rw[Jz]
  have E:(Sort.putRow (Value.int .i64) (Sort.ahead w n) g off ys.toArray).os=w.os:=rfl;have t:(Sort.putRow (Value.int .i64) (Sort.ahead w n) g off ys.toArray).tape=w.tape:=rfl;have D:(Sort.putRow (Value.int .i64) (Sort.ahead w n) g off ys.toArray).output=w.output:=rfl;generalize Sort.putRow (Value.int .i64) (Sort.ahead w n) g off ys.toArray=i at*
  have h:Ext i (Sort.grow i os):=oh i os;generalize Sort.grow i os=K at*
  have C:(Sort.putCells (Value.int .i64) off ys.toArray cur).size=cur.size:=by simp[Sort.putCells]
  have ho1:Own i B 3 cZ (.slice (some ⟨g,off,none⟩) xs.length cap) ys:=by
   refine .inr ⟨g,off,cap,_,by rw[l],⟨f,a.ge,a.nF,by omega,G,by rw[C,s];omega,?_⟩⟩;have N:(((Sort.putCells (Value.int .i64) off ys.toArray cur).toList.drop off).take (ys.length*sz Int))=ys.map fun x=>Pq x:=by
    rw[s,MU];refine Kz fun j=>?_
    by_cases d:j<xs.length
    ·rw[K1 O0,KR,Jw,Sort.putCells,Jr,b j d,KW,KT O0]
     simp[show j<ys.length by omega,show off+j<off+ys.length by omega]
    ·rw[KU O6,KU O6]
   rw[N];exact mY _ _ _
  have I:w.grownBy K (some g):=⟨h.os.trans E,h.tape.trans t,h.output.trans D,MH O0 h.size,fun k J F=>(h.block k O0).trans (c k (fun e=>F (by rw[e])))⟩;exact⟨_,rfl,rfl,ho1.extN h,I⟩
def Gl(f:Ltl):cW:=(Fs (qh f ([],[])).1,(qh f ([],[])).2)
def nilA5:cD:=([],[],[],[],[])
def yj(t:Ltl):cD×Int:=if(BR t).2≠0 then(nilA5,(BR t).2)else if z_ (Gl (BR t).1)>10 then(nilA5,2)else(Gj (Gl (BR t).1) (BR t).1,0)
theorem BS{t:Ltl}(h:(BR t).2=0):IB t∧(BR t).1=BT t∧IB (BT t)∧(BT t).nodes≤60:=by
 unfold BR at h⊢
 split at h
 ·rename_i h1;exact absurd h h1
 rename_i h1;rw[OD h1];unfold G0 at h⊢
 split at h
 ·rename_i h2;exact absurd h h2
 rename_i h2;rw[OD h2];have h1:=(jW t).1 (by simpa using h1);have h2:=(jW (BT t)).1 (by simpa using h2);exact⟨h1.1,rfl,h2.1,h2.2.1⟩
theorem Gn(f:Ltl):Les (qh f ([],[])) (Gl f):=⟨fun x a=>sortI_mem.2 a,fun x a=>a⟩
theorem Gq{f:Ltl}(b:IB f)(c:rN f 10=false)(h1:rN f 11=false):OkM (Gl f):=by
 have h:=qp f ([],[]) OkM.nil b c h1;exact⟨(List.mergeSort_perm _ _).nodup_iff.2 h.na,fun x a=>h.ra x (sortI_mem.1 a),h.wp⟩
theorem Gp{f:Ltl}(b:IB f)(c:rN f 10=false)(h1:rN f 11=false):OkT (Gl f)∧OkF (Gl f) f:=by
 have d:=Cov.les (Gn f) f (qj f ([],[]));refine⟨⟨Gq b c h1,fun g a=>?_⟩,b,c,h1,d⟩;exact qi f ([],[]) (Gl f) (Gn f) (fun g a=>by cases a) g a
theorem Gm(f:Ltl):(Gl f).1.length=(qh f ([],[])).1.length∧(Gl f).2=(qh f ([],[])).2:=⟨Ft,rfl⟩
theorem Gk{m:cW}{f:Ltl}(h:z_ m≤10):OkA (Gj m f):=by
 have i:2 ^ z_ m≤2 ^ 10:=M0 O0 h;have b:(Gj m f).2.1.length=2 ^ z_ m:=by show(List.map _ _).length=_;rw[Ln,Lq]
 have c:∀(p:Nat→Bool),Ax (2 ^ z_ m) (((List.range (2 ^ z_ m)).filter p).map fun s:Nat=>(s:Int)):=fun p x e=>by
  obtain⟨y,d,rfl⟩:=LP.1 e;rw[LM,LU]at d
  have:=d.1;constructor
  ·omega
  ·exact_mod_cast this
 refine⟨by rw[b];omega,?_,?_,?_,?_,fun r a=>?_,fun r a=>?_⟩
 ·show(List.map _ (List.filter _ _)).length≤80
  rw[Ln];have:=Lm (fun g:Ltl=>decide (g.k≠7)) m.2;unfold z_ at h;omega
 ·rw[b];show(List.map _ _).length=_;rw[Ln,Lq]
 ·rw[b];show(List.map _ _).length=_;rw[Ln,Lq]
 ·rw[b];exact c _
 ·rw[b]
  obtain⟨s,_,rfl⟩:=LP.1 a;exact c _
 ·rw[b]
  obtain⟨s,_,rfl⟩:=LP.1 a;exact c _
theorem yk{t:Ltl}{L:Nat→Nat}(h:(yj t).2=0):OkA (yj t).1∧(aa (yj t).1 L↔Ez L t 0)∧IB t:=by
 unfold yj at h⊢
 split at h
 ·rename_i h1;exact absurd h h1
 rename_i h1;rw[OD h1];split at h
 ·exact absurd h O2
 rename_i h2;rw[OD h2];obtain⟨b,c,a,_⟩:=BS (by simpa using h1:(BR t).2=0);rw[c]at h2⊢
 have hh:=BW t b;obtain⟨d,hF⟩:=Gp a hh.1 hh.2;refine⟨Gk O0,?_,b⟩;show aa (Gj (Gl (BT t)) (BT t)) L↔Ez L t 0;rw[Gr d hF,BY t b 0]
theorem Gc{g:List (List Int)}{n:Nat}(h:∀r∈g,r.length≤n):mG g≤g.length*n:=by
 induction g with
 |nil=>simp[mG]
 |cons a r b=>
  have h1:=b (fun x c=>h x (LJ _ c));have h2:=h a (LK ..);unfold mG at*
  simp only[LB,Mc,Lh,Mo];omega
theorem Ev{p:Nat→Bool}{N:Nat}:(((List.range N).filter p).map fun s:Nat=>(s:Int)).length≤N:=by
 rw[Ln];exact MH (Lm _ _) (by rw[Lq];exact MF _)
theorem yl(t:Ltl):mG (yj t).1.2.1+(yj t).1.1.length≤8589934592∧(∀j,((yj t).1.2.1.getD j []).length≤1048576)∧(yj t).1.1.length≤1048576:=by
 have c:mG nilA5.2.1+nilA5.1.length≤8589934592∧(∀j,(nilA5.2.1.getD j []).length≤1048576)∧nilA5.1.length≤1048576:=by
  refine⟨by decide,fun j=>?_,by decide⟩;show(([]:List (List Int)).getD j []).length≤_;simp
 unfold yj;split
 ·exact c
 ·split
  ·exact c
  ·rename_i h10
   generalize Gl (BR t).1=m at*
   generalize (BR t).1=f;have b:2 ^ z_ m≤2 ^ 10:=M0 O0 O0;have a:∀r∈(Gj m f).2.1,r.length≤1024:=fun r d=>by
    obtain⟨s,_,rfl⟩:=LP.1 d;exact MH Ev b
   have e:(Gj m f).2.1.length≤1024:=by
    show((List.range (2 ^ z_ m)).map _).length≤1024;rw[Ln,Lq];exact b
   have h1:(Gj m f).1.length≤1024:=MH Ev b;have h2:=Gc a;have h3:(Gj m f).2.1.length*1024≤1024*1024:=MT _ e;dsimp only;refine⟨by omega,fun j=>?_,by omega⟩;rw[KN];cases g:(Gj m f).2.1[j]? with
   |none=>simp
   |some r=>exact MH (a r (LR g)) O2


instance vT:IsF Tryz.prog 192:=⟨_,Tryz.func192,rfl,by decide⟩
theorem vE(w0:World){ao:Option Addr}{cap:Nat}{xs:List Ltl}{fv:Value}(p:Ltl→Bool)(f:Sl w0 (c7 w0) ao cap xs)
  (hf:∀w,Ext w0 w→∀i (h:i<xs.length) u,Rd w (c7 w0) u xs[i]→FnV Tryz.prog fv [u] w fun v w'=>v=.bool (p xs[i])∧Ext w w'):
  Rt Tryz.prog 192 [.slice ao xs.length cap,fv].toArray w0 fun v w'=>v=Pq (idxOf p xs)∧Ext w0 w':=by
 have m:=f.len63;refine dE Tryz.func192 Tryz.ntmps192 rfl rfl ?_;refine QZ ?_;refine CW.loop (S:=Nat) (fun k=>[(0,.slice ao xs.length cap),(1,fv),(7,Pq xs.length),(8,Pq k)])
  (fun k w=>k≤xs.length∧Ext w0 w∧∀j (h:j<xs.length),j<k→p xs[j]=false) (fun k=>xs.length -k) 0 OZ ⟨by omega,Ext.refl _,by omega⟩ ?_
 rintro k w ⟨n,b,hn⟩
 refine Qm ?_;apply CW.cond rfl<;>intro h
 ·simp at h
  refine PL ?_;refine eC rfl rfl rfl rfl rfl (f.at b) h O_ (fun u q g=>?_);refine d7 rfl rfl rfl rfl (hf w b k h u g) ?_;rintro v w' ⟨rfl,a⟩
  refine PM ?_;refine CW.cond rfl (fun d=>?_) (fun d=>?_)
  ·refine Pt ?_
   refine be rfl rfl ⟨?_,b.trans a⟩;rw[vb h hn d]
  ·refine Pz ?_
   refine EX.back (k+1) OZ ⟨h,b.trans a,?_⟩ O0;intro j c l
   by_cases e:j=k
   ·subst e;exact d
   ·exact hn j c O0
 ·simp at h
  refine P3 ?_;refine be rfl rfl ⟨?_,b⟩;rw[vi (fun j c=>hn j c O0)]
theorem iB(a b:Nat)(f:a<4611686018427387904)(e:b<4611686018427387904):bits .and .i64 (a:Int) (b:Int)=((a&&&b:Nat):Int):=by
 have c:a&&&b≤a:=Nat.and_le_left;have h1:(BitVec.ofInt 64 (a:Int)).toNat=a:=by
  rw[JE,JF];exact MO O0
 have h2:(BitVec.ofInt 64 (b:Int)).toNat=b:=by
  rw[JE,JF];exact MO O0
 show IntKind.i64.wrap ((BitVec.ofInt 64 (a:Int)&&&BitVec.ofInt 64 (b:Int)).toNat:Int)=_;rw[BitVec.toNat_and,h1,h2,Jf O0 O0]
theorem iD(a b:Nat)(f:a<4611686018427387904)(e:b<4611686018427387904):bits .or .i64 (a:Int) (b:Int)=((a|||b:Nat):Int):=by
 have c:a|||b<2 ^ 62:=MZ O0 O0;have h1:(BitVec.ofInt 64 (a:Int)).toNat=a:=by
  rw[JE,JF];exact MO O0
 have h2:(BitVec.ofInt 64 (b:Int)).toNat=b:=by
  rw[JE,JF];exact MO O0
 show IntKind.i64.wrap ((BitVec.ofInt 64 (a:Int)|||BitVec.ofInt 64 (b:Int)).toNat:Int)=_;rw[BitVec.toNat_or,h1,h2,Jf O0 O0]
theorem iE(a b:Nat)(e:a<18446744073709551616)(c:b<18446744073709551616):bits .or .u64 (a:Int) (b:Int)=((a|||b:Nat):Int):=bits_or_u64_nat a b e c
theorem E7{s:Nat}(a:s<62):IntKind.i64.wrap (1*2 ^ min ((s:Int)).toNat IntKind.i64.bits)=((1 <<< s:Nat):Int):=by
 have h1:min s (IntKind.bits .i64)=s:=by show min s 64=s;omega
 have h2:2 ^ s<2 ^ 62:=M1 O0 a;simp only[J7,h1,J6];have h3:((2:Int) ^ s)=((2 ^ s:Nat):Int):=by norm_cast
 rw[h3,MY];generalize 2 ^ s=x at*
 rw[Jf O0 O0]
theorem E8{s:Nat}(a:s<64):IntKind.u64.wrap (1*2 ^ min ((s:Int)).toNat IntKind.u64.bits)=((1 <<< s:Nat):Int):=by
 have h1:min s (IntKind.bits .u64)=s:=by show min s 64=s;omega
 have h2:2 ^ s<2 ^ 64:=M1 O0 a;simp only[J7,h1,J6];have h3:((2:Int) ^ s)=((2 ^ s:Nat):Int):=by norm_cast
 rw[h3,MY,IntKind.wrap_u64];generalize 2 ^ s=x at*
 omega
theorem D_(P:Program)(w:World)(a s:Nat)(b:s≤62)(t:TypeId):(binOp .shr t (Pq (a:Int)) (Pq (s:Int))).run P w=.ok (Pq ((a >>> s:Nat):Int)) w:=by
 rw[binOp_shr,shift_shr_i64 (h₀:=by omega) (h₁:=by omega),J7,M2];have:((a:Int) / 2 ^ s)=((a / 2 ^ s:Nat):Int):=by norm_cast
 rw[this];rfl
section
variable {P:Program}{Q:Exit→Act→World→Prop}{n:Nat}{σ:Sg}{w wc:World}{L rest:List Oper}{ord:List (Nat×Bool)}{S:World→Prop}{i d:Nat}{ty:TypeId}{pos:String}{af:Array Edge}{g:Option (Nat×Bool)}{t yt:TypeId}{x y:Operand}
theorem fu{a s:Nat}(j:gd L σ ⟨some d,.binOp .shr t x y yt,ty,pos,af,g⟩=some true)(hd:Nat.ble (d+1) n=true)(e:ev σ x=some (Pq (a:Int)))(c:ev σ y=some (Pq (s:Int)))(f:s≤62)
  (h:WL P L Q rest n ((d,Pq ((a >>> s:Nat):Int))::σ) w):WL P L Q (⟨some d,.binOp .shr t x y yt,ty,pos,af,g⟩::rest) n σ w:=by
 refine WL.run j hd (fun k b=>?_) h;have:=D_ P w a s f t;simp[execOp,b.ev e,b.ev c,nr (op:=.shr) rfl,this]
theorem cz{a s:Nat}(k:zU L i=some ⟨some d,.binOp .shr t x y yt,ty,pos,af,g⟩)(l:gd L σ ⟨some d,.binOp .shr t x y yt,ty,pos,af,g⟩=some true)(hd:Nat.ble (d+1) n=true)(f:ev σ x=some (Pq (a:Int)))(e:ev σ y=some (Pq (s:Int)))(j:s≤62)
  (h:HL P L S Q ord n ((d,Pq ((a >>> s:Nat):Int))::σ) wc):HL P L S Q ((i,true)::ord) n σ wc:=by
 refine HL.run k l hd (fun m b c _=>?_) h;have:=D_ P c a s j t;simp[execOp,b.ev f,b.ev e,nr (op:=.shr) rfl,this]
end
instance uR:IsFd Tryz.prog 158 0 0:=IsFd.of O1
instance uS:IsFd Tryz.prog 158 1 1:=IsFd.of O1
instance uT:IsZC Tryz.prog 158 [.slice none 0 0,.slice none 0 0]:=IsZC.of (z:=.agg #[.slice none 0 0,.slice none 0 0]) O1 rfl
instance uU:IsBd Tryz.prog 158 [(0,1),(1,1)]:=IsBd.of O1
structure MkA(w:World)(sb:Nat)(m:cW):Prop where
 ok:∃ao ac po pc,Blk w sb 158 [.slice ao m.1.length ac,.slice po m.2.length pc]∧Sl w (c7 w) ao ac m.1∧Sl w (c7 w) po pc m.2
theorem MkA.ext{w w':World}{sb:Nat}{m:cW}(h:MkA w sb m)(a:Ext w w'):MkA w' sb m:=by
 obtain⟨ao,ac,b,c,h1,h2,h3⟩:=h.ok;exact⟨ao,ac,b,c,h1.ext a,h2.up a,h3.up a⟩
theorem Bp(w:World)(b:Nat){t g:Ltl}{ao go:Option Addr}{ac gc:Nat}(d:Blk w b 28 [Pq t.k,Pq t.n,.slice ao t.kids.length ac])(e:Sl w (c7 w) ao ac t.kids)(f:Sl w (c7 w) go gc g.kids):
  Rt Tryz.prog 193 [ye g.k g.n go g.kids.length gc,Pr b].toArray w fun v w'=>v=.bool (El t g)∧Ext w w':=by
 refine dE Tryz.func193 Tryz.ntmps193 rfl rfl ?_;refine Pu ?_;refine dX rfl rfl rfl fun c h a=>?_
 have d:=d.ext a;refine Q0 ?_;refine WL.call rfl rfl rfl (Cq _ t g Pm c (c7 c) ao go ac gc (e.up a) (f.up a) Pe) ?_;rintro _ j ⟨rfl,i⟩
 refine PB ?_;exact be rfl rfl ⟨rfl,a.trans i⟩
theorem Bw(w:World){sb:Nat}{m:cW}{t:Ltl}{ko:Option Addr}{kc:Nat}(n:MkA w sb m)(j:Sl w (c7 w) ko kc t.kids):
  Rt Tryz.prog 145 [Pr sb,ye t.k t.n ko t.kids.length kc].toArray w fun v w'=>v=Pq (Bs m t)∧Ext w w':=by
 refine dE Tryz.func145 Tryz.ntmps145 rfl rfl ?_;refine Pu ?_;refine dX rfl rfl rfl fun g c d=>?_
 obtain⟨ao,ac,p,q,f,h1,h2⟩:=(n.ext d).ok;refine QW ?_;refine WL.call rfl rfl rfl (vE g (El t) h2 (fun e a i hi u h=>?_)) ?_
 ·obtain⟨go,gc,rfl,k⟩:=Rd.ltl h
  exact FnV.mk (cs:=[_]) (Bp e _ (c.ext a) (j.up (d.trans a)) (k.mono Pj (fun b l=>MK l a.size)))
 rintro _ e ⟨rfl,o⟩
 refine PB ?_;exact be rfl rfl ⟨rfl,d.trans o⟩
theorem j_{s i:Nat}:((((s >>> i&&&1:Nat):Int))==1)=s.testBit i:=by
 rw[JI,←E9];simp only[Oj];omega
theorem ka(w0:World){sb:Nat}{m:cW}{t:Ltl}{s:Nat}{ko:Option Addr}{kc:Nat}(o:MkA w0 sb m)(r:Sl w0 (c7 w0) ko kc t.kids)(A:s<1048576)(B:m.1.length≤20∧m.2.length≤20)(h3:t.k=3→t.n∈m.1)(q:t.k≠3→t∈m.2):
  Rt Tryz.prog 148 [Pr sb,ye t.k t.n ko t.kids.length kc,Pq (s:Int)].toArray w0 fun v w'=>v=.bool (j9 m s t)∧Ext w0 w':=by
 refine dF Tryz.func148 Tryz.ntmps148 rfl rfl ?_;refine Pu ?_;refine dX rfl rfl rfl fun a l g=>?_
 obtain⟨ao,ac,w,x,e,h1,h2⟩:=(o.ext g).ok;have c:∀i:Nat,s >>> i<4611686018427387904:=fun i=>by have:=M3 s i;omega
 have b:=Ext.drew a;have u:∀z,(fun z:World=>Ext (drew a) z) z→Ext (drew a) z:=fun _ h=>h
 have k:=e.ext b;have n:=l.ext b;refine QM ?_;apply CW.cond rfl<;>intro h
 ·have h:t.k=3:=by simpa using h
  obtain⟨i,hi,d,_⟩:=gH (h3 h);have j:j9 m s t=s.testBit i:=by unfold j9;rw[OE h,d,J7]
  rw[j];refine PU ?_;refine aF (fun z:World=>Ext (drew a) z) [(0,true),(1,true),(2,true),(3,true),(4,true),(5,true),(6,true),(7,false),(8,true),(9,true),(10,true),(11,true)] mixed O1 Po ?_;refine RD ?_;refine cr rfl (WL.call rfl rfl rfl (vH (drew a) t.n (h1.up b)) ?_);rintro _ p ⟨rfl,f⟩
  refine WL.nil (a_ f ?_);rw[show idxOf (fun y=>t.n==y) m.1=(i:Int) from d];skip;refine cz rfl rfl rfl rfl rfl O0 ?_;refine RJ ?_;rw[show bits .and .i64 ((s >>> i:Nat):Int) 1=((s >>> i&&&1:Nat):Int) from iB _ 1 (c i) O0,j_];skip;refine Qd ?_;exact be rfl rfl ⟨rfl,(g.trans b).trans f⟩
 ·have h:t.k≠3:=by simpa using h
  obtain⟨i,hi,d,_⟩:=Bt (q h);have j:j9 m s t=s.testBit (m.1.length+i):=by unfold j9;rw[OD h,d,J7]
  rw[j];refine QT ?_;refine aF (fun z:World=>Ext (drew a) z) [(0,true),(1,true),(2,true),(3,true),(4,true),(5,true),(6,true),(7,true),(8,false),(9,true),(10,true),(11,true),(12,true),(13,true)] mixed O1 Po ?_;refine RG ?_;refine cr rfl (WL.call rfl rfl rfl (Bw (drew a) (t:=t) ((o.ext g).ext b) (r.up (g.trans b))) ?_);rintro _ p ⟨rfl,f⟩
  refine WL.nil (a_ f ?_);rw[d];refine RH ?_;rw[show((m.1.length:Nat):Int)+(i:Int)=((m.1.length+i:Nat):Int) by omega];refine cz rfl rfl rfl rfl rfl O0 ?_;refine RJ ?_;rw[show bits .and .i64 ((s >>> (m.1.length+i):Nat):Int) 1=((s >>> (m.1.length+i)&&&1:Nat):Int) from iB _ 1 (c _) O0,j_];skip;refine PJ ?_;exact be rfl rfl ⟨rfl,(g.trans b).trans f⟩
theorem IE:∀t,IB t→t=.mk 1 0 []∨t=.mk 2 0 []∨(∃n,t=.mk 3 n [])∨(∃k a,(k=4∨k=7∨k=10∨k=11)∧t=.mk k 0 [a])∨∃k a b,(k=5∨k=6∨k=8∨k=9)∧t=.mk k 0 [a,b]:=
 IF (M:=fun t=>t=.mk 1 0 []∨t=.mk 2 0 []∨(∃n,t=.mk 3 n [])∨(∃k a,(k=4∨k=7∨k=10∨k=11)∧t=.mk k 0 [a])∨∃k a b,(k=5∨k=6∨k=8∨k=9)∧t=.mk k 0 [a,b])
  (.inl rfl) (.inr (.inl rfl)) (fun n _ _=>.inr (.inr (.inl ⟨n,rfl⟩))) (fun k a c _ _=>.inr (.inr (.inr (.inl ⟨k,a,c,rfl⟩)))) (fun k a b c _ _ _ _=>.inr (.inr (.inr (.inr ⟨k,a,b,c,rfl⟩))))
set_option maxHeartbeats 2000000 in
theorem GM:∀(d:Nat) (t:Ltl),t.nodes≤d→∀(w0:World) {sb:Nat} {m:cW} {s:Nat} {ko:Option Addr} {kc:Nat},MkA w0 sb m→OkF m t→Sl w0 (c7 w0) ko kc t.kids→s<1048576→(m.1.length≤20∧m.2.length≤20)→
  Rt Tryz.prog 73 [Pr sb,ye t.k t.n ko t.kids.length kc,Pq (s:Int)].toArray w0 fun v w'=>v=.bool (rQ m s t)∧Ext w0 w':=by
 intro d
 induction d with
 |zero=>intro t h;have:=t.nodes_pos;omega
 |succ d D=>
  intro t hd w0 sb m s ko kc A hF y w x
  have J:=hF.cov;rcases IE t hF.wf with rfl|rfl|⟨n,rfl⟩|⟨k,a,G,rfl⟩|⟨k,a,b,G,rfl⟩
  ·refine dF Nu Ny rfl rfl ?_
   rw[ho1];refine Pu ?_;refine dX rfl rfl rfl fun p c e=>?_
   refine P1 ?_;exact be rfl rfl ⟨rfl,e⟩
  ·refine dF Nu Ny rfl rfl ?_
   rw[ho2];refine Pu ?_;refine dX rfl rfl rfl fun p c e=>?_
   refine P1 ?_;exact be rfl rfl ⟨rfl,e⟩
  ·simp only[Cov]at J
   have h3:=ho3 (m:=m) (s:=s) (n:=n);refine dF Nu Ny rfl rfl ?_;refine Pu ?_;refine dX rfl rfl rfl fun p c e=>?_
   refine Q2 ?_;refine WL.call rfl rfl rfl (ka p (t:=.mk 3 n []) (A.ext e) (y.up e) w x (fun _=>J.1 trivial) (fun h=>absurd rfl h)) ?_;rintro _ C ⟨rfl,f⟩
   refine PB ?_;exact be rfl rfl ⟨by rw[h3];rfl,e.trans f⟩
  ·have H:=hF.un
   have z:a.nodes≤d:=by simp only[Ltl.nodes,Ltl.nodesL]at hd;omega
   rcases G with rfl|rfl|rfl|rfl
   ·refine dF Nu Ny rfl rfl ?_
    rw[ho4];refine Pu ?_;refine dX rfl rfl rfl fun p c e=>?_
    refine Qs ?_;refine eC (i:=0) rfl rfl rfl rfl rfl (y.up e) (by simp[Ltl.kids]) O_ (fun u q o=>?_);obtain⟨uo,uc,rfl,g⟩:=Rd.ltl (t:=a) o;refine Ra ?_;refine WL.call rfl rfl rfl (D a z p (A.ext e) H g w x) ?_;rintro _ C ⟨rfl,f⟩
    refine PV ?_;exact be rfl rfl ⟨rfl,e.trans f⟩
   ·simp only[Cov]at J
    have N:=ho7 (m:=m) (s:=s) (n:=0) (a:=a);refine dF Nu Ny rfl rfl ?_;refine Pu ?_;refine dX rfl rfl rfl fun p c e=>?_
    refine Q2 ?_;refine WL.call rfl rfl rfl (ka p (t:=.mk 7 0 [a]) (A.ext e) (y.up e) w x (fun h=>by cases h) (fun _=>J.2.1 O3)) ?_;rintro _ C ⟨rfl,f⟩
    refine PB ?_;exact be rfl rfl ⟨by rw[N];rfl,e.trans f⟩
   ·have:=hF.h10;simp[rN]at this
   ·have:=hF.h11;simp[rN]at this
  ·have H:=hF.b1
   have K:=hF.b2;have z:a.nodes≤d:=by simp only[Ltl.nodes,Ltl.nodesL]at hd;omega
   have E:b.nodes≤d:=by simp only[Ltl.nodes,Ltl.nodesL]at hd;omega
   rcases G with rfl|rfl|rfl|rfl
   ·refine dF Nu Ny rfl rfl ?_
    rw[ho5];refine Pu ?_;refine dX rfl rfl rfl fun p c e=>?_
    refine Qs ?_;refine eC (i:=0) rfl rfl rfl rfl rfl (y.up e) (by simp[Ltl.kids]) O_ (fun u q o=>?_);obtain⟨uo,uc,rfl,g⟩:=Rd.ltl (t:=a) o;refine Ra ?_;refine WL.call rfl rfl rfl (D a z p (A.ext e) H g w x) ?_;rintro _ C ⟨rfl,f⟩
    have c:=c.ext f;cases rQ m s a
    ·refine P5 ?_
     exact be rfl rfl ⟨rfl,e.trans f⟩
    ·refine Rl ?_
     refine eC (i:=1) rfl rfl rfl rfl rfl (y.up (e.trans f)) (by simp[Ltl.kids]) O_ (fun u q o=>?_);obtain⟨vo,vc,rfl,r⟩:=Rd.ltl (t:=b) o;refine Ra ?_;refine WL.call rfl rfl rfl (D b E C (A.ext (e.trans f)) K r w x) ?_;rintro _ I ⟨rfl,F⟩
     refine PV ?_;exact be rfl rfl ⟨rfl,(e.trans f).trans F⟩
   ·refine dF Nu Ny rfl rfl ?_
    rw[ho6];refine Pu ?_;refine dX rfl rfl rfl fun p c e=>?_
    refine Qs ?_;refine eC (i:=0) rfl rfl rfl rfl rfl (y.up e) (by simp[Ltl.kids]) O_ (fun u q o=>?_);obtain⟨uo,uc,rfl,g⟩:=Rd.ltl (t:=a) o;refine Ra ?_;refine WL.call rfl rfl rfl (D a z p (A.ext e) H g w x) ?_;rintro _ C ⟨rfl,f⟩
    have c:=c.ext f;cases rQ m s a
    ·refine Rl ?_
     refine eC (i:=1) rfl rfl rfl rfl rfl (y.up (e.trans f)) (by simp[Ltl.kids]) O_ (fun u q o=>?_);obtain⟨vo,vc,rfl,r⟩:=Rd.ltl (t:=b) o;refine Ra ?_;refine WL.call rfl rfl rfl (D b E C (A.ext (e.trans f)) K r w x) ?_;rintro _ I ⟨rfl,F⟩
     refine PV ?_;exact be rfl rfl ⟨rfl,(e.trans f).trans F⟩
    ·refine P5 ?_
     exact be rfl rfl ⟨rfl,e.trans f⟩
   ·have B:=hF.cov
    simp only[Cov]at B
    refine dF Nu Ny rfl rfl ?_;rw[ho8];refine Pu ?_;refine dX rfl rfl rfl fun p c e=>?_
    refine Qs ?_;refine eC (i:=1) rfl rfl rfl rfl rfl (y.up e) (by simp[Ltl.kids]) O_ (fun u q o=>?_);obtain⟨uo,uc,rfl,r⟩:=Rd.ltl (t:=b) o;refine Ra ?_;refine WL.call rfl rfl rfl (D b E p (A.ext e) K r w x) ?_;rintro _ C ⟨rfl,f⟩
    have c:=c.ext f;have l:=e.trans f;cases rQ m s b
    ·refine Rl ?_
     refine eC (i:=0) rfl rfl rfl rfl rfl (y.up l) (by simp[Ltl.kids]) O_ (fun u q o=>?_);obtain⟨vo,vc,rfl,g⟩:=Rd.ltl (t:=a) o;refine Ra ?_;refine WL.call rfl rfl rfl (D a z C (A.ext l) H g w x) ?_;rintro _ I ⟨rfl,F⟩
     have c:=c.ext F;have j:=l.trans F;cases rQ m s a
     ·refine P5 ?_
      exact be rfl rfl ⟨rfl,j⟩
     ·refine Ro ?_
      refine WL.call rfl rfl rfl (ka I (t:=.mk 8 0 [a,b]) (A.ext j) (y.up j) w x (fun h=>by cases h) (fun _=>B.2.1 O3)) ?_;rintro _ M ⟨rfl,L⟩
      refine PV ?_;exact be rfl rfl ⟨rfl,j.trans L⟩
    ·refine P5 ?_
     exact be rfl rfl ⟨rfl,l⟩
   ·have B:=hF.cov
    simp only[Cov]at B
    refine dF Nu Ny rfl rfl ?_;rw[ho9];refine Pu ?_;refine dX rfl rfl rfl fun p c e=>?_
    refine Qs ?_;refine eC (i:=1) rfl rfl rfl rfl rfl (y.up e) (by simp[Ltl.kids]) O_ (fun u q o=>?_);obtain⟨uo,uc,rfl,r⟩:=Rd.ltl (t:=b) o;refine Ra ?_;refine WL.call rfl rfl rfl (D b E p (A.ext e) K r w x) ?_;rintro _ C ⟨rfl,f⟩
    have c:=c.ext f;have l:=e.trans f;cases rQ m s b
    ·refine P5 ?_
     exact be rfl rfl ⟨rfl,l⟩
    ·refine Rl ?_
     refine eC (i:=0) rfl rfl rfl rfl rfl (y.up l) (by simp[Ltl.kids]) O_ (fun u q o=>?_);obtain⟨vo,vc,rfl,g⟩:=Rd.ltl (t:=a) o;refine Ra ?_;refine WL.call rfl rfl rfl (D a z C (A.ext l) H g w x) ?_;rintro _ I ⟨rfl,F⟩
     have c:=c.ext F;have j:=l.trans F;cases rQ m s a
     ·refine Ro ?_
      refine WL.call rfl rfl rfl (ka I (t:=.mk 9 0 [a,b]) (A.ext j) (y.up j) w x (fun h=>by cases h) (fun _=>B.2.1 O3)) ?_;rintro _ M ⟨rfl,L⟩
      refine PV ?_;exact be rfl rfl ⟨rfl,j.trans L⟩
     ·refine P5 ?_
      exact be rfl rfl ⟨rfl,j⟩
theorem A9(w:World){sb:Nat}{m:cW}{s:Nat}(b:MkA w sb m)(e:m.1.length≤20):Rt Tryz.prog 75 [Pr sb,Pq (s:Int)].toArray w fun v w'=>v=Pq ((s >>> m.1.length:Nat):Int)∧w=w':=by
 obtain⟨ao,ac,c,d,a,h1,h2⟩:=b.ok;refine dE Tryz.func75 Tryz.ntmps75 rfl rfl ?_;refine Qz ?_;refine fu rfl rfl rfl rfl O0 ?_;refine PB ?_;exact be rfl rfl ⟨rfl,rfl⟩
theorem gr{n:Int}{a:Ltl}:gq (.mk 7 n [a])=a:=rfl
theorem gt{k n:Int}{l:List Ltl}(h:k=8∨k=9):gq (.mk k n l)=.mk k n l:=by
 unfold gq;rw[OD (by simp only[Ltl.k];omega)]
set_option maxHeartbeats 1000000 in
theorem wr(w0:World){sb:Nat}{m:cW}{s:Nat}(R:MkA w0 sb m)(Q:OkT m)(X:s<1048576)(Y:m.1.length≤20∧m.2.length≤20):
  Rt Tryz.prog 72 [Pr sb,Pq (s:Int)].toArray w0 fun v w'=>v=Pq ((wo m s:Nat):Int)∧Ext w0 w':=by
 obtain⟨ao,ac,po,pc,Z,h1,h2⟩:=R.ok;have hpl:=h2.len63;refine dE Tryz.func72 Tryz.ntmps72 rfl rfl ?_;refine Qz ?_;refine CW.loop (S:=Nat) (fun i=>[(0,Pr sb),(1,Pq (s:Int)),(5,Pq ((Bd (fun i=>rQ m s (gq (m.2.getD i zg))) i:Nat):Int)),(12,.slice po m.2.length pc),(13,Pq m.2.length),(14,Pq i)])
  (fun i w=>i≤m.2.length∧Ext w0 w) (fun i=>m.2.length -i) 0 OZ ⟨M9 _,Ext.refl _⟩ ?_
 rintro i w ⟨hi,I⟩
 have hpk:=Bf (f:=fun i=>rQ m s (gq (m.2.getD i zg))) (c:=i);have y:2 ^ i≤2 ^ 20:=M0 O0 O0;refine Qm ?_;apply CW.cond rfl<;>intro h
 ·have j:i<m.2.length:=by simp at h;omega
  have F:m.2[i]∈m.2:=K8 j;have P:m.2.getD i zg=m.2[i]:=ri j;have hF:=Q.arg F;have N:=Bx (Q.part F).wf (Q.ok.wp _ F).2.1;have d:Bd (fun i=>rQ m s (gq (m.2.getD i zg))) (i+1)=if rQ m s (gq m.2[i])=true then Bd (fun i=>rQ m s (gq (m.2.getD i zg))) i|||(1 <<< i)else Bd (fun i=>rQ m s (gq (m.2.getD i zg))) i:=by
   rw[Bd,P]
  have T:2 ^ i<4611686018427387904:=MJ y O2;generalize Bd (fun i=>rQ m s (gq (m.2.getD i zg))) i=acc at*
  have z:=iD acc (1 <<< i) O0 (by rw[MY];exact T);refine PP ?_;refine eC rfl rfl rfl rfl rfl (h2.up I) j O_ (fun u q M=>?_);generalize m.2[i]=g at*
  obtain⟨go,gc,rfl,C⟩:=Rd.ltl M;skip;refine WL.alloc rfl rfl (fun w1 l e1=>?_);have z1:=l.lt;refine Ra ?_;refine WL.st rfl rfl rfl l rfl rfl Pk (fun W l E=>?_);have K:Ext w W:=e1.grown E e1.size Pb;refine PA ?_;refine WL.alloc rfl rfl (fun w3 o V=>?_);have l:=l.ext V;skip;refine WL.st rfl rfl rfl o rfl rfl Pk (fun L o D=>?_);have J:Ext W L:=V.grown D V.size Pb;have z2:=E.size;have n:=(I.trans K).trans J;have B:=C.up (K.trans J);have l:=l.kept D Ph;rcases N with⟨a,rfl⟩|⟨k,a,b,hk,rfl⟩
  ·rw[gr]at hF d
   refine Qs ?_;refine eC (i:=0) rfl rfl rfl rfl rfl (C.mono (w':=L) (fun b r=>(K.trans J).block b r) (F':=c7 w) Pe) (by simp[Ltl.kids]) O_ (fun u q M=>?_);obtain⟨uo,uc,rfl,O⟩:=Rd.ltl (t:=a) M;skip;refine WL.st rfl rfl rfl o rfl rfl Pk (fun x o p=>?_);have U:Ext w0 x:=n.grown p n.size (fun g F=>by cases F;have:=I.size;omega);have z4:=(K.trans J).size;have z5:=p.size;have A:Sl x (c7 x) uo uc a.kids:=O.mono (fun b r=>p.block b (by have G:b<w.heap.size:=r;omega) (fun e=>by have:=Nj e;have G:b<w.heap.size:=r;omega)) (fun b r=>by have G:b<w.heap.size:=r;exact(show b<x.heap.size by omega));refine Q0 ?_;refine WL.call rfl rfl rfl (GM _ a Pm x (R.ext U) hF A X Y) ?_;rintro _ w6 ⟨rfl,H⟩
   cases hh:rQ m s a
   ·rw[hh,OD O2]at d
    refine PT ?_;refine EX.back (i+1) ?_ ⟨j,U.trans H⟩ O0;rw[d];exact OZ
   ·rw[hh,OE rfl]at d
    refine PW ?_;rw[E7 (show i<62 by omega),z];skip;refine EX.back (i+1) ?_ ⟨j,U.trans H⟩ O0;rw[d];exact OZ
  ·rw[gt hk]at hF d
   have h7:(k==7)=false:=by
    rw[Oi];omega
   refine QM ?_;refine CW.cond rfl (fun h=>by rw[show((Ltl.mk k 0 [a,b]).k==7)=false from h7]at h;cases h) (fun _=>?_);refine PX ?_;refine WL.call rfl rfl rfl (GM _ (.mk k 0 [a,b]) Pm L (R.ext n) hF B X Y) ?_;rintro _ w6 ⟨rfl,H⟩
   cases hh:rQ m s (.mk k 0 [a,b])
   ·rw[hh,OD O2]at d
    refine PT ?_;refine EX.back (i+1) ?_ ⟨j,n.trans H⟩ O0;rw[d];exact OZ
   ·rw[hh,OE rfl]at d
    refine PW ?_;rw[E7 (show i<62 by omega),z];skip;refine EX.back (i+1) ?_ ⟨j,n.trans H⟩ O0;rw[d];exact OZ
 ·obtain rfl:i=m.2.length:=by simp at h;omega
  refine P3 ?_;exact be rfl rfl ⟨rfl,I⟩
theorem GJ{s i:Nat}(a:s<1048576)(is:Bool):((((bits .and .i64 ((s >>> i:Nat):Int) 1:Int)==1))==is)=(s.testBit i==is):=by
 rw[show bits .and .i64 ((s >>> i:Nat):Int) 1=((s >>> i&&&1:Nat):Int) from iB _ 1 (by have:=M3 s i;omega) O0,j_]
set_option maxHeartbeats 1000000 in
theorem iC(w0:World){sb:Nat}{m:cW}{s:Nat}(is:Bool)(u:MkA w0 sb m)(l:OkM m)(r:s<1048576)(B:m.1.length≤20):
  Rt Tryz.prog 76 [Pr sb,Pq (s:Int),.bool is].toArray w0 fun v w'=>v=.int .u64 ((iA m s is:Nat):Int)∧Ext w0 w':=by
 obtain⟨ao,ac,z,A,n,h1,h2⟩:=u.ok;refine dF Tryz.func76 Tryz.ntmps76 rfl rfl ?_;refine Qz ?_;refine CW.loop (S:=Nat) (fun i=>[(1,Pq (s:Int)),(2,.bool is),(7,.int .u64 ((iw m.1 s is i:Nat):Int)),(13,.slice ao m.1.length ac),(14,Pq m.1.length),(15,Pq i)])
  (fun i w=>i≤m.1.length∧Ext w0 w) (fun i=>m.1.length -i) 0 OZ ⟨M9 _,Ext.refl _⟩ ?_
 rintro i w ⟨hi,f⟩
 have t:=iy (s:=s) (is:=is) (fun x p=>(l.ra x p).2) hi;refine Qm ?_;apply CW.cond rfl<;>intro h
 ·have c:i<m.1.length:=by simp at h;omega
  have j:=l.ra _ (K8 c);have k:m.1.getD i 0=m.1[i]:=by rw[KN,KT c];rfl
  have b:iw m.1 s is (i+1)=if s.testBit i=is then iw m.1 s is i|||(1 <<< (m.1.getD i 0).toNat)else iw m.1 s is i:=rfl
  rw[k]at b
  generalize iw m.1 s is i=acc at*
  obtain⟨a,o⟩:=J2 j.1;have d:a<64:=by omega
  rw[o,J7]at b
  have y:2 ^ a<2 ^ 64:=M1 O0 d;have g:=iE acc (1 <<< a) O0 (by rw[MY];omega);refine PP ?_;refine eB rfl rfl rfl rfl rfl (h1.up f) c o O_ (fun q=>?_);refine Qm ?_;refine fu rfl rfl rfl rfl O0 ?_;refine Q1 ?_;rw[GJ r];by_cases e:s.testBit i=is
  ·rw[OE e]at b
   rw[show(s.testBit i==is)=true by rw[e];simp];refine PW ?_;rw[E8 d,g];skip;refine EX.back (i+1) ?_ ⟨c,f⟩ O0;rw[b];exact OZ
  ·rw[OD e]at b
   rw[show(s.testBit i==is)=false by rw[Oi];exact e];refine PT ?_;refine EX.back (i+1) ?_ ⟨c,f⟩ O0;rw[b];exact OZ
 ·obtain rfl:i=m.1.length:=by simp at h;omega
  refine P3 ?_;exact be rfl rfl ⟨rfl,f⟩
set_option maxHeartbeats 1000000 in
theorem GK(w0:World){sb:Nat}{m:cW}{s:Nat}{k:Int}{a b:Ltl}{ko:Option Addr}{kc:Nat}(l:MkA w0 sb m)(hF:OkF m (.mk k 0 [a,b]))(y:k=8∨k=9)(f:Sl w0 (c7 w0) ko kc [a,b])(h:s<1048576)(j:m.1.length≤20∧m.2.length≤20):
  Rt Tryz.prog 77 [Pr sb,ye k 0 ko 2 kc,Pq (s:Int)].toArray w0 fun v w'=>v=.bool (oq m (.mk k 0 [a,b]) s)∧Ext w0 w':=by
 have r:oq m (.mk k 0 [a,b]) s=if k=8 then !(rQ m s (.mk k 0 [a,b]))||rQ m s b else rQ m s (.mk k 0 [a,b])||!(rQ m s b):=rfl
 rw[r];rcases y with rfl|rfl
 ·rw[OE rfl]
  refine dF Tryz.func77 Tryz.ntmps77 rfl rfl ?_;refine Pu ?_;refine dX rfl rfl rfl fun o d c=>?_
  refine QH ?_;refine WL.call rfl rfl rfl (GM _ (.mk 8 0 [a,b]) Pm o (l.ext c) hF (f.up c) h j) ?_;rintro _ n ⟨rfl,e⟩
  have d:=d.ext e;cases rQ m s (.mk 8 0 [a,b])
  ·refine P5 ?_
   exact be rfl rfl ⟨rfl,c.trans e⟩
  ·refine Rl ?_
   refine eC (i:=1) rfl rfl rfl rfl rfl (f.up (c.trans e)) O3 O_ (fun u q p=>?_);obtain⟨vo,vc,rfl,g⟩:=Rd.ltl (t:=b) p;refine Ra ?_;refine WL.call rfl rfl rfl (GM _ b Pm n (l.ext (c.trans e)) hF.b2 g h j) ?_;rintro _ x ⟨rfl,w⟩
   refine PK ?_;exact be rfl rfl ⟨rfl,(c.trans e).trans w⟩
 ·rw[OD O2]
  refine dF Tryz.func77 Tryz.ntmps77 rfl rfl ?_;refine Pu ?_;refine dX rfl rfl rfl fun o d c=>?_
  refine Q2 ?_;refine WL.call rfl rfl rfl (GM _ (.mk 9 0 [a,b]) Pm o (l.ext c) hF (f.up c) h j) ?_;rintro _ n ⟨rfl,e⟩
  have d:=d.ext e;cases rQ m s (.mk 9 0 [a,b])
  ·refine Rl ?_
   refine eC (i:=1) rfl rfl rfl rfl rfl (f.up (c.trans e)) O3 O_ (fun u q p=>?_);obtain⟨vo,vc,rfl,g⟩:=Rd.ltl (t:=b) p;refine Ra ?_;refine WL.call rfl rfl rfl (GM _ b Pm n (l.ext (c.trans e)) hF.b2 g h j) ?_;rintro _ x ⟨rfl,w⟩
   refine PB ?_;exact be rfl rfl ⟨rfl,(c.trans e).trans w⟩
  ·refine PC ?_
   exact be rfl rfl ⟨rfl,c.trans e⟩
end Go.Proofs.YtodmkmobdmcfbaaGreatDoor
