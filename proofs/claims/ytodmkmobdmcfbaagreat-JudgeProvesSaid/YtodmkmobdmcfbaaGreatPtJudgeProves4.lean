import Derived.Test.YtodmkmobdmcfbaaGreatPtJudgeProves3
set_option linter.unusedVariables false
set_option linter.unusedSimpArgs false
set_option linter.defProp false
namespace Go.Proofs.YtodmkmobdmcfbaaGreat
open Go.RowKit
def I3(P:Program)(ops:Array Oper)(Q:Exit→Act→World→Prop)(S:World→Prop)(e:Nat):Nat→Array Bool→Act→World→Prop
 |0,c,a,w=>Region.ready .any ops c=[]∧Q .normal a w
 |k+1,c,a,w=>(Region.ready .any ops c=[]→Q .normal a w)∧∀i∈Region.ready .any ops c,wpOp P ops Q i (fun f w'=>(i≠e→S w')∧I3 P ops Q S e k (c.setIfInBounds i true) f w') a w
theorem I8{P:Program}{ops:Array Oper}{Q:Exit→Act→World→Prop}{S:World→Prop}{e:Nat}:∀(k:Nat) (c:Array Bool) (a:Act) (w:World),I3 P ops Q S e k c a w→wpAny P .any ops Q k c a w
 |0,_,_,_,h=>h
 |k+1,_,_,_,h=>⟨h.1,fun i hi=>ON (fun l w' f=>I8 k _ l w' f.2) (h.2 i hi)⟩
def IC(ops:Array Oper)(e i:Nat):Bool:=match ops[e]? with
 |some o=>o.after.toList.any fun ed=>Region.binds .any ed&&(ed.on==i)
 |none=>false
theorem ID{ops:Array Oper}{e i:Nat}{a:Array Bool}(f:IC ops e i=true)(hi:a.getD i false=false):e∉Region.ready .any ops a:=by
 intro k
 obtain⟨_,o,h,c⟩:=Ox.1 k;unfold IC at f
 rw[h]at f
 obtain⟨ed,h1,h2⟩:=Ki.1 f;simp only[JM,Ob]at h2
 have:=c ed (by simpa using h1) h2.1;rw[h2.2,hi]at this
 cases this
theorem C_{ops:Array Oper}{i:Nat}{a:Array Bool}(h:i∈Region.ready .any ops a):a.getD i false=false:=by
 have f:=(Ox.1 h).1;rcases MR i a.size with c|c
 ·simp[c]at f⊢;exact f
 ·simp[c]
theorem I4{P:Program}{ops:Array Oper}{Q:Exit→Act→World→Prop}{S:World→Prop}{e i:Nat}{oi:Oper}{v:Value}(z:ops[i]?=some oi)(O:Region.noSelect ops=true)(R:i≠e)(J:IC ops e i=true)(hQ:∀c a w,Q (.panic c) (a.put oi.dst v) w→Q (.panic c) a w):
  ∀(k:Nat) (f:Array Bool) (a:Act) (w:World),(∀j oj,ops[j]?=some oj→j≠i→f.getD j true=false→(∀ed∈oj.after,Region.binds .any ed=true→ed.on≠i)→oi.apart ops oj=true)→
   i∈Region.ready .any ops f→YieldsIf P ops S oi v a→S w→I3 P ops Q S e k (f.setIfInBounds i true) (a.put oi.dst v) w→I3 P ops Q S e (k+1) f a w:=by
 have r:=Nt O;intro k
 induction k with
 |zero=>
  intro f a w _ s I hS H
  refine⟨fun h=>(by rw[h]at s;cases s),fun j E=>?_⟩;by_cases l:j=i
  ·subst l;exact I.wpOp z hS ⟨fun _=>hS,H⟩
  ·have:=OE E l
   rw[H.1]at this
   cases this
 |succ k N=>
  intro f a w q s I hS H
  refine⟨fun h=>(by rw[h]at s;cases s),fun j E=>?_⟩;by_cases l:j=i
  ·subst l;exact I.wpOp z hS ⟨fun _=>hS,H⟩
  ·have D:j≠e:=fun h=>ID J (C_ s) (h▸E)
   obtain⟨p,oj,u,G⟩:=Ox.1 E;have K:∀ed∈oj.after,Region.binds .any ed=true→ed.on≠i:=fun ed h1 h2 h3=>by
    have h4:=G ed h1 h2;rw[h3,C_ s]at h4
    cases h4
   have B:=wpOp_putIf u (q j oj u l p K) (fun cs b=>r i oi cs b z) (fun cs b=>r j oj cs b u) hQ I (H.2 j (OE E l));refine ON (fun U w' h3=>⟨fun _=>h3.2.1 D,N (f.setIfInBounds j true) U w' (fun m om T M A hn=>q m om T M ?_ hn) (OE s (Nf l)) h3.1 (h3.2.1 D) ?_⟩) B
   ·by_cases C:j=m
    ·subst C;exact p
    ·rw[getD_set_ne true C]at A;exact A
   ·rw[JE _ _ l]
    exact h3.2.2
def A4(ops:Array Oper)(e:Nat):List (Nat×Bool)→Array Bool→Bool
 |[],a=>decide (Region.ready .any ops a=[e])&&(Region.ready .any ops (a.setIfInBounds e true)).isEmpty
 |(i,true)::s,a=>(Region.ready .any ops a).contains i&&Region.free .any ops a i&&!(i==e)&&IC ops e i&&A4 ops e s (a.setIfInBounds i true)
 |(i,false)::s,a=>decide (Region.ready .any ops a=[i])&&A4 ops e s (a.setIfInBounds i true)
def A5(l:List Oper)(s:List (Nat×Bool))(e:Nat):Bool:=Region.noSelect l.toArray&&decide (s.length+1=l.length)&&A4 l.toArray e s (Array.replicate l.length false)
def dT(P:Program)(ops:List Oper)(Q:Exit→Act→World→Prop)(e:Nat):Exit→Act→World→Prop:=
 fun x a w=>x=.normal∧∃o,ops[e]?=some o∧wpList P ops.toArray (fun x a w=>x=.normal∧Q .normal a w) [o] a w
theorem Jf{P:Program}{ops:List Oper}{S:World→Prop}{Q:Exit→Act→World→Prop}{e:Nat}(u:Region.noSelect ops.toArray=true):
  ∀(s:List (Nat×Bool)) (c:Array Bool) (a:Act) (w:World),A4 ops.toArray e s c=true→S w→Jc P ops S (fun a w=>dT P ops Q e .normal a w) s a w→I3 P ops.toArray (fun x a w=>x=.normal∧Q .normal a w) S e (s.length+1) c a w
 |[],c,a,w,f,hS,h=>by
  simp only[A4,JM,Om,Lj]at f
  obtain⟨_,o,m,p⟩:=h;refine⟨fun q=>(by rw[f.1]at q;cases q),fun i hi=>?_⟩;rw[f.1,L0]at hi
  subst hi;have k:ops.toArray[i]?=some o:=by simpa using m
  unfold wpOp;simp only[k];simp only[wpList]at p
  split
  ·rename_i l
   rw[Ov l]at p
   exact p.imp (Ng fun D w' r=>⟨fun h=>absurd rfl h,f.2,rfl,r.2⟩) id
  ·rename_i l
   rw[Ou l]at p
   exact⟨fun h=>absurd rfl h,f.2,rfl,p.2⟩
 |(i,true)::s,c,a,w,f,hS,⟨o,v,m,B,h⟩=>by
  simp only[A4,JM,JT,Oa]at f
  obtain⟨⟨⟨⟨h1,h2⟩,h3⟩,h4⟩,C⟩:=f;have k:ops.toArray[i]?=some o:=by simpa using m
  exact I4 k u h3 h4 (fun _ _ _ h=>by cases h.1) _ _ _ _ (Ns k h2) (by simpa using h1) B hS (Jf u s _ _ _ C hS h)
 |(i,false)::s,c,a,w,f,hS,⟨o,m,h⟩=>by
  simp only[A4,JM,Om]at f
  refine⟨fun q=>(by rw[f.1]at q;cases q),fun j A=>?_⟩;rw[f.1,L0]at A
  subst A;have k:ops.toArray[j]?=some o:=by simpa using m
  unfold wpOp;simp only[k];split
  ·rename_i l
   rw[Ov l]at h
   exact .inl (Ng (fun D w' r=>⟨fun _=>r.1,Jf u s _ _ _ f.2 r.1 r.2⟩) (Jk (fun x a w z hf=>absurd hf.1 z) h))
  ·rename_i l
   rw[Ou l]at h
   exact⟨fun _=>h.1,Jf u s _ _ _ f.2 h.1 h.2⟩
section
variable {P:Program}{Q:Exit→Act→World→Prop}{n:Nat}{σ:Sg}{w:World}{L:List Oper}{S:World→Prop}
theorem aE{id:Nat}(S:World→Prop)(s:List (Nat×Bool))(e:Nat)(k:P.follows .mixedOrders=true)(c:A5 L s e=true)(hS:S (drew w))(h:HL P L S (dT P L Q e) s n σ (drew w)):CW P (.region id L.toArray true) Q n σ w:=by
 unfold CW;unfold HL at h;intro a p
 simp only[A5,JM,Om]at c
 obtain⟨⟨f,l⟩,c⟩:=c;have h1:=Jf (Q:=Q) f s (Array.replicate L.length false) a (Go.Proofs.YtodmkmobdmcfbaaGreat.drew w) c hS (h a p);rw[l]at h1
 have h2:(Code.region id L.toArray true).wp P (fun x a w=>x=.normal∧Q .normal a w) a w:=OQ k (by simpa using I8 _ _ _ _ h1);exact OP h2 (fun e q w' ⟨m,hq⟩=>by subst m;exact hq)
theorem bm{e:Nat}{o:Oper}(c:Ac L e=some o)(h:WL P L (fun x a w=>x=.normal∧Q .normal a w) [o] n σ w):EX (dT P L Q e) .normal n σ w:=by
 unfold EX;unfold WL at h
 intro a f
 rw[Ad]at c
 exact⟨rfl,o,c,h a f⟩
theorem bp(h:EX Q .normal n σ w):EX (fun x a w=>x=.normal∧Q .normal a w) .normal n σ w:=by
 unfold EX at*;exact fun a c=>⟨rfl,h a c⟩
end
section
variable {P:Program}{Q:Exit→Act→World→Prop}{n:Nat}{σ:Sg}{wc:World}{L:List Oper}{S:World→Prop}{i j d:Nat}{ty:TypeId}{pos:String}{af:Array Edge}{g:Option (Nat×Bool)}{ty':TypeId}{pos':String}{af':Array Edge}{g':Option (Nat×Bool)}{t e:TypeId}{x ix y:Operand}
variable {α:Type}[Rep α]{F:Nat→Prop}
theorem cA{v u:Value}{B:Nat}{xs:List α}{yv:α}{k:Nat}{kd:IntKind}
  (ho1:Ac L i=some ⟨some d,.indexAddr t x ix,ty,pos,af,g⟩) (ho2:Ac L j=some ⟨none,.store e (.tmp d) y,ty',pos',af',g'⟩)
  (E:gd L σ ⟨some d,.indexAddr t x ix,ty,pos,af,g⟩=some true) (hd:Nat.ble (d+1) n=true)
  (z:ev σ x=some v) (hi:ev σ ix=some (.int kd (k:Int))) [I:IsS P t e] [H:IsT P e α] (c:Own wc B e F v xs) (h1:k<xs.length)
  (m:∀p,gd L ((d,.pointer p)::σ) ⟨none,.store e (.tmp d) y,ty',pos',af',g'⟩=some true) (s:∀p,ev ((d,.pointer p)::σ) y=some u) (A:Rd wc F u yv)
  (h:∀w' p,Own w' B e F v (xs.set k yv)→wc.grownBy w' v.ownBlock→EX Q .normal n ((d,.pointer p)::σ) w'):
  HL P L S (dT P L Q j) [(i,true)] n σ wc:=by
 rcases c with⟨rfl,rfl⟩|⟨b,off,cap,cur,rfl,D⟩
 ·simp at h1
 ·refine cb (α:=α) ho1 E hd z hi OS OS ?_
  obtain⟨w',C,f,l⟩:=En (P:=P) (v:=u) (i:=k) D h1 A;refine HL.nil (bm ho2 ?_);refine fq (m _) (fun a q=>?_) (WL.nil (bp (h w' _ f l)));have r:=q.ev (x:=.tmp d) pW;have G:=q.ev (s _);simp only[Kd]at r
  simp[execOp,r,G,Instr.storeAt,Instr.sureAddr,C]
end
section
variable {P:Program}{Q:Exit→Act→World→Prop}{n:Nat}{σ:Sg}{w wc:World}{L:List Oper}{S:World→Prop}{ord:List (Nat×Bool)}{i d:Nat}{ty:TypeId}{pos:String}{af:Array Edge}{g:Option (Nat×Bool)}{t e:TypeId}{x:Operand}{b o:Nat}{cells:List Value}
theorem cm{v:Value}(u:∀k,S k→k.heap[b]?=w.heap[b]?)(p:Ac L i=some ⟨some d,.load t x,ty,pos,af,g⟩)(q:gd L σ ⟨some d,.load t x,ty,pos,af,g⟩=some true)(hd:Nat.ble (d+1) n=true)(l:ev σ x=some (.pointer (some ⟨b,o,none⟩)))[z:IsC P t 1 false](r:Blk w b e cells)(m:Ag cells o=some v)
  (h:HL P L S Q ord n ((d,v)::σ) wc):HL P L S Q ((i,true)::ord) n σ wc:=by
 refine HL.run p q hd (fun a s w' c=>?_) h;have f:Blk w' b e cells:=(u w' c).trans r;simp[execOp,s.ev l,D7 (P:=P) (t:=t) w' f m]
end
theorem cf{P:Program}{Q:Exit→Act→World→Prop}{n:Nat}{σ:Sg}{w wc:World}{L:List Oper}{S:World→Prop}{ord:List (Nat×Bool)}{i d:Nat}{ty:TypeId}{pos:String}{af:Array Edge}{g:Option (Nat×Bool)}{t e:TypeId}{x:Operand}{b o:Nat}{cells vs:List Value}{k:Nat}
  (u:∀j,S j→j.heap[b]?=w.heap[b]?) (p:Ac L i=some ⟨some d,.load t x,ty,pos,af,g⟩) (q:gd L σ ⟨some d,.load t x,ty,pos,af,g⟩=some true) (hd:Nat.ble (d+1) n=true) (l:ev σ x=some (.pointer (some ⟨b,o,none⟩))) [y:IsC P t k true] (r:Blk w b e cells) (m:EK cells o k=some vs)
  (h:HL P L S Q ord n ((d,.agg vs.toArray)::σ) wc):HL P L S Q ((i,true)::ord) n σ wc:=by
 refine HL.run p q hd (fun a s w' c=>?_) h;have f:Blk w' b e cells:=(u w' c).trans r;simp[execOp,s.ev l,D8 (P:=P) (t:=t) w' f m]
def Nw(w w':World):Nat→Prop:=fun b=>w.heap.size≤b∧b<w'.heap.size
theorem Rd.kept{α:Type}[Rep α]{w w':World}{F:Nat→Prop}{v:Value}{x:α}{row:Option Nat}(h:Rd w F v x)(c:w.grownBy w' row)(hF:∀b,F b→b<w.heap.size∧some b≠row):Rd w' F v x:=
 h.mono (fun b a=>c.block b (hF b a).1 (hF b a).2) fun _ h=>h
theorem Rd.up0{α:Type}[Rep α]{w w':World}{F:Nat→Prop}{v:Value}{x:α}(h:Rd w F v x)(c:Ext w w')(hF:∀b,F b→b<w.heap.size):Rd w' F v x:=h.mono (fun b a=>c.block b (hF b a)) fun _ h=>h
theorem Rd.wk{α:Type}[Rep α]{w:World}{F F':Nat→Prop}{v:Value}{x:α}(h:Rd w F v x)(hF:∀b,F b→F' b):Rd w F' v x:=h.mono Pc hF
def SO(r:Nat)(w:World):World→Prop:=fun x=>w.heap.size≤x.heap.size∧∀b,b≠r→b<w.heap.size→x.heap[b]?=w.heap[b]?
theorem SO.refl(r:Nat)(w:World):SO r w w:=⟨MM _,fun _ _ _=>rfl⟩
theorem SO.ext{r:Nat}{w x y:World}(h:SO r w x)(a:Ext x y):SO r w y:=⟨MN h.1 a.size,fun b h1 h2=>(a.block b (MQ h2 h.1)).trans (h.2 b h1 h2)⟩
theorem SO.st{r:Nat}{w x y:World}(h:SO r w x)(a:x.grownBy y (some r)):SO r w y:=⟨MN h.1 a.size,fun b h1 h2=>(a.block b (MQ h2 h.1) (fun e=>h1 (by cases e;rfl))).trans (h.2 b h1 h2)⟩
section
variable {α:Type}[Rep α]
def Grow(B:Nat)(e:TypeId)(w:World)(v:Value)(xs:List α):Prop:=∃F,(∀b,F b→B≤b∧b<w.heap.size)∧Own w B e F v xs
variable {B:Nat}{e:TypeId}{w w':World}{v:Value}{xs:List α}
theorem Grow.nil:Grow B e w (.slice none 0 0) ([]:List α):=⟨c7,fun _ h=>h.elim,Own.nil⟩
theorem Grow.ext(h:Grow B e w v xs)(c:Ext w w'):Grow B e w' v xs:=by
 obtain⟨F,h1,h2⟩:=h;exact⟨F,fun b a=>⟨(h1 b a).1,MQ (h1 b a).2 c.size⟩,h2.ext c fun b a=>(h1 b a).2⟩
theorem Grow.kept{r:Nat}(h:Grow B e w v xs)(d:w.grownBy w' (some r))(f:r<B):Grow B e w' v xs:=by
 obtain⟨F,h1,h2⟩:=h;refine⟨F,fun b a=>⟨(h1 b a).1,MQ (h1 b a).2 d.size⟩,h2.kept d (fun g c e=>?_) (fun b a=>⟨(h1 b a).2,fun e=>?_⟩)⟩
 ·have:=(h2.lt g c).1;cases e;omega
 ·have:=(h1 b a).1;cases e;omega
theorem Grow.lt(h:Grow B e w v xs):∀g,v.ownBlock=some g→B≤g∧g<w.heap.size:=by
 obtain⟨F,h1,h2⟩:=h;exact fun g a=>⟨(h2.lt g a).1,(h2.lt g a).2.1⟩
theorem Grow.sl(h:Grow B e w v xs):∃ao cap,v=.slice ao xs.length cap∧Sl w (fun b=>B≤b∧b<w.heap.size) ao cap xs:=by
 obtain⟨F,h1,h2⟩:=h;exact h2.slF (fun b c=>h1 b c) (fun g a=>⟨(h2.lt g a).1,(h2.lt g a).2.1⟩)
theorem Grow.open(h:Grow B e w v xs){Fu:Nat→Prop}(c:∀b,Fu b→B≤b∧b<w.heap.size)(hn:∀g,v.ownBlock=some g→¬Fu g):∃F,(∀b,F b→B≤b∧b<w.heap.size)∧Own w B e F v xs∧(∀b,Fu b→F b):=by
 obtain⟨F,h1,h2⟩:=h;refine⟨fun b=>F b∨Fu b,fun b a=>a.elim (h1 b) (c b),h2.wk (fun b a=>.inl a) (fun g d a=>?_),fun b a=>.inr a⟩;exact a.elim (h2.lt g d).2.2 (hn g d)
end
theorem Cs(w:World){F:Nat→Prop}(hF:∀b,F b→b<w.heap.size)(k:Int){v C:Value}{t j:Ltl}(h:Rd w F v t)(H:Rd w F C j):Rt Tryz.prog 194 [Pj k,v,C].toArray w fun v w'=>Rd w' (dc F w w') v (.mk k 0 [t,j]:Ltl)∧Ext w w':=by
 obtain⟨ao,cap,rfl,R⟩:=Rd.ltl h;obtain⟨ao',cap',rfl,O⟩:=Rd.ltl H;refine dI Tryz.func194 Tryz.ntmps194 rfl rfl ?_;refine Pm ?_;refine dZ rfl rfl rfl fun w0 i z=>?_
 refine dZ rfl rfl rfl fun J d c=>?_
 have i:=i.ext c;have c:=z.trans c;refine WL.alloc rfl rfl (fun n E m=>?_);have i:=i.ext m;have Q:=d.ext m;have a:=c.trans m;refine Pw ?_;have N:Rd n F (yj t.k t.n ao t.kids.length cap) t:=Rd.mono h (fun b d=>a.block b (hF b d)) O8;have s:Rd n F (yj j.k j.n ao' j.kids.length cap') j:=Rd.mono H (fun b d=>a.block b (hF b d)) O8;have p:w.heap.size≤n.heap.size:=a.size;have M:=E.lt;have K:w.heap.size≤J.heap.size:=c.size;refine WL.lit (F:=F) (ys:=[t,j]) rfl rfl rfl rfl rfl (.cons N (.cons s .nil)) (by show 2*3≤16777216;decide) (fun b d=>MQ (hF b d) p) (fun I G u=>?_);have l:Ext n I:=(Ext.refl n).grown u Pf O_;have r:=E.ext l;have f:=a.trans l;refine WL.build rfl rfl rfl rfl ?_;refine WL.st rfl rfl rfl r rfl rfl Pd (fun A q o=>?_);have y:Ext w A:=f.grown o f.size (fun g x=>by cases x;exact c.size);have ho4:=G.kept o (fun g x=>by have:=(G.lt g x).1;simp;omega) (fun b d=>⟨MQ (hF b d) f.size,by have:b<w.heap.size:=hF b d;simp;omega⟩);obtain⟨uo,uc,P,L⟩:=(ho4.rd.mono (F':=dc F w A) Pc (fun b d=>d.elim .inl fun D=>.inr ⟨MN a.size (ho4.lt b D).1,(ho4.lt b D).2.1⟩)).sl;obtain⟨rfl,_,rfl⟩:=N5 P;refine Px ?_;exact bg rfl rfl q rfl ⟨Rd.mkLtl (kids:=[t,j]) L,y⟩
theorem Cr(w:World)(F:Nat→Prop)(k:Int):Rt Tryz.prog 195 [Pj k].toArray w fun v w'=>Rd w' F v (.mk k 0 []:Ltl)∧Ext w w':=by
 refine dG Tryz.func195 Tryz.ntmps195 rfl rfl ?_;refine Pm ?_;refine WL.alloc rfl rfl (fun h g d=>?_);refine Qw ?_;refine WL.build rfl rfl rfl rfl ?_;refine WL.st rfl rfl rfl g rfl rfl Pd (fun f b a=>?_);have c:Ext w f:=d.grown a d.size O5;refine Px ?_;exact bg rfl rfl b rfl ⟨Rd.mkLtl (kids:=[]) ⟨by simp,by simp[maxLen],fun _=>rfl,fun i hi=>absurd hi OW⟩,c⟩
abbrev GL(B:Nat)(w:World)(v:Value)(t:Ltl):Prop:=Rd w (fun b=>B≤b∧b<w.heap.size) v t
theorem GL.ext{B:Nat}{w w':World}{v:Value}{t:Ltl}(h:GL B w v t)(c:Ext w w'):GL B w' v t:=(Rd.up0 h c (fun b a=>a.2)).wk (fun b a=>⟨a.1,MQ a.2 c.size⟩)
theorem GL.st{B r:Nat}{w w':World}{v:Value}{t:Ltl}(h:GL B w v t)(c:w.grownBy w' (some r))(d:r<B):GL B w' v t:=
 (Rd.kept h c (fun b a=>⟨a.2,fun e=>by have:=Nn e;have:=a.1;omega⟩)).wk (fun b a=>⟨a.1,MQ a.2 c.size⟩)
theorem GL.low{B B':Nat}{w:World}{v:Value}{t:Ltl}(h:GL B w v t)(c:B'≤B):GL B' w v t:=Rd.wk h (fun b a=>⟨MN c a.1,a.2⟩)
theorem GL.plus{B:Nat}{w w':World}(d:B≤w.heap.size)(c:Ext w w'):∀b,dc (fun b=>B≤b∧b<w.heap.size) w w' b→B≤b∧b<w'.heap.size:=fun b a=>by
 have:=c.size;rcases a with a|a
 ·exact⟨a.1,by omega⟩
 ·exact⟨by omega,a.2⟩
theorem GL.old{B:Nat}{w:World}{v:Value}{t:Ltl}(h:GL B w v t):Rd w (c9 w) v t:=Rd.wk h (fun b a=>a.2)
theorem pn{w g d c f:World}{F:Nat→Prop}{v:Value}{t:Ltl}(i:Rd c (dc F d c) v t)(h:c.grownBy f (some g.heap.size))(hF:∀b,F b→b<w.heap.size)(h1:w.heap.size≤g.heap.size)(h2:g.heap.size<d.heap.size)(h3:w.heap.size≤d.heap.size)(h4:d.heap.size≤c.heap.size):
  Rd f (dc F w f) v t:=by
 refine(i.kept h (fun b a=>⟨?_,fun e=>?_⟩)).wk (fun b a=>?_)
 ·rcases a with a|a
  ·have:=hF b a;omega
  ·exact a.2
 ·have:=Nn e
  rcases a with a|a
  ·have:=hF b a;omega
  ·have:=a.1;omega
 ·rcases a with a|a
  ·exact .inl a
  ·exact .inr ⟨by have:=a.1;omega,MQ a.2 h.size⟩
theorem Dk{w w':World}{r:Nat}(h:Ext w w'){b:World}(a:w'.grownBy b (some r))(c:w.heap.size≤r):Ext w b:=h.grown a h.size (fun g a=>by cases a;exact c)
theorem mJ(w:World){F:Nat→Prop}(hF:∀b,F b→b<w.heap.size)(k:Int){v:Value}{t:Ltl}(h:Rd w F v t):Rt Tryz.prog 99 [Pj k,v].toArray w fun v w'=>Rd w' (dc F w w') v (.mk k 0 [t]:Ltl)∧Ext w w':=by
 obtain⟨ao,cap,rfl,I⟩:=Rd.ltl h;refine dH Tryz.func99 Tryz.ntmps99 rfl rfl ?_;refine Pm ?_;refine dZ rfl rfl rfl fun A d f=>?_
 refine WL.alloc rfl rfl (fun l x j=>?_);have H:=d.ext j;have a:=f.trans j;refine Pw ?_;have E:Rd l F (yj t.k t.n ao t.kids.length cap) t:=Rd.mono h (fun b d=>a.block b (hF b d)) O8;have m:w.heap.size≤l.heap.size:=a.size;have D:=x.lt;have B:w.heap.size≤A.heap.size:=f.size;refine WL.lit (F:=F) (ys:=[t]) rfl rfl rfl rfl rfl (.cons E .nil) (by show 1*3≤16777216;decide) (fun b d=>MQ (hF b d) m) (fun z y p=>?_);have e:Ext l z:=(Ext.refl l).grown p Pf O_;have o:=x.ext e;have c:=a.trans e;refine WL.build rfl rfl rfl rfl ?_;refine WL.st rfl rfl rfl o rfl rfl Pd (fun s n i=>?_);have r:Ext w s:=c.grown i c.size (fun g q=>by cases q;exact f.size);have ho4:=y.kept i (fun g q=>by have:=(y.lt g q).1;simp;omega) (fun b d=>⟨MQ (hF b d) c.size,by have:b<w.heap.size:=hF b d;simp;omega⟩);obtain⟨uo,uc,G,C⟩:=(ho4.rd.mono (F':=dc F w s) Pc (fun b d=>d.elim .inl fun u=>.inr ⟨MN a.size (ho4.lt b u).1,(ho4.lt b u).2.1⟩)).sl;obtain⟨rfl,_,rfl⟩:=N5 G;refine Px ?_;exact bg rfl rfl n rfl ⟨Rd.mkLtl (kids:=[t]) C,r⟩
theorem mN(w:World){F:Nat→Prop}(hF:∀b,F b→b<w.heap.size)(k:Int){v A:Value}{t i:Ltl}(h:Rd w F v t)(E:Rd w F A i):Rt Tryz.prog 168 [Pj k,v,A].toArray w fun v w'=>Rd w' (dc F w w') v (.mk k 0 [t,i]:Ltl)∧Ext w w':=by
 obtain⟨ao,cap,rfl,P⟩:=Rd.ltl h;obtain⟨ao',cap',rfl,M⟩:=Rd.ltl E;refine dI Tryz.func168 Tryz.ntmps168 rfl rfl ?_;refine Pm ?_;refine dZ rfl rfl rfl fun w0 f y=>?_
 refine dZ rfl rfl rfl fun H d c=>?_
 have f:=f.ext c;have c:=y.trans c;refine WL.alloc rfl rfl (fun m C l=>?_);have f:=f.ext l;have O:=d.ext l;have a:=c.trans l;refine Pw ?_;have L:Rd m F (yj t.k t.n ao t.kids.length cap) t:=Rd.mono h (fun b d=>a.block b (hF b d)) O8;have r:Rd m F (yj i.k i.n ao' i.kids.length cap') i:=Rd.mono E (fun b d=>a.block b (hF b d)) O8;have o:w.heap.size≤m.heap.size:=a.size;have K:=C.lt;have I:w.heap.size≤H.heap.size:=c.size;refine WL.lit (F:=F) (ys:=[t,i]) rfl rfl rfl rfl rfl (.cons L (.cons r .nil)) (by show 2*3≤16777216;decide) (fun b d=>MQ (hF b d) o) (fun G D s=>?_);have j:Ext m G:=(Ext.refl m).grown s Pf O_;have q:=C.ext j;have e:=a.trans j;refine WL.build rfl rfl rfl rfl ?_;refine WL.st rfl rfl rfl q rfl rfl Pd (fun z p n=>?_);have x:Ext w z:=e.grown n e.size (fun g u=>by cases u;exact c.size);have ho4:=D.kept n (fun g u=>by have:=(D.lt g u).1;simp;omega) (fun b d=>⟨MQ (hF b d) e.size,by have:b<w.heap.size:=hF b d;simp;omega⟩);obtain⟨uo,uc,N,J⟩:=(ho4.rd.mono (F':=dc F w z) Pc (fun b d=>d.elim .inl fun B=>.inr ⟨MN a.size (ho4.lt b B).1,(ho4.lt b B).2.1⟩)).sl;obtain⟨rfl,_,rfl⟩:=N5 N;refine Px ?_;exact bg rfl rfl p rfl ⟨Rd.mkLtl (kids:=[t,i]) J,x⟩
theorem mK(w:World){B:Nat}(c:B≤w.heap.size)(k:Int){v:Value}{t:Ltl}(h:GL B w v t):Rt Tryz.prog 99 [Pj k,v].toArray w fun u w'=>GL B w' u (.mk k 0 [t])∧Ext w w':=
 (mJ w (fun b a=>a.2) k h).mono fun u w' h=>⟨h.1.wk (GL.plus c h.2),h.2⟩
theorem mH(w:World){F:Nat→Prop}(hF:∀b,F b→b<w.heap.size){v:Value}{t:Ltl}(h:Rd w F v t):Rt Tryz.prog 97 [v].toArray w fun u w'=>Rd w' (dc F w w') u (.mk 4 0 [t]:Ltl)∧Ext w w':=by
 obtain⟨ao,cap,rfl,s⟩:=Rd.ltl h;refine dG Tryz.func97 Tryz.ntmps97 rfl rfl ?_;refine Pm ?_;refine dZ rfl rfl rfl fun o f e=>?_
 refine WL.alloc rfl rfl (fun n m d=>?_);have f:=f.ext d;have g:=e.trans d;have a:w.heap.size≤o.heap.size:=e.size;have j:=m.lt;refine PV ?_;refine WL.call rfl rfl rfl (mJ n (fun b f=>MQ (hF b f) g.size) 4 (Rd.up0 h g hF)) ?_;rintro u r ⟨l,k⟩
 obtain⟨uo,uc,rfl,p⟩:=Rd.ltl l;refine WL.st rfl rfl rfl (m.ext k) rfl rfl Pd (fun q i c=>?_);refine Px ?_;exact bg rfl rfl i rfl ⟨pn l c hF a j g.size k.size,Dk (g.trans k) c a⟩
theorem mI(w:World){B:Nat}(c:B≤w.heap.size){v:Value}{t:Ltl}(h:GL B w v t):Rt Tryz.prog 97 [v].toArray w fun u w'=>GL B w' u (.mk 4 0 [t])∧Ext w w':=
 (mH w (fun b a=>a.2) h).mono fun u w' h=>⟨h.1.wk (GL.plus c h.2),h.2⟩
theorem mC(w:World){F:Nat→Prop}(hF:∀b,F b→b<w.heap.size){v:Value}{t:Ltl}(h:Rd w F v t):Rt Tryz.prog 101 [v].toArray w fun u w'=>Rd w' (dc F w w') u (.mk 11 0 [t]:Ltl)∧Ext w w':=by
 obtain⟨ao,cap,rfl,s⟩:=Rd.ltl h;refine dG Tryz.func101 Tryz.ntmps101 rfl rfl ?_;refine Pm ?_;refine dZ rfl rfl rfl fun o f e=>?_
 refine WL.alloc rfl rfl (fun n m d=>?_);have f:=f.ext d;have g:=e.trans d;have a:w.heap.size≤o.heap.size:=e.size;have j:=m.lt;refine PV ?_;refine WL.call rfl rfl rfl (mJ n (fun b f=>MQ (hF b f) g.size) 11 (Rd.up0 h g hF)) ?_;rintro u r ⟨l,k⟩
 obtain⟨uo,uc,rfl,p⟩:=Rd.ltl l;refine WL.st rfl rfl rfl (m.ext k) rfl rfl Pd (fun q i c=>?_);refine Px ?_;exact bg rfl rfl i rfl ⟨pn l c hF a j g.size k.size,Dk (g.trans k) c a⟩
theorem mD(w:World){B:Nat}(c:B≤w.heap.size){v:Value}{t:Ltl}(h:GL B w v t):Rt Tryz.prog 101 [v].toArray w fun u w'=>GL B w' u (.mk 11 0 [t])∧Ext w w':=
 (mC w (fun b a=>a.2) h).mono fun u w' h=>⟨h.1.wk (GL.plus c h.2),h.2⟩
theorem mE(w:World){F:Nat→Prop}(hF:∀b,F b→b<w.heap.size){v n:Value}{t o:Ltl}(h:Rd w F v t)(r:Rd w F n o):Rt Tryz.prog 103 [v,n].toArray w fun u w'=>Rd w' (dc F w w') u (.mk 5 0 [t,o]:Ltl)∧Ext w w':=by
 obtain⟨ao,cap,rfl,C⟩:=Rd.ltl h;obtain⟨ao',cap',rfl,z⟩:=Rd.ltl r;refine dH Tryz.func103 Tryz.ntmps103 rfl rfl ?_;refine Pm ?_;refine dZ rfl rfl rfl fun w0 c l=>?_
 refine dZ rfl rfl rfl fun x i a=>?_
 have c:=c.ext a;have a:=l.trans a;refine WL.alloc rfl rfl (fun s q d=>?_);have c:=c.ext d;have i:=i.ext d;have g:=a.trans d;have e:w.heap.size≤x.heap.size:=a.size;have k:=q.lt;refine PV ?_;refine WL.call rfl rfl rfl (mN s (F:=F) (fun b i=>MQ (hF b i) g.size) 5 (Rd.up0 h g hF) (Rd.up0 r g hF)) ?_;rintro u B ⟨p,m⟩
 obtain⟨uo,uc,rfl,y⟩:=Rd.ltl p;refine WL.st rfl rfl rfl (q.ext m) rfl rfl Pd (fun A j f=>?_);refine Px ?_;exact bg rfl rfl j rfl ⟨pn p f hF e k g.size m.size,Dk (g.trans m) f e⟩
theorem mF(w:World){B:Nat}(e:B≤w.heap.size){v a:Value}{t c:Ltl}(h:GL B w v t)(f:GL B w a c):Rt Tryz.prog 103 [v,a].toArray w fun u w'=>GL B w' u (.mk 5 0 [t,c])∧Ext w w':=
 (mE w (F:=fun b=>B≤b∧b<w.heap.size) (fun b d=>d.2) h f).mono fun u w' h=>⟨h.1.wk (GL.plus e h.2),h.2⟩
theorem mL(w:World){F:Nat→Prop}(hF:∀b,F b→b<w.heap.size){v n:Value}{t o:Ltl}(h:Rd w F v t)(r:Rd w F n o):Rt Tryz.prog 98 [v,n].toArray w fun u w'=>Rd w' (dc F w w') u (.mk 6 0 [t,o]:Ltl)∧Ext w w':=by
 obtain⟨ao,cap,rfl,C⟩:=Rd.ltl h;obtain⟨ao',cap',rfl,z⟩:=Rd.ltl r;refine dH Tryz.func98 Tryz.ntmps98 rfl rfl ?_;refine Pm ?_;refine dZ rfl rfl rfl fun w0 c l=>?_
 refine dZ rfl rfl rfl fun x i a=>?_
 have c:=c.ext a;have a:=l.trans a;refine WL.alloc rfl rfl (fun s q d=>?_);have c:=c.ext d;have i:=i.ext d;have g:=a.trans d;have e:w.heap.size≤x.heap.size:=a.size;have k:=q.lt;refine PV ?_;refine WL.call rfl rfl rfl (mN s (F:=F) (fun b i=>MQ (hF b i) g.size) 6 (Rd.up0 h g hF) (Rd.up0 r g hF)) ?_;rintro u B ⟨p,m⟩
 obtain⟨uo,uc,rfl,y⟩:=Rd.ltl p;refine WL.st rfl rfl rfl (q.ext m) rfl rfl Pd (fun A j f=>?_);refine Px ?_;exact bg rfl rfl j rfl ⟨pn p f hF e k g.size m.size,Dk (g.trans m) f e⟩
theorem mM(w:World){B:Nat}(e:B≤w.heap.size){v a:Value}{t c:Ltl}(h:GL B w v t)(f:GL B w a c):Rt Tryz.prog 98 [v,a].toArray w fun u w'=>GL B w' u (.mk 6 0 [t,c])∧Ext w w':=
 (mL w (F:=fun b=>B≤b∧b<w.heap.size) (fun b d=>d.2) h f).mono fun u w' h=>⟨h.1.wk (GL.plus e h.2),h.2⟩
theorem mO(w:World){F:Nat→Prop}(hF:∀b,F b→b<w.heap.size){v n:Value}{t o:Ltl}(h:Rd w F v t)(r:Rd w F n o):Rt Tryz.prog 102 [v,n].toArray w fun u w'=>Rd w' (dc F w w') u (.mk 8 0 [t,o]:Ltl)∧Ext w w':=by
 obtain⟨ao,cap,rfl,C⟩:=Rd.ltl h;obtain⟨ao',cap',rfl,z⟩:=Rd.ltl r;refine dH Tryz.func102 Tryz.ntmps102 rfl rfl ?_;refine Pm ?_;refine dZ rfl rfl rfl fun w0 c l=>?_
 refine dZ rfl rfl rfl fun x i a=>?_
 have c:=c.ext a;have a:=l.trans a;refine WL.alloc rfl rfl (fun s q d=>?_);have c:=c.ext d;have i:=i.ext d;have g:=a.trans d;have e:w.heap.size≤x.heap.size:=a.size;have k:=q.lt;refine PV ?_;refine WL.call rfl rfl rfl (mN s (F:=F) (fun b i=>MQ (hF b i) g.size) 8 (Rd.up0 h g hF) (Rd.up0 r g hF)) ?_;rintro u B ⟨p,m⟩
 obtain⟨uo,uc,rfl,y⟩:=Rd.ltl p;refine WL.st rfl rfl rfl (q.ext m) rfl rfl Pd (fun A j f=>?_);refine Px ?_;exact bg rfl rfl j rfl ⟨pn p f hF e k g.size m.size,Dk (g.trans m) f e⟩
theorem mP(w:World){B:Nat}(e:B≤w.heap.size){v a:Value}{t c:Ltl}(h:GL B w v t)(f:GL B w a c):Rt Tryz.prog 102 [v,a].toArray w fun u w'=>GL B w' u (.mk 8 0 [t,c])∧Ext w w':=
 (mO w (F:=fun b=>B≤b∧b<w.heap.size) (fun b d=>d.2) h f).mono fun u w' h=>⟨h.1.wk (GL.plus e h.2),h.2⟩
abbrev bR(w:World)(t:Ltl):Value→World→Prop:=fun v w'=>GL w.heap.size w' v t∧Ext w w'
theorem Rt.low{P:Program}{f:FuncId}{args:Array Value}{w:World}{t:Ltl}{B:Nat}(h:Rt P f args w (bR w t))(a:B≤w.heap.size):Rt P f args w fun v w'=>GL B w' v t∧Ext w w':=h.mono fun v w' h=>⟨h.1.low a,h.2⟩
theorem FnV.low{P:Program}{fv:Value}{args:List Value}{w:World}{t:Ltl}{B:Nat}(h:FnV P fv args w (bR w t))(a:B≤w.heap.size):FnV P fv args w fun v w'=>GL B w' v t∧Ext w w':=h.mono fun v w' h=>⟨h.1.low a,h.2⟩

section
variable {w w':World}{F:Nat→Prop}{b:Nat}{pt:cK}{so:Option Addr}{sc:Nat}{lo:Option Addr}{lc:Nat}{s l:List Nat}{e:Nat}
end
section
variable {w w':World}{F:Nat→Prop}{b:Nat}{pt:cK}{so:Option Addr}{sc:Nat}{lo:Option Addr}{lc:Nat}{s l:List Nat}{e:Nat}
abbrev KS:=Nat×Bool×Bool×Bool
end
section
variable {w w':World}{F:Nat→Prop}{b:Nat}{pt:cK}{so:Option Addr}{sc:Nat}{lo:Option Addr}{lc:Nat}{s l:List Nat}{e:Nat}
end

section
variable {k p S q r c:Int}{s l:List Nat}
end
abbrev xD(n:Int):Ltl:=.mk 3 n []
abbrev z_(a:Ltl):Ltl:=.mk 4 0 [a]
abbrev gj(a b:Ltl):Ltl:=.mk 5 0 [a,b]
abbrev A1(a b:Ltl):Ltl:=.mk 6 0 [a,b]
abbrev H_(a b:Ltl):Ltl:=.mk 8 0 [a,b]
abbrev gi(a:Ltl):Ltl:=.mk 11 0 [a]
abbrev pm(a:Ltl):Ltl:=.mk 10 0 [a]
abbrev zr(a:Ltl):Ltl:=.mk 7 0 [a]
def iP(P:Int):Nat→Ltl
 |0=>gi (z_ (xD P))
 |n+1=>A1 (H_ (z_ (xD P)) (gj (xD P) (zr (iP P n)))) (gi (z_ (xD P)))
def rA(k P S:Int)(n:Nat):Ltl:=
 if k=2 then gi (xD P)
 else if k=3 then pm (xD P)
 else if k=5 then A1 (H_ (z_ (xD P)) (xD S)) (gi (z_ (xD P)))
 else if k=6 then gi (A1 (z_ (xD P)) (pm (xD S)))
 else if k=4 then iP P n
 else gi (z_ (xD P))
def II(weak:Bool)(a b:Ltl):Ltl:=if weak=true then A1 (H_ a b) (gi a)else H_ a b
def iQ(P R:Int)(weak:Bool):Nat→Ltl
 |0=>II weak (z_ (xD P)) (xD R)
 |n+1=>II weak (z_ (xD P)) (A1 (xD R) (gj (gj (xD P) (z_ (xD R))) (zr (iQ P R weak n))))
def In(k P S R:Int)(n:Nat)(weak:Bool):Ltl:=
 if k=2 then II weak (xD P) (xD R)
 else if k=3 then H_ (z_ (xD R)) (gj (xD P) (z_ (xD R)))
 else if k=5 then II weak (z_ (xD P)) (A1 (xD S) (xD R))
 else if k=6 then II weak (A1 (z_ (xD P)) (H_ (z_ (xD R)) (gj (xD S) (z_ (xD R))))) (xD R)
 else if k=4 then iQ P R weak n
 else II weak (z_ (xD P)) (xD R)
def mQ(pt:cK):Ltl:=
 let k:=pt.1
 let P:=pt.2.2.1
 let S:=pt.2.2.2.1
 let Q:=pt.2.2.2.2.1
 let R:=pt.2.2.2.2.2.1
 let c:=pt.2.2.2.2.2.2.toNat
 if pt.2.1=2 then A1 (z_ (pm (xD R))) (In k P S R c false)
 else if pt.2.1=3 then A1 (gi (z_ (xD Q))) (H_ (z_ (xD Q)) (gj (xD Q) (rA k P S c)))
 else if pt.2.1=4 then gi (A1 (z_ (gj (gj (xD Q) (z_ (xD R))) (pm (xD R)))) (In k P S R c false))
 else if pt.2.1=5 then gi (A1 (z_ (gj (xD Q) (z_ (xD R)))) (In k P S R c true))
 else rA k P S c
section
variable {L:Nat→Nat}{i:Nat}
end
inductive ME where
 |kn (i d:Nat) (v:Value)
 |fc (i d:Nat) (Φ:Value→(Nat→Nat)→World→Prop)
def ME.i:ME→Nat|.kn i _ _=>i|.fc i _ _=>i
def ME.d:ME→Nat|.kn _ d _=>d|.fc _ d _=>d
def ME.Φ:ME→Value→(Nat→Nat)→World→Prop|.kn _ _ v=>fun u _ _=>u=v|.fc _ _ Φ=>Φ
def dR(Φ:Value→(Nat→Nat)→World→Prop):Prop:=∀v γ a w w',Φ v γ w→Ext w w'→(∀b,b<w.heap.size→a b=γ b)→Φ v a w'
def ME.ok(m:ME):Prop:=dR m.Φ
def i3(γ:Nat→Nat)(w:World)(i:Nat):Nat→Nat:=fun b=>if b<w.heap.size then γ b else i
abbrev aN:=List ME
def py:aN→Nat→Option ME
 |[],_=>none
 |m::r,j=>match Nat.beq m.i j with|true=>some m|false=>py r j
theorem pz:∀{Γ:aN} {j:Nat} {m:ME},py Γ j=some m→m∈Γ∧m.i=j
 |[],_,_,h=>by cases h
 |x::r,j,m,h=>by
  unfold py at h
  split at h
  ·rename_i e
   injection h with h
   subst h;exact⟨by simp,MD e⟩
  ·obtain⟨h1,h2⟩:=pz h
   exact⟨by simp[h1],h2⟩
def nq(j:Nat):List Nat→Bool
 |[]=>false
 |x::r=>match Nat.beq x j with|true=>true|false=>nq j r
theorem nr{j:Nat}:∀{l:List Nat},nq j l=true→j∈l
 |[],h=>by cases h
 |x::r,h=>by
  unfold nq at h
  split at h
  ·rename_i e;rw[MD e];simp
  ·exact LO _ (nr h)
def AV:List Edge→List Nat
 |[]=>[]
 |e::r=>match Region.binds .any e with
  |true=>(match nq e.on (AV r)with|true=>AV r|false=>e.on::AV r)
  |false=>AV r
def AT(o:Oper):List Nat:=AV o.after.toList
theorem AW{j:Nat}:∀{l:List Edge},j∈AV l→∃e∈l,Region.binds .any e=true∧e.on=j
 |[],h=>by cases h
 |e::r,h=>by
  have up:j∈AV r→∃a∈e::r,Region.binds .any a=true∧a.on=j:=fun h=>by
   obtain⟨a,h1,h2⟩:=AW h;exact⟨a,by simp[h1],h2⟩
  unfold AV at h
  split at h
  ·rename_i b
   split at h
   ·exact up h
   ·rcases LN.1 h with rfl|h
    ·exact⟨e,by simp,b,rfl⟩
    ·exact up h
  ·exact up h
theorem AX{o:Oper}{j:Nat}(h:j∈AT o):∃e∈o.after,Region.binds .any e=true∧e.on=j:=by
 obtain⟨e,h1,h2⟩:=AW h;exact⟨e,by simpa using h1,h2⟩
def kS(Γ:aN)(σ:Sg):List Nat→Sg
 |[]=>σ
 |j::r=>match py Γ j with|some (.kn _ d v)=>(d,v)::kS Γ σ r|_=>kS Γ σ r
def ze(Γ:aN)(γ:Nat→Nat)(w:World)(k:Sg→Prop):List Nat→Sg→Prop
 |[],σ=>k σ
 |j::r,σ=>match py Γ j with
  |some (.kn _ d v)=>ze Γ γ w k r ((d,v)::σ)
  |some (.fc _ d Φ)=>∀v,Φ v γ w→ze Γ γ w k r ((d,v)::σ)
  |none=>ze Γ γ w k r σ
def fW(γ:Nat→Nat)(w:World)(k:Sg→Prop):aN→Sg→Prop
 |[],σ=>k σ
 |.kn _ d v::r,σ=>fW γ w k r ((d,v)::σ)
 |.fc _ d Φ::r,σ=>∀v,Φ v γ w→fW γ w k r ((d,v)::σ)
theorem qg{n:Nat}{σ:Sg}{a:Act}{d:Nat}{v:Value}(h:Fr n σ a)(c:a.tmps.getD d undef=v):Fr n ((d,v)::σ) a:=by
 refine⟨h.size,h.defers,fun t u b=>?_⟩;by_cases e:d=t
 ·subst e;rw[pW]at b;cases b;exact c
 ·rw[pX e]at b;exact h.slot _ _ b
theorem wu{Γ:aN}{n:Nat}{σ:Sg}{a:Act}{γ:Nat→Nat}{w:World}(c:Fr n σ a):∀(l:List Nat),(∀j∈l,∀m∈Γ,m.i=j→m.Φ (a.tmps.getD m.d undef) γ w)→Fr n (kS Γ σ l) a
 |[],_=>c
 |j::r,h=>by
  have b:=wu (γ:=γ) (w:=w) c r (fun x e=>h x (by simp[e]));unfold kS;split
  ·rename_i i d v hf
   obtain⟨h1,h2⟩:=pz hf;exact qg b (h j OW _ h1 h2)
  ·exact b
theorem zf{Γ:aN}{n:Nat}{a:Act}{γ:Nat→Nat}{w:World}{k:Sg→Prop}:∀(l:List Nat) (σ:Sg),ze Γ γ w k l σ→Fr n σ a→(∀j∈l,∀m∈Γ,m.i=j→m.Φ (a.tmps.getD m.d undef) γ w)→∃τ,Fr n τ a∧k τ
 |[],σ,h,b,_=>⟨σ,b,h⟩
 |j::r,σ,h,b,hΦ=>by
  unfold ze at h
  have c:∀x∈r,∀m∈Γ,m.i=x→m.Φ (a.tmps.getD m.d undef) γ w:=fun x e=>hΦ x (by simp[e])
  split at h
  ·rename_i i d v hf
   obtain⟨h1,h2⟩:=pz hf;exact zf r _ h (qg b (hΦ j OW _ h1 h2)) c
  ·rename_i i d Φ hf
   obtain⟨h1,h2⟩:=pz hf;exact zf r _ (h _ (hΦ j OW _ h1 h2)) (qg b rfl) c
  ·exact zf r _ h b c
theorem fX{n:Nat}{a:Act}{γ:Nat→Nat}{w:World}{k:Sg→Prop}:∀(Γ:aN) (σ:Sg),fW γ w k Γ σ→Fr n σ a→(∀m∈Γ,m.Φ (a.tmps.getD m.d undef) γ w)→∃τ,Fr n τ a∧k τ
 |[],σ,h,b,_=>⟨σ,b,h⟩
 |.kn i d v::r,σ,h,b,hΦ=>fX r _ h (qg b (hΦ (.kn i d v) OW)) (fun m c=>hΦ m (by simp[c]))
 |.fc i d Φ::r,σ,h,b,hΦ=>fX r _ (h _ (hΦ (.fc i d Φ) OW)) (qg b rfl) (fun m c=>hΦ m (by simp[c]))
def ab(γ:Nat→Nat)(w:World)(i d:Nat)(Φ:Value→(Nat→Nat)→World→Prop):Exit→Act→World→Prop:=
 fun x a w'=>x=.normal∧a.defers=[]∧Ext w w'∧Φ (a.tmps.getD d undef) (i3 γ w i) w'
theorem a8{γ:Nat→Nat}{w w':World}{n i d:Nat}{σ:Sg}{v:Value}{Φ:Value→(Nat→Nat)→World→Prop}(c:fnd σ d=some v)(e:Ext w w')(hΦ:Φ v (i3 γ w i) w'):EX (ab γ w i d Φ) .normal n σ w':=by
 unfold EX;intro a b
 exact⟨rfl,b.defers,e,by rw[b.slot _ _ c];exact hΦ⟩
theorem ML.en{P:Program}{l:List Oper}{γ:Nat→Nat}{w:World}{n i d:Nat}{σ:Sg}{Φ:Value→(Nat→Nat)→World→Prop}{R:Value→World→Prop}(hR:∀v w',R v w'→Φ v (i3 γ w i) w'∧Ext w w':=by exact fun _ _ h=>h):
  ∀v w',R v w'→WL P l (ab γ w i d Φ) [] n ((d,v)::σ) w':=
 fun v w' h=>WL.nil (a8 pW (hR v w' h).2 (hR v w' h).1)
def OB(P:Program)(L:List Oper)(w0:World)(n:Nat)(σ:Sg)(Γ:aN)(o:Oper)(i d:Nat)(Φ:Value→(Nat→Nat)→World→Prop):Prop:=
 ∀w γ,Ext w0 w→∀a,Fr n σ a→(∀j∈AT o,∀m∈Γ,m.i=j→m.Φ (a.tmps.getD m.d undef) γ w)→
  (Region.wanted o (yielded L.toArray a.tmps)=true∧o.wp P a w (fun b w'=>Ext w w'∧∃v,b=a.put (some d) v∧Φ v (i3 γ w i) w') c6)∨(Region.wanted o (yielded L.toArray a.tmps)=false∧Φ undef (i3 γ w i) w)
def ML(P:Program)(L:List Oper)(w0:World)(n:Nat)(σ:Sg)(K:aN→Prop):Nat→aN→List Oper→Prop
 |_,Γ,[]=>K Γ
 |i,Γ,o::r=>∃m:ME,m.i=i∧o.dst=some m.d∧Nat.ble (m.d+1) n=true∧fnd σ m.d=none∧m.ok∧OB P L w0 n σ Γ o i m.d m.Φ∧ML P L w0 n σ K (i+1) (m::Γ) r
theorem fQ{P:Program}{o:Oper}{i d n:Nat}{L:List Oper}{γ:Nat→Nat}{Φ:Value→(Nat→Nat)→World→Prop}{a:Act}{w:World}{τ:Sg}(hd:o.dst=some d)(hn:Nat.ble (d+1) n=true)(j:Fr n τ a)(l:Region.wanted o (yielded L.toArray a.tmps)=true)(h:WL P L (ab γ w i d Φ) [o] n τ w):
  o.wp P a w (fun p w'=>Ext w w'∧∃v,p=a.put (some d) v∧Φ v (i3 γ w i) w') c6:=by
 unfold WL at h
 have h2:=h a j;simp only[wpList,l,Ow]at h2
 have f:d<n:=MJ hn;have b:∀v,(a.put (some d) v).tmps.getD d undef=v:=by
  intro v
  simp[Act.put,Array.getD,j.size,f]
 rcases h2 with h2|⟨_,m⟩
 ·unfold Oper.wp at*
  obtain⟨dst,op,ty,pos,af,g⟩:=o;simp only at hd
  subst hd;generalize (execOp a.eval _).run P w=r at*
  cases r with
  |ok k w'=>
   cases k<;>simp only[Oper.upon]at h2⊢<;>first
    |exact⟨h2.2.2.1,_,rfl,by have:=h2.2.2.2;rw[b]at this;exact this⟩
    |(exfalso;have:=h2.2.1;simp[Act.put]at this;done)
    |(refine J2 h2 (fun x w'' c=>?_)
      cases x
      ·exact⟨c.2.2.1,_,rfl,by have:=c.2.2.2;rw[b]at this;exact this⟩
      ·exact absurd c.1 OW
      ·obtain⟨_,_,e⟩:=c;exact absurd e.1 OW)
    |exact Rows.mono h2 (fun v w'' c=>⟨c.2.2.1,_,rfl,by have:=c.2.2.2;rw[b]at this;exact this⟩)
    |exact h2
  |halt x w'=>cases x<;>simp only[Oper.upon]at h2⊢<;>first|exact h2|exact absurd h2.1 OW
 ·obtain⟨_,_,e⟩:=m
  exact absurd e.1 OW
section
variable {P:Program}{L:List Oper}{w0:World}{n:Nat}{σ:Sg}{K:aN→Prop}{i d:Nat}{Γ:aN}{r:List Oper}{op:Op}{ty:TypeId}{pos:String}{af:Array Edge}{g:Option (Nat×Bool)}
theorem cT{v:Value}(j:gd L (kS Γ σ (AV af.toList)) ⟨some d,op,ty,pos,af,g⟩=some true)(hn:Nat.ble (d+1) n=true)(hf:fnd σ d=none)
  (h:∀γ w,Ext w0 w→WL P L (ab γ w i d (fun u _ _=>u=v)) [⟨some d,op,ty,pos,af,g⟩] n (kS Γ σ (AV af.toList)) w) (f:ML P L w0 n σ K (i+1) (.kn i d v::Γ) r):
  ML P L w0 n σ K i Γ (⟨some d,op,ty,pos,af,g⟩::r):=by
 refine⟨.kn i d v,rfl,rfl,hn,hf,fun u _ _ w w' h _ _=>h,fun w γ e a k hΦ=>.inl ?_,f⟩;have c:Fr n (kS Γ σ (AV af.toList)) a:=wu k _ hΦ;have b:=qN c j;exact⟨b,fQ rfl hn c b (h γ w e)⟩
theorem ML.fc(Φ:Value→(Nat→Nat)→World→Prop)(l:gd L (kS Γ σ (AV af.toList)) ⟨some d,op,ty,pos,af,g⟩=some true)(hn:Nat.ble (d+1) n=true)(hf:fnd σ d=none)(f:dR Φ)
  (h:∀γ w,Ext w0 w→ze Γ γ w (fun τ=>WL P L (ab γ w i d Φ) [⟨some d,op,ty,pos,af,g⟩] n τ w) (AV af.toList) σ) (j:ML P L w0 n σ K (i+1) (.fc i d Φ::Γ) r):
  ML P L w0 n σ K i Γ (⟨some d,op,ty,pos,af,g⟩::r):=by
 refine⟨.fc i d Φ,rfl,rfl,hn,hf,f,fun w γ e a c hΦ=>.inl ?_,j⟩;have k:Fr n (kS Γ σ (AV af.toList)) a:=wu c _ hΦ;have b:=qN k l;obtain⟨τ,hτ,m⟩:=zf _ _ (h γ w e) c hΦ;exact⟨b,fQ rfl hn hτ b m⟩
end
def lL(L:List Oper)(i:Nat):Option Nat:=match L[i]? with|some o=>o.dst|none=>none
def mark(L:List Oper):Nat→List Bool→List Bool
 |0,m=>m
 |i+1,m=>match m.getD i false,L[i]? with
  |true,some o=>mark L i ((AT o).foldl (fun m j=>m.set j true) m)
  |_,_=>mark L i m
def yX(L:List Oper)(k:Nat):Bool:=
 Region.noSelect L.toArray&&(List.range L.length).all (fun i=>match L[i]? with|some o=>(AT o).all fun j=>decide (j<i)|none=>false)&&
 (List.range k).all (fun i=>(List.range i).all fun j=>match lL L i,lL L j with|some x,some y=>!(Nat.beq x y)|_,_=>false)&&
 decide (k≤L.length)&&(List.range (L.length -k)).all fun p=>(List.range (k+p)).all fun i=>(mark L (k+p+1) ((List.replicate (k+p+1) false).set (k+p) true)).getD i false
theorem yM{L:List Oper}{S:Nat→Prop}(hS:∀i o,S i→L[i]?=some o→∀j∈AT o,S j):∀(i:Nat) (m:List Bool),(∀x,m.getD x false=true→S x)→∀x,(mark L i m).getD x false=true→S x
 |0,m,h,x,a=>h x a
 |i+1,m,h,x,a=>by
  unfold mark at a
  split at a
  ·rename_i o q p
   refine yM hS i _ ?_ x a;have c:=hS i o (h i q) p;have key:∀(l:List Nat) (m:List Bool),(∀j∈l,S j)→(∀x,m.getD x false=true→S x)→∀x,(l.foldl (fun m j=>m.set j true) m).getD x false=true→S x:=by
    intro l
    induction l with
    |nil=>intro m _ h x a;exact h x a
    |cons j l k=>
     intro m f h x a
     refine k _ (fun y b=>f y (by simp[b])) (fun y b=>?_) x a;by_cases e:j=y
     ·subst e;exact f _ OW
     ·refine h y ?_
      simpa[KR,K3,e]using b
   exact key _ _ c h
  ·exact yM hS i _ h x a
structure MG(P:Program)(L:List Oper)(w0:World)(n:Nat)(σ:Sg)(Γ:aN)(i:Nat)(o:Oper):Prop where
 ex:∃m∈Γ,∃Δ:aN,(∀x∈Δ,x∈Γ)∧m.i=i∧o.dst=some m.d∧Nat.ble (m.d+1) n=true∧fnd σ m.d=none∧OB P L w0 n σ Δ o i m.d m.Φ
theorem cU{P:Program}{L:List Oper}{w0:World}{n:Nat}{σ:Sg}{K:aN→Prop}:∀(r:List Oper) (i:Nat) (Γ:aN),ML P L w0 n σ K i Γ r→(∀m∈Γ,m.i<i∧m.ok)→(Γ.map (·.i)).Nodup→
  ∃Γ':aN,K Γ'∧(∀m∈Γ,m∈Γ')∧(∀m∈Γ',m.i<i+r.length∧m.ok)∧(Γ'.map (·.i)).Nodup∧∀j o,r[j]?=some o→MG P L w0 n σ Γ' (i+j) o
 |[],i,Γ,h,hΓ,hd=>⟨Γ,h,fun m h=>h,hΓ,hd,fun j o h=>by simp at h⟩
 |o::r,i,Γ,h,hΓ,hd=>by
  obtain⟨m,h1,h2,h3,h4,p,l,k⟩:=h;obtain⟨Γ',g1,g2,g3,g4,g5⟩:=cU r (i+1) (m::Γ) k (fun x a=>by
   rcases LN.1 a with rfl|a
   ·exact⟨by omega,p⟩
   ·have:=hΓ x a;exact⟨by omega,this.2⟩) (by
   rw[LE,L4];refine⟨fun f=>?_,hd⟩;obtain⟨x,a,e⟩:=LU.1 f;have:=(hΓ x a).1;omega)
  refine⟨Γ',g1,fun x a=>g2 x (by simp[a]),fun x a=>by have:=g3 x a;simp only[Ll];exact⟨by omega,this.2⟩,g4,fun j c b=>?_⟩;cases j with
  |zero=>
   simp at b
   subst b;exact⟨m,g2 m OW,Γ,fun x a=>g2 x (by simp[a]),h1,h2,h3,h4,l⟩
  |succ j=>
   have:=g5 j c (by simpa using b);rwa[show i+(j+1)=i+1+j by omega]
theorem yG{β γ:Type}{f:β→γ}{l:List β}(h:(l.map f).Nodup):∀x∈l,∀y∈l,f x=f y→x=y:=fun x b y a=>zY h x b y a
structure MInv(L:List Oper)(w0:World)(n:Nat)(σ:Sg)(Γ:aN)(k:Nat)(listed:Array Bool)(a:Act)(γ:Nat→Nat)(w:World):Prop where
 size:listed.size=L.length
 fr:Fr n σ a
 ext:Ext w0 w
 facts:∀m∈Γ,listed.getD m.i false=true→m.Φ (a.tmps.getD m.d undef) γ w
 closed:∀i o,listed.getD i false=true→L[i]?=some o→∀j∈AT o,listed.getD j false=true
 low:∀i,listed.getD i false=true→i<k
theorem listed_set{l:Array Bool}{i j:Nat}:(l.setIfInBounds i true).getD j false=true↔(j=i∧i<l.size)∨l.getD j false=true:=by
 simp only[Jt,JA];by_cases e:i=j
 ·subst e
  by_cases h:i<l.size
  ·simp[h]
  ·simp[h]
 ·rw[Ou e]
  constructor
  ·exact fun h=>.inr h
  ·rintro(⟨h,_⟩|h)
   ·exact absurd h.symm e
   ·exact h
theorem lr{l:Array Bool}{i:Nat}(h:l.getD i true=false):(l.setIfInBounds i true).toList.countP (fun b=>!b)+1=l.toList.countP fun b=>!b:=by
 have hi:i<l.size:=by
  rcases MR i l.size with a|a
  ·exact a
  ·simp[Jt,Jv a]at h
 have e:l[i]=false:=by simpa[Jt,hi]using h
 have h1:(l.setIfInBounds i true).toList=l.toList.set i true:=by simp
 rw[h1,Ku (by simpa using hi)];have h2:l.toList[i]'(by simpa using hi)=false:=by simpa using e
 rw[h2];have:0<l.toList.countP fun b=>!b:=Ks.2 ⟨false,h2▸Lb _,rfl⟩
 generalize (l.toList.countP fun b=>!b)=c at*
 simp only[JU,JV,Ow,JQ,Ot];omega
theorem MInv.step{L:List Oper}{w0 w w':World}{n k i:Nat}{σ:Sg}{Γ:aN}{c:Array Bool}{a:Act}{γ:Nat→Nat}{m:ME}{o:Oper}{v:Value}(h:MInv L w0 n σ Γ k c a γ w)(H:m∈Γ)(z:m.i=i)(M:L[i]?=some o)(hn:Nat.ble (m.d+1) n=true)
  (hf:fnd σ m.d=none) (D:∀m∈Γ,m.ok) (y:(Γ.map (·.i)).Nodup) (G:∀x∈Γ,x.i≠i→x.d≠m.d) (I:Ext w w') (hΦ:m.Φ v (i3 γ w i) w') (s:∀j∈AT o,c.getD j false=true) (N:i<k):MInv L w0 n σ Γ k (c.setIfInBounds i true) (a.put (some m.d) v) (i3 γ w i) w':=by
 have A:m.d<n:=MJ hn;have C:=h.fr.put (d:=some m.d) (v:=v) hn;refine⟨by simpa using h.size,⟨C.size,C.defers,fun t u B=>C.slot t u ?_⟩,h.ext.trans I,fun x p F=>?_,fun j J l f q hq=>?_,fun j l=>?_⟩
 ·show fnd ((m.d,v)::σ) t=some u
  rw[pX (fun e=>by subst e;rw[hf]at B;cases B)];exact B
 ·rcases listed_set.1 F with⟨e,_⟩|F
  ·obtain rfl:x=m:=yG y x p m H (by show x.i=m.i;rw[e,z])
   have:(a.put (some x.d) v).tmps.getD x.d undef=v:=by simp[Act.put,Array.getD,h.fr.size,A]
   rw[this];exact hΦ
  ·by_cases e:x.i=i
   ·obtain rfl:x=m:=yG y x p m H (by show x.i=m.i;rw[e,z])
    have:(a.put (some x.d) v).tmps.getD x.d undef=v:=by simp[Act.put,Array.getD,h.fr.size,A]
    rw[this];exact hΦ
   ·have E:=G x p e
    have:(a.put (some m.d) v).tmps.getD x.d undef=a.tmps.getD x.d undef:=by
     simp only[Act.put,Jt];rw[JB (fun e=>E e.symm)]
    rw[this];exact D x p _ _ _ _ _ (h.facts x p F) I (fun b O=>Ov O)
 ·rcases listed_set.1 l with⟨e,_⟩|l
  ·subst e
   rw[M]at f
   cases f
   exact listed_set.2 (.inr (s q hq))
  ·exact listed_set.2 (.inr (h.closed j J l f q hq))
 ·rcases listed_set.1 l with⟨e,_⟩|l
  ·omega
  ·exact h.low j l
theorem yO{o:Oper}{e:Edge}(a:e∈o.after)(b:Region.binds .any e=true):e.on∈AT o:=by
 unfold AT;have key:∀l:List Edge,e∈l→e.on∈AV l:=by
  intro l
  induction l with
  |nil=>intro h;cases h
  |cons x l ih2=>
   intro h
   unfold AV;rcases LN.1 h with rfl|h
   ·rw[b]
    dsimp only;split
    ·rename_i a;exact nr a
    ·simp
   ·split
    ·split
     ·exact ih2 h
     ·exact LO _ (ih2 h)
    ·exact ih2 h
 exact key _ (by simpa using a)
theorem AU{o:Oper}{a:Array Bool}(h:∀e∈o.after,Region.binds .any e=true→a.getD e.on false=true):∀j∈AT o,a.getD j false=true:=fun j b=>by
 obtain⟨e,h1,h2,rfl⟩:=AX b;exact h e h1 h2
theorem rm{l:Array Bool}{i:Nat}(hi:i<l.size):l.getD i true=l.getD i false:=by simp[Jt,hi]
theorem f7{L:List Oper}{i:Nat}{o:Oper}{a:Array Bool}(f:∀x,x<i→(mark L (i+1) ((List.replicate (i+1) false).set i true)).getD x false=true)(m:L[i]?=some o)(c:∀j∈AT o,a.getD j false=true)
  (h:∀i o,a.getD i false=true→L[i]?=some o→∀j∈AT o,a.getD j false=true):∀x,x<i→a.getD x false=true:=fun x b=>by
 have hS:=yM (L:=L) (S:=fun x=>x=i∨a.getD x false=true) (fun x l b ho2 j k=>by
  rcases b with rfl|b
  ·rw[m]at ho2;cases ho2;exact .inr (c j k)
  ·exact .inr (h x l b ho2 j k)) (i+1) ((List.replicate (i+1) false).set i true) (fun x b=>by
  by_cases e:i=x
  ·exact .inl e.symm
  ·exfalso
   simp[KR,K3,e,K2]at b
   split at b<;>simp at b)
 exact(hS x (f x b)).resolve_left OS
theorem GR{P:Program}{L:List Oper}{Q:Exit→Act→World→Prop}{k:Nat}(u:∀p,k≤p→p<L.length→∀x,x<p→(mark L (p+1) ((List.replicate (p+1) false).set p true)).getD x false=true)(c:∀i o,L[i]?=some o→∀j∈AT o,j<i):
  ∀(fuel p:Nat) (b:Array Bool) (a:Act) (w:World),k≤p→fuel+p=L.length→b.size=L.length→(∀i,b.getD i false=true↔i<p)→wpList P L.toArray (fun x a w=>x=.normal∧Q .normal a w) (L.drop p) a w→
   wpAny P .any L.toArray (fun x a w=>x=.normal∧Q .normal a w) fuel b a w
 |0,p,b,a,w,M,I,s,m,h=>by
  rw[List.drop_of_length_le OS]at h
  refine⟨List.eq_nil_iff_forall_not_mem.2 fun i hi=>?_,h⟩;obtain⟨y,oi,t,_⟩:=Ox.1 hi;have B:i<L.length:=by have:=(Jw.1 t).1;simpa using this
  rw[rm OS,(m i).2 OS]at y
  cases y
 |fuel+1,p,b,a,w,M,I,s,m,h=>by
  have l:p<L.length:=by omega
  have F:∀i o,b.getD i false=true→L[i]?=some o→∀j∈AT o,b.getD j false=true:=fun i o hi D j N=>(m j).2 (by have:=c i o D j N;have:=(m i).1 hi;omega)
  have f:∀i,i∈Region.ready .any L.toArray b→i=p:=fun i hi=>by
   obtain⟨y,oi,t,E⟩:=Ox.1 hi;have q:L[i]?=some oi:=by simpa using t
   have B:i<L.length:=(KZ.1 q).1;rw[rm OS]at y
   have O:¬i<p:=fun v=>by rw[(m i).2 v]at y;cases y
   rcases MR p i with v|J
   ·have:=f7 (u i OS B) q (AU E) F p v
    exact absurd ((m p).1 this) (MO _)
   ·omega
  have A:p∈Region.ready .any L.toArray b:=Ox.2 ⟨by
   rw[rm OS];cases G:b.getD p false with
   |false=>rfl
   |true=>exact absurd ((m p).1 G) (MO _),L[p],by simp[l],fun e R S=>(m _).2 (c p L[p] (KX l) _ (yO R S))⟩
  refine⟨fun H=>(by rw[H]at A;cases A),fun i hi=>?_⟩;obtain rfl:=f i hi;rw[Ky l]at h
  simp only[wpList]at h
  have D:L.toArray[i]?=some L[i]:=by simp[l]
  unfold wpOp;simp only[D];have z:∀j,(b.setIfInBounds i true).getD j false=true↔j<i+1:=fun j=>by
   rw[listed_set,m];omega
  split
  ·rename_i C
   rw[Ov C]at h
   exact h.imp (Ng fun U w' T=>GR u c fuel (i+1) _ _ _ OS OS (by simpa using s) z T) id
  ·rename_i C
   rw[Ou C]at h
   exact GR u c fuel (i+1) _ _ _ OS OS (by simpa using s) z h
theorem I7{P:Program}{L:List Oper}{Q:Exit→Act→World→Prop}{w0:World}{n k:Nat}{σ:Sg}{Γ:aN}(hB:yX L k=true)(hΓ:∀m∈Γ,m.i<k∧m.ok)(I:(Γ.map (·.i)).Nodup)(hM:∀j o,j<k→L[j]?=some o→MG P L w0 n σ Γ j o)
  (hK:∀γ w',Ext w0 w'→fW γ w' (fun τ=>WL P L (fun x a w=>x=.normal∧Q .normal a w) (L.drop k) n τ w') Γ σ):
  ∀(fuel:Nat) (c:Array Bool) (a:Act) (γ:Nat→Nat) (w:World),MInv L w0 n σ Γ k c a γ w→c.toList.countP (fun b=>!b)=fuel→wpAny P .any L.toArray (fun x a w=>x=.normal∧Q .normal a w) fuel c a w:=by
 simp only[yX,JM,Om,Kf,LZ]at hB
 obtain⟨⟨⟨⟨hs,O⟩,T⟩,hkl⟩,J⟩:=hB;have C:∀p,k≤p→p<L.length→∀x,x<p→(mark L (p+1) ((List.replicate (p+1) false).set p true)).getD x false=true:=fun p h1 h2 x s=>by
  have:=J (p -k) OS x OS;rwa[show k+(p -k)=p by omega]at this
 have t:∀i o,L[i]?=some o→∀j∈AT o,j<i:=fun i o H j hj=>by
  have h:=O i (KZ.1 H).1;rw[H]at h
  simp only[Kf,Om]at h
  exact h j hj
 have hdd:∀x∈Γ,∀m∈Γ,x.i≠m.i→x.d≠m.d:=by
  have S:∀x∈Γ,lL L x.i=some x.d:=fun x s=>by
   have X:=(hΓ x s).1;have F:x.i<L.length:=by omega
   obtain⟨m,q,_,_,e,hd,_⟩:=(hM x.i L[x.i] X (KX F)).ex;obtain rfl:m=x:=yG I m q x s e;unfold lL;rw[KX F];exact hd
  have lt:∀x∈Γ,∀m∈Γ,x.i<m.i→x.d≠m.d:=fun x s m q h e=>by
   have h1:=T m.i (hΓ m q).1 x.i h;rw[S x s,S m q,e]at h1
   simp at h1
  intro x s m q B
  rcases Nat.lt_or_gt_of_ne B with h|h
  ·exact lt x s m q h
  ·exact fun e=>lt m q x s h e.symm
 have V:∀(c:Array Bool),c.size=L.length→Region.ready .any L.toArray c=[]→∀i,i<L.length→c.getD i false=true:=by
  intro c hsz hr i
  induction i using Nat.strongRecOn with
  |ind i W=>
   intro hi
   by_cases E:c.getD i false=true
   ·exact E
   ·have:i∈Region.ready .any L.toArray c:=Ox.2 ⟨by
     rw[rm OS];simpa using E,L[i],by simp[hi],fun e he hb=>by
     have D:=t i L[i] (KX hi) _ (yO he hb);exact W _ D OS⟩
    rw[hr]at this;cases this
 intro fuel
 induction fuel with
 |zero=>
  intro c a γ w f hc
  have E:∀i,i<L.length→c.getD i false=true:=fun i hi=>by
   cases s:c.getD i false with
   |true=>rfl
   |false=>
    have:=lr (l:=c) (i:=i) (by rw[rm (by have:=f.size;omega)];exact s);omega
  obtain⟨τ,hτ,hF⟩:=fX Γ σ (hK γ w f.ext) f.fr (fun m q=>f.facts m q (E m.i (by have:=(hΓ m q).1;omega)));have hke:k=L.length:=by
   rcases MR k L.length with h|h
   ·exact absurd (f.low k (E k h)) (MO _)
   ·omega
  unfold WL at hF
  exact GR C t 0 k c a w Pf OS f.size (fun i=>⟨f.low i,fun h=>E i OS⟩) (hF a hτ)
 |succ fuel W=>
  intro c a γ w f hc
  by_cases u:∀i,i<k→c.getD i false=true
  ·
   obtain⟨τ,hτ,hF⟩:=fX Γ σ (hK γ w f.ext) f.fr (fun m q=>f.facts m q (u m.i (hΓ m q).1));unfold WL at hF
   have z:fuel+1+k=L.length:=by
    have D:c.toList=(List.range L.length).map (fun i=>decide (i<k)):=by
     refine KE (by simpa using f.size) fun i h1 h2=>?_
     simp only[La,Lc,Array.getElem_toList];have h3:c.getD i false=c[i]'(by simpa using h1):=by simp[Jt,show i<c.size by simpa using h1]
     by_cases h:i<k
     ·have:=u i h
      rw[h3]at this;rw[this];simp[h]
     ·cases s:c[i]'(by simpa using h1)with
      |false=>simp[h]
      |true=>exact absurd (f.low i (by rw[h3,s])) h
    rw[D]at hc
    have U:∀N,k≤N→((List.range N).map fun i=>decide (i<k)).countP (fun b=>!b)+k=N:=by
     intro N
     induction N with
     |zero=>intro h;simp at h⊢;omega
     |succ N ihN=>
      intro h
      rw[Mb,LC,Kp];by_cases hN:k≤N
      ·have:=ihN hN
       have e1:([N].map fun i=>decide (i<k)).countP (fun b=>!b)=1:=by
        simp;omega
       omega
      ·obtain rfl:k=N+1:=by omega
       have h0:((List.range N).map fun i=>decide (i<N+1)).countP (fun b=>!b)=0:=by
        rw[List.countP_eq_zero];intro b hb
        obtain⟨i,hi,rfl⟩:=LU.1 hb;have:=LZ.1 hi;simp;omega
       rw[h0];simp
    have:=U L.length hkl;omega
   exact GR C t (fuel+1) k c a w Pf z f.size (fun i=>⟨f.low i,u i⟩) (hF a hτ)
  ·refine⟨fun hr=>absurd (fun i hi=>V c f.size hr i OS) u,fun i hi=>?_⟩
   obtain⟨hun,o,H,hed⟩:=Ox.1 hi;have hcs:=lr hun;have y:L[i]?=some o:=by simpa using H
   have hil:i<L.length:=(KZ.1 y).1;have A:=AU hed;have R:i<k:=by
    rcases MR i k with h|h
    ·exact h
    ·exact absurd (fun x s=>f7 (C i h hil) y A f.closed x OS) u
   unfold wpOp;simp only[H];obtain⟨m,q,Δ,hΔ,M,hd,hn,hf,hob⟩:=(hM i o R y).ex;have G:∀(w':World) (v:Value),Ext w w'→m.Φ v (i3 γ w i) w'→wpAny P .any L.toArray (fun x a w=>x=.normal∧Q .normal a w) fuel (c.setIfInBounds i true) (a.put (some m.d) v) w':=fun w' v hE hΦ=>
    W _ _ _ _ (f.step q M y hn hf (fun m q=>(hΓ m q).2) I (fun x s B=>hdd x s m q (by rw[M];exact B)) hE hΦ A R) OS
   rcases hob w γ f.ext a f.fr (fun j hj x s e=>f.facts x (hΔ x s) (by rw[e];exact A j hj))with⟨Z,Y⟩|⟨Z,hΦ⟩
   ·simp only[Z,Ow]
    refine .inl (Ng (fun a' w' h'=>?_) (Jk (fun e a w _ hf=>hf.elim) Y));obtain⟨hE,v,rfl,hΦ⟩:=h';exact G w' v hE hΦ
   ·simp only[Z,JQ,Ot]
    rw[hd];exact G w undef (Ext.refl w) hΦ
section
variable {P:Program}{Q:Exit→Act→World→Prop}{n:Nat}{σ:Sg}{w:World}{L:List Oper}
def bJ(P:Program)(L:List Oper)(Q:Exit→Act→World→Prop)(n:Nat)(σ:Sg)(w:World)(T:List Oper):aN→Prop:=
 fun Γ=>∀γ w',Ext w w'→fW γ w' (fun τ=>WL P L (fun x a w=>x=.normal∧Q .normal a w) T n τ w') Γ σ
theorem aG{id:Nat}(k:Nat)(c:P.follows .mixedOrders=true)(f:yX L k=true)(h:ML P L (drew w) n σ (bJ P L Q n σ (drew w) (L.drop k)) 0 [] (L.take k)):CW P (.region id L.toArray true) Q n σ w:=by
 unfold CW;intro a t
 have p:k≤L.length:=by
  simp only[yX,JM,Om]at f
  exact f.1.2
 obtain⟨Γ,g1,_,g3,g4,g5⟩:=cU _ _ _ h (fun m c=>by cases c) List.Pairwise.nil;have h1:=I7 (P:=P) (Q:=Q) (w0:=drew w) f (fun m c=>by have:=g3 m c;simp only[Lz,Nb]at this;exact⟨by omega,this.2⟩) g4 (fun j o q l=>by
  have:=g5 j o (by rw[K5 q];exact l);rwa[Nb]at this) g1 L.length (Array.replicate L.length false) a (fun _=>0) (drew w) ⟨by simp,t,Ext.refl _,fun m c b=>by
   exfalso;simp[Jt,Jz]at b;split at b<;>simp at b,fun i o b=>by
   exfalso;simp[Jt,Jz]at b;split at b<;>simp at b,fun i b=>by
   exfalso;simp[Jt,Jz]at b;split at b<;>simp at b⟩ (by simp[Kt])
 have h2:(Code.region id L.toArray true).wp P (fun x a w=>x=.normal∧Q .normal a w) a w:=OQ c (by simpa using h1);exact OP h2 (fun e u w' ⟨s,hq⟩=>by subst s;exact hq)
theorem ML.nil{w0:World}{K:aN→Prop}{i:Nat}{Γ:aN}(h:K Γ):ML P L w0 n σ K i Γ []:=h
end
instance sK:IsC Tryz.prog 186 1 false:=IsC.of OT Tryz.underlying186 rfl
instance sL:IsZC Tryz.prog 186 [.nilFunc]:=IsZC.of (z:=.nilFunc) OT rfl
theorem rz(B:Nat)(w:World)(k:Int):GL B w (yj 3 k none 0 0) (xD k):=Rd.mkLtl (kids:=[]) (Sl.zero _ _)
theorem Dv(F:Nat→Prop)(w:World)(k:Int):Rd w F (yj 3 k none 0 0) (xD k):=Rd.mkLtl (kids:=[]) (Sl.zero _ _)
theorem mG(w:World)(k:Int):Rt Tryz.prog 96 [Pj k].toArray w fun v w'=>v=yj 3 k none 0 0∧Ext w w':=by
 refine dG Tryz.func96 Tryz.ntmps96 rfl rfl ?_;refine QI ?_;refine WL.alloc rfl rfl (fun g f d=>?_);refine QI ?_;refine WL.build rfl rfl rfl rfl ?_;refine WL.st rfl rfl rfl f rfl rfl Pd (fun e b a=>?_);have c:Ext w e:=d.grown a d.size O5;refine QI ?_;exact bg rfl rfl b rfl ⟨rfl,c⟩
def FM(B k:Nat)(γ:Nat→Nat)(w:World):Nat→Prop:=fun b=>B≤b∧b<w.heap.size∧γ b≤k
theorem i4{γ:Nat→Nat}{w:World}{i:Nat}:i3 γ w i w.heap.size=i:=by unfold i3;rw[Ou (MO _)]
theorem FM.lt{B k:Nat}{γ:Nat→Nat}{w:World}:∀b,FM B k γ w b→b<w.heap.size:=fun b h=>h.2.1
theorem FW{B k:Nat}{t:Ltl}:dR (fun v γ w=>Rd w (FM B k γ w) v t):=fun v γ c w w' h e hγ=>(Rd.up0 h e FM.lt).wk (fun b a=>⟨a.1,MQ a.2.1 e.size,by rw[hγ b a.2.1];exact a.2.2⟩)
theorem FU{B i:Nat}{e:TypeId}{zs:List Value}:dR (fun v γ w=>∃b,v=Pk b∧γ b=i∧B≤b∧Blk w b e zs):=by
 rintro v γ a w w' ⟨b,h1,h2,h3,h4⟩ e hγ
 exact⟨b,h1,by rw[hγ b h4.lt];exact h2,h3,h4.ext e⟩
theorem FM.call{P:Program}{f:FuncId}{args:Array Value}{w:World}{B k i:Nat}{γ:Nat→Nat}{t:Ltl}(hi:i≤k)(c:B≤w.heap.size)(h:Rt P f args w fun v w'=>Rd w' (dc (FM B k γ w) w w') v t∧Ext w w'):
  Rt P f args w fun v w'=>Rd w' (FM B k (i3 γ w i) w') v t∧Ext w w':=h.mono fun v w' h=>⟨h.1.wk (fun b a=>by
 have:=h.2.size;rcases a with a|a
 ·exact⟨a.1,by have:=a.2.1;omega,by unfold i3;rw[Ov a.2.1];exact a.2.2⟩
 ·exact⟨by have:=a.1;omega,a.2,by unfold i3;rw[Ou (by have:=a.1;omega)];exact hi⟩),h.2⟩
theorem FM.fresh{P:Program}{f:FuncId}{args:Array Value}{w:World}{B k i:Nat}{γ:Nat→Nat}{t:Ltl}(hi:i≤k)(c:B≤w.heap.size)(h:Rt P f args w (bR w t)):
  Rt P f args w fun v w'=>Rd w' (FM B k (i3 γ w i) w') v t∧Ext w w':=h.mono fun v w' h=>⟨h.1.wk (fun b a=>⟨by have:=a.1;omega,a.2,by unfold i3;rw[Ou (by have:=a.1;omega)];exact hi⟩),h.2⟩
theorem FM.st{B k b:Nat}{γ:Nat→Nat}{w w':World}{v:Value}{t:Ltl}(h:Rd w (FM B k γ w) v t)(f:k<γ b)(d:w.grownBy w' (some b)):GL B w' v t:=
 (Rd.kept h d (fun c a=>⟨a.2.1,fun e=>by have:=Nn e;subst this;have:=a.2.2;omega⟩)).wk (fun c a=>⟨a.1,MQ a.2.1 d.size⟩)
abbrev BJ(k sc P S Q R c:Int):List Value:=[.int .i64 k,.int .i64 sc,.int .i64 P,.int .i64 S,.int .i64 Q,.int .i64 R,.int .i64 c]
set_option maxRecDepth 10000 in
set_option maxHeartbeats 1000000 in
theorem rB(k sc P S Q R c:Int):∀(n:Nat),n≤1000→∀(w:World),Rt Tryz.prog 104 [.agg (BJ k sc P S Q R c).toArray,Pj (n:Int)].toArray w (bR w (rA k P S n)):=by
 intro n
 induction n with
 |zero=>
  intro _ w
  refine dH Tryz.func104 Tryz.ntmps104 rfl rfl ?_;refine QI ?_;refine dZ rfl rfl rfl fun w1 p e1=>?_
  refine WL.alloc rfl rfl (fun q d e2=>?_);have p:=p.ext e2;have f:=e1.trans e2;have hlr:=d.lt;have hs1:=e1.size;have a:q.heap.size≤q.heap.size:=MM _;unfold rA;refine QI ?_;by_cases h2:k=2
  ·subst h2
   rw[Ov rfl];refine QI ?_;refine QI ?_;refine WL.call rfl rfl rfl (mG q P) ?_;rintro _ A ⟨rfl,l⟩
   have p:=p.ext l;have d:=d.ext l;have f:=f.trans l;have a:=MN a l.size;refine WL.call rfl rfl rfl (mD A a (rz _ _ _)) ?_;rintro v13 N ⟨M,j⟩
   have p:=p.ext j;have d:=d.ext j;have f:=f.trans j;have a:=MN a j.size;obtain⟨uo,uc,rfl,s⟩:=Rd.ltl M;refine QI ?_;refine WL.st rfl rfl rfl d rfl rfl Pd (fun z t g=>?_);refine QI ?_;exact bg rfl rfl t rfl ⟨(M.st g OS).low OS,Dk f g OS⟩
  by_cases h3:k=3
  ·subst h3
   rw[Ou OU,Ov rfl];refine QI ?_;refine QI ?_;refine WL.call rfl rfl rfl (mG q P) ?_;rintro _ A ⟨rfl,l⟩
   have p:=p.ext l;have d:=d.ext l;have f:=f.trans l;have a:=MN a l.size;refine WL.call rfl rfl rfl (mK A a 10 (rz _ _ _)) ?_;rintro v19 N ⟨L,j⟩
   have p:=p.ext j;have d:=d.ext j;have f:=f.trans j;have a:=MN a j.size;obtain⟨uo,uc,rfl,s⟩:=Rd.ltl L;refine QI ?_;refine WL.st rfl rfl rfl d rfl rfl Pd (fun z t g=>?_);refine QI ?_;exact bg rfl rfl t rfl ⟨(L.st g OS).low OS,Dk f g OS⟩
  by_cases h5:k=5
  ·subst h5
   rw[Ou OU,Ou OU,Ov rfl];have ed:=Ext.drew q;have p:=p.ext ed;have d:=d.ext ed;have f:=f.trans ed;have a:q.heap.size≤(drew q).heap.size:=MN a ed.size;refine Py ?_;refine aG 14 mixed OT ?_;refine Q1 ?_;refine cT rfl rfl rfl (fun γ w m=>WL.call rfl rfl rfl (mG w P) ML.en) ?_;refine ML.fc (fun v γ w=>GL q.heap.size w v (z_ (xD P))) rfl rfl rfl O4 (fun γ w m=>WL.call rfl rfl rfl (mI w (MN a m.size) (rz _ _ _)) ML.en) ?_;refine Q1 ?_;refine cT rfl rfl rfl (fun γ w m=>WL.call rfl rfl rfl (mG w S) ML.en) ?_;refine ML.fc (fun v γ w=>GL q.heap.size w v (H_ (z_ (xD P)) (xD S))) rfl rfl rfl O4 (fun γ w m Z K=>WL.call rfl rfl rfl (mP w (MN a m.size) K (rz _ _ _)) ML.en) ?_;refine Q1 ?_;refine cT rfl rfl rfl (fun γ w m=>WL.call rfl rfl rfl (mG w P) ML.en) ?_;refine ML.fc (fun v γ w=>GL q.heap.size w v (z_ (xD P))) rfl rfl rfl O4 (fun γ w m=>WL.call rfl rfl rfl (mI w (MN a m.size) (rz _ _ _)) ML.en) ?_;refine ML.fc (fun v γ w=>GL q.heap.size w v (gi (z_ (xD P)))) rfl rfl rfl O4 (fun γ w m X I=>WL.call rfl rfl rfl (mD w (MN a m.size) I) ML.en) ?_;refine ML.fc (fun v γ w=>GL q.heap.size w v (A1 (H_ (z_ (xD P)) (xD S)) (gi (z_ (xD P))))) rfl rfl rfl O4 (fun γ w m Y J W H=>WL.call rfl rfl rfl (mM w (MN a m.size) J H) ML.en) ?_;refine ML.nil fun γ w' o v35 G W H X I Y J Z K=>?_
   change WL _ _ _ _ _ _ _
   have p:=p.ext o;have d:=d.ext o;have f:=f.trans o;have a:=MN a o.size;obtain⟨uo,uc,rfl,s⟩:=Rd.ltl G;refine WL.st rfl rfl rfl d rfl rfl Pd (fun z t g=>WL.nil (bp ?_));refine QI ?_;exact bg rfl rfl t rfl ⟨(G.st g OS).low OS,Dk f g OS⟩
  by_cases h6:k=6
  ·subst h6
   rw[Ou OU,Ou OU,Ou OU,Ov rfl];have ed:=Ext.drew q;have p:=p.ext ed;have d:=d.ext ed;have f:=f.trans ed;have a:q.heap.size≤(drew q).heap.size:=MN a ed.size;refine Py ?_;refine aG 10 mixed OT ?_;refine Q1 ?_;refine cT rfl rfl rfl (fun γ w m=>WL.call rfl rfl rfl (mG w P) ML.en) ?_;refine ML.fc (fun v γ w=>GL q.heap.size w v (z_ (xD P))) rfl rfl rfl O4 (fun γ w m=>WL.call rfl rfl rfl (mI w (MN a m.size) (rz _ _ _)) ML.en) ?_;refine Q1 ?_;refine cT rfl rfl rfl (fun γ w m=>WL.call rfl rfl rfl (mG w S) ML.en) ?_;refine ML.fc (fun v γ w=>GL q.heap.size w v (pm (xD S))) rfl rfl rfl O4 (fun γ w m=>WL.call rfl rfl rfl (mK w (MN a m.size) 10 (rz _ _ _)) ML.en) ?_;refine ML.fc (fun v γ w=>GL q.heap.size w v (A1 (z_ (xD P)) (pm (xD S)))) rfl rfl rfl O4 (fun γ w m V F U E=>WL.call rfl rfl rfl (mM w (MN a m.size) F E) ML.en) ?_;refine ML.fc (fun v γ w=>GL q.heap.size w v (gi (A1 (z_ (xD P)) (pm (xD S))))) rfl rfl rfl O4 (fun γ w m T D=>WL.call rfl rfl rfl (mD w (MN a m.size) D) ML.en) ?_;refine ML.nil fun γ w' o v47 C T D U E V F=>?_
   change WL _ _ _ _ _ _ _
   have p:=p.ext o;have d:=d.ext o;have f:=f.trans o;have a:=MN a o.size;obtain⟨uo,uc,rfl,s⟩:=Rd.ltl C;refine WL.st rfl rfl rfl d rfl rfl Pd (fun z t g=>WL.nil (bp ?_));refine QI ?_;exact bg rfl rfl t rfl ⟨(C.st g OS).low OS,Dk f g OS⟩
  rw[Ou h2,Ou h3,Ou h5,Ou h6];rw[show(k==2)=false by simpa using h2];refine Py ?_;rw[show(k==3)=false by simpa using h3];refine Py ?_;rw[show(k==5)=false by simpa using h5];refine Py ?_;rw[show(k==6)=false by simpa using h6];refine Py ?_;by_cases h4:k=4
  ·subst h4
   rw[Ov rfl];refine Py ?_;unfold iP;refine QI ?_;refine QI ?_;refine WL.call rfl rfl rfl (mG q P) ?_;rintro _ A ⟨rfl,l⟩
   have p:=p.ext l;have d:=d.ext l;have f:=f.trans l;have a:=MN a l.size;refine WL.call rfl rfl rfl (mI A a (rz _ _ _)) ?_;rintro v76 N ⟨u,j⟩
   have p:=p.ext j;have d:=d.ext j;have f:=f.trans j;have a:=MN a j.size;refine WL.call rfl rfl rfl (mD N a u) ?_;rintro v77 y3 ⟨x,r⟩
   have u:=u.ext r;have p:=p.ext r;have d:=d.ext r;have f:=f.trans r;have a:=MN a r.size;obtain⟨uo,uc,rfl,s⟩:=Rd.ltl x;refine QI ?_;refine WL.st rfl rfl rfl d rfl rfl Pd (fun z t g=>?_);refine QI ?_;exact bg rfl rfl t rfl ⟨(x.st g OS).low OS,Dk f g OS⟩
  rw[Ou h4];rw[show(k==4)=false by simpa using h4];refine Py ?_;refine QI ?_;refine QI ?_;refine WL.call rfl rfl rfl (mG q P) ?_;rintro _ A ⟨rfl,l⟩
  have p:=p.ext l;have d:=d.ext l;have f:=f.trans l;have a:=MN a l.size;refine WL.call rfl rfl rfl (mI A a (rz _ _ _)) ?_;rintro v76 N ⟨u,j⟩
  have p:=p.ext j;have d:=d.ext j;have f:=f.trans j;have a:=MN a j.size;refine WL.call rfl rfl rfl (mD N a u) ?_;rintro v77 y3 ⟨x,r⟩
  have u:=u.ext r;have p:=p.ext r;have d:=d.ext r;have f:=f.trans r;have a:=MN a r.size;obtain⟨uo,uc,rfl,s⟩:=Rd.ltl x;refine QI ?_;refine WL.st rfl rfl rfl d rfl rfl Pd (fun z t g=>?_);refine QI ?_;exact bg rfl rfl t rfl ⟨(x.st g OS).low OS,Dk f g OS⟩
 |succ n ih=>
  intro hn w
  have ih:∀w:World,Rt Tryz.prog 104 [.agg (BJ k sc P S Q R c).toArray,Pj (((n+1:Nat):Int) -1)].toArray w (bR w (rA k P S n)):=by
   rw[show((n+1:Nat):Int) -1=(n:Int) by omega];exact ih OS
  refine dH Tryz.func104 Tryz.ntmps104 rfl rfl ?_;refine QI ?_;refine dZ rfl rfl rfl fun w1 p e1=>?_
  refine WL.alloc rfl rfl (fun q d e2=>?_);have p:=p.ext e2;have f:=e1.trans e2;have hlr:=d.lt;have hs1:=e1.size;have a:q.heap.size≤q.heap.size:=MM _;unfold rA;refine QI ?_;by_cases h2:k=2
  ·subst h2
   rw[Ov rfl];refine QI ?_;refine QI ?_;refine WL.call rfl rfl rfl (mG q P) ?_;rintro _ A ⟨rfl,l⟩
   have p:=p.ext l;have d:=d.ext l;have f:=f.trans l;have a:=MN a l.size;refine WL.call rfl rfl rfl (mD A a (rz _ _ _)) ?_;rintro v13 N ⟨M,j⟩
   have p:=p.ext j;have d:=d.ext j;have f:=f.trans j;have a:=MN a j.size;obtain⟨uo,uc,rfl,s⟩:=Rd.ltl M;refine QI ?_;refine WL.st rfl rfl rfl d rfl rfl Pd (fun z t g=>?_);refine QI ?_;exact bg rfl rfl t rfl ⟨(M.st g OS).low OS,Dk f g OS⟩
  by_cases h3:k=3
  ·subst h3
   rw[Ou OU,Ov rfl];refine QI ?_;refine QI ?_;refine WL.call rfl rfl rfl (mG q P) ?_;rintro _ A ⟨rfl,l⟩
   have p:=p.ext l;have d:=d.ext l;have f:=f.trans l;have a:=MN a l.size;refine WL.call rfl rfl rfl (mK A a 10 (rz _ _ _)) ?_;rintro v19 N ⟨L,j⟩
   have p:=p.ext j;have d:=d.ext j;have f:=f.trans j;have a:=MN a j.size;obtain⟨uo,uc,rfl,s⟩:=Rd.ltl L;refine QI ?_;refine WL.st rfl rfl rfl d rfl rfl Pd (fun z t g=>?_);refine QI ?_;exact bg rfl rfl t rfl ⟨(L.st g OS).low OS,Dk f g OS⟩
  by_cases h5:k=5
  ·subst h5
   rw[Ou OU,Ou OU,Ov rfl];have ed:=Ext.drew q;have p:=p.ext ed;have d:=d.ext ed;have f:=f.trans ed;have a:q.heap.size≤(drew q).heap.size:=MN a ed.size;refine Py ?_;refine aG 14 mixed OT ?_;refine Q1 ?_;refine cT rfl rfl rfl (fun γ w m=>WL.call rfl rfl rfl (mG w P) ML.en) ?_;refine ML.fc (fun v γ w=>GL q.heap.size w v (z_ (xD P))) rfl rfl rfl O4 (fun γ w m=>WL.call rfl rfl rfl (mI w (MN a m.size) (rz _ _ _)) ML.en) ?_;refine Q1 ?_;refine cT rfl rfl rfl (fun γ w m=>WL.call rfl rfl rfl (mG w S) ML.en) ?_;refine ML.fc (fun v γ w=>GL q.heap.size w v (H_ (z_ (xD P)) (xD S))) rfl rfl rfl O4 (fun γ w m Z K=>WL.call rfl rfl rfl (mP w (MN a m.size) K (rz _ _ _)) ML.en) ?_;refine Q1 ?_;refine cT rfl rfl rfl (fun γ w m=>WL.call rfl rfl rfl (mG w P) ML.en) ?_;refine ML.fc (fun v γ w=>GL q.heap.size w v (z_ (xD P))) rfl rfl rfl O4 (fun γ w m=>WL.call rfl rfl rfl (mI w (MN a m.size) (rz _ _ _)) ML.en) ?_;refine ML.fc (fun v γ w=>GL q.heap.size w v (gi (z_ (xD P)))) rfl rfl rfl O4 (fun γ w m X I=>WL.call rfl rfl rfl (mD w (MN a m.size) I) ML.en) ?_;refine ML.fc (fun v γ w=>GL q.heap.size w v (A1 (H_ (z_ (xD P)) (xD S)) (gi (z_ (xD P))))) rfl rfl rfl O4 (fun γ w m Y J W H=>WL.call rfl rfl rfl (mM w (MN a m.size) J H) ML.en) ?_;refine ML.nil fun γ w' o v35 G W H X I Y J Z K=>?_
   change WL _ _ _ _ _ _ _
   have p:=p.ext o;have d:=d.ext o;have f:=f.trans o;have a:=MN a o.size;obtain⟨uo,uc,rfl,s⟩:=Rd.ltl G;refine WL.st rfl rfl rfl d rfl rfl Pd (fun z t g=>WL.nil (bp ?_));refine QI ?_;exact bg rfl rfl t rfl ⟨(G.st g OS).low OS,Dk f g OS⟩
  by_cases h6:k=6
  ·subst h6
   rw[Ou OU,Ou OU,Ou OU,Ov rfl];have ed:=Ext.drew q;have p:=p.ext ed;have d:=d.ext ed;have f:=f.trans ed;have a:q.heap.size≤(drew q).heap.size:=MN a ed.size;refine Py ?_;refine aG 10 mixed OT ?_;refine Q1 ?_;refine cT rfl rfl rfl (fun γ w m=>WL.call rfl rfl rfl (mG w P) ML.en) ?_;refine ML.fc (fun v γ w=>GL q.heap.size w v (z_ (xD P))) rfl rfl rfl O4 (fun γ w m=>WL.call rfl rfl rfl (mI w (MN a m.size) (rz _ _ _)) ML.en) ?_;refine Q1 ?_;refine cT rfl rfl rfl (fun γ w m=>WL.call rfl rfl rfl (mG w S) ML.en) ?_;refine ML.fc (fun v γ w=>GL q.heap.size w v (pm (xD S))) rfl rfl rfl O4 (fun γ w m=>WL.call rfl rfl rfl (mK w (MN a m.size) 10 (rz _ _ _)) ML.en) ?_;refine ML.fc (fun v γ w=>GL q.heap.size w v (A1 (z_ (xD P)) (pm (xD S)))) rfl rfl rfl O4 (fun γ w m V F U E=>WL.call rfl rfl rfl (mM w (MN a m.size) F E) ML.en) ?_;refine ML.fc (fun v γ w=>GL q.heap.size w v (gi (A1 (z_ (xD P)) (pm (xD S))))) rfl rfl rfl O4 (fun γ w m T D=>WL.call rfl rfl rfl (mD w (MN a m.size) D) ML.en) ?_;refine ML.nil fun γ w' o v47 C T D U E V F=>?_
   change WL _ _ _ _ _ _ _
   have p:=p.ext o;have d:=d.ext o;have f:=f.trans o;have a:=MN a o.size;obtain⟨uo,uc,rfl,s⟩:=Rd.ltl C;refine WL.st rfl rfl rfl d rfl rfl Pd (fun z t g=>WL.nil (bp ?_));refine QI ?_;exact bg rfl rfl t rfl ⟨(C.st g OS).low OS,Dk f g OS⟩
  rw[Ou h2,Ou h3,Ou h5,Ou h6];rw[show(k==2)=false by simpa using h2];refine Py ?_;rw[show(k==3)=false by simpa using h3];refine Py ?_;rw[show(k==5)=false by simpa using h5];refine Py ?_;rw[show(k==6)=false by simpa using h6];refine Py ?_;by_cases h4:k=4
  ·subst h4
   rw[Ov rfl];refine Py ?_;rw[Ol (show((n+1:Nat):Int)>0 by omega)];refine Py ?_;have ed:=Ext.drew q;have p:=p.ext ed;have d:=d.ext ed;have f:=f.trans ed;have a:q.heap.size≤(drew q).heap.size:=MN a ed.size;refine Py ?_;refine aG 10 mixed OT ?_;refine Q1 ?_;refine cT rfl rfl rfl (fun γ w m=>WL.call rfl rfl rfl (mG w P) ML.en) ?_;refine Q1 ?_;refine ML.fc (fun v γ w=>Rd w (FM q.heap.size 8 γ w) v (rA 4 P S n)) rfl rfl rfl FW (fun γ w m=>WL.call rfl rfl rfl (FM.fresh (i:=6) (by omega) (MN a m.size) ((ih w))) (fun v w' h=>WL.nil (a8 rfl h.2 h.1))) ?_;refine ML.fc (fun v γ w=>Rd w (FM q.heap.size 8 γ w) v (zr (rA 4 P S n))) rfl rfl rfl FW (fun γ w m v58 g58=>WL.call rfl rfl rfl (FM.call (i:=7) (by omega) (MN a m.size) (mJ w FM.lt 7 g58)) (fun v w' h=>WL.nil (a8 rfl h.2 h.1))) ?_;refine ML.fc (fun v γ w=>Rd w (FM q.heap.size 8 γ w) v (gj (xD P) (zr (rA 4 P S n)))) rfl rfl rfl FW (fun γ w m v59 g59=>WL.call rfl rfl rfl (FM.call (i:=8) (by omega) (MN a m.size) (mE w FM.lt (Dv _ _ _) g59)) (fun v w' h=>WL.nil (a8 rfl h.2 h.1))) ?_;refine ML.fc (fun v γ w=>∃b,v=Pk b∧γ b=9∧q.heap.size≤b∧Blk w b 32 [Pj 0,Pj 0,.slice none 0 0]) rfl rfl rfl FU (fun γ w m=>WL.alloc rfl rfl (fun w' hb e=>WL.nil (a8 rfl e ⟨_,rfl,i4,MN a m.size,hb⟩))) ?_;refine ML.nil fun γ w' o v5 g5 v60 g60 v59 g59 v58 g58=>?_
   change WL _ _ _ _ _ _ _
   have p:=p.ext o;have d:=d.ext o;have f:=f.trans o;have a:=MN a o.size;obtain⟨b,rfl,hγ,hBb,y⟩:=g5;obtain⟨uo,uc,rfl,s⟩:=Rd.ltl g60;refine WL.st rfl rfl rfl y rfl rfl Pd (fun w3 y B=>WL.nil (bp ?_));have hv:=FM.st g60 (b:=b) (by rw[hγ];decide) B;have hlb:=y.lt;have d:=d.kept B Pa;have p:=p.kept B Pa;have f:Ext w w3:=f.grown B f.size O7;have a:=MN a B.size;clear o g58 g59 B g60 s;have ed:=Ext.drew w3;have p:=p.ext ed;have d:=d.ext ed;have y:=y.ext ed;have hv:=hv.ext ed;have f:=f.trans ed;have a:q.heap.size≤(drew w3).heap.size:=MN a ed.size;refine Py ?_;refine aG 12 mixed OT ?_;refine Q1 ?_;refine cT rfl rfl rfl (fun γ w m=>WL.call rfl rfl rfl (mG w P) ML.en) ?_;refine ML.fc (fun v γ w=>GL q.heap.size w v (z_ (xD P))) rfl rfl rfl O4 (fun γ w m=>WL.call rfl rfl rfl (mI w (MN a m.size) (rz _ _ _)) ML.en) ?_;refine Q1 ?_;refine ML.fc (fun v γ w=>GL q.heap.size w v (H_ (z_ (xD P)) (gj (xD P) (zr (rA 4 P S n))))) rfl rfl rfl O4 (fun γ w m v64 g64=>WL.call rfl rfl rfl (mP w (MN a m.size) g64 (hv.ext m)) ML.en) ?_;refine Q1 ?_;refine cT rfl rfl rfl (fun γ w m=>WL.call rfl rfl rfl (mG w P) ML.en) ?_;refine ML.fc (fun v γ w=>GL q.heap.size w v (z_ (xD P))) rfl rfl rfl O4 (fun γ w m=>WL.call rfl rfl rfl (mI w (MN a m.size) (rz _ _ _)) ML.en) ?_;refine ML.fc (fun v γ w=>GL q.heap.size w v (gi (z_ (xD P)))) rfl rfl rfl O4 (fun γ w m v70 g70=>WL.call rfl rfl rfl (mD w (MN a m.size) g70) ML.en) ?_;refine ML.fc (fun v γ w=>GL q.heap.size w v (A1 (H_ (z_ (xD P)) (gj (xD P) (zr (rA 4 P S n)))) (gi (z_ (xD P))))) rfl rfl rfl O4 (fun γ w m v66 g66 v71 g71=>WL.call rfl rfl rfl (mM w (MN a m.size) g66 g71) ML.en) ?_;refine ML.nil fun γ w' o v72 g72 v71 g71 v70 g70 v66 g66 v64 g64=>?_
   change WL _ _ _ _ _ _ _
   have p:=p.ext o;have d:=d.ext o;have y:=y.ext o;have hv:=hv.ext o;have f:=f.trans o;have a:=MN a o.size;obtain⟨uo,uc,rfl,s⟩:=Rd.ltl g72;refine WL.st rfl rfl rfl d rfl rfl Pd (fun z t g=>WL.nil (bp ?_));refine QI ?_;have O:=(g72.st g OS).low (show w.heap.size≤q.heap.size by omega);rw[show rA 4 P S n=iP P n by unfold rA;rw[Ou OU,Ou OU,Ou OU,Ou OU,Ov rfl]]at O
   exact bg rfl rfl t rfl ⟨O,Dk f g OS⟩
  rw[Ou h4];rw[show(k==4)=false by simpa using h4];refine Py ?_;refine QI ?_;refine QI ?_;refine WL.call rfl rfl rfl (mG q P) ?_;rintro _ A ⟨rfl,l⟩
  have p:=p.ext l;have d:=d.ext l;have f:=f.trans l;have a:=MN a l.size;refine WL.call rfl rfl rfl (mI A a (rz _ _ _)) ?_;rintro v76 N ⟨u,j⟩
  have p:=p.ext j;have d:=d.ext j;have f:=f.trans j;have a:=MN a j.size;refine WL.call rfl rfl rfl (mD N a u) ?_;rintro v77 y3 ⟨x,r⟩
  have p:=p.ext r;have d:=d.ext r;have f:=f.trans r;have a:=MN a r.size;obtain⟨uo,uc,rfl,s⟩:=Rd.ltl x;refine QI ?_;refine WL.st rfl rfl rfl d rfl rfl Pd (fun z t g=>?_);refine QI ?_;exact bg rfl rfl t rfl ⟨(x.st g OS).low OS,Dk f g OS⟩
theorem IJ(w:World)(weak:Bool){fa fb:Value}{ta tb:Ltl}(t:∀g,Ext w g→FnV Tryz.prog fa [] g (bR g ta))(C:∀g,Ext w g→FnV Tryz.prog fb [] g (bR g tb)):
  Rt Tryz.prog 171 [.bool weak,fa,fb].toArray w (bR w (II weak ta tb)):=by
 refine dI Tryz.func171 Tryz.ntmps171 rfl rfl ?_;refine QI ?_;refine WL.alloc rfl rfl (fun g c D=>?_);have b:=D;have P:=c.lt;have O:=D.size;have a:g.heap.size≤g.heap.size:=MM _;unfold II;refine QI ?_;cases weak with
 |true=>
  rw[Ov rfl];refine QI ?_;refine QI ?_;refine d8 (xs:=[]) (vs:=[]) rfl rfl rfl rfl ((t g b).low a) ?_;rintro R q ⟨u,f⟩
  have c:=c.ext f;have b:=b.trans f;have a:=MN a f.size;refine QI ?_;refine d8 (xs:=[]) (vs:=[]) rfl rfl rfl rfl ((C q b).low a) ?_;rintro N p ⟨A,d⟩
  have u:=u.ext d;have c:=c.ext d;have b:=b.trans d;have a:=MN a d.size;refine WL.call rfl rfl rfl (mP p a u A) ?_;rintro M B ⟨i,e⟩
  have c:=c.ext e;have b:=b.trans e;have a:=MN a e.size;refine QI ?_;refine d8 (xs:=[]) (vs:=[]) rfl rfl rfl rfl ((t B b).low a) ?_;rintro L F ⟨y,k⟩
  have i:=i.ext k;have c:=c.ext k;have b:=b.trans k;have a:=MN a k.size;refine WL.call rfl rfl rfl (mD F a y) ?_;rintro K E ⟨x,j⟩
  have i:=i.ext j;have c:=c.ext j;have b:=b.trans j;have a:=MN a j.size;refine WL.call rfl rfl rfl (mM E a i x) ?_;rintro J Q ⟨o,m⟩
  have c:=c.ext m;have b:=b.trans m;have a:=MN a m.size;obtain⟨uo,uc,rfl,s⟩:=Rd.ltl o;refine QI ?_;refine WL.st rfl rfl rfl c rfl rfl Pd (fun z r h=>?_);refine QI ?_;exact bg rfl rfl r rfl ⟨(o.st h OS).low OS,Dk b h OS⟩
 |false=>
  rw[Ou OU];refine QI ?_;refine QI ?_;refine d8 (xs:=[]) (vs:=[]) rfl rfl rfl rfl ((t g b).low a) ?_;rintro I q ⟨l,f⟩
  have c:=c.ext f;have b:=b.trans f;have a:=MN a f.size;refine QI ?_;refine d8 (xs:=[]) (vs:=[]) rfl rfl rfl rfl ((C q b).low a) ?_;rintro H p ⟨v,d⟩
  have l:=l.ext d;have c:=c.ext d;have b:=b.trans d;have a:=MN a d.size;refine WL.call rfl rfl rfl (mP p a l v) ?_;rintro G B ⟨n,e⟩
  have c:=c.ext e;have b:=b.trans e;have a:=MN a e.size;obtain⟨uo,uc,rfl,s⟩:=Rd.ltl n;refine QI ?_;refine WL.st rfl rfl rfl c rfl rfl Pd (fun z r h=>?_);refine QI ?_;exact bg rfl rfl r rfl ⟨(n.st h OS).low OS,Dk b h OS⟩
theorem Ih(w:World){l:Nat}{k sc P S Q R c:Int}(d:Blk w l 27 (BJ k sc P S Q R c)):FnV Tryz.prog (.func (.func 169) [].toArray [Pk l].toArray) [] w (bR w (z_ (xD P))):=by
 refine FnV.mk (cs:=[_]) ?_;refine dG Tryz.func169 Tryz.ntmps169 rfl rfl ?_;refine QI ?_;refine WL.alloc rfl rfl (fun i e j=>?_);have g:=j;have p:=e.lt;have o:=j.size;have d:=d.ext j;have h:i.heap.size≤i.heap.size:=MM _;refine QI ?_;refine QI ?_;refine WL.call rfl rfl rfl (mG i P) ?_;rintro _ m ⟨rfl,b⟩
 have d:=d.ext b;have e:=e.ext b;have g:=g.trans b;have h:=MN h b.size;refine WL.call rfl rfl rfl (mI m h (rz _ _ _)) ?_;rintro s r ⟨g5,a⟩
 have d:=d.ext a;have e:=e.ext a;have g:=g.trans a;have h:=MN h a.size;obtain⟨uo,uc,rfl,q⟩:=Rd.ltl g5;refine QI ?_;refine WL.st rfl rfl rfl e rfl rfl Pd (fun z n f=>?_);refine QI ?_;exact bg rfl rfl n rfl ⟨(g5.st f OS).low OS,Dk g f OS⟩
theorem Ii(w:World){j:Nat}{k sc P S Q R c:Int}(f:Blk w j 27 (BJ k sc P S Q R c)):FnV Tryz.prog (.func (.func 170) [].toArray [Pk j].toArray) [] w (bR w (xD R)):=by
 refine FnV.mk (cs:=[_]) ?_;refine dG Tryz.func170 Tryz.ntmps170 rfl rfl ?_;refine QI ?_;refine WL.alloc rfl rfl (fun e g i=>?_);have h:=i;have p:=g.lt;have o:=i.size;have f:=f.ext i;have l:e.heap.size≤e.heap.size:=MM _;refine QI ?_;refine QI ?_;refine WL.call rfl rfl rfl (mG e R) ?_;rintro _ m ⟨rfl,a⟩
 have f:=f.ext a;have g:=g.ext a;have h:=h.trans a;have l:=MN l a.size;have d:GL e.heap.size m (yj 3 R none 0 0) (xD R):=rz _ _ _;refine QI ?_;refine WL.st rfl rfl rfl g rfl rfl Pd (fun z n b=>?_);refine QI ?_;exact bg rfl rfl n rfl ⟨(d.st b OS).low OS,Dk h b OS⟩
theorem Ij(w:World){j:Nat}{k sc P S Q R c:Int}(f:Blk w j 27 (BJ k sc P S Q R c)):FnV Tryz.prog (.func (.func 172) [].toArray [Pk j].toArray) [] w (bR w (xD P)):=by
 refine FnV.mk (cs:=[_]) ?_;refine dG Tryz.func172 Tryz.ntmps172 rfl rfl ?_;refine QI ?_;refine WL.alloc rfl rfl (fun e g i=>?_);have h:=i;have p:=g.lt;have o:=i.size;have f:=f.ext i;have l:e.heap.size≤e.heap.size:=MM _;refine QI ?_;refine QI ?_;refine WL.call rfl rfl rfl (mG e P) ?_;rintro _ m ⟨rfl,a⟩
 have f:=f.ext a;have g:=g.ext a;have h:=h.trans a;have l:=MN l a.size;have d:GL e.heap.size m (yj 3 P none 0 0) (xD P):=rz _ _ _;refine QI ?_;refine WL.st rfl rfl rfl g rfl rfl Pd (fun z n b=>?_);refine QI ?_;exact bg rfl rfl n rfl ⟨(d.st b OS).low OS,Dk h b OS⟩
theorem Ik(w:World){m n:Nat}{k sc P S Q R c:Int}(d:Blk w m 27 (BJ k sc P S Q R c))(g:Blk w n 186 [(.func (.func 170) [].toArray [Pk m].toArray)]):FnV Tryz.prog (.func (.func 173) [].toArray [Pk m,Pk n].toArray) [] w (bR w (A1 (xD S) (xD R))):=by
 refine FnV.mk (cs:=[_,_]) ?_;refine dH Tryz.func173 Tryz.ntmps173 rfl rfl ?_;refine QI ?_;refine WL.alloc rfl rfl (fun b e l=>?_);have j:=l;have t:=e.lt;have s:=l.size;have d:=d.ext l;have f:b.heap.size≤b.heap.size:=MM _;have g:=g.ext l;have ed:=Ext.drew b;have d:=d.ext ed;have e:=e.ext ed;have g:=g.ext ed;have j:=j.trans ed;have f:b.heap.size≤(drew b).heap.size:=MN f ed.size;refine Py ?_;refine aG 6 mixed OT ?_;refine Q1 ?_;refine cT rfl rfl rfl (fun γ w h=>WL.call rfl rfl rfl (mG w S) ML.en) ?_;refine Q1 ?_;refine ML.fc (fun v γ w=>GL b.heap.size w v (xD R)) rfl rfl rfl O4 (fun γ w h=>d8 (xs:=[]) (vs:=[]) rfl rfl rfl rfl ((Ii w (d.ext h)).low (MN f h.size)) ML.en) ?_;refine ML.fc (fun v γ w=>GL b.heap.size w v (A1 (xD S) (xD R))) rfl rfl rfl O4 (fun γ w h q p=>WL.call rfl rfl rfl (mM w (MN f h.size) (rz _ _ _) p) ML.en) ?_;refine ML.nil fun γ w' a x o q p=>?_
 change WL _ _ _ _ _ _ _
 have d:=d.ext a;have e:=e.ext a;have g:=g.ext a;have j:=j.trans a;have f:=MN f a.size;obtain⟨uo,uc,rfl,u⟩:=Rd.ltl o;refine WL.st rfl rfl rfl e rfl rfl Pd (fun z r i=>WL.nil (bp ?_));refine QI ?_;exact bg rfl rfl r rfl ⟨(o.st i OS).low OS,Dk j i OS⟩
theorem Il(w:World){s C B:Nat}{k sc P S Q R c:Int}(f:Blk w s 27 (BJ k sc P S Q R c))(i:Blk w C 186 [(.func (.func 169) [].toArray [Pk s].toArray)])(h:Blk w B 186 [(.func (.func 170) [].toArray [Pk s].toArray)]):FnV Tryz.prog (.func (.func 174) [].toArray [Pk C,Pk B,Pk s].toArray) [] w (bR w (A1 (z_ (xD P)) (H_ (z_ (xD R)) (gj (xD S) (z_ (xD R)))))):=by
 refine FnV.mk (cs:=[_,_,_]) ?_;refine dI Tryz.func174 Tryz.ntmps174 rfl rfl ?_;refine QI ?_;refine WL.alloc rfl rfl (fun b g r=>?_);have l:=r;have K:=g.lt;have J:=r.size;have f:=f.ext r;have e:b.heap.size≤b.heap.size:=MM _;have i:=i.ext r;have h:=h.ext r;have ed:=Ext.drew b;have f:=f.ext ed;have g:=g.ext ed;have i:=i.ext ed;have h:=h.ext ed;have l:=l.trans ed;have e:b.heap.size≤(drew b).heap.size:=MN e ed.size;refine Py ?_;refine aG 14 mixed OT ?_;refine Q1 ?_;refine ML.fc (fun v γ w=>GL b.heap.size w v (z_ (xD P))) rfl rfl rfl O4 (fun γ w a=>d8 (xs:=[]) (vs:=[]) rfl rfl rfl rfl ((Ih w (f.ext a)).low (MN e a.size)) ML.en) ?_;refine Q1 ?_;refine ML.fc (fun v γ w=>GL b.heap.size w v (xD R)) rfl rfl rfl O4 (fun γ w a A g5=>d8 (xs:=[]) (vs:=[]) rfl rfl rfl rfl ((Ii w (f.ext a)).low (MN e a.size)) ML.en) ?_;refine ML.fc (fun v γ w=>GL b.heap.size w v (z_ (xD R))) rfl rfl rfl O4 (fun γ w a G E=>WL.call rfl rfl rfl (mI w (MN e a.size) E) ML.en) ?_;refine Q1 ?_;refine cT rfl rfl rfl (fun γ w a=>WL.call rfl rfl rfl (mG w S) ML.en) ?_;refine Q1 ?_;refine ML.fc (fun v γ w=>GL b.heap.size w v (xD R)) rfl rfl rfl O4 (fun γ w a=>d8 (xs:=[]) (vs:=[]) rfl rfl rfl rfl ((Ii w (f.ext a)).low (MN e a.size)) ML.en) ?_;refine ML.fc (fun v γ w=>GL b.heap.size w v (z_ (xD R))) rfl rfl rfl O4 (fun γ w a y q=>WL.call rfl rfl rfl (mI w (MN e a.size) q) ML.en) ?_;refine ML.fc (fun v γ w=>GL b.heap.size w v (gj (xD S) (z_ (xD R)))) rfl rfl rfl O4 (fun γ w a x p=>WL.call rfl rfl rfl (mF w (MN e a.size) (rz _ _ _) p) ML.en) ?_;refine ML.fc (fun v γ w=>GL b.heap.size w v (H_ (z_ (xD R)) (gj (xD S) (z_ (xD R))))) rfl rfl rfl O4 (fun γ w a F D u o=>WL.call rfl rfl rfl (mP w (MN e a.size) D o) ML.en) ?_;refine ML.fc (fun v γ w=>GL b.heap.size w v (A1 (z_ (xD P)) (H_ (z_ (xD R)) (gj (xD S) (z_ (xD R)))))) rfl rfl rfl O4 (fun γ w a A g5 t n=>WL.call rfl rfl rfl (mM w (MN e a.size) g5 n) ML.en) ?_;refine ML.nil fun γ w' d H m t n u o x p y q F D G E A g5=>?_
 change WL _ _ _ _ _ _ _
 have f:=f.ext d;have g:=g.ext d;have i:=i.ext d;have h:=h.ext d;have l:=l.trans d;have e:=MN e d.size;obtain⟨uo,uc,rfl,L⟩:=Rd.ltl m;refine WL.st rfl rfl rfl g rfl rfl Pd (fun z I j=>WL.nil (bp ?_));refine QI ?_;exact bg rfl rfl I rfl ⟨(m.st j OS).low OS,Dk l j OS⟩
theorem Im(w:World){F I H G:Nat}{k sc P S Q R c:Int}{n:Nat}{weak:Bool}{u:Ltl}(f:Blk w F 27 (BJ k sc P S Q R c))(j:Blk w G 186 [(.func (.func 170) [].toArray [Pk F].toArray)])(hn:Blk w I 3 [Pj ((n+1:Nat):Int)])(i:Blk w H 4 [.bool weak])(U:n<1000)(M:∀w:World,Rt Tryz.prog 100 [.agg (BJ k sc P S Q R c).toArray,Pj (((n+1:Nat):Int) -1),.bool weak].toArray w (bR w u)):FnV Tryz.prog (.func (.func 175) [].toArray [Pk G,Pk F,Pk I,Pk H].toArray) [] w (bR w (A1 (xD R) (gj (gj (xD P) (z_ (xD R))) (zr u)))):=by
 refine FnV.mk (cs:=[_,_,_,_]) ?_;refine dJ Tryz.func175 Tryz.ntmps175 rfl rfl ?_;refine QI ?_;refine WL.alloc rfl rfl (fun d h l=>?_);have p:=l;have T:=h.lt;have O:=l.size;have f:=f.ext l;have e:d.heap.size≤d.heap.size:=MM _;have j:=j.ext l;have hn:=hn.ext l;have i:=i.ext l;have ed:=Ext.drew d;have f:=f.ext ed;have h:=h.ext ed;have j:=j.ext ed;have hn:=hn.ext ed;have i:=i.ext ed;have p:=p.trans ed;have e:d.heap.size≤(drew d).heap.size:=MN e ed.size;refine Py ?_;refine aG 17 mixed OT ?_;refine Q1 ?_;refine ML.fc (fun v γ w=>GL d.heap.size w v (xD R)) rfl rfl rfl O4 (fun γ w a=>d8 (xs:=[]) (vs:=[]) rfl rfl rfl rfl ((Ii w (f.ext a)).low (MN e a.size)) ML.en) ?_;refine Q1 ?_;refine cT rfl rfl rfl (fun γ w a=>WL.call rfl rfl rfl (mG w P) ML.en) ?_;refine Q1 ?_;refine ML.fc (fun v γ w=>GL d.heap.size w v (xD R)) rfl rfl rfl O4 (fun γ w a=>d8 (xs:=[]) (vs:=[]) rfl rfl rfl rfl ((Ii w (f.ext a)).low (MN e a.size)) ML.en) ?_;refine ML.fc (fun v γ w=>GL d.heap.size w v (z_ (xD R))) rfl rfl rfl O4 (fun γ w a E y=>WL.call rfl rfl rfl (mI w (MN e a.size) y) ML.en) ?_;refine ML.fc (fun v γ w=>GL d.heap.size w v (gj (xD P) (z_ (xD R)))) rfl rfl rfl O4 (fun γ w a D x=>WL.call rfl rfl rfl (mF w (MN e a.size) (rz _ _ _) x) ML.en) ?_;refine Q1 ?_;refine ML.fc (fun v γ w=>GL d.heap.size w v (u)) rfl rfl rfl O4 (fun γ w a m g=>WL.call rfl rfl rfl ((M w).low (MN e a.size)) ML.en) ?_;refine ML.fc (fun v γ w=>GL d.heap.size w v (zr (u))) rfl rfl rfl O4 (fun γ w a C t=>WL.call rfl rfl rfl (mK w (MN e a.size) 7 t) ML.en) ?_;refine ML.fc (fun v γ w=>GL d.heap.size w v (gj (gj (xD P) (z_ (xD R))) (zr (u)))) rfl rfl rfl O4 (fun γ w a m g B s=>WL.call rfl rfl rfl (mF w (MN e a.size) g s) ML.en) ?_;refine ML.fc (fun v γ w=>GL d.heap.size w v (A1 (xD R) (gj (gj (xD P) (z_ (xD R))) (zr (u))))) rfl rfl rfl O4 (fun γ w a K J A r=>WL.call rfl rfl rfl (mM w (MN e a.size) J r) ML.en) ?_;refine ML.nil fun γ w' b L q A r B s C t m g D x E y K J=>?_
 change WL _ _ _ _ _ _ _
 have f:=f.ext b;have h:=h.ext b;have j:=j.ext b;have hn:=hn.ext b;have i:=i.ext b;have p:=p.trans b;have e:=MN e b.size;obtain⟨uo,uc,rfl,V⟩:=Rd.ltl q;refine WL.st rfl rfl rfl h rfl rfl Pd (fun z N o=>WL.nil (bp ?_));refine QI ?_;exact bg rfl rfl N rfl ⟨(q.st o OS).low OS,Dk p o OS⟩
set_option maxHeartbeats 1000000 in
theorem Io(k sc P S Q R c:Int)(weak:Bool):∀(n:Nat),n≤1000→∀(w:World),Rt Tryz.prog 100 [.agg (BJ k sc P S Q R c).toArray,Pj (n:Int),.bool weak].toArray w (bR w (In k P S R n weak)):=by
 intro n
 induction n with
 |zero=>
  intro _ w
  refine dI Tryz.func100 Tryz.ntmps100 rfl rfl ?_;refine QI ?_;refine dZ rfl rfl rfl fun w1 h e1=>?_
  refine dZ rfl rfl rfl fun w2 hn T=>?_
  refine dZ rfl rfl rfl fun w3 t O=>?_
  refine WL.alloc rfl rfl (fun w4 d B=>?_);have h:=((h.ext T).ext O).ext B;have hn:=(hn.ext O).ext B;have t:=t.ext B;have f:=((e1.trans T).trans O).trans B;have s1:=e1.size;have s2:=T.size;have s3:=O.size;have s4:=B.size;have hlr:=d.lt;refine QI ?_;refine WL.alloc rfl rfl (fun w5 E e5=>?_);refine WL.st rfl rfl rfl E rfl rfl Pd (fun w6 E D=>?_);have A:Ext w4 w6:=e5.grown D e5.size O5;have h:=h.ext A;have hn:=hn.ext A;have t:=t.ext A;have d:=d.ext A;have f:=f.trans A;refine QI ?_;refine WL.alloc rfl rfl (fun w7 q e7=>?_);refine WL.st rfl rfl rfl q rfl rfl Pd (fun g q C=>?_);have s:Ext w6 g:=e7.grown C e7.size O5;have h:=h.ext s;have hn:=hn.ext s;have t:=t.ext s;have d:=d.ext s;have E:=E.ext s;have f:=f.trans s;have s6:=A.size;have s8:=s.size;have o:g.heap.size≤g.heap.size:=MM _;clear e1 T O B e5 A e7 s D C;unfold In;refine QI ?_;by_cases k2:k=2
  ·subst k2
   rw[Ov rfl];refine QI ?_;refine WL.call rfl rfl rfl (IJ g weak (ta:=xD P) (tb:=xD R) (fun x e=>Ij x (h.ext e)) (fun x e=>Ii x (h.ext e))) ?_;rintro v19 y ⟨H,ey⟩
   have d:=d.ext ey;have f:=f.trans ey;have p:=ey.size;obtain⟨uo,uc,rfl,m⟩:=Rd.ltl H;refine QI ?_;refine WL.st rfl rfl rfl d rfl rfl Pd (fun z j a=>?_);refine QI ?_;have b:=(H.st a OS).low (show w.heap.size≤g.heap.size by omega);exact bg rfl rfl j rfl ⟨b,Dk f a OS⟩
  by_cases k3:k=3
  ·subst k3
   rw[Ou OU,Ov rfl];have ed:=Ext.drew g;have h:=h.ext ed;have d:=d.ext ed;have q:=q.ext ed;have f:=f.trans ed;have o:g.heap.size≤(drew g).heap.size:=MN o ed.size;refine Py ?_;refine aG 11 mixed OT ?_;refine Q1 ?_;refine ML.fc (fun v γ w=>GL g.heap.size w v (xD R)) rfl rfl rfl O4 (fun γ w i=>d8 (xs:=[]) (vs:=[]) rfl rfl rfl rfl ((Ii w (h.ext i)).low (MN o i.size)) ML.en) ?_;refine ML.fc (fun v γ w=>GL g.heap.size w v (z_ (xD R))) rfl rfl rfl O4 (fun γ w i Y N=>WL.call rfl rfl rfl (mI w (MN o i.size) N) ML.en) ?_;refine Q1 ?_;refine cT rfl rfl rfl (fun γ w i=>WL.call rfl rfl rfl (mG w P) ML.en) ?_;refine Q1 ?_;refine ML.fc (fun v γ w=>GL g.heap.size w v (xD R)) rfl rfl rfl O4 (fun γ w i=>d8 (xs:=[]) (vs:=[]) rfl rfl rfl rfl ((Ii w (h.ext i)).low (MN o i.size)) ML.en) ?_;refine ML.fc (fun v γ w=>GL g.heap.size w v (z_ (xD R))) rfl rfl rfl O4 (fun γ w i W L=>WL.call rfl rfl rfl (mI w (MN o i.size) L) ML.en) ?_;refine ML.fc (fun v γ w=>GL g.heap.size w v (gj (xD P) (z_ (xD R)))) rfl rfl rfl O4 (fun γ w i V K=>WL.call rfl rfl rfl (mF w (MN o i.size) (rz _ _ _) K) ML.en) ?_;refine ML.fc (fun v γ w=>GL g.heap.size w v (H_ (z_ (xD R)) (gj (xD P) (z_ (xD R))))) rfl rfl rfl O4 (fun γ w i X M U J=>WL.call rfl rfl rfl (mP w (MN o i.size) M J) ML.en) ?_;refine ML.nil fun γ w' l v32 I U J V K W L X M Y N=>?_
   change WL _ _ _ _ _ _ _
   have h:=h.ext l;have d:=d.ext l;have q:=q.ext l;have f:=f.trans l;have o:=MN o l.size;obtain⟨uo,uc,rfl,m⟩:=Rd.ltl I;refine WL.st rfl rfl rfl d rfl rfl Pd (fun z j a=>WL.nil (bp ?_));refine QI ?_;exact bg rfl rfl j rfl ⟨(I.st a OS).low OS,Dk f a OS⟩
  by_cases k5:k=5
  ·subst k5
   rw[Ou OU,Ou OU,Ov rfl];refine QI ?_;refine WL.call rfl rfl rfl (IJ g weak (ta:=z_ (xD P)) (tb:=A1 (xD S) (xD R)) (fun x e=>Ih x (h.ext e)) (fun x e=>Ik x (h.ext e) (q.ext e))) ?_;rintro v38 y ⟨G,ey⟩
   have d:=d.ext ey;have f:=f.trans ey;have p:=ey.size;obtain⟨uo,uc,rfl,m⟩:=Rd.ltl G;refine QI ?_;refine WL.st rfl rfl rfl d rfl rfl Pd (fun z j a=>?_);refine QI ?_;have b:=(G.st a OS).low (show w.heap.size≤g.heap.size by omega);exact bg rfl rfl j rfl ⟨b,Dk f a OS⟩
  by_cases Z:k=6
  ·subst Z
   rw[Ou OU,Ou OU,Ou OU,Ov rfl];refine QI ?_;refine WL.call rfl rfl rfl (IJ g weak (ta:=A1 (z_ (xD P)) (H_ (z_ (xD R)) (gj (xD S) (z_ (xD R))))) (tb:=xD R) (fun x e=>Il x (h.ext e) (E.ext e) (q.ext e)) (fun x e=>Ii x (h.ext e))) ?_;rintro v45 y ⟨F,ey⟩
   have d:=d.ext ey;have f:=f.trans ey;have p:=ey.size;obtain⟨uo,uc,rfl,m⟩:=Rd.ltl F;refine QI ?_;refine WL.st rfl rfl rfl d rfl rfl Pd (fun z j a=>?_);refine QI ?_;have b:=(F.st a OS).low (show w.heap.size≤g.heap.size by omega);exact bg rfl rfl j rfl ⟨b,Dk f a OS⟩
  rw[Ou k2,Ou k3,Ou k5,Ou Z];rw[show(k==2)=false by simpa using k2];refine Py ?_;rw[show(k==3)=false by simpa using k3];refine Py ?_;rw[show(k==5)=false by simpa using k5];refine Py ?_;rw[show(k==6)=false by simpa using Z];refine Py ?_;by_cases k4:k=4
  ·subst k4
   rw[Ov rfl];refine Py ?_;unfold iQ;refine QI ?_;refine WL.call rfl rfl rfl (IJ g weak (ta:=z_ (xD P)) (tb:=xD R) (fun x e=>Ih x (h.ext e)) (fun x e=>Ii x (h.ext e))) ?_;rintro v57 y ⟨r,ey⟩
   have d:=d.ext ey;have f:=f.trans ey;have p:=ey.size;obtain⟨uo,uc,rfl,m⟩:=Rd.ltl r;refine QI ?_;refine WL.st rfl rfl rfl d rfl rfl Pd (fun z j a=>?_);refine QI ?_;have b:=(r.st a OS).low (show w.heap.size≤g.heap.size by omega);exact bg rfl rfl j rfl ⟨b,Dk f a OS⟩
  rw[Ou k4];rw[show(k==4)=false by simpa using k4];refine Py ?_;refine QI ?_;refine WL.call rfl rfl rfl (IJ g weak (ta:=z_ (xD P)) (tb:=xD R) (fun x e=>Ih x (h.ext e)) (fun x e=>Ii x (h.ext e))) ?_;rintro v57 y ⟨r,ey⟩
  have d:=d.ext ey;have f:=f.trans ey;have p:=ey.size;obtain⟨uo,uc,rfl,m⟩:=Rd.ltl r;refine QI ?_;refine WL.st rfl rfl rfl d rfl rfl Pd (fun z j a=>?_);refine QI ?_;have b:=(r.st a OS).low (show w.heap.size≤g.heap.size by omega);exact bg rfl rfl j rfl ⟨b,Dk f a OS⟩
 |succ n ih=>
  intro hle w
  have ih:k=4→∀w:World,Rt Tryz.prog 100 [.agg (BJ k sc P S Q R c).toArray,Pj (((n+1:Nat):Int) -1),.bool weak].toArray w (bR w (iQ P R weak n)):=by
   rw[show((n+1:Nat):Int) -1=(n:Int) by omega];intro t w
   have:=ih OS w;rwa[show In k P S R n weak=iQ P R weak n by subst t;unfold In;rw[Ou OU,Ou OU,Ou OU,Ou OU,Ov rfl]]at this
  refine dI Tryz.func100 Tryz.ntmps100 rfl rfl ?_;refine QI ?_;refine dZ rfl rfl rfl fun w1 h e1=>?_
  refine dZ rfl rfl rfl fun w2 hn T=>?_
  refine dZ rfl rfl rfl fun w3 t O=>?_
  refine WL.alloc rfl rfl (fun w4 d B=>?_);have h:=((h.ext T).ext O).ext B;have hn:=(hn.ext O).ext B;have t:=t.ext B;have f:=((e1.trans T).trans O).trans B;have s1:=e1.size;have s2:=T.size;have s3:=O.size;have s4:=B.size;have hlr:=d.lt;refine QI ?_;refine WL.alloc rfl rfl (fun w5 E e5=>?_);refine WL.st rfl rfl rfl E rfl rfl Pd (fun w6 E D=>?_);have A:Ext w4 w6:=e5.grown D e5.size O5;have h:=h.ext A;have hn:=hn.ext A;have t:=t.ext A;have d:=d.ext A;have f:=f.trans A;refine QI ?_;refine WL.alloc rfl rfl (fun w7 q e7=>?_);refine WL.st rfl rfl rfl q rfl rfl Pd (fun g q C=>?_);have s:Ext w6 g:=e7.grown C e7.size O5;have h:=h.ext s;have hn:=hn.ext s;have t:=t.ext s;have d:=d.ext s;have E:=E.ext s;have f:=f.trans s;have s6:=A.size;have s8:=s.size;have o:g.heap.size≤g.heap.size:=MM _;clear e1 T O B e5 A e7 s D C;unfold In;refine QI ?_;by_cases k2:k=2
  ·subst k2
   rw[Ov rfl];refine QI ?_;refine WL.call rfl rfl rfl (IJ g weak (ta:=xD P) (tb:=xD R) (fun x e=>Ij x (h.ext e)) (fun x e=>Ii x (h.ext e))) ?_;rintro v19 y ⟨H,ey⟩
   have d:=d.ext ey;have f:=f.trans ey;have p:=ey.size;obtain⟨uo,uc,rfl,m⟩:=Rd.ltl H;refine QI ?_;refine WL.st rfl rfl rfl d rfl rfl Pd (fun z j a=>?_);refine QI ?_;have b:=(H.st a OS).low (show w.heap.size≤g.heap.size by omega);exact bg rfl rfl j rfl ⟨b,Dk f a OS⟩
  by_cases k3:k=3
  ·subst k3
   rw[Ou OU,Ov rfl];have ed:=Ext.drew g;have h:=h.ext ed;have d:=d.ext ed;have q:=q.ext ed;have f:=f.trans ed;have o:g.heap.size≤(drew g).heap.size:=MN o ed.size;refine Py ?_;refine aG 11 mixed OT ?_;refine Q1 ?_;refine ML.fc (fun v γ w=>GL g.heap.size w v (xD R)) rfl rfl rfl O4 (fun γ w i=>d8 (xs:=[]) (vs:=[]) rfl rfl rfl rfl ((Ii w (h.ext i)).low (MN o i.size)) ML.en) ?_;refine ML.fc (fun v γ w=>GL g.heap.size w v (z_ (xD R))) rfl rfl rfl O4 (fun γ w i Y N=>WL.call rfl rfl rfl (mI w (MN o i.size) N) ML.en) ?_;refine Q1 ?_;refine cT rfl rfl rfl (fun γ w i=>WL.call rfl rfl rfl (mG w P) ML.en) ?_;refine Q1 ?_;refine ML.fc (fun v γ w=>GL g.heap.size w v (xD R)) rfl rfl rfl O4 (fun γ w i=>d8 (xs:=[]) (vs:=[]) rfl rfl rfl rfl ((Ii w (h.ext i)).low (MN o i.size)) ML.en) ?_;refine ML.fc (fun v γ w=>GL g.heap.size w v (z_ (xD R))) rfl rfl rfl O4 (fun γ w i W L=>WL.call rfl rfl rfl (mI w (MN o i.size) L) ML.en) ?_;refine ML.fc (fun v γ w=>GL g.heap.size w v (gj (xD P) (z_ (xD R)))) rfl rfl rfl O4 (fun γ w i V K=>WL.call rfl rfl rfl (mF w (MN o i.size) (rz _ _ _) K) ML.en) ?_;refine ML.fc (fun v γ w=>GL g.heap.size w v (H_ (z_ (xD R)) (gj (xD P) (z_ (xD R))))) rfl rfl rfl O4 (fun γ w i X M U J=>WL.call rfl rfl rfl (mP w (MN o i.size) M J) ML.en) ?_;refine ML.nil fun γ w' l v32 I U J V K W L X M Y N=>?_
   change WL _ _ _ _ _ _ _
   have h:=h.ext l;have d:=d.ext l;have q:=q.ext l;have f:=f.trans l;have o:=MN o l.size;obtain⟨uo,uc,rfl,m⟩:=Rd.ltl I;refine WL.st rfl rfl rfl d rfl rfl Pd (fun z j a=>WL.nil (bp ?_));refine QI ?_;exact bg rfl rfl j rfl ⟨(I.st a OS).low OS,Dk f a OS⟩
  by_cases k5:k=5
  ·subst k5
   rw[Ou OU,Ou OU,Ov rfl];refine QI ?_;refine WL.call rfl rfl rfl (IJ g weak (ta:=z_ (xD P)) (tb:=A1 (xD S) (xD R)) (fun x e=>Ih x (h.ext e)) (fun x e=>Ik x (h.ext e) (q.ext e))) ?_;rintro v38 y ⟨G,ey⟩
   have d:=d.ext ey;have f:=f.trans ey;have p:=ey.size;obtain⟨uo,uc,rfl,m⟩:=Rd.ltl G;refine QI ?_;refine WL.st rfl rfl rfl d rfl rfl Pd (fun z j a=>?_);refine QI ?_;have b:=(G.st a OS).low (show w.heap.size≤g.heap.size by omega);exact bg rfl rfl j rfl ⟨b,Dk f a OS⟩
  by_cases Z:k=6
  ·subst Z
   rw[Ou OU,Ou OU,Ou OU,Ov rfl];refine QI ?_;refine WL.call rfl rfl rfl (IJ g weak (ta:=A1 (z_ (xD P)) (H_ (z_ (xD R)) (gj (xD S) (z_ (xD R))))) (tb:=xD R) (fun x e=>Il x (h.ext e) (E.ext e) (q.ext e)) (fun x e=>Ii x (h.ext e))) ?_;rintro v45 y ⟨F,ey⟩
   have d:=d.ext ey;have f:=f.trans ey;have p:=ey.size;obtain⟨uo,uc,rfl,m⟩:=Rd.ltl F;refine QI ?_;refine WL.st rfl rfl rfl d rfl rfl Pd (fun z j a=>?_);refine QI ?_;have b:=(F.st a OS).low (show w.heap.size≤g.heap.size by omega);exact bg rfl rfl j rfl ⟨b,Dk f a OS⟩
  rw[Ou k2,Ou k3,Ou k5,Ou Z];rw[show(k==2)=false by simpa using k2];refine Py ?_;rw[show(k==3)=false by simpa using k3];refine Py ?_;rw[show(k==5)=false by simpa using k5];refine Py ?_;rw[show(k==6)=false by simpa using Z];refine Py ?_;by_cases k4:k=4
  ·subst k4
   rw[Ov rfl];refine Py ?_;have ih:=ih rfl;rw[Ol (show((n+1:Nat):Int)>0 by omega)];unfold iQ;refine QI ?_;refine WL.call rfl rfl rfl (IJ g weak (ta:=z_ (xD P)) (tb:=A1 (xD R) (gj (gj (xD P) (z_ (xD R))) (zr (iQ P R weak n)))) (fun x e=>Ih x (h.ext e)) (fun x e=>Im (n:=n) (weak:=weak) (u:=iQ P R weak n) x (h.ext e) (q.ext e) (hn.ext e) (t.ext e) OS ih)) ?_;rintro v53 y ⟨h53,ey⟩
   have d:=d.ext ey;have f:=f.trans ey;have p:=ey.size;obtain⟨uo,uc,rfl,m⟩:=Rd.ltl h53;refine QI ?_;refine WL.st rfl rfl rfl d rfl rfl Pd (fun z j a=>?_);refine QI ?_;have b:=(h53.st a OS).low (show w.heap.size≤g.heap.size by omega);exact bg rfl rfl j rfl ⟨b,Dk f a OS⟩
  rw[Ou k4];rw[show(k==4)=false by simpa using k4];refine Py ?_;refine QI ?_;refine WL.call rfl rfl rfl (IJ g weak (ta:=z_ (xD P)) (tb:=xD R) (fun x e=>Ih x (h.ext e)) (fun x e=>Ii x (h.ext e))) ?_;rintro v57 y ⟨r,ey⟩
  have d:=d.ext ey;have f:=f.trans ey;have p:=ey.size;obtain⟨uo,uc,rfl,m⟩:=Rd.ltl r;refine QI ?_;refine WL.st rfl rfl rfl d rfl rfl Pd (fun z j a=>?_);refine QI ?_;have b:=(r.st a OS).low (show w.heap.size≤g.heap.size by omega);exact bg rfl rfl j rfl ⟨b,Dk f a OS⟩
theorem FM.keep{B k b:Nat}{γ:Nat→Nat}{w w':World}{v:Value}{t:Ltl}(h:Rd w (FM B k γ w) v t)(f:k<γ b)(d:w.grownBy w' (some b)):Rd w' (FM B k γ w') v t:=
 (Rd.kept h d (fun c a=>⟨a.2.1,fun e=>by have:=Nn e;subst this;have:=a.2.2;omega⟩)).wk (fun c a=>⟨a.1,MQ a.2.1 d.size,a.2.2⟩)
set_option maxHeartbeats 2000000 in
theorem qa(w:World)(k sc P S Q R:Int)(n:Nat)(hn:n≤1000):Rt Tryz.prog 39 [.agg (BJ k sc P S Q R (n:Int)).toArray].toArray w (bR w (mQ (k,sc,P,S,Q,R,(n:Int)))):=by
 refine dG Tryz.func39 Tryz.ntmps39 rfl rfl ?_;have hg:=rB k sc P S Q R (n:Int) n hn;have hu:=fun weak=>Io k sc P S Q R (n:Int) weak n hn
 refine QI ?_;refine dZ rfl rfl rfl fun w1 p e1=>?_
 refine WL.alloc rfl rfl (fun j m e2=>?_);have p:=p.ext e2;have l:=e1.trans e2;have hlr:=m.lt;have hs1:=e1.size;have d:j.heap.size≤j.heap.size:=MM _;unfold mQ;dsimp only;rw[Kd];have ed:=Ext.drew j;have p:=p.ext ed;have m:=m.ext ed;have l:=l.trans ed;have d:j.heap.size≤(drew j).heap.size:=MN d ed.size;refine Py ?_;refine aG 9 mixed OT ?_;refine Q1 ?_;refine cT rfl rfl rfl (fun γ w c=>WL.call rfl rfl rfl (mG w Q) ML.en) ?_;refine Q1 ?_;refine cT rfl rfl rfl (fun γ w c=>WL.call rfl rfl rfl (mG w R) ML.en) ?_;refine ML.fc (fun v γ w=>Rd w (FM j.heap.size 6 γ w) v (z_ (xD R))) rfl rfl rfl FW (fun γ w c=>WL.call rfl rfl rfl (FM.call (i:=6) (by omega) (MN d c.size) (mH w FM.lt (Dv _ _ _))) (fun v w' h=>WL.nil (a8 rfl h.2 h.1))) ?_;refine ML.fc (fun v γ w=>∃b,v=Pk b∧γ b=7∧j.heap.size≤b∧Blk w b 32 [Pj 0,Pj 0,.slice none 0 0]) rfl rfl rfl FU (fun γ w c=>WL.alloc rfl rfl (fun w' hb e=>WL.nil (a8 rfl e ⟨_,rfl,i4,MN d c.size,hb⟩))) ?_;refine ML.fc (fun v γ w=>∃b,v=Pk b∧γ b=8∧j.heap.size≤b∧Blk w b 32 [Pj 0,Pj 0,.slice none 0 0]) rfl rfl rfl FU (fun γ w c=>WL.alloc rfl rfl (fun w' hb e=>WL.nil (a8 rfl e ⟨_,rfl,i4,MN d c.size,hb⟩))) ?_;refine ML.nil fun γ w' a v4 g4 v3 g3 v11 u=>?_
 change WL _ _ _ _ _ _ _
 have p:=p.ext a;have m:=m.ext a;have l:=l.trans a;have d:=MN d a.size;obtain⟨b4,rfl,hγ4,hB4,f⟩:=g4;obtain⟨b3,rfl,hγ3,hB3,g⟩:=g3;have H:b3≠b4:=fun e=>by subst e;rw[hγ3]at hγ4;cases hγ4
 obtain⟨uo,uc,rfl,t⟩:=Rd.ltl u;refine WL.st rfl rfl rfl g rfl rfl Pd (fun w3 g s=>?_);have f:=f.kept s (fun e=>H (Nn e).symm);have u:=FM.keep u (b:=b3) (by rw[hγ3];decide) s;have m:=m.kept s Pa;have p:=p.kept s Pa;have l:Ext w w3:=l.grown s l.size O7;have d:=MN d s.size;refine WL.st rfl rfl rfl f rfl rfl Pd (fun x f r=>WL.nil (bp ?_));have q:=FM.st u (b:=b4) (by rw[hγ4];decide) r;have g:=g.kept r (fun e=>H (Nn e));have m:=m.kept r Pa;have p:=p.kept r Pa;have l:Ext w x:=l.grown r l.size O7;have d:=MN d r.size;clear u t s r a e1 e2;refine QI ?_;by_cases s2:sc=2
 ·subst s2
  rw[Ov rfl];have ed:=Ext.drew x;have p:=p.ext ed;have m:=m.ext ed;have g:=g.ext ed;have f:=f.ext ed;have q:=q.ext ed;have l:=l.trans ed;have d:j.heap.size≤(drew x).heap.size:=MN d ed.size;refine Py ?_;refine aG 10 mixed OT ?_;refine Q1 ?_;refine cT rfl rfl rfl (fun γ w c=>WL.call rfl rfl rfl (mG w R) ML.en) ?_;refine ML.fc (fun v γ w=>GL j.heap.size w v (pm (xD R))) rfl rfl rfl O4 (fun γ w c=>WL.call rfl rfl rfl (mK w (MN d c.size) 10 (rz _ _ _)) ML.en) ?_;refine ML.fc (fun v γ w=>GL j.heap.size w v (z_ (pm (xD R)))) rfl rfl rfl O4 (fun γ w c v19 g19=>WL.call rfl rfl rfl (mI w (MN d c.size) g19) ML.en) ?_;refine Q1 ?_;refine ML.fc (fun v γ w=>GL j.heap.size w v (In k P S R n false)) rfl rfl rfl O4 (fun γ w c G D=>WL.call rfl rfl rfl ((hu false w).low (MN d c.size)) ML.en) ?_;refine ML.fc (fun v γ w=>GL j.heap.size w v (A1 (z_ (pm (xD R))) (In k P S R n false))) rfl rfl rfl O4 (fun γ w c G D v24 g24=>WL.call rfl rfl rfl (mM w (MN d c.size) D g24) ML.en) ?_;refine ML.nil fun γ w' a v25 g25 v24 g24 G D v19 g19=>?_
  change WL _ _ _ _ _ _ _
  have p:=p.ext a;have m:=m.ext a;have g:=g.ext a;have f:=f.ext a;have q:=q.ext a;have l:=l.trans a;have d:=MN d a.size;obtain⟨uo,uc,rfl,t⟩:=Rd.ltl g25;refine WL.st rfl rfl rfl m rfl rfl Pd (fun z y o=>WL.nil (bp ?_));refine QI ?_;exact bg rfl rfl y rfl ⟨(g25.st o OS).low OS,Dk l o OS⟩
 by_cases s3:sc=3
 ·subst s3
  rw[Ou OU,Ov rfl];have ed:=Ext.drew x;have p:=p.ext ed;have m:=m.ext ed;have g:=g.ext ed;have f:=f.ext ed;have q:=q.ext ed;have l:=l.trans ed;have d:j.heap.size≤(drew x).heap.size:=MN d ed.size;refine Py ?_;refine aG 17 mixed OT ?_;refine Q1 ?_;refine ML.fc (fun v γ w=>GL j.heap.size w v (z_ (xD Q))) rfl rfl rfl O4 (fun γ w c=>WL.call rfl rfl rfl (mI w (MN d c.size) (rz _ _ _)) ML.en) ?_;refine ML.fc (fun v γ w=>GL j.heap.size w v (gi (z_ (xD Q)))) rfl rfl rfl O4 (fun γ w c v29 g29=>WL.call rfl rfl rfl (mD w (MN d c.size) g29) ML.en) ?_;refine Q1 ?_;refine cT rfl rfl rfl (fun γ w c=>WL.call rfl rfl rfl (mG w Q) ML.en) ?_;refine ML.fc (fun v γ w=>GL j.heap.size w v (z_ (xD Q))) rfl rfl rfl O4 (fun γ w c=>WL.call rfl rfl rfl (mI w (MN d c.size) (rz _ _ _)) ML.en) ?_;refine Q1 ?_;refine cT rfl rfl rfl (fun γ w c=>WL.call rfl rfl rfl (mG w Q) ML.en) ?_;refine Q1 ?_;refine ML.fc (fun v γ w=>GL j.heap.size w v (rA k P S n)) rfl rfl rfl O4 (fun γ w c=>WL.call rfl rfl rfl ((hg w).low (MN d c.size)) ML.en) ?_;refine ML.fc (fun v γ w=>GL j.heap.size w v (gj (xD Q) (rA k P S n))) rfl rfl rfl O4 (fun γ w c v41 g41=>WL.call rfl rfl rfl (mF w (MN d c.size) (rz _ _ _) g41) ML.en) ?_;refine ML.fc (fun v γ w=>GL j.heap.size w v (H_ (z_ (xD Q)) (gj (xD Q) (rA k P S n)))) rfl rfl rfl O4 (fun γ w c v34 g34 v42 Z=>WL.call rfl rfl rfl (mP w (MN d c.size) g34 Z) ML.en) ?_;refine ML.fc (fun v γ w=>GL j.heap.size w v (A1 (gi (z_ (xD Q))) (H_ (z_ (xD Q)) (gj (xD Q) (rA k P S n))))) rfl rfl rfl O4 (fun γ w c v30 g30 v43 Y=>WL.call rfl rfl rfl (mM w (MN d c.size) g30 Y) ML.en) ?_;refine ML.nil fun γ w' a v44 X v43 Y v42 Z v41 g41 v34 g34 v30 g30 v29 g29=>?_
  change WL _ _ _ _ _ _ _
  have p:=p.ext a;have m:=m.ext a;have g:=g.ext a;have f:=f.ext a;have q:=q.ext a;have l:=l.trans a;have d:=MN d a.size;obtain⟨uo,uc,rfl,t⟩:=Rd.ltl X;refine WL.st rfl rfl rfl m rfl rfl Pd (fun z y o=>WL.nil (bp ?_));refine QI ?_;exact bg rfl rfl y rfl ⟨(X.st o OS).low OS,Dk l o OS⟩
 by_cases s4:sc=4
 ·subst s4
  rw[Ou OU,Ou OU,Ov rfl];have ed:=Ext.drew x;have p:=p.ext ed;have m:=m.ext ed;have g:=g.ext ed;have f:=f.ext ed;have q:=q.ext ed;have l:=l.trans ed;have d:j.heap.size≤(drew x).heap.size:=MN d ed.size;refine Py ?_;refine aG 15 mixed OT ?_;refine Q1 ?_;refine ML.fc (fun v γ w=>GL j.heap.size w v (gj (xD Q) (z_ (xD R)))) rfl rfl rfl O4 (fun γ w c=>WL.call rfl rfl rfl (mF w (MN d c.size) (rz _ _ _) (q.ext c)) ML.en) ?_;refine Q1 ?_;refine cT rfl rfl rfl (fun γ w c=>WL.call rfl rfl rfl (mG w R) ML.en) ?_;refine ML.fc (fun v γ w=>GL j.heap.size w v (pm (xD R))) rfl rfl rfl O4 (fun γ w c=>WL.call rfl rfl rfl (mK w (MN d c.size) 10 (rz _ _ _)) ML.en) ?_;refine ML.fc (fun v γ w=>GL j.heap.size w v (gj (gj (xD Q) (z_ (xD R))) (pm (xD R)))) rfl rfl rfl O4 (fun γ w c v49 W v53 V=>WL.call rfl rfl rfl (mF w (MN d c.size) W V) ML.en) ?_;refine ML.fc (fun v γ w=>GL j.heap.size w v (z_ (gj (gj (xD Q) (z_ (xD R))) (pm (xD R))))) rfl rfl rfl O4 (fun γ w c v54 U=>WL.call rfl rfl rfl (mI w (MN d c.size) U) ML.en) ?_;refine Q1 ?_;refine ML.fc (fun v γ w=>GL j.heap.size w v (In k P S R n false)) rfl rfl rfl O4 (fun γ w c F C=>WL.call rfl rfl rfl ((hu false w).low (MN d c.size)) ML.en) ?_;refine ML.fc (fun v γ w=>GL j.heap.size w v (A1 (z_ (gj (gj (xD Q) (z_ (xD R))) (pm (xD R)))) (In k P S R n false))) rfl rfl rfl O4 (fun γ w c F C v59 T=>WL.call rfl rfl rfl (mM w (MN d c.size) C T) ML.en) ?_;refine ML.fc (fun v γ w=>GL j.heap.size w v (gi (A1 (z_ (gj (gj (xD Q) (z_ (xD R))) (pm (xD R)))) (In k P S R n false)))) rfl rfl rfl O4 (fun γ w c v60 O=>WL.call rfl rfl rfl (mD w (MN d c.size) O) ML.en) ?_;refine ML.nil fun γ w' a v61 N v60 O v59 T F C v54 U v53 V v49 W=>?_
  change WL _ _ _ _ _ _ _
  have p:=p.ext a;have m:=m.ext a;have g:=g.ext a;have f:=f.ext a;have q:=q.ext a;have l:=l.trans a;have d:=MN d a.size;obtain⟨uo,uc,rfl,t⟩:=Rd.ltl N;refine WL.st rfl rfl rfl m rfl rfl Pd (fun z y o=>WL.nil (bp ?_));refine QI ?_;exact bg rfl rfl y rfl ⟨(N.st o OS).low OS,Dk l o OS⟩
 by_cases s5:sc=5
 ·subst s5
  rw[Ou OU,Ou OU,Ou OU,Ov rfl];have ed:=Ext.drew x;have p:=p.ext ed;have m:=m.ext ed;have g:=g.ext ed;have f:=f.ext ed;have q:=q.ext ed;have l:=l.trans ed;have d:j.heap.size≤(drew x).heap.size:=MN d ed.size;refine Py ?_;refine aG 10 mixed OT ?_;refine Q1 ?_;refine ML.fc (fun v γ w=>GL j.heap.size w v (gj (xD Q) (z_ (xD R)))) rfl rfl rfl O4 (fun γ w c=>WL.call rfl rfl rfl (mF w (MN d c.size) (rz _ _ _) (q.ext c)) ML.en) ?_;refine ML.fc (fun v γ w=>GL j.heap.size w v (z_ (gj (xD Q) (z_ (xD R))))) rfl rfl rfl O4 (fun γ w c v66 M=>WL.call rfl rfl rfl (mI w (MN d c.size) M) ML.en) ?_;refine Q1 ?_;refine ML.fc (fun v γ w=>GL j.heap.size w v (In k P S R n true)) rfl rfl rfl O4 (fun γ w c E B=>WL.call rfl rfl rfl ((hu true w).low (MN d c.size)) ML.en) ?_;refine ML.fc (fun v γ w=>GL j.heap.size w v (A1 (z_ (gj (xD Q) (z_ (xD R)))) (In k P S R n true))) rfl rfl rfl O4 (fun γ w c E B v71 L=>WL.call rfl rfl rfl (mM w (MN d c.size) B L) ML.en) ?_;refine ML.fc (fun v γ w=>GL j.heap.size w v (gi (A1 (z_ (gj (xD Q) (z_ (xD R)))) (In k P S R n true)))) rfl rfl rfl O4 (fun γ w c v72 K=>WL.call rfl rfl rfl (mD w (MN d c.size) K) ML.en) ?_;refine ML.nil fun γ w' a v73 J v72 K v71 L E B v66 M=>?_
  change WL _ _ _ _ _ _ _
  have p:=p.ext a;have m:=m.ext a;have g:=g.ext a;have f:=f.ext a;have q:=q.ext a;have l:=l.trans a;have d:=MN d a.size;obtain⟨uo,uc,rfl,t⟩:=Rd.ltl J;refine WL.st rfl rfl rfl m rfl rfl Pd (fun z y o=>WL.nil (bp ?_));refine QI ?_;exact bg rfl rfl y rfl ⟨(J.st o OS).low OS,Dk l o OS⟩
 rw[Ou s2,Ou s3,Ou s4,Ou s5];rw[show(sc==2)=false by simpa using s2];refine Py ?_;rw[show(sc==3)=false by simpa using s3];refine Py ?_;rw[show(sc==4)=false by simpa using s4];refine Py ?_;rw[show(sc==5)=false by simpa using s5];refine Py ?_;refine QI ?_;refine QI ?_;refine WL.call rfl rfl rfl ((hg x).low d) ?_;rintro v77 y1 ⟨I,A⟩
 have p:=p.ext A;have m:=m.ext A;have l:=l.trans A;have d:=MN d A.size;obtain⟨uo,uc,rfl,t⟩:=Rd.ltl I;refine QI ?_;refine WL.st rfl rfl rfl m rfl rfl Pd (fun z y o=>?_);refine QI ?_;exact bg rfl rfl y rfl ⟨(I.st o OS).low OS,Dk l o OS⟩
section
variable {s l:List Nat}{e P S to i:Nat}{k:Int}{st:KS}
abbrev Hs(s l:List Nat)(a:Nat)(j:Nat):Prop:=xu s l j >>> a&&&1=1
end
section
variable {pt:cK}{s l:List Nat}{i to:Nat}
abbrev cnt(pt:cK):Nat:=pt.2.2.2.2.2.2.toNat
abbrev hP(pt:cK)(s l:List Nat):Nat→Prop:=Hs s l pt.2.2.1.toNat
abbrev hS(pt:cK)(s l:List Nat):Nat→Prop:=Hs s l pt.2.2.2.1.toNat
abbrev hQ(pt:cK)(s l:List Nat):Nat→Prop:=Hs s l pt.2.2.2.2.1.toNat
abbrev hR(pt:cK)(s l:List Nat):Nat→Prop:=Hs s l pt.2.2.2.2.2.1.toNat
end
def mA(pt:cK):Ltl×Int:=if jR pt≠0 then(.mk 0 0 [],jR pt)else if(jD (mQ pt) 1 0).1≠0 then(.mk 0 0 [],(jD (mQ pt) 1 0).1)else(mQ pt,0)
theorem jS{pt:cK}(h:jR pt=0):∃n:Nat,pt.2.2.2.2.2.2=(n:Int)∧n≤3:=by
 unfold jR at h
 split at h
 ·cases h
 split at h
 ·cases h
 split at h
 ·cases h
 ·rename_i h3
  exact⟨pt.2.2.2.2.2.2.toNat,by omega,by omega⟩
theorem mB(w:World)(pt:cK):
  Rt Tryz.prog 15 [BK pt].toArray w fun u w'=>∃x,u=.tuple ⟨[x,Pj (mA pt).2]⟩∧GL w.heap.size w' x (mA pt).1∧Ext w w':=by
 refine dG Tryz.func15 Tryz.ntmps15 rfl rfl ?_;refine Pm ?_;refine dZ rfl rfl rfl fun w1 z p=>?_
 refine WL.alloc rfl rfl (fun V O h=>?_);have z:=z.ext h;have o:=p.trans h;refine Pw ?_;refine WL.call rfl rfl rfl (mR V pt) ?_;rintro _ t ⟨rfl,s⟩
 have ht3:=z.ext s;have m:=O.ext s;have g:=o.trans s;have hz1:=p.size;have hz2:=h.size;have hlr:=O.lt;have hz3:=s.size;refine Qw ?_;unfold mA;apply CW.cond rfl<;>intro i
 ·have i:jR pt≠0:=by simpa using i
  rw[Ov i];refine Pm ?_;refine WL.build (parts:=[]) rfl rfl rfl rfl ?_;refine QO ?_;refine WL.st rfl rfl rfl m rfl rfl Pd (fun M B E=>?_);refine PL ?_;exact bh rfl rfl rfl B rfl ⟨_,rfl,Rd.mkLtl (kids:=[]) (Sl.zero _ _),g.grown E g.size O7⟩
 ·have i:jR pt=0:=by simpa using i
  rw[Ou (by simp[i])];refine P1 ?_;have F:Rt Tryz.prog 39 [BK pt].toArray t (bR t (mQ pt)):=by
   obtain⟨n,hn,hn3⟩:=jS i;obtain⟨k,sc,P,S,Q,R,c⟩:=pt;dsimp only at hn
   subst hn;exact qa t k sc P S Q R n OS
  refine WL.call rfl rfl rfl F ?_;rintro v M ⟨N,T⟩
  have Z:=T.size;refine WL.alloc rfl rfl (fun w5 H K=>?_);have Y:=K.size;obtain⟨uo,uc,rfl,_⟩:=Rd.ltl N;refine WL.st rfl rfl rfl H rfl rfl Pd (fun L G D=>?_);have J:Ext M L:=K.grown D K.size O5;have j:=N.ext J;obtain⟨uo',uc',e,C⟩:=Rd.ltl j;obtain⟨rfl,rfl⟩:uo'=uo∧uc'=uc:=by
   simp[yj]at e
   exact⟨e.1.symm,e.2.symm⟩
  have r:=T.trans J;have A:=m.ext r;have I:=g.trans r;have X:=J.size;refine PV ?_;refine WL.call rfl rfl rfl (yh L C (fun b hb=>hb.2)) ?_;rintro _ w7 ⟨rfl,q⟩
  have l:=A.ext q;have hb7:=G.ext q;have d:=I.trans q;have y:=j.ext q;have W:=q.size;refine Qw ?_;apply CW.cond rfl<;>intro h2
  ·have h2:(jD (mQ pt) 1 0).1≠0:=by simpa using h2
   rw[Ov h2];refine Pm ?_;refine WL.build (parts:=[]) rfl rfl rfl rfl ?_;refine QO ?_;refine WL.st rfl rfl rfl l rfl rfl Pd (fun U f a=>?_);refine PL ?_;exact bh rfl rfl rfl f rfl ⟨_,rfl,Rd.mkLtl (kids:=[]) (Sl.zero _ _),d.grown a d.size O7⟩
  ·have h2:(jD (mQ pt) 1 0).1=0:=by simpa using h2
   rw[Ou (by simp[h2])];refine P1 ?_;refine WL.st rfl rfl rfl l rfl rfl Pd (fun U f a=>?_);refine Pr ?_;exact bh rfl rfl rfl f rfl ⟨_,rfl,(y.st a OS).low OS,d.grown a d.size O7⟩
theorem lZ(w:World){F:Nat→Prop}(hF:∀b,F b→b<w.heap.size)(k:Int){v:Value}{t:Ltl}(h:Rd w F v t):Rt Tryz.prog 119 [Pj k,v].toArray w fun v w'=>Rd w' (dc F w w') v (.mk k 0 [t]:Ltl)∧Ext w w':=by
 obtain⟨ao,cap,rfl,I⟩:=Rd.ltl h;refine dH Tryz.func119 Tryz.ntmps119 rfl rfl ?_;refine Pm ?_;refine dZ rfl rfl rfl fun A d f=>?_
 refine WL.alloc rfl rfl (fun l x j=>?_);have H:=d.ext j;have a:=f.trans j;refine Pw ?_;have E:Rd l F (yj t.k t.n ao t.kids.length cap) t:=Rd.mono h (fun b d=>a.block b (hF b d)) O8;have m:w.heap.size≤l.heap.size:=a.size;have D:=x.lt;have B:w.heap.size≤A.heap.size:=f.size;refine WL.lit (F:=F) (ys:=[t]) rfl rfl rfl rfl rfl (.cons E .nil) (by show 1*3≤16777216;decide) (fun b d=>MQ (hF b d) m) (fun z y p=>?_);have e:Ext l z:=(Ext.refl l).grown p Pf O_;have o:=x.ext e;have c:=a.trans e;refine WL.build rfl rfl rfl rfl ?_;refine WL.st rfl rfl rfl o rfl rfl Pd (fun s n i=>?_);have r:Ext w s:=c.grown i c.size (fun g q=>by cases q;exact f.size);have ho4:=y.kept i (fun g q=>by have:=(y.lt g q).1;simp;omega) (fun b d=>⟨MQ (hF b d) c.size,by have:b<w.heap.size:=hF b d;simp;omega⟩);obtain⟨uo,uc,G,C⟩:=(ho4.rd.mono (F':=dc F w s) Pc (fun b d=>d.elim .inl fun u=>.inr ⟨MN a.size (ho4.lt b u).1,(ho4.lt b u).2.1⟩)).sl;obtain⟨rfl,_,rfl⟩:=N5 G;refine Px ?_;exact bg rfl rfl n rfl ⟨Rd.mkLtl (kids:=[t]) C,r⟩
theorem mg(w:World){F:Nat→Prop}(hF:∀b,F b→b<w.heap.size)(k:Int){v A:Value}{t i:Ltl}(h:Rd w F v t)(E:Rd w F A i):Rt Tryz.prog 115 [Pj k,v,A].toArray w fun v w'=>Rd w' (dc F w w') v (.mk k 0 [t,i]:Ltl)∧Ext w w':=by
 obtain⟨ao,cap,rfl,P⟩:=Rd.ltl h;obtain⟨ao',cap',rfl,M⟩:=Rd.ltl E;refine dI Tryz.func115 Tryz.ntmps115 rfl rfl ?_;refine Pm ?_;refine dZ rfl rfl rfl fun w0 f y=>?_
 refine dZ rfl rfl rfl fun H d c=>?_
 have f:=f.ext c;have c:=y.trans c;refine WL.alloc rfl rfl (fun m C l=>?_);have f:=f.ext l;have O:=d.ext l;have a:=c.trans l;refine Pw ?_;have L:Rd m F (yj t.k t.n ao t.kids.length cap) t:=Rd.mono h (fun b d=>a.block b (hF b d)) O8;have r:Rd m F (yj i.k i.n ao' i.kids.length cap') i:=Rd.mono E (fun b d=>a.block b (hF b d)) O8;have o:w.heap.size≤m.heap.size:=a.size;have K:=C.lt;have I:w.heap.size≤H.heap.size:=c.size;refine WL.lit (F:=F) (ys:=[t,i]) rfl rfl rfl rfl rfl (.cons L (.cons r .nil)) (by show 2*3≤16777216;decide) (fun b d=>MQ (hF b d) o) (fun G D s=>?_);have j:Ext m G:=(Ext.refl m).grown s Pf O_;have q:=C.ext j;have e:=a.trans j;refine WL.build rfl rfl rfl rfl ?_;refine WL.st rfl rfl rfl q rfl rfl Pd (fun z p n=>?_);have x:Ext w z:=e.grown n e.size (fun g u=>by cases u;exact c.size);have ho4:=D.kept n (fun g u=>by have:=(D.lt g u).1;simp;omega) (fun b d=>⟨MQ (hF b d) e.size,by have:b<w.heap.size:=hF b d;simp;omega⟩);obtain⟨uo,uc,N,J⟩:=(ho4.rd.mono (F':=dc F w z) Pc (fun b d=>d.elim .inl fun B=>.inr ⟨MN a.size (ho4.lt b B).1,(ho4.lt b B).2.1⟩)).sl;obtain⟨rfl,_,rfl⟩:=N5 N;refine Px ?_;exact bg rfl rfl p rfl ⟨Rd.mkLtl (kids:=[t,i]) J,x⟩
theorem l_(w:World){B:Nat}(c:B≤w.heap.size)(k:Int){v:Value}{t:Ltl}(h:GL B w v t):Rt Tryz.prog 119 [Pj k,v].toArray w fun u w'=>GL B w' u (.mk k 0 [t])∧Ext w w':=
 (lZ w (fun b a=>a.2) k h).mono fun u w' h=>⟨h.1.wk (GL.plus c h.2),h.2⟩
theorem mh(w:World){B:Nat}(e:B≤w.heap.size)(k:Int){v a:Value}{t c:Ltl}(h:GL B w v t)(f:GL B w a c):Rt Tryz.prog 115 [Pj k,v,a].toArray w fun u w'=>GL B w' u (.mk k 0 [t,c])∧Ext w w':=
 (mg w (F:=fun b=>B≤b∧b<w.heap.size) (fun b d=>d.2) k h f).mono fun u w' h=>⟨h.1.wk (GL.plus e h.2),h.2⟩
theorem lX(w:World){F:Nat→Prop}(hF:∀b,F b→b<w.heap.size){v:Value}{t:Ltl}(h:Rd w F v t):Rt Tryz.prog 112 [v].toArray w fun u w'=>Rd w' (dc F w w') u (.mk 4 0 [t]:Ltl)∧Ext w w':=by
 obtain⟨ao,cap,rfl,s⟩:=Rd.ltl h;refine dG Tryz.func112 Tryz.ntmps112 rfl rfl ?_;refine Pm ?_;refine dZ rfl rfl rfl fun o f e=>?_
 refine WL.alloc rfl rfl (fun n m d=>?_);have f:=f.ext d;have g:=e.trans d;have a:w.heap.size≤o.heap.size:=e.size;have j:=m.lt;refine PV ?_;refine WL.call rfl rfl rfl (lZ n (fun b f=>MQ (hF b f) g.size) 4 (Rd.up0 h g hF)) ?_;rintro u r ⟨l,k⟩
 obtain⟨uo,uc,rfl,p⟩:=Rd.ltl l;refine WL.st rfl rfl rfl (m.ext k) rfl rfl Pd (fun q i c=>?_);refine Px ?_;exact bg rfl rfl i rfl ⟨pn l c hF a j g.size k.size,Dk (g.trans k) c a⟩
theorem lY(w:World){B:Nat}(c:B≤w.heap.size){v:Value}{t:Ltl}(h:GL B w v t):Rt Tryz.prog 112 [v].toArray w fun u w'=>GL B w' u (.mk 4 0 [t])∧Ext w w':=
 (lX w (fun b a=>a.2) h).mono fun u w' h=>⟨h.1.wk (GL.plus c h.2),h.2⟩
theorem me(w:World){F:Nat→Prop}(hF:∀b,F b→b<w.heap.size){v:Value}{t:Ltl}(h:Rd w F v t):Rt Tryz.prog 113 [v].toArray w fun u w'=>Rd w' (dc F w w') u (.mk 10 0 [t]:Ltl)∧Ext w w':=by
 obtain⟨ao,cap,rfl,s⟩:=Rd.ltl h;refine dG Tryz.func113 Tryz.ntmps113 rfl rfl ?_;refine Pm ?_;refine dZ rfl rfl rfl fun o f e=>?_
 refine WL.alloc rfl rfl (fun n m d=>?_);have f:=f.ext d;have g:=e.trans d;have a:w.heap.size≤o.heap.size:=e.size;have j:=m.lt;refine PV ?_;refine WL.call rfl rfl rfl (lZ n (fun b f=>MQ (hF b f) g.size) 10 (Rd.up0 h g hF)) ?_;rintro u r ⟨l,k⟩
 obtain⟨uo,uc,rfl,p⟩:=Rd.ltl l;refine WL.st rfl rfl rfl (m.ext k) rfl rfl Pd (fun q i c=>?_);refine Px ?_;exact bg rfl rfl i rfl ⟨pn l c hF a j g.size k.size,Dk (g.trans k) c a⟩
theorem mf(w:World){B:Nat}(c:B≤w.heap.size){v:Value}{t:Ltl}(h:GL B w v t):Rt Tryz.prog 113 [v].toArray w fun u w'=>GL B w' u (.mk 10 0 [t])∧Ext w w':=
 (me w (fun b a=>a.2) h).mono fun u w' h=>⟨h.1.wk (GL.plus c h.2),h.2⟩
theorem lR(w:World){F:Nat→Prop}(hF:∀b,F b→b<w.heap.size){v:Value}{t:Ltl}(h:Rd w F v t):Rt Tryz.prog 110 [v].toArray w fun u w'=>Rd w' (dc F w w') u (.mk 11 0 [t]:Ltl)∧Ext w w':=by
 obtain⟨ao,cap,rfl,s⟩:=Rd.ltl h;refine dG Tryz.func110 Tryz.ntmps110 rfl rfl ?_;refine Pm ?_;refine dZ rfl rfl rfl fun o f e=>?_
 refine WL.alloc rfl rfl (fun n m d=>?_);have f:=f.ext d;have g:=e.trans d;have a:w.heap.size≤o.heap.size:=e.size;have j:=m.lt;refine PV ?_;refine WL.call rfl rfl rfl (lZ n (fun b f=>MQ (hF b f) g.size) 11 (Rd.up0 h g hF)) ?_;rintro u r ⟨l,k⟩
 obtain⟨uo,uc,rfl,p⟩:=Rd.ltl l;refine WL.st rfl rfl rfl (m.ext k) rfl rfl Pd (fun q i c=>?_);refine Px ?_;exact bg rfl rfl i rfl ⟨pn l c hF a j g.size k.size,Dk (g.trans k) c a⟩
theorem lS(w:World){B:Nat}(c:B≤w.heap.size){v:Value}{t:Ltl}(h:GL B w v t):Rt Tryz.prog 110 [v].toArray w fun u w'=>GL B w' u (.mk 11 0 [t])∧Ext w w':=
 (lR w (fun b a=>a.2) h).mono fun u w' h=>⟨h.1.wk (GL.plus c h.2),h.2⟩
theorem lT(w:World){F:Nat→Prop}(hF:∀b,F b→b<w.heap.size){v n:Value}{t o:Ltl}(h:Rd w F v t)(r:Rd w F n o):Rt Tryz.prog 117 [v,n].toArray w fun u w'=>Rd w' (dc F w w') u (.mk 5 0 [t,o]:Ltl)∧Ext w w':=by
 obtain⟨ao,cap,rfl,C⟩:=Rd.ltl h;obtain⟨ao',cap',rfl,z⟩:=Rd.ltl r;refine dH Tryz.func117 Tryz.ntmps117 rfl rfl ?_;refine Pm ?_;refine dZ rfl rfl rfl fun w0 c l=>?_
 refine dZ rfl rfl rfl fun x i a=>?_
 have c:=c.ext a;have a:=l.trans a;refine WL.alloc rfl rfl (fun s q d=>?_);have c:=c.ext d;have i:=i.ext d;have g:=a.trans d;have e:w.heap.size≤x.heap.size:=a.size;have k:=q.lt;refine PV ?_;refine WL.call rfl rfl rfl (mg s (F:=F) (fun b i=>MQ (hF b i) g.size) 5 (Rd.up0 h g hF) (Rd.up0 r g hF)) ?_;rintro u B ⟨p,m⟩
 obtain⟨uo,uc,rfl,y⟩:=Rd.ltl p;refine WL.st rfl rfl rfl (q.ext m) rfl rfl Pd (fun A j f=>?_);refine Px ?_;exact bg rfl rfl j rfl ⟨pn p f hF e k g.size m.size,Dk (g.trans m) f e⟩
theorem lU(w:World){B:Nat}(e:B≤w.heap.size){v a:Value}{t c:Ltl}(h:GL B w v t)(f:GL B w a c):Rt Tryz.prog 117 [v,a].toArray w fun u w'=>GL B w' u (.mk 5 0 [t,c])∧Ext w w':=
 (lT w (F:=fun b=>B≤b∧b<w.heap.size) (fun b d=>d.2) h f).mono fun u w' h=>⟨h.1.wk (GL.plus e h.2),h.2⟩
theorem ma(w:World){F:Nat→Prop}(hF:∀b,F b→b<w.heap.size){v n:Value}{t o:Ltl}(h:Rd w F v t)(r:Rd w F n o):Rt Tryz.prog 111 [v,n].toArray w fun u w'=>Rd w' (dc F w w') u (.mk 6 0 [t,o]:Ltl)∧Ext w w':=by
 obtain⟨ao,cap,rfl,C⟩:=Rd.ltl h;obtain⟨ao',cap',rfl,z⟩:=Rd.ltl r;refine dH Tryz.func111 Tryz.ntmps111 rfl rfl ?_;refine Pm ?_;refine dZ rfl rfl rfl fun w0 c l=>?_
 refine dZ rfl rfl rfl fun x i a=>?_
 have c:=c.ext a;have a:=l.trans a;refine WL.alloc rfl rfl (fun s q d=>?_);have c:=c.ext d;have i:=i.ext d;have g:=a.trans d;have e:w.heap.size≤x.heap.size:=a.size;have k:=q.lt;refine PV ?_;refine WL.call rfl rfl rfl (mg s (F:=F) (fun b i=>MQ (hF b i) g.size) 6 (Rd.up0 h g hF) (Rd.up0 r g hF)) ?_;rintro u B ⟨p,m⟩
 obtain⟨uo,uc,rfl,y⟩:=Rd.ltl p;refine WL.st rfl rfl rfl (q.ext m) rfl rfl Pd (fun A j f=>?_);refine Px ?_;exact bg rfl rfl j rfl ⟨pn p f hF e k g.size m.size,Dk (g.trans m) f e⟩
theorem md(w:World){B:Nat}(e:B≤w.heap.size){v a:Value}{t c:Ltl}(h:GL B w v t)(f:GL B w a c):Rt Tryz.prog 111 [v,a].toArray w fun u w'=>GL B w' u (.mk 6 0 [t,c])∧Ext w w':=
 (ma w (F:=fun b=>B≤b∧b<w.heap.size) (fun b d=>d.2) h f).mono fun u w' h=>⟨h.1.wk (GL.plus e h.2),h.2⟩
theorem lW(w:World)(B:Nat)(k:Int):Rt Tryz.prog 118 [Pj k].toArray w fun v w'=>GL B w' v (.mk 3 k []:Ltl)∧Ext w w':=by
 refine dG Tryz.func118 Tryz.ntmps118 rfl rfl ?_;refine Pm ?_;refine WL.alloc rfl rfl (fun g f d=>?_);refine Qw ?_;refine WL.build rfl rfl rfl rfl ?_;refine WL.st rfl rfl rfl f rfl rfl Pd (fun e b a=>?_);have c:Ext w e:=d.grown a d.size O5;refine Px ?_;exact bg rfl rfl b rfl ⟨Rd.mkLtl (kids:=[]) (Sl.zero _ _),c⟩
end Go.Proofs.YtodmkmobdmcfbaaGreat
