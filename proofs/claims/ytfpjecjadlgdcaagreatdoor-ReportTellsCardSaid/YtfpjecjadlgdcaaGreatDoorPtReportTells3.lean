import Derived.Test.YtfpjecjadlgdcaaGreatDoorPtReportTells2
set_option linter.unusedVariables false
set_option linter.unusedSimpArgs false
set_option linter.defProp false
namespace Go.Proofs.YtfpjecjadlgdcaaGreatDoor
set_option maxHeartbeats 4000000
variable{P:Program}{α:Type}{B a K E:Nat}{D:Option Addr}{m:List Int}{F:Nat→Prop}{w:World}{v o J:Value}{g:List (List Int)}{x:Int}{r:List Value}{t:TypeId}{Q:Exit→Act→World→Prop}{e:Nat→Nat→Prop}{p:Nat→Nat}{s:List Nat}{L:List Oper}{c:Value→World→Prop}{f:List ByteArray}{y:Array Bool}{b:Value→(Nat→Nat)→World→Prop}{j:Array Edge}{u:List (Nat×Bool)}{A:List (Nat→Prop)}{G:String}{H:Array TypeId}{I:Func}
open Go.RowKit
def ca{n:Nat}{σ:Sg}{w0:World}{r i d:Nat}{t:Ltl}{ty:TypeId}{g:Option (Nat×Bool)}{f:FuncId}{xs:List Operand}{vs:List Value}
  (c:Cm L i=some ⟨some d,.call ⟨.value (.func f),xs.toArray,H⟩,ty,G,j,g⟩) (e:gd L σ ⟨some d,.call ⟨.value (.func f),xs.toArray,H⟩,ty,G,j,g⟩=some true) (hd:Nat.ble (d+1) n=true) (b:pL σ xs=some vs) [hf:IsF P f]
  (k:Rt P f vs.toArray w fun v w'=>GL B w' v t/\Ext w w') (a:Ext w0 w) (h:∀v y,GL B y v t->Ext w y->Ext w0 y->HL P L (fun x=>SO r w0 x) Q u n ((d,v)::σ) y):HL P L (fun x=>SO r w0 x) Q ((i,false)::u) n σ w:=
 cD c (WL.call e hd b k fun v y hR=>WL.nil (bf ((SO.refl _ _).ext (a.trans hR.2)) (h v y hR.1 hR.2 (a.trans hR.2))))
def cb{n:Nat}{σ:Sg}{w0:World}{r i d:Nat}{t:Ltl}{ty:TypeId}{g:Option (Nat×Bool)}{f:FuncId}{xs:List Operand}{vs:List Value}[hf:IsF P f](e:Rt P f vs.toArray w fun v w'=>GL B w' v t/\Ext w w')(k:Ext w0 w)(h:∀v y,GL B y v t->Ext w y->Ext w0 y->HL P L (fun x=>SO r w0 x) Q u n ((d,v)::σ) y)(b:Cm L i=some ⟨some d,.call ⟨.value (.func f),xs.toArray,H⟩,ty,G,j,g⟩:=by exact rfl)(c:gd L σ ⟨some d,.call ⟨.value (.func f),xs.toArray,H⟩,ty,G,j,g⟩=some true:=by exact rfl)(hd:Nat.ble (d+1) n=true:=by exact rfl)(a:pL σ xs=some vs:=by exact rfl):HL P L (fun x=>SO r w0 x) Q ((i,false)::u) n σ w:=ca b c hd a e k h
def cd{n:Nat}{σ:Sg}{w0:World}{r i d:Nat}{t:Ltl}{ty:TypeId}{g:Option (Nat×Bool)}{x:Operand}{xs:List Operand}{vs:List Value}{fv:Value}
  (e:Cm L i=some ⟨some d,.call ⟨.value x,xs.toArray,H⟩,ty,G,j,g⟩) (f:gd L σ ⟨some d,.call ⟨.value x,xs.toArray,H⟩,ty,G,j,g⟩=some true) (hd:Nat.ble (d+1) n=true) (b:ev σ x=some fv) (c:pL σ xs=some vs)
  (k:FnV P fv vs w fun v w'=>GL B w' v t/\Ext w w') (a:Ext w0 w) (h:∀v y,GL B y v t->Ext w y->Ext w0 y->HL P L (fun x=>SO r w0 x) Q u n ((d,v)::σ) y):HL P L (fun x=>SO r w0 x) Q ((i,false)::u) n σ w:=
 cD e (eO f hd b c k fun v y hR=>WL.nil (bf ((SO.refl _ _).ext (a.trans hR.2)) (h v y hR.1 hR.2 (a.trans hR.2))))
def pJ(n:Int):Ltl:=.mk 5 0 [.mk 3 n [],.mk 4 0 [.mk 3 63 []]]
def A0(a:Int):Nat->Ltl
 |0=>.mk 10 0 [pJ a]
 |n+1=>.mk 10 0 [.mk 5 0 [pJ a,.mk 7 0 [A0 a n]]]
instance:IsC UA 268 1 false:=IsC.of SN Tryz.underlying268 rfl
instance:IsZC UA 268 [.nilFunc]:=IsZC.of (z:=.nilFunc) SN rfl
def pK(w:World)(n:Int):Rt UA 174 [Te n].toArray w (bW w (pJ n)):=by
 refine dU Tryz.func174 Tryz.ntmps174 rfl rfl ?_;refine T9 ?_;refine eF (fun c b j=>?_);have r:=b.lt;have a:c.heap.size<=c.heap.size:=by omega
 have d:=j;refine T2 ?_;refine eN (mY c c.heap.size n) ?_;rintro v4 m ⟨g4,h⟩
 have b:=b.ext h;have d:=d.trans h;have a:c.heap.size<=m.heap.size:=Qk a h.size;refine eN (mY m c.heap.size 63) ?_;rintro v5 l ⟨g5,f⟩
 have g4:=g4.ext f;have b:=b.ext f;have d:=d.trans f;have a:c.heap.size<=l.heap.size:=Qk a f.size;refine eN (m5 l a g5) ?_;rintro v k ⟨t,e⟩
 have g4:=g4.ext e;have b:=b.ext e;have d:=d.trans e;have a:c.heap.size<=k.heap.size:=Qk a e.size;refine eN (mX k a g4 t) ?_;rintro u p ⟨o,g⟩
 have b:=b.ext g;have d:=d.trans g;have a:c.heap.size<=p.heap.size:=Qk a g.size;obtain⟨uo,uc,rfl,s⟩:=Rd.ltl o;refine f_ b (fun z q i=>?_);refine Tm ?_;exact bp rfl rfl q rfl ⟨(o.st i SM).low SM,Fv d i SM⟩
def A4(a:Int):∀(n:Nat),n<=10->∀(w:World),Rt UA 183 [Te a,Te ((n+1:Nat):Int)].toArray w (bW w (A0 a n)):=by
 intro n
 induction n with
 |zero=>
  intro _ w
  refine dV Tryz.func183 Tryz.ntmps183 rfl rfl ?_;refine T9 ?_;refine eF (fun g c k=>?_);have t:=c.lt;refine T4 ?_;have b:g.heap.size<=g.heap.size:=by omega
  have d:=k;refine eN ((pK g a).low b) ?_;rintro K o ⟨J,f⟩
  have c:=c.ext f;have d:=d.trans f;have b:g.heap.size<=o.heap.size:=Qk b f.size;refine eN (nh o b J) ?_;rintro v9 q ⟨C,e⟩
  have c:=c.ext e;have d:=d.trans e;have b:g.heap.size<=q.heap.size:=Qk b e.size;obtain⟨uo,uc,rfl,u⟩:=Rd.ltl C;refine f_ c (fun z s h=>?_);refine T5 ?_;exact bp rfl rfl s rfl ⟨(C.st h SM).low SM,Fv d h SM⟩
 |succ n r=>
  intro hn w
  have r:=r SM;refine dV Tryz.func183 Tryz.ntmps183 rfl rfl ?_;refine T9 ?_;refine eF (fun g c k=>?_);have t:=c.lt;refine T4 ?_;have b:g.heap.size<=g.heap.size:=by omega
  have d:=k;refine eN ((pK g a).low b) ?_;rintro I o ⟨i,f⟩
  have c:=c.ext f;have d:=d.trans f;have b:g.heap.size<=o.heap.size:=Qk b f.size;refine Ul ?_;rw[show((n+1+1:Nat):Int) -1=((n+1:Nat):Int) by omega];refine eN ((r o).low b) ?_;rintro H q ⟨y,e⟩
  have i:=i.ext e;have c:=c.ext e;have d:=d.trans e;have b:g.heap.size<=q.heap.size:=Qk b e.size;refine eN (m8 q b 7 y) ?_;rintro G B ⟨x,j⟩
  have i:=i.ext j;have c:=c.ext j;have d:=d.trans j;have b:g.heap.size<=B.heap.size:=Qk b j.size;refine eN (mX B b i x) ?_;rintro F A ⟨v,m⟩
  have c:=c.ext m;have d:=d.trans m;have b:g.heap.size<=A.heap.size:=Qk b m.size;refine eN (nh A b v) ?_;rintro E D ⟨p,l⟩
  have c:=c.ext l;have d:=d.trans l;have b:g.heap.size<=D.heap.size:=Qk b l.size;obtain⟨uo,uc,rfl,u⟩:=Rd.ltl p;refine f_ c (fun z s h=>?_);refine Tm ?_;exact bp rfl rfl s rfl ⟨(p.st h SM).low SM,Fv d h SM⟩
def lN(p:Nat)(w:World){k A B c:Int}{j:Nat}(i:Blk w p 29 [Te k,Te A,Te B,Te c]):
  Rt UA 173 [Tg p].toArray w (bW w (pJ A))/\Rt UA 175 [Tg p].toArray w (bW w (pJ B)):=by
 have hlb:=i.lt;constructor
 ·refine dU Tryz.func173 Tryz.ntmps173 rfl rfl ?_
  refine T9 ?_;refine eF (fun f g e=>?_);have n:=g.lt;have i:=i.ext e;have a:f.heap.size<=f.heap.size:=by omega
  have h:=e;refine TJ ?_;refine eN ((pK f A).low a) ?_;rintro v4 l ⟨g4,b⟩
  have g:=g.ext b;have h:=h.trans b;have a:f.heap.size<=l.heap.size:=Qk a b.size;obtain⟨uo,uc,rfl,o⟩:=Rd.ltl g4;refine f_ g (fun z m d=>?_);refine Tm ?_;exact bp rfl rfl m rfl ⟨(g4.st d SM).low SM,Fv h d SM⟩
 ·refine dU Tryz.func175 Tryz.ntmps175 rfl rfl ?_
  refine T9 ?_;refine eF (fun f g e=>?_);have n:=g.lt;have i:=i.ext e;have a:f.heap.size<=f.heap.size:=by omega
  have h:=e;refine TJ ?_;refine eN ((pK f B).low a) ?_;rintro v4 l ⟨g4,b⟩
  have g:=g.ext b;have h:=h.trans b;have a:f.heap.size<=l.heap.size:=Qk a b.size;obtain⟨uo,uc,rfl,o⟩:=Rd.ltl g4;refine f_ g (fun z m d=>?_);refine Tm ?_;exact bp rfl rfl m rfl ⟨(g4.st d SM).low SM,Fv h d SM⟩
structure CloD(w:World)(pt pa pb:Nat)(A B:Int):Prop where
 t:∃k c,Blk w pt 29 [.int .i64 k,.int .i64 A,.int .i64 B,.int .i64 c]
 a:Blk w pa 268 [.func (.func 173) [].toArray [.pointer (some ⟨pt,0,none⟩)].toArray]
 b:Blk w pb 268 [.func (.func 175) [].toArray [.pointer (some ⟨pt,0,none⟩)].toArray]
def CloD.ext{w':World}{A B:Int}(h:CloD w a K E A B)(b:Ext w w'):CloD w' a K E A B:=by
 obtain⟨⟨k,c,h1⟩,h2,h3⟩:=h;exact⟨⟨k,c,h1.ext b⟩,h2.ext b,h3.ext b⟩
def CloD.runA{A B:Int}(h:CloD w a K E A B):FnV UA (.func (.func 173) [].toArray [Tg a].toArray) [] w (bW w (pJ A)):=by
 obtain⟨k,c,b⟩:=h.t;refine FnV.mk (cs:=[_]) ?_;exact(lN a w (j:=0) b).1
def CloD.runB{A B:Int}(h:CloD w a K E A B):FnV UA (.func (.func 175) [].toArray [Tg a].toArray) [] w (bW w (pJ B)):=by
 obtain⟨k,c,b⟩:=h.t;refine FnV.mk (cs:=[_]) ?_;exact(lN a w (j:=0) b).2
def Fm(A B:Int):Ltl:=.mk 11 0 [.mk 6 0 [.mk 4 0 [pJ A],.mk 10 0 [pJ B]]]
def En(A B:Int):Ltl:=.mk 6 0 [.mk 8 0 [.mk 4 0 [pJ B],pJ A],.mk 11 0 [.mk 4 0 [pJ B]]]
def lL(w:World){A B:Int}(d:CloD w a K E A B):Rt UA 176 [Tg K,Tg E].toArray w (bW w (Fm A B)):=by
 have G:=d.a.lt;have hlb:=d.b.lt;refine dV Tryz.func176 Tryz.ntmps176 rfl rfl ?_;refine T9 ?_;refine eF (fun c e j=>?_);have F:=e.lt;have d:=d.ext j;have n:=d.a;have m:=d.b;have ed:=Ext.drew c;have d:=d.ext ed;have e:=e.ext ed;have r:=e.lt;have n:=n.ext ed;have halt:=n.lt;have m:=m.ext ed;have i:=m.lt;have L:=j.trans ed;have J:∀x,(fun x:World=>SO w.heap.size (drew c) x) x->x.heap[K]?=(drew c).heap[K]?:=fun x l=>l.2 _ SM halt
 have I:∀x,(fun x:World=>SO w.heap.size (drew c) x) x->x.heap[E]?=(drew c).heap[E]?:=fun x l=>l.2 _ SM i
 refine T2 ?_;refine aG (fun x:World=>SO w.heap.size (drew c) x) [(0,true),(3,true),(1,false),(2,false),(4,false),(5,false),(6,false),(7,false),(8,false)] mixed SN (SO.refl _ _) ?_;have o:c.heap.size<=(drew c).heap.size:=by have:=ed.size;omega
 have g:∀{y:World},Ext (drew c) y->c.heap.size<=y.heap.size:=fun h=>Qk o h.size
 have b:=Ext.refl (drew c);refine Ur ?_;refine cd (xs:=[]) (vs:=[]) rfl rfl rfl rfl rfl ((d.ext b).runA.low (g b)) b (fun v4 v g4 S b=>?_);refine cb (m5 v (g b) g4) b (fun v5 U g5 R b=>?_);refine cd (xs:=[]) (vs:=[]) rfl rfl rfl rfl rfl ((d.ext b).runB.low (g b)) b (fun W u O q b=>?_);have g5:=g5.ext q;refine cb (nh u (g b) O) b (fun V t N p b=>?_);have g5:=g5.ext p;refine cb (m_ t (g b) g5 N) b (fun v9 s M Q b=>?_);refine cb (mU s (g b) M) b (fun C T k P b=>?_);obtain⟨uo,uc,rfl,H⟩:=Rd.ltl k;have e:=e.ext b;refine cD rfl (f_ e (fun z D f=>?_));refine WL.nil (bf (((SO.refl _ _).ext b).st f) (HL.nil ?_));refine TV ?_;exact bp rfl rfl D rfl ⟨(k.st f SM).low SM,Fv (L.trans b) f SM⟩
def lM(w:World){A B:Int}(d:CloD w a K E A B):Rt UA 181 [Tg E,Tg K].toArray w (bW w (En A B)):=by
 have R:=d.a.lt;have hlb:=d.b.lt;refine dV Tryz.func181 Tryz.ntmps181 rfl rfl ?_;refine T9 ?_;refine eF (fun c f k=>?_);have Q:=f.lt;have d:=d.ext k;have o:=d.a;have n:=d.b;have ed:=Ext.drew c;have d:=d.ext ed;have f:=f.ext ed;have D:=f.lt;have o:=o.ext ed;have halt:=o.lt;have n:=n.ext ed;have j:=n.lt;have V:=k.trans ed;have U:∀x,(fun x:World=>SO w.heap.size (drew c) x) x->x.heap[K]?=(drew c).heap[K]?:=fun x m=>m.2 _ SM halt
 have T:∀x,(fun x:World=>SO w.heap.size (drew c) x) x->x.heap[E]?=(drew c).heap[E]?:=fun x m=>m.2 _ SM j
 refine T2 ?_;refine aG (fun x:World=>SO w.heap.size (drew c) x) [(0,true),(3,true),(6,true),(1,false),(2,false),(4,false),(5,false),(7,false),(8,false),(9,false),(10,false),(11,false)] mixed SN (SO.refl _ _) ?_;have p:c.heap.size<=(drew c).heap.size:=by have:=ed.size;omega
 have e:∀{y:World},Ext (drew c) y->c.heap.size<=y.heap.size:=fun h=>Qk p h.size
 have b:=Ext.refl (drew c);refine Ur ?_;refine cd (xs:=[]) (vs:=[]) rfl rfl rfl rfl rfl ((d.ext b).runB.low (e b)) b (fun v4 J g4 ey1 b=>?_);refine cb (m5 J (e b) g4) b (fun v5 y2 g5 Z b=>?_);refine cd (xs:=[]) (vs:=[]) rfl rfl rfl rfl rfl ((d.ext b).runA.low (e b)) b (fun v7 I W C b=>?_);have g5:=g5.ext C;refine cb (nk I (e b) 8 g5 W) b (fun v8 y4 i Y b=>?_);refine cd (xs:=[]) (vs:=[]) rfl rfl rfl rfl rfl ((d.ext b).runB.low (e b)) b (fun O H s v b=>?_);have i:=i.ext v;refine cb (m5 H (e b) s) b (fun N G r u b=>?_);have i:=i.ext u;refine cb (mU G (e b) r) b (fun M F q t b=>?_);have i:=i.ext t;refine cb (m_ F (e b) i q) b (fun L y8 l X b=>?_);obtain⟨uo,uc,rfl,S⟩:=Rd.ltl l;have f:=f.ext b;refine cD rfl (f_ f (fun z P g=>?_));refine WL.nil (bf (((SO.refl _ _).ext b).st g) (HL.nil ?_));refine TV ?_;exact bp rfl rfl P rfl ⟨(l.st g SM).low SM,Fv (V.trans b) g SM⟩
def nA(k A B c:Int):Ltl:=
 if k=1 then A0 A (c.toNat -1)
 else if k=2 then .mk 4 0 [A0 A (c.toNat -1)]
 else if k=3 then .mk 5 0 [A0 A (c.toNat -1),.mk 4 0 [A0 A c.toNat]]
 else if k=4 then(Ltl.mk 6 0 [(Ltl.mk 8 0 [(Ltl.mk 3 63 []),(pJ A)]),(Ltl.mk 11 0 [(Ltl.mk 3 63 [])])])
 else if k=5 then(Ltl.mk 6 0 [(Ltl.mk 10 0 [(pJ A)]),(Ltl.mk 10 0 [(pJ B)])])
 else if k=6 then(Ltl.mk 6 0 [(Ltl.mk 4 0 [(Ltl.mk 10 0 [(pJ A)])]),(Ltl.mk 10 0 [(pJ B)])])
 else if k=7 then(Ltl.mk 5 0 [(Ltl.mk 6 0 [(Ltl.mk 4 0 [(Ltl.mk 10 0 [(pJ A)])]),(Ltl.mk 10 0 [(pJ B)])]),(Ltl.mk 6 0 [(Ltl.mk 4 0 [(Ltl.mk 10 0 [(pJ B)])]),(Ltl.mk 10 0 [(pJ A)])])])
 else if k=13 then(Ltl.mk 4 0 [(Ltl.mk 5 0 [(Ltl.mk 10 0 [(pJ A)]),(Ltl.mk 10 0 [(pJ B)])])])
 else if k=8 then(Fm A B)
 else if k=9 then(En A B)
 else if k=10 then(Ltl.mk 5 0 [(Fm A B),(En A B)])
 else if k=11 then(Ltl.mk 11 0 [(Ltl.mk 6 0 [(Ltl.mk 4 0 [(pJ A)]),(Ltl.mk 7 0 [(Ltl.mk 8 0 [(Ltl.mk 4 0 [(pJ A)]),(pJ B)])])])])
 else if k=12 then(Ltl.mk 11 0 [(Ltl.mk 6 0 [(Ltl.mk 4 0 [(pJ A)]),(Ltl.mk 7 0 [(Ltl.mk 8 0 [(Ltl.mk 3 63 []),(pJ B)])])])])
 else(Ltl.mk 11 0 [(Ltl.mk 6 0 [(Ltl.mk 4 0 [(pJ A)]),(Ltl.mk 4 0 [(Ltl.mk 7 0 [(Ltl.mk 10 0 [(pJ B)])])])])])
def mQ(w:World)(k A B c:Int)(hc:1<=k/\k<=3->1<=c/\c<=3):Rt UA 107 [.agg [Te k,Te A,Te B,Te c].toArray].toArray w (bW w (nA k A B c)):=by
 refine dU Tryz.func107 Tryz.ntmps107 rfl rfl ?_;refine T9 ?_;refine eJ fun u p hE1=>?_
 have hl0:=p.lt;refine eF (fun N g W=>?_);have hl1:=g.lt;have p:=p.ext W;have W:=hE1.trans W;have hz1:=hE1.size;refine Tu ?_;refine eF (fun w3 q hE3=>?_);refine f_ q (fun M q hg4=>?_);have e4:Ext N M:=hE3.grown hg4 hE3.size SZ;have hl2:=q.lt;have p:=p.ext e4;have g:=g.ext e4;have hE4:=W.trans e4;refine Tu ?_;refine eF (fun w5 r hE5=>?_);refine f_ r (fun b r hg6=>?_);have e6:Ext M b:=hE5.grown hg6 hE5.size SZ;have hl4:=r.lt;have p:=p.ext e6;have g:=g.ext e6;have q:=q.ext e6;have D:=hE4.trans e6;have hz2:=W.size;have hz4:=e4.size;have hz6:=e6.size;have j:CloD b w.heap.size N.heap.size M.heap.size A B:=⟨⟨k,c,p⟩,q,r⟩;clear hE1 W hE3 hE4 hE5 hg4 hg6 e4 e6;unfold nA;by_cases h1:k=1
 ·subst h1
  obtain⟨c',rfl⟩:∃c':Nat,c=((c'+1:Nat):Int):=⟨(c -1).toNat,by omega⟩;have hc':c'<=2:=by omega
  rw[show(((c'+1:Nat):Int)).toNat -1=c' by omega];refine TX ?_;have f:b.heap.size<=b.heap.size:=by omega
  have t:=D;refine eN ((A4 A c' SM b).low f) ?_;rintro v19 H ⟨g19,e⟩
  have j:=j.ext e;have g:=g.ext e;have p:=p.ext e;have q:=q.ext e;have r:=r.ext e;have t:=t.trans e;have f:b.heap.size<=H.heap.size:=Qk f e.size;obtain⟨uo,uc,rfl,J⟩:=Rd.ltl g19;refine f_ g (fun z I d=>?_);refine T5 ?_;exact bp rfl rfl I rfl ⟨(g19.st d SM).low SM,Fv t d SM⟩
 by_cases h2:k=2
 ·subst h2
  obtain⟨c',rfl⟩:∃c':Nat,c=((c'+1:Nat):Int):=⟨(c -1).toNat,by omega⟩;have hc':c'<=2:=by omega
  rw[show(((c'+1:Nat):Int)).toNat -1=c' by omega];refine TX ?_;have f:b.heap.size<=b.heap.size:=by omega
  have t:=D;refine eN ((A4 A c' SM b).low f) ?_;rintro v26 H ⟨g26,e⟩
  have j:=j.ext e;have g:=g.ext e;have p:=p.ext e;have q:=q.ext e;have r:=r.ext e;have t:=t.trans e;have f:b.heap.size<=H.heap.size:=Qk f e.size;refine eN (m5 H f g26) ?_;rintro v27 P ⟨g27,l⟩
  have j:=j.ext l;have g:=g.ext l;have p:=p.ext l;have q:=q.ext l;have r:=r.ext l;have t:=t.trans l;have f:b.heap.size<=P.heap.size:=Qk f l.size;obtain⟨uo,uc,rfl,J⟩:=Rd.ltl g27;refine f_ g (fun z I d=>?_);refine T5 ?_;exact bp rfl rfl I rfl ⟨(g27.st d SM).low SM,Fv t d SM⟩
 by_cases h3:k=3
 ·subst h3
  obtain⟨c',rfl⟩:∃c':Nat,c=((c'+1:Nat):Int):=⟨(c -1).toNat,by omega⟩;have hc':c'<=2:=by omega
  rw[show(((c'+1:Nat):Int)).toNat -1=c' by omega];rw[show(((c'+1:Nat):Int)).toNat=c'+1 by omega];refine TX ?_;have ed:=Ext.drew b;have j:=j.ext ed;have g:=g.ext ed;have L:=g.lt;have p:=p.ext ed;have n:=p.lt;have q:=q.ext ed;have halt:=q.lt;have r:=r.ext ed;have o:=r.lt;have t:=D.trans ed;have Q:∀x,(fun x:World=>SO u.heap.size (drew b) x) x->x.heap[w.heap.size]?=(drew b).heap[w.heap.size]?:=fun x m=>m.2 _ SM n
  have S:∀x,(fun x:World=>SO u.heap.size (drew b) x) x->x.heap[N.heap.size]?=(drew b).heap[N.heap.size]?:=fun x m=>m.2 _ SM halt
  have R:∀x,(fun x:World=>SO u.heap.size (drew b) x) x->x.heap[M.heap.size]?=(drew b).heap[M.heap.size]?:=fun x m=>m.2 _ SM o
  refine aG (fun x:World=>SO u.heap.size (drew b) x) [(0,true),(1,true),(2,true),(3,true),(5,true),(6,true),(7,true),(8,true),(9,true),(4,false),(10,false),(11,false),(12,false),(13,false)] mixed SN (SO.refl _ _) ?_;have f:b.heap.size<=(drew b).heap.size:=by have:=ed.size;omega
  have i:∀{y:World},Ext (drew b) y->b.heap.size<=y.heap.size:=fun h=>Qk f h.size
  have a:=Ext.refl (drew b);refine Ur ?_;refine cb ((A4 A c' SM (drew b)).low (i a)) a (fun v34 H g34 e a=>?_);refine cb ((A4 A (c'+1) SM H).low (i a)) a (fun v40 P g40 l a=>?_);have g34:=g34.ext l;refine cb (m5 P (i a) g40) a (fun v41 T g41 s a=>?_);have g34:=g34.ext s;refine cb (mX T (i a) g34 g41) a (fun v42 U g42 C a=>?_);obtain⟨uo,uc,rfl,J⟩:=Rd.ltl g42;have g:=g.ext a;refine cD rfl (f_ g (fun z I d=>?_));refine WL.nil (bf (((SO.refl _ _).ext a).st d) (HL.nil ?_));refine Tp ?_;exact bp rfl rfl I rfl ⟨(g42.st d SM).low SM,Fv (t.trans a) d SM⟩
 by_cases h4:k=4
 ·subst h4
  refine TX ?_;have ed:=Ext.drew b;have j:=j.ext ed;have g:=g.ext ed;have L:=g.lt;have p:=p.ext ed;have n:=p.lt;have q:=q.ext ed;have halt:=q.lt;have r:=r.ext ed;have o:=r.lt;have t:=D.trans ed;have Q:∀x,(fun x:World=>SO u.heap.size (drew b) x) x->x.heap[w.heap.size]?=(drew b).heap[w.heap.size]?:=fun x m=>m.2 _ SM n
  have S:∀x,(fun x:World=>SO u.heap.size (drew b) x) x->x.heap[N.heap.size]?=(drew b).heap[N.heap.size]?:=fun x m=>m.2 _ SM halt
  have R:∀x,(fun x:World=>SO u.heap.size (drew b) x) x->x.heap[M.heap.size]?=(drew b).heap[M.heap.size]?:=fun x m=>m.2 _ SM o
  refine aG (fun x:World=>SO u.heap.size (drew b) x) [(1,true),(0,false),(2,false),(3,false),(4,false),(5,false),(6,false),(7,false)] mixed SN (SO.refl _ _) ?_;have f:b.heap.size<=(drew b).heap.size:=by have:=ed.size;omega
  have i:∀{y:World},Ext (drew b) y->b.heap.size<=y.heap.size:=fun h=>Qk f h.size
  have a:=Ext.refl (drew b);refine Ur ?_;refine cb (mY (drew b) b.heap.size 63) a (fun v45 H g45 e a=>?_);refine cd (xs:=[]) (vs:=[]) rfl rfl rfl rfl rfl ((j.ext a).runA.low (i a)) a (fun v47 P g47 l a=>?_);have g45:=g45.ext l;refine cb (nk P (i a) 8 g45 g47) a (fun v48 T g48 s a=>?_);refine cb (mY T b.heap.size 63) a (fun v49 U g49 C a=>?_);have g48:=g48.ext C;refine cb (mU U (i a) g49) a (fun v50 V g50 G a=>?_);have g48:=g48.ext G;refine cb (m_ V (i a) g48 g50) a (fun v51 y6 g51 O a=>?_);obtain⟨uo,uc,rfl,J⟩:=Rd.ltl g51;have g:=g.ext a;refine cD rfl (f_ g (fun z I d=>?_));refine WL.nil (bf (((SO.refl _ _).ext a).st d) (HL.nil ?_));refine Tp ?_;exact bp rfl rfl I rfl ⟨(g51.st d SM).low SM,Fv (t.trans a) d SM⟩
 by_cases h5:k=5
 ·subst h5
  refine TX ?_;have ed:=Ext.drew b;have j:=j.ext ed;have g:=g.ext ed;have L:=g.lt;have p:=p.ext ed;have n:=p.lt;have q:=q.ext ed;have halt:=q.lt;have r:=r.ext ed;have o:=r.lt;have t:=D.trans ed;have Q:∀x,(fun x:World=>SO u.heap.size (drew b) x) x->x.heap[w.heap.size]?=(drew b).heap[w.heap.size]?:=fun x m=>m.2 _ SM n
  have S:∀x,(fun x:World=>SO u.heap.size (drew b) x) x->x.heap[N.heap.size]?=(drew b).heap[N.heap.size]?:=fun x m=>m.2 _ SM halt
  have R:∀x,(fun x:World=>SO u.heap.size (drew b) x) x->x.heap[M.heap.size]?=(drew b).heap[M.heap.size]?:=fun x m=>m.2 _ SM o
  refine aG (fun x:World=>SO u.heap.size (drew b) x) [(0,true),(3,true),(1,false),(2,false),(4,false),(5,false),(6,false),(7,false)] mixed SN (SO.refl _ _) ?_;have f:b.heap.size<=(drew b).heap.size:=by have:=ed.size;omega
  have i:∀{y:World},Ext (drew b) y->b.heap.size<=y.heap.size:=fun h=>Qk f h.size
  have a:=Ext.refl (drew b);refine Ur ?_;refine cd (xs:=[]) (vs:=[]) rfl rfl rfl rfl rfl ((j.ext a).runA.low (i a)) a (fun v55 H g55 e a=>?_);refine cb (nh H (i a) g55) a (fun v56 P g56 l a=>?_);refine cd (xs:=[]) (vs:=[]) rfl rfl rfl rfl rfl ((j.ext a).runB.low (i a)) a (fun v58 T g58 s a=>?_);have g56:=g56.ext s;refine cb (nh T (i a) g58) a (fun v59 U g59 C a=>?_);have g56:=g56.ext C;refine cb (m_ U (i a) g56 g59) a (fun v60 V g60 G a=>?_);obtain⟨uo,uc,rfl,J⟩:=Rd.ltl g60;have g:=g.ext a;refine cD rfl (f_ g (fun z I d=>?_));refine WL.nil (bf (((SO.refl _ _).ext a).st d) (HL.nil ?_));refine Tp ?_;exact bp rfl rfl I rfl ⟨(g60.st d SM).low SM,Fv (t.trans a) d SM⟩
 by_cases h6:k=6
 ·subst h6
  refine TX ?_;have ed:=Ext.drew b;have j:=j.ext ed;have g:=g.ext ed;have L:=g.lt;have p:=p.ext ed;have n:=p.lt;have q:=q.ext ed;have halt:=q.lt;have r:=r.ext ed;have o:=r.lt;have t:=D.trans ed;have Q:∀x,(fun x:World=>SO u.heap.size (drew b) x) x->x.heap[w.heap.size]?=(drew b).heap[w.heap.size]?:=fun x m=>m.2 _ SM n
  have S:∀x,(fun x:World=>SO u.heap.size (drew b) x) x->x.heap[N.heap.size]?=(drew b).heap[N.heap.size]?:=fun x m=>m.2 _ SM halt
  have R:∀x,(fun x:World=>SO u.heap.size (drew b) x) x->x.heap[M.heap.size]?=(drew b).heap[M.heap.size]?:=fun x m=>m.2 _ SM o
  refine aG (fun x:World=>SO u.heap.size (drew b) x) [(0,true),(4,true),(1,false),(2,false),(3,false),(5,false),(6,false),(7,false),(8,false)] mixed SN (SO.refl _ _) ?_;have f:b.heap.size<=(drew b).heap.size:=by have:=ed.size;omega
  have i:∀{y:World},Ext (drew b) y->b.heap.size<=y.heap.size:=fun h=>Qk f h.size
  have a:=Ext.refl (drew b);refine Ur ?_;refine cd (xs:=[]) (vs:=[]) rfl rfl rfl rfl rfl ((j.ext a).runA.low (i a)) a (fun v64 H g64 e a=>?_);refine cb (nh H (i a) g64) a (fun v65 P g65 l a=>?_);refine cb (m5 P (i a) g65) a (fun v66 T g66 s a=>?_);refine cd (xs:=[]) (vs:=[]) rfl rfl rfl rfl rfl ((j.ext a).runB.low (i a)) a (fun v68 U g68 C a=>?_);have g66:=g66.ext C;refine cb (nh U (i a) g68) a (fun v69 V g69 G a=>?_);have g66:=g66.ext G;refine cb (m_ V (i a) g66 g69) a (fun v70 y6 g70 O a=>?_);obtain⟨uo,uc,rfl,J⟩:=Rd.ltl g70;have g:=g.ext a;refine cD rfl (f_ g (fun z I d=>?_));refine WL.nil (bf (((SO.refl _ _).ext a).st d) (HL.nil ?_));refine Tp ?_;exact bp rfl rfl I rfl ⟨(g70.st d SM).low SM,Fv (t.trans a) d SM⟩
 by_cases h7:k=7
 ·subst h7
  refine TX ?_;have ed:=Ext.drew b;have j:=j.ext ed;have g:=g.ext ed;have L:=g.lt;have p:=p.ext ed;have n:=p.lt;have q:=q.ext ed;have halt:=q.lt;have r:=r.ext ed;have o:=r.lt;have t:=D.trans ed;have Q:∀x,(fun x:World=>SO u.heap.size (drew b) x) x->x.heap[w.heap.size]?=(drew b).heap[w.heap.size]?:=fun x m=>m.2 _ SM n
  have S:∀x,(fun x:World=>SO u.heap.size (drew b) x) x->x.heap[N.heap.size]?=(drew b).heap[N.heap.size]?:=fun x m=>m.2 _ SM halt
  have R:∀x,(fun x:World=>SO u.heap.size (drew b) x) x->x.heap[M.heap.size]?=(drew b).heap[M.heap.size]?:=fun x m=>m.2 _ SM o
  refine aG (fun x:World=>SO u.heap.size (drew b) x) [(0,true),(4,true),(8,true),(12,true),(1,false),(2,false),(3,false),(5,false),(6,false),(7,false),(9,false),(10,false),(11,false),(13,false),(14,false),(15,false),(16,false),(17,false)] mixed SN (SO.refl _ _) ?_;have f:b.heap.size<=(drew b).heap.size:=by have:=ed.size;omega
  have i:∀{y:World},Ext (drew b) y->b.heap.size<=y.heap.size:=fun h=>Qk f h.size
  have a:=Ext.refl (drew b);refine Ur ?_;refine cd (xs:=[]) (vs:=[]) rfl rfl rfl rfl rfl ((j.ext a).runA.low (i a)) a (fun v74 H g74 e a=>?_);refine cb (nh H (i a) g74) a (fun v75 P g75 l a=>?_);refine cb (m5 P (i a) g75) a (fun v76 T Z s a=>?_);refine cd (xs:=[]) (vs:=[]) rfl rfl rfl rfl rfl ((j.ext a).runB.low (i a)) a (fun v78 U g78 C a=>?_);have Z:=Z.ext C;refine cb (nh U (i a) g78) a (fun v79 V g79 G a=>?_);have Z:=Z.ext G;refine cb (m_ V (i a) Z g79) a (fun v80 y6 K O a=>?_);refine cd (xs:=[]) (vs:=[]) rfl rfl rfl rfl rfl ((j.ext a).runB.low (i a)) a (fun v82 y7 g82 ey7 a=>?_);have K:=K.ext ey7;refine cb (nh y7 (i a) g82) a (fun v83 y8 g83 ey8 a=>?_);have K:=K.ext ey8;refine cb (m5 y8 (i a) g83) a (fun v84 y9 Y ey9 a=>?_);have K:=K.ext ey9;refine cd (xs:=[]) (vs:=[]) rfl rfl rfl rfl rfl ((j.ext a).runA.low (i a)) a (fun v86 y10 g86 ey10 a=>?_);have K:=K.ext ey10;have Y:=Y.ext ey10;refine cb (nh y10 (i a) g86) a (fun v87 y11 g87 ey11 a=>?_);have K:=K.ext ey11;have Y:=Y.ext ey11;refine cb (m_ y11 (i a) Y g87) a (fun v88 y12 g88 ey12 a=>?_);have K:=K.ext ey12;refine cb (mX y12 (i a) K g88) a (fun v89 y13 g89 ey13 a=>?_);obtain⟨uo,uc,rfl,J⟩:=Rd.ltl g89;have g:=g.ext a;refine cD rfl (f_ g (fun z I d=>?_));refine WL.nil (bf (((SO.refl _ _).ext a).st d) (HL.nil ?_));refine Tp ?_;exact bp rfl rfl I rfl ⟨(g89.st d SM).low SM,Fv (t.trans a) d SM⟩
 by_cases h13:k=13
 ·subst h13
  refine TX ?_;have ed:=Ext.drew b;have j:=j.ext ed;have g:=g.ext ed;have L:=g.lt;have p:=p.ext ed;have n:=p.lt;have q:=q.ext ed;have halt:=q.lt;have r:=r.ext ed;have o:=r.lt;have t:=D.trans ed;have Q:∀x,(fun x:World=>SO u.heap.size (drew b) x) x->x.heap[w.heap.size]?=(drew b).heap[w.heap.size]?:=fun x m=>m.2 _ SM n
  have S:∀x,(fun x:World=>SO u.heap.size (drew b) x) x->x.heap[N.heap.size]?=(drew b).heap[N.heap.size]?:=fun x m=>m.2 _ SM halt
  have R:∀x,(fun x:World=>SO u.heap.size (drew b) x) x->x.heap[M.heap.size]?=(drew b).heap[M.heap.size]?:=fun x m=>m.2 _ SM o
  refine aG (fun x:World=>SO u.heap.size (drew b) x) [(0,true),(3,true),(1,false),(2,false),(4,false),(5,false),(6,false),(7,false),(8,false)] mixed SN (SO.refl _ _) ?_;have f:b.heap.size<=(drew b).heap.size:=by have:=ed.size;omega
  have i:∀{y:World},Ext (drew b) y->b.heap.size<=y.heap.size:=fun h=>Qk f h.size
  have a:=Ext.refl (drew b);refine Ur ?_;refine cd (xs:=[]) (vs:=[]) rfl rfl rfl rfl rfl ((j.ext a).runA.low (i a)) a (fun v93 H g93 e a=>?_);refine cb (nh H (i a) g93) a (fun v94 P X l a=>?_);refine cd (xs:=[]) (vs:=[]) rfl rfl rfl rfl rfl ((j.ext a).runB.low (i a)) a (fun v96 T g96 s a=>?_);have X:=X.ext s;refine cb (nh T (i a) g96) a (fun v97 U g97 C a=>?_);have X:=X.ext C;refine cb (mX U (i a) X g97) a (fun v98 V g98 G a=>?_);refine cb (m5 V (i a) g98) a (fun v99 y6 g99 O a=>?_);obtain⟨uo,uc,rfl,J⟩:=Rd.ltl g99;have g:=g.ext a;refine cD rfl (f_ g (fun z I d=>?_));refine WL.nil (bf (((SO.refl _ _).ext a).st d) (HL.nil ?_));refine Tp ?_;exact bp rfl rfl I rfl ⟨(g99.st d SM).low SM,Fv (t.trans a) d SM⟩
 by_cases h8:k=8
 ·subst h8
  refine TX ?_;have f:b.heap.size<=b.heap.size:=by omega
  have t:=D;refine eO (xs:=[]) (vs:=[]) rfl rfl rfl rfl (FnV.low (FnV.mk (cs:=[_,_]) (lL b j)) f) ?_;rintro v103 H ⟨g103,e⟩
  have j:=j.ext e;have g:=g.ext e;have p:=p.ext e;have q:=q.ext e;have r:=r.ext e;have t:=t.trans e;have f:b.heap.size<=H.heap.size:=Qk f e.size;obtain⟨uo,uc,rfl,J⟩:=Rd.ltl g103;refine f_ g (fun z I d=>?_);refine T5 ?_;exact bp rfl rfl I rfl ⟨(g103.st d SM).low SM,Fv t d SM⟩
 by_cases h9:k=9
 ·subst h9
  refine TX ?_;have f:b.heap.size<=b.heap.size:=by omega
  have t:=D;refine eO (xs:=[]) (vs:=[]) rfl rfl rfl rfl (FnV.low (FnV.mk (cs:=[_,_]) (lM b j)) f) ?_;rintro v107 H ⟨g107,e⟩
  have j:=j.ext e;have g:=g.ext e;have p:=p.ext e;have q:=q.ext e;have r:=r.ext e;have t:=t.trans e;have f:b.heap.size<=H.heap.size:=Qk f e.size;obtain⟨uo,uc,rfl,J⟩:=Rd.ltl g107;refine f_ g (fun z I d=>?_);refine T5 ?_;exact bp rfl rfl I rfl ⟨(g107.st d SM).low SM,Fv t d SM⟩
 by_cases h10:k=10
 ·subst h10
  refine TX ?_;have f:b.heap.size<=b.heap.size:=by omega
  have t:=D;refine eO (xs:=[]) (vs:=[]) rfl rfl rfl rfl (FnV.low (FnV.mk (cs:=[_,_]) (lL b j)) f) ?_;rintro v111 H ⟨g111,e⟩
  have j:=j.ext e;have g:=g.ext e;have p:=p.ext e;have q:=q.ext e;have r:=r.ext e;have t:=t.trans e;have f:b.heap.size<=H.heap.size:=Qk f e.size;refine Ue ?_;refine eO (xs:=[]) (vs:=[]) rfl rfl rfl rfl (FnV.low (FnV.mk (cs:=[_,_]) (lM H j)) f) ?_;rintro v113 P ⟨g113,l⟩
  have j:=j.ext l;have g111:=g111.ext l;have g:=g.ext l;have p:=p.ext l;have q:=q.ext l;have r:=r.ext l;have t:=t.trans l;have f:b.heap.size<=P.heap.size:=Qk f l.size;refine eN (mX P f g111 g113) ?_;rintro v114 T ⟨g114,s⟩
  have j:=j.ext s;have g:=g.ext s;have p:=p.ext s;have q:=q.ext s;have r:=r.ext s;have t:=t.trans s;have f:b.heap.size<=T.heap.size:=Qk f s.size;obtain⟨uo,uc,rfl,J⟩:=Rd.ltl g114;refine f_ g (fun z I d=>?_);refine T5 ?_;exact bp rfl rfl I rfl ⟨(g114.st d SM).low SM,Fv t d SM⟩
 by_cases h11:k=11
 ·subst h11
  refine TX ?_;have ed:=Ext.drew b;have j:=j.ext ed;have g:=g.ext ed;have L:=g.lt;have p:=p.ext ed;have n:=p.lt;have q:=q.ext ed;have halt:=q.lt;have r:=r.ext ed;have o:=r.lt;have t:=D.trans ed;have Q:∀x,(fun x:World=>SO u.heap.size (drew b) x) x->x.heap[w.heap.size]?=(drew b).heap[w.heap.size]?:=fun x m=>m.2 _ SM n
  have S:∀x,(fun x:World=>SO u.heap.size (drew b) x) x->x.heap[N.heap.size]?=(drew b).heap[N.heap.size]?:=fun x m=>m.2 _ SM halt
  have R:∀x,(fun x:World=>SO u.heap.size (drew b) x) x->x.heap[M.heap.size]?=(drew b).heap[M.heap.size]?:=fun x m=>m.2 _ SM o
  refine aG (fun x:World=>SO u.heap.size (drew b) x) [(0,true),(3,true),(6,true),(1,false),(2,false),(4,false),(5,false),(7,false),(8,false),(9,false),(10,false),(11,false),(12,false)] mixed SN (SO.refl _ _) ?_;have f:b.heap.size<=(drew b).heap.size:=by have:=ed.size;omega
  have i:∀{y:World},Ext (drew b) y->b.heap.size<=y.heap.size:=fun h=>Qk f h.size
  have a:=Ext.refl (drew b);refine Ur ?_;refine cd (xs:=[]) (vs:=[]) rfl rfl rfl rfl rfl ((j.ext a).runA.low (i a)) a (fun v118 H g118 e a=>?_);refine cb (m5 H (i a) g118) a (fun v119 P v l a=>?_);refine cd (xs:=[]) (vs:=[]) rfl rfl rfl rfl rfl ((j.ext a).runA.low (i a)) a (fun v121 T g121 s a=>?_);have v:=v.ext s;refine cb (m5 T (i a) g121) a (fun v122 U g122 C a=>?_);have v:=v.ext C;refine cd (xs:=[]) (vs:=[]) rfl rfl rfl rfl rfl ((j.ext a).runB.low (i a)) a (fun v124 V g124 G a=>?_);have v:=v.ext G;have g122:=g122.ext G;refine cb (nk V (i a) 8 g122 g124) a (fun v125 y6 g125 O a=>?_);have v:=v.ext O;refine cb (m8 y6 (i a) 7 g125) a (fun v126 y7 g126 ey7 a=>?_);have v:=v.ext ey7;refine cb (m_ y7 (i a) v g126) a (fun v127 y8 g127 ey8 a=>?_);refine cb (mU y8 (i a) g127) a (fun v128 y9 g128 ey9 a=>?_);obtain⟨uo,uc,rfl,J⟩:=Rd.ltl g128;have g:=g.ext a;refine cD rfl (f_ g (fun z I d=>?_));refine WL.nil (bf (((SO.refl _ _).ext a).st d) (HL.nil ?_));refine Tp ?_;exact bp rfl rfl I rfl ⟨(g128.st d SM).low SM,Fv (t.trans a) d SM⟩
 by_cases h12:k=12
 ·subst h12
  refine TX ?_;have ed:=Ext.drew b;have j:=j.ext ed;have g:=g.ext ed;have L:=g.lt;have p:=p.ext ed;have n:=p.lt;have q:=q.ext ed;have halt:=q.lt;have r:=r.ext ed;have o:=r.lt;have t:=D.trans ed;have Q:∀x,(fun x:World=>SO u.heap.size (drew b) x) x->x.heap[w.heap.size]?=(drew b).heap[w.heap.size]?:=fun x m=>m.2 _ SM n
  have S:∀x,(fun x:World=>SO u.heap.size (drew b) x) x->x.heap[N.heap.size]?=(drew b).heap[N.heap.size]?:=fun x m=>m.2 _ SM halt
  have R:∀x,(fun x:World=>SO u.heap.size (drew b) x) x->x.heap[M.heap.size]?=(drew b).heap[M.heap.size]?:=fun x m=>m.2 _ SM o
  refine aG (fun x:World=>SO u.heap.size (drew b) x) [(0,true),(4,true),(1,false),(2,false),(3,false),(5,false),(6,false),(7,false),(8,false),(9,false),(10,false)] mixed SN (SO.refl _ _) ?_;have f:b.heap.size<=(drew b).heap.size:=by have:=ed.size;omega
  have i:∀{y:World},Ext (drew b) y->b.heap.size<=y.heap.size:=fun h=>Qk f h.size
  have a:=Ext.refl (drew b);refine Ur ?_;refine cd (xs:=[]) (vs:=[]) rfl rfl rfl rfl rfl ((j.ext a).runA.low (i a)) a (fun v132 H g132 e a=>?_);refine cb (m5 H (i a) g132) a (fun v133 P F l a=>?_);refine cb (mY P b.heap.size 63) a (fun v134 T g134 s a=>?_);have F:=F.ext s;refine cd (xs:=[]) (vs:=[]) rfl rfl rfl rfl rfl ((j.ext a).runB.low (i a)) a (fun v136 U g136 C a=>?_);have F:=F.ext C;have g134:=g134.ext C;refine cb (nk U (i a) 8 g134 g136) a (fun v137 V g137 G a=>?_);have F:=F.ext G;refine cb (m8 V (i a) 7 g137) a (fun v138 y6 g138 O a=>?_);have F:=F.ext O;refine cb (m_ y6 (i a) F g138) a (fun v139 y7 g139 ey7 a=>?_);refine cb (mU y7 (i a) g139) a (fun v140 y8 g140 ey8 a=>?_);obtain⟨uo,uc,rfl,J⟩:=Rd.ltl g140;have g:=g.ext a;refine cD rfl (f_ g (fun z I d=>?_));refine WL.nil (bf (((SO.refl _ _).ext a).st d) (HL.nil ?_));refine Tp ?_;exact bp rfl rfl I rfl ⟨(g140.st d SM).low SM,Fv (t.trans a) d SM⟩
 have b1:(k==1)=false:=by simpa using h1
 rw[Si h1];have b2:(k==2)=false:=by simpa using h2
 rw[Si h2];have b3:(k==3)=false:=by simpa using h3
 rw[Si h3];have b4:(k==4)=false:=by simpa using h4
 rw[Si h4];have b5:(k==5)=false:=by simpa using h5
 rw[Si h5];have b6:(k==6)=false:=by simpa using h6
 rw[Si h6];have b7:(k==7)=false:=by simpa using h7
 rw[Si h7];have b13:(k==13)=false:=by simpa using h13
 rw[Si h13];have b8:(k==8)=false:=by simpa using h8
 rw[Si h8];have b9:(k==9)=false:=by simpa using h9
 rw[Si h9];have b10:(k==10)=false:=by simpa using h10
 rw[Si h10];have b11:(k==11)=false:=by simpa using h11
 rw[Si h11];have b12:(k==12)=false:=by simpa using h12
 rw[Si h12];refine TX ?_;rw[b1];refine Tr ?_;rw[b2];refine Tr ?_;rw[b3];refine Tr ?_;rw[b4];refine Tr ?_;rw[b5];refine Tr ?_;rw[b6];refine Tr ?_;rw[b7];refine Tr ?_;rw[b13];refine Tr ?_;rw[b8];refine Tr ?_;rw[b9];refine Tr ?_;rw[b10];refine Tr ?_;rw[b11];refine Tr ?_;rw[b12];refine T3 ?_;have ed:=Ext.drew b;have j:=j.ext ed;have g:=g.ext ed;have L:=g.lt;have p:=p.ext ed;have n:=p.lt;have q:=q.ext ed;have halt:=q.lt;have r:=r.ext ed;have o:=r.lt;have t:=D.trans ed;have Q:∀x,(fun x:World=>SO u.heap.size (drew b) x) x->x.heap[w.heap.size]?=(drew b).heap[w.heap.size]?:=fun x m=>m.2 _ SM n
 have S:∀x,(fun x:World=>SO u.heap.size (drew b) x) x->x.heap[N.heap.size]?=(drew b).heap[N.heap.size]?:=fun x m=>m.2 _ SM halt
 have R:∀x,(fun x:World=>SO u.heap.size (drew b) x) x->x.heap[M.heap.size]?=(drew b).heap[M.heap.size]?:=fun x m=>m.2 _ SM o
 refine aG (fun x:World=>SO u.heap.size (drew b) x) [(0,true),(3,true),(1,false),(2,false),(4,false),(5,false),(6,false),(7,false),(8,false),(9,false),(10,false)] mixed SN (SO.refl _ _) ?_;have f:b.heap.size<=(drew b).heap.size:=by have:=ed.size;omega
 have i:∀{y:World},Ext (drew b) y->b.heap.size<=y.heap.size:=fun h=>Qk f h.size
 have a:=Ext.refl (drew b);refine Ur ?_;refine cd (xs:=[]) (vs:=[]) rfl rfl rfl rfl rfl ((j.ext a).runA.low (i a)) a (fun v142 H g142 e a=>?_);refine cb (m5 H (i a) g142) a (fun v143 P E l a=>?_);refine cd (xs:=[]) (vs:=[]) rfl rfl rfl rfl rfl ((j.ext a).runB.low (i a)) a (fun v145 T g145 s a=>?_);have E:=E.ext s;refine cb (nh T (i a) g145) a (fun v146 U g146 C a=>?_);have E:=E.ext C;refine cb (m8 U (i a) 7 g146) a (fun v147 V g147 G a=>?_);have E:=E.ext G;refine cb (m5 V (i a) g147) a (fun v148 y6 g148 O a=>?_);have E:=E.ext O;refine cb (m_ y6 (i a) E g148) a (fun v149 y7 g149 ey7 a=>?_);refine cb (mU y7 (i a) g149) a (fun v150 y8 g150 ey8 a=>?_);obtain⟨uo,uc,rfl,J⟩:=Rd.ltl g150;have g:=g.ext a;refine cD rfl (f_ g (fun z I d=>?_));refine WL.nil (bf (((SO.refl _ _).ext a).st d) (HL.nil ?_));refine TV ?_;exact bp rfl rfl I rfl ⟨(g150.st d SM).low SM,Fv (t.trans a) d SM⟩

section
variable {w w0:World}{F:Nat->Prop}{ao:Option Addr}{cap:Nat}{xs:List (Bool×Bool)}
end
section
variable {w w0:World}{F:Nat->Prop}{ao:Option Addr}{cap:Nat}{xs:List (Bool×Bool)}
end

abbrev mP(t:cW):Ltl:=nA t.1 t.2.1 t.2.2.1 t.2.2.2
def mR(t:cW):Ltl×Int:=if lh t≠0 then(.mk 0 0 [],lh t)else if(kD (mP t) 1 0).1≠0 then(.mk 0 0 [],(kD (mP t) 1 0).1)else(mP t,0)
def lj{t:cW}(a:lh t=0):1<=t.1/\t.1<=3->1<=t.2.2.2/\t.2.2.2<=3:=by
 unfold lh my at a
 split at a
 ·cases a
 ·rename_i h1
  split at a
  ·cases a
  ·rename_i h2
   simp at h1 h2
   omega
def mS(w:World)(t:cW):
  Rt UA 57 [J5 t].toArray w fun u w'=>∃x,u=.tuple ⟨[x,Te (mR t).2]⟩/\GL w.heap.size w' x (mR t).1/\Ext w w':=by
 refine dU Tryz.func57 Tryz.ntmps57 rfl rfl ?_;refine T9 ?_;refine eJ fun w1 r m=>?_
 refine eF (fun O K g=>?_);have r:=r.ext g;have l:=m.trans g;refine TN ?_;refine eN (nB O t) ?_;rintro _ N ⟨rfl,p⟩
 have W:=r.ext p;have k:=K.ext p;have f:=l.trans p;have V:=m.size;have U:=g.size;have X:=K.lt;have T:=p.size;refine T2 ?_;unfold mR;apply CW.cond rfl<;>intro h
 ·have h:lh t≠0:=by simpa using h
  rw[Sj h];refine T9 ?_;refine WL.build (parts:=[]) rfl rfl rfl rfl ?_;refine Ue ?_;refine f_ k (fun I y B=>?_);refine T5 ?_;exact bu rfl rfl rfl y rfl ⟨_,rfl,Rd.mkLtl (kids:=[]) (Sl.zero _ _),f.grown B f.size S2⟩
 ·have h:lh t=0:=by simpa using h
  rw[Si (by simp[h])];refine Tq ?_;refine eN (mQ N t.1 t.2.1 t.2.2.1 t.2.2.2 (lj h)) ?_;rintro v I ⟨J,L⟩
  have S:=L.size;refine eF (fun w5 D G=>?_);have R:=G.size;obtain⟨uo,uc,rfl,_⟩:=Rd.ltl J;refine f_ D (fun H C A=>?_);have F:Ext I H:=G.grown A G.size SZ;have i:=J.ext F;obtain⟨uo',uc',d,z⟩:=Rd.ltl i;obtain⟨rfl,rfl⟩:uo'=uo/\uc'=uc:=by
   simp[AR]at d
   exact⟨d.1.symm,d.2.symm⟩
  have o:=L.trans F;have s:=k.ext o;have E:=f.trans o;have Q:=F.size;refine TN ?_;refine eN (AP H z (fun b Z=>Z.2)) ?_;rintro _ w7 ⟨rfl,n⟩
  have j:=s.ext n;have Y:=C.ext n;have c:=E.trans n;have q:=i.ext n;have P:=n.size;refine T2 ?_;apply CW.cond rfl<;>intro h2
  ·have h2:(kD (mP t) 1 0).1≠0:=by simpa using h2
   rw[Sj h2];refine T9 ?_;refine WL.build (parts:=[]) rfl rfl rfl rfl ?_;refine Ue ?_;refine f_ j (fun M e a=>?_);refine T5 ?_;exact bu rfl rfl rfl e rfl ⟨_,rfl,Rd.mkLtl (kids:=[]) (Sl.zero _ _),c.grown a c.size S2⟩
  ·have h2:(kD (mP t) 1 0).1=0:=by simpa using h2
   rw[Si (by simp[h2])];refine Tq ?_;refine f_ j (fun M e a=>?_);refine Tk ?_;exact bu rfl rfl rfl e rfl ⟨_,rfl,(q.st a SM).low SM,c.grown a c.size S2⟩
def rP(r:cS):Ltl×Int:=
 if r.2.1=1 then nL r.2.2.1 else if r.2.1=2 then mR r.2.2.2.1
 else if r.2.1=3 then(if(kD r.2.2.2.2.1 1 0).1≠0 then(.mk 0 0 [],(kD r.2.2.2.2.1 1 0).1)else(r.2.2.2.2.1,0))else(.mk 0 0 [],1)
structure Wlk(E:Nat->Nat->Prop)(p:Nat->Nat)(n a b:Nat):Prop where
 first:p 0=a
 last:p n=b
 step:∀i,i<n->E (p i) (p (i+1))
def tH(p q:Nat->Nat)(n:Nat):Nat->Nat:=fun i=>if i<n then p i else q (i -n)
def tK{q:Nat->Nat}{n i:Nat}(h:i<n):tH p q n i=p i:=by unfold tH;rw[Sj h]
def tI{q:Nat->Nat}{n i:Nat}(h:n<=i):tH p q n i=q (i -n):=by unfold tH;rw[Si SM]
def tJ{q:Nat->Nat}{n i:Nat}(h:i<=n)(a:p n=q 0):tH p q n i=p i:=by
 by_cases hi:i<n
 ·exact tK hi
 ·obtain rfl:i=n:=by omega
  rw[tI Ta,QF,a]
def Wlk.trans{q:Nat->Nat}{n m b c:Nat}(h:Wlk e p n a b)(k:Wlk e q m b c):Wlk e (tH p q n) (n+m) a c:=by
 have d:p n=q 0:=h.last.trans k.first.symm;refine⟨(tJ (QK _) d).trans h.first,?_,fun i hi=>?_⟩
 ·rw[tI SM,show n+m -n=m by omega];exact k.last
 ·by_cases hn:i<n
  ·rw[tK hn,tJ (i:=i+1) (QG hn) d];exact h.step i hn
  ·rw[tI SM,tI SM,show i+1 -n=(i -n)+1 by omega]
   exact k.step _ SM
def Rc(E:Nat->Nat->Prop)(a b:Nat):Prop:=∃p n,Wlk E p n a b
def Rc.refl(a:Nat):Rc e a a:=⟨fun _=>a,0,rfl,rfl,fun i h=>absurd h SM⟩
def Rc.trans{b c:Nat}:Rc e a b->Rc e b c->Rc e a c
 |⟨_,_,h⟩,⟨_,_,k⟩=>⟨_,_,h.trans k⟩
def Wlk.one{b:Nat}(h:e a b):Wlk e (fun i=>if i=0 then a else b) 1 a b:=
 ⟨rfl,rfl,fun i hi=>by obtain rfl:i=0:=by omega
                       exact h⟩
def Rc.one{b:Nat}(h:e a b):Rc e a b:=⟨_,_,Wlk.one h⟩
def Rc.of_way{r:Nat->Nat}(h:∀i,e (r i) (r (i+1))){i j:Nat}(a:i<=j):Rc e (r i) (r j):=
 ⟨fun k=>r (i+k),j -i,by simp,by rw[show i+(j -i)=j by omega],fun k _=>by
  have:=h (i+k);rwa[show i+k+1=i+(k+1) by omega]at this⟩
def yz:∀(N:Nat) (r:Nat->Nat),(∀i,r i<N)->∃v,v<N/\∀i,∃j,i<=j/\r j=v
 |0,r,h=>absurd (h 0) SM
 |N+1,r,h=>by
  by_cases f:∀i,∃j,i<=j/\r j=N
  ·exact⟨N,by omega,f⟩
  ·obtain⟨c,o⟩:=Nk.1 f
   have h1:∀j,c<=j->r j≠N:=fun j m n=>o ⟨j,m,n⟩
   obtain⟨v,g,d⟩:=yz N (fun k=>r (c+k)) (fun k=>by
    have a:=h (c+k);have b:=h1 (c+k) SM;omega)
   refine⟨v,by omega,fun i=>?_⟩;obtain⟨j,l,e⟩:=d i;exact⟨c+j,by omega,e⟩
def AK{E:Nat->Nat->Prop}{v u:Nat}(e:E v u)(g:Rc E u v):∀Ps:List (Nat->Prop),(∀P∈Ps,∃x,P x/\Rc E v x/\Rc E x v)->
  ∃p n,0<n/\Wlk E p n v v/\∀P∈Ps,∃i,i<n/\P (p i)
 |[],_=>by
  obtain⟨q,m,hq⟩:=g;exact⟨_,_,by omega,(Wlk.one e).trans hq,fun P hP=>by cases hP⟩
 |P::Ps,h=>by
  obtain⟨p,n,hn,f,a⟩:=AK e g Ps (fun Q hQ=>h Q (by simp[hQ]));obtain⟨x,d,⟨k,n1,h1⟩,⟨j,c,h2⟩⟩:=h P SQ;refine⟨tH p (tH k j n1) n,n+(n1+c),by omega,f.trans (h1.trans h2),fun Q hQ=>?_⟩;rcases Pk.1 hQ with rfl|hQ
  ·by_cases l:c=0
   ·subst l
    have b:x=v:=h2.first.symm.trans h2.last;exact⟨0,by omega,by rw[tK hn,f.first,<-b];exact d⟩
   ·refine⟨n+n1,by omega,?_⟩
    rw[tI SM,show n+n1 -n=n1 by omega,tI Ta,QF,h2.first];exact d
  ·obtain⟨i,hi,hq⟩:=a Q hQ
   exact⟨i,by omega,by rw[tK hi];exact hq⟩
def Way8(E:Nat->Nat->Prop)(Ps:List (Nat->Prop))(r:Nat->Nat):Prop:=(∀i,E (r i) (r (i+1)))/\∀P∈Ps,∀i,∃j,i<=j/\P (r j)
def aO(E:Nat->Nat->Prop)(Ps:List (Nat->Prop))(v:Nat):Prop:=(∃u,E v u/\Rc E u v)/\∀P∈Ps,∃x,P x/\Rc E v x/\Rc E x v
def Lo{N:Nat}{r:Nat->Nat}(m:∀i,r i<N)(h:Way8 e A r):∃v,Rc e (r 0) v/\aO e A v/\∃i,r i=v:=by
 obtain⟨v,_,c⟩:=yz N r m;obtain⟨a,_,b⟩:=c 0;refine⟨v,by rw[<-b];exact Rc.of_way h.1 (QK _),⟨⟨r (a+1),by rw[<-b];exact h.1 a,?_⟩,fun P hP=>?_⟩,a,b⟩
 ·obtain⟨j,g,d⟩:=c (a+1)
  rw[<-d];exact Rc.of_way h.1 g
 ·obtain⟨j,g,d⟩:=h.2 P hP a
  obtain⟨k,l,f⟩:=c j;exact⟨r j,d,by rw[<-b];exact Rc.of_way h.1 g,by rw[<-f];exact Rc.of_way h.1 l⟩
def Ac(q p:Nat->Nat)(m n:Nat):Nat->Nat:=tH q (fun i=>p (i % n)) m
def Ad{q:Nat->Nat}{m n v:Nat}(hn:0<n)(hq:Wlk e q m a v)(b:Wlk e p n v v):∀i,e (Ac q p m n i) (Ac q p m n (i+1)):=by
 intro i
 have g:q m=(fun i=>p (i % n)) 0:=by show _=p (0 % n);rw[Nat.zero_mod,b.first,hq.last]
 unfold Ac;by_cases h:i<m
 ·rw[tK h,tJ (q:=fun i=>p (i % n)) (i:=i+1) (QG h) g];exact hq.step i h
 ·rw[tI SM,tI SM,show i+1 -m=(i -m)+1 by omega]
  generalize i -m=k;have f:=Qr k hn;have c:=b.step (k % n) f;show e (p (k % n)) (p ((k+1) % n));by_cases h1:k % n+1=n
  ·rw[h1,b.last]at c
   have:(k+1) % n=0:=by rw[Nat.add_mod];by_cases d:n=1
                        ·subst d;omega
                        ·rw[Qq (show 1<n by omega),h1,Nat.mod_self]
   rw[this,b.first];exact c
  ·have:(k+1) % n=k % n+1:=by
    rw[Nat.add_mod,Qq (show 1<n by omega),Qq SM]
   rw[this];exact c
def mr{v:Nat}(g:Rc e a v)(h:aO e A v):∃r,r 0=a/\Way8 e A r:=by
 obtain⟨⟨u,f,o⟩,hP⟩:=h;obtain⟨p,n,hn,c,b⟩:=AK f o A hP;obtain⟨q,m,hq⟩:=g;refine⟨Ac q p m n,?_,Ad hn hq c,fun P hP i=>?_⟩
 ·have l:q m=(fun i=>p (i % n)) 0:=by show _=p (0 % n);rw[Nat.zero_mod,c.first,hq.last]
  show tH q (fun i=>p (i % n)) m 0=a;rw[tJ (q:=fun i=>p (i % n)) (QK _) l];exact hq.first
 ·obtain⟨k,j,d⟩:=b P hP
  refine⟨m+(i*n+k),by have:=Nat.le_mul_of_pos_right i hn;omega,?_⟩;unfold Ac;rw[tI SM,show m+(i*n+k) -m=i*n+k by omega];show P (p ((i*n+k) % n));rw[P4,P6,Qq j];exact d
def qh{N:Nat}(d:∀u v,e u v->v<N)(c:a<N):(∃r,r 0=a/\Way8 e A r)↔∃v,Rc e a v/\aO e A v:=by
 constructor
 ·rintro⟨r,b,h⟩
  obtain⟨v,h1,h2,_⟩:=Lo (N:=N) (fun i=>by
   cases i with
   |zero=>rw[b];exact c
   |succ i=>exact d _ _ (h.1 i)) h
  exact⟨v,by rw[<-b];exact h1,h2⟩
 ·rintro⟨v,h1,h2⟩
  exact mr h1 h2
def Eg(g:bZ)(u v:Nat):Prop:=(v:Int)∈g.getD u []
def Eg.lt{g:bZ}(a:okG g){u v:Nat}(h:Eg g u v):v<g.length:=by have:=CP a u _ h;omega
def EU{g:bZ}(e:okG g){f:List Int}(hf:∀x∈f,0<=x){b:Nat}:Rch g f b↔∃a:Nat,(a:Int)∈f/\Rc (Eg g) a b:=by
 constructor
 ·intro h
  induction h with
  |base c=>rename_i x;exact⟨x.toNat,by rw[show((x.toNat:Nat):Int)=x by have:=hf x c;omega];exact c,Rc.refl _⟩
  |step _ c d=>
   obtain⟨a,h1,h2⟩:=d;refine⟨a,h1,h2.trans (Rc.one ?_)⟩;rename_i n x _;have:=(CP e n x c).1;show((x.toNat:Nat):Int)∈_;rw[show((x.toNat:Nat):Int)=x by omega];exact c
 ·rintro⟨a,h1,p,n,h⟩
  have:∀i,i<=n->Rch g f (p i):=by
   intro i
   induction i with
   |zero=>intro _;rw[h.first];exact Rch.base (x:=(a:Int)) h1
   |succ i d=>intro hi;exact Rch.step (x:=(p (i+1):Int)) (d SM) (h.step i SM)
  rw[<-h.last];exact this n Ta
def EO{g:bZ}(e:okG g){b:Nat}:Rch g [(a:Int)] b↔Rc (Eg g) a b:=by
 rw[EU e (fun x d=>by simp at d;omega)];constructor
 ·rintro⟨c,f,h⟩
  simp at f
  obtain rfl:c=a:=by omega
  exact h
 ·exact fun h=>⟨a,by simp,h⟩
def idxOf{α:Type}(p:α->Bool)(xs:List α):Int:=match xs.findIdx? p with|some i=>(i:Int)|none=> -1
def xT{p:α->Bool}{xs:List α}{k:Nat}(b:k<xs.length)(hn:∀j (h:j<xs.length),j<k->p xs[j]=false)(a:p xs[k]=true):idxOf p xs=k:=by
 have:xs.findIdx? p=some k:=by
  rw[Ob];exact⟨b,a,fun j c=>by simp[hn j SM c]⟩
 simp[idxOf,this]
def xY{p:α->Bool}{xs:List α}(hn:∀j (h:j<xs.length),p xs[j]=false):idxOf p xs= -1:=by
 have:xs.findIdx? p=none:=by
  rw[Oa];intro x a
  obtain⟨j,b,rfl⟩:=Pq.1 a;exact hn j b
 simp[idxOf,this]
def xR(p:α->Bool)(xs:List α):decide (idxOf p xs>=0)=xs.any p:=by
 unfold idxOf;cases h:xs.findIdx? p with
 |none=>
  rw[Oa]at h
  have:xs.any p=false:=by rw[ND];intro x a;simp[h x a]
  rw[this];rfl
 |some i=>
  obtain⟨h1,h2,_⟩:=Ob.1 h;have:xs.any p=true:=NE.2 ⟨xs[i],OG _,h2⟩;rw[this];simp
def yn(w0:World){ao:Option Addr}{cap:Nat}{xs:List Int}{fv:Value}(p:Int->Bool)(f:Sl w0 (dl w0) ao cap xs)
  (hf:∀w,Ext w0 w->∀i (h:i<xs.length),FnV UA fv [Te xs[i]] w fun v w'=>v=.bool (p xs[i])/\Ext w w'):
  Rt UA 134 [.slice ao xs.length cap,fv].toArray w0 fun v w'=>v=Te (idxOf p xs)/\Ext w0 w':=by
 have l:=f.len63;refine dV Tryz.func134 Tryz.ntmps134 rfl rfl ?_;refine TR ?_;refine CW.loop (S:=Nat) (fun k=>[(0,.slice ao xs.length cap),(1,fv),(7,Te xs.length),(8,Te k)])
  (fun k w=>k<=xs.length/\Ext w0 w/\∀j (h:j<xs.length),j<k->p xs[j]=false) (fun k=>xs.length -k) 0 SL ⟨by omega,Ext.refl _,by omega⟩ ?_
 rintro k w ⟨m,b,hn⟩
 refine T2 ?_;apply CW.cond rfl<;>intro h
 ·simp at h
  refine TI ?_;refine ff (f.at b) h rfl SX (fun q=>?_);refine eO rfl rfl rfl rfl (hf w b k h) ?_;rintro v w' ⟨rfl,a⟩
  refine T1 ?_;refine CW.cond rfl (fun d=>?_) (fun d=>?_)
  ·refine Th ?_
   refine bi rfl rfl ⟨?_,b.trans a⟩;rw[xT h hn d]
  ·refine Tj ?_
   refine EX.back (k+1) SL ⟨h,b.trans a,?_⟩ SM;intro j c g
   by_cases e:j=k
   ·subst e;exact d
   ·exact hn j c SM
 ·simp at h
  refine TO ?_;refine bi rfl rfl ⟨?_,b⟩;rw[xY (fun j c=>hn j c SM)]
def ma(w0:World){ao:Option Addr}{cap:Nat}{xs:List Int}{fv:Value}(p:Int->Bool)(a:Sl w0 (dl w0) ao cap xs)
  (hf:∀w,Ext w0 w->∀i (h:i<xs.length),FnV UA fv [Te xs[i]] w fun v w'=>v=.bool (p xs[i])/\Ext w w'):
  Rt UA 66 [.slice ao xs.length cap,fv].toArray w0 fun v w'=>v=.bool (xs.any p)/\Ext w0 w':=by
 refine dV Tryz.func66 Tryz.ntmps66 rfl rfl ?_;refine T2 ?_;refine eN (yn w0 p a hf) ?_;rintro v w' ⟨rfl,b⟩
 refine Tk ?_;refine bi rfl rfl ⟨?_,b⟩;rw[<-xR]
def Cw(n:Int)(b:Nat)(w:World){ao:Option Addr}{cap:Nat}(a:Sl w F ao cap g)(c:Cells w b 0 [.slice ao g.length cap]):
  Rt UA 135 [Te n,Tg b].toArray w fun v w'=>v=.bool (decide (n<0\/n>=g.length))/\w=w':=by
 refine dV Tryz.func135 Tryz.ntmps135 rfl rfl ?_;refine T2 ?_;refine fI (s:=6) rfl (fun h=>?_) (fun h=>?_)
 ·refine TT ?_
  refine bi rfl rfl ?_;simp at h
  simp[h]
 ·refine Ue ?_
  refine WL.load (α:=List (List Int)) rfl rfl rfl c ⟨ao,cap,rfl,a⟩ ?_;refine TB ?_;refine bi rfl rfl ?_;simp at h
  simp[Nr.2 h]
def Cy(w0:World){ao lo:Option Addr}{cap:Nat}{l:List Int}(j:Sl w0 (dl w0) ao cap g)(k:Sl w0 (dl w0) lo B l):
  Rt UA 70 [.slice ao g.length cap,.slice lo l.length B].toArray w0 fun v w'=>v=.bool (Cx g.length l)/\Ext w0 w':=by
 refine dV Tryz.func70 Tryz.ntmps70 rfl rfl ?_;refine T9 ?_;refine WL.box rfl rfl rfl ?_;refine Tu ?_;have a:=Ext.alloc w0 (.cells (Value.cells (.slice ao g.length cap)) 50);have f:=Cells.alloc w0 (Value.cells (.slice ao g.length cap)) 50;generalize w0.alloc (.cells (Value.cells (.slice ao g.length cap)) 50)=d at*
 have c:w0.heap.size<d.heap.size:=f.lt (by simp[Value.cells]);refine eN (ma d (fun x=>decide (x<0\/x>=g.length)) (k.up a) (fun w e i h=>?_)) ?_
 ·refine FnV.mk (Rt.mono (Cw _ _ w ((j.at a).mono (fun b m=>e.block b (Qn m a.size)) fun _ h=>h) (f.mono (e.block _ c))) ?_)
  rintro v w' ⟨rfl,rfl⟩
  exact⟨rfl,Ext.refl _⟩
 ·rintro v w' ⟨rfl,n⟩
  refine Tk ?_;exact bj ⟨rfl,a.trans n⟩
def ly(w0:World){ao:Option Addr}{cap:Nat}(f:Sl w0 (dl w0) ao cap g):
  Rt UA 68 [.slice ao g.length cap].toArray w0 fun v w'=>v=Te (kN g)/\Ext w0 w':=by
 have r:=f.len63;refine dU Tryz.func68 Tryz.ntmps68 rfl rfl ?_;refine TR ?_;apply CW.cond rfl<;>intro h
 ·refine Tw ?_
  refine bi rfl rfl ⟨?_,Ext.refl _⟩;unfold kN;have:decide (g.length>20000)=true:=by simp at h⊢;omega
  rw[this]
 ·simp at h
  have c:decide (g.length>20000)=false:=by simp;omega
  refine TE ?_;refine CW.loop (S:=Nat) (fun k=>[(0,.slice ao g.length cap),(8,.slice ao g.length cap),(9,Te g.length),(10,Te k)])
   (fun k w=>k<=g.length/\Ext w0 w/\∀j (h:j<g.length),j<k->Cx g.length g[j]=false) (fun k=>g.length -k) 0 SL ⟨by omega,Ext.refl _,by omega⟩ ?_
  rintro k w ⟨s,a,hn⟩
  refine T2 ?_;apply CW.cond rfl<;>intro h1
  ·simp at h1
   refine T7 ?_;refine fh (f.at a) h1 SX (fun u q n=>?_);obtain⟨lo,lcap,rfl,i⟩:=n.sl;refine T2 ?_;refine eN (Cy w (f.up a) (i.lift fun b p=>Qn p a.size)) ?_;rintro v w' ⟨rfl,d⟩
   refine T1 ?_;apply CW.cond rfl<;>intro h2
   ·refine Th ?_
    refine bi rfl rfl ⟨?_,a.trans d⟩;unfold kN;have:g.any (Cx g.length)=true:=NE.2 ⟨_,OG h1,h2⟩;rw[this,c]
   ·refine Tj ?_
    refine EX.back (k+1) SL ⟨h1,a.trans d,?_⟩ SM;intro j m o
    by_cases e:j=k
    ·subst e;exact h2
    ·exact hn j m SM
  ·simp at h1
   refine TO ?_;refine bi rfl rfl ⟨?_,a⟩;unfold kN;have:g.any (Cx g.length)=false:=by
    rw[ND];intro l i
    obtain⟨j,m,rfl⟩:=Pq.1 i;simp[hn j m SM]
   rw[this,c]
def lP(w0:World){ao:Option Addr}{cap:Nat}{xs:List Int}(a:Sl w0 (dl w0) ao cap xs)(i:xs.length*8<=140737488355328):
  Rt UA 117 [.slice ao xs.length cap].toArray w0 fun v w'=>Own w' w0.heap.size 3 di v xs/\Ext w0 w':=by
 have m:=a.len63;refine dU Tryz.func117 Tryz.ntmps117 rfl rfl ?_;refine TW ?_;apply CW.cond rfl<;>intro h
 ·refine Tw ?_
  refine bi rfl rfl ⟨?_,Ext.refl _⟩;have j:ao=none:=by simpa using h
  have:xs=[]:=N0 (by have:=a.nil j;have:=a.le;omega);subst this;exact Own.nil
 ·refine Tq ?_
  refine fE (α:=Int) rfl rfl (fun e d g=>?_);refine Ue ?_;have b:Ext w0 e:=(MW _ _).grown g Ta S5;refine WL.app (F:=di) rfl rfl rfl rfl d (a.at b).srcN b.size S0 (by simp[maxLen];omega) (by simpa using i) (fun v l ho2 c _=>?_);refine Tk ?_;refine bi rfl rfl ⟨by simpa using ho2,b.grown c b.size ?_⟩;intro k f
  exact(d.lt k f).1
def Jq(h:0<m.length):m=m.take (m.length -1)++[m[m.length -1]]:=by
 have:=PZ (l:=m) (i:=m.length -1) SM;rw[<-this,PW SM]
def Fh(w0:World){ao fo:Option Addr}{cap:Nat}{f:List Int}(X:Sl w0 (dl w0) ao cap g)(hf:Sl w0 (dl w0) fo B f)
  (hg:okG g) (R:CQ g.length f) (hT:f.length+oB g+g.length<=1099511627776):
  Rt UA 71 [.slice ao g.length cap,.slice fo f.length B].toArray w0 fun v w'=>Own w' w0.heap.size 4 di v (EP g f)/\Ext w0 w':=by
 have hm:=X.len63;have Z:=hf.len63;refine dV Tryz.func71 Tryz.ntmps71 rfl rfl ?_;refine TR ?_;refine fK (α:=Bool) rfl rfl rfl rfl SM SS (fun L ho1 U=>?_);have J:Ext w0 L:=(MW _ _).grown U Ta S5;have D:w0.heap.size<L.heap.size:=(ho1.lt _ rfl).2.1;refine T2 ?_;refine eN (lP L (hf.up J) SM) ?_;rintro tv w2 ⟨ho2,I⟩
 refine TI ?_;generalize N:Value.slice (some ⟨w0.heap.size,0,none⟩) g.length g.length=sv at*
 have m:sv.ownBlock=some w0.heap.size:=by rw[<-N];rfl
 refine CW.loop (S:=Value×List Bool×List Int) (fun s=>[(0,.slice ao g.length cap),(5,sv),(6,s.1)])
  (fun s w=>RInv g f s.2.1 s.2.2/\s.2.2.length+D_ g s.2.1<=f.length+oB g+g.length/\Own w w0.heap.size 4 di sv s.2.1/\Own w w0.heap.size 3 di s.1 s.2.2/\Ext w0 w/\(∀k,s.1.ownBlock=some k->k≠w0.heap.size))
  (fun s=>s.2.2.length+D_ g s.2.1) (tv,List.replicate g.length false,f) SL
  ⟨RInv.start R,by show f.length+D_ g (List.replicate g.length false)<=_;rw[Ec];omega,ho1.extN I,ho2.low (Nat.le_of_lt D),J.trans I,fun k b=>by have:=(ho2.lt k b).1;omega⟩ ?_
 rintro⟨tv,seen,a⟩ w ⟨hR,A,i,p,K,C⟩
 simp only at hR A i p C
 refine TU ?_;apply CW.cond rfl<;>intro h
 ·simp at h
  have E:0<a.length:=by omega
  have j:=Jq E;refine TU ?_;refine fi rfl rfl rfl rfl rfl p SM SM SX (fun u q y=>?_);obtain rfl:=y.int;have ei:((a.length:Int) -1).toNat=a.length -1:=by omega
  simp only[ei];generalize hx:a[a.length -1]=x at*
  generalize r:a.take (a.length -1)=rest at*
  rw[j]at hR
  have hlr:a.length=rest.length+1:=by rw[j];simp
  have Y:=hR.ok x SQ;refine TU ?_;refine eX (α:=Int) (a.length -1) SM rfl rfl rfl rfl p SM (fun tv' d V=>?_);rw[r]at d
  have c:∀k,tv'.ownBlock=some k->k≠w0.heap.size:=fun k b=>C k (by rw[<-V];exact b)
  refine T2 ?_;refine fi rfl rfl rfl rfl rfl i SM (by rw[hR.len];omega) SX (fun u q2 y=>?_);obtain rfl:=y.bool;have t:x.toNat<seen.length:=by rw[hR.len];omega
  refine Tl ?_;apply CW.cond rfl<;>intro h2
  ·have P:seen[x.toNat]=false:=by simpa using h2
   have Q:=Eb g seen x.toNat SM hR.len (by simp[Oi,t,P]);refine TP ?_;refine WL.set rfl rfl rfl rfl i SM (by rw[hR.len];omega) SX SX (Rd.mkBool _ _ true) (fun W q3 o H=>?_);have l:Ext w0 W:=K.grown H K.size (fun k b=>by rw[m]at b;cases b;exact Qj _);have n:Own W w0.heap.size 3 di tv' rest:=d.keptN H (fun k b e=>by rw[m]at e;cases e;exact c _ b rfl);refine T2 ?_;have M:x.toNat<g.length:=by omega
   refine e_ rfl rfl rfl rfl rfl (X.at l) SM SM SX (fun u q4 y=>?_);obtain⟨ro,rcap,rfl,z⟩:=y.sl;have erow:g.getD x.toNat []=g[x.toNat]:=by simp[Oi,M]
   rw[erow]at Q
   refine WL.app (F:=di) rfl rfl rfl rfl n z.srcN l.size S0 SS SM (fun tv4 w4 ho4 G T=>?_);refine TK ?_;refine EX.back (tv4,seen.set x.toNat true,rest++g[x.toNat]) SL ⟨?_,?_,?_,ho4,?_,?_⟩ ?_
   ·have:=RInv.mark hg hR
    rwa[erow]at this
   ·simp only[OT];omega
   ·exact o.keptN G (fun k b e=>by rw[m]at b;cases b;exact c _ e.symm rfl)
   ·exact l.grown G l.size (fun k b=>(n.lt k b).1)
   ·intro k b
    rcases T k b with h|h
    ·exact c k h
    ·have:=l.size;have:=(o.lt _ m).2.1;omega
   ·simp only[OT];omega
  ·have O:seen[x.toNat]=true:=by simpa using h2
   refine TD ?_;refine EX.back (tv',seen,rest) SL ⟨hR.pass (by simp[Oi,t,O]),by simp only;omega,i,d,K,c⟩ (by simp only;omega)
 ·have h0:a=[]:=by simpa using h
  subst h0;refine TO ?_;refine bi rfl rfl ⟨?_,K⟩;rw[<-hR.done];exact i
noncomputable def Ff(g:bZ)(f:List Int):List Bool×Int:=match kN g==0,Cx g.length f with
 |true,false=>(EP g f,0)
 |true,true=>([],1)
 |false,_=>([],kN g)
def kO{g:bZ}(h:okG g)(a:g.length<=20000):kN g=0:=by
 unfold kN;have h1:decide (g.length>20000)=false:=by simp;omega
 have h2:g.any (Cx g.length)=false:=by rw[ND];intro l a;simp[oddB_false.2 (h l a)]
 rw[h1,h2]
def Fg{g:bZ}{f:List Int}(h:okG g)(hf:CQ g.length f)(a:g.length<=20000):Ff g f=(EP g f,0):=by
 unfold Ff;have h1:(kN g==0)=true:=by rw[kO h a];rfl
 rw[h1,oddB_false.2 hf]
def dR(w0:World){ao fo:Option Addr}{cap:Nat}{f:List Int}(e:Sl w0 (dl w0) ao cap g)(hf:Sl w0 (dl w0) fo B f)(m:f.length+oB g+g.length<=1099511627776):
  Rt UA 32 [.slice ao g.length cap,.slice fo f.length B].toArray w0 fun r w'=>∃v,r=.tuple ⟨[v,Te (Ff g f).2]⟩/\Own w' w0.heap.size 4 di v (Ff g f).1/\Ext w0 w':=by
 refine dV Tryz.func32 Tryz.ntmps32 rfl rfl ?_;refine T2 ?_;refine eN (ly w0 e) ?_;rintro v k ⟨rfl,a⟩
 refine T2 ?_;apply CW.cond rfl<;>intro h
 ·have b:(kN g==0)=false:=by simpa using h
  refine Tw ?_;exact bl rfl rfl rfl ⟨.slice none 0 0,by simp only[Ff,b],by simp only[Ff,b];exact Own.nil,a⟩
 ·have b:(kN g==0)=true:=by simpa using h
  obtain⟨l,_⟩:=kP (by simpa using b);refine TL ?_;refine eN (Cy k (e.up a) (hf.up a)) ?_;rintro v j ⟨rfl,c⟩
  refine T1 ?_;apply CW.cond rfl<;>intro h2
  ·refine Tw ?_
   exact bl rfl rfl rfl ⟨.slice none 0 0,by simp only[Ff,b,h2],by simp only[Ff,b,h2];exact Own.nil,a.trans c⟩
  ·refine TL ?_
   have d:=a.trans c;refine eN (Fh j (e.up d) (hf.up d) l (oddB_false.1 h2) m) ?_;rintro v n ⟨ho3,i⟩
   refine Tk ?_;exact bl rfl rfl rfl ⟨v,by simp only[Ff,b,h2],by simp only[Ff,b,h2];exact ho3.low d.size,d.trans i⟩
structure Raw where
 v:Value
instance:Rep Raw where
 sz:=1
 pos:=by decide
 agg:=false
 rd:=fun _ _ cs x=>cs=[x.v]/\x.v.oneCell'=true
 len:=by intro w F cs x h;rw[h.1];rfl
 one:=by intro w F cs x h v a;rw[h.1]at a;simp at a;subst a;exact h.2
 szAgg:=fun _=>rfl
 mono:=fun h _ _=>h
def Rd.raw{x:Raw}(h:Rd w F v x):v=x.v/\x.v.oneCell'=true:=by
 obtain⟨cs,e,h1,h2⟩:=h;subst h1;exact⟨e,h2⟩
def Rd.mkRaw(w:World)(F:Nat->Prop)(v:Value)(h:v.oneCell'=true):Rd w F v (⟨v⟩:Raw):=⟨[v],rfl,rfl,h⟩
section
variable {α:Type}[Rep α]
structure OwnN(w:World)(B:Nat)(eo ei:TypeId)(v:Value)(vs:List Raw)(xs:List (List α)):Prop where
 out:Own w B eo di v vs
 len:vs.length=xs.length
 inn:∀i (h:i<vs.length) (h':i<xs.length),Own w B ei di vs[i].v xs[i]
 dis:∀i j (hi:i<vs.length) (hj:j<vs.length),i≠j->∀g,vs[i].v.ownBlock=some g->vs[j].v.ownBlock=some g->False
 dio:∀i (hi:i<vs.length) g,vs[i].v.ownBlock=some g->v.ownBlock=some g->False
variable {w w' w'':World}{B:Nat}{eo ei:TypeId}{v:Value}{vs:List Raw}{xs:List (List α)}
theorem OwnN.ext(h:OwnN w B eo ei v vs xs)(b:Ext w w'):OwnN w' B eo ei v vs xs:=
 ⟨h.out.extN b,h.len,fun i hi a=>(h.inn i hi a).extN b,h.dis,h.dio⟩
theorem OwnN.low(h:OwnN w B eo ei v vs xs){B':Nat}(b:B'<=B):OwnN w B' eo ei v vs xs:=
 ⟨h.out.low b,h.len,fun i hi a=>(h.inn i hi a).low b,h.dis,h.dio⟩
def OwnN.blk(v:Value)(vs:List Raw):Nat->Prop:=fun b=>v.ownBlock=some b\/∃x∈vs,x.v.ownBlock=some b
theorem OwnN.lt(h:OwnN w B eo ei v vs xs):∀b,OwnN.blk v vs b->B<=b/\b<w.heap.size:=by
 rintro b (a|⟨x,c,a⟩)
 ·exact⟨(h.out.lt b a).1,(h.out.lt b a).2.1⟩
 ·obtain⟨i,hi,rfl⟩:=Pq.1 c
  have:=(h.inn i hi (by rw[<-h.len];exact hi)).lt b a;exact⟨this.1,this.2.1⟩
theorem OwnN.kept{row:Option Nat}(h:OwnN w B eo ei v vs xs)(e:w.grownBy w' row)(c:∀b,OwnN.blk v vs b->some b≠row):OwnN w' B eo ei v vs xs:=
 ⟨h.out.keptN e (fun g a=>c g (.inl a)),h.len,fun i hi d=>(h.inn i hi d).keptN e (fun g a=>c g (.inr ⟨_,OG hi,a⟩)),h.dis,h.dio⟩
theorem OwnN.nil:OwnN w B eo ei (.slice none 0 0) [] ([]:List (List α)):=⟨Own.nil,rfl,fun i hi=>absurd hi SQ,fun i j hi=>absurd hi SQ,fun i hi=>absurd hi SQ⟩
theorem OwnN.made{n:Nat}(h:Own w B eo di v (List.replicate n (⟨.slice none 0 0⟩:Raw))):OwnN w B eo ei v (List.replicate n ⟨.slice none 0 0⟩) (List.replicate n ([]:List α)):=by
 refine⟨h,by simp,fun i hi b=>?_,fun i j hi c _ g a=>?_,fun i hi g a=>?_⟩
 ·simp only[OI];exact Own.nil
 ·simp only[OI]at a;simp[Value.ownBlock]at a
 ·simp only[OI]at a;simp[Value.ownBlock]at a
theorem OwnN.mid(h:OwnN w B eo ei v vs xs){i:Nat}(hi:i<vs.length)(b:w.grownBy w' vs[i].v.ownBlock):Own w' B eo di v vs:=
 h.out.keptN b (fun g a e=>h.dio i hi g e.symm a)
theorem OwnN.set(h:OwnN w B eo ei v vs xs){i:Nat}(hi:i<vs.length){l:Value}{ys:List α}(t:Own w' B ei di l ys)(f:w.grownBy w' vs[i].v.ownBlock)(hnb:∀g,l.ownBlock=some g->vs[i].v.ownBlock=some g\/w.heap.size<=g)
  (x:Own w'' B eo di v (vs.set i ⟨l⟩)) (r:w'.grownBy w'' v.ownBlock):OwnN w'' B eo ei v (vs.set i ⟨l⟩) (xs.set i ys):=by
 have n:∀j (a:j<vs.length),∀g,vs[j].v.ownBlock=some g->g<w.heap.size:=fun j a g f=>((h.inn j a (by rw[<-h.len];exact a)).lt g f).2.1
 have c:∀g,v.ownBlock=some g->g<w.heap.size:=fun g f=>(h.out.lt g f).2.1
 have o:∀g,l.ownBlock=some g->v.ownBlock=some g->False:=fun g h1 h2=>by
  rcases hnb g h1 with h3|h3
  ·exact h.dio i hi g h3 h2
  ·have:=c g h2;omega
 have p:∀j (a:j<vs.length),j≠i->∀g,l.ownBlock=some g->vs[j].v.ownBlock=some g->False:=fun j a b g h1 h2=>by
  rcases hnb g h1 with h3|h3
  ·exact h.dis i j hi a (QN b) g h3 h2
  ·have:=n j a g h2;omega
 refine⟨x,by simp[h.len],fun j a q=>?_,fun j k a s b g h1 h2=>?_,fun j a g h1 h2=>?_⟩
 ·rw[O7]at a q
  rw[OJ,OJ];by_cases e:i=j
  ·rw[Sj e,Sj e]
   exact t.keptN r (fun g f e=>o g f e.symm)
  ·rw[Si e,Si e]
   exact((h.inn j a q).keptN f (fun g d m=>h.dis i j hi a e g m.symm d)).keptN r (fun g d m=>h.dio j a g d m.symm)
 ·rw[O7]at a s
  rw[OJ]at h1 h2
  by_cases u:i=j
  ·subst u
   rw[Sj rfl]at h1
   rw[Si b]at h2
   exact p k s (QN b) g h1 h2
  ·rw[Si u]at h1
   by_cases m:i=k
   ·rw[Sj m]at h2
    exact p j a (QN u) g h2 h1
   ·rw[Si m]at h2
    exact h.dis j k a s b g h1 h2
 ·rw[O7]at a
  rw[OJ]at h1
  by_cases e:i=j
  ·rw[Sj e]at h1;exact o g h1 h2
  ·rw[Si e]at h1;exact h.dio j a g h1 h2
theorem OwnN.sl(h:OwnN w B eo ei v vs xs):∃ao cap,v=.slice ao xs.length cap/\Sl w (OwnN.blk v vs) ao cap xs:=by
 obtain⟨ao,cap,e,c⟩:=h.out.sl;refine⟨ao,cap,by rw[<-h.len];exact e,⟨by rw[<-h.len];exact c.le,c.mx,c.nil,fun i hi=>?_⟩⟩;have a:i<vs.length:=by rw[h.len];exact hi
 obtain⟨b,off,l,hF,m,j,g⟩:=c.el i a;obtain⟨rfl,h1⟩:=g;obtain⟨io,ic,k,d⟩:=(h.inn i a hi).sl;refine⟨b,off,l,hF.elim (fun h=>h.elim) .inl,[vs[i].v],j,io,ic,by rw[k],d.mono S8 ?_⟩;intro b f
 exact f.elim (fun h=>h.elim) (fun f=>.inr ⟨_,OG a,f⟩)
theorem OwnN.rd(h:OwnN w B eo ei v vs xs):Rd w (OwnN.blk v vs) v xs:=by
 obtain⟨ao,cap,rfl,a⟩:=h.sl;exact a.rd
theorem OwnN.old(h:OwnN w B eo ei v vs xs):Rd w (dl w) v xs:=h.rd.mono S8 fun b a=>(h.lt b a).2
end
instance:IsT UA 39 Raw:=IsT.of SN RB rfl
instance:IsZ UA 39 (⟨.slice none 0 0⟩:Raw) 24:=IsZ.of (z:=.slice none 0 0) SN (fun _ _=>⟨rfl,rfl⟩)
def Ka(g:List (List Int))(n j:Nat)(m:Nat):List Int:=
 ((List.range n).filter (fun k=>(g.getD k []).contains (m:Int))).map (fun k:Nat=>(k:Int))++(if((g.getD n []).take j).contains (m:Int)then [(n:Int)]else [])
def Ks(g:List (List Int))(n j:Nat):List (List Int):=(List.range g.length).map (Ka g n j)
def Kn(g:List (List Int)):List (List Int):=Ks g g.length 0
def Ku(g:List (List Int))(n j:Nat):(Ks g n j).length=g.length:=by simp[Ks]
def Kt{n j i:Nat}(h:i<(Ks g n j).length):(Ks g n j)[i]=Ka g n j i:=by simp[Ks]
def Kc(g:List (List Int))(n j m:Nat):(Ka g n j m).length<=n+1:=by
 unfold Ka;have h1:=O0 (fun k=>(g.getD k []).contains (m:Int)) (List.range n);rw[O4]at h1
 rw[OT,O1];split
 ·simp only[O8];omega
 ·simp only[O2];omega
def Ki(g:List (List Int))(m:Nat):Ka g 0 0 m=[]:=by simp[Ka]
def Ky(g:List (List Int)):Ks g 0 0=List.replicate g.length []:=by
 apply N4 (by simp[Ks]);intro i h1 h2
 rw[Kt,Ki];simp
def Ke{n:Nat}(m:Nat):Ka g (n+1) 0 m=Ka g n (g.getD n []).length m:=by
 unfold Ka;rw[PV,P0,PL,N6,Pb];cases h:(g.getD n []).contains (m:Int)<;>simp at h<;>simp[h]
def Kv{n:Nat}:Ks g (n+1) 0=Ks g n (g.getD n []).length:=by
 unfold Ks;congr 1;funext m;exact Ke m
def Js{l:List Int}{j:Nat}(h:j<l.length)(x:Int):(l.take (j+1)).contains x=((l.take j).contains x||x==l[j]):=by
 rw[PZ h,NJ,NJ,NC];simp
def Kd{n j m:Nat}(b:j<(g.getD n []).length)(a:(g.getD n [])[j]=(m:Int))(hn:((g.getD n []).take j).contains (m:Int)=false):Ka g n (j+1) m=Ka g n j m++[(n:Int)]:=by
 unfold Ka;rw[Js b,hn,a];simp
def Kg{n j m:Nat}(a:j<(g.getD n []).length)(hn:((g.getD n []).take j).contains (m:Int)=true):Ka g n (j+1) m=Ka g n j m:=by
 unfold Ka;rw[Js a,hn];simp
def Kh{n j m:Nat}(b:j<(g.getD n []).length)(a:(g.getD n [])[j]≠(m:Int)):Ka g n (j+1) m=Ka g n j m:=by
 unfold Ka;rw[Js b];have:((m:Int)==(g.getD n [])[j])=false:=by rw[RY];exact QN a
 rw[this,Nb]
def Kb{n j m:Nat}(h:0<(Ka g n j m).length):((Ka g n j m)[(Ka g n j m).length -1]=(n:Int))↔((g.getD n []).take j).contains (m:Int)=true:=by
 have c:(Ka g n j m)[(Ka g n j m).length -1]=(Ka g n j m).getLast (Pz h):=by rw[List.getLast_eq_getElem]
 rw[c];constructor
 ·intro e
  apply Nh;intro b
  have a:((g.getD n []).take j).contains (m:Int)=false:=by simpa using b
  have:(n:Int)∈Ka g n j m:=by rw[<-e];exact ON _
  unfold Ka at this
  rw[a]at this
  simp at this
  omega
 ·intro b
  have:Ka g n j m=((List.range n).filter (fun k=>(g.getD k []).contains (m:Int))).map (fun k:Nat=>(k:Int))++[(n:Int)]:=by unfold Ka;rw[Sj b]
  simp only[this];simp
def Kf{n j m:Nat}(h:(Ka g n j m).length=0):((g.getD n []).take j).contains (m:Int)=false:=by
 cases a:((g.getD n []).take j).contains (m:Int)
 ·rfl
 ·unfold Ka at h;rw[Sj a]at h;simp at h
def Kx{n j:Nat}(b:j<(g.getD n []).length){m:Nat}(a:(g.getD n [])[j]=(m:Int))(c:m<g.length)(hn:((g.getD n []).take j).contains (m:Int)=false):
  (Ks g n j).set m (Ka g n j m++[(n:Int)])=Ks g n (j+1):=by
 apply N4 (by simp[Ks]);intro i h1 h2
 rw[OJ];by_cases e:m=i
 ·subst e;rw[Sj rfl,Kt,Kd b a hn]
 ·rw[Si e,Kt,Kt,Kh b (by rw[a];omega)]
def Kw{n j:Nat}(a:j<(g.getD n []).length){m:Nat}(b:(g.getD n [])[j]=(m:Int))(hn:((g.getD n []).take j).contains (m:Int)=true):Ks g n j=Ks g n (j+1):=by
 apply N4 (by simp[Ks]);intro i h1 h2
 rw[Kt,Kt];by_cases e:m=i
 ·subst e;rw[Kg a hn]
 ·rw[Kh a (by rw[b];omega)]
def Ko(g:List (List Int)):(Kn g).length=g.length:=Ku _ _ _
def Kp{m k:Nat}(b:m<g.length):(k:Int)∈(Kn g).getD m []↔k<g.length/\(m:Int)∈g.getD k []:=by
 have:(Kn g).getD m []=Ka g g.length 0 m:=by
  rw[Oi,On (by rw[Ko];exact b)];exact Kt _
 rw[this];unfold Ka;simp;constructor
 ·rintro⟨a,⟨h1,h2⟩,h3⟩
  have:a=k:=by omega
  subst this;exact⟨h1,h2⟩
 ·rintro⟨h1,h2⟩
  exact⟨k,⟨h1,h2⟩,rfl⟩
def Kq(g:List (List Int)):okG (Kn g):=by
 intro l c x a
 obtain⟨m,b,rfl⟩:=Pq.1 c;rw[Ko]at b⊢
 have e:(Kn g)[m]'(by rw[Ko];exact b)=Ka g g.length 0 m:=Kt _;rw[e]at a
 unfold Ka at a
 simp at a
 obtain⟨k,⟨h1,_⟩,rfl⟩:=a;omega
def qB(n:Int)(s:List Int×List Int)(k:Int):List Int×List Int:=if s.1.getD k.toNat 0<0 then(s.1.set k.toNat (s.1.getD n.toNat 0+1),s.2++[k])else s
def qr(back:List (List Int)):Nat->List Int->List Int->List Int
 |0,d,_=>d
 |_+1,d,[]=>d
 |f+1,d,n::r=>qr back f ((back.getD n.toNat []).foldl (qB n) (d,r)).1 ((back.getD n.toNat []).foldl (qB n) (d,r)).2
def qn(to:List Bool):List Int:=to.map fun b=>if b then 0 else -1
def qx(to:List Bool)(n:Nat):List Int:=((List.range n).filter (fun k=>to.getD k false)).map fun k:Nat=>(k:Int)
def qu(g:List (List Int))(to:List Bool):List Int:=qr (Kn g) (2*g.length+2) (qn to) (qx to to.length)
def BG(d:List Int):Nat:=d.countP fun x=>decide (x<0)
def BH{d:List Int}{k:Nat}{v:Int}(a:k<d.length)(h:d[k]<0)(c:0<=v):BG (d.set k v)+1=BG d:=by
 unfold BG;have e:d=d.take k++d[k]::d.drop (k+1):=by simp
 have b:d.set k v=d.take k++v::d.drop (k+1):=by rw[PO,Sj a]
 rw[b]
 conv=>rhs;rw[e]
 simp only[NL,NM,h,Sc,Sk];have:decide (v<0)=false:=by simp;omega
 rw[this];simp;omega
structure FInv(g:List (List Int))(to:List Bool)(d now:List Int)(cur:Option (Nat×Nat)):Prop where
 len:d.length=g.length
 tol:to.length=g.length
 ge:∀n (h:n<d.length),-1<=d[n]
 le:∀n (h:n<d.length),d[n]+BG d+1<=g.length
 zero:∀n (h:n<d.length),d[n]=0↔to.getD n false=true
 pos:∀n (h:n<d.length),0<d[n]->∃m,∃hm:m<d.length,(m:Int)∈g.getD n []/\d[m]=d[n] -1
 inN:∀x∈now,0<=x/\x<g.length
 nowd:∀x∈now,0<=d.getD x.toNat (-1)
 done:∀m (h:m<d.length),0<=d[m]->(m:Int)∈now\/(∃j,cur=some (m,j))\/∀k (hk:k<d.length),(m:Int)∈g.getD k []->0<=d[k]
 curd:∀m j,cur=some (m,j)->∃hm:m<d.length,0<=d[m]/\∀x∈((Kn g).getD m []).take j,0<=d.getD x.toNat (-1)
def s_{d:List Int}{n:Nat}(h:n<d.length):d.getD n x=d[n]:=by rw[Oi,On h];rfl
def FInv.step{to:List Bool}{d now:List Int}{m j:Nat}(h:FInv g to d now (some (m,j)))(I:j<((Kn g).getD m []).length){k:Int}(G:((Kn g).getD m [])[j]=k):
  FInv g to (qB m (d,now) k).1 (qB m (d,now) k).2 (some (m,j+1))/\(qB m (d,now) k).2.length+BG (qB m (d,now) k).1=now.length+BG d:=by
 obtain⟨q,B,p⟩:=h.curd m j rfl;have z:m<g.length:=by rw[<-h.len];exact q
 have u:((Kn g).getD m [])∈Kn g:=by
  rw[Oi,On (by rw[Ko];exact z)];exact OG _
 have o:0<=k/\k<g.length:=by
  have:=Kq g _ u k (G▸OG _);rwa[Ko]at this
 obtain⟨kn,rfl⟩:=Nn o.1;have F:kn<g.length:=by omega
 have f:kn<d.length:=by rw[h.len];exact F
 have A:(m:Int)∈g.getD kn []:=((Kp z).1 (G▸OG I)).2;have t:∀x,x∈((Kn g).getD m []).take (j+1)->x∈((Kn g).getD m []).take j\/x=(kn:Int):=by
  intro x b
  rw[PZ I,G]at b
  simpa using b
 unfold qB;simp only[Nt];rw[s_ f,s_ q];split
 ·rename_i w
  have y:m≠kn:=fun e=>by subst e;omega
  have hn:=BH f w (v:=d[m]+1) SM;have a:∀n (hn:n<(d.set kn (d[m]+1)).length),(d.set kn (d[m]+1))[n]=if kn=n then d[m]+1 else d[n]'(by rw[O7]at hn;exact hn):=fun n hn=>OJ ..
  have s:∀x,0<=d.getD x (-1)->0<=(d.set kn (d[m]+1)).getD x (-1):=by
   intro x b
   by_cases r:x<d.length
   ·rw[s_ (by rw[O7];exact r),a]
    split
    ·omega
    ·rwa[s_ r]at b
   ·rw[Oi,Oo SM]at b
    simp at b
  refine⟨⟨by rw[O7];exact h.len,h.tol,?_,?_,?_,?_,?_,?_,?_,?_⟩,by simp only[OT,O8];omega⟩
  ·intro n c
   rw[a];split
   ·omega
   ·exact h.ge n _
  ·intro n c
   rw[O7]at c
   rw[a];have h1:=h.le m q;have h2:=h.le n c;dsimp only;split<;>omega
  ·intro n c
   rw[O7]at c
   rw[a];split
   ·rename_i e
    subst e;have:=h.zero kn f;constructor
    ·intro e;omega
    ·intro e;have:=this.2 e;omega
   ·exact h.zero n c
  ·intro n c i
   rw[O7]at c
   rw[a]at i⊢
   split at i
   ·rename_i e
    subst e;rw[Sj rfl];refine⟨m,by rw[O7];exact q,A,?_⟩;rw[a,Si (QN y)];omega
   ·rename_i e
    rw[Si e];obtain⟨C,h1,h2,h3⟩:=h.pos n c i;refine⟨C,by rw[O7];exact h1,h2,?_⟩;rw[a,Si (fun e=>by subst e;omega)];exact h3
  ·intro x b
   rw[Ph,Py]at b
   rcases b with b|rfl
   ·exact h.inN x b
   ·omega
  ·intro x b
   rw[Ph,Py]at b
   rcases b with b|rfl
   ·exact s _ (h.nowd x b)
   ·rw[Nt,s_ (by rw[O7];exact f),a,Sj rfl];omega
  ·intro D l i
   rw[O7]at l
   rw[a]at i
   split at i
   ·rename_i e;subst e;exact .inl SQ
   ·rcases h.done D l i with h1|⟨K,h1⟩|h1
    ·exact .inl (Pi _ h1)
    ·simp only[QW,QY]at h1
     exact .inr (.inl ⟨j+1,by rw[h1.1]⟩)
    ·refine .inr (.inr fun k2 o E=>?_)
     rw[O7]at o
     rw[a];split
     ·omega
     ·exact h1 k2 o E
  ·intro C J e
   simp only[QW,QY]at e
   obtain⟨rfl,rfl⟩:=e;refine⟨by rw[O7];exact q,by rw[a,Si (QN y)];exact B,fun x b=>?_⟩;rcases t x b with b|rfl
   ·exact s _ (p x b)
   ·rw[Nt,s_ (by rw[O7];exact f),a,Sj rfl];omega
 ·rename_i H
  refine⟨⟨h.len,h.tol,h.ge,h.le,h.zero,h.pos,h.inN,h.nowd,?_,?_⟩,rfl⟩
  ·intro D l i
   rcases h.done D l i with h1|⟨K,h1⟩|h1
   ·exact .inl h1
   ·simp only[QW,QY]at h1
    exact .inr (.inl ⟨j+1,by rw[h1.1]⟩)
   ·exact .inr (.inr h1)
  ·intro C J e
   simp only[QW,QY]at e
   obtain⟨rfl,rfl⟩:=e;refine⟨q,B,fun x b=>?_⟩;rcases t x b with b|rfl
   ·exact p x b
   ·rw[Nt,s_ f];omega
def FInv.steps{g:List (List Int)}{to:List Bool}{d now:List Int}{m:Nat}(h:FInv g to d now (some (m,0))):∀j,j<=((Kn g).getD m []).length->
  FInv g to ((((Kn g).getD m []).take j).foldl (qB m) (d,now)).1 ((((Kn g).getD m []).take j).foldl (qB m) (d,now)).2 (some (m,j))/\
  ((((Kn g).getD m []).take j).foldl (qB m) (d,now)).2.length+BG ((((Kn g).getD m []).take j).foldl (qB m) (d,now)).1=now.length+BG d
 |0,_=>by simp only[P0,List.foldl_nil];exact⟨h,trivial⟩
 |j+1,a=>by
  obtain⟨h1,h2⟩:=FInv.steps h j SM;rw[PZ SM,Of,Og,List.foldl_nil];obtain⟨h3,h4⟩:=h1.step SM rfl;exact⟨h3,by rw[h4,h2]⟩
def FInv.over{to:List Bool}{d now:List Int}{m:Nat}(h:FInv g to d now (some (m,((Kn g).getD m []).length))):FInv g to d now none:=by
 obtain⟨l,n,a⟩:=h.curd m _ rfl;refine⟨h.len,h.tol,h.ge,h.le,h.zero,h.pos,h.inN,h.nowd,?_,fun _ _ e=>by cases e⟩;intro i c j
 rcases h.done i c j with h1|⟨o,h1⟩|h1
 ·exact .inl h1
 ·simp only[QW,QY]at h1
  obtain⟨rfl,_⟩:=h1;refine .inr (.inr fun k f b=>?_);rw[PV]at a
  have:=a (k:Int) ((Kp (by rw[<-h.len];exact l)).2 ⟨by rw[<-h.len];exact f,b⟩);rwa[Nt,s_ f]at this
 ·exact .inr (.inr h1)
def FInv.pop{to:List Bool}{d r:List Int}{n:Int}(h:FInv g to d (n::r) none):∃m:Nat,n=(m:Int)/\m<g.length/\FInv g to d r (some (m,0)):=by
 have hn:=h.inN n SQ;obtain⟨m,rfl⟩:=Nn hn.1;have f:m<d.length:=by rw[h.len];omega
 refine⟨m,rfl,by omega,h.len,h.tol,h.ge,h.le,h.zero,h.pos,fun x a=>h.inN x (by simp[a]),fun x a=>h.nowd x (by simp[a]),?_,?_⟩
 ·intro c b i
  rcases h.done c b i with h1|⟨l,h1⟩|h1
  ·rcases Pk.1 h1 with h1|h1
   ·exact .inr (.inl ⟨0,by rw[show c=m by omega]⟩)
   ·exact .inl h1
  ·cases h1
  ·exact .inr (.inr h1)
 ·intro j k e
  simp only[QW,QY]at e
  obtain⟨rfl,rfl⟩:=e;refine⟨f,?_,fun x a=>by simp at a⟩;have:=h.nowd m SQ;rwa[Nt,s_ f]at this
def qs{g:List (List Int)}{to:List Bool}:∀(f a:Nat) (d now:List Int),FInv g to d now none->now.length+BG d<=f->now.length+BG d<=a->qr (Kn g) f d now=qr (Kn g) a d now
 |0,a,d,now,h,h1,h2=>by
  have:now=[]:=N0 SM;subst this;cases a<;>rfl
 |f+1,0,d,now,h,h1,h2=>by
  have:now=[]:=N0 SM;subst this;rfl
 |f+1,a+1,d,[],h,h1,h2=>rfl
 |f+1,a+1,d,n::r,h,h1,h2=>by
  obtain⟨m,rfl,e,c⟩:=h.pop;obtain⟨h3,h4⟩:=c.steps _ Ta;have b:=h3.over;rw[PV]at h4 b
  simp only[OU]at h1 h2
  unfold qr;rw[Nt];exact qs f a _ _ b SM SM
def qt{g:List (List Int)}{to:List Bool}:∀(f:Nat) (d now:List Int),FInv g to d now none->now.length+BG d<=f->FInv g to (qr (Kn g) f d now) [] none
 |0,d,now,h,h1=>by
  have:now=[]:=N0 SM;subst this;exact h
 |f+1,d,[],h,h1=>h
 |f+1,d,n::r,h,h1=>by
  obtain⟨m,rfl,c,b⟩:=h.pop;obtain⟨h3,h4⟩:=b.steps _ Ta;have a:=h3.over;rw[PV]at h4 a
  simp only[OU]at h1
  unfold qr;rw[Nt];exact qt f _ _ a SM
def qp{to:List Bool}{n:Nat}(h:n<(qn to).length):(qn to)[n]=if to.getD n false=true then 0 else -1:=by
 have a:n<to.length:=by simpa[qn]using h
 simp[qn,Oi,a]
def qq(to:List Bool):BG (qn to)+(to.countP fun b=>b)=to.length:=by
 unfold BG qn;rw[List.countP_map,List.length_eq_countP_add_countP (fun b=>b) (l:=to),P4]
 congr 1
 apply List.countP_congr;intro x _
 cases x<;>simp
def qy(to:List Bool)(n:Nat):(qx to n).length<=n:=by
 unfold qx;rw[O1];have:=O0 (fun k=>to.getD k false) (List.range n);rwa[O4]at this
def FInv.start{to:List Bool}(h:to.length=g.length):FInv g to (qn to) (qx to to.length) none:=by
 have j:(qn to).length=g.length:=by simp[qn,h]
 have i:=qq to;refine⟨j,h,?_,?_,?_,?_,?_,?_,?_,fun _ _ e=>by cases e⟩
 ·intro n hn;rw[qp];split<;>omega
 ·intro n hn
  rw[qp];split
  ·rename_i d
   have:0<to.countP fun b=>b:=by
    rw[NP];have f:n<to.length:=by omega
    refine⟨to[n],OG _,?_⟩;rw[Oi,On f]at d
    exact d
   omega
  ·omega
 ·intro n hn;rw[qp];split<;>simp_all
 ·intro n hn c;rw[qp]at c;split at c<;>omega
 ·intro x a;simp[qx]at a;obtain⟨k,⟨h1,_⟩,rfl⟩:=a;omega
 ·intro x a
  simp[qx]at a
  obtain⟨k,⟨h1,h2⟩,rfl⟩:=a;rw[Nt,s_ SM,qp,Sj (by simpa using h2)];omega
 ·intro m l c
  rw[qp]at c
  split at c
  ·rename_i d
   refine .inl ?_;simp[qx];exact⟨m,⟨by omega,by simpa using d⟩,rfl⟩
  ·omega
def qw{to:List Bool}(h:to.length=g.length):FInv g to (qu g to) [] none:=by
 refine qt _ _ _ (FInv.start h) ?_;have:=qq to;have:=qy to to.length;omega
def mM(d:List Int)(x:Int):Int:=d.getD x.toNat 0
def DV(d:List Int)(at' n:Int):Bool:=decide (0<=mM d n)&&(decide (at'<0)||(decide (mM d n<mM d at')||(decide (mM d n=mM d at')&&decide (n<at'))))
def Lz(d:List Int)(l:List Int):Int:=l.foldl (fun at' n=>if DV d at' n then n else at') (-1)
def BK(d:List Int)(at' nx n:Int):Bool:=decide (mM d n=mM d at' -1)&&(decide (nx<0)||decide (n<nx))
def Lx(d:List Int)(at':Int)(row:List Int):Int:=row.foldl (fun nx n=>if BK d at' nx n then n else nx) (-1)
def Lu(g:List (List Int))(d:List Int):Nat->Int->List Int
 |0,a=>[a]
 |f+1,a=>if 0<mM d a then a::Lu g d f (Lx d a (g.getD a.toNat []))else [a]
def Lp(g:List (List Int))(from':List Int)(to:List Bool):List Int×Bool×Int:=
 if kN g≠0 then([],false,kN g)else if Cx g.length from'=true\/to.length≠g.length then([],false,1)else
 if Lz (qu g to) from'<0 then([],false,0)else(Lu g (qu g to) g.length (Lz (qu g to) from'),true,0)
def DW{d:List Int}:∀(l:List Int),(∀x∈l,0<=x)->(Lz d l= -1/\∀x∈l,mM d x<0)\/(Lz d l∈l/\0<=mM d (Lz d l)):=by
 have key:∀(l pre:List Int) (a:Int),(∀x∈l,0<=x)->((a= -1/\∀x∈pre,mM d x<0)\/(a∈pre/\0<=a/\0<=mM d a))->
   ((l.foldl (fun at' n=>if DV d at' n then n else at') a= -1/\∀x∈pre++l,mM d x<0)\/(l.foldl (fun at' n=>if DV d at' n then n else at') a∈pre++l/\0<=mM d (l.foldl (fun at' n=>if DV d at' n then n else at') a))):=by
  intro l
  induction l with
  |nil=>intro pre a _ h;simpa using h.imp id (fun h=>⟨h.1,h.2.2⟩)
  |cons x l j=>
   intro pre a c h
   have:=j (pre++[x]) (if DV d a x then x else a) (fun y b=>c y (by simp[b])) (by
    have f:=c x SQ;rcases h with⟨rfl,h2⟩|⟨h1,h2,h3⟩
    ·by_cases e:0<=mM d x
     ·rw[Sj (by simp[DV,e])]
      exact .inr ⟨by simp,f,e⟩
     ·rw[Si (by simp[DV,e])]
      refine .inl ⟨rfl,fun y b=>?_⟩;rw[Ph,Py]at b
      rcases b with b|rfl
      ·exact h2 y b
      ·omega
    ·split
     ·rename_i i
      simp only[DV,MZ,R_]at i
      exact .inr ⟨by simp,f,i.1⟩
     ·exact .inr ⟨by simp[h1],h2,h3⟩)
   simpa using this
 intro l c
 have:=key l [] (-1) c (.inl ⟨rfl,by simp⟩);simpa[Lz]using this
def BQ{d:List Int}{a:Int}(row:List Int)(i:∀x∈row,0<=x)(h:∃m∈row,mM d m=mM d a -1):Lx d a row∈row/\mM d (Lx d a row)=mM d a -1:=by
 have key:∀(l pre:List Int) (nx:Int),(∀x∈l,0<=x)->((nx= -1/\∀x∈pre,mM d x≠mM d a -1)\/(nx∈pre/\mM d nx=mM d a -1))->
   ((l.foldl (fun nx n=>if BK d a nx n then n else nx) nx= -1/\∀x∈pre++l,mM d x≠mM d a -1)\/(l.foldl (fun nx n=>if BK d a nx n then n else nx) nx∈pre++l/\mM d (l.foldl (fun nx n=>if BK d a nx n then n else nx) nx)=mM d a -1)):=by
  intro l
  induction l with
  |nil=>intro pre nx _ h;simpa using h
  |cons x l f=>
   intro pre nx k h
   have:=f (pre++[x]) (if BK d a nx x then x else nx) (fun y b=>k y (by simp[b])) (by
    rcases h with⟨rfl,h2⟩|⟨h1,h2⟩
    ·by_cases c:mM d x=mM d a -1
     ·rw[Sj (by simp[BK,c])]
      exact .inr ⟨by simp,c⟩
     ·rw[Si (by simp[BK,c])]
      refine .inl ⟨rfl,fun y b=>?_⟩;rw[Ph,Py]at b
      rcases b with b|rfl
      ·exact h2 y b
      ·exact c
    ·split
     ·rename_i e
      simp only[BK,MZ,R_]at e
      exact .inr ⟨by simp,e.1⟩
     ·exact .inr ⟨by simp[h1],h2⟩)
   simpa using this
 have:=key row [] (-1) i (.inl ⟨rfl,by simp⟩);simp only[PA]at this
 rcases this with⟨_,h2⟩|h2
 ·obtain⟨m,j,o⟩:=h;exact absurd o (h2 m j)
 ·exact h2
structure WayOK(g:List (List Int))(d:List Int)(l:List Int)(a:Int):Prop where
 len:(l.length:Int)=mM d a+1
 hd:l[0]?=some a
 at':∀i (hi:i<l.length),mM d l[i]=mM d a -i
 inR:∀i (hi:i<l.length),0<=l[i]/\l[i]<g.length
 go:∀i (hi:i<l.length) (f':Nat),mM d l[i]<=f'->Lu g d f' l[i]=l.drop i
 edge:∀i (hi:i<l.length) (hp:0<i),l[i]∈g.getD (l[i -1]'SM).toNat []
section
variable {g:List (List Int)}{to:List Bool}(h:FInv g to (qu g to) [] none)(hg:okG g)
include h hg
theorem LF{a:Int}(j:0<=a/\a<g.length)(e:0<mM (qu g to) a):
  Lx (qu g to) a (g.getD a.toNat [])∈g.getD a.toNat []/\mM (qu g to) (Lx (qu g to) a (g.getD a.toNat []))=mM (qu g to) a -1/\0<=Lx (qu g to) a (g.getD a.toNat [])/\Lx (qu g to) a (g.getD a.toNat [])<g.length:=by
 have f:=CP hg a.toNat;have b:a.toNat<(qu g to).length:=by rw[h.len];omega
 unfold mM at e
 rw[s_ b]at e
 obtain⟨m,i,h1,h2⟩:=h.pos a.toNat b e;have c:=BQ (d:=qu g to) (a:=a) (g.getD a.toNat []) (fun x c=>(f x c).1) ⟨(m:Int),h1,by unfold mM;rw[Nt,s_ i,s_ b];exact h2⟩;exact⟨c.1,c.2,f _ c.1⟩
theorem LC:∀(f:Nat) (a:Int),0<=a/\a<g.length->0<=mM (qu g to) a->mM (qu g to) a<=f->WayOK g (qu g to) (Lu g (qu g to) f a) a
 |f,a,o,p,hf=>by
  by_cases n:0<mM (qu g to) a
  ·cases f with
   |zero=>omega
   |succ f=>
    have hn:=LF h hg o n;generalize r:Lx (qu g to) a (g.getD a.toNat [])=x at*
    have j:=LC f x hn.2.2 SM SM;generalize s:Lu g (qu g to) f x=l at*
    have m:∀(h:0<l.length),l[0]=x:=fun h=>by
     have:=j.hd;rw[On h]at this
     exact QV this
    have c:0<l.length:=by have:=j.len;omega
    have efu:∀b:Nat,mM (qu g to) a<=b->Lu g (qu g to) b a=a::l:=by
     intro b d
     cases b with
     |zero=>omega
     |succ b=>
      rw[Lu,Sj n,r];have p:=j.go 0 c b (by rw[m c];omega);rw[m c]at p
      rw[p];rfl
    rw[efu (f+1) hf];have q:=j.len;refine⟨by rw[OU];omega,rfl,fun i hi=>?_,fun i hi=>?_,fun i hi b d=>?_,fun i hi k=>?_⟩
    ·cases i with
     |zero=>simp
     |succ i=>
      have:=j.at' i (by simpa using hi);simp only[OC];omega
    ·cases i with
     |zero=>exact o
     |succ i=>exact j.inR i (by simpa using hi)
    ·cases i with
     |zero=>exact efu b d
     |succ i=>exact j.go i (by simpa using hi) b d
    ·cases i with
     |zero=>omega
     |succ i=>
      cases i with
      |zero=>
       simp only[OC,QJ,QF,OD];rw[m c];exact hn.1
      |succ i=>
       have:=j.edge (i+1) (by simpa using hi) SM;simpa using this
  ·have e:∀b,Lu g (qu g to) b a=[a]:=by
    intro b
    cases b with
    |zero=>rfl
    |succ b=>rw[Lu,Si n]
   rw[e];have h1:∀i,i<[a].length->i=0:=fun i hi=>by simpa using hi
   refine⟨by simp;omega,by simp,fun i hi=>?_,fun i hi=>?_,fun i hi b d=>?_,fun i hi k=>?_⟩<;>obtain rfl:=h1 i hi
   ·simp
   ·exact o
   ·exact e b
   ·omega
end
def EZ{to:List Bool}(h:FInv g to (qu g to) [] none)(hg:okG g){f:List Int}(hf:CQ g.length f):(∃n,n<g.length/\Rch g f n/\to.getD n false=true)↔∃x∈f,0<=mM (qu g to) x:=by
 constructor
 ·rintro⟨n,hn,s,u⟩
  apply Nh;intro t
  have key:∀m,Rch g f m->m<g.length/\mM (qu g to) m<0:=by
   intro m v
   induction v with
   |@base x a=>
    have:=hf x a;refine⟨by omega,?_⟩;rw[show((x.toNat:Nat):Int)=x by omega];exact Nq.1 fun b=>t ⟨x,a,b⟩
   |@step m x _ a r=>
    have d:=CP hg m x a;refine⟨by omega,?_⟩;rw[show((x.toNat:Nat):Int)=x by omega];apply Nq.1;intro b
    have e:x.toNat<(qu g to).length:=by rw[h.len];omega
    have o:m<(qu g to).length:=by rw[h.len];exact r.1
    unfold mM at b
    rw[s_ e]at b
    have:=h.done x.toNat e b;rcases this with h1|⟨j,h1⟩|h1
    ·cases h1
    ·cases h1
    ·have h2:=h1 m o (by rw[show((x.toNat:Nat):Int)=x by omega];exact a)
     have h3:=r.2;unfold mM at h3
     rw[Nt,s_ o]at h3
     omega
  have h1:=(key n s).2;have k:n<(qu g to).length:=by rw[h.len];exact hn
  unfold mM at h1
  rw[Nt,s_ k,(h.zero n k).2 u]at h1
  omega
 ·rintro⟨x,a,b⟩
  have d:=hf x a;have c:=LC h hg (mM (qu g to) x).toNat x d b SM;generalize Lu g (qu g to) (mM (qu g to) x).toNat x=l at c
  have q:=c.len;have s:∀i (hi:i<l.length),Rch g f l[i].toNat:=by
   intro i
   induction i with
   |zero=>
    intro hi
    have:=c.hd;rw[On hi]at this
    rw[QV this];exact .base a
   |succ i r=>
    intro hi
    exact .step (r SM) (by have:=c.edge (i+1) hi SM;simpa using this)
  have hi:l.length -1<l.length:=by omega
  have h1:=c.at' _ hi;have h2:=c.inR _ hi;refine⟨l[l.length -1].toNat,by omega,s _ hi,?_⟩;have p:l[l.length -1].toNat<(qu g to).length:=by rw[h.len];omega
  refine(h.zero _ p).1 ?_;unfold mM at h1 q
  rw[s_ p]at h1
  omega
def yx(w0:World){ao:Option Addr}{cap:Nat}{xs:List Int}(x:Int)(d:Sl w0 (dl w0) ao cap xs):
  Rt UA 243 [.slice ao xs.length cap,Te x].toArray w0 fun v w'=>v=Te (idxOf (fun y=>x==y) xs)/\Ext w0 w':=by
 have g:=d.len63;refine dV Tryz.func243 Tryz.ntmps243 rfl rfl ?_;refine TR ?_;refine CW.loop (S:=Nat) (fun k=>[(0,.slice ao xs.length cap),(1,Te x),(7,Te xs.length),(8,Te k)])
  (fun k w=>k<=xs.length/\Ext w0 w/\∀j (h:j<xs.length),j<k->(x==xs[j])=false) (fun k=>xs.length -k) 0 SL ⟨by omega,Ext.refl _,by omega⟩ ?_
 rintro k w ⟨i,a,hn⟩
 refine T2 ?_;apply CW.cond rfl<;>intro h
 ·simp at h
  refine TI ?_;refine ff (d.at a) h rfl SX (fun q=>?_);refine Tl ?_;refine CW.cond rfl (fun c=>?_) (fun c=>?_)
  ·refine Th ?_
   refine bi rfl rfl ⟨?_,a⟩;rw[xT h hn c]
  ·refine Tj ?_
   refine EX.back (k+1) SL ⟨h,a,?_⟩ SM;intro j b f
   by_cases e:j=k
   ·subst e;exact c
   ·exact hn j b SM
 ·simp at h
  refine TO ?_;refine bi rfl rfl ⟨?_,a⟩;rw[xY (fun j b=>hn j b SM)]
def mg(w0:World){ao:Option Addr}{cap:Nat}{xs:List Int}(x:Int)(a:Sl w0 (dl w0) ao cap xs):
  Rt UA 192 [.slice ao xs.length cap,Te x].toArray w0 fun v w'=>v=.bool (xs.contains x)/\Ext w0 w':=by
 refine dV Tryz.func192 Tryz.ntmps192 rfl rfl ?_;refine T2 ?_;refine eN (yx w0 x a) ?_;rintro v w' ⟨rfl,b⟩
 refine Tk ?_;refine bi rfl rfl ⟨?_,b⟩;rw[<-List.any_beq,<-xR]
def yp(w0:World){ao:Option Addr}{cap:Nat}{xs:List (List Int)}{fv:Value}(p:List Int->Bool)(f:Sl w0 (dl w0) ao cap xs)
  (hf:∀w,Ext w0 w->∀i (h:i<xs.length) u,Rd w (dl w0) u xs[i]->FnV UA fv [u] w fun v w'=>v=.bool (p xs[i])/\Ext w w'):
  Rt UA 189 [.slice ao xs.length cap,fv].toArray w0 fun v w'=>v=Te (idxOf p xs)/\Ext w0 w':=by
 have m:=f.len63;refine dV Tryz.func189 Tryz.ntmps189 rfl rfl ?_;refine TR ?_;refine CW.loop (S:=Nat) (fun k=>[(0,.slice ao xs.length cap),(1,fv),(7,Te xs.length),(8,Te k)])
  (fun k w=>k<=xs.length/\Ext w0 w/\∀j (h:j<xs.length),j<k->p xs[j]=false) (fun k=>xs.length -k) 0 SL ⟨by omega,Ext.refl _,by omega⟩ ?_
 rintro k w ⟨n,b,hn⟩
 refine T2 ?_;apply CW.cond rfl<;>intro h
 ·simp at h
  refine TI ?_;refine fh (f.at b) h SX (fun u q g=>?_);refine eO rfl rfl rfl rfl (hf w b k h u g) ?_;rintro v w' ⟨rfl,a⟩
  refine T1 ?_;refine CW.cond rfl (fun d=>?_) (fun d=>?_)
  ·refine Th ?_
   refine bi rfl rfl ⟨?_,b.trans a⟩;rw[xT h hn d]
  ·refine Tj ?_
   refine EX.back (k+1) SL ⟨h,b.trans a,?_⟩ SM;intro j c l
   by_cases e:j=k
   ·subst e;exact d
   ·exact hn j c SM
 ·simp at h
  refine TO ?_;refine bi rfl rfl ⟨?_,b⟩;rw[xY (fun j c=>hn j c SM)]
def md(w0:World){ao:Option Addr}{cap:Nat}{xs:List (List Int)}{fv:Value}(p:List Int->Bool)(a:Sl w0 (dl w0) ao cap xs)
  (hf:∀w,Ext w0 w->∀i (h:i<xs.length) u,Rd w (dl w0) u xs[i]->FnV UA fv [u] w fun v w'=>v=.bool (p xs[i])/\Ext w w'):
  Rt UA 110 [.slice ao xs.length cap,fv].toArray w0 fun v w'=>v=.bool (xs.any p)/\Ext w0 w':=by
 refine dV Tryz.func110 Tryz.ntmps110 rfl rfl ?_;refine T2 ?_;refine eN (yp w0 p a hf) ?_;rintro v w' ⟨rfl,b⟩
 refine Tk ?_;refine bi rfl rfl ⟨?_,b⟩;rw[<-xR]
def KA(w0:World){ao:Option Addr}{cap:Nat}(hs:Sl w0 F ao cap g)(hF:∀b,F b->b<w0.heap.size)(hg:okG g)(hl:g.length<=1099511627776):
  Rt UA 69 [.slice ao g.length cap].toArray w0 fun v w'=>∃vs,OwnN w' w0.heap.size 39 3 v vs (Kn g)/\Ext w0 w':=by
 refine dU Tryz.func69 Tryz.ntmps69 rfl rfl ?_;refine TR ?_;refine fK (α:=Raw) rfl rfl rfl rfl SM SS (fun W ho1 T=>?_);have V:Ext w0 W:=(MW _ _).grown T Ta S5;generalize hsv:Value.slice (some ⟨w0.heap.size,0,none⟩) g.length g.length=sv at*
 have M:OwnN W w0.heap.size 39 3 sv _ (List.replicate g.length ([]:List Int)):=OwnN.made ho1;rw[<-Ky]at M
 refine TR ?_;refine CW.loop (S:=Nat×List Raw) (fun s=>[(3,sv),(12,.slice ao g.length cap),(13,Te g.length),(14,Te s.1)])
  (fun s w=>s.1<=g.length/\OwnN w w0.heap.size 39 3 sv s.2 (Ks g s.1 0)/\Ext w0 w) (fun s=>g.length -s.1) (0,_) SL ⟨by omega,M,V⟩ ?_
 rintro⟨n,vs⟩ w ⟨hn,d,N⟩
 dsimp only at hn d
 refine T2 ?_;apply CW.cond rfl<;>intro l
 ·simp at l
  refine TL ?_;have Q:Sl w F ao cap g:=hs.mono (fun b C=>N.block b (hF b C)) fun _ h=>h
  refine fh Q l SX (fun u q z=>?_);obtain⟨lo,P,rfl,t⟩:=z.sl;have R:=t.len63
  try dsimp only at R t
  have erow:g.getD n []=g[n]:=by rw[Oi,On l];rfl
  refine TR ?_;refine CW.loop (S:=Nat×List Raw) (fun s=>[(3,sv),(4,Te n),(12,.slice ao g.length cap),(13,Te g.length),(14,Te n),(19,.slice lo g[n].length P),(20,Te g[n].length),(21,Te s.1)])
   (fun s w=>s.1<=g[n].length/\OwnN w w0.heap.size 39 3 sv s.2 (Ks g n s.1)/\Ext w0 w) (fun s=>g[n].length -s.1) (0,vs) SL ⟨by omega,d,N⟩ ?_
  rintro⟨j,vs⟩ Y ⟨hj,d,i⟩
  dsimp only at hj d
  have H:=d.len;rw[Ku]at H
  refine T2 ?_;refine CW.cond rfl (fun h1=>?_) (fun h1=>?_)<;>simp at h1
  ·have D:Sl Y F lo P g[n]:=t.mono (fun b C=>(i.block b (hF b C)).trans (N.block b (hF b C)).symm) fun _ h=>h
   have hk:=hg _ (OG l) _ (OG h1);obtain⟨k,ek⟩:=Nn hk.1;have I:k<g.length:=by omega
   have f:k<vs.length:=by omega
   have J:j<(g.getD n []).length:=by rw[erow];exact h1
   have ek':(g.getD n [])[j]=(k:Int):=by simp only[erow];exact ek
   refine T7 ?_;refine ff D h1 ek SX (fun q=>?_);refine T2 ?_;refine fj rfl rfl rfl rfl rfl d.out f SX (fun u q z=>?_);obtain⟨rfl,_⟩:=z.raw;have o:=d.inn k f (by rw[Ku];exact I);rw[Kt]at o
   have Z:=Kc g n j k;obtain⟨io,ic,hiv⟩:=o.val;refine fB rfl rfl rfl o ?_;refine Ue ?_;apply WL.nil;apply bE;generalize A:Ka g n j k=row at*
   refine az [(3,sv),(4,Te n),(7,Te k),(12,.slice ao g.length cap),(13,Te g.length),(14,Te n),(19,.slice lo g[n].length P),(20,Te g[n].length),(21,Te j),(43,.bool (!((g.getD n []).take j).contains (k:Int)))] ?_ ?_
   ·refine TP ?_
    (refine fJ rfl rfl (fun h=>?_) (fun h=>?_))<;>simp at h
    ·have y:((g.getD n []).take j).contains (k:Int)=false:=Kf (by rw[A];simp[h])
     rw[y];refine Ul ?_;exact WL.nil (aX SL)
    ·have E:0<row.length:=by cases row with|nil=>exact absurd rfl h|cons x r=>simp
     refine Ue ?_;refine fj rfl rfl rfl rfl rfl d.out f SX (fun u q z=>?_);obtain⟨rfl,_⟩:=z.raw;refine Ul ?_;refine fi rfl rfl rfl rfl rfl o SM SM SX (fun u q z=>?_);obtain rfl:=z.int;have c:=Kb (g:=g) (n:=n) (j:=j) (m:=k) (by rw[A];exact E);simp only[A]at c
     have ei:((row.length:Int) -1).toNat=row.length -1:=by omega
     have e:(row[((row.length:Int) -1).toNat]'SM != (n:Int))=(!((g.getD n []).take j).contains (k:Int)):=by
      simp only[ei];cases y:((g.getD n []).take j).contains (k:Int)
      ·rw[y]at c;simpa[R2]using c
      ·rw[y]at c;simpa[R2]using c
     rw[<-e];refine Ue ?_;exact WL.nil (aX SL)
   ·apply CW.cond rfl<;>intro y
    ·have y:((g.getD n []).take j).contains (k:Int)=false:=by simpa using y
     refine TP ?_;refine fj rfl rfl rfl rfl rfl d.out f SX (fun u q z=>?_);obtain⟨rfl,_⟩:=z.raw;refine Ue ?_;refine eH (F:=di) (yv:=(n:Int)) rfl rfl SX rfl rfl SX o S_ i.size S0 SP SS SM (fun O w3 p ho3 B hnb=>?_);have G:=d.mid f B;refine f6 (u:=O) (yv:=⟨O⟩) rfl rfl rfl rfl G f SX SX (Rd.mkRaw _ _ _ ?_) (fun X q ho4 K=>?_)
     ·obtain⟨a,b,rfl⟩:=ho3.val;rfl
     have L:=d.set f ho3 B hnb ho4 K;rw[<-A,Kx J ek' I y]at L
     have U:Ext w0 X:=(i.grown B i.size (fun b C=>(o.lt b C).1)).grown K (Qk i.size B.size) (fun b C=>(d.out.lt b C).1);refine Tn ?_;exact EX.back (j+1,vs.set k ⟨O⟩) SL ⟨h1,L,U⟩ (by simp only;omega)
    ·have y:((g.getD n []).take j).contains (k:Int)=true:=by simpa using y
     refine Tj ?_;rw[Kw J ek' y]at d
     exact EX.back (j+1,vs) SL ⟨h1,d,i⟩ (by simp only;omega)
  ·have:j=g[n].length:=by omega
   subst this;rw[<-erow,<-Kv]at d
   refine To ?_;exact EX.back (n+1,vs) SL ⟨l,d,i⟩ (by simp only;omega)
 ·simp at l
  have:n=g.length:=by omega
  subst this;refine TO ?_;exact bj ⟨vs,d,N⟩
def bm{n:Nat}{σ:Sg}{t u s:Nat}{x y:Value}(i:I.results=#[.tmp t,.tmp u,.tmp s])(f:fnd σ t=some v)(d:fnd σ u=some x)(g:fnd σ s=some y)(h:c (.tuple ⟨[v,x,y]⟩) w):
  EX (bodyPost P I fun e w'=>∃v,e=.returned v/\c v w') .ret n σ w:=by
 unfold EX;intro a b
 exact R3 (results_tmp3 i _ _ _) b.defers ⟨_,by rw[b.slot t v f,b.slot u x d,b.slot s y g],h⟩
def qz{to:List Bool}{n:Nat}(h:n<to.length):qx to (n+1)=qx to n++(if to[n]=true then [(n:Int)]else []):=by
 unfold qx;rw[PL,N6,Pb];have:to.getD n false=to[n]:=by rw[Oi,On h];rfl
 cases e:to[n]<;>rw[e]at this<;>simp at this<;>simp[this]
def tj{d:List Int}{n k:Nat}{v:Int}(h:n<d.length):(d.set n v).getD k 0=if n=k then v else d.getD k 0:=by
 rw[Oi,Oi,Ow];split
 ·rename_i e;simp[h]
 ·rfl
def Km(g:List (List Int)):List (List Int):=if kN g=0 then Kn g else []
def eB(w0:World){ao:Option Addr}{cap:Nat}(d:Sl w0 (dl w0) ao cap g):
  Rt UA 30 [.slice ao g.length cap].toArray w0 fun r w'=>∃v vs,r=.tuple ⟨[v,Te (kN g)]⟩/\OwnN w' w0.heap.size 39 3 v vs (Km g)/\Ext w0 w':=by
 refine dU Tryz.func30 Tryz.ntmps30 rfl rfl ?_;refine T2 ?_;refine eN (ly w0 d) ?_;rintro v e ⟨rfl,a⟩
 unfold Km;refine T2 ?_;apply CW.cond rfl<;>intro h
 ·have b:kN g≠0:=by simpa using h
  refine Tw ?_;exact bl rfl rfl rfl ⟨.slice none 0 0,[],rfl,by rw[Si b];exact OwnN.nil,a⟩
 ·have b:kN g=0:=by simpa using h
  obtain⟨i,f⟩:=kP b;refine TL ?_;refine eN (KA e (d.up a) S3 i SM) ?_;rintro v k ⟨vs,j,c⟩
  refine Tk ?_;exact bl rfl rfl rfl ⟨v,vs,by rw[b],by rw[Sj b];exact j.low a.size,a.trans c⟩
def qC(w0:World){ao lo:Option Addr}{cap:Nat}{to:List Bool}(hs:Sl w0 F ao cap g)(ht:Sl w0 F lo B to)(hF:∀b,F b->b<w0.heap.size)(N:okG g)(hl:g.length<=1099511627776)(htl:to.length=g.length):
  Rt UA 136 [.slice ao g.length cap,.slice lo to.length B].toArray w0 fun v w'=>Own w' w0.heap.size 3 di v (qu g to)/\Ext w0 w':=by
 refine dV Tryz.func136 Tryz.ntmps136 rfl rfl ?_;refine T2 ?_;refine eN (KA w0 hs hF N hl) ?_;rintro bv i ⟨bs,T,U⟩
 refine TR ?_;refine fK (α:=Int) rfl rfl rfl rfl SM SS (fun w2 ho2 hg2=>?_);have hE2:Ext i w2:=(MW _ _).grown hg2 Ta S5;have hN2:=T.ext hE2;have hE12:=U.trans hE2;generalize hdv:Value.slice (some ⟨i.heap.size,0,none⟩) g.length g.length=dv at*
 have K:dv.ownBlock=some i.heap.size:=by rw[<-hdv];rfl
 have hbb:∀b,OwnN.blk bv bs b->b<i.heap.size:=fun b t=>(T.lt b t).2
 refine TR ?_;refine CW.loop (S:=Nat×List Int×Value) (fun s=>[(5,bv),(6,dv),(7,s.2.2),(18,.slice lo to.length B),(19,Te to.length),(20,Te s.1)])
  (fun s w=>s.1<=to.length/\s.2.1.length=g.length/\(∀k,k<s.1->s.2.1.getD k 0=(qn to).getD k 0)/\Own w i.heap.size 3 di dv s.2.1/\Own w i.heap.size 3 di s.2.2 (qx to s.1)/\(∀b,s.2.2.ownBlock=some b->b≠i.heap.size)/\Ext i w) (fun s=>to.length -s.1) (0,List.replicate g.length 0,.slice none 0 0) SL ⟨by omega,by simp,fun k hk=>absurd hk SQ,ho2,by simpa[qx]using Own.nil,fun b t=>by simp[Value.ownBlock]at t,hE2⟩ ?_
 rintro⟨n,d,nv⟩ w ⟨hn,Z,O,A,J,y,hE⟩
 dsimp only at hn Z O A J y
 have hnl:=qy to n;refine T2 ?_;apply CW.cond rfl<;>intro C
 ·simp at C
  have hs0:w0.heap.size<=i.heap.size:=U.size;have ht':Sl w F lo B to:=ht.mono (fun b t=>(U.trans hE).block b (hF b t)) fun _ h=>h
  have eD:∀k,k<n+1->(d.set n (if to[n]=true then 0 else -1)).getD k 0=(qn to).getD k 0:=by
   intro k hk
   rw[tj SM];split
   ·rename_i e
    subst e;rw[s_ (by simp[qn];exact C),qp];rw[Oi,On C];rfl
   ·exact O k SM
  refine TL ?_;refine fd rfl rfl rfl rfl rfl ht' C rfl SX (fun q=>?_);refine T2 ?_;refine f6 (u:=Te (-1)) (yv:=(-1:Int)) rfl rfl rfl rfl A SM SX SX S_ (fun w3 q ho3 hg3=>?_);have E:Ext i w3:=hE.grown hg3 hE.size (fun b t=>(A.lt b t).1);have l:=J.keptN hg3 (fun g N=>by rw[K];simpa using y g N);refine T2 ?_;apply CW.cond rfl<;>intro t
  ·rw[Sj t]at eD
   refine TP ?_;refine f6 (u:=Te 0) (yv:=(0:Int)) rfl rfl rfl rfl ho3 (by rw[O7];omega) SX SX S_ (fun w4 q ho4 R=>?_);rw[List.set_set]at ho4
   have M:Ext i w4:=E.grown R E.size (fun b t=>(A.lt b t).1);have H:=l.keptN R (fun g N=>by rw[K];simpa using y g N);apply WL.nil;apply bE;apply CW.region;refine Ue ?_;refine eH (F:=di) (yv:=(n:Int)) rfl rfl SX rfl rfl SX H S_ M.size S0 SP SS SM (fun v' w5 p ho5 Q hnb=>?_);have hE5:Ext i w5:=M.grown Q M.size (fun b t=>(H.lt b t).1);have hd5:=ho4.keptN Q (fun g N e=>by rw[K]at N;cases N;exact y _ e.symm rfl);refine Tn ?_;refine EX.back (n+1,d.set n 0,v') SL ⟨C,by simp[Z],eD,hd5,?_,?_,hE5⟩ (by simp only;omega)
   ·dsimp only;rw[qz C,Sj t];exact ho5
   ·intro b hb'
    rcases hnb b hb' with h|h
    ·exact y b h
    ·have:=(ho4.lt _ K).2.1;omega
  ·rw[Si (by simp[t])]at eD
   refine Tj ?_;refine EX.back (n+1,d.set n (-1),nv) SL ⟨C,by simp[Z],eD,ho3,?_,y,E⟩ (by simp only;omega);dsimp only;rw[qz C,Si (by simp[t]),NG];exact l
 ·simp at C
  have:n=to.length:=by omega
  subst this;have hd0:d=qn to:=by
   apply N4 (by rw[Z];simp[qn,htl]);intro k h1 h2
   have:=O k SM;rwa[s_ h1,s_ h2]at this
  subst hd0;have hI:=FInv.start htl;have P:(qx to to.length).length+BG (qn to)<=2*g.length+2:=by
   have:=qq to;omega
  have G:∀f,(qx to to.length).length+BG (qn to)<=f->qr (Kn g) f (qn to) (qx to to.length)=qu g to:=fun f hf=>qs f _ _ _ hI hf P
  refine Ub ?_;refine CW.loop (S:=List Int×List Int×Value) (fun s=>[(5,bv),(6,dv),(7,s.2.2)])
   (fun s w=>FInv g to s.1 s.2.1 none/\(∀f,s.2.1.length+BG s.1<=f->qr (Kn g) f s.1 s.2.1=qu g to)/\s.2.1.length+BG s.1<=2*g.length+2/\Own w i.heap.size 3 di dv s.1/\Own w i.heap.size 3 di s.2.2 s.2.1/\(∀b,s.2.2.ownBlock=some b->b≠i.heap.size)/\Ext i w) (fun s=>s.2.1.length+BG s.1) (qn to,qx to to.length,nv) SL ⟨hI,G,P,A,J,y,hE⟩ ?_
  rintro⟨d,now,nv⟩ w ⟨hI,G,hm,A,J,y,hE⟩
  dsimp only at hI G hm A J y
  refine TU ?_;apply CW.cond rfl<;>intro h0
  ·simp at h0
   match now,h0 with
   |x::r,_=>
   obtain⟨m,rfl,hmg,hp⟩:=hI.pop;have hml:m<bs.length:=by have:=T.len;rw[Ko]at this;omega
   have hNw:=T.ext hE;have W:m<(Kn g).length:=by rw[Ko];exact hmg
   have erow:(Kn g)[m]=(Kn g).getD m []:=by rw[Oi,On W];rfl
   have hin:=hNw.inn m hml W;rw[erow]at hin
   have hrow:=(hin.oldN);obtain⟨io,ic,hiv,hrs⟩:=hrow.sl;have hrl:=hrs.len63;generalize V:(Kn g).getD m []=row at*
   refine TL ?_;refine fi rfl rfl rfl rfl rfl J SM SQ SX (fun u q hu=>?_);obtain rfl:=hu.int;simp only[Int.toNat_zero,OD];refine T2 ?_;refine eZ (α:=Int) 1 rfl rfl rfl rfl rfl J SQ (fun nv2 hon2 hnb=>?_);simp only[NY,NZ]at hon2
   have hne2:∀b,nv2.ownBlock=some b->b≠i.heap.size:=fun b t=>y b (by rw[<-hnb];exact t)
   refine T2 ?_;refine fj rfl rfl rfl rfl rfl hNw.out hml SX (fun u q hu=>?_);obtain⟨rfl,_⟩:=hu.raw;rw[hiv];refine TR ?_;have hm':r.length+1+BG d<=2*g.length+2:=by simpa using hm
   refine CW.loop (S:=Nat×List Int×List Int×Value) (fun s=>[(5,bv),(6,dv),(7,s.2.2.2),(10,Te m),(48,.slice io row.length ic),(49,Te row.length),(50,Te s.1)])
    (fun s w=>s.1<=row.length/\(s.2.1,s.2.2.1)=(row.take s.1).foldl (qB m) (d,r)/\FInv g to s.2.1 s.2.2.1 (some (m,s.1))/\s.2.2.1.length+BG s.2.1=r.length+BG d/\Own w i.heap.size 3 di dv s.2.1/\Own w i.heap.size 3 di s.2.2.2 s.2.2.1/\(∀b,s.2.2.2.ownBlock=some b->b≠i.heap.size)/\Ext i w) (fun s=>row.length -s.1) (0,d,r,nv2) SL ⟨by omega,rfl,hp,rfl,A,hon2,hne2,hE⟩ ?_
   rintro⟨j,d2,now2,nv3⟩ w3 ⟨hj,D,L,hm3,o,l,z,E⟩
   dsimp only at hj D L hm3 o l z
   refine T2 ?_;apply CW.cond rfl<;>intro h1
   ·simp at h1
    have hrow3:Sl w3 (dl i) io ic row:=by
     have:=(T.inn m hml W);rw[erow]at this
     obtain⟨a,b,e1,e2⟩:=this.oldN.sl;rw[hiv]at e1
     obtain⟨rfl,_,rfl⟩:=RS e1;exact e2.at E
    have I:=L.step (j:=j) (k:=row[j]) (by rw[V];exact h1) (by simp only[V]);have c:qB m (d2,now2) row[j]=(row.take (j+1)).foldl (qB m) (d,r):=by
     rw[PZ h1,Of,<-D];rfl
    have hk:0<=row[j]/\row[j]<g.length:=by
     have:=Kq g _ (OG W) row[j] (by rw[erow];exact OG h1);rwa[Ko]at this
    have X:=(L.curd m j rfl).1;have hmv:=(L.curd m j rfl).2.1;have hle:=L.le m X;obtain⟨k,ek⟩:=Nn hk.1;rw[ek]at I c
    have Y:k<d2.length:=by rw[L.len];omega
    refine T7 ?_;refine ff hrow3 h1 ek SX (fun q=>?_);refine T2 ?_;refine fj rfl rfl rfl rfl rfl o Y SX (fun u q hu=>?_);obtain rfl:=hu.int;refine Tl ?_;apply CW.cond rfl<;>intro h2
    ·have h2:d2[k]<0:=by simpa using h2
     have eS:qB m (d2,now2) (k:Int)=(d2.set k (d2[m]+1),now2++[(k:Int)]):=by
      unfold qB;simp only[Nt,s_ Y,s_ X];rw[Sj h2]
     rw[eS]at I c
     dsimp only at I
     refine TP ?_;refine fj rfl rfl rfl rfl rfl o X SX (fun u q hu=>?_);obtain rfl:=hu.int;refine Uj ?_;refine f6 (u:=Te (d2[m]+1)) (yv:=d2[m]+1) rfl rfl rfl rfl o Y SX SX S_ (fun w4 q ho4 R=>?_);have M:Ext i w4:=E.grown R E.size (fun b t=>(o.lt b t).1);have H:=l.keptN R (fun g N=>by rw[K];simpa using z g N);apply WL.nil;apply bE;apply CW.region;refine Ue ?_;refine eH (F:=di) (yv:=(k:Int)) rfl rfl SX rfl rfl SX H S_ M.size S0 SP SS SM (fun v' w5 p ho5 Q hnb5=>?_);have hE5:Ext i w5:=M.grown Q M.size (fun b t=>(H.lt b t).1);have hd5:=ho4.keptN Q (fun g N e=>by rw[K]at N;cases N;exact z _ e.symm rfl);refine Tn ?_;refine EX.back (j+1,d2.set k (d2[m]+1),now2++[(k:Int)],v') SL ⟨h1,c,I.1,by rw[I.2];exact hm3,hd5,ho5,?_,hE5⟩ (by simp only;omega);intro b hb'
     rcases hnb5 b hb' with h|h
     ·exact z b h
     ·have:=(ho4.lt _ K).2.1;omega
    ·have h2:¬d2[k]<0:=by simpa using h2
     have eS:qB m (d2,now2) (k:Int)=(d2,now2):=by
      unfold qB;simp only[Nt,s_ Y,s_ X];rw[Si h2]
     rw[eS]at I c
     refine Tj ?_;exact EX.back (j+1,d2,now2,nv3) SL ⟨h1,c,I.1,hm3,o,l,z,E⟩ (by simp only;omega)
   ·simp at h1
    have:j=row.length:=by omega
    subst this;rw[PV]at D
    have hI4:FInv g to d2 now2 none:=FInv.over (by rw[V];exact L);refine Tt ?_;refine EX.back (d2,now2,nv3) SL ⟨hI4,fun f hf=>?_,by simp only;omega,o,l,z,E⟩ (by simp only[OU];omega);have:=G (f+1) (by simp only[OU];dsimp only at hf;omega);have e:qr (Kn g) (f+1) d ((m:Int)::r)=qr (Kn g) f d2 now2:=by rw[qr,Nt,V,<-D]
    rw[e]at this
    exact this
  ·have hn0:now=[]:=by simpa using h0
   subst hn0;have hfin:d=qu g to:=by
    have:=G (BG d) SQ;rw[<-this];cases BG d<;>rfl
   subst hfin;refine TO ?_;exact bj ⟨A.low U.size,U.trans hE⟩
structure Chg(S:Nat->Prop)(w w':World):Prop where
 os:w'.os=w.os
 tape:w'.tape=w.tape
 output:w'.output=w.output
 size:w.heap.size<=w'.heap.size
 block:∀k,k<w.heap.size->¬S k->w'.heap[k]?=w.heap[k]?
def Chg.refl(S:Nat->Prop)(w:World):Chg S w w:=⟨rfl,rfl,rfl,Qj _,fun _ _ _=>rfl⟩
def Chg.grown{S:Nat->Prop}{w' w'':World}{row:Option Nat}(h:Chg S w w')(a:w'.grownBy w'' row)(d:∀g,row=some g->S g):Chg S w w'':=
 ⟨a.os.trans h.os,a.tape.trans h.tape,a.output.trans h.output,Qk h.size a.size,fun k c b=>(a.block k (Qn c h.size) (fun e=>b (d k e.symm))).trans (h.block k c b)⟩
def Chg.ext{S:Nat->Prop}{a w':World}(c:Ext a w)(h:Chg S w w')(hS:∀b,S b->a.heap.size<=b):Ext a w':=
 ⟨h.os.trans c.os,h.tape.trans c.tape,h.output.trans c.output,Qk c.size h.size,fun k d=>(h.block k (Qn d c.size) (fun e=>by have:=hS k e;omega)).trans (c.block k d)⟩
def Own.chg[Rep α]{S:Nat->Prop}{w':World}{e:TypeId}{xs:List α}(h:Own w B e di v xs)(c:Chg S w w')(hn:∀b,v.ownBlock=some b->¬S b):Own w' B e di v xs:=
 h.keep (fun g a=>c.block g (h.lt g a).2.1 (hn g a)) fun _ h=>h.elim
def Rch.trans{g:bZ}{b c:Nat}(h1:Rch g [(a:Int)] b)(h2:Rch g [(b:Int)] c):Rch g [(a:Int)] c:=by
 induction h2 with
 |@base x d=>
  have:x=(b:Int):=by simpa using d
  subst this;simpa using h1
 |step _ d e=>exact .step e d
def Rch.self{g:bZ}(a:Nat):Rch g [(a:Int)] a:=by
 have:=Rch.base (g:=g) (from':=[(a:Int)]) (x:=(a:Int)) SQ;simpa using this
def Rch.edge{g:bZ}{b:Nat}(h:(b:Int)∈g.getD a []):Rch g [(a:Int)] b:=by
 have:=Rch.step (Rch.self (g:=g) a) h;simpa using this
structure Tf where
 v:Nat
 i:Nat
 seg:List Nat
structure Ts where
 num:List Int
 low:List Int
 part:List Int
 count:Int
 got:Int
def Ts.nm(s:Ts)(n:Nat):Int:=s.num.getD n 0
def Ts.lw(s:Ts)(n:Nat):Int:=s.low.getD n 0
def Ts.pt(s:Ts)(n:Nat):Int:=s.part.getD n (-1)
def stk:List Tf->List Nat
 |[]=>[]
 |f::r=>stk r++f.v::f.seg
def FJ(g:bZ)(n:Nat):List Int:=g.getD n []
def seen(g:bZ)(f:Tf)(u:Nat)(w:Int):Prop:=(u=f.v/\w∈(FJ g u).take f.i)\/(u∈f.seg/\w∈FJ g u)
structure FrOK(g:bZ)(s:Ts)(S:List Nat)(f:Tf):Prop where
 i:f.i<=(FJ g f.v).length
 vis:∀u w,seen g f u w->0<s.nm w.toNat
 out:∀u∈f.seg,Rch g [(f.v:Int)] u
 back:∀u∈f.seg,Rch g [(u:Int)] f.v
 le:s.lw f.v<=s.nm f.v
 wit:∃x∈S,s.nm x=s.lw f.v/\Rch g [(f.v:Int)] x
 all:∀u w,seen g f u w->w.toNat∈S->s.lw f.v<=s.nm w.toNat
def j8(g:bZ):List Tf->Prop
 |[]=>True
 |[_]=>True
 |f::h::r=>Rch g [(h.v:Int)] f.v/\j8 g (h::r)
structure TInv(g:bZ)(s:Ts)(fs:List Tf):Prop where
 ln:s.num.length=g.length
 ll:s.low.length=g.length
 lp:s.part.length=g.length
 inG:∀n∈stk fs,n<g.length
 vis:∀n,n<g.length->(0<s.nm n↔n∈stk fs\/0<=s.pt n)
 non:∀n,n<g.length->0<=s.nm n
 off:∀n∈stk fs,s.pt n<0
 asc:(stk fs).Pairwise fun a b=>s.nm a<s.nm b
 top:∀n,n<g.length->s.nm n<=s.count
 c0:0<=s.count
 frs:∀f∈fs,FrOK g s (stk fs) f
 chn:j8 g fs
 clo:∀n,n<g.length->0<=s.pt n->∀w∈FJ g n,0<=s.pt w.toNat
 ptl:∀n,n<g.length->s.pt n<s.got
 g0:0<=s.got
 cn:s.count+(s.num.countP fun x=>decide (x=0):Nat)=g.length
 gn:s.got+(BG s.part:Nat)<=g.length
 scc:∀a b,a<g.length->b<g.length->0<=s.pt a->0<=s.pt b->(s.pt a=s.pt b↔Rch g [(a:Int)] b/\Rch g [(b:Int)] a)
def ti{l:List Int}{n k:Nat}{d:Int}(h:n<l.length):(l.set n x).getD k d=if n=k then x else l.getD k d:=by
 rw[Oi,Oi,Ow];split
 ·rename_i e;simp[h]
 ·rfl
def IW(n:Nat)(s:Ts):Ts:={s with num:=s.num.set n (s.count+1),low:=s.low.set n (s.count+1),count:=s.count+1}
def I4(n:Nat)(x:Int)(s:Ts):Ts:={s with low:=s.low.set n x}
def G8(p:List Int)(D:List Nat)(x:Int):List Int:=D.foldr (fun n p=>p.set n x) p
def IY(D:List Nat)(s:Ts):Ts:={s with part:=G8 s.part D s.got,got:=s.got+1}
def G_(p:List Int)(x:Int):∀D,(G8 p D x).length=p.length
 |[]=>rfl
 |n::D=>by simp only[G8,Oh,O7];exact G_ p x D
def G9{p:List Int}{x:Int}:∀{D:List Nat},(∀n∈D,n<p.length)->∀k,(G8 p D x).getD k (-1)=if k∈D then x else p.getD k (-1)
 |[],_,k=>by simp[G8]
 |n::D,h,k=>by
  have hn:=h n SQ;have a:=G9 (x:=x) (D:=D) (fun m b=>h m (by simp[b])) k;simp only[G8,Oh]at a⊢
  rw[ti (by have:=G_ p x D;simp only[G8]at this;rw[this];exact hn),a];by_cases e:n=k
  ·simp[e]
  ·rw[Si e]
   simp only[Pk,QN e,false_or]
section
variable {g:bZ}{s:Ts}{fs:List Tf}{f h:Tf}{r:List Tf}
theorem Bn{n:Nat}:n∈stk (f::r)↔n∈stk r\/n=f.v\/n∈f.seg:=by simp[stk]
theorem rX:∀{fs:List Tf} {f:Tf},f∈fs->f.v∈stk fs
 |x::r,f,hf=>by
  rw[Bn];rcases Pk.1 hf with rfl|hf
  ·exact .inr (.inl rfl)
  ·exact .inl (rX hf)
theorem TInv.nodup(h:TInv g s fs):(stk fs).Nodup:=h.asc.imp fun a e=>by rw[e]at a;exact absurd a (Np _)
theorem TInv.below(h:TInv g s (f::r)):∀x∈stk r,s.nm x<s.nm f.v:=by
 intro x a
 have:=h.asc;simp only[stk]at this
 rw[PG]at this
 exact this.2.2 x a f.v SQ
theorem TInv.above(h:TInv g s (f::r)):∀x,x=f.v\/x∈f.seg->s.nm f.v<=s.nm x:=by
 intro x a
 have:=h.asc;simp only[stk]at this
 rw[PG,PH]at this
 rcases a with rfl|a
 ·exact No _
 ·exact Int.le_of_lt (this.2.1.1 x a)
theorem TInv.vne(h:TInv g s (f::r)){k:Tf}(a:k∈r):k.v≠f.v:=fun e=>by
 have:=h.below k.v (rX a);rw[e]at this
 exact absurd this (Np _)
theorem TInv.fin(h:TInv g s (f::r)):f.v<g.length:=h.inG f.v (rX SQ)
theorem j_(h:j8 g (f::r)):j8 g r:=by
 cases r with
 |nil=>trivial
 |cons k r=>exact h.2
theorem K7:∀{r:List Tf} {f:Tf},(∀k∈f::r,∀u∈k.seg,Rch g [(u:Int)] k.v)->j8 g (f::r)->∀x∈stk (f::r),Rch g [(x:Int)] f.v:=by
 intro r
 induction r with
 |nil=>
  intro f b c x a
  rw[Bn]at a
  rcases a with a|rfl|a
  ·simp[stk]at a
  ·exact Rch.self _
  ·exact b f SQ x a
 |cons k r d=>
  intro f b c x a
  rw[Bn]at a
  rcases a with a|rfl|a
  ·have h1:=d (f:=k) (fun f hf=>b f (Pl _ hf)) c.2 x a
   exact h1.trans c.1
  ·exact Rch.self _
  ·exact b f SQ x a
end
def countP_set{p:Int->Bool}{d:List Int}{k:Nat}{v:Int}(b:k<d.length)(h:p d[k]=true)(a:p v=false):(d.set k v).countP p+1=d.countP p:=by
 have e:d=d.take k++d[k]::d.drop (k+1):=by simp
 have c:d.set k v=d.take k++v::d.drop (k+1):=by rw[PO,Sj b]
 rw[c]
 conv=>rhs;rw[e]
 simp only[NL,NM,h,a,Sk];simp;omega
def Ha{p:List Int}{x:Int}(d:0<=x):∀{D:List Nat},D.Nodup->(∀n∈D,n<p.length)->(∀n∈D,p.getD n (-1)<0)->BG (G8 p D x)+D.length=BG p
 |[],_,_,_=>rfl
 |n::D,hd,c,hn=>by
  rw[PC]at hd
  have i:=Ha d (D:=D) hd.2 (fun m b=>c m (by simp[b])) (fun m b=>hn m (by simp[b]));have a:n<(G8 p D x).length:=by rw[G_];exact c n SQ
  have e:=G9 (x:=x) (D:=D) (fun m b=>c m (by simp[b])) n;rw[Si hd.1,s_ a]at e
  have:=BH a (v:=x) (by rw[e];exact hn n SQ) d;show BG ((G8 p D x).set n x)+(D.length+1)=_;omega
section
variable {g:bZ}{s:Ts}{fs:List Tf}{f h:Tf}{r:List Tf}
theorem BX{n k:Nat}(hn:n<s.num.length):(IW n s).nm k=if n=k then s.count+1 else s.nm k:=ti hn
theorem AT{n k:Nat}(hn:n<s.low.length):(IW n s).lw k=if n=k then s.count+1 else s.lw k:=ti hn
theorem AU{n k:Nat}{x:Int}(hn:n<s.low.length):(I4 n x s).lw k=if n=k then x else s.lw k:=ti hn
theorem TInv.unvis(h:TInv g s fs){n:Nat}(hn:n<g.length)(b:s.nm n=0):n∉stk fs/\s.pt n<0:=by
 have:=h.vis n hn;refine⟨fun a=>?_,?_⟩
 ·have:=this.2 (.inl a);omega
 ·apply Nq.1
  intro a
  have:=this.2 (.inr a);omega
theorem TInv.begin(h:TInv g s fs)(F:okG g){n:Nat}(hn:n<g.length)(E:s.nm n=0){gs:List Tf}(y:stk gs=stk fs)(B:∀k∈gs,FrOK g (IW n s) (stk fs++[n]) k)(C:j8 g (⟨n,0,[]⟩::gs)):
  TInv g (IW n s) (⟨n,0,[]⟩::gs):=by
 obtain⟨q,o⟩:=h.unvis hn E;have c:n<s.num.length:=by rw[h.ln];exact hn
 have j:n<s.low.length:=by rw[h.ll];exact hn
 have hS:stk (⟨n,0,[]⟩::gs)=stk fs++[n]:=by simp[stk,y]
 have G:=h.c0;have i:∀x∈stk fs,n≠x:=fun x d e=>q (e▸d)
 refine⟨by simp[IW,h.ln],by simp[IW,h.ll],h.lp,?_,?_,?_,?_,?_,?_,by simp only[IW];omega,?_,C,h.clo,h.ptl,h.g0,?_,h.gn,h.scc⟩
 ·intro x d
  rw[hS,Ph,Py]at d
  rcases d with d|rfl
  ·exact h.inG x d
  ·exact hn
 ·intro x d
  rw[hS,BX c,Ph,Py];by_cases e:n=x
  ·subst e
   rw[Sj rfl];exact⟨fun _=>.inl (.inr rfl),fun _=>by omega⟩
  ·rw[Si e,h.vis x d]
   constructor
   ·rintro(h1|h1)
    ·exact .inl (.inl h1)
    ·exact .inr h1
   ·rintro((h1|h1)|h1)
    ·exact .inl h1
    ·exact absurd h1.symm e
    ·exact .inr h1
 ·intro x d
  rw[BX c];split
  ·omega
  ·exact h.non x d
 ·intro x d
  rw[hS,Ph,Py]at d
  rcases d with d|rfl
  ·exact h.off x d
  ·exact o
 ·rw[hS,PG]
  refine⟨?_,by simp,?_⟩
  ·refine h.asc.imp_of_mem fun {a b} m l D=>?_
   rw[BX c,BX c,Si (i a m),Si (i b l)];exact D
  ·intro a m b l
   rw[Py]at l
   subst l;rw[BX c,BX c,Si (i a m),Sj rfl];have:=h.top a (h.inG a m);omega
 ·intro x d
  rw[BX c];show _<=s.count+1;split
  ·omega
  ·have:=h.top x d;omega
 ·intro k A
  rw[hS];rcases Pk.1 A with rfl|A
  ·refine⟨by simp,fun u w z=>?_,fun u t=>absurd t SQ,fun u t=>absurd t SQ,?_,⟨n,by simp,?_,Rch.self _⟩,fun u w z=>?_⟩
   ·rcases z with⟨_,h1⟩|⟨h1,_⟩
    ·simp at h1
    ·simp at h1
   ·dsimp only;rw[BX c,AT j,Sj rfl,Sj rfl];omega
   ·dsimp only;rw[BX c,AT j,Sj rfl,Sj rfl]
   ·rcases z with⟨_,h1⟩|⟨h1,_⟩
    ·simp at h1
    ·simp at h1
  ·exact B k A
 ·have h1:=countP_set (p:=fun x=>decide (x=0)) c (v:=s.count+1) (by have:s.num[n]=s.nm n:=(s_ c).symm;rw[this];simp[E]) ST
  have h2:=h.cn;simp only[IW];omega
theorem FrOK.begin(h:TInv g s fs){k:Tf}(o:k∈fs){n:Nat}(hn:n<g.length)(q:s.nm n=0):FrOK g (IW n s) (stk fs++[n]) k:=by
 obtain⟨j,p⟩:=h.unvis hn q;have a:n<s.num.length:=by rw[h.ln];exact hn
 have d:n<s.low.length:=by rw[h.ll];exact hn
 have t:=h.c0;have hF:=h.frs k o;have b:n≠k.v:=fun e=>j (e▸rX o)
 have l:∀u w,seen g k u w->w.toNat≠n:=fun u w c e=>by have:=hF.vis u w c;rw[e]at this;omega
 refine⟨hF.i,fun u w c=>?_,hF.out,hF.back,?_,?_,fun u w c i=>?_⟩
 ·rw[BX a,Si (QN (l u w c))];exact hF.vis u w c
 ·rw[BX a,AT d,Si b,Si b];exact hF.le
 ·obtain⟨x,h1,h2,h3⟩:=hF.wit
  refine⟨x,Pi _ h1,?_,h3⟩;have m:n≠x:=fun e=>j (e▸h1)
  rw[BX a,AT d,Si m,Si b];exact h2
 ·rw[Ph,Py]at i
  rcases i with i|i
  ·rw[BX a,AT d,Si b,Si (QN (l u w c))];exact hF.all u w c i
  ·exact absurd i (l u w c)
theorem TInv.root(h:TInv g s [])(b:okG g){n:Nat}(hn:n<g.length)(c:s.nm n=0):TInv g (IW n s) [⟨n,0,[]⟩]:=
 h.begin b hn c (gs:=[]) rfl (fun k a=>absurd a SQ) trivial
theorem FrOK.more(hF:FrOK g s (stk fs) f)(hi:f.i<(FJ g f.v).length){w:Nat}(d:(FJ g f.v)[f.i]=(w:Int))(e:0<s.nm w)(i:w∈stk fs->s.lw f.v<=s.nm w):FrOK g s (stk fs) ⟨f.v,f.i+1,f.seg⟩:=by
 have c:∀u x,seen g ⟨f.v,f.i+1,f.seg⟩ u x->seen g f u x\/x=(w:Int):=by
  rintro u x (⟨h1,h2⟩|h1)
  ·dsimp only at h1 h2
   subst h1;rw[PZ hi,Ph,Py,d]at h2
   rcases h2 with h2|h2
   ·exact .inl (.inl ⟨rfl,h2⟩)
   ·exact .inr h2
  ·exact .inl (.inr h1)
 refine⟨hi,fun u x b=>?_,hF.out,hF.back,hF.le,hF.wit,fun u x b a=>?_⟩
 ·rcases c u x b with h1|rfl
  ·exact hF.vis u x h1
  ·exact e
 ·rcases c u x b with h1|rfl
  ·exact hF.all u x h1 a
  ·exact i a
theorem TInv.moved(h:TInv g s (f::r))(hF:FrOK g s (stk (f::r)) ⟨f.v,f.i+1,f.seg⟩):TInv g s (⟨f.v,f.i+1,f.seg⟩::r):=by
 have hS:stk (⟨f.v,f.i+1,f.seg⟩::r)=stk (f::r):=rfl;refine⟨h.ln,h.ll,h.lp,h.inG,h.vis,h.non,h.off,h.asc,h.top,h.c0,?_,?_,h.clo,h.ptl,h.g0,h.cn,h.gn,h.scc⟩
 ·intro k a
  rw[hS];rcases Pk.1 a with rfl|a
  ·exact hF
  ·exact h.frs k (by simp[a])
 ·have:=h.chn
  cases r with
  |nil=>trivial
  |cons k r=>exact this
theorem TInv.shut(h:TInv g s (f::r))(hi:f.i<(FJ g f.v).length){w:Nat}(a:w<g.length)(c:(FJ g f.v)[f.i]=(w:Int))(d:0<=s.pt w):TInv g s (⟨f.v,f.i+1,f.seg⟩::r):=
 h.moved ((h.frs f SQ).more hi c ((h.vis w a).2 (.inr d)) (fun b=>by have:=h.off w b;omega))
theorem TInv.tree(h:TInv g s (f::r))(p:okG g)(hi:f.i<(FJ g f.v).length){w:Nat}(a:w<g.length)(n:(FJ g f.v)[f.i]=(w:Int))(d:s.nm w=0):TInv g (IW w s) (⟨w,0,[]⟩::⟨f.v,f.i+1,f.seg⟩::r):=by
 obtain⟨i,o⟩:=h.unvis a d;have c:w<s.num.length:=by rw[h.ln];exact a
 have l:w<s.low.length:=by rw[h.ll];exact a
 have j:w≠f.v:=fun e=>i (e▸rX SQ)
 have q:=h.c0;have b:(w:Int)∈g.getD f.v []:=by rw[<-n];exact OG _
 refine h.begin p a d (gs:=⟨f.v,f.i+1,f.seg⟩::r) rfl ?_ ?_
 ·intro k m
  rcases Pk.1 m with rfl|m
  ·have hF:=FrOK.begin h (k:=f) SQ a d
   have e:stk (⟨w,0,[]⟩::f::r)=stk (f::r)++[w]:=by simp[stk]
   rw[<-e]at hF⊢
   refine hF.more hi n ?_ (fun _=>?_)
   ·rw[BX c,Sj rfl];omega
   ·rw[BX c,AT l,Sj rfl,Si j]
    have h1:=(h.frs f SQ).le;have h2:=h.top f.v h.fin;omega
  ·exact FrOK.begin h (by simp[m]) a d
 ·refine⟨Rch.edge b,?_⟩
  have:=h.chn;cases r with
  |nil=>trivial
  |cons k r=>exact this
theorem TInv.lower(h:TInv g s (f::r)){x:Int}(i:x<=s.lw f.v)(j:∃y∈stk (f::r),s.nm y=x/\Rch g [(f.v:Int)] y):TInv g (I4 f.v x s) (f::r):=by
 have e:f.v<s.low.length:=by rw[h.ll];exact h.fin
 refine⟨h.ln,by simp[I4,h.ll],h.lp,h.inG,h.vis,h.non,h.off,h.asc,h.top,h.c0,?_,h.chn,h.clo,h.ptl,h.g0,h.cn,h.gn,h.scc⟩;intro k c
 have hF:=h.frs k c;have a:(I4 f.v x s).lw k.v=if f.v=k.v then x else s.lw k.v:=AU e
 rcases Pk.1 c with rfl|c
 ·rw[Sj rfl]at a
  refine⟨hF.i,hF.vis,hF.out,hF.back,?_,?_,fun u w d b=>?_⟩
  ·rw[a];exact Int.le_trans i hF.le
  ·rw[a];exact j
  ·rw[a];exact Int.le_trans i (hF.all u w d b)
 ·rw[Si (QN (h.vne c))]at a
  refine⟨hF.i,hF.vis,hF.out,hF.back,?_,?_,fun u w d b=>?_⟩
  ·rw[a];exact hF.le
  ·rw[a];exact hF.wit
  ·rw[a];exact hF.all u w d b
theorem TInv.back(h:TInv g s (f::r))(hi:f.i<(FJ g f.v).length){w:Nat}(c:w<g.length)(j:(FJ g f.v)[f.i]=(w:Int))(m:s.nm w≠0)(l:s.pt w<0):TInv g (I4 f.v (min (s.lw f.v) (s.nm w)) s) (⟨f.v,f.i+1,f.seg⟩::r):=by
 have a:0<s.nm w:=by have:=h.non w c;omega
 have d:w∈stk (f::r):=by
  rcases(h.vis w c).1 a with h1|h1
  ·exact h1
  ·omega
 have b:(w:Int)∈g.getD f.v []:=by rw[<-j];exact OG _
 have k:=h.lower (x:=min (s.lw f.v) (s.nm w)) SM (by
  by_cases e:s.lw f.v<=s.nm w
  ·rw[show min (s.lw f.v) (s.nm w)=s.lw f.v by omega]
   exact(h.frs f SQ).wit
  ·rw[show min (s.lw f.v) (s.nm w)=s.nm w by omega]
   exact⟨w,d,rfl,Rch.edge b⟩)
 have i:f.v<s.low.length:=by rw[h.ll];exact h.fin
 refine k.moved ((k.frs f SQ).more hi j a (fun _=>?_));rw[AU i,Sj rfl];show _<=s.nm w;omega
end
section
variable {g:bZ}{s:Ts}{fs:List Tf}{f h:Tf}{r:List Tf}
theorem II:stk (⟨h.v,h.i,h.seg++f.v::f.seg⟩::r)=stk (f::h::r):=by simp[stk]
theorem TInv.pass(b:TInv g s (f::h::r)):(I4 h.v (min (s.lw h.v) (s.lw f.v)) s).lw f.v=s.lw f.v:=by
 have a:h.v<s.low.length:=by rw[b.ll];exact b.inG h.v (rX SQ)
 rw[AU a,Si (b.vne SQ)]
theorem TInv.merge(c:TInv g s (f::h::r))(hi:f.i=(FJ g f.v).length)(C:s.lw f.v≠s.nm f.v):TInv g (I4 h.v (min (s.lw h.v) (s.lw f.v)) s) (⟨h.v,h.i,h.seg++f.v::f.seg⟩::r):=by
 have hF:=c.frs f SQ;have q:=c.frs h SQ;have z:h.v<s.low.length:=by rw[c.ll];exact c.inG h.v (rX SQ)
 have hS:=II (f:=f) (h:=h) (r:=r);have o:=c.chn;have i:Rch g [(h.v:Int)] f.v:=o.1;have m:Rch g [(f.v:Int)] h.v:=by
  obtain⟨x,h1,h2,h3⟩:=hF.wit;have D:s.nm x<s.nm f.v:=by have:=hF.le;omega
  have y:x∈stk (h::r):=by
   rw[Bn]at h1
   rcases h1 with h1|h1
   ·exact h1
   ·have:=c.above x h1;omega
  refine h3.trans (K7 (r:=r) (f:=h) (fun k t=>(c.frs k (Pl _ t)).back) o.2 x y)
 have j:∀k,(I4 h.v (min (s.lw h.v) (s.lw f.v)) s).lw k=if h.v=k then min (s.lw h.v) (s.lw f.v)else s.lw k:=fun k=>AU z
 have l:∀u w,seen g ⟨h.v,h.i,h.seg++f.v::f.seg⟩ u w->seen g h u w\/seen g f u w:=by
  rintro u w (h1|⟨h1,h2⟩)
  ·exact .inl (.inl h1)
  ·dsimp only at h1
   rw[Ph,Pk]at h1
   rcases h1 with h1|rfl|h1
   ·exact .inl (.inr ⟨h1,h2⟩)
   ·exact .inr (.inl ⟨rfl,by rw[hi,PV];exact h2⟩)
   ·exact .inr (.inr ⟨h1,h2⟩)
 refine⟨c.ln,by simp[I4,c.ll],c.lp,by rw[hS];exact c.inG,by rw[hS];exact c.vis,c.non,by rw[hS];exact c.off,by rw[hS];exact c.asc,c.top,c.c0,?_,?_,c.clo,c.ptl,c.g0,c.cn,c.gn,c.scc⟩
 ·intro k t
  rw[hS];rcases Pk.1 t with rfl|t
  ·refine⟨q.i,fun u w v=>?_,fun u d=>?_,fun u d=>?_,?_,?_,fun u w v n=>?_⟩
   ·rcases l u w v with h1|h1
    ·exact q.vis u w h1
    ·exact hF.vis u w h1
   ·dsimp only at d⊢
    rw[Ph,Pk]at d
    rcases d with d|rfl|d
    ·exact q.out u d
    ·exact i
    ·exact i.trans (hF.out u d)
   ·dsimp only at d⊢
    rw[Ph,Pk]at d
    rcases d with d|rfl|d
    ·exact q.back u d
    ·exact m
    ·exact(hF.back u d).trans m
   ·dsimp only
    rw[j,Sj rfl];have:=q.le;show _<=s.nm h.v;omega
   ·dsimp only
    rw[j,Sj rfl];by_cases e:s.lw h.v<=s.lw f.v
    ·rw[show min (s.lw h.v) (s.lw f.v)=s.lw h.v by omega]
     exact q.wit
    ·rw[show min (s.lw h.v) (s.lw f.v)=s.lw f.v by omega]
     obtain⟨x,h1,h2,h3⟩:=hF.wit;exact⟨x,h1,h2,i.trans h3⟩
   ·dsimp only
    rw[j,Sj rfl];show _<=s.nm w.toNat;rcases l u w v with h1|h1
    ·have:=q.all u w h1 n;omega
    ·have:=hF.all u w h1 n;omega
  ·have p:=c.frs k (by simp[t])
   have B:h.v≠k.v:=fun e=>by
    have h1:=c.asc;have h2:(stk (h::r)).Pairwise fun a b=>s.nm a<s.nm b:=by
     simp only[stk]at h1⊢
     exact(PG.1 h1).1
    simp only[stk]at h2
    have h3:=(PG.1 h2).2.2 k.v (rX t) h.v SQ;rw[e]at h3
    exact absurd h3 (Np _)
   have A:(I4 h.v (min (s.lw h.v) (s.lw f.v)) s).lw k.v=s.lw k.v:=by rw[j,Si B]
   refine⟨p.i,p.vis,p.out,p.back,?_,?_,fun u w v n=>?_⟩
   ·rw[A];exact p.le
   ·rw[A];exact p.wit
   ·rw[A];exact p.all u w v n
 ·have:=o.2
  cases r with
  |nil=>trivial
  |cons k r=>exact this
theorem TInv.closed(n:TInv g s fs)(k:okG g){a b:Nat}(l:a<g.length)(j:0<=s.pt a)(i:Rch g [(a:Int)] b):b<g.length/\0<=s.pt b:=by
 induction i with
 |@base x c=>
  have:x=(a:Int):=by simpa using c
  subst this;simpa using⟨l,j⟩
 |@step m x _ c d=>
  have e:=CP k m x c;exact⟨by omega,n.clo m d.1 d.2 x c⟩
theorem TInv.close(c:TInv g s (f::r))(G:okG g)(hi:f.i=(FJ g f.v).length)(T:s.lw f.v=s.nm f.v):TInv g (IY (f.v::f.seg) s) r:=by
 have hF:=c.frs f SQ;have z:=c.nodup;have d:stk (f::r)=stk r++f.v::f.seg:=rfl;rw[d]at z
 have D:∀x∈stk r,x∉f.v::f.seg:=fun x h1 h2=>(PB.1 z).2.2 x h1 x h2 rfl
 have E:(f.v::f.seg).Nodup:=(PB.1 z).2.1;have Q:∀x∈f.v::f.seg,x<g.length:=fun x l=>c.inG x (by rw[d];exact Pj _ l)
 have F:∀x∈f.v::f.seg,x<s.part.length:=fun x l=>by rw[c.lp];exact Q x l
 have i:∀x∈f.v::f.seg,s.pt x<0:=fun x l=>c.off x (by rw[d];exact Pj _ l)
 have m:∀k,(IY (f.v::f.seg) s).pt k=if k∈f.v::f.seg then s.got else s.pt k:=fun k=>G9 F k
 have M:∀k,(IY (f.v::f.seg) s).nm k=s.nm k:=fun _=>rfl
 have A:=c.g0;have B:∀x,x∈f.v::f.seg↔x=f.v\/x∈f.seg:=fun x=>Pk
 have t:∀x∈f.v::f.seg,Rch g [(f.v:Int)] x:=fun x l=>by
  rcases(B x).1 l with rfl|l
  ·exact Rch.self _
  ·exact hF.out x l
 have j:∀x∈f.v::f.seg,Rch g [(x:Int)] f.v:=fun x l=>by
  rcases(B x).1 l with rfl|l
  ·exact Rch.self _
  ·exact hF.back x l
 have C:∀u∈f.v::f.seg,∀w∈FJ g u,w.toNat∈f.v::f.seg\/0<=s.pt w.toNat:=by
  intro u K w y
  have o:seen g f u w:=by
   rcases(B u).1 K with rfl|K
   ·exact .inl ⟨rfl,by rw[hi,PV];exact y⟩
   ·exact .inr ⟨K,y⟩
  have I:=CP G u w y;rcases(c.vis w.toNat SM).1 (hF.vis u w o)with h1|h1
  ·have h2:=hF.all u w o h1
   rw[d,Ph]at h1
   rcases h1 with h1|h1
   ·have:=c.below _ h1;omega
   ·exact .inl h1
  ·exact .inr h1
 refine⟨c.ln,c.ll,by simp only[IY];rw[G_];exact c.lp,fun n hn=>c.inG n (by rw[d];exact Pi _ hn),?_,c.non,?_,?_,c.top,c.c0,?_,j_ c.chn,?_,?_,by simp only[IY];omega,c.cn,?_,?_⟩
 ·intro n hn
  rw[M,c.vis n hn,m,d,Ph];by_cases e:n∈f.v::f.seg
  ·rw[Sj e]
   exact⟨fun _=>.inr A,fun _=>.inl (.inr e)⟩
  ·rw[Si e]
   constructor
   ·rintro((h1|h1)|h1)
    ·exact .inl h1
    ·exact absurd h1 e
    ·exact .inr h1
   ·rintro(h1|h1)
    ·exact .inl (.inl h1)
    ·exact .inr h1
 ·intro n hn
  rw[m,Si (D n hn)];exact c.off n (by rw[d];exact Pi _ hn)
 ·have:=c.asc
  rw[d]at this
  exact(PG.1 this).1
 ·intro k R
  have v:=c.frs k (by simp[R]);refine⟨v.i,v.vis,v.out,v.back,v.le,?_,fun u w S H=>v.all u w S (by rw[d];exact Pi _ H)⟩;obtain⟨x,h1,h2,h3⟩:=v.wit;refine⟨x,?_,h2,h3⟩;rw[Bn]at h1
  rcases h1 with h1|h1
  ·exact h1
  ·have a1:=c.above x h1
   have a2:=c.below k.v (rX R);have a3:=v.le;omega
 ·intro n hn L w y
  have I:=CP G n w y;rw[m]at L⊢
  split
  ·exact A
  ·rename_i J
   split at L
   ·rename_i N
    rcases C n N w y with h1|h1
    ·exact absurd h1 J
    ·exact h1
   ·exact c.clo n hn L w y
 ·intro n hn
  rw[m];show _<s.got+1;split
  ·omega
  ·have:=c.ptl n hn;omega
 ·have h1:=Ha (p:=s.part) (x:=s.got) A E F i
  have h2:=c.gn;simp only[IY,OU]at h1⊢
  omega
 ·intro a b P O q hpb
  rw[m]at q hpb⊢
  rw[m];by_cases ea:a∈f.v::f.seg<;>by_cases eb:b∈f.v::f.seg
  ·rw[Sj ea,Sj eb]
   exact⟨fun _=>⟨(j a ea).trans (t b eb),(j b eb).trans (t a ea)⟩,fun _=>rfl⟩
  ·rw[Sj ea,Si eb]
   rw[Si eb]at hpb
   have h1:=c.ptl b O;constructor
   ·intro e;omega
   ·rintro⟨_,h3⟩
    have:=c.closed G O hpb h3;have:=i a ea;omega
  ·rw[Si ea,Sj eb]
   rw[Si ea]at q
   have h1:=c.ptl a P;constructor
   ·intro e;omega
   ·rintro⟨h3,_⟩
    have:=c.closed G P q h3;have:=i b eb;omega
  ·rw[Si ea,Si eb]
   rw[Si ea]at q
   rw[Si eb]at hpb
   exact c.scc a b P O q hpb
theorem TInv.alone(a:TInv g s [f]):s.lw f.v=s.nm f.v:=by
 have hF:=a.frs f SQ;obtain⟨x,h1,h2,_⟩:=hF.wit;rw[Bn]at h1
 have h3:=hF.le;rcases h1 with h1|h1
 ·simp[stk]at h1
 ·have:=a.above x h1;omega
theorem TInv.keepLow(a:TInv g s (f::h::r))(c:s.lw f.v=s.nm f.v):I4 h.v (min (s.lw h.v) (s.lw f.v)) s=s:=by
 have h1:=(a.frs h SQ).le;have h2:=a.below h.v (rX SQ);have b:h.v<s.low.length:=by rw[a.ll];exact a.inG h.v (rX SQ)
 have e:min (s.lw h.v) (s.lw f.v)=s.low[h.v]:=by
  have:s.lw h.v=s.low[h.v]:=s_ b;omega
 unfold I4;rw[e,PP]
end
instance:IsT UA 318 (Int×Int):=IsT.of SN Tryz.underlying318 rfl
instance:IsFd UA 318 0 0:=IsFd.of SN
instance:IsFd UA 318 1 1:=IsFd.of SN
instance:IsZC UA 318 [Te 0,Te 0]:=IsZC.of (z:=.agg #[Te 0,Te 0]) SN rfl
instance:IsBd UA 318 [(0,1),(1,1)]:=IsBd.of SN
instance:IsZ UA 318 ((0,0):Int×Int) 16:=IsZ.of (z:=.agg #[Te 0,Te 0]) SN (fun _ _=>E8 (E9 _ _ _) (E9 _ _ _))
instance:IsS UA 319 318:=⟨Tryz.underlying319⟩
section
variable {P:Program}{Q:Exit->Act->World->Prop}{n:Nat}{σ:Sg}{w wc:World}{L rest:List Oper}{S:World->Prop}{ord:List (Nat×Bool)}{i d:Nat}{op:Op}{ty:TypeId}{pos:String}{af:Array Edge}{g:Option (Nat×Bool)}{t e:TypeId}{x y:Operand}{b o:Nat}{cells:List Value}
theorem fO{a c:Int}{f:Array TypeId}(m:gd L σ ⟨some d,.call ⟨.builtin .min,#[x,y],f⟩,ty,pos,af,g⟩=some true)(hd:Nat.ble (d+1) n=true)(l:ev σ x=some (Te a))(k:ev σ y=some (Te c))
  (h:WL P L Q rest n ((d,Te (min a c))::σ) w):WL P L Q (⟨some d,.call ⟨.builtin .min,#[x,y],f⟩,ty,pos,af,g⟩::rest) n σ w:=by
 refine WL.run m hd (fun u j=>?_) h;have e:(if c<a then c else a)=min a c:=by omega
 simp[execOp,resolve,invoke,builtin,j.ev l,j.ev k,run_min_int2,e]
end
structure TM(w:World)(B b:Nat)(gV nV lV pV sV:Value)(nb lb pb:Nat)(s:Ts)(st:List Int):Prop where
 blk:Blk w b 279 [gV,nV,lV,pV,sV,.int .i64 s.count,.int .i64 s.got]
 num:Own w B 3 di nV s.num
 low:Own w B 3 di lV s.low
 part:Own w B 3 di pV s.part
 stk:Own w B 3 di sV st
 ge:B<=b
 hnb:nV.ownBlock=some nb
 hlb:lV.ownBlock=some lb
 hpb:pV.ownBlock=some pb
 ne:nb≠lb/\nb≠pb/\lb≠pb/\nb≠b/\lb≠b/\pb≠b
 sne:∀k,sV.ownBlock=some k->k≠nb/\k≠lb/\k≠pb/\k≠b
def tS(b a lb pb:Nat)(sV:Value):Nat->Prop:=fun k=>k=b\/k=a\/k=lb\/k=pb\/sV.ownBlock=some k
def TM.lts{b:Nat}{pV sV:Value}{lb:Nat}{s:Ts}{st:List Int}(h:TM w B b v o J pV sV a lb K s st):b<w.heap.size/\a<w.heap.size/\lb<w.heap.size/\K<w.heap.size/\(∀k,sV.ownBlock=some k->k<w.heap.size)/\B<=a/\B<=lb/\B<=K/\(∀k,sV.ownBlock=some k->B<=k):=
 ⟨h.blk.lt,(h.num.lt _ h.hnb).2.1,(h.low.lt _ h.hlb).2.1,(h.part.lt _ h.hpb).2.1,fun k c=>(h.stk.lt k c).2.1,(h.num.lt _ h.hnb).1,(h.low.lt _ h.hlb).1,(h.part.lt _ h.hpb).1,fun k c=>(h.stk.lt k c).1⟩
def TM.ext{w':World}{b:Nat}{pV sV:Value}{lb:Nat}{s:Ts}{st:List Int}(h:TM w B b v o J pV sV a lb K s st)(c:Ext w w'):TM w' B b v o J pV sV a lb K s st:=
 ⟨h.blk.ext c,h.num.extN c,h.low.extN c,h.part.extN c,h.stk.extN c,h.ge,h.hnb,h.hlb,h.hpb,h.ne,h.sne⟩
def TM.off{w':World}{row:Option Nat}{b:Nat}{pV sV:Value}{lb:Nat}{s:Ts}{st:List Int}(h:TM w B b v o J pV sV a lb K s st)(f:w.grownBy w' row)(hn:∀k,row=some k->¬tS b a lb K sV k):TM w' B b v o J pV sV a lb K s st:=
 ⟨h.blk.kept f (fun e=>hn b e.symm (.inl rfl)),h.num.keptN f (fun k c e=>hn k e.symm (.inr (.inl (by rw[h.hnb]at c;cases c;rfl)))),h.low.keptN f (fun k c e=>hn k e.symm (.inr (.inr (.inl (by rw[h.hlb]at c;cases c;rfl))))),h.part.keptN f (fun k c e=>hn k e.symm (.inr (.inr (.inr (.inl (by rw[h.hpb]at c;cases c;rfl)))))),h.stk.keptN f (fun k c e=>hn k e.symm (.inr (.inr (.inr (.inr c))))),h.ge,h.hnb,h.hlb,h.hpb,h.ne,h.sne⟩
def i7(w:World){b:Nat}{pV sV:Value}{lb:Nat}{s:Ts}{st:List Int}(h:TM w B b v o J pV sV a lb K s st){k:Nat}(hB:B<=w.heap.size)(hk:k<s.num.length)(hk2:k<s.low.length)(hc0:0<=s.count)(hc:s.count<4611686018427387904)(hst:st.length<=1099511627776):
  Rt UA 260 [Tg b,Te k].toArray w fun _ w'=>∃sV',TM w' B b v o J pV sV' a lb K (IW k s) (st++[(k:Int)])/\Chg (tS b a lb K sV) w w'/\(∀j,sV'.ownBlock=some j->sV.ownBlock=some j\/w.heap.size<=j):=by
 obtain⟨hn1,hn2,hn3,H,Y,hn6⟩:=h.ne;refine dV Tryz.func260 Tryz.ntmps260 rfl rfl ?_;have hb:=h.blk;refine Tv ?_;refine f_ hb (fun W hb1 V=>?_);have hC1:Chg (tS b a lb K sV) w W:=(Chg.refl _ _).grown V (fun g e=>by cases e;exact .inl rfl);have G:=h.num.keptN V (fun g c e=>by rw[h.hnb]at c;cases c;cases e;exact H rfl);have O:=h.low.keptN V (fun g c e=>by rw[h.hlb]at c;cases c;cases e;exact Y rfl);have l:=h.part.keptN V (fun g c e=>by rw[h.hpb]at c;cases c;cases e;exact hn6 rfl);have z:=h.stk.keptN V (fun g c e=>by cases e;exact(h.sne _ c).2.2.2 rfl);apply WL.nil;apply bE;apply CW.seq;have hd:=hb1.ext (Ext.drew W);have hSK:∀w2,(fun x:World=>x.heap[b]?=(drew W).heap[b]?) w2->w2.heap[b]?=(drew W).heap[b]?:=fun _ h=>h
 refine aG (fun x:World=>x.heap[b]?=(drew W).heap[b]?) [(0,true),(1,true),(2,true),(3,true),(4,true),(5,true),(6,true),(7,true),(8,true),(9,true),(10,true),(11,true),(12,true),(13,true),(14,true),(15,true),(16,true),(17,true),(18,true),(19,false),(20,true),(21,false)] mixed SN rfl ?_;refine Us ?_;have C:=G.extN (Ext.drew W);have I:=O.extN (Ext.drew W);refine cG (u:=Te (s.count+1)) (yv:=s.count+1) rfl rfl rfl rfl rfl rfl C hk SX SX S_ (fun w' c=>c.block b hd.lt (fun e=>H (by rw[h.hnb]at e;exact(QV e).symm))) (fun w2 q E m=>?_);have N:=I.keptN m (fun g c e=>by rw[h.hlb]at c;rw[h.hnb]at e;cases c;cases e;exact hn1 rfl);have hb2:=hd.kept m (fun e=>by rw[h.hnb]at e;cases e;exact H rfl);refine cG (u:=Te (s.count+1)) (yv:=s.count+1) rfl rfl rfl rfl rfl rfl N hk2 SX SX S_ (fun w' c=>(c.block b hb2.lt (fun e=>Y (by rw[h.hlb]at e;exact(QV e).symm))).trans (m.block b hd.lt (fun e=>H (by rw[h.hnb]at e;exact(QV e).symm)))) (fun w3 q3 M U=>?_);have D:=E.keptN U (fun g c e=>by rw[h.hnb]at c;rw[h.hlb]at e;cases c;cases e;exact hn1 rfl);have hb3:=hb2.kept U (fun e=>by rw[h.hlb]at e;cases e;exact Y rfl);have f:=((l.extN (Ext.drew W)).keptN m (fun g c e=>by rw[h.hpb]at c;rw[h.hnb]at e;cases c;cases e;exact hn2 rfl)).keptN U (fun g c e=>by rw[h.hpb]at c;rw[h.hlb]at e;cases c;cases e;exact hn3 rfl);have hstk3:=((z.extN (Ext.drew W)).keptN m (fun g c e=>by rw[h.hnb]at e;cases e;exact(h.sne _ c).1 rfl)).keptN U (fun g c e=>by rw[h.hlb]at e;cases e;exact(h.sne _ c).2.1 rfl);have hC3:Chg (tS b a lb K sV) w w3:=((hC1.grown (w'':=drew W) (row:=none) ⟨rfl,rfl,rfl,Qj _,fun _ _ _=>rfl⟩ (fun g e=>by cases e)).grown m (fun g e=>by rw[h.hnb]at e;cases e;exact .inr (.inl rfl))).grown U (fun g e=>by rw[h.hlb]at e;cases e;exact .inr (.inr (.inl rfl)));clear hb hb1 hb2 hd G E C O N I l z hSK hC1;refine Uu ?_;apply bE;apply CW.region;refine Uj ?_;have hBw:B<=w3.heap.size:=Qk hB hC3.size;refine eH (F:=di) (yv:=(k:Int)) rfl rfl SX rfl rfl SX hstk3 S_ hBw S0 SP SS SM (fun sV' w4 p r T Z=>?_);have hnum4:=D.keptN T (fun g c e=>by rw[h.hnb]at c;cases c;exact(h.sne _ e.symm).1 rfl);have hlow4:=M.keptN T (fun g c e=>by rw[h.hlb]at c;cases c;exact(h.sne _ e.symm).2.1 rfl);have X:=f.keptN T (fun g c e=>by rw[h.hpb]at c;cases c;exact(h.sne _ e.symm).2.2.1 rfl);have hb4:=hb3.kept T (fun e=>(h.sne _ e.symm).2.2.2 rfl);have hC4:Chg (tS b a lb K sV) w w4:=hC3.grown T (fun g e=>.inr (.inr (.inr (.inr e))));have hl1:=D.lt _ h.hnb;have hl2:=M.lt _ h.hlb;have hl3:=f.lt _ h.hpb;have hl4:=hb3.lt;have A:∀j,sV'.ownBlock=some j->j≠a/\j≠lb/\j≠K/\j≠b:=by
  intro j hj
  rcases Z j hj with h1|h1
  ·exact h.sne j h1
  ·refine⟨?_,?_,?_,?_⟩<;>(intro e;omega)
 refine Uk ?_;obtain⟨so,sc,rfl⟩:=r.val;refine f_ hb4 (fun w5 hb5 R=>?_);refine T1 ?_;refine a7 rfl ⟨_,⟨hb5,?_,?_,?_,?_,h.ge,h.hnb,h.hlb,h.hpb,h.ne,A⟩,hC4.grown R (fun g e=>by cases e;exact .inl rfl),fun j hj=>(Z j hj).imp id (fun h1=>Qk hC3.size h1)⟩
 ·exact hnum4.keptN R (fun g c e=>by rw[h.hnb]at c;cases c;cases e;exact H rfl)
 ·exact hlow4.keptN R (fun g c e=>by rw[h.hlb]at c;cases c;cases e;exact Y rfl)
 ·exact X.keptN R (fun g c e=>by rw[h.hpb]at c;cases c;cases e;exact hn6 rfl)
 ·exact r.keptN R (fun g c e=>by cases e;exact(A _ c).2.2.2 rfl)
def yH(l:List Nat):List Int:=l.map fun n:Nat=>(n:Int)
def yI(a b:List Nat):yH (a++b)=yH a++yH b:=Pb
def lQ(w:World){b:Nat}{lV pV sV:Value}{lb:Nat}{s:Ts}{base T:List Nat}{k:Nat}(h:TM w B b o J lV pV sV a lb K s (yH (base++k::T)))(hnd:(k::T).Nodup)(hT:∀x∈k::T,x<s.part.length)(hg0:0<=s.got)(hg1:s.got<4611686018427387904):
  Rt UA 261 [Tg b,Te k].toArray w fun _ w'=>∃sV',TM w' B b o J lV pV sV' a lb K (IY (k::T) s) (yH base)/\Chg (tS b a lb K sV) w w'/\sV'.ownBlock=sV.ownBlock:=by
 obtain⟨hn1,hn2,hn3,hn4,hn5,Y⟩:=h.ne;refine dV Tryz.func261 Tryz.ntmps261 rfl rfl ?_;refine T7 ?_;refine CW.loop (S:=List Nat×List Nat×Value) (fun _=>[(0,Tg b),(1,Te k)])
  (fun x w'=>k::T=x.1++x.2.1/\0<x.1.length/\TM w' B b o J lV pV x.2.2 a lb K {s with part:=G8 s.part x.2.1 s.got} (yH (base++x.1))/\Chg (tS b a lb K sV) w w'/\x.2.2.ownBlock=sV.ownBlock) (fun x=>x.1.length) (k::T,[],sV) SL ⟨(NG _).symm,Nat.succ_pos _,h,Chg.refl _ _,rfl⟩ ?_
 rintro⟨rem,D,v⟩ w1 ⟨f,Z,hM,hC,hv⟩
 dsimp only at f Z hM hv
 obtain⟨rem',m,rfl⟩:∃rem' m,rem=rem'++[m]:=⟨rem.dropLast,rem.getLast (Pz Z),(List.dropLast_concat_getLast _).symm⟩;have hmT:m∈k::T:=by rw[f];simp
 have hml:=hT m hmT;have est:yH (base++(rem'++[m]))=yH (base++rem')++[(m:Int)]:=by rw[<-NF,yI];rfl
 rw[est]at hM
 generalize hX:yH (base++rem')=X at*
 have hb:=hM.blk;obtain⟨so,sc,hsv,hsl⟩:=hM.stk.oldN.sl;have hlen:(X++[(m:Int)]).length=X.length+1:=by simp
 have hel:∀(h:(((X++[(m:Int)]).length:Int) -1).toNat<(X++[(m:Int)]).length),(X++[(m:Int)])[(((X++[(m:Int)]).length:Int) -1).toNat]=m:=by
  intro h
  have:(((X++[(m:Int)]).length:Int) -1).toNat=X.length:=by rw[hlen];omega
  simp[this]
 have hmx:=hsl.len63;subst hsv;refine Uc ?_;refine dz rfl rfl rfl rfl rfl S3 hsl SM SM SX (fun u q hu=>?_);obtain rfl:=hu.int;simp only[hel];refine Uf ?_;refine QL.nil (fun w2 G=>?_);have hM2:=hM.ext G;have hC2:Chg (tS b a lb K sV) w w2:=⟨G.os.trans hC.os,G.tape.trans hC.tape,G.output.trans hC.output,Qk hC.size G.size,fun k hk hn=>(G.block k (Qn hk hC.size)).trans (hC.block k hk hn)⟩;apply bE;apply CW.seq;have F:=hM2.ext (Ext.drew w2);have hbd:=F.blk;have hSK:∀C,(fun x:World=>x.heap[b]?=(drew w2).heap[b]?) C->C.heap[b]?=(drew w2).heap[b]?:=fun _ h=>h
 refine aF (fun x:World=>x.heap[b]?=(drew w2).heap[b]?) [(0,true),(1,true),(2,true),(3,true),(4,true),(5,true),(6,true),(7,true),(8,true),(9,true),(10,true),(11,true),(12,false),(13,true)] 14 mixed SN rfl ?_;refine Us ?_;refine cf (α:=Int) X.length (by rw[hlen];omega) rfl rfl rfl rfl rfl (by have:=hsl.le;omega) ?_;refine cD rfl (fS rfl rfl rfl (WL.nil (bf rfl ?_)));refine Uv ?_;refine bB rfl (f_ hbd (fun C hb3 V=>WL.nil (bC ?_)));have l:=(F.stk.take rfl (k:=X.length) SM).keptN V (fun g c e=>by cases e;exact(hM.sne _ (show Value.ownBlock (.slice so (X++[(m:Int)]).length sc)=some b by cases so<;>exact c)).2.2.2 rfl);rw[show(X++[(m:Int)]).take X.length=X by simp]at l
 have M:=F.num.keptN V (fun g c e=>by rw[h.hnb]at c;cases c;cases e;exact hn4 rfl);have O:=F.low.keptN V (fun g c e=>by rw[h.hlb]at c;cases c;cases e;exact hn5 rfl);have A:=F.part.keptN V (fun g c e=>by rw[h.hpb]at c;cases c;cases e;exact Y rfl);have hC3:Chg (tS b a lb K sV) w C:=(hC2.grown (w'':=drew w2) (row:=none) ⟨rfl,rfl,rfl,Qj _,fun _ _ _=>rfl⟩ (fun g e=>by cases e)).grown V (fun g e=>by cases e;exact .inl rfl);apply bE;apply CW.seq;have hb4:=hb3.ext (Ext.drew C);have hSK:∀w4,(fun x:World=>x.heap[b]?=(drew C).heap[b]?) w4->w4.heap[b]?=(drew C).heap[b]?:=fun _ h=>h
 refine aG (fun x:World=>x.heap[b]?=(drew C).heap[b]?) [(0,true),(1,true),(2,true),(3,true),(4,true),(5,true),(6,true),(7,true),(8,true),(9,true),(10,false)] mixed SN rfl ?_;refine Us ?_;refine cG (u:=Te s.got) (yv:=s.got) rfl rfl rfl rfl rfl rfl (A.extN (Ext.drew C)) (by dsimp only;rw[G_];exact hml) SX SX S_ (fun w' c=>c.block b hb4.lt (fun e=>by rw[h.hpb]at e;cases e;exact Y rfl)) (fun w5 q z U=>?_);have I:=(M.extN (Ext.drew C)).keptN U (fun g c e=>by rw[h.hnb]at c;rw[h.hpb]at e;cases c;cases e;exact hn2 rfl);have N:=(O.extN (Ext.drew C)).keptN U (fun g c e=>by rw[h.hlb]at c;rw[h.hpb]at e;cases c;cases e;exact hn3 rfl);have W:Value.ownBlock (.slice so X.length sc)=sV.ownBlock:=by rw[<-hv];cases so<;>rfl
 have H:=(l.extN (Ext.drew C)).keptN U (fun g c e=>by rw[h.hpb]at e;cases e;exact(h.sne _ (W▸c)).2.2.1 rfl);have hb5:=hb4.kept U (fun e=>by rw[h.hpb]at e;cases e;exact Y rfl);have hC5:Chg (tS b a lb K sV) w w5:=(hC3.grown (w'':=drew C) (row:=none) ⟨rfl,rfl,rfl,Qj _,fun _ _ _=>rfl⟩ (fun g e=>by cases e)).grown U (fun g e=>by rw[h.hpb]at e;cases e;exact .inr (.inr (.inr (.inl rfl))));have p:∀j,Value.ownBlock (.slice so X.length sc)=some j->j≠a/\j≠lb/\j≠K/\j≠b:=fun j hj=>h.sne j (W▸hj)
 have r:TM w5 B b o J lV pV (.slice so X.length sc) a lb K {s with part:=G8 s.part (m::D) s.got} (yH (base++rem')):=⟨hb5,I,N,z,by rw[hX];exact H,h.ge,h.hnb,h.hlb,h.hpb,h.ne,p⟩;clear hM hM2 F hb hbd hb3 hb4 l M O A I N z H hC3 hC2 hC hSK;refine Uu ?_;apply bE;refine T2 ?_;apply CW.cond rfl<;>intro E
 ·have E:m=k:=by
   have:(m:Int)=(k:Int):=by simpa using E
   omega
  subst E;have hr:rem'=[]:=by
   cases rem' with
   |nil=>rfl
   |cons y ys=>
    exfalso;rw[NI,NI]at f
    obtain⟨rfl,h2⟩:=NH f;rw[PC]at hnd
    exact hnd.1 (by rw[h2];simp)
  subst hr;have hD:D=T:=by simpa using f.symm
  subst hD;rw[NG]at r
  have hb6:=r.blk;dsimp only at hb6
  refine Ub ?_;refine f_ hb6 (fun w6 hb7 R=>?_);refine T1 ?_;refine a7 rfl ⟨_,⟨hb7,?_,?_,?_,?_,h.ge,h.hnb,h.hlb,h.hpb,h.ne,p⟩,hC5.grown R (fun g e=>by cases e;exact .inl rfl),W⟩
  ·exact r.num.keptN R (fun g c e=>by rw[h.hnb]at c;cases c;cases e;exact hn4 rfl)
  ·exact r.low.keptN R (fun g c e=>by rw[h.hlb]at c;cases c;cases e;exact hn5 rfl)
  ·exact r.part.keptN R (fun g c e=>by rw[h.hpb]at c;cases c;cases e;exact Y rfl)
  ·exact r.stk.keptN R (fun g c e=>by cases e;exact(p _ c).2.2.2 rfl)
 ·have E:¬m=k:=by
   have:¬(m:Int)=(k:Int):=by simpa using E
   omega
  have hr:0<rem'.length:=by
   cases rem' with
   |nil=>exact absurd (NH f).1.symm E
   |cons y ys=>simp
  refine TD ?_;exact EX.back (rem',m::D,_) SL ⟨by rw[f];simp,hr,r,hC5,W⟩ SQ
def Own.top{e:TypeId}{xs:List (Int×Int)}{a c:Int}(h:Own w B e di v (xs++[(a,c)])):
  ∃b off cap,v=.slice (some ⟨b,off,none⟩) (xs.length+1) cap/\B<=b/\b<w.heap.size/\v.ownBlock=some b/\Cells w b (off+xs.length*2) [Te a]/\Cells w b (off+xs.length*2+1) [Te c]/\
   ∃cur,w.heap[b]?=some (.cells cur e (0,0))/\off+xs.length*2+2<=cur.size:=by
 rcases h with⟨_,h⟩|⟨b,off,cap,cur,rfl,i⟩
 ·simp at h
 ·have r:(xs++[(a,c)]).length=xs.length+1:=by simp
  have q:=i.el.2 xs.length SQ;have s:(xs++[(a,c)])[xs.length]'SQ=(a,c):=by simp
  rw[s]at q
  obtain⟨c1,c2,m,h1,h2⟩:=Fd q;have h1:=E7 h1;have h2:=E7 h2;rw[h1,h2]at m
  have k:=i.le;have l:=i.fit;have p:sz (Int×Int)=2:=rfl;rw[p]at l m
  rw[r]at k m
  have z:(xs.length+1)*2<=cap*2:=Qu _ k;have f:∀j u,([Te a,Te c]:List Value)[j]?=some u->w.cell? ⟨b,off+xs.length*2+j,none⟩=some u:=by
   intro j u d
   have o:(((cur.toList.drop off).take ((xs.length+1)*2)).drop (xs.length*2)).take 2=[Te a,Te c]:=m;rw[<-o,Ox]at d
   split at d
   ·rw[Om]at d
    rw[R4 w b _ cur e (0,0) i.blk];have:=mL d;rw[<-this];congr 1;omega
   ·cases d
  refine⟨b,off,cap,by rw[r],i.ge,(MH.1 i.blk).1,rfl,?_,?_,cur,i.blk,by omega⟩
  ·intro j u d
   cases j with
   |zero=>exact f 0 u (by simpa using d)
   |succ j=>simp at d
  ·intro j u d
   cases j with
   |zero=>exact f 1 u (by simpa using d)
   |succ j=>simp at d
section
variable {P:Program}{Q:Exit->Act->World->Prop}{n:Nat}{σ:Sg}{w:World}{L rest:List Oper}{ty:TypeId}{pos:String}{af:Array Edge}{g:Option (Nat×Bool)}{t e:TypeId}{x y:Operand}
theorem gg{B b off cap:Nat}{xs:List (Int×Int)}{a c c':Int}[U:IsT P e (Int×Int)][T:IsC P t 1 false](O:gd L σ ⟨none,.store t x y,ty,pos,af,g⟩=some true)(M:ev σ x=some (.pointer (some ⟨b,off+xs.length*2+1,none⟩)))(K:ev σ y=some (Te c'))
  (j:Own w B e di (.slice (some ⟨b,off,none⟩) (xs.length+1) cap) (xs++[(a,c)]))
  (h:∀w',Own w' B e di (.slice (some ⟨b,off,none⟩) (xs.length+1) cap) (xs++[(a,c')])->w.grownBy w' (some b)->WL P L Q rest n σ w'):WL P L Q (⟨none,.store t x y,ty,pos,af,g⟩::rest) n σ w:=by
 have N:(xs++[(a,c)]).length=xs.length+1:=by simp
 obtain⟨W,off',cap',R,_,_,_,H,S,_⟩:=j.top;obtain⟨z,_,rfl⟩:=RS R;simp only[QW,Mz]at z
 obtain⟨rfl,rfl,_⟩:=z;rcases j with⟨I,_⟩|⟨b2,off2,cap2,cur,I,j⟩
 ·cases I
 ·obtain⟨h1,_,rfl⟩:=RS I
  simp only[QW,Mz]at h1
  obtain⟨rfl,rfl,_⟩:=h1;obtain⟨w',D,l,G⟩:=Gq (P:=P) (v:=undef) (i:=xs.length) (y:=(a,c')) j SQ (Rd.mkPr (E9 w di a) (E9 w di c'));have u:=j.fit;have s:=j.le;have m:sz (Int×Int)=2:=rfl;rw[m]at u D
  rw[N]at s l
  have V:(xs.length+1)*2<=cap*2:=Qu _ s;have o:(xs++[(a,c)]).set xs.length (a,c')=xs++[(a,c')]:=by simp
  rw[o]at l
  refine fY O (fun q hq=>?_) (h w' l G);have k:=Sx P b (off+xs.length*2) e [Te a,Te c'] 0 cur w j.blk ST (by simp[Value.oneCell']);have f:=Sx P b (off+xs.length*2+1) e [Te c'] 0 cur w j.blk ST (by simp[Value.oneCell']);simp only[P9]at f k
  have p:(cur.toList.take (off+xs.length*2+1)++[Te c']++cur.toList.drop (off+xs.length*2+1+1))=(cur.toList.take (off+xs.length*2)++[Te a,Te c']++cur.toList.drop (off+xs.length*2+2)):=by
   have J:=H 0 _ rfl;rw[P9,R4 w b _ cur e (0,0) j.blk]at J
   have r:off+xs.length*2<cur.toList.length:=by simp;omega
   rw[PZ r];have:cur.toList[off+xs.length*2]=Te a:=by
    have h2:cur.toList[off+xs.length*2]?=some (Te a):=by simpa using J
    rw[On r]at h2
    exact QV h2
   rw[this];simp
  have A:w'=w.setRow b (cur.toList.take (off+xs.length*2)++[Te a,Te c']++cur.toList.drop (off+xs.length*2+2)).toArray:=by
   have:(storeVar e ⟨b,off+xs.length*2,none⟩ (.agg ([Te a]++[Te c']).toArray)).run P w=.ok () (w.setRow b (cur.toList.take (off+xs.length*2)++[Te a,Te c']++cur.toList.drop (off+xs.length*2+2)).toArray):=by
    have C:(Value.agg ([Te a]++[Te c']).toArray).cells=[Te a,Te c'].toArray:=rfl;unfold storeVar;rw[Q4,Gv (α:=Int×Int)];simp only[Q2,C];rw[Si (by simp[m])];exact k
   rw[this]at D
   cases D
   rfl
  obtain⟨i,d,F,E,_,_⟩:=T.ok;simp only[execOp,hq.ev M,hq.ev K,Instr.storeAt,Q4,Instr.sureAddr,Q5,Q2,storeVar,sizeOf,typeInfo,Sv,F,E,Value.cells];rw[A,<-p];simp;simp at f
  rw[f];rfl
end
def iq{s:Ts}{M:Int}:∀(l:List Nat) (c:Int),c<=M->l.Pairwise (fun a b=>s.nm a<s.nm b)->(∀x∈l,c<s.nm x/\s.nm x<=M)->(l.length:Int)<=M -c
 |[],c,h,_,_=>by simp;omega
 |a::l,c,h,d,i=>by
  rw[PH]at d
  have j:=i a SQ;have:=iq l (s.nm a) j.2 d.2 (fun x f=>⟨d.1 x f,(i x (by simp[f])).2⟩);simp only[OU];omega
def TInv.count_le{g:bZ}{s:Ts}{fs:List Tf}(h:TInv g s fs):s.count<=g.length:=by have:=h.cn;omega
def TInv.stk_len{g:bZ}{s:Ts}{fs:List Tf}(h:TInv g s fs):(stk fs).length<=g.length:=by
 have:=iq (s:=s) (M:=s.count) (stk fs) 0 h.c0 h.asc (fun x a=>⟨(h.vis x (h.inG x a)).2 (.inl a),h.top x (h.inG x a)⟩);have:=h.count_le;omega
def rV:∀fs:List Tf,fs.length<=(stk fs).length
 |[]=>by simp
 |f::r=>by
  have:=rV r;simp only[stk,OT,OU];omega
def Eu:List Tf->List (Int×Int)
 |[]=>[]
 |f::r=>Eu r++[((f.v:Int),(f.i:Int))]
def Ev:∀fs:List Tf,(Eu fs).length=fs.length
 |[]=>rfl
 |f::r=>by simp[Eu,Ev r]
def Mv(g:bZ):List Tf->Nat
 |[]=>0
 |f::r=>((FJ g f.v).length -f.i+1)+Mv g r
def Lh(s:Ts):List Bool:=s.num.map fun x=>decide (x≠0)
def J7(g:bZ)(s:Ts)(fs:List Tf):Nat:=D_ g (Lh s)+Mv g fs
def Ea{g:bZ}{s:Ts}{fs:List Tf}(h:TInv g s fs){n:Nat}(hn:n<g.length)(b:s.nm n=0):D_ g (Lh (IW n s))+(FJ g n).length+1=D_ g (Lh s):=by
 have a:n<s.num.length:=by rw[h.ln];exact hn
 have e:Lh (IW n s)=(Lh s).set n true:=by
  unfold Lh IW;simp only;rw[List.map_set]
  congr 1
  have:=h.c0;simp;omega
 have h1:=Eb g (Lh s) n hn (by simp[Lh,h.ln]) (by
  have:s.num[n]=s.nm n:=(s_ a).symm;unfold Lh;rw[Oi,Ot,On a];simp[this,b])
 rw[e];exact h1
def Lj(s:Ts)(n:Nat)(x:Int):Lh (I4 n x s)=Lh s:=rfl
def Li(s:Ts)(D:List Nat):Lh (IY D s)=Lh s:=rfl
def t8{g:bZ}{s:Ts}{fs:List Tf}(h:TInv g s fs){n k:Nat}(hn:n<g.length)(a:0<s.nm k):0<(IW n s).nm k:=by
 rw[BX (by rw[h.ln];exact hn)];have:=h.c0;split<;>omega
def aj(B b a lb pb:Nat)(pV sV:Value):Prop:=∀k,pV.ownBlock=some k->¬tS b a lb pb sV k
def AM(r:List Tf)(f:Tf)(s:Ts):Ts:=match r with
 |[]=>s
 |h::_=>I4 h.v (min (s.lw h.v) (s.lw f.v)) s
def Lk(w0 w:World){b:Nat}{sV:Value}{lb:Nat}{s:Ts}{g:bZ}{ao:Option Addr}{cap:Nat}{n:Nat}(hE:Ext w0 w)(N:Sl w0 F ao cap g)(hF:∀b,F b->b<w0.heap.size)(hG:okG g)(hgl:g.length<=1099511627776)
  (hM:TM w w0.heap.size b (.slice ao g.length cap) v o J sV B lb a s (yH [])) (l:TInv g s []) (hn:n<g.length) (h0:s.nm n=0):
  Rt UA 201 [Tg b,Te n].toArray w fun _ w'=>∃sV' s',TM w' w0.heap.size b (.slice ao g.length cap) v o J sV' B lb a s' (yH [])/\TInv g s' []/\Ext w0 w'/\(∀k,0<s.nm k->0<s'.nm k)/\0<s'.nm n:=by
 obtain⟨hn1,hn2,hn3,hn4,hn5,hn6⟩:=hM.ne;have hc:=l.count_le;have hI1:=l.root hG hn h0;have hnl:n<s.num.length:=by rw[l.ln];exact hn
 have hnl2:n<s.low.length:=by rw[l.ll];exact hn
 refine dV Tryz.func201 Tryz.ntmps201 rfl rfl ?_;refine TP ?_;refine eK ?_;refine WL.lit (α:=Int×Int) (F:=di) (ys:=[((n:Int),(0:Int))]) rfl rfl rfl rfl rfl (.cons (Rd.mkPr (E9 _ _ _) (E9 _ _ _)) .nil) (by show 1*2<=16777216;decide) S0 (fun w1 hp1 hg1=>?_);have hE01:Ext w w1:=(Ext.refl w).grown hg1 Ta S5;have hM1:=hM.ext hE01;have hE1:=hE.trans hE01;refine T2 ?_;refine eN (i7 w1 hM1 (Nat.le_of_lt (Qm hM1.ge hM1.lts.1)) hnl hnl2 l.c0 SM (by simp[yH])) ?_;rintro _ w2 ⟨sV2,hM2,hC2,hnb2⟩
 obtain⟨l1,l2,l3,l4,l5,l6,l7,l8,l9⟩:=hM.lts;have hpb:∀k,Value.ownBlock (.slice (some ⟨w.heap.size,0,none⟩) 1 1)=some k->¬tS b B lb a sV k:=by
  intro k j
  have j:w.heap.size=k:=QV j;rintro(h1|h1|h1|h1|h1)
  ·omega
  ·omega
  ·omega
  ·omega
  ·have:=l5 _ h1;omega
 have hS2:∀k,tS b B lb a sV k->w0.heap.size<=k:=by
  rintro k (rfl|rfl|rfl|rfl|h1)
  ·exact hM.ge
  ·exact l6
  ·exact l7
  ·exact l8
  ·exact l9 _ h1
 have hE2:Ext w0 w2:=Chg.ext hE1 hC2 hS2;have hp2:=hp1.chg hC2 hpb;have hap2:aj w0.heap.size b B lb a (.slice (some ⟨w.heap.size,0,none⟩) 1 1) sV2:=by
  intro k j
  rintro(h1|h1|h1|h1|h1)
  ·exact hpb k j (.inl h1)
  ·exact hpb k j (.inr (.inl h1))
  ·exact hpb k j (.inr (.inr (.inl h1)))
  ·exact hpb k j (.inr (.inr (.inr (.inl h1))))
  ·rcases hnb2 k h1 with h2|h2
   ·exact hpb k j (.inr (.inr (.inr (.inr h2))))
   ·have j:w.heap.size=k:=QV j
    have:w.heap.size<w1.heap.size:=(hp1.lt _ rfl).2.1;omega
 refine TR ?_;refine CW.loop (S:=Ts×List Tf×Value×Value) (fun x=>[(0,Tg b),(4,x.2.2.1)])
  (fun x w'=>TInv g x.1 x.2.1/\TM w' w0.heap.size b (.slice ao g.length cap) v o J x.2.2.2 B lb a x.1 (yH (stk x.2.1))/\Own w' w0.heap.size 318 di x.2.2.1 (Eu x.2.1)/\aj w0.heap.size b B lb a x.2.2.1 x.2.2.2/\Ext w0 w'/\(∀k,0<s.nm k->0<x.1.nm k)/\0<x.1.nm n)
  (fun x=>J7 g x.1 x.2.1) (IW n s,[⟨n,0,[]⟩],_,sV2) SL ⟨hI1,by simpa[yH,stk]using hM2,by simpa[Eu]using hp2.low hE.size,hap2,hE2,fun k j=>t8 l hn j,?_⟩ ?_
 ·rw[BX hnl,Sj rfl];have:=l.c0;omega
 clear hp2 hp1 hM2 hM1 hC2 hnb2 hE2 hE1 hE01 hI1 hap2 hpb hS2;rintro⟨c,fs,wV,tV⟩ w3 ⟨l,hM,hP,D,hE3,hmo,hvn⟩
 dsimp only at l hM hP D hmo hvn
 refine TU ?_;apply CW.cond rfl<;>intro hc0
 ·obtain⟨f,r,rfl⟩:∃f r,fs=f::r:=by
   cases fs with
   |nil=>simp[Eu]at hc0
   |cons f r=>exact⟨f,r,rfl⟩
  clear hc0;have hstl:=l.stk_len;have hfl:=rV (f::r);have hplen:=Ev r;have hfv:=l.fin;have hFr:=l.frs f SQ;have hfi:=hFr.i;have hcle:=l.count_le;have hgot:=l.gn;have hg0:=l.g0;have hcc0:=l.c0;have hg3:Sl w3 F ao cap g:=N.mono (fun b hb=>hE3.block b (hF b hb)) fun _ h=>h
  have hF3:∀b,F b->b<w3.heap.size:=fun b hb=>Qn (hF b hb) hE3.size
  have V:FJ g f.v=g[f.v]:=by unfold FJ;rw[Oi,On hfv];rfl
  have hP0:Own w3 w0.heap.size 318 di wV (Eu r++[((f.v:Int),(f.i:Int))]):=hP;obtain⟨pk,off,pc,rfl,hpge,R,hpob,hca,hcb,cur,hcur,hcurs⟩:=hP0.top;have hb:=hM.blk;have hpl1:(Eu r++[((f.v:Int),(f.i:Int))]).length=(Eu r).length+1:=by simp
  simp only[OU]at hfl
  refine TU ?_;refine fp (α:=Int×Int) rfl rfl rfl rfl SM SM ?_;have eoff:(((((Eu r).length+1:Nat):Int)) -1).toNat*sz (Int×Int)=(Eu r).length*2:=by
   have:(((((Eu r).length+1:Nat):Int)) -1).toNat=(Eu r).length:=by omega
   rw[this];rfl
  rw[eoff];refine Ud ?_;refine QL.load (α:=Int) (F:=di) rfl rfl rfl R S0 hcb (E9 _ _ _) ?_;refine Um ?_;refine QL.load (α:=Int) (F:=di) rfl rfl rfl R S0 hca (E9 _ _ _) ?_;refine dB rfl rfl rfl rfl rfl hF3 hg3 hfv SX (fun u q hu=>?_);obtain⟨ro,rc,rfl,hrow⟩:=hu.sl;have hrl:=hrow.len63;refine Un ?_;refine QL.nil (fun w4 O=>?_);refine TV ?_;apply CW.cond rfl<;>intro hlt
  ·have hi:f.i<(FJ g f.v).length:=by rw[V];simpa[Lb]using hlt
   have hil:f.i<g[f.v].length:=by rw[<-V];exact hi
   have hwr:=hG _ (OG hfv) _ (OG hil);obtain⟨to,eto⟩:=Nn hwr.1;have U:to<g.length:=by omega
   have erow:(FJ g f.v)[f.i]=(to:Int):=by simp only[V];exact eto
   have i:=hM.ext O;have hP4:=hP0.extN O;have hb4:=i.blk;have Z:Cells w4 pk (off+(Eu r).length*2) [Te (f.v:Int)]:=hca.mono (O.block pk R);have hcb4:Cells w4 pk (off+(Eu r).length*2+1) [Te (f.i:Int)]:=hcb.mono (O.block pk R);have G:pk<w4.heap.size:=Qn R O.size;have C:=hE3.trans O;have hg4:Sl w4 F ao cap g:=N.mono (fun b hb=>C.block b (hF b hb)) fun _ h=>h
   have hF4:∀b,F b->b<w4.heap.size:=fun b hb=>Qn (hF b hb) C.size
   clear hM hP hP0 hb hca hcb hg3 hF3 hE3 hrow;refine Ud ?_;refine QL.load (α:=Int) (F:=di) rfl rfl rfl G S0 Z (E9 _ _ _) ?_;refine dB rfl rfl rfl rfl rfl hF4 hg4 hfv SX (fun u q hu=>?_);obtain⟨ro2,rc2,rfl,hrow4⟩:=hu.sl;refine Um ?_;refine QL.load (α:=Int) (F:=di) rfl rfl rfl G S0 hcb4 (E9 _ _ _) ?_;refine dA rfl rfl rfl rfl rfl hF4 hrow4 hil eto SX (fun q=>?_);refine Uf ?_;refine QL.nil (fun w5 hE5=>?_);have hM5:=i.ext hE5;have hP5:=hP4.extN hE5;have hb5:=hM5.blk;have hca5:Cells w5 pk (off+(Eu r).length*2) [Te (f.v:Int)]:=Z.mono (hE5.block pk G);have hcb5:Cells w5 pk (off+(Eu r).length*2+1) [Te (f.i:Int)]:=hcb4.mono (hE5.block pk G);have hE05:=C.trans hE5;have hplt5:pk<w5.heap.size:=Qn G hE5.size;have hmaxr:f.i+1<9223372036854775808:=by omega
   clear i hP4 hb4 Z hcb4 hg4 hF4 C hrow4;refine TQ ?_;refine WL.load (α:=Int) (F:=di) rfl rfl rfl hcb5 (E9 _ _ _) ?_;refine Uj ?_;refine gg (xs:=Eu r) (c':=((f.i+1:Nat):Int)) rfl rfl rfl hP5 (fun w6 hP6 hg6=>?_);have hapk:=D pk hpob;have d:=hM5.off hg6 (fun k j=>by cases j;exact hapk);have hb6:=d.blk;have hE06:Ext w0 w6:=hE05.grown hg6 hE05.size (fun k j=>by cases j;exact hpge);have hpge6:pk<w6.heap.size:=Qn hplt5 hg6.size;have E:to<c.num.length:=by rw[l.ln];exact U
   have hlowto:to<c.low.length:=by rw[l.ll];exact U
   have X:to<c.part.length:=by rw[l.lp];exact U
   have enum:c.num[to]=c.nm to:=(s_ E).symm;have epart:c.part[to]=c.pt to:=(s_ X).symm;have hP6':Own w6 w0.heap.size 318 di (.slice (some ⟨pk,off,none⟩) ((Eu r).length+1) pc) (Eu (⟨f.v,f.i+1,f.seg⟩::r)):=by simpa[Eu]using hP6
   clear hM5 hP5 hb5 hca5 hcb5 hE05;refine TS ?_;refine fj rfl rfl rfl rfl rfl d.num E SX (fun u q hu=>?_);obtain rfl:=hu.int;rw[enum];refine Tl ?_;apply CW.cond rfl<;>intro hz
   ·have hz:c.nm to=0:=by simpa using hz
    refine TP ?_;refine eN (i7 w6 d hE06.size E hlowto hcc0 SM (by simp only[yH,O1];omega)) ?_;rintro _ w7 ⟨tV7,M,hC7,hnb7⟩
    have hS7:∀k,tS b B lb a tV k->w0.heap.size<=k:=by
     obtain⟨l1,l2,l3,l4,l5,l6,l7,l8,l9⟩:=d.lts;rintro k (rfl|rfl|rfl|rfl|h1)
     ·exact d.ge
     ·exact l6
     ·exact l7
     ·exact l8
     ·exact l9 _ h1
    have A:Ext w0 w7:=Chg.ext hE06 hC7 hS7;have hP7:=hP6'.chg hC7 D;have hap7:aj w0.heap.size b B lb a (.slice (some ⟨pk,off,none⟩) ((Eu r).length+1) pc) tV7:=by
     intro k j
     rintro(h1|h1|h1|h1|h1)
     ·exact D k j (.inl h1)
     ·exact D k j (.inr (.inl h1))
     ·exact D k j (.inr (.inr (.inl h1)))
     ·exact D k j (.inr (.inr (.inr (.inl h1))))
     ·rcases hnb7 k h1 with h2|h2
      ·exact D k j (.inr (.inr (.inr (.inr h2))))
      ·have:=(hP6'.lt k j).2.1
       omega
    refine T2 ?_;refine eK ?_;refine eH (α:=Int×Int) (F:=di) (yv:=((to:Int),(0:Int))) rfl rfl SX rfl rfl SX hP7 (Rd.mkPr (E9 _ _ _) (E9 _ _ _)) A.size S0 SP (by simp only[Eu,OT,O8];unfold maxLen;omega) (by simp only[Eu,OT,O8];omega) (fun pV8 w8 p hP8 hg8 hnb8=>?_);have hM8:=M.off hg8 (fun k j=>hap7 k j);have hE08:Ext w0 w8:=A.grown hg8 A.size (fun k j=>(hP7.lt k j).1);have hap8:aj w0.heap.size b B lb a pV8 tV7:=by
     intro k j
     rcases hnb8 k j with h1|h1
     ·exact hap7 k h1
     ·obtain⟨l1,l2,l3,l4,l5,l6,l7,l8,l9⟩:=M.lts
      rintro(h2|h2|h2|h2|h2)
      ·omega
      ·omega
      ·omega
      ·omega
      ·have:=l5 _ h2;omega
    have hpotb:=Ea l U hz;refine To ?_;refine EX.back (IW to c,⟨to,0,[]⟩::⟨f.v,f.i+1,f.seg⟩::r,pV8,tV7) SL ⟨l.tree hG hi U erow hz,?_,by simpa[Eu]using hP8,hap8,hE08,fun k j=>t8 l U (hmo k j),t8 l U hvn⟩ ?_
    ·have e:yH (stk (⟨to,0,[]⟩::⟨f.v,f.i+1,f.seg⟩::r))=yH (stk (f::r))++[(to:Int)]:=by simp[stk,yH]
     dsimp only;rw[e];exact hM8
    ·show J7 g (IW to c) _<J7 g c _
     simp only[J7,Mv];omega
   ·have hz:c.nm to≠0:=by simpa using hz
    refine TY ?_;refine fj rfl rfl rfl rfl rfl d.part X SX (fun u q hu=>?_);obtain rfl:=hu.int;rw[epart];refine Tl ?_;apply CW.cond rfl<;>intro hp0
    ·have hp0:c.pt to<0:=by simpa using hp0
     have K:f.v<c.low.length:=by rw[l.ll];exact hfv
     have elow:c.low[f.v]=c.lw f.v:=(s_ K).symm;have m:=d.ext (Ext.drew w6);have hbd:=m.blk;have hcad:Cells (drew w6) pk (off+(Eu r).length*2) [Te (f.v:Int)]:=by
      obtain⟨b',o',c',he,_,_,_,h1,_,_⟩:=(hP6.extN (Ext.drew w6)).top;obtain⟨h2,_,_⟩:=RS he;simp only[QW,Mz]at h2
      obtain⟨rfl,rfl,_⟩:=h2;exact h1
     have hSE:∀w7,(fun x=>x=drew w6) w7->Ext (drew w6) w7:=fun _ h=>h▸Ext.refl _
     obtain⟨lO,lC,W,T⟩:=m.low.oldN.sl;obtain⟨nO,nC,hnv,hnsl⟩:=m.num.oldN.sl;have hbd':=hbd;rw[W,hnv]at hbd'
     refine aF (fun x=>x=drew w6) [(0,true),(1,true),(2,true),(3,true),(4,true),(5,true),(6,true),(7,true),(8,true),(9,true),(10,true),(11,true),(12,true),(13,true),(14,true),(15,true),(16,true),(17,true),(18,true),(19,true),(20,true),(21,true),(22,true),(23,true),(24,true),(25,false),(26,true)] 27 mixed SN rfl ?_;clear hbd;refine Ut ?_;refine HL.load (α:=Int) (F:=di) hSE rfl rfl rfl rfl hpge6 S0 hcad (E9 _ _ _) ?_;refine Ut ?_;refine HL.load (α:=Int) (F:=di) hSE rfl rfl rfl rfl hpge6 S0 hcad (E9 _ _ _) ?_;refine cj hSE rfl rfl rfl rfl rfl rfl rfl S3 T K SX (fun u q hu=>?_);obtain rfl:=hu.int;rw[elow];refine Ut ?_;refine cj hSE rfl rfl rfl rfl rfl rfl rfl S3 hnsl E SX (fun u q hu=>?_);obtain rfl:=hu.int;rw[enum];refine cD rfl (fO rfl rfl rfl rfl (WL.nil (bf rfl ?_)));have H:=m.low;rw[W]at H
     refine cH (u:=Te (min (c.lw f.v) (c.nm to))) (yv:=min (c.lw f.v) (c.nm to)) rfl rfl rfl rfl rfl rfl H K SX SX S_ (fun w7 q I z=>?_);rw[<-W]at I z
     have A:Ext w0 w7:=(hE06.trans (Ext.drew w6)).grown z (Qk hE06.size Ta) (fun k j=>(m.low.lt k j).1);have M:TM w7 w0.heap.size b (.slice ao g.length cap) v o J tV B lb a (I4 f.v (min (c.lw f.v) (c.nm to)) c) (yH (stk (f::r))):=by
      refine⟨m.blk.kept z (fun e=>by rw[d.hlb]at e;cases e;exact hn5 rfl),m.num.keptN z (fun g N e=>by rw[d.hnb]at N;rw[d.hlb]at e;cases N;cases e;exact hn1 rfl),I,m.part.keptN z (fun g N e=>by rw[d.hpb]at N;rw[d.hlb]at e;cases N;cases e;exact hn3 rfl),m.stk.keptN z (fun g N e=>by rw[d.hlb]at e;cases e;exact(d.sne _ N).2.1 rfl),d.ge,d.hnb,d.hlb,d.hpb,d.ne,d.sne⟩
     have hP7:=(hP6'.extN (Ext.drew w6)).keptN z (fun g N e=>by rw[d.hlb]at e;cases e;exact D _ N (.inr (.inr (.inl rfl))));refine Ua ?_;refine EX.back (I4 f.v (min (c.lw f.v) (c.nm to)) c,⟨f.v,f.i+1,f.seg⟩::r,_,tV) SL ⟨l.back hi U erow hz hp0,M,hP7,D,A,hmo,hvn⟩ ?_;show J7 g (I4 f.v (min (c.lw f.v) (c.nm to)) c) _<J7 g c _;simp only[J7,Mv,Lj];omega
    ·have hp0:0<=c.pt to:=by simpa using hp0
     refine Ua ?_;refine EX.back (c,⟨f.v,f.i+1,f.seg⟩::r,_,tV) SL ⟨l.shut hi U erow hp0,d,hP6',D,hE06,hmo,hvn⟩ ?_;show J7 g c _<J7 g c _;simp only[J7,Mv];omega
  ·have hi:f.i=(FJ g f.v).length:=by
    have:¬f.i<g[f.v].length:=by simpa[Lb]using hlt
    rw[V]at hfi⊢;omega
   have i:=hM.ext O;have hP4:=hP0.extN O;have Z:Cells w4 pk (off+(Eu r).length*2) [Te (f.v:Int)]:=hca.mono (O.block pk R);have C:=hE3.trans O;clear hM hP hb hca hcb hg3 hF3 hE3 hrow;refine TS ?_;refine WL.load (α:=Int) (F:=di) rfl rfl rfl Z (E9 _ _ _) ?_;refine TF ?_;refine eX (α:=Int×Int) (Eu r).length SM rfl rfl rfl rfl hP4 SM (fun pV5 hP5 hpb5=>?_);rw[show(Eu r++[((f.v:Int),(f.i:Int))]).take (Eu r).length=Eu r by simp]at hP5
   have hap5:aj w0.heap.size b B lb a pV5 tV:=fun k j=>D k (by rw[<-hpb5];exact j)
   have K:f.v<c.low.length:=by rw[l.ll];exact hfv
   have hfvn:f.v<c.num.length:=by rw[l.ln];exact hfv
   have hP4l:(Eu r).length<=1099511627776:=by omega
   refine Ue ?_;apply WL.nil;apply bE;refine aB (S:=Unit) (fun _=>[(0,Tg b),(4,pV5),(7,Te (f.v:Int))])
    (fun _ w'=>TM w' w0.heap.size b (.slice ao g.length cap) v o J tV B lb a (AM r f c) (yH (stk (f::r)))/\Own w' w0.heap.size 318 di pV5 (Eu r)/\Ext w0 w') ?_ ?_
   ·refine TU ?_
    apply CW.cond rfl<;>intro hr0
    ·obtain⟨h,r',rfl⟩:∃h r',r=h::r':=by
      cases r with
      |nil=>simp[Eu]at hr0
      |cons h r'=>exact⟨h,r',rfl⟩
     have hhv:h.v<g.length:=l.inG h.v (by rw[Bn,Bn];exact .inl (.inr (.inl rfl)));have hhvl:h.v<c.low.length:=by rw[l.ll];exact hhv
     have elh:c.low[h.v]=c.lw h.v:=(s_ hhvl).symm;have elf:c.low[f.v]=c.lw f.v:=(s_ K).symm;have hP5':Own w4 w0.heap.size 318 di pV5 (Eu r'++[((h.v:Int),(h.i:Int))]):=hP5;obtain⟨pk2,off2,pc2,hpv,hpge2,hplt2,hpob2,hcaH,hcbH,_⟩:=hP5'.top;subst hpv;have hplr:(Eu r').length+1<=1099511627776:=by simpa[Eu]using hP4l
     refine TF ?_;refine fp (α:=Int×Int) rfl rfl rfl rfl SM SM ?_;have eoff2:(((((Eu r').length+1:Nat):Int)) -1).toNat*sz (Int×Int)=(Eu r').length*2:=by
      have:(((((Eu r').length+1:Nat):Int)) -1).toNat=(Eu r').length:=by omega
      rw[this];rfl
     rw[eoff2];refine Ug ?_;refine WL.load (α:=Int) (F:=di) rfl rfl rfl hcaH (E9 _ _ _) ?_;refine Tl ?_;have m:=i.ext (Ext.drew w4);have hbd:=m.blk;have hSE:∀w7,(fun x=>x=drew w4) w7->Ext (drew w4) w7:=fun _ h=>h▸Ext.refl _
     obtain⟨lO,lC,W,T⟩:=m.low.oldN.sl;have hbd':=hbd;rw[W]at hbd'
     refine aF (fun x=>x=drew w4) [(0,true),(1,true),(2,true),(3,true),(4,true),(5,true),(6,true),(7,true),(8,true),(9,true),(10,true),(11,true),(12,true),(13,true),(14,true),(15,true),(16,true),(17,true),(18,true),(19,false),(20,true)] 21 mixed SN rfl ?_;clear hbd;refine Ut ?_;refine cj hSE rfl rfl rfl rfl rfl rfl rfl S3 T hhvl SX (fun u q hu=>?_);obtain rfl:=hu.int;rw[elh];refine Ut ?_;refine cj hSE rfl rfl rfl rfl rfl rfl rfl S3 T K SX (fun u q hu=>?_);obtain rfl:=hu.int;rw[elf];refine cD rfl (fO rfl rfl rfl rfl (WL.nil (bf rfl ?_)));have H:=m.low;rw[W]at H
     refine cH (u:=Te (min (c.lw h.v) (c.lw f.v))) (yv:=min (c.lw h.v) (c.lw f.v)) rfl rfl rfl rfl rfl rfl H hhvl SX SX S_ (fun w7 q I z=>?_);rw[<-W]at I z
     have A:Ext w0 w7:=(C.trans (Ext.drew w4)).grown z (Qk C.size Ta) (fun k j=>(m.low.lt k j).1);have M:TM w7 w0.heap.size b (.slice ao g.length cap) v o J tV B lb a (AM (h::r') f c) (yH (stk (f::h::r'))):=by
      refine⟨m.blk.kept z (fun e=>by rw[i.hlb]at e;cases e;exact hn5 rfl),m.num.keptN z (fun g N e=>by rw[i.hnb]at N;rw[i.hlb]at e;cases N;cases e;exact hn1 rfl),I,m.part.keptN z (fun g N e=>by rw[i.hpb]at N;rw[i.hlb]at e;cases N;cases e;exact hn3 rfl),m.stk.keptN z (fun g N e=>by rw[i.hlb]at e;cases e;exact(i.sne _ N).2.1 rfl),i.ge,i.hnb,i.hlb,i.hpb,i.ne,i.sne⟩
     have hP7:=(hP5.extN (Ext.drew w4)).keptN z (fun g N e=>by rw[i.hlb]at e;cases e;exact hap5 _ N (.inr (.inr (.inl rfl))));exact aZ () SL ⟨M,hP7,A⟩
    ·have hr0:r=[]:=by
      have:(Eu r).length=0:=by simp at hr0;simp[hr0]
      rw[Ev]at this
      exact N0 this
     subst hr0;refine T0 ?_;exact aZ () SL ⟨i,hP5,C⟩
   rintro _ w7 ⟨M,hP7,A⟩
   have elw:(AM r f c).lw f.v=c.lw f.v:=by
    cases r with
    |nil=>rfl
    |cons h r'=>exact l.pass
   have hlen7:(AM r f c).low.length=c.low.length:=by cases r<;>simp[AM,I4]
   have enm7:(AM r f c).num=c.num:=by cases r<;>rfl
   have hfv7:f.v<(AM r f c).low.length:=by rw[hlen7];exact K
   have el7:(AM r f c).low[f.v]=c.lw f.v:=by rw[<-elw];exact(s_ hfv7).symm
   have hfn7:f.v<(AM r f c).num.length:=by rw[enm7];exact hfvn
   have en7:(AM r f c).num[f.v]=c.nm f.v:=by
    have:(AM r f c).nm f.v=c.nm f.v:=by unfold Ts.nm;rw[enm7]
    rw[<-this];exact(s_ hfn7).symm
   obtain⟨lO,lC,W,T⟩:=M.low.oldN.sl;obtain⟨nO,nC,hnv,hnsl⟩:=M.num.oldN.sl;have hb7:=M.blk;rw[W,hnv]at hb7
   refine Ud ?_;refine dA rfl rfl rfl rfl rfl S3 T hfv7 el7 SX (fun q=>?_);refine Um ?_;refine dA rfl rfl rfl rfl rfl S3 hnsl hfn7 en7 SX (fun q=>?_);refine Uf ?_;refine QL.nil (fun w8 hE8=>?_);have hM8:=M.ext hE8;have hP8:=hP7.extN hE8;have hE08:=A.trans hE8;refine TV ?_;apply CW.cond rfl<;>intro Y
   ·have Y:c.lw f.v=c.nm f.v:=by simpa using Y
    have els:AM r f c=c:=by
     cases r with
     |nil=>rfl
     |cons h r'=>exact l.keepLow Y
    rw[els]at hM8
    have hT:=l.close hG hi Y;have hnd:=l.nodup;rw[show stk (f::r)=stk r++f.v::f.seg from rfl]at hnd hM8
    refine TP ?_;refine eN (lQ w8 hM8 (PB.1 hnd).2.1 (fun x hx=>by rw[l.lp];exact l.inG x (by rw[show stk (f::r)=stk r++f.v::f.seg from rfl];exact Pj _ hx)) hg0 SM) ?_;rintro _ w9 ⟨tV9,hM9,hC9,hnb9⟩
    have hS9:∀k,tS b B lb a tV k->w0.heap.size<=k:=by
     obtain⟨l1,l2,l3,l4,l5,l6,l7,l8,l9⟩:=hM8.lts;rintro k (rfl|rfl|rfl|rfl|h1)
     ·exact hM8.ge
     ·exact l6
     ·exact l7
     ·exact l8
     ·exact l9 _ h1
    have hE09:Ext w0 w9:=Chg.ext hE08 hC9 hS9;have hP9:=hP8.chg hC9 hap5;have hap9:aj w0.heap.size b B lb a pV5 tV9:=fun k j h1=>hap5 k j (by unfold tS at h1⊢;rw[hnb9]at h1;exact h1)
    refine TK ?_;refine EX.back (IY (f.v::f.seg) c,r,pV5,tV9) SL ⟨hT,hM9,hP9,hap9,hE09,hmo,hvn⟩ ?_;show J7 g (IY (f.v::f.seg) c) _<J7 g c _;simp only[J7,Mv,Li];omega
   ·have Y:c.lw f.v≠c.nm f.v:=by simpa using Y
    cases r with
    |nil=>exact absurd l.alone Y
    |cons h r'=>
     have hT:=l.merge hi Y;refine TD ?_;refine EX.back (I4 h.v (min (c.lw h.v) (c.lw f.v)) c,⟨h.v,h.i,h.seg++f.v::f.seg⟩::r',pV5,tV) SL ⟨hT,?_,hP8,hap5,hE08,hmo,hvn⟩ ?_
     ·dsimp only;rw[II];exact hM8
     ·show J7 g (I4 h.v (min (c.lw h.v) (c.lw f.v)) c) _<J7 g c _
      simp only[J7,Mv,Lj];omega
 ·have hfs:fs=[]:=by
   have:(Eu fs).length=0:=by simp at hc0;simp[hc0]
   rw[Ev]at this
   exact N0 this
  subst hfs;refine Tt ?_;exact a7 rfl ⟨tV,c,hM,l,hE3,hmo,hvn⟩
def Cu(l:List Int):Int:=l.foldl (fun m x=>max m (x+1)) 0
def Cv(l:List Int)(x:Int):Cu (l++[x])=max (Cu l) (x+1):=by simp[Cu]
def aK(p:List Int):Prop:=∀i,i<p.length->(∃j,j<i/\p.getD j 0=p.getD i 0)\/p.getD i 0=Cu (p.take i)
structure PartsOK(g:bZ)(p:List Int):Prop where
 len:p.length=g.length
 canon:aK p
 same:∀a b,a<g.length->b<g.length->(p.getD a 0=p.getD b 0↔Rch g [(a:Int)] b/\Rch g [(b:Int)] a)
 ge:∀i,i<p.length->0<=p.getD i 0
 lt:∀i,i<p.length->p.getD i 0<g.length
structure CInv(q:List Int)(got:Int)(i:Nat)(name:List Int)(next:Int)(out:List Int):Prop where
 ln:(name.length:Int)=got
 lo:out.length=q.length
 n0:∀k,0<=name.getD k 0/\name.getD k 0<=next
 z:∀j,j<i->0<name.getD (q.getD j 0).toNat 0/\out.getD j 0=name.getD (q.getD j 0).toNat 0 -1
 zz:∀k,0<name.getD k 0->∃j,j<i/\(q.getD j 0).toNat=k
 inj:∀k k',0<name.getD k 0->name.getD k 0=name.getD k' 0->k=k'
 nx:next=Cu (out.take i)
 le:next<=i
 canon:∀j,j<i->(∃m,m<j/\out.getD m 0=out.getD j 0)\/out.getD j 0=Cu (out.take j)
def CInv.start{q out:List Int}(e:0<=x)(d:out.length=q.length):CInv q x 0 (List.replicate x.toNat 0) 0 out:=by
 have c:∀k,(List.replicate x.toNat (0:Int)).getD k 0=0:=by
  intro k
  rw[Oi,Ov];split<;>rfl
 refine⟨by simp;omega,d,fun k=>by rw[c];simp,fun j b=>absurd b SQ,fun k a=>by rw[c]at a;omega,fun k k' a=>by rw[c]at a;omega,rfl,by simp,fun j b=>absurd b SQ⟩
def Jt{out:List Int}{i:Nat}(hi:i<out.length):(out.set i x).take (i+1)=out.take i++[x]:=by
 rw[PZ (by rw[O7];exact hi)];rw[PX Ta,OK]
def CInv.canonStep{q out:List Int}{got next:Int}{i:Nat}{name:List Int}(h:CInv q got i name next out)(hi:i<out.length)(f:(∃m,m<i/\out.getD m 0=x)\/x=Cu (out.take i)):
  ∀j,j<i+1->(∃m,m<j/\(out.set i x).getD m 0=(out.set i x).getD j 0)\/(out.set i x).getD j 0=Cu ((out.set i x).take j):=by
 intro j l
 have a:∀k,(out.set i x).getD k 0=if i=k then x else out.getD k 0:=fun k=>ti hi
 have b:∀k,k<=i->(out.set i x).take k=out.take k:=fun k g=>PX g
 by_cases e:j=i
 ·subst e
  rw[b j Ta,a,Sj rfl];rcases f with⟨m,c,h1⟩|h1
  ·exact .inl ⟨m,c,by rw[a,Si SM];exact h1⟩
  ·exact .inr h1
 ·have d:j<i:=by omega
  rw[b j SM,a,Si (QN e)];rcases h.canon j d with⟨m,c,h1⟩|h1
  ·exact .inl ⟨m,c,by rw[a,Si SM];exact h1⟩
  ·exact .inr h1
def CInv.old{q out:List Int}{next:Int}{i:Nat}(h:CInv q x i m next out)(hi:i<q.length)(hn:m.getD (q.getD i 0).toNat 0≠0):CInv q x (i+1) m next (out.set i (m.getD (q.getD i 0).toNat 0 -1)):=by
 have b:i<out.length:=by rw[h.lo];exact hi
 have a:0<m.getD (q.getD i 0).toNat 0:=by have:=(h.n0 (q.getD i 0).toNat).1;omega
 have l:=(h.n0 (q.getD i 0).toNat).2;have c:∀k,(out.set i (m.getD (q.getD i 0).toNat 0 -1)).getD k 0=if i=k then m.getD (q.getD i 0).toNat 0 -1 else out.getD k 0:=fun k=>ti b
 obtain⟨j,f,d⟩:=h.zz _ a;refine⟨h.ln,by rw[O7];exact h.lo,h.n0,?_,?_,h.inj,?_,by have:=h.le;omega,?_⟩
 ·intro k g
  rw[c];by_cases e:i=k
  ·subst e;rw[Sj rfl];exact⟨a,rfl⟩
  ·rw[Si e];exact h.z k SM
 ·intro k g
  obtain⟨j,f,h1⟩:=h.zz k g;exact⟨j,by omega,h1⟩
 ·rw[Jt b,Cv,<-h.nx];omega
 ·refine h.canonStep b (.inl ⟨j,f,?_⟩)
  rw[(h.z j f).2,d]
def CInv.new{q out:List Int}{next:Int}{i:Nat}(h:CInv q x i m next out)(hi:i<q.length)(n:(q.getD i 0).toNat<m.length)(hn:m.getD (q.getD i 0).toNat 0=0):
  CInv q x (i+1) (m.set (q.getD i 0).toNat (next+1)) (next+1) (out.set i next):=by
 have c:i<out.length:=by rw[h.lo];exact hi
 have d:∀k,(out.set i next).getD k 0=if i=k then next else out.getD k 0:=fun k=>ti c
 have a:∀k,(m.set (q.getD i 0).toNat (next+1)).getD k 0=if(q.getD i 0).toNat=k then next+1 else m.getD k 0:=fun k=>ti n
 have g:0<=next:=by have:=h.n0 0;omega
 refine⟨by rw[O7];exact h.ln,by rw[O7];exact h.lo,?_,?_,?_,?_,?_,by have:=h.le;omega,h.canonStep c (.inr h.nx)⟩
 ·intro k
  rw[a];have:=h.n0 k;split<;>omega
 ·intro j o
  rw[a,d];by_cases e:i=j
  ·subst e
   rw[Sj rfl,Sj rfl];omega
  ·rw[Si e]
   have h1:=h.z j SM;have:¬(q.getD i 0).toNat=(q.getD j 0).toNat:=fun h2=>by rw[<-h2]at h1;omega
   rw[Si this];exact h1
 ·intro k b
  rw[a]at b
  split at b
  ·rename_i e;exact⟨i,by omega,e⟩
  ·obtain⟨j,o,h1⟩:=h.zz k b;exact⟨j,by omega,h1⟩
 ·intro k k' h1 h2
  rw[a]at h1
  rw[a,a]at h2
  have a1:=h.n0 k;have a2:=h.n0 k';split at h2<;>split at h2
  ·rename_i f l;rw[<-f,<-l]
  ·omega
  ·omega
  ·rename_i f l
   rw[Si f]at h1
   exact h.inj k k' h1 h2
 ·rw[Jt c,Cv,<-h.nx];omega
def CInv.done{q out:List Int}{next:Int}(h:CInv q x q.length m next out){g:bZ}(j:q.length=g.length)(hq:∀a,a<g.length->0<=q.getD a 0)(f:∀a b,a<g.length->b<g.length->(q.getD a 0=q.getD b 0↔Rch g [(a:Int)] b/\Rch g [(b:Int)] a)):PartsOK g out:=by
 refine⟨by rw[h.lo,j],fun i hi=>h.canon i (by rw[<-h.lo];exact hi),fun a b d c=>?_,fun i hi=>?_,fun i hi=>?_⟩
 ·rw[<-f a b d c]
  have h1:=h.z a SM;have h2:=h.z b SM;rw[h1.2,h2.2];have n:=hq a d;have l:=hq b c;constructor
  ·intro e
   have k:m.getD (q.getD a 0).toNat 0=m.getD (q.getD b 0).toNat 0:=by omega
   have:=h.inj _ _ h1.1 k;omega
  ·intro e;rw[e]
 ·have:=h.z i (by rw[<-h.lo];exact hi)
  omega
 ·have h1:=h.z i (by rw[<-h.lo];exact hi)
  have h2:=(h.n0 (q.getD i 0).toNat).2;have h3:=h.le;omega
def TInv.start(g:bZ)(part:List Int)(i:part.length=g.length)(e:∀j,j<g.length->part.getD j (-1)= -1):TInv g ⟨List.replicate g.length 0,List.replicate g.length 0,part,0,0⟩ []:=by
 have d:∀k,(List.replicate g.length (0:Int)).getD k 0=0:=by
  intro k
  rw[Oi,Ov];split<;>rfl
 have hn:∀k,Ts.nm ⟨List.replicate g.length 0,List.replicate g.length 0,part,0,0⟩ k=0:=d;have c:∀k,k<g.length->Ts.pt ⟨List.replicate g.length 0,List.replicate g.length 0,part,0,0⟩ k= -1:=e;refine⟨by simp,by simp,i,fun n hn=>absurd hn (by simp[stk]),fun n h=>?_,fun n h=>by rw[hn];omega,fun n hn=>absurd hn (by simp[stk]),by simp[stk],fun n h=>by rw[hn];simp,by simp,fun f hf=>absurd hf SQ,trivial,fun n h h1=>by rw[c n h]at h1;omega,fun n h=>by rw[c n h];simp,by simp,by simp[NQ],?_,fun a b l m h1=>by rw[c a l]at h1;omega⟩
 ·rw[hn,c n h];simp[stk]
 ·have:BG part<=part.length:=NO
  simp;omega
def d9(w0:World){ao:Option Addr}{cap:Nat}{g:bZ}(K:Sl w0 F ao cap g)(hF:∀b,F b->b<w0.heap.size)(hG:okG g)(hgl:g.length<=1099511627776):
  Rt UA 123 [.slice ao g.length cap].toArray w0 fun v w'=>∃p,Own w' w0.heap.size 3 di v p/\PartsOK g p/\Ext w0 w':=by
 refine dU Tryz.func123 Tryz.ntmps123 rfl rfl ?_;refine TR ?_;refine aD (fun x=>Ext w0 x) [(0,true),(1,true),(3,true),(5,true)] [2,4,6] [(7,true),(8,false),(9,true)] mixed SN (Ext.drew w0) ?_;refine Uu ?_;refine aS [⟨2,15,fun v N w=>Own w w0.heap.size 3 di v (List.replicate g.length (0:Int))/\∃b,v.ownBlock=some b/\N b⟩,⟨4,17,fun v N w=>Own w w0.heap.size 3 di v (List.replicate g.length (0:Int))/\∃b,v.ownBlock=some b/\N b⟩,
  ⟨6,19,fun v N w=>Own w w0.heap.size 3 di v (List.replicate g.length (0:Int))/\∃b,v.ownBlock=some b/\N b⟩] rfl rfl rfl (Ext.drew w0) ?_ ?_
 ·intro e he
  simp only[Pk,PE,or_false]at he
  rcases he with rfl|rfl|rfl
  all_goals
   refine⟨⟨_,rfl,rfl,rfl,fun w' hS=>?_⟩,rfl,rfl,fun v N w1 w2 h hE=>⟨h.1.extN hE,h.2⟩⟩;refine fK (α:=Int) rfl rfl rfl rfl SM SS (fun w2 ho hgr=>?_);have hE:Ext w' w2:=(Ext.refl w').grown hgr Ta S5;have hS:Ext w0 w':=hS;exact WL.nil (aT (fun b=>b=w'.heap.size) rfl (hS.trans hE) hE ⟨ho.low hS.size,_,rfl,rfl⟩ (fun b R=>by subst R;exact⟨Qj _,(ho.lt _ rfl).2.1⟩))
 intro w1 T hE1 nV N1 h1 _ lV N2 h2 d2 pV N3 h3 d3
 obtain⟨h1,L,hnb,m1⟩:=h1;obtain⟨h2,lb,hlb,m2⟩:=h2;obtain⟨h3,pb,hpb,m3⟩:=h3;have n12:L≠lb:=fun e=>d2 N1 SQ L m1 (by rw[e];exact m2)
 have n13:L≠pb:=fun e=>d3 N1 SQ L m1 (by rw[e];exact m3)
 have n23:lb≠pb:=fun e=>d3 N2 SQ lb m2 (by rw[e];exact m3)
 dsimp only;have T:Ext w0 w1:=T;obtain⟨no,nc,hnv⟩:=h1.val;obtain⟨lo,lc,hlv⟩:=h2.val;obtain⟨po,pc,hpv⟩:=h3.val;subst hnv hlv hpv;refine HL.build rfl rfl rfl rfl rfl ?_;refine cD rfl (eJ fun w2 hb2 X=>?_);have Y:=T.trans X;refine WL.nil (bf Y ?_);refine Uu ?_;have hsz1:w0.heap.size<=w1.heap.size:=T.size;have g1:=h1.lt _ hnb;have g2:=h2.lt _ hlb;have g3:=h3.lt _ hpb;have hM2:TM w2 w0.heap.size w1.heap.size (.slice ao g.length cap) (.slice no (List.replicate g.length (0:Int)).length nc) (.slice lo (List.replicate g.length (0:Int)).length lc) (.slice po (List.replicate g.length (0:Int)).length pc) (.slice none 0 0) L lb pb ⟨List.replicate g.length 0,List.replicate g.length 0,List.replicate g.length 0,0,0⟩ (yH []):=
  ⟨hb2,h1.extN X,h2.extN X,h3.extN X,Own.nil,hsz1,hnb,hlb,hpb,⟨n12,n13,n23,by omega,by omega,by omega⟩,fun k hk=>by simp[Value.ownBlock]at hk⟩
 generalize hnV:Value.slice no (List.replicate g.length (0:Int)).length nc=nV at*
 generalize hlV:Value.slice lo (List.replicate g.length (0:Int)).length lc=lV at*
 generalize hpV:Value.slice po (List.replicate g.length (0:Int)).length pc=pV at*
 generalize hbb:w1.heap.size=b at*
 clear h1 h2 h3 g1 g2 g3 hb2 T X hE1 d2 d3 m1 m2 m3 hnV hlV hpV;apply bE;refine TI ?_;refine CW.loop (S:=Nat×List Int) (fun x=>[(3,Te g.length),(4,Tg b),(22,Te g.length),(23,Te x.1)])
  (fun x w=>x.1<=g.length/\x.2.length=g.length/\(∀j,j<x.1->x.2.getD j (-1)= -1)/\TM w w0.heap.size b (.slice ao g.length cap) nV lV pV (.slice none 0 0) L lb pb ⟨List.replicate g.length 0,List.replicate g.length 0,x.2,0,0⟩ (yH [])/\Ext w0 w) (fun x=>g.length -x.1) (0,List.replicate g.length 0) SL ⟨by omega,by simp,fun j y=>absurd y SQ,hM2,Y⟩ ?_
 rintro⟨i,part⟩ w3 ⟨hi,z,G,c,n⟩
 dsimp only at hi z G c
 refine T2 ?_;apply CW.cond rfl<;>intro d
 ·simp at d
  have R:=c.blk;obtain⟨hn1,hn2,hn3,hn4,hn5,hn6⟩:=c.ne;refine TS ?_;refine f6 (u:=Te (-1)) (yv:=(-1:Int)) rfl rfl rfl rfl c.part SR SX SX S_ (fun O q hp4 B=>?_);have C:TM O w0.heap.size b (.slice ao g.length cap) nV lV pV (.slice none 0 0) L lb pb ⟨List.replicate g.length 0,List.replicate g.length 0,part.set i (-1),0,0⟩ (yH []):=
   ⟨R.kept B (fun e=>by rw[c.hpb]at e;cases e;exact hn6 rfl),c.num.keptN B (fun g K e=>by rw[c.hnb]at K;rw[c.hpb]at e;cases K;cases e;exact hn2 rfl),c.low.keptN B (fun g K e=>by rw[c.hlb]at K;rw[c.hpb]at e;cases K;cases e;exact hn3 rfl),hp4,Own.nil,c.ge,c.hnb,c.hlb,c.hpb,c.ne,c.sne⟩
  have D:Ext w0 O:=n.grown B n.size (fun k hk=>(c.part.lt k hk).1);refine Tn ?_;refine EX.back (i+1,part.set i (-1)) SL ⟨d,by simp[z],fun j y=>?_,C,D⟩ (by simp only;omega);dsimp only;rw[ti SM];split
  ·rfl
  ·exact G j (by dsimp only at y;omega)
 simp at d
 have:i=g.length:=by omega
 subst this;have hI0:=TInv.start g part z G;clear d hi G;refine T6 ?_;refine CW.loop (S:=Nat×Ts×Value) (fun x=>[(3,Te g.length),(4,Tg b),(33,Te g.length),(34,Te x.1)])
  (fun x w=>x.1<=g.length/\TInv g x.2.1 []/\TM w w0.heap.size b (.slice ao g.length cap) nV lV pV x.2.2 L lb pb x.2.1 (yH [])/\Ext w0 w/\∀j,j<x.1->0<x.2.1.nm j) (fun x=>g.length -x.1) (0,_,.slice none 0 0) SL ⟨by omega,hI0,c,n,fun j y=>absurd y SQ⟩ ?_
 clear hI0 c n hM2 Y;rintro⟨i,s,sV⟩ w3 ⟨hi,V,c,n,E⟩
 dsimp only at hi V c E
 refine T2 ?_;apply CW.cond rfl<;>intro d
 ·simp at d
  have R:=c.blk;have hil:i<s.num.length:=by rw[V.ln];exact d
  have en:s.num[i]=s.nm i:=(s_ hil).symm;refine TS ?_;refine fj rfl rfl rfl rfl rfl c.num hil SX (fun u q P=>?_);obtain rfl:=P.int;rw[en];refine Tl ?_;apply CW.cond rfl<;>intro M
  ·have M:s.nm i=0:=by simpa using M
   refine TP ?_;refine eN (Lk w0 w3 n K hF hG hgl c V d M) ?_;rintro _ O ⟨sV4,s4,C,hI4,D,hmo,hv4⟩
   refine Tn ?_;refine EX.back (i+1,s4,sV4) SL ⟨d,hI4,C,D,fun j y=>?_⟩ (by simp only;omega);by_cases e:j=i
   ·subst e;exact hv4
   ·exact hmo j (E j (by dsimp only at y;omega))
  ·have M:s.nm i≠0:=by simpa using M
   have:=V.non i d;refine Tj ?_;refine EX.back (i+1,s,sV) SL ⟨d,V,c,n,fun j y=>?_⟩ (by simp only;omega);by_cases e:j=i
   ·subst e;dsimp only;omega
   ·exact E j (by dsimp only at y;omega)
 simp at d
 have:i=g.length:=by omega
 subst this;clear d hi;have R:=c.blk;have m:∀a,a<g.length->0<=s.pt a:=fun a ha=>by
  rcases(V.vis a ha).1 (E a ha)with h|h
  ·simp[stk]at h
  ·exact h
 have hgn:=V.gn;have hg0:=V.g0;have z:=V.lp;obtain⟨gn,egn⟩:=Nn hg0;rw[egn]at R
 have hgnl:gn<=g.length:=by omega
 refine T6 ?_;refine fK (α:=Int) rfl rfl rfl rfl SM SS (fun O t B=>?_);have W:Ext w3 O:=(Ext.refl w3).grown B Ta S5;have C:=c.ext W;have D:=n.trans W;have hb4:=C.blk;refine T2 ?_;refine fK (α:=Int) rfl rfl rfl rfl SM SS (fun w5 r hg5=>?_);have J:Ext O w5:=(Ext.refl O).grown hg5 Ta S5;have hM5:=C.ext J;have hE5:=D.trans J;have I:=(t.extN J).low n.size;have r:=r.low D.size;have hnb34:w3.heap.size<O.heap.size:=(t.lt _ rfl).2.1;have l1:=c.lts.1;have l4:=c.lts.2.2.2.1;have hge3:=n.size;have hge4:=D.size;generalize hnm:Value.slice (some ⟨w3.heap.size,0,none⟩) gn gn=mV at*
 generalize hou:Value.slice (some ⟨O.heap.size,0,none⟩) g.length g.length=oV at*
 have hmb:mV.ownBlock=some w3.heap.size:=by rw[<-hnm];rfl
 have hob:oV.ownBlock=some O.heap.size:=by rw[<-hou];rfl
 have hC0:CInv s.part s.got 0 (List.replicate gn 0) 0 (List.replicate g.length 0):=by
  have:=CInv.start (q:=s.part) (out:=List.replicate g.length 0) hg0 (by simp[z]);rwa[egn,Nt,<-egn]at this
 have hsame:∀a b,a<g.length->b<g.length->(s.part.getD a 0=s.part.getD b 0↔Rch g [(a:Int)] b/\Rch g [(b:Int)] a):=by
  intro a b ha R
  rw[<-V.scc a b ha R (m a ha) (m b R)];unfold Ts.pt;rw[s_ SM,s_ SM,s_ SM,s_ SM]
 have hq0:∀a,a<g.length->0<=s.part.getD a 0:=fun a ha=>by
  have:=m a ha;unfold Ts.pt at this
  rw[s_ SM]at this⊢
  exact this
 have hql:∀a,a<g.length->s.part.getD a 0<s.got:=fun a ha=>by
  have:=V.ptl a ha;unfold Ts.pt at this
  rw[s_ SM]at this⊢
  exact this
 have hmS:¬tS b L lb pb sV w3.heap.size:=by
  obtain⟨a1,a2,a3,a4,a5,_⟩:=c.lts;rintro(h1|h1|h1|h1|h1)
  ·omega
  ·omega
  ·omega
  ·omega
  ·have:=a5 _ h1;omega
 have hoS:¬tS b L lb pb sV O.heap.size:=by
  obtain⟨a1,a2,a3,a4,a5,_⟩:=c.lts;rintro(h1|h1|h1|h1|h1)
  ·omega
  ·omega
  ·omega
  ·omega
  ·have:=a5 _ h1;omega
 clear R hb4 C t B hg5 W J hnm hou;refine TI ?_;refine CW.loop (S:=Nat×List Int×Int×List Int) (fun x=>[(4,Tg b),(7,mV),(8,Te x.2.2.1),(9,oV),(56,Te g.length),(57,Te x.1)])
  (fun x w=>x.1<=g.length/\CInv s.part s.got x.1 x.2.1 x.2.2.1 x.2.2.2/\TM w w0.heap.size b (.slice ao g.length cap) nV lV pV sV L lb pb s (yH [])/\Own w w0.heap.size 3 di mV x.2.1/\Own w w0.heap.size 3 di oV x.2.2.2/\Ext w0 w) (fun x=>g.length -x.1) (0,_,0,_) SL ⟨by omega,hC0,hM5,I,r,hE5⟩ ?_
 clear hM5 I r hE5 hC0 c;rintro⟨i,name,next,out⟩ w6 ⟨hi,hC,c,l,H,hE6⟩
 dsimp only at hi hC l H
 refine T2 ?_;apply CW.cond rfl<;>intro d
 ·simp at d
  have R:=c.blk;have A:i<s.part.length:=by omega
  have ei:s.part[i]=s.part.getD i 0:=(s_ A).symm;obtain⟨k,ek⟩:=Nn (hq0 i d);have hkl:=hql i d;have hnl:=hC.ln;have Q:k<name.length:=by omega
  have hk0:=hC.n0 k;have hCle:=hC.le;have hio:i<out.length:=by rw[hC.lo];exact A
  have enk:name[k]=name.getD k 0:=(s_ Q).symm;obtain⟨hn1,hn2,hn3,hn4,hn5,hn6⟩:=c.ne;dsimp only;apply CW.skip;apply bE;apply CW.seq;apply CW.block;apply CW.seq;apply CW.region;refine Ue ?_;apply WL.nil;apply bE;refine aB (S:=List Int×Int) (fun x=>[(4,Tg b),(7,mV),(8,Te x.2),(9,oV),(10,Te i),(56,Te g.length),(57,Te i)])
   (fun x w'=>∃out',CInv s.part s.got (i+1) x.1 x.2 out'/\out'=out.set i (x.1.getD k 0 -1)/\x.1.length=name.length/\TM w' w0.heap.size b (.slice ao g.length cap) nV lV pV sV L lb pb s (yH [])/\Own w' w0.heap.size 3 di mV x.1/\Own w' w0.heap.size 3 di oV out/\Ext w0 w') ?_ ?_
  ·refine TY ?_
   refine fj rfl rfl rfl rfl rfl c.part A SX (fun u q P=>?_);obtain rfl:=P.int;rw[ei,ek];refine fj rfl rfl rfl rfl rfl l Q SX (fun u q P=>?_);obtain rfl:=P.int;rw[enk];refine Tl ?_;apply CW.cond rfl<;>intro M
   ·have M:name.getD k 0=0:=by simpa using M
    have Z:=hC.new A (by rw[ek,Nt];exact Q) (by rw[ek,Nt];exact M);rw[ek,Nt]at Z
    refine Tv ?_;refine fj rfl rfl rfl rfl rfl c.part A SX (fun u q P=>?_);obtain rfl:=P.int;rw[ei,ek];refine Ue ?_;refine f6 (u:=Te (next+1)) (yv:=next+1) rfl rfl rfl rfl l Q SX SX S_ (fun w7 q f hg7=>?_);have U:=c.off hg7 (fun j y=>by
     rw[hmb]at y
     cases y
     exact hmS)
    have o:=H.keptN hg7 (fun g K e=>by rw[hob]at K;rw[hmb]at e;cases K;simp at e;omega);have hE7:Ext w0 w7:=hE6.grown hg7 hE6.size (fun j y=>(l.lt j y).1);refine T1 ?_;refine aZ (name.set k (next+1),next+1) SL ⟨_,Z,?_,by simp,U,f,o,hE7⟩;dsimp only;rw[ti Q,Sj rfl]
    congr 1;omega
   ·have M:name.getD k 0≠0:=by simpa using M
    have Z:=hC.old A (by rw[ek,Nt];exact M);rw[ek,Nt]at Z
    refine T0 ?_;exact aZ (name,next) SL ⟨_,Z,rfl,rfl,c,l,H,hE6⟩
  rintro⟨name',next'⟩ w7 ⟨out',Z,rfl,hnl',U,f,o,hE7⟩
  dsimp only at Z hnl' f⊢
  have hb7:=U.blk;have hkn':k<name'.length:=by omega
  have enk':name'[k]=name'.getD k 0:=(s_ hkn').symm;have hk0':=Z.n0 k;have hNle:=Z.le;refine TY ?_;refine fj rfl rfl rfl rfl rfl U.part A SX (fun u q P=>?_);obtain rfl:=P.int;rw[ei,ek];refine fj rfl rfl rfl rfl rfl f hkn' SX (fun u q P=>?_);obtain rfl:=P.int;rw[enk'];refine Ul ?_;refine f6 (u:=Te (name'.getD k 0 -1)) (yv:=name'.getD k 0 -1) rfl rfl rfl rfl o hio SX SX S_ (fun w8 q hout8 hg8=>?_);have hM8:=U.off hg8 (fun j y=>by rw[hob]at y;cases y;exact hoS);have hname8:=f.keptN hg8 (fun g K e=>by rw[hmb]at K;rw[hob]at e;cases K;simp at e;omega);have hE8:Ext w0 w8:=hE7.grown hg8 hE7.size (fun j y=>(o.lt j y).1);refine Tn ?_;exact EX.back (i+1,name',next',_) SL ⟨d,Z,hM8,hname8,hout8,hE8⟩ (by simp only;omega)
 simp at d
 have:i=g.length:=by omega
 subst this;refine TO ?_;refine bi rfl rfl ⟨out,H,?_,hE6⟩;exact CInv.done (z▸hC) z hq0 hsame
def Rc.lt{N b:Nat}(d:∀u v,e u v->v<N)(c:a<N):Rc e a b->b<N
 |⟨p,n,h⟩=>by
  cases n with
  |zero=>rw[<-h.last,h.first];exact c
  |succ n=>rw[<-h.last];exact d _ _ (h.step n SM)
def Rc.first{b c:Nat}(h1:Rc e a b)(h2:e b c)(h3:Rc e c a):∃u,e a u/\Rc e u a:=by
 obtain⟨p,n,h⟩:=h1;cases n with
 |zero=>obtain rfl:a=b:=h.first.symm.trans h.last
        exact⟨c,h2,h3⟩
 |succ n=>
  refine⟨p 1,by have:=h.step 0 SM;rwa[h.first]at this,Rc.trans ⟨fun i=>p (i+1),n,rfl,h.last,fun i hi=>h.step (i+1) SM⟩ ((Rc.one h2).trans h3)⟩
def mq{g:bZ}{part:List Int}(j:okG g)(o:PartsOK g part){i:Nat}(hi:i<g.length):
  aO (Eg g) A i↔(∃u,u<g.length/\part.getD u 0=part.getD i 0/\∃to∈g.getD u [],part.getD to.toNat 0=part.getD i 0)/\∀P∈A,∃x,x<g.length/\P x/\part.getD x 0=part.getD i 0:=by
 have k:∀u v,Eg g u v->v<g.length:=fun u v h=>h.lt j
 have c:∀a b,a<g.length->b<g.length->(part.getD a 0=part.getD b 0↔Rc (Eg g) a b/\Rc (Eg g) b a):=fun a b q p=>by
  rw[o.same a b q p,EO j,EO j]
 constructor
 ·rintro⟨⟨u,h1,h2⟩,h3⟩
  refine⟨⟨i,hi,rfl,(u:Int),h1,?_⟩,fun P hP=>?_⟩
  ·exact((c u i (k _ _ h1) hi).2 ⟨h2,Rc.one h1⟩)
  ·obtain⟨x,e,k1,k2⟩:=h3 P hP
   exact⟨x,Rc.lt k hi k1,e,(c x i (Rc.lt k hi k1) hi).2 ⟨k2,k1⟩⟩
 ·rintro⟨⟨u,n,h1,to,h2,h3⟩,h4⟩
  have t:=CP j u to h2;have d:Eg g u to.toNat:=by show((to.toNat:Nat):Int)∈_;rw[show((to.toNat:Nat):Int)=to by omega];exact h2
  refine⟨Rc.first ((c u i n hi).1 h1).2 d ((c _ i (k _ _ d) hi).1 h3).1,fun P hP=>?_⟩;obtain⟨x,e,r,m⟩:=h4 P hP;exact⟨x,r,((c x i e hi).1 m).2,((c x i e hi).1 m).1⟩
section
variable {g:bZ}{f li:List Int}{sm:bZ}
theorem Eg.lt1{g:bZ}{u v:Nat}(h:Eg g u v):u<g.length:=by
 unfold Eg at h
 apply Nh;intro hn
 rw[Oi,Oo SM]at h
 simp at h
end
def rx(mu no:List Nat)(k x:Nat):Bool:=decide (x&&&mu.getD k 0=mu.getD k 0)&&decide (x&&&no.getD k 0=0)
structure AccRun(st:List Int)(nx:List (List Int))(mu no:List Nat)(fr:List (List Int))(L r:Nat->Nat):Prop where
 first:(r 0:Int)∈st
 fits:∀i,rx mu no (r i) (L i)=true
 step:∀i,(r (i+1):Int)∈nx.getD (r i) []
 fair:∀F∈fr,∀i,∃j,i<=j/\(r j:Int)∈F
def Acc(st:List Int)(nx:List (List Int))(mu no:List Nat)(fr:List (List Int))(L:Nat->Nat):Prop:=∃r,AccRun st nx mu no fr L r
section
variable {st:List Int}{nx:List (List Int)}{mu no:List Nat}{fr:List (List Int)}{s l:List Nat}
end
def Acc.congr{st:List Int}{nx:List (List Int)}{no:List Nat}{fr:List (List Int)}{L:Nat->Nat}(h:∀i,L i=p i):Acc st nx s no fr L↔Acc st nx s no fr p:=by
 rw[show L=p from funext h]
abbrev dw:=Int×Int
def xV{ps t:List dw}{p:dw}(h:p∈ps):(ps++t).idxOf p=ps.idxOf p:=by rw[OO,Sj h]
def xX{ps:List dw}{p:dw}(h:p∉ps):ps.idxOf p=ps.length:=by
 have h1:=List.idxOf_le_length (a:=p) (l:=ps);have h2:=mt OP.1 h;omega
def sY{l t:List α}{j:Nat}{d:α}(h:j<l.length):(l++t).getD j d=l.getD j d:=by rw[Oi,Oi,Oj h]
def sX{l:List α}{x d:α}:(l++[x]).getD l.length d=x:=by rw[Oi,Ok Ta];simp
def sZ{ps:List dw}{n:Nat}(h:n<ps.length):ps.getD n (0,0)∈ps:=by rw[Oi,On h];exact OG _
def xS{ps:List dw}{p:dw}(h:p∈ps):ps.idxOf p<ps.length/\ps.getD (ps.idxOf p) (0,0)=p:=by
 have a:=OP.2 h;exact⟨a,by rw[Oi,On a,Option.getD_some,List.getElem_idxOf a]⟩
abbrev cM:=List Int×List (List Int)×List Nat×List Nat×List (List Int)
def aa(A:cM)(L:Nat->Nat):Prop:=Acc A.1 A.2.1 A.2.2.1 A.2.2.2.1 A.2.2.2.2 L
def dt(A:cM):Prop:=(∀x∈A.1,0<=x)/\∀k,∀x∈A.2.1.getD k [],0<=x
def gu(ps:List dw)(p:dw):List dw:=if p∈ps then ps else ps++[p]
def EI(fit:dw->Bool):List dw->List dw->List Int->List dw×List Int
 |[],ps,l=>(ps,l)
 |p::r,ps,l=>if fit p=true then EI fit r (gu ps p) (l++[(ps.idxOf p:Int)])else EI fit r ps l
def Dz(l k:List Int):List dw:=l.flatMap fun x=>k.map fun y=>(x,y)
section
variable {fit:dw->Bool}
theorem addF_mem{ps:List dw}{p q:dw}:q∈gu ps p↔q∈ps\/q=p:=by
 unfold gu;split
 ·exact⟨.inl,fun h=>h.elim id (fun h=>by subst h;assumption)⟩
 ·simp
theorem gw{ps:List dw}{p:dw}:∃t,gu ps p=ps++t:=by
 unfold gu;split
 ·exact⟨[],by simp⟩
 ·exact⟨[p],rfl⟩
theorem gy{ps:List dw}{p:dw}(h:ps.Nodup):(gu ps p).Nodup:=by
 unfold gu;split
 ·exact h
 ·rename_i hn
  rw[PB];refine⟨h,PK _ _,fun a d b c e=>?_⟩;rw[Py]at c
  exact hn (by rw[<-c,<-e];exact d)
theorem gx{ps:List dw}{p:dw}:(gu ps p).idxOf p=ps.idxOf p:=by
 unfold gu;split
 ·rfl
 ·rename_i hn
  rw[OO,Si hn,xX hn];simp
structure PutF(fit:dw->Bool)(r ps:List dw)(l:List Int)(q:List dw×List Int):Prop where
 nd:q.1.Nodup
 app:∃t,q.1=ps++t
 new:∀p∈q.1,p∈ps\/(p∈r/\fit p=true)
 all:∀p∈r,fit p=true->p∈q.1
 num:∀i,i∈q.2↔i∈l\/∃p∈r,fit p=true/\i=(q.1.idxOf p:Int)
 len:q.2.length<=l.length+r.length
theorem EJ:∀(r ps:List dw) (l:List Int),ps.Nodup->PutF fit r ps l (EI fit r ps l)
 |[],ps,l,h=>⟨h,⟨[],by simp[EI]⟩,fun p e=>.inl e,(fun p e=>by cases e),fun i=>by simp[EI],by simp[EI]⟩
 |p::r,ps,l,h=>by
  rw[EI];split
  ·rename_i hf
   have k:=EJ r (gu ps p) (l++[(ps.idxOf p:Int)]) (gy h);obtain⟨t,d⟩:=k.app;obtain⟨f,c⟩:=gw (ps:=ps) (p:=p);refine⟨k.nd,⟨f++t,by rw[d,c,NF]⟩,fun q hq=>?_,fun q hq a=>?_,fun i=>?_,?_⟩
   ·rcases k.new q hq with h1|h1
    ·rcases addF_mem.1 h1 with h1|h1
     ·exact .inl h1
     ·subst h1;exact .inr ⟨Pm,hf⟩
    ·exact .inr ⟨Pl _ h1.1,h1.2⟩
   ·rcases Pk.1 hq with rfl|hq
    ·rw[d];exact Pi _ (addF_mem.2 (.inr rfl))
    ·exact k.all q hq a
   ·have b:(EI fit r (gu ps p) (l++[(ps.idxOf p:Int)])).1.idxOf p=ps.idxOf p:=by
     rw[d,OO,Sj (addF_mem.2 (.inr rfl)),gx]
    rw[k.num];constructor
    ·rintro(h1|⟨q,h1,h2,h3⟩)
     ·rcases Ph.1 h1 with h1|h1
      ·exact .inl h1
      ·rw[Py]at h1
       exact .inr ⟨p,Pm,hf,by rw[b];exact h1⟩
     ·exact .inr ⟨q,Pl _ h1,h2,h3⟩
    ·rintro(h1|⟨q,h1,h2,h3⟩)
     ·exact .inl (Pi _ h1)
     ·rcases Pk.1 h1 with rfl|h1
      ·exact .inl (Pj _ (by rw[Py,h3,b]))
      ·exact .inr ⟨q,h1,h2,h3⟩
   ·have:=k.len;simp only[OT,OU,O2]at this⊢;omega
  ·rename_i hf
   have k:=EJ r ps l h;refine⟨k.nd,k.app,fun q hq=>?_,fun q hq a=>?_,fun i=>?_,?_⟩
   ·exact(k.new q hq).imp id fun h1=>⟨Pl _ h1.1,h1.2⟩
   ·rcases Pk.1 hq with rfl|hq
    ·exact absurd a hf
    ·exact k.all q hq a
   ·rw[k.num]
    constructor
    ·rintro(h1|⟨q,h1,h2,h3⟩)
     ·exact .inl h1
     ·exact .inr ⟨q,Pl _ h1,h2,h3⟩
    ·rintro(h1|⟨q,h1,h2,h3⟩)
     ·exact .inl h1
     ·rcases Pk.1 h1 with rfl|h1
      ·exact absurd h2 hf
      ·exact .inr ⟨q,h1,h2,h3⟩
   ·have:=k.len;simp only[OU]at this⊢;omega
theorem pairsX_mem{l k:List Int}{p:dw}:p∈Dz l k↔p.1∈l/\p.2∈k:=by
 unfold Dz;simp only[Pp,Pr];constructor
 ·rintro⟨x,b,y,a,rfl⟩;exact⟨b,a⟩
 ·rintro⟨h1,h2⟩;exact⟨p.1,h1,p.2,h2,rfl⟩
theorem Ci:∀(n:Nat) (l:List Nat),l.Nodup->(∀x∈l,x<n)->l.length<=n
 |0,l,_,h=>by
  cases l with
  |nil=>simp
  |cons x r=>have:=h x SQ;omega
 |n+1,l,hd,h=>by
  by_cases hn:n∈l
  ·have h1:=Ci n (l.erase n) (hd.erase n) (fun x a=>by
    have h2:=(List.Nodup.mem_erase_iff hd).1 a;have:=h x h2.2;have:=h2.1;omega)
   rw[OZ hn]at h1
   omega
  ·have:=Ci n l hd (fun x a=>by
    have h2:=h x a;have:x≠n:=fun e=>hn (e▸a)
    omega)
   omega
theorem Cf{a b:Nat}{ps:List dw}(hn:ps.Nodup)(h:∀p∈ps,(0<=p.1/\p.1<a)/\0<=p.2/\p.2<b):ps.length<=a*b:=by
 have hd:∀(x y:Nat),y<b->(b*x+y) / b=x/\(b*x+y) % b=y:=fun x y g=>by
  have l:0<b:=by omega
  exact⟨by rw[Nat.mul_add_div l,Qa g,P9],by rw[Nat.mul_add_mod,Qq g]⟩
 have h1:=Ci (a*b) (ps.map fun p=>b*p.1.toNat+p.2.toNat) (by
  unfold List.Nodup at hn⊢
  rw[PJ];refine(PI.2 fun {p q} c=>?_);have d:p∈ps:=c.subset SQ;have hq:q∈ps:=c.subset SQ;have f:=PI.1 hn c;intro e
  obtain⟨⟨p1,p2⟩,j,i⟩:=h p d;obtain⟨⟨r,o⟩,n,m⟩:=h q hq;have d1:=hd p.1.toNat p.2.toNat SM;have d2:=hd q.1.toNat q.2.toNat SM;rw[e]at d1
  exact f (Prod.ext (by have:=d1.1.symm.trans d2.1;omega) (by have:=d1.2.symm.trans d2.2;omega))) (fun x k=>by
  obtain⟨p,d,rfl⟩:=Pr.1 k;obtain⟨⟨p1,p2⟩,j,i⟩:=h p d;have h2:p.1.toNat+1<=a:=by omega
  have h3:=Qt b h2;rw[Nat.mul_add,Qv,Nat.mul_comm b a]at h3
  omega)
 simpa using h1
end
abbrev UP:=List (Int×Int)
abbrev zH(up:UP):List Int:=up.map Prod.fst
structure WyC(g:List (List Int))(fr:List Int)(al:Nat->Bool)(up:UP):Prop where
 nd:(zH up).Nodup
 rg:CQ g.length (zH up)
 par:∀i (hi:i<up.length),(up[i].2= -1/\up[i].1∈fr)\/∃j,∃hj:j<up.length,j<i/\up[i].2=up[j].1/\up[i].1∈g.getD up[j].1.toNat []/\al up[i].1.toNat=true
structure WyOK(g:List (List Int))(fr:List Int)(to al:Nat->Bool)(r:List Int):Prop where
 ne:0<r.length
 len:r.length<=g.length
 rg:CQ g.length r
 st:r.getD 0 0∈fr
 ed:∀i,i+1<r.length->r.getD (i+1) 0∈g.getD (r.getD i 0).toNat []/\al (r.getD (i+1) 0).toNat=true
 en:to (r.getD (r.length -1) 0).toNat=true
def gp(g:List (List Int))(fr:List Int)(to al:Nat->Bool):Prop:=∃C:List Int,(∀x∈fr,x∈C)/\∀x∈C,to x.toNat=false/\∀k∈g.getD x.toNat [],al k.toNat=true->k∈C
def gB(part:List Int)(only:Int)(k:Nat):Bool:=decide (only<0)||decide (part.getD k 0=only)
section
variable {g:List (List Int)}{fr:List Int}{to al:Nat->Bool}{up:UP}
theorem CS:∀{n:Nat} {l:List Int},l.Nodup->CQ n l->l.length<=n:=fun {n l} hn h=>by
 have h1:=Ci n (l.map Int.toNat) (by
  unfold List.Nodup at hn⊢
  rw[PJ];refine PI.2 fun {a b} c=>?_
  have d:=h a (c.subset SQ);have f:=h b (c.subset SQ);have:=PI.1 hn c;omega) (fun x e=>by
  obtain⟨a,d,rfl⟩:=Pr.1 e;have:=h a d;omega)
 simpa using h1
theorem WyC.nil:WyC g fr al []:=⟨List.Pairwise.nil,(fun x a=>by cases a),fun i hi=>absurd hi SQ⟩
theorem WyC.len(h:WyC g fr al up):up.length<=g.length:=by
 have:=CS h.nd h.rg;simpa using this
theorem WyC.push(h:WyC g fr al up){x:Int×Int}(hn:x.1∉zH up)(n:0<=x.1/\x.1<g.length)
  (o:(x.2= -1/\x.1∈fr)\/∃j,∃d:j<up.length,x.2=up[j].1/\x.1∈g.getD up[j].1.toNat []/\al x.1.toNat=true):WyC g fr al (up++[x]):=by
 refine⟨?_,fun y c=>?_,fun i hi=>?_⟩
 ·unfold zH
  rw[Pb,PB];refine⟨h.nd,by simp,fun a p b l e=>?_⟩;simp at l
  subst l;subst e;exact hn p
 ·unfold zH at c
  rw[Pb]at c
  rcases Ph.1 c with c|c
  ·exact h.rg y c
  ·simp at c;subst c;exact n
 ·by_cases m:i<up.length
  ·rw[Oz m]
   rcases h.par i m with k|⟨j,d,k1,k2,k3⟩
   ·exact .inl k
   ·exact .inr ⟨j,by simp;omega,k1,by rw[Oz d];exact k2,by rw[Oz d];exact k3⟩
  ·have f:i=up.length:=by simp at hi;omega
   subst f;rw[OA Ta];simp only[QF,OD];rcases o with k|⟨j,d,k⟩
   ·exact .inl k
   ·exact .inr ⟨j,by simp;omega,d,by rw[Oz d];exact k⟩
structure BackI(g:List (List Int))(fr:List Int)(al:Nat->Bool)(up:UP)(h q:Nat)(out:List Int):Prop where
 hq:q<=up.length
 hh:h<up.length
 len:out.length+q<=h+1
 rg:CQ g.length out
 rv:∀i,i+1<out.length->out.getD i 0∈g.getD (out.getD (i+1) 0).toNat []/\al (out.getD i 0).toNat=true
 nx:∀(h0:0<q),0<out.length->out.getD (out.length -1) 0∈g.getD (up[q -1]'SM).1.toNat []/\al (out.getD (out.length -1) 0).toNat=true
 hd:0<out.length->out.getD 0 0=up[h].1
 em:out.length=0->q=h+1
 fn:q=0->0<out.length/\out.getD (out.length -1) 0∈fr
def Ct(up:UP)(q:Nat):Int:=if h:0<q/\q<=up.length then(up[q -1]'SM).1 else -1
theorem BackI.start{h:Nat}(hh:h<up.length):BackI g fr al up h (h+1) []:=
 ⟨hh,hh,by simp,(fun x a=>by cases a),fun i hi=>absurd hi SQ,fun _ k=>absurd k SQ,fun k=>absurd k SQ,fun _=>rfl,fun k=>by cases k⟩
theorem s7{l:List Int}{x:Int}{i:Nat}(h:i<l.length):(l++[x]).getD i 0=l.getD i 0:=by
 rw[Oi,Oj h,<-Oi]
theorem s9{l:List Int}{x:Int}:(l++[x]).getD l.length 0=x:=by
 rw[Oi,Ok Ta];simp
theorem BackI.step(p:WyC g fr al up){h q:Nat}{out:List Int}(b:BackI g fr al up h q out)(n:0<q):∃a,a<q/\(up[q -1]'(by have:=b.hq;omega)).2=Ct up a/\BackI g fr al up h a (out++[(up[q -1]'(by have:=b.hq;omega)).1]):=by
 have hq:=b.hq;have d:q -1<up.length:=by omega
 have f:0<=up[q -1].1/\up[q -1].1<g.length:=p.rg _ (Pr.2 ⟨_,OG d,rfl⟩);have o:=b.len;have common:∀a (m:a<q),(∀(h1:0<a),up[q -1].1∈g.getD (up[a -1]'SM).1.toNat []/\al up[q -1].1.toNat=true)->(a=0->up[q -1].1∈fr)->BackI g fr al up h a (out++[up[q -1].1]):=by
  intro a m hn hf
  refine⟨by omega,b.hh,by simp;omega,fun x c=>?_,fun i hi=>?_,fun h1 _=>?_,fun _=>?_,fun k=>by simp at k,fun k=>⟨by simp,?_⟩⟩
  ·rcases Ph.1 c with c|c
   ·exact b.rg x c
   ·rw[Py]at c;subst c;exact f
  ·simp at hi
   rw[s7 (i:=i) SM];by_cases e:i+1<out.length
   ·rw[s7 (i:=i+1) e];exact b.rv i e
   ·obtain e:i+1=out.length:=by omega
    rw[e,s9];have:=b.nx n SM;rw[show out.length -1=i by omega]at this
    exact this
  ·rw[show(out++[up[q -1].1]).length -1=out.length by simp,s9]
   exact hn h1
  ·by_cases e:0<out.length
   ·rw[s7 e];exact b.hd e
   ·have r:out.length=0:=by omega
    have s:=b.em r;have:(out++[up[q -1].1]).getD 0 0=up[q -1].1:=by
     have:=s9 (l:=out) (x:=up[q -1].1);rwa[r]at this
    rw[this]
    congr 2
    omega
  ·rw[show(out++[up[q -1].1]).length -1=out.length by simp,s9]
   exact hf k
 rcases p.par (q -1) d with⟨k1,k2⟩|⟨j,t,k1,k2,k3,k4⟩
 ·exact⟨0,n,by rw[k1];unfold Ct;rw[dif_neg SM],common 0 n (fun h1=>absurd h1 SM) (fun _=>k2)⟩
 ·refine⟨j+1,by omega,?_,common (j+1) SM (fun _=>⟨k3,k4⟩) (fun e=>by cases e)⟩
  rw[k2];unfold Ct;rw[Sd ⟨by omega,by omega⟩];rfl
theorem BackI.done(k:WyC g fr al up){h:Nat}{out:List Int}(b:BackI g fr al up h 0 out)(j:to (up[h]'b.hh).1.toNat=true):WyOK g fr to al out.reverse:=by
 have d:=b.len;have f:=k.len;have hh:=b.hh;have c:=(b.fn rfl).1;have a:∀i,i<out.length->out.reverse.getD i 0=out.getD (out.length -1 -i) 0:=fun i hi=>by
  rw[Oi,List.getElem?_reverse hi,<-Oi]
 refine⟨by simpa using c,by rw[O6];omega,fun x e=>b.rg x (List.mem_reverse.1 e),?_,fun i hi=>?_,?_⟩
 ·rw[a 0 c];exact(b.fn rfl).2
 ·rw[O6]at hi
  rw[a _ hi,a i SM];have:=b.rv (out.length -1 -(i+1)) SM;rw[show out.length -1 -(i+1)+1=out.length -1 -i by omega]at this
  exact this
 ·rw[O6,a _ SM,show out.length -1 -(out.length -1)=0 by omega,b.hd c];exact j
end
end Go.Proofs.YtfpjecjadlgdcaaGreatDoor
