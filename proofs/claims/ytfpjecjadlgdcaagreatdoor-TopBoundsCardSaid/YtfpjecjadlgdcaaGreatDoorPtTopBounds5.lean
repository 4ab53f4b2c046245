import Derived.Test.YtfpjecjadlgdcaaGreatDoorPtTopBounds4
set_option linter.unusedVariables false
set_option linter.unusedSimpArgs false
set_option linter.defProp false
namespace Go.Proofs.YtfpjecjadlgdcaaGreatDoor
open Go.RowKit
def nJ(n:Int):Ltl:=.mk 5 0 [.mk 3 n [],.mk 4 0 [.mk 3 63 []]]
def yA(a:Int):Nat→Ltl
 |0=>.mk 10 0 [nJ a]
 |n+1=>.mk 10 0 [.mk 5 0 [nJ a,.mk 7 0 [yA a n]]]
instance sd:IsC Tryz.prog 268 1 false:=IsC.of O8 Tryz.underlying268 rfl
instance se:IsZC Tryz.prog 268 [.nilFunc]:=IsZC.of (z:=.nilFunc) O8 rfl
theorem nK(w:World)(n:Int):Rt Tryz.prog 174 [Py n].toArray w (bS w (nJ n)):=by
 refine dD Tryz.func174 Tryz.ntmps174 rfl rfl ?_;refine PB ?_;refine WL.alloc rfl rfl (fun c b j=>?_);have r:=b.lt;have a:c.heap.size≤c.heap.size:=by omega
 have d:=j;refine Qt ?_;refine WL.call rfl rfl rfl (lF c c.heap.size n) ?_;rintro y m ⟨g4,h⟩
 have b:=b.ext h;have d:=d.trans h;have a:c.heap.size≤m.heap.size:=MN a h.size;refine WL.call rfl rfl rfl (lF m c.heap.size 63) ?_;rintro x l ⟨g5,f⟩
 have g4:=g4.ext f;have b:=b.ext f;have d:=d.trans f;have a:c.heap.size≤l.heap.size:=MN a f.size;refine WL.call rfl rfl rfl (lH l a g5) ?_;rintro v k ⟨t,e⟩
 have g4:=g4.ext e;have b:=b.ext e;have d:=d.trans e;have a:c.heap.size≤k.heap.size:=MN a e.size;refine WL.call rfl rfl rfl (lE k a g4 t) ?_;rintro u p ⟨o,g⟩
 have b:=b.ext g;have d:=d.trans g;have a:c.heap.size≤p.heap.size:=MN a g.size;obtain⟨uo,uc,rfl,s⟩:=Rd.ltl o;refine WL.st rfl rfl rfl b rfl rfl Pr (fun z q i=>?_);refine PO ?_;exact bg rfl rfl q rfl ⟨(o.st i O7).low O7,Do d i O7⟩
theorem yE(a:Int):∀(n:Nat),n≤10→∀(w:World),Rt Tryz.prog 183 [Py a,Py ((n+1:Nat):Int)].toArray w (bS w (yA a n)):=by
 intro n
 induction n with
 |zero=>
  intro _ w
  refine dE Tryz.func183 Tryz.ntmps183 rfl rfl ?_;refine PB ?_;refine WL.alloc rfl rfl (fun g c k=>?_);have t:=c.lt;refine Ra ?_;have b:g.heap.size≤g.heap.size:=by omega
  have d:=k;skip;refine WL.call rfl rfl rfl ((nK g a).low b) ?_;rintro L o ⟨J,f⟩
  have c:=c.ext f;have d:=d.trans f;have b:g.heap.size≤o.heap.size:=MN b f.size;refine WL.call rfl rfl rfl (lN o b J) ?_;rintro K q ⟨C,e⟩
  have c:=c.ext e;have d:=d.trans e;have b:g.heap.size≤q.heap.size:=MN b e.size;obtain⟨uo,uc,rfl,u⟩:=Rd.ltl C;refine WL.st rfl rfl rfl c rfl rfl Pr (fun z s h=>?_);refine Qp ?_;exact bg rfl rfl s rfl ⟨(C.st h O7).low O7,Do d h O7⟩
 |succ n r=>
  intro hn w
  have r:=r O7;refine dE Tryz.func183 Tryz.ntmps183 rfl rfl ?_;refine PB ?_;refine WL.alloc rfl rfl (fun g c k=>?_);have t:=c.lt;refine Qv ?_;have b:g.heap.size≤g.heap.size:=by omega
  have d:=k;skip;refine WL.call rfl rfl rfl ((nK g a).low b) ?_;rintro I o ⟨i,f⟩
  have c:=c.ext f;have d:=d.trans f;have b:g.heap.size≤o.heap.size:=MN b f.size;refine Rv ?_;skip;rw[show((n+1+1:Nat):Int) -1=((n+1:Nat):Int) by omega];refine WL.call rfl rfl rfl ((r o).low b) ?_;rintro H q ⟨y,e⟩
  have i:=i.ext e;have c:=c.ext e;have d:=d.trans e;have b:g.heap.size≤q.heap.size:=MN b e.size;refine WL.call rfl rfl rfl (lJ q b 7 y) ?_;rintro G B ⟨x,j⟩
  have i:=i.ext j;have c:=c.ext j;have d:=d.trans j;have b:g.heap.size≤B.heap.size:=MN b j.size;refine WL.call rfl rfl rfl (lE B b i x) ?_;rintro F A ⟨v,m⟩
  have c:=c.ext m;have d:=d.trans m;have b:g.heap.size≤A.heap.size:=MN b m.size;refine WL.call rfl rfl rfl (lN A b v) ?_;rintro E D ⟨p,l⟩
  have c:=c.ext l;have d:=d.trans l;have b:g.heap.size≤D.heap.size:=MN b l.size;obtain⟨uo,uc,rfl,u⟩:=Rd.ltl p;refine WL.st rfl rfl rfl c rfl rfl Pr (fun z s h=>?_);refine PO ?_;exact bg rfl rfl s rfl ⟨(p.st h O7).low O7,Do d h O7⟩
theorem kh(p:Nat)(w:World){k A B c:Int}{j:Nat}(i:Blk w p 29 [Py k,Py A,Py B,Py c]):
  Rt Tryz.prog 173 [Pz p].toArray w (bS w (nJ A))∧Rt Tryz.prog 175 [Pz p].toArray w (bS w (nJ B)):=by
 have hlb:=i.lt;constructor
 ·refine dD Tryz.func173 Tryz.ntmps173 rfl rfl ?_
  refine PB ?_;refine WL.alloc rfl rfl (fun f g e=>?_);have n:=g.lt;have i:=i.ext e;have a:f.heap.size≤f.heap.size:=by omega
  have h:=e;refine QR ?_;refine WL.call rfl rfl rfl ((nK f A).low a) ?_;rintro q l ⟨g4,b⟩
  have g:=g.ext b;have h:=h.trans b;have a:f.heap.size≤l.heap.size:=MN a b.size;obtain⟨uo,uc,rfl,o⟩:=Rd.ltl g4;refine WL.st rfl rfl rfl g rfl rfl Pr (fun z m d=>?_);refine PO ?_;exact bg rfl rfl m rfl ⟨(g4.st d O7).low O7,Do h d O7⟩
 ·refine dD Tryz.func175 Tryz.ntmps175 rfl rfl ?_
  refine PB ?_;refine WL.alloc rfl rfl (fun f g e=>?_);have n:=g.lt;have i:=i.ext e;have a:f.heap.size≤f.heap.size:=by omega
  have h:=e;refine QR ?_;refine WL.call rfl rfl rfl ((nK f B).low a) ?_;rintro q l ⟨g4,b⟩
  have g:=g.ext b;have h:=h.trans b;have a:f.heap.size≤l.heap.size:=MN a b.size;obtain⟨uo,uc,rfl,o⟩:=Rd.ltl g4;refine WL.st rfl rfl rfl g rfl rfl Pr (fun z m d=>?_);refine PO ?_;exact bg rfl rfl m rfl ⟨(g4.st d O7).low O7,Do h d O7⟩
structure CloD(w:World)(pt pa pb:Nat)(A B:Int):Prop where
 t:∃k c,Blk w pt 29 [.int .i64 k,.int .i64 A,.int .i64 B,.int .i64 c]
 a:Blk w pa 268 [.func (.func 173) [].toArray [.pointer (some ⟨pt,0,none⟩)].toArray]
 b:Blk w pb 268 [.func (.func 175) [].toArray [.pointer (some ⟨pt,0,none⟩)].toArray]
theorem CloD.ext{w w':World}{pt pa pb:Nat}{A B:Int}(h:CloD w pt pa pb A B)(a:Ext w w'):CloD w' pt pa pb A B:=by
 obtain⟨⟨k,c,h1⟩,h2,h3⟩:=h;exact⟨⟨k,c,h1.ext a⟩,h2.ext a,h3.ext a⟩
theorem CloD.runA{w:World}{pt pa pb:Nat}{A B:Int}(h:CloD w pt pa pb A B):FnV Tryz.prog (.func (.func 173) [].toArray [Pz pt].toArray) [] w (bS w (nJ A)):=by
 obtain⟨k,c,a⟩:=h.t;refine FnV.mk (cs:=[_]) ?_;exact(kh pt w (j:=0) a).1
theorem CloD.runB{w:World}{pt pa pb:Nat}{A B:Int}(h:CloD w pt pa pb A B):FnV Tryz.prog (.func (.func 175) [].toArray [Pz pt].toArray) [] w (bS w (nJ B)):=by
 obtain⟨k,c,a⟩:=h.t;refine FnV.mk (cs:=[_]) ?_;exact(kh pt w (j:=0) a).2
def Di(A B:Int):Ltl:=.mk 11 0 [.mk 6 0 [.mk 4 0 [nJ A],.mk 10 0 [nJ B]]]
def Cl(A B:Int):Ltl:=.mk 6 0 [.mk 8 0 [.mk 4 0 [nJ B],nJ A],.mk 11 0 [.mk 4 0 [nJ B]]]
theorem kf(w:World){pt pa pb:Nat}{A B:Int}(b:CloD w pt pa pb A B):Rt Tryz.prog 176 [Pz pa,Pz pb].toArray w (bS w (Di A B)):=by
 have H:=b.a.lt;have hlb:=b.b.lt;refine dE Tryz.func176 Tryz.ntmps176 rfl rfl ?_;refine PB ?_;refine WL.alloc rfl rfl (fun f c p=>?_);have G:=c.lt;have b:=b.ext p;have h:=b.a;have g:=b.b;have ed:=Ext.drew f;have b:=b.ext ed;have c:=c.ext ed;have y:=c.lt;have h:=h.ext ed;have halt:=h.lt;have g:=g.ext ed;have o:=g.lt;have m:=p.trans ed;have K:∀x,(fun x:World=>SO w.heap.size (drew f) x) x→x.heap[pa]?=(drew f).heap[pa]?:=fun x r=>r.2 _ O7 halt
 have J:∀x,(fun x:World=>SO w.heap.size (drew f) x) x→x.heap[pb]?=(drew f).heap[pb]?:=fun x r=>r.2 _ O7 o
 refine PP ?_;refine aF (fun x:World=>SO w.heap.size (drew f) x) [(0,true),(3,true),(1,false),(2,false),(4,false),(5,false),(6,false),(7,false),(8,false)] mixed O8 (SO.refl _ _) ?_;have hS:SO w.heap.size (drew f) (drew f):=SO.refl _ _;have a:f.heap.size≤(drew f).heap.size:=by have:=ed.size;omega
 refine RD ?_;refine cr rfl (d7 (xs:=[]) (vs:=[]) rfl rfl rfl rfl (b.runA.low a) ?_);rintro S v ⟨g4,l⟩
 have b:=b.ext l;have c:=c.ext l;have h:=h.ext l;have g:=g.ext l;have m:=m.trans l;have a:f.heap.size≤v.heap.size:=MN a l.size;have hS:=hS.ext l;refine WL.nil (a_ hS ?_);refine cr rfl (WL.call rfl rfl rfl (lH v a g4) ?_);rintro R D ⟨g5,k⟩
 have b:=b.ext k;have c:=c.ext k;have h:=h.ext k;have g:=g.ext k;have m:=m.trans k;have a:f.heap.size≤D.heap.size:=MN a k.size;have hS:=hS.ext k;refine WL.nil (a_ hS ?_);refine cr rfl (d7 (xs:=[]) (vs:=[]) rfl rfl rfl rfl (b.runB.low a) ?_);rintro Q u ⟨N,e⟩
 have b:=b.ext e;have g5:=g5.ext e;have c:=c.ext e;have h:=h.ext e;have g:=g.ext e;have m:=m.trans e;have a:f.heap.size≤u.heap.size:=MN a e.size;have hS:=hS.ext e;refine WL.nil (a_ hS ?_);refine cr rfl (WL.call rfl rfl rfl (lN u a N) ?_);rintro P t ⟨M,d⟩
 have b:=b.ext d;have g5:=g5.ext d;have c:=c.ext d;have h:=h.ext d;have g:=g.ext d;have m:=m.trans d;have a:f.heap.size≤t.heap.size:=MN a d.size;have hS:=hS.ext d;refine WL.nil (a_ hS ?_);refine cr rfl (WL.call rfl rfl rfl (lL t a g5 M) ?_);rintro O s ⟨L,j⟩
 have b:=b.ext j;have c:=c.ext j;have h:=h.ext j;have g:=g.ext j;have m:=m.trans j;have a:f.heap.size≤s.heap.size:=MN a j.size;have hS:=hS.ext j;refine WL.nil (a_ hS ?_);refine cr rfl (WL.call rfl rfl rfl (lB s a L) ?_);rintro E C ⟨q,i⟩
 have b:=b.ext i;have c:=c.ext i;have h:=h.ext i;have g:=g.ext i;have m:=m.trans i;have a:f.heap.size≤C.heap.size:=MN a i.size;have hS:=hS.ext i;refine WL.nil (a_ hS ?_);obtain⟨uo,uc,rfl,I⟩:=Rd.ltl q;refine cr rfl (WL.st rfl rfl rfl c rfl rfl Pr (fun z F n=>?_));refine WL.nil (a_ (hS.st n) (HL.nil ?_));refine PQ ?_;exact bg rfl rfl F rfl ⟨(q.st n O7).low O7,Do m n O7⟩
theorem kg(w:World){pt pa pb:Nat}{A B:Int}(b:CloD w pt pa pb A B):Rt Tryz.prog 181 [Pz pb,Pz pa].toArray w (bS w (Cl A B)):=by
 have S:=b.a.lt;have hlb:=b.b.lt;refine dE Tryz.func181 Tryz.ntmps181 rfl rfl ?_;refine PB ?_;refine WL.alloc rfl rfl (fun f c s=>?_);have R:=c.lt;have b:=b.ext s;have e:=b.a;have d:=b.b;have ed:=Ext.drew f;have b:=b.ext ed;have c:=c.ext ed;have I:=c.lt;have e:=e.ext ed;have halt:=e.lt;have d:=d.ext ed;have r:=d.lt;have g:=s.trans ed;have V:∀x,(fun x:World=>SO w.heap.size (drew f) x) x→x.heap[pa]?=(drew f).heap[pa]?:=fun x u=>u.2 _ O7 halt
 have U:∀x,(fun x:World=>SO w.heap.size (drew f) x) x→x.heap[pb]?=(drew f).heap[pb]?:=fun x u=>u.2 _ O7 r
 refine PP ?_;refine aF (fun x:World=>SO w.heap.size (drew f) x) [(0,true),(3,true),(6,true),(1,false),(2,false),(4,false),(5,false),(7,false),(8,false),(9,false),(10,false),(11,false)] mixed O8 (SO.refl _ _) ?_;have hS:SO w.heap.size (drew f) (drew f):=SO.refl _ _;have a:f.heap.size≤(drew f).heap.size:=by have:=ed.size;omega
 refine RD ?_;refine cr rfl (d7 (xs:=[]) (vs:=[]) rfl rfl rfl rfl (b.runB.low a) ?_);rintro v4 H ⟨g4,o⟩
 have b:=b.ext o;have c:=c.ext o;have e:=e.ext o;have d:=d.ext o;have g:=g.trans o;have a:f.heap.size≤H.heap.size:=MN a o.size;have hS:=hS.ext o;refine WL.nil (a_ hS ?_);refine cr rfl (WL.call rfl rfl rfl (lH H a g4) ?_);rintro Z L ⟨g5,n⟩
 have b:=b.ext n;have c:=c.ext n;have e:=e.ext n;have d:=d.ext n;have g:=g.trans n;have a:f.heap.size≤L.heap.size:=MN a n.size;have hS:=hS.ext n;refine WL.nil (a_ hS ?_);refine cr rfl (d7 (xs:=[]) (vs:=[]) rfl rfl rfl rfl (b.runA.low a) ?_);rintro Y G ⟨W,k⟩
 have b:=b.ext k;have g5:=g5.ext k;have c:=c.ext k;have e:=e.ext k;have d:=d.ext k;have g:=g.trans k;have a:f.heap.size≤G.heap.size:=MN a k.size;have hS:=hS.ext k;refine WL.nil (a_ hS ?_);refine cr rfl (WL.call rfl rfl rfl (lQ G a 8 g5 W) ?_);rintro X K ⟨q,m⟩
 have b:=b.ext m;have c:=c.ext m;have e:=e.ext m;have d:=d.ext m;have g:=g.trans m;have a:f.heap.size≤K.heap.size:=MN a m.size;have hS:=hS.ext m;refine WL.nil (a_ hS ?_);refine cr rfl (d7 (xs:=[]) (vs:=[]) rfl rfl rfl rfl (b.runB.low a) ?_);rintro P F ⟨C,j⟩
 have b:=b.ext j;have q:=q.ext j;have c:=c.ext j;have e:=e.ext j;have d:=d.ext j;have g:=g.trans j;have a:f.heap.size≤F.heap.size:=MN a j.size;have hS:=hS.ext j;refine WL.nil (a_ hS ?_);refine cr rfl (WL.call rfl rfl rfl (lH F a C) ?_);rintro O E ⟨y,i⟩
 have b:=b.ext i;have q:=q.ext i;have c:=c.ext i;have e:=e.ext i;have d:=d.ext i;have g:=g.trans i;have a:f.heap.size≤E.heap.size:=MN a i.size;have hS:=hS.ext i;refine WL.nil (a_ hS ?_);refine cr rfl (WL.call rfl rfl rfl (lB E a y) ?_);rintro N D ⟨v,h⟩
 have b:=b.ext h;have q:=q.ext h;have c:=c.ext h;have e:=e.ext h;have d:=d.ext h;have g:=g.trans h;have a:f.heap.size≤D.heap.size:=MN a h.size;have hS:=hS.ext h;refine WL.nil (a_ hS ?_);refine cr rfl (WL.call rfl rfl rfl (lL D a q v) ?_);rintro M J ⟨t,l⟩
 have b:=b.ext l;have c:=c.ext l;have e:=e.ext l;have d:=d.ext l;have g:=g.trans l;have a:f.heap.size≤J.heap.size:=MN a l.size;have hS:=hS.ext l;refine WL.nil (a_ hS ?_);obtain⟨uo,uc,rfl,T⟩:=Rd.ltl t;refine cr rfl (WL.st rfl rfl rfl c rfl rfl Pr (fun z Q p=>?_));refine WL.nil (a_ (hS.st p) (HL.nil ?_));refine PQ ?_;exact bg rfl rfl Q rfl ⟨(t.st p O7).low O7,Do g p O7⟩
def lR(k A B c:Int):Ltl:=
 if k=1 then yA A (c.toNat -1)
 else if k=2 then .mk 4 0 [yA A (c.toNat -1)]
 else if k=3 then .mk 5 0 [yA A (c.toNat -1),.mk 4 0 [yA A c.toNat]]
 else if k=4 then(Ltl.mk 6 0 [(Ltl.mk 8 0 [(Ltl.mk 3 63 []),(nJ A)]),(Ltl.mk 11 0 [(Ltl.mk 3 63 [])])])
 else if k=5 then(Ltl.mk 6 0 [(Ltl.mk 10 0 [(nJ A)]),(Ltl.mk 10 0 [(nJ B)])])
 else if k=6 then(Ltl.mk 6 0 [(Ltl.mk 4 0 [(Ltl.mk 10 0 [(nJ A)])]),(Ltl.mk 10 0 [(nJ B)])])
 else if k=7 then(Ltl.mk 5 0 [(Ltl.mk 6 0 [(Ltl.mk 4 0 [(Ltl.mk 10 0 [(nJ A)])]),(Ltl.mk 10 0 [(nJ B)])]),(Ltl.mk 6 0 [(Ltl.mk 4 0 [(Ltl.mk 10 0 [(nJ B)])]),(Ltl.mk 10 0 [(nJ A)])])])
 else if k=13 then(Ltl.mk 4 0 [(Ltl.mk 5 0 [(Ltl.mk 10 0 [(nJ A)]),(Ltl.mk 10 0 [(nJ B)])])])
 else if k=8 then(Di A B)
 else if k=9 then(Cl A B)
 else if k=10 then(Ltl.mk 5 0 [(Di A B),(Cl A B)])
 else if k=11 then(Ltl.mk 11 0 [(Ltl.mk 6 0 [(Ltl.mk 4 0 [(nJ A)]),(Ltl.mk 7 0 [(Ltl.mk 8 0 [(Ltl.mk 4 0 [(nJ A)]),(nJ B)])])])])
 else if k=12 then(Ltl.mk 11 0 [(Ltl.mk 6 0 [(Ltl.mk 4 0 [(nJ A)]),(Ltl.mk 7 0 [(Ltl.mk 8 0 [(Ltl.mk 3 63 []),(nJ B)])])])])
 else(Ltl.mk 11 0 [(Ltl.mk 6 0 [(Ltl.mk 4 0 [(nJ A)]),(Ltl.mk 4 0 [(Ltl.mk 7 0 [(Ltl.mk 10 0 [(nJ B)])])])])])
set_option maxHeartbeats 2000000 in
theorem lx(w:World)(k A B c:Int)(hc:1≤k∧k≤3→1≤c∧c≤3):Rt Tryz.prog 107 [.agg [Py k,Py A,Py B,Py c].toArray].toArray w (bS w (lR k A B c)):=by
 refine dD Tryz.func107 Tryz.ntmps107 rfl rfl ?_;refine PB ?_;refine dX rfl rfl rfl fun y i hE1=>?_
 have hl0:=i.lt;refine WL.alloc rfl rfl (fun V f hE2=>?_);have hl1:=f.lt;have i:=i.ext hE2;have hE2:=hE1.trans hE2;have hz1:=hE1.size;refine QJ ?_;refine WL.alloc rfl rfl (fun w3 j hE3=>?_);refine WL.st rfl rfl rfl j rfl rfl Pr (fun U j hg4=>?_);have e4:Ext V U:=hE3.grown hg4 hE3.size Pi;have hl2:=j.lt;have i:=i.ext e4;have f:=f.ext e4;have hE4:=hE2.trans e4;refine QJ ?_;refine WL.alloc rfl rfl (fun w5 m hE5=>?_);refine WL.st rfl rfl rfl m rfl rfl Pr (fun d m hg6=>?_);have e6:Ext U d:=hE5.grown hg6 hE5.size Pi;have hl4:=m.lt;have i:=i.ext e6;have f:=f.ext e6;have j:=j.ext e6;have H:=hE4.trans e6;have hz2:=hE2.size;have hz4:=e4.size;have hz6:=e6.size;have h:CloD d w.heap.size V.heap.size U.heap.size A B:=⟨⟨k,c,i⟩,j,m⟩;clear hE1 hE2 hE3 hE4 hE5 hg4 hg6 e4 e6;unfold lR;by_cases h1:k=1
 ·subst h1
  obtain⟨c',rfl⟩:∃c':Nat,c=((c'+1:Nat):Int):=⟨(c -1).toNat,by omega⟩;have hc':c'≤2:=by omega
  rw[show(((c'+1:Nat):Int)).toNat -1=c' by omega];refine Qz ?_;have a:d.heap.size≤d.heap.size:=by omega
  have n:=H;skip;refine WL.call rfl rfl rfl ((yE A c' O7 d).low a) ?_;rintro v19 C ⟨g19,b⟩
  have h:=h.ext b;have f:=f.ext b;have i:=i.ext b;have j:=j.ext b;have m:=m.ext b;have n:=n.trans b;have a:d.heap.size≤C.heap.size:=MN a b.size;obtain⟨uo,uc,rfl,N⟩:=Rd.ltl g19;refine WL.st rfl rfl rfl f rfl rfl Pr (fun z M q=>?_);refine Qp ?_;exact bg rfl rfl M rfl ⟨(g19.st q O7).low O7,Do n q O7⟩
 by_cases h2:k=2
 ·subst h2
  obtain⟨c',rfl⟩:∃c':Nat,c=((c'+1:Nat):Int):=⟨(c -1).toNat,by omega⟩;have hc':c'≤2:=by omega
  rw[show(((c'+1:Nat):Int)).toNat -1=c' by omega];refine Qz ?_;have a:d.heap.size≤d.heap.size:=by omega
  have n:=H;skip;refine WL.call rfl rfl rfl ((yE A c' O7 d).low a) ?_;rintro v26 C ⟨g26,b⟩
  have h:=h.ext b;have f:=f.ext b;have i:=i.ext b;have j:=j.ext b;have m:=m.ext b;have n:=n.trans b;have a:d.heap.size≤C.heap.size:=MN a b.size;refine WL.call rfl rfl rfl (lH C a g26) ?_;rintro v27 L ⟨g27,e⟩
  have h:=h.ext e;have f:=f.ext e;have i:=i.ext e;have j:=j.ext e;have m:=m.ext e;have n:=n.trans e;have a:d.heap.size≤L.heap.size:=MN a e.size;obtain⟨uo,uc,rfl,N⟩:=Rd.ltl g27;refine WL.st rfl rfl rfl f rfl rfl Pr (fun z M q=>?_);refine Qp ?_;exact bg rfl rfl M rfl ⟨(g27.st q O7).low O7,Do n q O7⟩
 by_cases h3:k=3
 ·subst h3
  obtain⟨c',rfl⟩:∃c':Nat,c=((c'+1:Nat):Int):=⟨(c -1).toNat,by omega⟩;have hc':c'≤2:=by omega
  rw[show(((c'+1:Nat):Int)).toNat -1=c' by omega];rw[show(((c'+1:Nat):Int)).toNat=c'+1 by omega];refine Qz ?_;have ed:=Ext.drew d;have h:=h.ext ed;have f:=f.ext ed;have P:=f.lt;have i:=i.ext ed;have u:=i.lt;have j:=j.ext ed;have halt:=j.lt;have m:=m.ext ed;have v:=m.lt;have n:=H.trans ed;have W:∀x,(fun x:World=>SO y.heap.size (drew d) x) x→x.heap[w.heap.size]?=(drew d).heap[w.heap.size]?:=fun x t=>t.2 _ O7 u
  have Y:∀x,(fun x:World=>SO y.heap.size (drew d) x) x→x.heap[V.heap.size]?=(drew d).heap[V.heap.size]?:=fun x t=>t.2 _ O7 halt
  have X:∀x,(fun x:World=>SO y.heap.size (drew d) x) x→x.heap[U.heap.size]?=(drew d).heap[U.heap.size]?:=fun x t=>t.2 _ O7 v
  skip;refine aF (fun x:World=>SO y.heap.size (drew d) x) [(0,true),(1,true),(2,true),(3,true),(5,true),(6,true),(7,true),(8,true),(9,true),(4,false),(10,false),(11,false),(12,false),(13,false)] mixed O8 (SO.refl _ _) ?_;have hS:SO y.heap.size (drew d) (drew d):=SO.refl _ _;have a:d.heap.size≤(drew d).heap.size:=by have:=ed.size;omega
  refine RP ?_;refine cr rfl (WL.call rfl rfl rfl ((yE A c' O7 (drew d)).low a) ?_);rintro v34 C ⟨g34,b⟩
  have h:=h.ext b;have f:=f.ext b;have i:=i.ext b;have j:=j.ext b;have m:=m.ext b;have n:=n.trans b;have a:d.heap.size≤C.heap.size:=MN a b.size;have hS:=hS.ext b;refine WL.nil (a_ hS ?_);refine cr rfl (WL.call rfl rfl rfl ((yE A (c'+1) O7 C).low a) ?_);rintro v40 L ⟨g40,e⟩
  have h:=h.ext e;have g34:=g34.ext e;have f:=f.ext e;have i:=i.ext e;have j:=j.ext e;have m:=m.ext e;have n:=n.trans e;have a:d.heap.size≤L.heap.size:=MN a e.size;have hS:=hS.ext e;refine WL.nil (a_ hS ?_);refine cr rfl (WL.call rfl rfl rfl (lH L a g40) ?_);rintro v41 R ⟨g41,g⟩
  have h:=h.ext g;have g34:=g34.ext g;have f:=f.ext g;have i:=i.ext g;have j:=j.ext g;have m:=m.ext g;have n:=n.trans g;have a:d.heap.size≤R.heap.size:=MN a g.size;have hS:=hS.ext g;refine WL.nil (a_ hS ?_);refine cr rfl (WL.call rfl rfl rfl (lE R a g34 g41) ?_);rintro v42 S ⟨g42,l⟩
  have h:=h.ext l;have f:=f.ext l;have i:=i.ext l;have j:=j.ext l;have m:=m.ext l;have n:=n.trans l;have a:d.heap.size≤S.heap.size:=MN a l.size;have hS:=hS.ext l;refine WL.nil (a_ hS ?_);obtain⟨uo,uc,rfl,N⟩:=Rd.ltl g42;refine cr rfl (WL.st rfl rfl rfl f rfl rfl Pr (fun z M q=>?_));refine WL.nil (a_ (hS.st q) (HL.nil ?_));refine Qk ?_;exact bg rfl rfl M rfl ⟨(g42.st q O7).low O7,Do n q O7⟩
 by_cases h4:k=4
 ·subst h4
  refine Qz ?_;have ed:=Ext.drew d;have h:=h.ext ed;have f:=f.ext ed;have P:=f.lt;have i:=i.ext ed;have u:=i.lt;have j:=j.ext ed;have halt:=j.lt;have m:=m.ext ed;have v:=m.lt;have n:=H.trans ed;have W:∀x,(fun x:World=>SO y.heap.size (drew d) x) x→x.heap[w.heap.size]?=(drew d).heap[w.heap.size]?:=fun x t=>t.2 _ O7 u
  have Y:∀x,(fun x:World=>SO y.heap.size (drew d) x) x→x.heap[V.heap.size]?=(drew d).heap[V.heap.size]?:=fun x t=>t.2 _ O7 halt
  have X:∀x,(fun x:World=>SO y.heap.size (drew d) x) x→x.heap[U.heap.size]?=(drew d).heap[U.heap.size]?:=fun x t=>t.2 _ O7 v
  skip;refine aF (fun x:World=>SO y.heap.size (drew d) x) [(1,true),(0,false),(2,false),(3,false),(4,false),(5,false),(6,false),(7,false)] mixed O8 (SO.refl _ _) ?_;have hS:SO y.heap.size (drew d) (drew d):=SO.refl _ _;have a:d.heap.size≤(drew d).heap.size:=by have:=ed.size;omega
  refine RD ?_;refine cr rfl (WL.call rfl rfl rfl (lF (drew d) d.heap.size 63) ?_);rintro v45 C ⟨g45,b⟩
  have h:=h.ext b;have f:=f.ext b;have i:=i.ext b;have j:=j.ext b;have m:=m.ext b;have n:=n.trans b;have a:d.heap.size≤C.heap.size:=MN a b.size;have hS:=hS.ext b;refine WL.nil (a_ hS ?_);refine cr rfl (d7 (xs:=[]) (vs:=[]) rfl rfl rfl rfl (h.runA.low a) ?_);rintro v47 L ⟨g47,e⟩
  have h:=h.ext e;have g45:=g45.ext e;have f:=f.ext e;have i:=i.ext e;have j:=j.ext e;have m:=m.ext e;have n:=n.trans e;have a:d.heap.size≤L.heap.size:=MN a e.size;have hS:=hS.ext e;refine WL.nil (a_ hS ?_);refine cr rfl (WL.call rfl rfl rfl (lQ L a 8 g45 g47) ?_);rintro v48 R ⟨g48,g⟩
  have h:=h.ext g;have f:=f.ext g;have i:=i.ext g;have j:=j.ext g;have m:=m.ext g;have n:=n.trans g;have a:d.heap.size≤R.heap.size:=MN a g.size;have hS:=hS.ext g;refine WL.nil (a_ hS ?_);refine cr rfl (WL.call rfl rfl rfl (lF R d.heap.size 63) ?_);rintro v49 S ⟨g49,l⟩
  have h:=h.ext l;have g48:=g48.ext l;have f:=f.ext l;have i:=i.ext l;have j:=j.ext l;have m:=m.ext l;have n:=n.trans l;have a:d.heap.size≤S.heap.size:=MN a l.size;have hS:=hS.ext l;refine WL.nil (a_ hS ?_);refine cr rfl (WL.call rfl rfl rfl (lB S a g49) ?_);rintro v50 T ⟨g50,o⟩
  have h:=h.ext o;have g48:=g48.ext o;have f:=f.ext o;have i:=i.ext o;have j:=j.ext o;have m:=m.ext o;have n:=n.trans o;have a:d.heap.size≤T.heap.size:=MN a o.size;have hS:=hS.ext o;refine WL.nil (a_ hS ?_);refine cr rfl (WL.call rfl rfl rfl (lL T a g48 g50) ?_);rintro v51 Z ⟨g51,p⟩
  have h:=h.ext p;have f:=f.ext p;have i:=i.ext p;have j:=j.ext p;have m:=m.ext p;have n:=n.trans p;have a:d.heap.size≤Z.heap.size:=MN a p.size;have hS:=hS.ext p;refine WL.nil (a_ hS ?_);obtain⟨uo,uc,rfl,N⟩:=Rd.ltl g51;refine cr rfl (WL.st rfl rfl rfl f rfl rfl Pr (fun z M q=>?_));refine WL.nil (a_ (hS.st q) (HL.nil ?_));refine Qk ?_;exact bg rfl rfl M rfl ⟨(g51.st q O7).low O7,Do n q O7⟩
 by_cases h5:k=5
 ·subst h5
  refine Qz ?_;have ed:=Ext.drew d;have h:=h.ext ed;have f:=f.ext ed;have P:=f.lt;have i:=i.ext ed;have u:=i.lt;have j:=j.ext ed;have halt:=j.lt;have m:=m.ext ed;have v:=m.lt;have n:=H.trans ed;have W:∀x,(fun x:World=>SO y.heap.size (drew d) x) x→x.heap[w.heap.size]?=(drew d).heap[w.heap.size]?:=fun x t=>t.2 _ O7 u
  have Y:∀x,(fun x:World=>SO y.heap.size (drew d) x) x→x.heap[V.heap.size]?=(drew d).heap[V.heap.size]?:=fun x t=>t.2 _ O7 halt
  have X:∀x,(fun x:World=>SO y.heap.size (drew d) x) x→x.heap[U.heap.size]?=(drew d).heap[U.heap.size]?:=fun x t=>t.2 _ O7 v
  skip;refine aF (fun x:World=>SO y.heap.size (drew d) x) [(0,true),(3,true),(1,false),(2,false),(4,false),(5,false),(6,false),(7,false)] mixed O8 (SO.refl _ _) ?_;have hS:SO y.heap.size (drew d) (drew d):=SO.refl _ _;have a:d.heap.size≤(drew d).heap.size:=by have:=ed.size;omega
  refine RD ?_;refine cr rfl (d7 (xs:=[]) (vs:=[]) rfl rfl rfl rfl (h.runA.low a) ?_);rintro v55 C ⟨g55,b⟩
  have h:=h.ext b;have f:=f.ext b;have i:=i.ext b;have j:=j.ext b;have m:=m.ext b;have n:=n.trans b;have a:d.heap.size≤C.heap.size:=MN a b.size;have hS:=hS.ext b;refine WL.nil (a_ hS ?_);refine cr rfl (WL.call rfl rfl rfl (lN C a g55) ?_);rintro v56 L ⟨g56,e⟩
  have h:=h.ext e;have f:=f.ext e;have i:=i.ext e;have j:=j.ext e;have m:=m.ext e;have n:=n.trans e;have a:d.heap.size≤L.heap.size:=MN a e.size;have hS:=hS.ext e;refine WL.nil (a_ hS ?_);refine cr rfl (d7 (xs:=[]) (vs:=[]) rfl rfl rfl rfl (h.runB.low a) ?_);rintro v58 R ⟨g58,g⟩
  have h:=h.ext g;have g56:=g56.ext g;have f:=f.ext g;have i:=i.ext g;have j:=j.ext g;have m:=m.ext g;have n:=n.trans g;have a:d.heap.size≤R.heap.size:=MN a g.size;have hS:=hS.ext g;refine WL.nil (a_ hS ?_);refine cr rfl (WL.call rfl rfl rfl (lN R a g58) ?_);rintro v59 S ⟨g59,l⟩
  have h:=h.ext l;have g56:=g56.ext l;have f:=f.ext l;have i:=i.ext l;have j:=j.ext l;have m:=m.ext l;have n:=n.trans l;have a:d.heap.size≤S.heap.size:=MN a l.size;have hS:=hS.ext l;refine WL.nil (a_ hS ?_);refine cr rfl (WL.call rfl rfl rfl (lL S a g56 g59) ?_);rintro v60 T ⟨g60,o⟩
  have h:=h.ext o;have f:=f.ext o;have i:=i.ext o;have j:=j.ext o;have m:=m.ext o;have n:=n.trans o;have a:d.heap.size≤T.heap.size:=MN a o.size;have hS:=hS.ext o;refine WL.nil (a_ hS ?_);obtain⟨uo,uc,rfl,N⟩:=Rd.ltl g60;refine cr rfl (WL.st rfl rfl rfl f rfl rfl Pr (fun z M q=>?_));refine WL.nil (a_ (hS.st q) (HL.nil ?_));refine Qk ?_;exact bg rfl rfl M rfl ⟨(g60.st q O7).low O7,Do n q O7⟩
 by_cases h6:k=6
 ·subst h6
  refine Qz ?_;have ed:=Ext.drew d;have h:=h.ext ed;have f:=f.ext ed;have P:=f.lt;have i:=i.ext ed;have u:=i.lt;have j:=j.ext ed;have halt:=j.lt;have m:=m.ext ed;have v:=m.lt;have n:=H.trans ed;have W:∀x,(fun x:World=>SO y.heap.size (drew d) x) x→x.heap[w.heap.size]?=(drew d).heap[w.heap.size]?:=fun x t=>t.2 _ O7 u
  have Y:∀x,(fun x:World=>SO y.heap.size (drew d) x) x→x.heap[V.heap.size]?=(drew d).heap[V.heap.size]?:=fun x t=>t.2 _ O7 halt
  have X:∀x,(fun x:World=>SO y.heap.size (drew d) x) x→x.heap[U.heap.size]?=(drew d).heap[U.heap.size]?:=fun x t=>t.2 _ O7 v
  skip;refine aF (fun x:World=>SO y.heap.size (drew d) x) [(0,true),(4,true),(1,false),(2,false),(3,false),(5,false),(6,false),(7,false),(8,false)] mixed O8 (SO.refl _ _) ?_;have hS:SO y.heap.size (drew d) (drew d):=SO.refl _ _;have a:d.heap.size≤(drew d).heap.size:=by have:=ed.size;omega
  refine RD ?_;refine cr rfl (d7 (xs:=[]) (vs:=[]) rfl rfl rfl rfl (h.runA.low a) ?_);rintro v64 C ⟨g64,b⟩
  have h:=h.ext b;have f:=f.ext b;have i:=i.ext b;have j:=j.ext b;have m:=m.ext b;have n:=n.trans b;have a:d.heap.size≤C.heap.size:=MN a b.size;have hS:=hS.ext b;refine WL.nil (a_ hS ?_);refine cr rfl (WL.call rfl rfl rfl (lN C a g64) ?_);rintro v65 L ⟨g65,e⟩
  have h:=h.ext e;have f:=f.ext e;have i:=i.ext e;have j:=j.ext e;have m:=m.ext e;have n:=n.trans e;have a:d.heap.size≤L.heap.size:=MN a e.size;have hS:=hS.ext e;refine WL.nil (a_ hS ?_);refine cr rfl (WL.call rfl rfl rfl (lH L a g65) ?_);rintro v66 R ⟨g66,g⟩
  have h:=h.ext g;have f:=f.ext g;have i:=i.ext g;have j:=j.ext g;have m:=m.ext g;have n:=n.trans g;have a:d.heap.size≤R.heap.size:=MN a g.size;have hS:=hS.ext g;refine WL.nil (a_ hS ?_);refine cr rfl (d7 (xs:=[]) (vs:=[]) rfl rfl rfl rfl (h.runB.low a) ?_);rintro v68 S ⟨g68,l⟩
  have h:=h.ext l;have g66:=g66.ext l;have f:=f.ext l;have i:=i.ext l;have j:=j.ext l;have m:=m.ext l;have n:=n.trans l;have a:d.heap.size≤S.heap.size:=MN a l.size;have hS:=hS.ext l;refine WL.nil (a_ hS ?_);refine cr rfl (WL.call rfl rfl rfl (lN S a g68) ?_);rintro v69 T ⟨g69,o⟩
  have h:=h.ext o;have g66:=g66.ext o;have f:=f.ext o;have i:=i.ext o;have j:=j.ext o;have m:=m.ext o;have n:=n.trans o;have a:d.heap.size≤T.heap.size:=MN a o.size;have hS:=hS.ext o;refine WL.nil (a_ hS ?_);refine cr rfl (WL.call rfl rfl rfl (lL T a g66 g69) ?_);rintro v70 Z ⟨g70,p⟩
  have h:=h.ext p;have f:=f.ext p;have i:=i.ext p;have j:=j.ext p;have m:=m.ext p;have n:=n.trans p;have a:d.heap.size≤Z.heap.size:=MN a p.size;have hS:=hS.ext p;refine WL.nil (a_ hS ?_);obtain⟨uo,uc,rfl,N⟩:=Rd.ltl g70;refine cr rfl (WL.st rfl rfl rfl f rfl rfl Pr (fun z M q=>?_));refine WL.nil (a_ (hS.st q) (HL.nil ?_));refine Qk ?_;exact bg rfl rfl M rfl ⟨(g70.st q O7).low O7,Do n q O7⟩
 by_cases h7:k=7
 ·subst h7
  refine Qz ?_;have ed:=Ext.drew d;have h:=h.ext ed;have f:=f.ext ed;have P:=f.lt;have i:=i.ext ed;have u:=i.lt;have j:=j.ext ed;have halt:=j.lt;have m:=m.ext ed;have v:=m.lt;have n:=H.trans ed;have W:∀x,(fun x:World=>SO y.heap.size (drew d) x) x→x.heap[w.heap.size]?=(drew d).heap[w.heap.size]?:=fun x t=>t.2 _ O7 u
  have Y:∀x,(fun x:World=>SO y.heap.size (drew d) x) x→x.heap[V.heap.size]?=(drew d).heap[V.heap.size]?:=fun x t=>t.2 _ O7 halt
  have X:∀x,(fun x:World=>SO y.heap.size (drew d) x) x→x.heap[U.heap.size]?=(drew d).heap[U.heap.size]?:=fun x t=>t.2 _ O7 v
  skip;refine aF (fun x:World=>SO y.heap.size (drew d) x) [(0,true),(4,true),(8,true),(12,true),(1,false),(2,false),(3,false),(5,false),(6,false),(7,false),(9,false),(10,false),(11,false),(13,false),(14,false),(15,false),(16,false),(17,false)] mixed O8 (SO.refl _ _) ?_;have hS:SO y.heap.size (drew d) (drew d):=SO.refl _ _;have a:d.heap.size≤(drew d).heap.size:=by have:=ed.size;omega
  refine RD ?_;refine cr rfl (d7 (xs:=[]) (vs:=[]) rfl rfl rfl rfl (h.runA.low a) ?_);rintro v74 C ⟨g74,b⟩
  have h:=h.ext b;have f:=f.ext b;have i:=i.ext b;have j:=j.ext b;have m:=m.ext b;have n:=n.trans b;have a:d.heap.size≤C.heap.size:=MN a b.size;have hS:=hS.ext b;refine WL.nil (a_ hS ?_);refine cr rfl (WL.call rfl rfl rfl (lN C a g74) ?_);rintro v75 L ⟨g75,e⟩
  have h:=h.ext e;have f:=f.ext e;have i:=i.ext e;have j:=j.ext e;have m:=m.ext e;have n:=n.trans e;have a:d.heap.size≤L.heap.size:=MN a e.size;have hS:=hS.ext e;refine WL.nil (a_ hS ?_);refine cr rfl (WL.call rfl rfl rfl (lH L a g75) ?_);rintro v76 R ⟨g76,g⟩
  have h:=h.ext g;have f:=f.ext g;have i:=i.ext g;have j:=j.ext g;have m:=m.ext g;have n:=n.trans g;have a:d.heap.size≤R.heap.size:=MN a g.size;have hS:=hS.ext g;refine WL.nil (a_ hS ?_);refine cr rfl (d7 (xs:=[]) (vs:=[]) rfl rfl rfl rfl (h.runB.low a) ?_);rintro v78 S ⟨g78,l⟩
  have h:=h.ext l;have g76:=g76.ext l;have f:=f.ext l;have i:=i.ext l;have j:=j.ext l;have m:=m.ext l;have n:=n.trans l;have a:d.heap.size≤S.heap.size:=MN a l.size;have hS:=hS.ext l;refine WL.nil (a_ hS ?_);refine cr rfl (WL.call rfl rfl rfl (lN S a g78) ?_);rintro v79 T ⟨g79,o⟩
  have h:=h.ext o;have g76:=g76.ext o;have f:=f.ext o;have i:=i.ext o;have j:=j.ext o;have m:=m.ext o;have n:=n.trans o;have a:d.heap.size≤T.heap.size:=MN a o.size;have hS:=hS.ext o;refine WL.nil (a_ hS ?_);refine cr rfl (WL.call rfl rfl rfl (lL T a g76 g79) ?_);rintro v80 Z ⟨O,p⟩
  have h:=h.ext p;have f:=f.ext p;have i:=i.ext p;have j:=j.ext p;have m:=m.ext p;have n:=n.trans p;have a:d.heap.size≤Z.heap.size:=MN a p.size;have hS:=hS.ext p;refine WL.nil (a_ hS ?_);refine cr rfl (d7 (xs:=[]) (vs:=[]) rfl rfl rfl rfl (h.runB.low a) ?_);rintro v82 y7 ⟨g82,r⟩
  have h:=h.ext r;have O:=O.ext r;have f:=f.ext r;have i:=i.ext r;have j:=j.ext r;have m:=m.ext r;have n:=n.trans r;have a:d.heap.size≤y7.heap.size:=MN a r.size;have hS:=hS.ext r;refine WL.nil (a_ hS ?_);refine cr rfl (WL.call rfl rfl rfl (lN y7 a g82) ?_);rintro v83 y8 ⟨g83,s⟩
  have h:=h.ext s;have O:=O.ext s;have f:=f.ext s;have i:=i.ext s;have j:=j.ext s;have m:=m.ext s;have n:=n.trans s;have a:d.heap.size≤y8.heap.size:=MN a s.size;have hS:=hS.ext s;refine WL.nil (a_ hS ?_);refine cr rfl (WL.call rfl rfl rfl (lH y8 a g83) ?_);rintro v84 y9 ⟨g84,D⟩
  have h:=h.ext D;have O:=O.ext D;have f:=f.ext D;have i:=i.ext D;have j:=j.ext D;have m:=m.ext D;have n:=n.trans D;have a:d.heap.size≤y9.heap.size:=MN a D.size;have hS:=hS.ext D;refine WL.nil (a_ hS ?_);refine cr rfl (d7 (xs:=[]) (vs:=[]) rfl rfl rfl rfl (h.runA.low a) ?_);rintro v86 y10 ⟨g86,G⟩
  have h:=h.ext G;have O:=O.ext G;have g84:=g84.ext G;have f:=f.ext G;have i:=i.ext G;have j:=j.ext G;have m:=m.ext G;have n:=n.trans G;have a:d.heap.size≤y10.heap.size:=MN a G.size;have hS:=hS.ext G;refine WL.nil (a_ hS ?_);refine cr rfl (WL.call rfl rfl rfl (lN y10 a g86) ?_);rintro v87 y11 ⟨g87,F⟩
  have h:=h.ext F;have O:=O.ext F;have g84:=g84.ext F;have f:=f.ext F;have i:=i.ext F;have j:=j.ext F;have m:=m.ext F;have n:=n.trans F;have a:d.heap.size≤y11.heap.size:=MN a F.size;have hS:=hS.ext F;refine WL.nil (a_ hS ?_);refine cr rfl (WL.call rfl rfl rfl (lL y11 a g84 g87) ?_);rintro v88 y12 ⟨g88,K⟩
  have h:=h.ext K;have O:=O.ext K;have f:=f.ext K;have i:=i.ext K;have j:=j.ext K;have m:=m.ext K;have n:=n.trans K;have a:d.heap.size≤y12.heap.size:=MN a K.size;have hS:=hS.ext K;refine WL.nil (a_ hS ?_);refine cr rfl (WL.call rfl rfl rfl (lE y12 a O g88) ?_);rintro v89 y13 ⟨g89,Q⟩
  have h:=h.ext Q;have f:=f.ext Q;have i:=i.ext Q;have j:=j.ext Q;have m:=m.ext Q;have n:=n.trans Q;have a:d.heap.size≤y13.heap.size:=MN a Q.size;have hS:=hS.ext Q;refine WL.nil (a_ hS ?_);obtain⟨uo,uc,rfl,N⟩:=Rd.ltl g89;refine cr rfl (WL.st rfl rfl rfl f rfl rfl Pr (fun z M q=>?_));refine WL.nil (a_ (hS.st q) (HL.nil ?_));refine Qk ?_;exact bg rfl rfl M rfl ⟨(g89.st q O7).low O7,Do n q O7⟩
 by_cases h13:k=13
 ·subst h13
  refine Qz ?_;have ed:=Ext.drew d;have h:=h.ext ed;have f:=f.ext ed;have P:=f.lt;have i:=i.ext ed;have u:=i.lt;have j:=j.ext ed;have halt:=j.lt;have m:=m.ext ed;have v:=m.lt;have n:=H.trans ed;have W:∀x,(fun x:World=>SO y.heap.size (drew d) x) x→x.heap[w.heap.size]?=(drew d).heap[w.heap.size]?:=fun x t=>t.2 _ O7 u
  have Y:∀x,(fun x:World=>SO y.heap.size (drew d) x) x→x.heap[V.heap.size]?=(drew d).heap[V.heap.size]?:=fun x t=>t.2 _ O7 halt
  have X:∀x,(fun x:World=>SO y.heap.size (drew d) x) x→x.heap[U.heap.size]?=(drew d).heap[U.heap.size]?:=fun x t=>t.2 _ O7 v
  skip;refine aF (fun x:World=>SO y.heap.size (drew d) x) [(0,true),(3,true),(1,false),(2,false),(4,false),(5,false),(6,false),(7,false),(8,false)] mixed O8 (SO.refl _ _) ?_;have hS:SO y.heap.size (drew d) (drew d):=SO.refl _ _;have a:d.heap.size≤(drew d).heap.size:=by have:=ed.size;omega
  refine RD ?_;refine cr rfl (d7 (xs:=[]) (vs:=[]) rfl rfl rfl rfl (h.runA.low a) ?_);rintro v93 C ⟨g93,b⟩
  have h:=h.ext b;have f:=f.ext b;have i:=i.ext b;have j:=j.ext b;have m:=m.ext b;have n:=n.trans b;have a:d.heap.size≤C.heap.size:=MN a b.size;have hS:=hS.ext b;refine WL.nil (a_ hS ?_);refine cr rfl (WL.call rfl rfl rfl (lN C a g93) ?_);rintro v94 L ⟨g94,e⟩
  have h:=h.ext e;have f:=f.ext e;have i:=i.ext e;have j:=j.ext e;have m:=m.ext e;have n:=n.trans e;have a:d.heap.size≤L.heap.size:=MN a e.size;have hS:=hS.ext e;refine WL.nil (a_ hS ?_);refine cr rfl (d7 (xs:=[]) (vs:=[]) rfl rfl rfl rfl (h.runB.low a) ?_);rintro v96 R ⟨g96,g⟩
  have h:=h.ext g;have g94:=g94.ext g;have f:=f.ext g;have i:=i.ext g;have j:=j.ext g;have m:=m.ext g;have n:=n.trans g;have a:d.heap.size≤R.heap.size:=MN a g.size;have hS:=hS.ext g;refine WL.nil (a_ hS ?_);refine cr rfl (WL.call rfl rfl rfl (lN R a g96) ?_);rintro v97 S ⟨g97,l⟩
  have h:=h.ext l;have g94:=g94.ext l;have f:=f.ext l;have i:=i.ext l;have j:=j.ext l;have m:=m.ext l;have n:=n.trans l;have a:d.heap.size≤S.heap.size:=MN a l.size;have hS:=hS.ext l;refine WL.nil (a_ hS ?_);refine cr rfl (WL.call rfl rfl rfl (lE S a g94 g97) ?_);rintro v98 T ⟨g98,o⟩
  have h:=h.ext o;have f:=f.ext o;have i:=i.ext o;have j:=j.ext o;have m:=m.ext o;have n:=n.trans o;have a:d.heap.size≤T.heap.size:=MN a o.size;have hS:=hS.ext o;refine WL.nil (a_ hS ?_);refine cr rfl (WL.call rfl rfl rfl (lH T a g98) ?_);rintro v99 Z ⟨g99,p⟩
  have h:=h.ext p;have f:=f.ext p;have i:=i.ext p;have j:=j.ext p;have m:=m.ext p;have n:=n.trans p;have a:d.heap.size≤Z.heap.size:=MN a p.size;have hS:=hS.ext p;refine WL.nil (a_ hS ?_);obtain⟨uo,uc,rfl,N⟩:=Rd.ltl g99;refine cr rfl (WL.st rfl rfl rfl f rfl rfl Pr (fun z M q=>?_));refine WL.nil (a_ (hS.st q) (HL.nil ?_));refine Qk ?_;exact bg rfl rfl M rfl ⟨(g99.st q O7).low O7,Do n q O7⟩
 by_cases h8:k=8
 ·subst h8
  refine Qz ?_;have a:d.heap.size≤d.heap.size:=by omega
  have n:=H;skip;refine d7 (xs:=[]) (vs:=[]) rfl rfl rfl rfl (FnV.low (FnV.mk (cs:=[_,_]) (kf d h)) a) ?_;rintro v103 C ⟨g103,b⟩
  have h:=h.ext b;have f:=f.ext b;have i:=i.ext b;have j:=j.ext b;have m:=m.ext b;have n:=n.trans b;have a:d.heap.size≤C.heap.size:=MN a b.size;obtain⟨uo,uc,rfl,N⟩:=Rd.ltl g103;refine WL.st rfl rfl rfl f rfl rfl Pr (fun z M q=>?_);refine Qp ?_;exact bg rfl rfl M rfl ⟨(g103.st q O7).low O7,Do n q O7⟩
 by_cases h9:k=9
 ·subst h9
  refine Qz ?_;have a:d.heap.size≤d.heap.size:=by omega
  have n:=H;skip;refine d7 (xs:=[]) (vs:=[]) rfl rfl rfl rfl (FnV.low (FnV.mk (cs:=[_,_]) (kg d h)) a) ?_;rintro v107 C ⟨g107,b⟩
  have h:=h.ext b;have f:=f.ext b;have i:=i.ext b;have j:=j.ext b;have m:=m.ext b;have n:=n.trans b;have a:d.heap.size≤C.heap.size:=MN a b.size;obtain⟨uo,uc,rfl,N⟩:=Rd.ltl g107;refine WL.st rfl rfl rfl f rfl rfl Pr (fun z M q=>?_);refine Qp ?_;exact bg rfl rfl M rfl ⟨(g107.st q O7).low O7,Do n q O7⟩
 by_cases h10:k=10
 ·subst h10
  refine Qz ?_;have a:d.heap.size≤d.heap.size:=by omega
  have n:=H;skip;refine d7 (xs:=[]) (vs:=[]) rfl rfl rfl rfl (FnV.low (FnV.mk (cs:=[_,_]) (kf d h)) a) ?_;rintro v111 C ⟨g111,b⟩
  have h:=h.ext b;have f:=f.ext b;have i:=i.ext b;have j:=j.ext b;have m:=m.ext b;have n:=n.trans b;have a:d.heap.size≤C.heap.size:=MN a b.size;refine Ri ?_;refine d7 (xs:=[]) (vs:=[]) rfl rfl rfl rfl (FnV.low (FnV.mk (cs:=[_,_]) (kg C h)) a) ?_;rintro v113 L ⟨g113,e⟩
  have h:=h.ext e;have g111:=g111.ext e;have f:=f.ext e;have i:=i.ext e;have j:=j.ext e;have m:=m.ext e;have n:=n.trans e;have a:d.heap.size≤L.heap.size:=MN a e.size;refine WL.call rfl rfl rfl (lE L a g111 g113) ?_;rintro v114 R ⟨g114,g⟩
  have h:=h.ext g;have f:=f.ext g;have i:=i.ext g;have j:=j.ext g;have m:=m.ext g;have n:=n.trans g;have a:d.heap.size≤R.heap.size:=MN a g.size;obtain⟨uo,uc,rfl,N⟩:=Rd.ltl g114;refine WL.st rfl rfl rfl f rfl rfl Pr (fun z M q=>?_);refine Qp ?_;exact bg rfl rfl M rfl ⟨(g114.st q O7).low O7,Do n q O7⟩
 by_cases h11:k=11
 ·subst h11
  refine Qz ?_;have ed:=Ext.drew d;have h:=h.ext ed;have f:=f.ext ed;have P:=f.lt;have i:=i.ext ed;have u:=i.lt;have j:=j.ext ed;have halt:=j.lt;have m:=m.ext ed;have v:=m.lt;have n:=H.trans ed;have W:∀x,(fun x:World=>SO y.heap.size (drew d) x) x→x.heap[w.heap.size]?=(drew d).heap[w.heap.size]?:=fun x t=>t.2 _ O7 u
  have Y:∀x,(fun x:World=>SO y.heap.size (drew d) x) x→x.heap[V.heap.size]?=(drew d).heap[V.heap.size]?:=fun x t=>t.2 _ O7 halt
  have X:∀x,(fun x:World=>SO y.heap.size (drew d) x) x→x.heap[U.heap.size]?=(drew d).heap[U.heap.size]?:=fun x t=>t.2 _ O7 v
  skip;refine aF (fun x:World=>SO y.heap.size (drew d) x) [(0,true),(3,true),(6,true),(1,false),(2,false),(4,false),(5,false),(7,false),(8,false),(9,false),(10,false),(11,false),(12,false)] mixed O8 (SO.refl _ _) ?_;have hS:SO y.heap.size (drew d) (drew d):=SO.refl _ _;have a:d.heap.size≤(drew d).heap.size:=by have:=ed.size;omega
  refine RD ?_;refine cr rfl (d7 (xs:=[]) (vs:=[]) rfl rfl rfl rfl (h.runA.low a) ?_);rintro v118 C ⟨g118,b⟩
  have h:=h.ext b;have f:=f.ext b;have i:=i.ext b;have j:=j.ext b;have m:=m.ext b;have n:=n.trans b;have a:d.heap.size≤C.heap.size:=MN a b.size;have hS:=hS.ext b;refine WL.nil (a_ hS ?_);refine cr rfl (WL.call rfl rfl rfl (lH C a g118) ?_);rintro v119 L ⟨E,e⟩
  have h:=h.ext e;have f:=f.ext e;have i:=i.ext e;have j:=j.ext e;have m:=m.ext e;have n:=n.trans e;have a:d.heap.size≤L.heap.size:=MN a e.size;have hS:=hS.ext e;refine WL.nil (a_ hS ?_);refine cr rfl (d7 (xs:=[]) (vs:=[]) rfl rfl rfl rfl (h.runA.low a) ?_);rintro v121 R ⟨g121,g⟩
  have h:=h.ext g;have E:=E.ext g;have f:=f.ext g;have i:=i.ext g;have j:=j.ext g;have m:=m.ext g;have n:=n.trans g;have a:d.heap.size≤R.heap.size:=MN a g.size;have hS:=hS.ext g;refine WL.nil (a_ hS ?_);refine cr rfl (WL.call rfl rfl rfl (lH R a g121) ?_);rintro v122 S ⟨g122,l⟩
  have h:=h.ext l;have E:=E.ext l;have f:=f.ext l;have i:=i.ext l;have j:=j.ext l;have m:=m.ext l;have n:=n.trans l;have a:d.heap.size≤S.heap.size:=MN a l.size;have hS:=hS.ext l;refine WL.nil (a_ hS ?_);refine cr rfl (d7 (xs:=[]) (vs:=[]) rfl rfl rfl rfl (h.runB.low a) ?_);rintro v124 T ⟨g124,o⟩
  have h:=h.ext o;have E:=E.ext o;have g122:=g122.ext o;have f:=f.ext o;have i:=i.ext o;have j:=j.ext o;have m:=m.ext o;have n:=n.trans o;have a:d.heap.size≤T.heap.size:=MN a o.size;have hS:=hS.ext o;refine WL.nil (a_ hS ?_);refine cr rfl (WL.call rfl rfl rfl (lQ T a 8 g122 g124) ?_);rintro v125 Z ⟨g125,p⟩
  have h:=h.ext p;have E:=E.ext p;have f:=f.ext p;have i:=i.ext p;have j:=j.ext p;have m:=m.ext p;have n:=n.trans p;have a:d.heap.size≤Z.heap.size:=MN a p.size;have hS:=hS.ext p;refine WL.nil (a_ hS ?_);refine cr rfl (WL.call rfl rfl rfl (lJ Z a 7 g125) ?_);rintro v126 y7 ⟨g126,r⟩
  have h:=h.ext r;have E:=E.ext r;have f:=f.ext r;have i:=i.ext r;have j:=j.ext r;have m:=m.ext r;have n:=n.trans r;have a:d.heap.size≤y7.heap.size:=MN a r.size;have hS:=hS.ext r;refine WL.nil (a_ hS ?_);refine cr rfl (WL.call rfl rfl rfl (lL y7 a E g126) ?_);rintro v127 y8 ⟨g127,s⟩
  have h:=h.ext s;have f:=f.ext s;have i:=i.ext s;have j:=j.ext s;have m:=m.ext s;have n:=n.trans s;have a:d.heap.size≤y8.heap.size:=MN a s.size;have hS:=hS.ext s;refine WL.nil (a_ hS ?_);refine cr rfl (WL.call rfl rfl rfl (lB y8 a g127) ?_);rintro v128 y9 ⟨g128,D⟩
  have h:=h.ext D;have f:=f.ext D;have i:=i.ext D;have j:=j.ext D;have m:=m.ext D;have n:=n.trans D;have a:d.heap.size≤y9.heap.size:=MN a D.size;have hS:=hS.ext D;refine WL.nil (a_ hS ?_);obtain⟨uo,uc,rfl,N⟩:=Rd.ltl g128;refine cr rfl (WL.st rfl rfl rfl f rfl rfl Pr (fun z M q=>?_));refine WL.nil (a_ (hS.st q) (HL.nil ?_));refine Qk ?_;exact bg rfl rfl M rfl ⟨(g128.st q O7).low O7,Do n q O7⟩
 by_cases h12:k=12
 ·subst h12
  refine Qz ?_;have ed:=Ext.drew d;have h:=h.ext ed;have f:=f.ext ed;have P:=f.lt;have i:=i.ext ed;have u:=i.lt;have j:=j.ext ed;have halt:=j.lt;have m:=m.ext ed;have v:=m.lt;have n:=H.trans ed;have W:∀x,(fun x:World=>SO y.heap.size (drew d) x) x→x.heap[w.heap.size]?=(drew d).heap[w.heap.size]?:=fun x t=>t.2 _ O7 u
  have Y:∀x,(fun x:World=>SO y.heap.size (drew d) x) x→x.heap[V.heap.size]?=(drew d).heap[V.heap.size]?:=fun x t=>t.2 _ O7 halt
  have X:∀x,(fun x:World=>SO y.heap.size (drew d) x) x→x.heap[U.heap.size]?=(drew d).heap[U.heap.size]?:=fun x t=>t.2 _ O7 v
  skip;refine aF (fun x:World=>SO y.heap.size (drew d) x) [(0,true),(4,true),(1,false),(2,false),(3,false),(5,false),(6,false),(7,false),(8,false),(9,false),(10,false)] mixed O8 (SO.refl _ _) ?_;have hS:SO y.heap.size (drew d) (drew d):=SO.refl _ _;have a:d.heap.size≤(drew d).heap.size:=by have:=ed.size;omega
  refine RD ?_;refine cr rfl (d7 (xs:=[]) (vs:=[]) rfl rfl rfl rfl (h.runA.low a) ?_);rintro v132 C ⟨g132,b⟩
  have h:=h.ext b;have f:=f.ext b;have i:=i.ext b;have j:=j.ext b;have m:=m.ext b;have n:=n.trans b;have a:d.heap.size≤C.heap.size:=MN a b.size;have hS:=hS.ext b;refine WL.nil (a_ hS ?_);refine cr rfl (WL.call rfl rfl rfl (lH C a g132) ?_);rintro v133 L ⟨J,e⟩
  have h:=h.ext e;have f:=f.ext e;have i:=i.ext e;have j:=j.ext e;have m:=m.ext e;have n:=n.trans e;have a:d.heap.size≤L.heap.size:=MN a e.size;have hS:=hS.ext e;refine WL.nil (a_ hS ?_);refine cr rfl (WL.call rfl rfl rfl (lF L d.heap.size 63) ?_);rintro v134 R ⟨g134,g⟩
  have h:=h.ext g;have J:=J.ext g;have f:=f.ext g;have i:=i.ext g;have j:=j.ext g;have m:=m.ext g;have n:=n.trans g;have a:d.heap.size≤R.heap.size:=MN a g.size;have hS:=hS.ext g;refine WL.nil (a_ hS ?_);refine cr rfl (d7 (xs:=[]) (vs:=[]) rfl rfl rfl rfl (h.runB.low a) ?_);rintro v136 S ⟨g136,l⟩
  have h:=h.ext l;have J:=J.ext l;have g134:=g134.ext l;have f:=f.ext l;have i:=i.ext l;have j:=j.ext l;have m:=m.ext l;have n:=n.trans l;have a:d.heap.size≤S.heap.size:=MN a l.size;have hS:=hS.ext l;refine WL.nil (a_ hS ?_);refine cr rfl (WL.call rfl rfl rfl (lQ S a 8 g134 g136) ?_);rintro v137 T ⟨g137,o⟩
  have h:=h.ext o;have J:=J.ext o;have f:=f.ext o;have i:=i.ext o;have j:=j.ext o;have m:=m.ext o;have n:=n.trans o;have a:d.heap.size≤T.heap.size:=MN a o.size;have hS:=hS.ext o;refine WL.nil (a_ hS ?_);refine cr rfl (WL.call rfl rfl rfl (lJ T a 7 g137) ?_);rintro v138 Z ⟨g138,p⟩
  have h:=h.ext p;have J:=J.ext p;have f:=f.ext p;have i:=i.ext p;have j:=j.ext p;have m:=m.ext p;have n:=n.trans p;have a:d.heap.size≤Z.heap.size:=MN a p.size;have hS:=hS.ext p;refine WL.nil (a_ hS ?_);refine cr rfl (WL.call rfl rfl rfl (lL Z a J g138) ?_);rintro v139 y7 ⟨g139,r⟩
  have h:=h.ext r;have f:=f.ext r;have i:=i.ext r;have j:=j.ext r;have m:=m.ext r;have n:=n.trans r;have a:d.heap.size≤y7.heap.size:=MN a r.size;have hS:=hS.ext r;refine WL.nil (a_ hS ?_);refine cr rfl (WL.call rfl rfl rfl (lB y7 a g139) ?_);rintro v140 y8 ⟨g140,s⟩
  have h:=h.ext s;have f:=f.ext s;have i:=i.ext s;have j:=j.ext s;have m:=m.ext s;have n:=n.trans s;have a:d.heap.size≤y8.heap.size:=MN a s.size;have hS:=hS.ext s;refine WL.nil (a_ hS ?_);obtain⟨uo,uc,rfl,N⟩:=Rd.ltl g140;refine cr rfl (WL.st rfl rfl rfl f rfl rfl Pr (fun z M q=>?_));refine WL.nil (a_ (hS.st q) (HL.nil ?_));refine Qk ?_;exact bg rfl rfl M rfl ⟨(g140.st q O7).low O7,Do n q O7⟩
 have b1:(k==1)=false:=by simpa using h1
 rw[OJ h1];have b2:(k==2)=false:=by simpa using h2
 rw[OJ h2];have b3:(k==3)=false:=by simpa using h3
 rw[OJ h3];have b4:(k==4)=false:=by simpa using h4
 rw[OJ h4];have b5:(k==5)=false:=by simpa using h5
 rw[OJ h5];have b6:(k==6)=false:=by simpa using h6
 rw[OJ h6];have b7:(k==7)=false:=by simpa using h7
 rw[OJ h7];have b13:(k==13)=false:=by simpa using h13
 rw[OJ h13];have b8:(k==8)=false:=by simpa using h8
 rw[OJ h8];have b9:(k==9)=false:=by simpa using h9
 rw[OJ h9];have b10:(k==10)=false:=by simpa using h10
 rw[OJ h10];have b11:(k==11)=false:=by simpa using h11
 rw[OJ h11];have b12:(k==12)=false:=by simpa using h12
 rw[OJ h12];refine Qz ?_;rw[b1];refine QA ?_;rw[b2];refine QA ?_;rw[b3];refine QA ?_;rw[b4];refine QA ?_;rw[b5];refine QA ?_;rw[b6];refine QA ?_;rw[b7];refine QA ?_;rw[b13];refine QA ?_;rw[b8];refine QA ?_;rw[b9];refine QA ?_;rw[b10];refine QA ?_;rw[b11];refine QA ?_;rw[b12];refine Q2 ?_;have ed:=Ext.drew d;have h:=h.ext ed;have f:=f.ext ed;have P:=f.lt;have i:=i.ext ed;have u:=i.lt;have j:=j.ext ed;have halt:=j.lt;have m:=m.ext ed;have v:=m.lt;have n:=H.trans ed;have W:∀x,(fun x:World=>SO y.heap.size (drew d) x) x→x.heap[w.heap.size]?=(drew d).heap[w.heap.size]?:=fun x t=>t.2 _ O7 u
 have Y:∀x,(fun x:World=>SO y.heap.size (drew d) x) x→x.heap[V.heap.size]?=(drew d).heap[V.heap.size]?:=fun x t=>t.2 _ O7 halt
 have X:∀x,(fun x:World=>SO y.heap.size (drew d) x) x→x.heap[U.heap.size]?=(drew d).heap[U.heap.size]?:=fun x t=>t.2 _ O7 v
 skip;refine aF (fun x:World=>SO y.heap.size (drew d) x) [(0,true),(3,true),(1,false),(2,false),(4,false),(5,false),(6,false),(7,false),(8,false),(9,false),(10,false)] mixed O8 (SO.refl _ _) ?_;have hS:SO y.heap.size (drew d) (drew d):=SO.refl _ _;have a:d.heap.size≤(drew d).heap.size:=by have:=ed.size;omega
 refine RD ?_;refine cr rfl (d7 (xs:=[]) (vs:=[]) rfl rfl rfl rfl (h.runA.low a) ?_);rintro v142 C ⟨g142,b⟩
 have h:=h.ext b;have f:=f.ext b;have i:=i.ext b;have j:=j.ext b;have m:=m.ext b;have n:=n.trans b;have a:d.heap.size≤C.heap.size:=MN a b.size;have hS:=hS.ext b;refine WL.nil (a_ hS ?_);refine cr rfl (WL.call rfl rfl rfl (lH C a g142) ?_);rintro v143 L ⟨I,e⟩
 have h:=h.ext e;have f:=f.ext e;have i:=i.ext e;have j:=j.ext e;have m:=m.ext e;have n:=n.trans e;have a:d.heap.size≤L.heap.size:=MN a e.size;have hS:=hS.ext e;refine WL.nil (a_ hS ?_);refine cr rfl (d7 (xs:=[]) (vs:=[]) rfl rfl rfl rfl (h.runB.low a) ?_);rintro v145 R ⟨g145,g⟩
 have h:=h.ext g;have I:=I.ext g;have f:=f.ext g;have i:=i.ext g;have j:=j.ext g;have m:=m.ext g;have n:=n.trans g;have a:d.heap.size≤R.heap.size:=MN a g.size;have hS:=hS.ext g;refine WL.nil (a_ hS ?_);refine cr rfl (WL.call rfl rfl rfl (lN R a g145) ?_);rintro v146 S ⟨g146,l⟩
 have h:=h.ext l;have I:=I.ext l;have f:=f.ext l;have i:=i.ext l;have j:=j.ext l;have m:=m.ext l;have n:=n.trans l;have a:d.heap.size≤S.heap.size:=MN a l.size;have hS:=hS.ext l;refine WL.nil (a_ hS ?_);refine cr rfl (WL.call rfl rfl rfl (lJ S a 7 g146) ?_);rintro v147 T ⟨g147,o⟩
 have h:=h.ext o;have I:=I.ext o;have f:=f.ext o;have i:=i.ext o;have j:=j.ext o;have m:=m.ext o;have n:=n.trans o;have a:d.heap.size≤T.heap.size:=MN a o.size;have hS:=hS.ext o;refine WL.nil (a_ hS ?_);refine cr rfl (WL.call rfl rfl rfl (lH T a g147) ?_);rintro v148 Z ⟨g148,p⟩
 have h:=h.ext p;have I:=I.ext p;have f:=f.ext p;have i:=i.ext p;have j:=j.ext p;have m:=m.ext p;have n:=n.trans p;have a:d.heap.size≤Z.heap.size:=MN a p.size;have hS:=hS.ext p;refine WL.nil (a_ hS ?_);refine cr rfl (WL.call rfl rfl rfl (lL Z a I g148) ?_);rintro v149 y7 ⟨g149,r⟩
 have h:=h.ext r;have f:=f.ext r;have i:=i.ext r;have j:=j.ext r;have m:=m.ext r;have n:=n.trans r;have a:d.heap.size≤y7.heap.size:=MN a r.size;have hS:=hS.ext r;refine WL.nil (a_ hS ?_);refine cr rfl (WL.call rfl rfl rfl (lB y7 a g149) ?_);rintro v150 y8 ⟨g150,s⟩
 have h:=h.ext s;have f:=f.ext s;have i:=i.ext s;have j:=j.ext s;have m:=m.ext s;have n:=n.trans s;have a:d.heap.size≤y8.heap.size:=MN a s.size;have hS:=hS.ext s;refine WL.nil (a_ hS ?_);obtain⟨uo,uc,rfl,N⟩:=Rd.ltl g150;refine cr rfl (WL.st rfl rfl rfl f rfl rfl Pr (fun z M q=>?_));refine WL.nil (a_ (hS.st q) (HL.nil ?_));refine PQ ?_;exact bg rfl rfl M rfl ⟨(g150.st q O7).low O7,Do n q O7⟩

section
variable {w w0:World}{F:Nat→Prop}{ao:Option Addr}{cap:Nat}{xs:List (Bool×Bool)}
end
section
variable {w w0:World}{F:Nat→Prop}{ao:Option Addr}{cap:Nat}{xs:List (Bool×Bool)}
end

abbrev lu(t:cM):Ltl:=lR t.1 t.2.1 t.2.2.1 t.2.2.2
def ly(t:cM):Ltl×Int:=if jR t≠0 then(.mk 0 0 [],jR t)else if(jv (lu t) 1 0).1≠0 then(.mk 0 0 [],(jv (lu t) 1 0).1)else(lu t,0)
theorem jS{t:cM}(a:jR t=0):1≤t.1∧t.1≤3→1≤t.2.2.2∧t.2.2.2≤3:=by
 unfold jR kN at a
 split at a
 ·cases a
 ·rename_i h1
  split at a
  ·cases a
  ·rename_i h2
   simp at h1 h2
   omega
theorem lz(w:World)(t:cM):
  Rt Tryz.prog 57 [Ha t].toArray w fun u w'=>∃x,u=.tuple ⟨[x,Py (ly t).2]⟩∧GL w.heap.size w' x (ly t).1∧Ext w w':=by
 refine dD Tryz.func57 Tryz.ntmps57 rfl rfl ?_;refine PB ?_;refine dX rfl rfl rfl fun w1 r m=>?_
 refine WL.alloc rfl rfl (fun O K g=>?_);have r:=r.ext g;have l:=m.trans g;refine Q4 ?_;refine WL.call rfl rfl rfl (lS O t) ?_;rintro _ N ⟨rfl,p⟩
 have W:=r.ext p;have k:=K.ext p;have f:=l.trans p;have V:=m.size;have U:=g.size;have X:=K.lt;have T:=p.size;refine Qt ?_;unfold ly;apply CW.cond rfl<;>intro h
 ·have h:jR t≠0:=by simpa using h
  rw[OK h];refine PB ?_;refine WL.build (parts:=[]) rfl rfl rfl rfl ?_;refine Ri ?_;refine WL.st rfl rfl rfl k rfl rfl Pr (fun I y B=>?_);refine PS ?_;exact bh rfl rfl rfl y rfl ⟨_,rfl,Rd.mkLtl (kids:=[]) (Sl.zero _ _),f.grown B f.size Pk⟩
 ·have h:jR t=0:=by simpa using h
  rw[OJ (by simp[h])];refine QH ?_;refine WL.call rfl rfl rfl (lx N t.1 t.2.1 t.2.2.1 t.2.2.2 (jS h)) ?_;rintro v I ⟨J,L⟩
  have S:=L.size;refine WL.alloc rfl rfl (fun w5 D G=>?_);have R:=G.size;obtain⟨uo,uc,rfl,_⟩:=Rd.ltl J;refine WL.st rfl rfl rfl D rfl rfl Pr (fun H C A=>?_);have F:Ext I H:=G.grown A G.size Pi;have i:=J.ext F;obtain⟨uo',uc',d,z⟩:=Rd.ltl i;obtain⟨rfl,rfl⟩:uo'=uo∧uc'=uc:=by
   simp[ym]at d
   exact⟨d.1.symm,d.2.symm⟩
  have o:=L.trans F;have s:=k.ext o;have E:=f.trans o;have Q:=F.size;refine PJ ?_;refine WL.call rfl rfl rfl (yk H z (fun b Z=>Z.2)) ?_;rintro _ w7 ⟨rfl,n⟩
  have j:=s.ext n;have Y:=C.ext n;have c:=E.trans n;have q:=i.ext n;have P:=n.size;refine Qt ?_;apply CW.cond rfl<;>intro h2
  ·have h2:(jv (lu t) 1 0).1≠0:=by simpa using h2
   rw[OK h2];refine PB ?_;refine WL.build (parts:=[]) rfl rfl rfl rfl ?_;refine Ri ?_;refine WL.st rfl rfl rfl j rfl rfl Pr (fun M e a=>?_);refine PS ?_;exact bh rfl rfl rfl e rfl ⟨_,rfl,Rd.mkLtl (kids:=[]) (Sl.zero _ _),c.grown a c.size Pk⟩
  ·have h2:(jv (lu t) 1 0).1=0:=by simpa using h2
   rw[OJ (by simp[h2])];refine QH ?_;refine WL.st rfl rfl rfl j rfl rfl Pr (fun M e a=>?_);refine PK ?_;exact bh rfl rfl rfl e rfl ⟨_,rfl,(q.st a O7).low O7,c.grown a c.size Pk⟩
def pY(r:cJ):Ltl×Int:=
 if r.2.1=1 then lZ r.2.2.1 else if r.2.1=2 then ly r.2.2.2.1
 else if r.2.1=3 then(if(jv r.2.2.2.2.1 1 0).1≠0 then(.mk 0 0 [],(jv r.2.2.2.2.1 1 0).1)else(r.2.2.2.2.1,0))else(.mk 0 0 [],1)
structure Wlk(E:Nat→Nat→Prop)(p:Nat→Nat)(n a b:Nat):Prop where
 first:p 0=a
 last:p n=b
 step:∀i,i<n→E (p i) (p (i+1))
def rq(p q:Nat→Nat)(n:Nat):Nat→Nat:=fun i=>if i<n then p i else q (i -n)
theorem rt{p q:Nat→Nat}{n i:Nat}(h:i<n):rq p q n i=p i:=by unfold rq;rw[OK h]
theorem rr{p q:Nat→Nat}{n i:Nat}(h:n≤i):rq p q n i=q (i -n):=by unfold rq;rw[OJ O7]
theorem rs{p q:Nat→Nat}{n i:Nat}(h:i≤n)(a:p n=q 0):rq p q n i=p i:=by
 by_cases hi:i<n
 ·exact rt hi
 ·obtain rfl:i=n:=by omega
  rw[rr Pu,M8,a]
theorem Wlk.trans{E:Nat→Nat→Prop}{p q:Nat→Nat}{n m a b c:Nat}(h:Wlk E p n a b)(k:Wlk E q m b c):Wlk E (rq p q n) (n+m) a c:=by
 have d:p n=q 0:=h.last.trans k.first.symm;refine⟨(rs (Nc _) d).trans h.first,?_,fun i hi=>?_⟩
 ·rw[rr O7,show n+m -n=m by omega];exact k.last
 ·by_cases hn:i<n
  ·rw[rt hn,rs (i:=i+1) (M9 hn) d];exact h.step i hn
  ·rw[rr O7,rr O7,show i+1 -n=(i -n)+1 by omega]
   exact k.step _ O7
def Rc(E:Nat→Nat→Prop)(a b:Nat):Prop:=∃p n,Wlk E p n a b
theorem Rc.refl{E:Nat→Nat→Prop}(a:Nat):Rc E a a:=⟨fun _=>a,0,rfl,rfl,fun i h=>absurd h O7⟩
theorem Rc.trans{E:Nat→Nat→Prop}{a b c:Nat}:Rc E a b→Rc E b c→Rc E a c
 |⟨_,_,h⟩,⟨_,_,k⟩=>⟨_,_,h.trans k⟩
theorem Wlk.one{E:Nat→Nat→Prop}{a b:Nat}(h:E a b):Wlk E (fun i=>if i=0 then a else b) 1 a b:=
 ⟨rfl,rfl,fun i hi=>by obtain rfl:i=0:=by omega
                       exact h⟩
theorem Rc.one{E:Nat→Nat→Prop}{a b:Nat}(h:E a b):Rc E a b:=⟨_,_,Wlk.one h⟩
theorem Rc.of_way{E:Nat→Nat→Prop}{r:Nat→Nat}(h:∀i,E (r i) (r (i+1))){i j:Nat}(a:i≤j):Rc E (r i) (r j):=
 ⟨fun k=>r (i+k),j -i,by simp,by rw[show i+(j -i)=j by omega],fun k _=>by
  have:=h (i+k);rwa[show i+k+1=i+(k+1) by omega]at this⟩
theorem vS:∀(N:Nat) (r:Nat→Nat),(∀i,r i<N)→∃v,v<N∧∀i,∃j,i≤j∧r j=v
 |0,r,h=>absurd (h 0) O7
 |N+1,r,h=>by
  by_cases f:∀i,∃j,i≤j∧r j=N
  ·exact⟨N,by omega,f⟩
  ·obtain⟨c,o⟩:=J4.1 f
   have h1:∀j,c≤j→r j≠N:=fun j m n=>o ⟨j,m,n⟩
   obtain⟨v,g,d⟩:=vS N (fun k=>r (c+k)) (fun k=>by
    have a:=h (c+k);have b:=h1 (c+k) O7;omega)
   refine⟨v,by omega,fun i=>?_⟩;obtain⟨j,l,e⟩:=d i;exact⟨c+j,by omega,e⟩
theorem yf{E:Nat→Nat→Prop}{v u:Nat}(e:E v u)(g:Rc E u v):∀Ps:List (Nat→Prop),(∀P∈Ps,∃x,P x∧Rc E v x∧Rc E x v)→
  ∃p n,0<n∧Wlk E p n v v∧∀P∈Ps,∃i,i<n∧P (p i)
 |[],_=>by
  obtain⟨q,m,hq⟩:=g;exact⟨_,_,by omega,(Wlk.one e).trans hq,fun P hP=>by cases hP⟩
 |P::Ps,h=>by
  obtain⟨p,n,hn,f,a⟩:=yf e g Ps (fun Q hQ=>h Q (by simp[hQ]));obtain⟨x,d,⟨k,n1,h1⟩,⟨j,c,h2⟩⟩:=h P O_;refine⟨rq p (rq k j n1) n,n+(n1+c),by omega,f.trans (h1.trans h2),fun Q hQ=>?_⟩;rcases LN.1 hQ with rfl|hQ
  ·by_cases l:c=0
   ·subst l
    have b:x=v:=h2.first.symm.trans h2.last;exact⟨0,by omega,by rw[rt hn,f.first,←b];exact d⟩
   ·refine⟨n+n1,by omega,?_⟩
    rw[rr O7,show n+n1 -n=n1 by omega,rr Pu,M8,h2.first];exact d
  ·obtain⟨i,hi,hq⟩:=a Q hQ
   exact⟨i,by omega,by rw[rt hi];exact hq⟩
def Way8(E:Nat→Nat→Prop)(Ps:List (Nat→Prop))(r:Nat→Nat):Prop:=(∀i,E (r i) (r (i+1)))∧∀P∈Ps,∀i,∃j,i≤j∧P (r j)
def aM(E:Nat→Nat→Prop)(Ps:List (Nat→Prop))(v:Nat):Prop:=(∃u,E v u∧Rc E u v)∧∀P∈Ps,∃x,P x∧Rc E v x∧Rc E x v
theorem IA{E:Nat→Nat→Prop}{Ps:List (Nat→Prop)}{N:Nat}{r:Nat→Nat}(l:∀i,r i<N)(h:Way8 E Ps r):∃v,Rc E (r 0) v∧aM E Ps v∧∃i,r i=v:=by
 obtain⟨v,_,c⟩:=vS N r l;obtain⟨a,_,b⟩:=c 0;refine⟨v,by rw[←b];exact Rc.of_way h.1 (Nc _),⟨⟨r (a+1),by rw[←b];exact h.1 a,?_⟩,fun P hP=>?_⟩,a,b⟩
 ·obtain⟨j,f,d⟩:=c (a+1)
  rw[←d];exact Rc.of_way h.1 f
 ·obtain⟨j,f,d⟩:=h.2 P hP a
  obtain⟨k,g,e⟩:=c j;exact⟨r j,d,by rw[←b];exact Rc.of_way h.1 f,by rw[←e];exact Rc.of_way h.1 g⟩
def xu(q p:Nat→Nat)(m n:Nat):Nat→Nat:=rq q (fun i=>p (i % n)) m
theorem xv{E:Nat→Nat→Prop}{q p:Nat→Nat}{m n a v:Nat}(hn:0<n)(hq:Wlk E q m a v)(b:Wlk E p n v v):∀i,E (xu q p m n i) (xu q p m n (i+1)):=by
 intro i
 have f:q m=(fun i=>p (i % n)) 0:=by show _=p (0 % n);rw[Nat.zero_mod,b.first,hq.last]
 unfold xu;by_cases h:i<m
 ·rw[rt h,rs (q:=fun i=>p (i % n)) (i:=i+1) (M9 h) f];exact hq.step i h
 ·rw[rr O7,rr O7,show i+1 -m=(i -m)+1 by omega]
  generalize i -m=k;have e:=MU k hn;have c:=b.step (k % n) e;show E (p (k % n)) (p ((k+1) % n));by_cases h1:k % n+1=n
  ·rw[h1,b.last]at c
   have:(k+1) % n=0:=by rw[Nat.add_mod];by_cases d:n=1
                        ·subst d;omega
                        ·rw[MT (show 1<n by omega),h1,Nat.mod_self]
   rw[this,b.first];exact c
  ·have:(k+1) % n=k % n+1:=by
    rw[Nat.add_mod,MT (show 1<n by omega),MT O7]
   rw[this];exact c
theorem kK{E:Nat→Nat→Prop}{Ps:List (Nat→Prop)}{a v:Nat}(f:Rc E a v)(h:aM E Ps v):∃r,r 0=a∧Way8 E Ps r:=by
 obtain⟨⟨u,e,l⟩,hP⟩:=h;obtain⟨p,n,hn,c,b⟩:=yf e l Ps hP;obtain⟨q,m,hq⟩:=f;refine⟨xu q p m n,?_,xv hn hq c,fun P hP i=>?_⟩
 ·have j:q m=(fun i=>p (i % n)) 0:=by show _=p (0 % n);rw[Nat.zero_mod,c.first,hq.last]
  show rq q (fun i=>p (i % n)) m 0=a;rw[rs (q:=fun i=>p (i % n)) (Nc _) j];exact hq.first
 ·obtain⟨k,g,d⟩:=b P hP
  refine⟨m+(i*n+k),by have:=Nat.le_mul_of_pos_right i hn;omega,?_⟩;unfold xu;rw[rr O7,show m+(i*n+k) -m=i*n+k by omega];show P (p ((i*n+k) % n));rw[Ms,Mu,MT g];exact d
theorem oE{E:Nat→Nat→Prop}{Ps:List (Nat→Prop)}{N a:Nat}(d:∀u v,E u v→v<N)(c:a<N):(∃r,r 0=a∧Way8 E Ps r)↔∃v,Rc E a v∧aM E Ps v:=by
 constructor
 ·rintro⟨r,b,h⟩
  obtain⟨v,h1,h2,_⟩:=IA (N:=N) (fun i=>by
   cases i with
   |zero=>rw[b];exact c
   |succ i=>exact d _ _ (h.1 i)) h
  exact⟨v,by rw[←b];exact h1,h2⟩
 ·rintro⟨v,h1,h2⟩
  exact kK h1 h2
def Eg(g:bU)(u v:Nat):Prop:=(v:Int)∈g.getD u []
theorem Eg.lt{g:bU}(a:okG g){u v:Nat}(h:Eg g u v):v<g.length:=by have:=AE a u _ h;omega
theorem CT{g:bU}(e:okG g){f:List Int}(hf:∀x∈f,0≤x){b:Nat}:Rch g f b↔∃a:Nat,(a:Int)∈f∧Rc (Eg g) a b:=by
 constructor
 ·intro h
  induction h with
  |base c=>rename_i x;exact⟨x.toNat,by rw[show((x.toNat:Nat):Int)=x by have:=hf x c;omega];exact c,Rc.refl _⟩
  |step _ c d=>
   obtain⟨a,h1,h2⟩:=d;refine⟨a,h1,h2.trans (Rc.one ?_)⟩;rename_i n x _;have:=(AE e n x c).1;show((x.toNat:Nat):Int)∈_;rw[show((x.toNat:Nat):Int)=x by omega];exact c
 ·rintro⟨a,h1,p,n,h⟩
  have:∀i,i≤n→Rch g f (p i):=by
   intro i
   induction i with
   |zero=>intro _;rw[h.first];exact Rch.base (x:=(a:Int)) h1
   |succ i d=>intro hi;exact Rch.step (x:=(p (i+1):Int)) (d O7) (h.step i O7)
  rw[←h.last];exact this n Pu
theorem CO{g:bU}(e:okG g){a b:Nat}:Rch g [(a:Int)] b↔Rc (Eg g) a b:=by
 rw[CT e (fun x d=>by simp at d;omega)];constructor
 ·rintro⟨c,f,h⟩
  simp at f
  obtain rfl:c=a:=by omega
  exact h
 ·exact fun h=>⟨a,by simp,h⟩
def idxOf{α:Type}(p:α→Bool)(xs:List α):Int:=match xs.findIdx? p with|some i=>(i:Int)|none=> -1
theorem vq{α:Type}{p:α→Bool}{xs:List α}{k:Nat}(b:k<xs.length)(hn:∀j (h:j<xs.length),j<k→p xs[j]=false)(a:p xs[k]=true):idxOf p xs=k:=by
 have:xs.findIdx? p=some k:=by
  rw[KL];exact⟨b,a,fun j c=>by simp[hn j O7 c]⟩
 simp[idxOf,this]
theorem vw{α:Type}{p:α→Bool}{xs:List α}(hn:∀j (h:j<xs.length),p xs[j]=false):idxOf p xs= -1:=by
 have:xs.findIdx? p=none:=by
  rw[KK];intro x a
  obtain⟨j,b,rfl⟩:=LT.1 a;exact hn j b
 simp[idxOf,this]
theorem vl{α:Type}(p:α→Bool)(xs:List α):decide (idxOf p xs≥0)=xs.any p:=by
 unfold idxOf;cases h:xs.findIdx? p with
 |none=>
  rw[KK]at h
  have:xs.any p=false:=by rw[Kf];intro x a;simp[h x a]
  rw[this];rfl
 |some i=>
  obtain⟨h1,h2,_⟩:=KL.1 h;have:xs.any p=true:=Kg.2 ⟨xs[i],Lc _,h2⟩;rw[this];simp
theorem vL(w0:World){ao:Option Addr}{cap:Nat}{xs:List Int}{fv:Value}(p:Int→Bool)(f:Sl w0 (c7 w0) ao cap xs)
  (hf:∀w,Ext w0 w→∀i (h:i<xs.length),FnV Tryz.prog fv [Py xs[i]] w fun v w'=>v=.bool (p xs[i])∧Ext w w'):
  Rt Tryz.prog 134 [.slice ao xs.length cap,fv].toArray w0 fun v w'=>v=Py (idxOf p xs)∧Ext w0 w':=by
 have l:=f.len63;refine dE Tryz.func134 Tryz.ntmps134 rfl rfl ?_;refine Q3 ?_;refine CW.loop (S:=Nat) (fun k=>[(0,.slice ao xs.length cap),(1,fv),(7,Py xs.length),(8,Py k)])
  (fun k w=>k≤xs.length∧Ext w0 w∧∀j (h:j<xs.length),j<k→p xs[j]=false) (fun k=>xs.length -k) 0 O6 ⟨by omega,Ext.refl _,by omega⟩ ?_
 rintro k w ⟨m,b,hn⟩
 refine Qt ?_;apply CW.cond rfl<;>intro h
 ·simp at h
  refine PT ?_;refine eB rfl rfl rfl rfl rfl (f.at b) h rfl Pg (fun q=>?_);refine d7 rfl rfl rfl rfl (hf w b k h) ?_;rintro v w' ⟨rfl,a⟩
  refine PU ?_;refine CW.cond rfl (fun d=>?_) (fun d=>?_)
  ·refine PA ?_
   refine be rfl rfl ⟨?_,b.trans a⟩;rw[vq h hn d]
  ·refine PI ?_
   refine EX.back (k+1) O6 ⟨h,b.trans a,?_⟩ O7;intro j c g
   by_cases e:j=k
   ·subst e;exact d
   ·exact hn j c O7
 ·simp at h
  refine P_ ?_;refine be rfl rfl ⟨?_,b⟩;rw[vw (fun j c=>hn j c O7)]
theorem kD(w0:World){ao:Option Addr}{cap:Nat}{xs:List Int}{fv:Value}(p:Int→Bool)(a:Sl w0 (c7 w0) ao cap xs)
  (hf:∀w,Ext w0 w→∀i (h:i<xs.length),FnV Tryz.prog fv [Py xs[i]] w fun v w'=>v=.bool (p xs[i])∧Ext w w'):
  Rt Tryz.prog 66 [.slice ao xs.length cap,fv].toArray w0 fun v w'=>v=.bool (xs.any p)∧Ext w0 w':=by
 refine dE Tryz.func66 Tryz.ntmps66 rfl rfl ?_;refine Qt ?_;refine WL.call rfl rfl rfl (vL w0 p a hf) ?_;rintro v w' ⟨rfl,b⟩
 refine PK ?_;refine be rfl rfl ⟨?_,b⟩;rw[←vl]
theorem Al(n:Int)(b:Nat)(w:World){ao:Option Addr}{cap:Nat}{g:List (List Int)}{F:Nat→Prop}(a:Sl w F ao cap g)(c:Cells w b 0 [.slice ao g.length cap]):
  Rt Tryz.prog 135 [Py n,Pz b].toArray w fun v w'=>v=.bool (decide (n<0∨n≥g.length))∧w=w':=by
 refine dE Tryz.func135 Tryz.ntmps135 rfl rfl ?_;refine Qt ?_;refine eU (s:=6) rfl (fun h=>?_) (fun h=>?_)
 ·refine PL ?_
  refine be rfl rfl ?_;simp at h
  simp[h]
 ·refine Ri ?_
  refine WL.load (α:=List (List Int)) rfl rfl rfl c ⟨ao,cap,rfl,a⟩ ?_;refine Q_ ?_;refine be rfl rfl ?_;simp at h
  simp[J_.2 h]
theorem An(w0:World){ao lo:Option Addr}{cap lcap:Nat}{g:List (List Int)}{l:List Int}(j:Sl w0 (c7 w0) ao cap g)(k:Sl w0 (c7 w0) lo lcap l):
  Rt Tryz.prog 70 [.slice ao g.length cap,.slice lo l.length lcap].toArray w0 fun v w'=>v=.bool (Am g.length l)∧Ext w0 w':=by
 refine dE Tryz.func70 Tryz.ntmps70 rfl rfl ?_;refine PB ?_;refine WL.box rfl rfl rfl ?_;refine QJ ?_;have a:=Ext.alloc w0 (.cells (Value.cells (.slice ao g.length cap)) 50);have f:=Cells.alloc w0 (Value.cells (.slice ao g.length cap)) 50;generalize w0.alloc (.cells (Value.cells (.slice ao g.length cap)) 50)=d at*
 have c:w0.heap.size<d.heap.size:=f.lt (by simp[Value.cells]);refine WL.call rfl rfl rfl (kD d (fun x=>decide (x<0∨x≥g.length)) (k.up a) (fun w e i h=>?_)) ?_
 ·refine FnV.mk (Rt.mono (Al _ _ w ((j.at a).mono (fun b m=>e.block b (MQ m a.size)) fun _ h=>h) (f.mono (e.block _ c))) ?_)
  rintro v w' ⟨rfl,rfl⟩
  exact⟨rfl,Ext.refl _⟩
 ·rintro v w' ⟨rfl,n⟩
  refine PK ?_;exact be rfl rfl ⟨rfl,a.trans n⟩
theorem jY(w0:World){ao:Option Addr}{cap:Nat}{g:List (List Int)}(f:Sl w0 (c7 w0) ao cap g):
  Rt Tryz.prog 68 [.slice ao g.length cap].toArray w0 fun v w'=>v=Py (jD g)∧Ext w0 w':=by
 have r:=f.len63;refine dD Tryz.func68 Tryz.ntmps68 rfl rfl ?_;refine Q3 ?_;apply CW.cond rfl<;>intro h
 ·refine QO ?_
  refine be rfl rfl ⟨?_,Ext.refl _⟩;unfold jD;have:decide (g.length>20000)=true:=by simp at h⊢;omega
  rw[this]
 ·simp at h
  have c:decide (g.length>20000)=false:=by simp;omega
  refine QN ?_;refine CW.loop (S:=Nat) (fun k=>[(0,.slice ao g.length cap),(8,.slice ao g.length cap),(9,Py g.length),(10,Py k)])
   (fun k w=>k≤g.length∧Ext w0 w∧∀j (h:j<g.length),j<k→Am g.length g[j]=false) (fun k=>g.length -k) 0 O6 ⟨by omega,Ext.refl _,by omega⟩ ?_
  rintro k w ⟨s,a,hn⟩
  refine Qt ?_;apply CW.cond rfl<;>intro h1
  ·simp at h1
   refine Rb ?_;refine eC rfl rfl rfl rfl rfl (f.at a) h1 Pg (fun u q n=>?_);obtain⟨lo,lcap,rfl,i⟩:=n.sl;refine Qt ?_;refine WL.call rfl rfl rfl (An w (f.up a) (i.lift fun b p=>MQ p a.size)) ?_;rintro v w' ⟨rfl,d⟩
   refine PU ?_;apply CW.cond rfl<;>intro h2
   ·refine PA ?_
    refine be rfl rfl ⟨?_,a.trans d⟩;unfold jD;have:g.any (Am g.length)=true:=Kg.2 ⟨_,Lc h1,h2⟩;rw[this,c]
   ·refine PI ?_
    refine EX.back (k+1) O6 ⟨h1,a.trans d,?_⟩ O7;intro j m o
    by_cases e:j=k
    ·subst e;exact h2
    ·exact hn j m O7
  ·simp at h1
   refine P_ ?_;refine be rfl rfl ⟨?_,a⟩;unfold jD;have:g.any (Am g.length)=false:=by
    rw[Kf];intro l i
    obtain⟨j,m,rfl⟩:=LT.1 i;simp[hn j m O7]
   rw[this,c]
theorem kj(w0:World){ao:Option Addr}{cap:Nat}{xs:List Int}(a:Sl w0 (c7 w0) ao cap xs)(i:xs.length*8≤140737488355328):
  Rt Tryz.prog 117 [.slice ao xs.length cap].toArray w0 fun v w'=>Own w' w0.heap.size 3 cZ v xs∧Ext w0 w':=by
 have m:=a.len63;refine dD Tryz.func117 Tryz.ntmps117 rfl rfl ?_;refine QD ?_;apply CW.cond rfl<;>intro h
 ·refine QO ?_
  refine be rfl rfl ⟨?_,Ext.refl _⟩;have j:ao=none:=by simpa using h
  have:xs=[]:=KC (by have:=a.nil j;have:=a.le;omega);subst this;exact Own.nil
 ·refine QH ?_
  refine eS (α:=Int) rfl rfl (fun e d g=>?_);refine Ri ?_;have b:Ext w0 e:=(JI _ _).grown g Pu Pn;refine WL.app (F:=cZ) rfl rfl rfl rfl d (a.at b).srcN b.size Pj (by simp[maxLen];omega) (by simpa using i) (fun v l ho2 c _=>?_);refine PK ?_;refine be rfl rfl ⟨by simpa using ho2,b.grown c b.size ?_⟩;intro k f
  exact(d.lt k f).1
theorem GI{a:List Int}(h:0<a.length):a=a.take (a.length -1)++[a[a.length -1]]:=by
 have:=Mo (l:=a) (i:=a.length -1) O7;rw[←this,Ml O7]
theorem Db(w0:World){ao fo:Option Addr}{cap fcap:Nat}{g:List (List Int)}{f:List Int}(W:Sl w0 (c7 w0) ao cap g)(hf:Sl w0 (c7 w0) fo fcap f)
  (hg:okG g) (Q:AF g.length f) (hT:f.length+mG g+g.length≤1099511627776):
  Rt Tryz.prog 71 [.slice ao g.length cap,.slice fo f.length fcap].toArray w0 fun v w'=>Own w' w0.heap.size 4 cZ v (CP g f)∧Ext w0 w':=by
 have hm:=W.len63;have Y:=hf.len63;refine dE Tryz.func71 Tryz.ntmps71 rfl rfl ?_;refine Q3 ?_;refine eW (α:=Bool) rfl rfl rfl rfl O7 Pb (fun K ho1 T=>?_);have I:Ext w0 K:=(JI _ _).grown T Pu Pn;have C:w0.heap.size<K.heap.size:=(ho1.lt _ rfl).2.1;refine Qt ?_;refine WL.call rfl rfl rfl (kj K (hf.up I) O7) ?_;rintro tv w2 ⟨ho2,H⟩
 refine Qj ?_;generalize M:Value.slice (some ⟨w0.heap.size,0,none⟩) g.length g.length=sv at*
 have m:sv.ownBlock=some w0.heap.size:=by rw[←M];rfl
 refine CW.loop (S:=Value×List Bool×List Int) (fun s=>[(0,.slice ao g.length cap),(5,sv),(6,s.1)])
  (fun s w=>RInv g f s.2.1 s.2.2∧s.2.2.length+B8 g s.2.1≤f.length+mG g+g.length∧Own w w0.heap.size 4 cZ sv s.2.1∧Own w w0.heap.size 3 cZ s.1 s.2.2∧Ext w0 w∧(∀k,s.1.ownBlock=some k→k≠w0.heap.size))
  (fun s=>s.2.2.length+B8 g s.2.1) (tv,List.replicate g.length false,f) O6
  ⟨RInv.start Q,by show f.length+B8 g (List.replicate g.length false)≤_;rw[Ca];omega,ho1.extN H,ho2.low (MJ C),I.trans H,fun k b=>by have:=(ho2.lt k b).1;omega⟩ ?_
 rintro⟨tv,seen,a⟩ w ⟨hR,A,i,p,J,B⟩
 simp only at hR A i p B
 refine PV ?_;apply CW.cond rfl<;>intro h
 ·simp at h
  have D:0<a.length:=by omega
  have j:=GI D;refine QS ?_;refine eD rfl rfl rfl rfl rfl p O7 O7 Pg (fun u q y=>?_);obtain rfl:=y.int;have ei:((a.length:Int) -1).toNat=a.length -1:=by omega
  simp only[ei];generalize hx:a[a.length -1]=x at*
  generalize r:a.take (a.length -1)=rest at*
  rw[j]at hR
  have Z:a.length=rest.length+1:=by rw[j];simp
  have X:=hR.ok x O_;refine QS ?_;refine eq (α:=Int) (a.length -1) O7 rfl rfl rfl rfl p O7 (fun tv' d U=>?_);rw[r]at d
  have c:∀k,tv'.ownBlock=some k→k≠w0.heap.size:=fun k b=>B k (by rw[←U];exact b)
  refine Qt ?_;refine eD rfl rfl rfl rfl rfl i O7 (by rw[hR.len];omega) Pg (fun u q2 y=>?_);obtain rfl:=y.bool;have t:x.toNat<seen.length:=by rw[hR.len];omega
  refine PN ?_;apply CW.cond rfl<;>intro h2
  ·have O:seen[x.toNat]=false:=by simpa using h2
   have P:=B_ g seen x.toNat O7 hR.len (by simp[KT,t,O]);refine PW ?_;refine WL.set rfl rfl rfl rfl i O7 (by rw[hR.len];omega) Pg Pg (Rd.mkBool _ _ true) (fun V q3 o G=>?_);have l:Ext w0 V:=J.grown G J.size (fun k b=>by rw[m]at b;cases b;exact MM _);have n:Own V w0.heap.size 3 cZ tv' rest:=d.keptN G (fun k b e=>by rw[m]at e;cases e;exact c _ b rfl);refine Qq ?_;have L:x.toNat<g.length:=by omega
   refine ez rfl rfl rfl rfl rfl (W.at l) O7 O7 Pg (fun u q4 y=>?_);obtain⟨ro,rcap,rfl,z⟩:=y.sl;have erow:g.getD x.toNat []=g[x.toNat]:=by simp[KT,L]
   rw[erow]at P
   skip;refine WL.app (F:=cZ) rfl rfl rfl rfl n z.srcN l.size Pj Pb O7 (fun tv4 w4 ho4 E R=>?_);refine Q0 ?_;refine EX.back (tv4,seen.set x.toNat true,rest++g[x.toNat]) O6 ⟨?_,?_,?_,ho4,?_,?_⟩ ?_
   ·have:=RInv.mark hg hR
    rwa[erow]at this
   ·simp only[Ll];omega
   ·exact o.keptN E (fun k b e=>by rw[m]at b;cases b;exact c _ e.symm rfl)
   ·exact l.grown E l.size (fun k b=>(n.lt k b).1)
   ·intro k b
    rcases R k b with h|h
    ·exact c k h
    ·have:=l.size;have:=(o.lt _ m).2.1;omega
   ·simp only[Ll];omega
  ·have N:seen[x.toNat]=true:=by simpa using h2
   refine QZ ?_;refine EX.back (tv',seen,rest) O6 ⟨hR.pass (by simp[KT,t,N]),by simp only;omega,i,d,J,c⟩ (by simp only;omega)
 ·have h0:a=[]:=by simpa using h
  subst h0;refine P_ ?_;refine be rfl rfl ⟨?_,J⟩;rw[←hR.done];exact i
noncomputable def C_(g:bU)(f:List Int):List Bool×Int:=match jD g==0,Am g.length f with
 |true,false=>(CP g f,0)
 |true,true=>([],1)
 |false,_=>([],jD g)
theorem jE{g:bU}(h:okG g)(a:g.length≤20000):jD g=0:=by
 unfold jD;have h1:decide (g.length>20000)=false:=by simp;omega
 have h2:g.any (Am g.length)=false:=by rw[Kf];intro l a;simp[oddB_false.2 (h l a)]
 rw[h1,h2]
theorem Da{g:bU}{f:List Int}(h:okG g)(hf:AF g.length f)(a:g.length≤20000):C_ g f=(CP g f,0):=by
 unfold C_;have h1:(jD g==0)=true:=by rw[jE h a];rfl
 rw[h1,oddB_false.2 hf]
theorem dA(w0:World){ao fo:Option Addr}{cap fcap:Nat}{g:List (List Int)}{f:List Int}(e:Sl w0 (c7 w0) ao cap g)(hf:Sl w0 (c7 w0) fo fcap f)(m:f.length+mG g+g.length≤1099511627776):
  Rt Tryz.prog 32 [.slice ao g.length cap,.slice fo f.length fcap].toArray w0 fun r w'=>∃v,r=.tuple ⟨[v,Py (C_ g f).2]⟩∧Own w' w0.heap.size 4 cZ v (C_ g f).1∧Ext w0 w':=by
 refine dE Tryz.func32 Tryz.ntmps32 rfl rfl ?_;refine Qt ?_;refine WL.call rfl rfl rfl (jY w0 e) ?_;rintro v k ⟨rfl,a⟩
 refine Qt ?_;apply CW.cond rfl<;>intro h
 ·have b:(jD g==0)=false:=by simpa using h
  refine QO ?_;exact bf rfl rfl rfl ⟨.slice none 0 0,by simp only[C_,b],by simp only[C_,b];exact Own.nil,a⟩
 ·have b:(jD g==0)=true:=by simpa using h
  obtain⟨l,_⟩:=jF (by simpa using b);refine Qm ?_;refine WL.call rfl rfl rfl (An k (e.up a) (hf.up a)) ?_;rintro v j ⟨rfl,c⟩
  refine PU ?_;apply CW.cond rfl<;>intro h2
  ·refine QO ?_
   exact bf rfl rfl rfl ⟨.slice none 0 0,by simp only[C_,b,h2],by simp only[C_,b,h2];exact Own.nil,a.trans c⟩
  ·refine Qm ?_
   have d:=a.trans c;refine WL.call rfl rfl rfl (Db j (e.up d) (hf.up d) l (oddB_false.1 h2) m) ?_;rintro v n ⟨ho3,i⟩
   refine PK ?_;exact bf rfl rfl rfl ⟨v,by simp only[C_,b,h2],by simp only[C_,b,h2];exact ho3.low d.size,d.trans i⟩
structure Raw where
 v:Value
instance s7:Rep Raw where
 sz:=1
 pos:=by decide
 agg:=false
 rd:=fun _ _ cs x=>cs=[x.v]∧x.v.oneCell'=true
 len:=by intro w F cs x h;rw[h.1];rfl
 one:=by intro w F cs x h v a;rw[h.1]at a;simp at a;subst a;exact h.2
 szAgg:=fun _=>rfl
 mono:=fun h _ _=>h
theorem Rd.raw{w:World}{F:Nat→Prop}{v:Value}{x:Raw}(h:Rd w F v x):v=x.v∧x.v.oneCell'=true:=by
 obtain⟨cs,e,h1,h2⟩:=h;subst h1;exact⟨e,h2⟩
theorem Rd.mkRaw(w:World)(F:Nat→Prop)(v:Value)(h:v.oneCell'=true):Rd w F v (⟨v⟩:Raw):=⟨[v],rfl,rfl,h⟩
section
variable {α:Type}[Rep α]
structure OwnN(w:World)(B:Nat)(eo ei:TypeId)(v:Value)(vs:List Raw)(xs:List (List α)):Prop where
 out:Own w B eo cZ v vs
 len:vs.length=xs.length
 inn:∀i (h:i<vs.length) (h':i<xs.length),Own w B ei cZ vs[i].v xs[i]
 dis:∀i j (hi:i<vs.length) (hj:j<vs.length),i≠j→∀g,vs[i].v.ownBlock=some g→vs[j].v.ownBlock=some g→False
 dio:∀i (hi:i<vs.length) g,vs[i].v.ownBlock=some g→v.ownBlock=some g→False
variable {w w' w'':World}{B:Nat}{eo ei:TypeId}{v:Value}{vs:List Raw}{xs:List (List α)}
theorem OwnN.ext(h:OwnN w B eo ei v vs xs)(b:Ext w w'):OwnN w' B eo ei v vs xs:=
 ⟨h.out.extN b,h.len,fun i hi a=>(h.inn i hi a).extN b,h.dis,h.dio⟩
theorem OwnN.low(h:OwnN w B eo ei v vs xs){B':Nat}(b:B'≤B):OwnN w B' eo ei v vs xs:=
 ⟨h.out.low b,h.len,fun i hi a=>(h.inn i hi a).low b,h.dis,h.dio⟩
def OwnN.blk(v:Value)(vs:List Raw):Nat→Prop:=fun b=>v.ownBlock=some b∨∃x∈vs,x.v.ownBlock=some b
theorem OwnN.lt(h:OwnN w B eo ei v vs xs):∀b,OwnN.blk v vs b→B≤b∧b<w.heap.size:=by
 rintro b (a|⟨x,c,a⟩)
 ·exact⟨(h.out.lt b a).1,(h.out.lt b a).2.1⟩
 ·obtain⟨i,hi,rfl⟩:=LT.1 c
  have:=(h.inn i hi (by rw[←h.len];exact hi)).lt b a;exact⟨this.1,this.2.1⟩
theorem OwnN.kept{row:Option Nat}(h:OwnN w B eo ei v vs xs)(e:w.grownBy w' row)(c:∀b,OwnN.blk v vs b→some b≠row):OwnN w' B eo ei v vs xs:=
 ⟨h.out.keptN e (fun g a=>c g (.inl a)),h.len,fun i hi d=>(h.inn i hi d).keptN e (fun g a=>c g (.inr ⟨_,Lc hi,a⟩)),h.dis,h.dio⟩
theorem OwnN.nil:OwnN w B eo ei (.slice none 0 0) [] ([]:List (List α)):=⟨Own.nil,rfl,fun i hi=>absurd hi O_,fun i j hi=>absurd hi O_,fun i hi=>absurd hi O_⟩
theorem OwnN.made{n:Nat}(h:Own w B eo cZ v (List.replicate n (⟨.slice none 0 0⟩:Raw))):OwnN w B eo ei v (List.replicate n ⟨.slice none 0 0⟩) (List.replicate n ([]:List α)):=by
 refine⟨h,by simp,fun i hi b=>?_,fun i j hi c _ g a=>?_,fun i hi g a=>?_⟩
 ·simp only[Le];exact Own.nil
 ·simp only[Le]at a;simp[Value.ownBlock]at a
 ·simp only[Le]at a;simp[Value.ownBlock]at a
theorem OwnN.mid(h:OwnN w B eo ei v vs xs){i:Nat}(hi:i<vs.length)(b:w.grownBy w' vs[i].v.ownBlock):Own w' B eo cZ v vs:=
 h.out.keptN b (fun g a e=>h.dio i hi g e.symm a)
theorem OwnN.set(h:OwnN w B eo ei v vs xs){i:Nat}(hi:i<vs.length){l:Value}{ys:List α}(t:Own w' B ei cZ l ys)(f:w.grownBy w' vs[i].v.ownBlock)(hnb:∀g,l.ownBlock=some g→vs[i].v.ownBlock=some g∨w.heap.size≤g)
  (x:Own w'' B eo cZ v (vs.set i ⟨l⟩)) (r:w'.grownBy w'' v.ownBlock):OwnN w'' B eo ei v (vs.set i ⟨l⟩) (xs.set i ys):=by
 have n:∀j (a:j<vs.length),∀g,vs[j].v.ownBlock=some g→g<w.heap.size:=fun j a g f=>((h.inn j a (by rw[←h.len];exact a)).lt g f).2.1
 have c:∀g,v.ownBlock=some g→g<w.heap.size:=fun g f=>(h.out.lt g f).2.1
 have o:∀g,l.ownBlock=some g→v.ownBlock=some g→False:=fun g h1 h2=>by
  rcases hnb g h1 with h3|h3
  ·exact h.dio i hi g h3 h2
  ·have:=c g h2;omega
 have p:∀j (a:j<vs.length),j≠i→∀g,l.ownBlock=some g→vs[j].v.ownBlock=some g→False:=fun j a b g h1 h2=>by
  rcases hnb g h1 with h3|h3
  ·exact h.dis i j hi a (Nf b) g h3 h2
  ·have:=n j a g h2;omega
 refine⟨x,by simp[h.len],fun j a q=>?_,fun j k a s b g h1 h2=>?_,fun j a g h1 h2=>?_⟩
 ·rw[Lz]at a q
  rw[Lf,Lf];by_cases e:i=j
  ·rw[OK e,OK e]
   exact t.keptN r (fun g f e=>o g f e.symm)
  ·rw[OJ e,OJ e]
   exact((h.inn j a q).keptN f (fun g d m=>h.dis i j hi a e g m.symm d)).keptN r (fun g d m=>h.dio j a g d m.symm)
 ·rw[Lz]at a s
  rw[Lf]at h1 h2
  by_cases u:i=j
  ·subst u
   rw[OK rfl]at h1
   rw[OJ b]at h2
   exact p k s (Nf b) g h1 h2
  ·rw[OJ u]at h1
   by_cases m:i=k
   ·rw[OK m]at h2
    exact p j a (Nf u) g h2 h1
   ·rw[OJ m]at h2
    exact h.dis j k a s b g h1 h2
 ·rw[Lz]at a
  rw[Lf]at h1
  by_cases e:i=j
  ·rw[OK e]at h1;exact o g h1 h2
  ·rw[OJ e]at h1;exact h.dio j a g h1 h2
theorem OwnN.sl(h:OwnN w B eo ei v vs xs):∃ao cap,v=.slice ao xs.length cap∧Sl w (OwnN.blk v vs) ao cap xs:=by
 obtain⟨ao,cap,e,c⟩:=h.out.sl;refine⟨ao,cap,by rw[←h.len];exact e,⟨by rw[←h.len];exact c.le,c.mx,c.nil,fun i hi=>?_⟩⟩;have a:i<vs.length:=by rw[h.len];exact hi
 obtain⟨b,off,l,hF,m,j,g⟩:=c.el i a;obtain⟨rfl,h1⟩:=g;obtain⟨io,ic,k,d⟩:=(h.inn i a hi).sl;refine⟨b,off,l,hF.elim (fun h=>h.elim) .inl,[vs[i].v],j,io,ic,by rw[k],d.mono Pq ?_⟩;intro b f
 exact f.elim (fun h=>h.elim) (fun f=>.inr ⟨_,Lc a,f⟩)
theorem OwnN.rd(h:OwnN w B eo ei v vs xs):Rd w (OwnN.blk v vs) v xs:=by
 obtain⟨ao,cap,rfl,a⟩:=h.sl;exact a.rd
theorem OwnN.old(h:OwnN w B eo ei v vs xs):Rd w (c7 w) v xs:=h.rd.mono Pq fun b a=>(h.lt b a).2
end
instance s9:IsT Tryz.prog 39 Raw:=IsT.of O8 NZ rfl
instance s_:IsZ Tryz.prog 39 (⟨.slice none 0 0⟩:Raw) 24:=IsZ.of (z:=.slice none 0 0) O8 (fun _ _=>⟨rfl,rfl⟩)
def Hf(g:List (List Int))(n j:Nat)(m:Nat):List Int:=
 ((List.range n).filter (fun k=>(g.getD k []).contains (m:Int))).map (fun k:Nat=>(k:Int))++(if((g.getD n []).take j).contains (m:Int)then [(n:Int)]else [])
def Hy(g:List (List Int))(n j:Nat):List (List Int):=(List.range g.length).map (Hf g n j)
def Ht(g:List (List Int)):List (List Int):=Hy g g.length 0
theorem HA(g:List (List Int))(n j:Nat):(Hy g n j).length=g.length:=by simp[Hy]
theorem Hz{g:List (List Int)}{n j i:Nat}(h:i<(Hy g n j).length):(Hy g n j)[i]=Hf g n j i:=by simp[Hy]
theorem Hh(g:List (List Int))(n j m:Nat):(Hf g n j m).length≤n+1:=by
 unfold Hf;have h1:=Lr (fun k=>(g.getD k []).contains (m:Int)) (List.range n);rw[Lv]at h1
 rw[Ll,Ls];split
 ·simp only[LA];omega
 ·simp only[Lt];omega
theorem Hn(g:List (List Int))(m:Nat):Hf g 0 0 m=[]:=by simp[Hf]
theorem HE(g:List (List Int)):Hy g 0 0=List.replicate g.length []:=by
 apply KD (by simp[Hy]);intro i h1 h2
 rw[Hz,Hn];simp
theorem Hj{g:List (List Int)}{n:Nat}(m:Nat):Hf g (n+1) 0 m=Hf g n (g.getD n []).length m:=by
 unfold Hf;rw[Mk,Mp,Mb,KF,LE];cases h:(g.getD n []).contains (m:Int)<;>simp at h<;>simp[h]
theorem HB{g:List (List Int)}{n:Nat}:Hy g (n+1) 0=Hy g n (g.getD n []).length:=by
 unfold Hy;congr 1;funext m;exact Hj m
theorem GK{l:List Int}{j:Nat}(h:j<l.length)(x:Int):(l.take (j+1)).contains x=((l.take j).contains x||x==l[j]):=by
 rw[Mo h,Km,Km,Ke];simp
theorem Hi{g:List (List Int)}{n j m:Nat}(b:j<(g.getD n []).length)(a:(g.getD n [])[j]=(m:Int))(hn:((g.getD n []).take j).contains (m:Int)=false):Hf g n (j+1) m=Hf g n j m++[(n:Int)]:=by
 unfold Hf;rw[GK b,hn,a];simp
theorem Hl{g:List (List Int)}{n j m:Nat}(a:j<(g.getD n []).length)(hn:((g.getD n []).take j).contains (m:Int)=true):Hf g n (j+1) m=Hf g n j m:=by
 unfold Hf;rw[GK a,hn];simp
theorem Hm{g:List (List Int)}{n j m:Nat}(b:j<(g.getD n []).length)(a:(g.getD n [])[j]≠(m:Int)):Hf g n (j+1) m=Hf g n j m:=by
 unfold Hf;rw[GK b];have:((m:Int)==(g.getD n [])[j])=false:=by rw[Oo];exact Nf a
 rw[this,JX]
theorem Hg{g:List (List Int)}{n j m:Nat}(h:0<(Hf g n j m).length):((Hf g n j m)[(Hf g n j m).length -1]=(n:Int))↔((g.getD n []).take j).contains (m:Int)=true:=by
 have c:(Hf g n j m)[(Hf g n j m).length -1]=(Hf g n j m).getLast (L1 h):=by rw[List.getLast_eq_getElem]
 rw[c];constructor
 ·intro e
  apply J1;intro b
  have a:((g.getD n []).take j).contains (m:Int)=false:=by simpa using b
  have:(n:Int)∈Hf g n j m:=by rw[←e];exact List.getLast_mem _
  unfold Hf at this
  rw[a]at this
  simp at this
  omega
 ·intro b
  have:Hf g n j m=((List.range n).filter (fun k=>(g.getD k []).contains (m:Int))).map (fun k:Nat=>(k:Int))++[(n:Int)]:=by unfold Hf;rw[OK b]
  simp only[this];simp
theorem Hk{g:List (List Int)}{n j m:Nat}(h:(Hf g n j m).length=0):((g.getD n []).take j).contains (m:Int)=false:=by
 cases a:((g.getD n []).take j).contains (m:Int)
 ·rfl
 ·unfold Hf at h;rw[OK a]at h;simp at h
theorem HD{g:List (List Int)}{n j:Nat}(b:j<(g.getD n []).length){m:Nat}(a:(g.getD n [])[j]=(m:Int))(c:m<g.length)(hn:((g.getD n []).take j).contains (m:Int)=false):
  (Hy g n j).set m (Hf g n j m++[(n:Int)])=Hy g n (j+1):=by
 apply KD (by simp[Hy]);intro i h1 h2
 rw[Lf];by_cases e:m=i
 ·subst e;rw[OK rfl,Hz,Hi b a hn]
 ·rw[OJ e,Hz,Hz,Hm b (by rw[a];omega)]
theorem HC{g:List (List Int)}{n j:Nat}(a:j<(g.getD n []).length){m:Nat}(b:(g.getD n [])[j]=(m:Int))(hn:((g.getD n []).take j).contains (m:Int)=true):Hy g n j=Hy g n (j+1):=by
 apply KD (by simp[Hy]);intro i h1 h2
 rw[Hz,Hz];by_cases e:m=i
 ·subst e;rw[Hl a hn]
 ·rw[Hm a (by rw[b];omega)]
theorem Hu(g:List (List Int)):(Ht g).length=g.length:=HA _ _ _
theorem Hv{g:List (List Int)}{m k:Nat}(b:m<g.length):(k:Int)∈(Ht g).getD m []↔k<g.length∧(m:Int)∈g.getD k []:=by
 have:(Ht g).getD m []=Hf g g.length 0 m:=by
  rw[KT,KY (by rw[Hu];exact b)];exact Hz _
 rw[this];unfold Hf;simp;constructor
 ·rintro⟨a,⟨h1,h2⟩,h3⟩
  have:a=k:=by omega
  subst this;exact⟨h1,h2⟩
 ·rintro⟨h1,h2⟩
  exact⟨k,⟨h1,h2⟩,rfl⟩
theorem Hw(g:List (List Int)):okG (Ht g):=by
 intro l c x a
 obtain⟨m,b,rfl⟩:=LT.1 c;rw[Hu]at b⊢
 have e:(Ht g)[m]'(by rw[Hu];exact b)=Hf g g.length 0 m:=Hz _;rw[e]at a
 unfold Hf at a
 simp at a
 obtain⟨k,⟨h1,_⟩,rfl⟩:=a;omega
def oP(n:Int)(s:List Int×List Int)(k:Int):List Int×List Int:=if s.1.getD k.toNat 0<0 then(s.1.set k.toNat (s.1.getD n.toNat 0+1),s.2++[k])else s
def oL(back:List (List Int)):Nat→List Int→List Int→List Int
 |0,d,_=>d
 |_+1,d,[]=>d
 |f+1,d,n::r=>oL back f ((back.getD n.toNat []).foldl (oP n) (d,r)).1 ((back.getD n.toNat []).foldl (oP n) (d,r)).2
def oK(to:List Bool):List Int:=to.map fun b=>if b then 0 else -1
def oO(to:List Bool)(n:Nat):List Int:=((List.range n).filter (fun k=>to.getD k false)).map fun k:Nat=>(k:Int)
def oN(g:List (List Int))(to:List Bool):List Int:=oL (Ht g) (2*g.length+2) (oK to) (oO to to.length)
def zg(d:List Int):Nat:=d.countP fun x=>decide (x<0)
theorem zh{d:List Int}{k:Nat}{v:Int}(a:k<d.length)(h:d[k]<0)(c:0≤v):zg (d.set k v)+1=zg d:=by
 unfold zg;have e:d=d.take k++d[k]::d.drop (k+1):=by simp
 have b:d.set k v=d.take k++v::d.drop (k+1):=by rw[Me,OK a]
 rw[b]
 conv=>rhs;rw[e]
 simp only[Ko,Kp,h,decide_true,OL];have:decide (v<0)=false:=by simp;omega
 rw[this];simp;omega
structure FInv(g:List (List Int))(to:List Bool)(d now:List Int)(cur:Option (Nat×Nat)):Prop where
 len:d.length=g.length
 tol:to.length=g.length
 ge:∀n (h:n<d.length),-1≤d[n]
 le:∀n (h:n<d.length),d[n]+zg d+1≤g.length
 zero:∀n (h:n<d.length),d[n]=0↔to.getD n false=true
 pos:∀n (h:n<d.length),0<d[n]→∃m,∃hm:m<d.length,(m:Int)∈g.getD n []∧d[m]=d[n] -1
 inN:∀x∈now,0≤x∧x<g.length
 nowd:∀x∈now,0≤d.getD x.toNat (-1)
 done:∀m (h:m<d.length),0≤d[m]→(m:Int)∈now∨(∃j,cur=some (m,j))∨∀k (hk:k<d.length),(m:Int)∈g.getD k []→0≤d[k]
 curd:∀m j,cur=some (m,j)→∃hm:m<d.length,0≤d[m]∧∀x∈((Ht g).getD m []).take j,0≤d.getD x.toNat (-1)
theorem qS{d:List Int}{n:Nat}{x:Int}(h:n<d.length):d.getD n x=d[n]:=by rw[KT,KY h];rfl
section
variable {g:List (List Int)}{to:List Bool}(h:FInv g to (oN g to) [] none)(hg:okG g)
include h hg
end
theorem vQ(w0:World){ao:Option Addr}{cap:Nat}{xs:List Int}(x:Int)(d:Sl w0 (c7 w0) ao cap xs):
  Rt Tryz.prog 243 [.slice ao xs.length cap,Py x].toArray w0 fun v w'=>v=Py (idxOf (fun y=>x==y) xs)∧Ext w0 w':=by
 have g:=d.len63;refine dE Tryz.func243 Tryz.ntmps243 rfl rfl ?_;refine Q3 ?_;refine CW.loop (S:=Nat) (fun k=>[(0,.slice ao xs.length cap),(1,Py x),(7,Py xs.length),(8,Py k)])
  (fun k w=>k≤xs.length∧Ext w0 w∧∀j (h:j<xs.length),j<k→(x==xs[j])=false) (fun k=>xs.length -k) 0 O6 ⟨by omega,Ext.refl _,by omega⟩ ?_
 rintro k w ⟨i,a,hn⟩
 refine Qt ?_;apply CW.cond rfl<;>intro h
 ·simp at h
  refine PT ?_;refine eB rfl rfl rfl rfl rfl (d.at a) h rfl Pg (fun q=>?_);refine PN ?_;refine CW.cond rfl (fun c=>?_) (fun c=>?_)
  ·refine PA ?_
   refine be rfl rfl ⟨?_,a⟩;rw[vq h hn c]
  ·refine PI ?_
   refine EX.back (k+1) O6 ⟨h,a,?_⟩ O7;intro j b f
   by_cases e:j=k
   ·subst e;exact c
   ·exact hn j b O7
 ·simp at h
  refine P_ ?_;refine be rfl rfl ⟨?_,a⟩;rw[vw (fun j b=>hn j b O7)]
theorem kH(w0:World){ao:Option Addr}{cap:Nat}{xs:List Int}(x:Int)(a:Sl w0 (c7 w0) ao cap xs):
  Rt Tryz.prog 192 [.slice ao xs.length cap,Py x].toArray w0 fun v w'=>v=.bool (xs.contains x)∧Ext w0 w':=by
 refine dE Tryz.func192 Tryz.ntmps192 rfl rfl ?_;refine Qt ?_;refine WL.call rfl rfl rfl (vQ w0 x a) ?_;rintro v w' ⟨rfl,b⟩
 refine PK ?_;refine be rfl rfl ⟨?_,b⟩;rw[←List.any_beq,←vl]
theorem vM(w0:World){ao:Option Addr}{cap:Nat}{xs:List (List Int)}{fv:Value}(p:List Int→Bool)(f:Sl w0 (c7 w0) ao cap xs)
  (hf:∀w,Ext w0 w→∀i (h:i<xs.length) u,Rd w (c7 w0) u xs[i]→FnV Tryz.prog fv [u] w fun v w'=>v=.bool (p xs[i])∧Ext w w'):
  Rt Tryz.prog 189 [.slice ao xs.length cap,fv].toArray w0 fun v w'=>v=Py (idxOf p xs)∧Ext w0 w':=by
 have m:=f.len63;refine dE Tryz.func189 Tryz.ntmps189 rfl rfl ?_;refine Q3 ?_;refine CW.loop (S:=Nat) (fun k=>[(0,.slice ao xs.length cap),(1,fv),(7,Py xs.length),(8,Py k)])
  (fun k w=>k≤xs.length∧Ext w0 w∧∀j (h:j<xs.length),j<k→p xs[j]=false) (fun k=>xs.length -k) 0 O6 ⟨by omega,Ext.refl _,by omega⟩ ?_
 rintro k w ⟨n,b,hn⟩
 refine Qt ?_;apply CW.cond rfl<;>intro h
 ·simp at h
  refine PT ?_;refine eC rfl rfl rfl rfl rfl (f.at b) h Pg (fun u q g=>?_);refine d7 rfl rfl rfl rfl (hf w b k h u g) ?_;rintro v w' ⟨rfl,a⟩
  refine PU ?_;refine CW.cond rfl (fun d=>?_) (fun d=>?_)
  ·refine PA ?_
   refine be rfl rfl ⟨?_,b.trans a⟩;rw[vq h hn d]
  ·refine PI ?_
   refine EX.back (k+1) O6 ⟨h,b.trans a,?_⟩ O7;intro j c l
   by_cases e:j=k
   ·subst e;exact d
   ·exact hn j c O7
 ·simp at h
  refine P_ ?_;refine be rfl rfl ⟨?_,b⟩;rw[vw (fun j c=>hn j c O7)]
theorem kE(w0:World){ao:Option Addr}{cap:Nat}{xs:List (List Int)}{fv:Value}(p:List Int→Bool)(a:Sl w0 (c7 w0) ao cap xs)
  (hf:∀w,Ext w0 w→∀i (h:i<xs.length) u,Rd w (c7 w0) u xs[i]→FnV Tryz.prog fv [u] w fun v w'=>v=.bool (p xs[i])∧Ext w w'):
  Rt Tryz.prog 110 [.slice ao xs.length cap,fv].toArray w0 fun v w'=>v=.bool (xs.any p)∧Ext w0 w':=by
 refine dE Tryz.func110 Tryz.ntmps110 rfl rfl ?_;refine Qt ?_;refine WL.call rfl rfl rfl (vM w0 p a hf) ?_;rintro v w' ⟨rfl,b⟩
 refine PK ?_;refine be rfl rfl ⟨?_,b⟩;rw[←vl]
theorem HF(w0:World){F:Nat→Prop}{ao:Option Addr}{cap:Nat}{g:List (List Int)}(hs:Sl w0 F ao cap g)(hF:∀b,F b→b<w0.heap.size)(hg:okG g)(hl:g.length≤1099511627776):
  Rt Tryz.prog 69 [.slice ao g.length cap].toArray w0 fun v w'=>∃vs,OwnN w' w0.heap.size 39 3 v vs (Ht g)∧Ext w0 w':=by
 refine dD Tryz.func69 Tryz.ntmps69 rfl rfl ?_;refine Q3 ?_;refine eW (α:=Raw) rfl rfl rfl rfl O7 Pb (fun W ho1 T=>?_);have V:Ext w0 W:=(JI _ _).grown T Pu Pn;generalize hsv:Value.slice (some ⟨w0.heap.size,0,none⟩) g.length g.length=sv at*
 have M:OwnN W w0.heap.size 39 3 sv _ (List.replicate g.length ([]:List Int)):=OwnN.made ho1;rw[←HE]at M
 refine Q3 ?_;refine CW.loop (S:=Nat×List Raw) (fun s=>[(3,sv),(12,.slice ao g.length cap),(13,Py g.length),(14,Py s.1)])
  (fun s w=>s.1≤g.length∧OwnN w w0.heap.size 39 3 sv s.2 (Hy g s.1 0)∧Ext w0 w) (fun s=>g.length -s.1) (0,_) O6 ⟨by omega,M,V⟩ ?_
 rintro⟨n,vs⟩ w ⟨hn,d,N⟩
 dsimp only at hn d
 refine Qt ?_;apply CW.cond rfl<;>intro l
 ·simp at l
  refine PX ?_;have Q:Sl w F ao cap g:=hs.mono (fun b C=>N.block b (hF b C)) fun _ h=>h
  refine eC rfl rfl rfl rfl rfl Q l Pg (fun u q z=>?_);obtain⟨lo,P,rfl,t⟩:=z.sl;have R:=t.len63;dsimp only at R t
  have erow:g.getD n []=g[n]:=by rw[KT,KY l];rfl
  refine Q3 ?_;refine CW.loop (S:=Nat×List Raw) (fun s=>[(3,sv),(4,Py n),(12,.slice ao g.length cap),(13,Py g.length),(14,Py n),(19,.slice lo g[n].length P),(20,Py g[n].length),(21,Py s.1)])
   (fun s w=>s.1≤g[n].length∧OwnN w w0.heap.size 39 3 sv s.2 (Hy g n s.1)∧Ext w0 w) (fun s=>g[n].length -s.1) (0,vs) O6 ⟨by omega,d,N⟩ ?_
  rintro⟨j,vs⟩ Y ⟨hj,d,i⟩
  dsimp only at hj d
  have H:=d.len;rw[HA]at H
  refine Qt ?_;refine CW.cond rfl (fun h1=>?_) (fun h1=>?_)<;>simp at h1
  ·have D:Sl Y F lo P g[n]:=t.mono (fun b C=>(i.block b (hF b C)).trans (N.block b (hF b C)).symm) fun _ h=>h
   have hk:=hg _ (Lc l) _ (Lc h1);obtain⟨k,ek⟩:=J7 hk.1;have I:k<g.length:=by omega
   have f:k<vs.length:=by omega
   have J:j<(g.getD n []).length:=by rw[erow];exact h1
   have ek':(g.getD n [])[j]=(k:Int):=by simp only[erow];exact ek
   refine Rb ?_;refine eB rfl rfl rfl rfl rfl D h1 ek Pg (fun q=>?_);refine Qt ?_;refine eE rfl rfl rfl rfl rfl d.out f Pg (fun u q z=>?_);obtain⟨rfl,_⟩:=z.raw;have o:=d.inn k f (by rw[HA];exact I);rw[Hz]at o
   have Z:=Hh g n j k;obtain⟨io,ic,hiv⟩:=o.val;refine eO rfl rfl rfl o ?_;refine Ri ?_;apply WL.nil;apply bz;generalize A:Hf g n j k=row at*
   refine az [(3,sv),(4,Py n),(7,Py k),(12,.slice ao g.length cap),(13,Py g.length),(14,Py n),(19,.slice lo g[n].length P),(20,Py g[n].length),(21,Py j),(43,.bool (!((g.getD n []).take j).contains (k:Int)))] ?_ ?_
   ·refine PY ?_
    (refine eV rfl rfl (fun h=>?_) (fun h=>?_))<;>simp at h
    ·have y:((g.getD n []).take j).contains (k:Int)=false:=Hk (by rw[A];simp[h])
     rw[y];refine Rj ?_;exact WL.nil (aS O6)
    ·have E:0<row.length:=by cases row with|nil=>exact absurd rfl h|cons x r=>simp
     refine Ri ?_;refine eE rfl rfl rfl rfl rfl d.out f Pg (fun u q z=>?_);obtain⟨rfl,_⟩:=z.raw;refine Rv ?_;refine eD rfl rfl rfl rfl rfl o O7 O7 Pg (fun u q z=>?_);obtain rfl:=z.int;have c:=Hg (g:=g) (n:=n) (j:=j) (m:=k) (by rw[A];exact E);simp only[A]at c
     have ei:((row.length:Int) -1).toNat=row.length -1:=by omega
     have e:(row[((row.length:Int) -1).toNat]'O7 != (n:Int))=(!((g.getD n []).take j).contains (k:Int)):=by
      simp only[ei];cases y:((g.getD n []).take j).contains (k:Int)
      ·rw[y]at c;simpa[Ou]using c
      ·rw[y]at c;simpa[Ou]using c
     rw[←e];refine Ri ?_;exact WL.nil (aS O6)
   ·apply CW.cond rfl<;>intro y
    ·have y:((g.getD n []).take j).contains (k:Int)=false:=by simpa using y
     refine PY ?_;refine eE rfl rfl rfl rfl rfl d.out f Pg (fun u q z=>?_);obtain⟨rfl,_⟩:=z.raw;refine Ri ?_;refine dW (F:=cZ) (yv:=(n:Int)) rfl rfl Pg rfl rfl Pg o Pt i.size Pj O9 Pb O7 (fun O w3 p ho3 B hnb=>?_);skip;have G:=d.mid f B;refine ft (u:=O) (yv:=⟨O⟩) rfl rfl rfl rfl G f Pg Pg (Rd.mkRaw _ _ _ ?_) (fun X q ho4 K=>?_)
     ·obtain⟨a,b,rfl⟩:=ho3.val;rfl
     have L:=d.set f ho3 B hnb ho4 K;rw[←A,HD J ek' I y]at L
     have U:Ext w0 X:=(i.grown B i.size (fun b C=>(o.lt b C).1)).grown K (MN i.size B.size) (fun b C=>(d.out.lt b C).1);refine Qc ?_;exact EX.back (j+1,vs.set k ⟨O⟩) O6 ⟨h1,L,U⟩ (by simp only;omega)
    ·have y:((g.getD n []).take j).contains (k:Int)=true:=by simpa using y
     refine PI ?_;rw[HC J ek' y]at d
     exact EX.back (j+1,vs) O6 ⟨h1,d,i⟩ (by simp only;omega)
  ·have:j=g[n].length:=by omega
   subst this;rw[←erow,←HB]at d
   refine Qe ?_;exact EX.back (n+1,vs) O6 ⟨l,d,i⟩ (by simp only;omega)
 ·simp at l
  have:n=g.length:=by omega
  subst this;refine P_ ?_;exact be rfl rfl ⟨vs,d,N⟩
def Hr(g:List (List Int)):List (List Int):=if jD g=0 then Ht g else []
theorem dT(w0:World){ao:Option Addr}{cap:Nat}{g:List (List Int)}(d:Sl w0 (c7 w0) ao cap g):
  Rt Tryz.prog 30 [.slice ao g.length cap].toArray w0 fun r w'=>∃v vs,r=.tuple ⟨[v,Py (jD g)]⟩∧OwnN w' w0.heap.size 39 3 v vs (Hr g)∧Ext w0 w':=by
 refine dD Tryz.func30 Tryz.ntmps30 rfl rfl ?_;refine Qt ?_;refine WL.call rfl rfl rfl (jY w0 d) ?_;rintro v e ⟨rfl,a⟩
 unfold Hr;refine Qt ?_;apply CW.cond rfl<;>intro h
 ·have b:jD g≠0:=by simpa using h
  refine QO ?_;exact bf rfl rfl rfl ⟨.slice none 0 0,[],rfl,by rw[OJ b];exact OwnN.nil,a⟩
 ·have b:jD g=0:=by simpa using h
  obtain⟨i,f⟩:=jF b;refine Qm ?_;refine WL.call rfl rfl rfl (HF e (d.up a) Pl i O7) ?_;rintro v k ⟨vs,j,c⟩
  refine PK ?_;exact bf rfl rfl rfl ⟨v,vs,by rw[b],by rw[OK b];exact j.low a.size,a.trans c⟩
structure Chg(S:Nat→Prop)(w w':World):Prop where
 os:w'.os=w.os
 tape:w'.tape=w.tape
 output:w'.output=w.output
 size:w.heap.size≤w'.heap.size
 block:∀k,k<w.heap.size→¬S k→w'.heap[k]?=w.heap[k]?
theorem Chg.refl(S:Nat→Prop)(w:World):Chg S w w:=⟨rfl,rfl,rfl,MM _,fun _ _ _=>rfl⟩
theorem Chg.grown{S:Nat→Prop}{w w' w'':World}{row:Option Nat}(h:Chg S w w')(a:w'.grownBy w'' row)(d:∀g,row=some g→S g):Chg S w w'':=
 ⟨a.os.trans h.os,a.tape.trans h.tape,a.output.trans h.output,MN h.size a.size,fun k c b=>(a.block k (MQ c h.size) (fun e=>b (d k e.symm))).trans (h.block k c b)⟩
theorem Chg.ext{S:Nat→Prop}{a w w':World}(c:Ext a w)(h:Chg S w w')(hS:∀b,S b→a.heap.size≤b):Ext a w':=
 ⟨h.os.trans c.os,h.tape.trans c.tape,h.output.trans c.output,MN c.size h.size,fun k d=>(h.block k (MQ d c.size) (fun e=>by have:=hS k e;omega)).trans (c.block k d)⟩
theorem Own.chg{α:Type}[Rep α]{S:Nat→Prop}{w w':World}{B:Nat}{e:TypeId}{v:Value}{xs:List α}(h:Own w B e cZ v xs)(c:Chg S w w')(hn:∀b,v.ownBlock=some b→¬S b):Own w' B e cZ v xs:=
 h.keep (fun g a=>c.block g (h.lt g a).2.1 (hn g a)) fun _ h=>h.elim
theorem Rch.trans{g:bU}{a b c:Nat}(h1:Rch g [(a:Int)] b)(h2:Rch g [(b:Int)] c):Rch g [(a:Int)] c:=by
 induction h2 with
 |@base x d=>
  have:x=(b:Int):=by simpa using d
  subst this;simpa using h1
 |step _ d e=>exact .step e d
theorem Rch.self{g:bU}(a:Nat):Rch g [(a:Int)] a:=by
 have:=Rch.base (g:=g) (from':=[(a:Int)]) (x:=(a:Int)) O_;simpa using this
theorem Rch.edge{g:bU}{a b:Nat}(h:(b:Int)∈g.getD a []):Rch g [(a:Int)] b:=by
 have:=Rch.step (Rch.self (g:=g) a) h;simpa using this
structure Tf where
 v:Nat
 i:Nat
 seg:List Nat
structure Ts where
 num:List Int
 low:List Int
 part:List Int
 count:Int
 got:Int
def Ts.nm(s:Ts)(n:Nat):Int:=s.num.getD n 0
def Ts.lw(s:Ts)(n:Nat):Int:=s.low.getD n 0
def Ts.pt(s:Ts)(n:Nat):Int:=s.part.getD n (-1)
def stk:List Tf→List Nat
 |[]=>[]
 |f::r=>stk r++f.v::f.seg
def DA(g:bU)(n:Nat):List Int:=g.getD n []
def seen(g:bU)(f:Tf)(u:Nat)(w:Int):Prop:=(u=f.v∧w∈(DA g u).take f.i)∨(u∈f.seg∧w∈DA g u)
structure FrOK(g:bU)(s:Ts)(S:List Nat)(f:Tf):Prop where
 i:f.i≤(DA g f.v).length
 vis:∀u w,seen g f u w→0<s.nm w.toNat
 out:∀u∈f.seg,Rch g [(f.v:Int)] u
 back:∀u∈f.seg,Rch g [(u:Int)] f.v
 le:s.lw f.v≤s.nm f.v
 wit:∃x∈S,s.nm x=s.lw f.v∧Rch g [(f.v:Int)] x
 all:∀u w,seen g f u w→w.toNat∈S→s.lw f.v≤s.nm w.toNat
def jf(g:bU):List Tf→Prop
 |[]=>True
 |[_]=>True
 |f::h::r=>Rch g [(h.v:Int)] f.v∧jf g (h::r)
structure TInv(g:bU)(s:Ts)(fs:List Tf):Prop where
 ln:s.num.length=g.length
 ll:s.low.length=g.length
 lp:s.part.length=g.length
 inG:∀n∈stk fs,n<g.length
 vis:∀n,n<g.length→(0<s.nm n↔n∈stk fs∨0≤s.pt n)
 non:∀n,n<g.length→0≤s.nm n
 off:∀n∈stk fs,s.pt n<0
 asc:(stk fs).Pairwise fun a b=>s.nm a<s.nm b
 top:∀n,n<g.length→s.nm n≤s.count
 c0:0≤s.count
 frs:∀f∈fs,FrOK g s (stk fs) f
 chn:jf g fs
 clo:∀n,n<g.length→0≤s.pt n→∀w∈DA g n,0≤s.pt w.toNat
 ptl:∀n,n<g.length→s.pt n<s.got
 g0:0≤s.got
 cn:s.count+(s.num.countP fun x=>decide (x=0):Nat)=g.length
 gn:s.got+(zg s.part:Nat)≤g.length
 scc:∀a b,a<g.length→b<g.length→0≤s.pt a→0≤s.pt b→(s.pt a=s.pt b↔Rch g [(a:Int)] b∧Rch g [(b:Int)] a)
theorem qW{l:List Int}{n k:Nat}{x d:Int}(h:n<l.length):(l.set n x).getD k d=if n=k then x else l.getD k d:=by
 rw[KT,KT,K4];split
 ·rename_i e;simp[h]
 ·rfl
def Gk(n:Nat)(s:Ts):Ts:={s with num:=s.num.set n (s.count+1),low:=s.low.set n (s.count+1),count:=s.count+1}
def Gn(n:Nat)(x:Int)(s:Ts):Ts:={s with low:=s.low.set n x}
def EU(p:List Int)(D:List Nat)(x:Int):List Int:=D.foldr (fun n p=>p.set n x) p
def Gl(D:List Nat)(s:Ts):Ts:={s with part:=EU s.part D s.got,got:=s.got+1}
theorem EW(p:List Int)(x:Int):∀D,(EU p D x).length=p.length
 |[]=>rfl
 |n::D=>by simp only[EU,KP,Lz];exact EW p x D
theorem EV{p:List Int}{x:Int}:∀{D:List Nat},(∀n∈D,n<p.length)→∀k,(EU p D x).getD k (-1)=if k∈D then x else p.getD k (-1)
 |[],_,k=>by simp[EU]
 |n::D,h,k=>by
  have hn:=h n O_;have a:=EV (x:=x) (D:=D) (fun m b=>h m (by simp[b])) k;simp only[EU,KP]at a⊢
  rw[qW (by have:=EW p x D;simp only[EU]at this;rw[this];exact hn),a];by_cases e:n=k
  ·simp[e]
  ·rw[OJ e]
   simp only[LN,Nf e,false_or]
section
variable {g:bU}{s:Ts}{fs:List Tf}{f h:Tf}{r:List Tf}
theorem yQ{n:Nat}:n∈stk (f::r)↔n∈stk r∨n=f.v∨n∈f.seg:=by simp[stk]
theorem qe:∀{fs:List Tf} {f:Tf},f∈fs→f.v∈stk fs
 |x::r,f,hf=>by
  rw[yQ];rcases LN.1 hf with rfl|hf
  ·exact .inr (.inl rfl)
  ·exact .inl (qe hf)
theorem TInv.nodup(h:TInv g s fs):(stk fs).Nodup:=h.asc.imp fun a e=>by rw[e]at a;exact absurd a (J9 _)
theorem TInv.below(h:TInv g s (f::r)):∀x∈stk r,s.nm x<s.nm f.v:=by
 intro x a
 have:=h.asc;simp only[stk]at this
 rw[L7]at this
 exact this.2.2 x a f.v O_
theorem TInv.above(h:TInv g s (f::r)):∀x,x=f.v∨x∈f.seg→s.nm f.v≤s.nm x:=by
 intro x a
 have:=h.asc;simp only[stk]at this
 rw[L7,L8]at this
 rcases a with rfl|a
 ·exact J8 _
 ·exact Int.le_of_lt (this.2.1.1 x a)
theorem TInv.vne(h:TInv g s (f::r)){k:Tf}(a:k∈r):k.v≠f.v:=fun e=>by
 have:=h.below k.v (qe a);rw[e]at this
 exact absurd this (J9 _)
theorem TInv.fin(h:TInv g s (f::r)):f.v<g.length:=h.inG f.v (qe O_)
theorem jg(h:jf g (f::r)):jf g r:=by
 cases r with
 |nil=>trivial
 |cons k r=>exact h.2
theorem Il:∀{r:List Tf} {f:Tf},(∀k∈f::r,∀u∈k.seg,Rch g [(u:Int)] k.v)→jf g (f::r)→∀x∈stk (f::r),Rch g [(x:Int)] f.v:=by
 intro r
 induction r with
 |nil=>
  intro f b c x a
  rw[yQ]at a
  rcases a with a|rfl|a
  ·simp[stk]at a
  ·exact Rch.self _
  ·exact b f O_ x a
 |cons k r d=>
  intro f b c x a
  rw[yQ]at a
  rcases a with a|rfl|a
  ·have h1:=d (f:=k) (fun f hf=>b f (LO _ hf)) c.2 x a
   exact h1.trans c.1
  ·exact Rch.self _
  ·exact b f O_ x a
end
theorem countP_set{p:Int→Bool}{d:List Int}{k:Nat}{v:Int}(b:k<d.length)(h:p d[k]=true)(a:p v=false):(d.set k v).countP p+1=d.countP p:=by
 have e:d=d.take k++d[k]::d.drop (k+1):=by simp
 have c:d.set k v=d.take k++v::d.drop (k+1):=by rw[Me,OK b]
 rw[c]
 conv=>rhs;rw[e]
 simp only[Ko,Kp,h,a,OL];simp;omega
theorem EY{p:List Int}{x:Int}(d:0≤x):∀{D:List Nat},D.Nodup→(∀n∈D,n<p.length)→(∀n∈D,p.getD n (-1)<0)→zg (EU p D x)+D.length=zg p
 |[],_,_,_=>rfl
 |n::D,hd,c,hn=>by
  rw[L4]at hd
  have i:=EY d (D:=D) hd.2 (fun m b=>c m (by simp[b])) (fun m b=>hn m (by simp[b]));have a:n<(EU p D x).length:=by rw[EW];exact c n O_
  have e:=EV (x:=x) (D:=D) (fun m b=>c m (by simp[b])) n;rw[OJ hd.1,qS a]at e
  have:=zh a (v:=x) (by rw[e];exact hn n O_) d;show zg ((EU p D x).set n x)+(D.length+1)=_;omega
section
variable {g:bU}{s:Ts}{fs:List Tf}{f h:Tf}{r:List Tf}
theorem zy{n k:Nat}(hn:n<s.num.length):(Gk n s).nm k=if n=k then s.count+1 else s.nm k:=qW hn
theorem yp{n k:Nat}(hn:n<s.low.length):(Gk n s).lw k=if n=k then s.count+1 else s.lw k:=qW hn
theorem yq{n k:Nat}{x:Int}(hn:n<s.low.length):(Gn n x s).lw k=if n=k then x else s.lw k:=qW hn
theorem TInv.unvis(h:TInv g s fs){n:Nat}(hn:n<g.length)(b:s.nm n=0):n∉stk fs∧s.pt n<0:=by
 have:=h.vis n hn;refine⟨fun a=>?_,?_⟩
 ·have:=this.2 (.inl a);omega
 ·apply Int.not_le.1
  intro a
  have:=this.2 (.inr a);omega
theorem TInv.begin(h:TInv g s fs)(F:okG g){n:Nat}(hn:n<g.length)(E:s.nm n=0){gs:List Tf}(y:stk gs=stk fs)(B:∀k∈gs,FrOK g (Gk n s) (stk fs++[n]) k)(C:jf g (⟨n,0,[]⟩::gs)):
  TInv g (Gk n s) (⟨n,0,[]⟩::gs):=by
 obtain⟨q,o⟩:=h.unvis hn E;have c:n<s.num.length:=by rw[h.ln];exact hn
 have j:n<s.low.length:=by rw[h.ll];exact hn
 have hS:stk (⟨n,0,[]⟩::gs)=stk fs++[n]:=by simp[stk,y]
 have G:=h.c0;have i:∀x∈stk fs,n≠x:=fun x d e=>q (e▸d)
 refine⟨by simp[Gk,h.ln],by simp[Gk,h.ll],h.lp,?_,?_,?_,?_,?_,?_,by simp only[Gk];omega,?_,C,h.clo,h.ptl,h.g0,?_,h.gn,h.scc⟩
 ·intro x d
  rw[hS,LK,L0]at d
  rcases d with d|rfl
  ·exact h.inG x d
  ·exact hn
 ·intro x d
  rw[hS,zy c,LK,L0];by_cases e:n=x
  ·subst e
   rw[OK rfl];exact⟨fun _=>.inl (.inr rfl),fun _=>by omega⟩
  ·rw[OJ e,h.vis x d]
   constructor
   ·rintro(h1|h1)
    ·exact .inl (.inl h1)
    ·exact .inr h1
   ·rintro((h1|h1)|h1)
    ·exact .inl h1
    ·exact absurd h1.symm e
    ·exact .inr h1
 ·intro x d
  rw[zy c];split
  ·omega
  ·exact h.non x d
 ·intro x d
  rw[hS,LK,L0]at d
  rcases d with d|rfl
  ·exact h.off x d
  ·exact o
 ·rw[hS,L7]
  refine⟨?_,by simp,?_⟩
  ·refine h.asc.imp_of_mem fun {a b} m l D=>?_
   rw[zy c,zy c,OJ (i a m),OJ (i b l)];exact D
  ·intro a m b l
   rw[L0]at l
   subst l;rw[zy c,zy c,OJ (i a m),OK rfl];have:=h.top a (h.inG a m);omega
 ·intro x d
  rw[zy c];show _≤s.count+1;split
  ·omega
  ·have:=h.top x d;omega
 ·intro k A
  rw[hS];rcases LN.1 A with rfl|A
  ·refine⟨by simp,fun u w z=>?_,fun u t=>absurd t O_,fun u t=>absurd t O_,?_,⟨n,by simp,?_,Rch.self _⟩,fun u w z=>?_⟩
   ·rcases z with⟨_,h1⟩|⟨h1,_⟩
    ·simp at h1
    ·simp at h1
   ·dsimp only;rw[zy c,yp j,OK rfl,OK rfl];omega
   ·dsimp only;rw[zy c,yp j,OK rfl,OK rfl]
   ·rcases z with⟨_,h1⟩|⟨h1,_⟩
    ·simp at h1
    ·simp at h1
  ·exact B k A
 ·have h1:=countP_set (p:=fun x=>decide (x=0)) c (v:=s.count+1) (by have:s.num[n]=s.nm n:=(qS c).symm;rw[this];simp[E]) Pc
  have h2:=h.cn;simp only[Gk];omega
theorem FrOK.begin(h:TInv g s fs){k:Tf}(o:k∈fs){n:Nat}(hn:n<g.length)(q:s.nm n=0):FrOK g (Gk n s) (stk fs++[n]) k:=by
 obtain⟨j,p⟩:=h.unvis hn q;have a:n<s.num.length:=by rw[h.ln];exact hn
 have d:n<s.low.length:=by rw[h.ll];exact hn
 have t:=h.c0;have hF:=h.frs k o;have b:n≠k.v:=fun e=>j (e▸qe o)
 have l:∀u w,seen g k u w→w.toNat≠n:=fun u w c e=>by have:=hF.vis u w c;rw[e]at this;omega
 refine⟨hF.i,fun u w c=>?_,hF.out,hF.back,?_,?_,fun u w c i=>?_⟩
 ·rw[zy a,OJ (Nf (l u w c))];exact hF.vis u w c
 ·rw[zy a,yp d,OJ b,OJ b];exact hF.le
 ·obtain⟨x,h1,h2,h3⟩:=hF.wit
  refine⟨x,LL _ h1,?_,h3⟩;have m:n≠x:=fun e=>j (e▸h1)
  rw[zy a,yp d,OJ m,OJ b];exact h2
 ·rw[LK,L0]at i
  rcases i with i|i
  ·rw[zy a,yp d,OJ b,OJ (Nf (l u w c))];exact hF.all u w c i
  ·exact absurd i (l u w c)
theorem TInv.root(h:TInv g s [])(b:okG g){n:Nat}(hn:n<g.length)(c:s.nm n=0):TInv g (Gk n s) [⟨n,0,[]⟩]:=
 h.begin b hn c (gs:=[]) rfl (fun k a=>absurd a O_) trivial
theorem FrOK.more(hF:FrOK g s (stk fs) f)(hi:f.i<(DA g f.v).length){w:Nat}(d:(DA g f.v)[f.i]=(w:Int))(e:0<s.nm w)(i:w∈stk fs→s.lw f.v≤s.nm w):FrOK g s (stk fs) ⟨f.v,f.i+1,f.seg⟩:=by
 have c:∀u x,seen g ⟨f.v,f.i+1,f.seg⟩ u x→seen g f u x∨x=(w:Int):=by
  rintro u x (⟨h1,h2⟩|h1)
  ·dsimp only at h1 h2
   subst h1;rw[Mo hi,LK,L0,d]at h2
   rcases h2 with h2|h2
   ·exact .inl (.inl ⟨rfl,h2⟩)
   ·exact .inr h2
  ·exact .inl (.inr h1)
 refine⟨hi,fun u x b=>?_,hF.out,hF.back,hF.le,hF.wit,fun u x b a=>?_⟩
 ·rcases c u x b with h1|rfl
  ·exact hF.vis u x h1
  ·exact e
 ·rcases c u x b with h1|rfl
  ·exact hF.all u x h1 a
  ·exact i a
theorem TInv.moved(h:TInv g s (f::r))(hF:FrOK g s (stk (f::r)) ⟨f.v,f.i+1,f.seg⟩):TInv g s (⟨f.v,f.i+1,f.seg⟩::r):=by
 have hS:stk (⟨f.v,f.i+1,f.seg⟩::r)=stk (f::r):=rfl;refine⟨h.ln,h.ll,h.lp,h.inG,h.vis,h.non,h.off,h.asc,h.top,h.c0,?_,?_,h.clo,h.ptl,h.g0,h.cn,h.gn,h.scc⟩
 ·intro k a
  rw[hS];rcases LN.1 a with rfl|a
  ·exact hF
  ·exact h.frs k (by simp[a])
 ·have:=h.chn
  cases r with
  |nil=>trivial
  |cons k r=>exact this
theorem TInv.shut(h:TInv g s (f::r))(hi:f.i<(DA g f.v).length){w:Nat}(a:w<g.length)(c:(DA g f.v)[f.i]=(w:Int))(d:0≤s.pt w):TInv g s (⟨f.v,f.i+1,f.seg⟩::r):=
 h.moved ((h.frs f O_).more hi c ((h.vis w a).2 (.inr d)) (fun b=>by have:=h.off w b;omega))
theorem TInv.tree(h:TInv g s (f::r))(p:okG g)(hi:f.i<(DA g f.v).length){w:Nat}(a:w<g.length)(n:(DA g f.v)[f.i]=(w:Int))(d:s.nm w=0):TInv g (Gk w s) (⟨w,0,[]⟩::⟨f.v,f.i+1,f.seg⟩::r):=by
 obtain⟨i,o⟩:=h.unvis a d;have c:w<s.num.length:=by rw[h.ln];exact a
 have l:w<s.low.length:=by rw[h.ll];exact a
 have j:w≠f.v:=fun e=>i (e▸qe O_)
 have q:=h.c0;have b:(w:Int)∈g.getD f.v []:=by rw[←n];exact Lc _
 refine h.begin p a d (gs:=⟨f.v,f.i+1,f.seg⟩::r) rfl ?_ ?_
 ·intro k m
  rcases LN.1 m with rfl|m
  ·have hF:=FrOK.begin h (k:=f) O_ a d
   have e:stk (⟨w,0,[]⟩::f::r)=stk (f::r)++[w]:=by simp[stk]
   rw[←e]at hF⊢
   refine hF.more hi n ?_ (fun _=>?_)
   ·rw[zy c,OK rfl];omega
   ·rw[zy c,yp l,OK rfl,OJ j]
    have h1:=(h.frs f O_).le;have h2:=h.top f.v h.fin;omega
  ·exact FrOK.begin h (by simp[m]) a d
 ·refine⟨Rch.edge b,?_⟩
  have:=h.chn;cases r with
  |nil=>trivial
  |cons k r=>exact this
theorem TInv.lower(h:TInv g s (f::r)){x:Int}(i:x≤s.lw f.v)(j:∃y∈stk (f::r),s.nm y=x∧Rch g [(f.v:Int)] y):TInv g (Gn f.v x s) (f::r):=by
 have e:f.v<s.low.length:=by rw[h.ll];exact h.fin
 refine⟨h.ln,by simp[Gn,h.ll],h.lp,h.inG,h.vis,h.non,h.off,h.asc,h.top,h.c0,?_,h.chn,h.clo,h.ptl,h.g0,h.cn,h.gn,h.scc⟩;intro k c
 have hF:=h.frs k c;have a:(Gn f.v x s).lw k.v=if f.v=k.v then x else s.lw k.v:=yq e
 rcases LN.1 c with rfl|c
 ·rw[OK rfl]at a
  refine⟨hF.i,hF.vis,hF.out,hF.back,?_,?_,fun u w d b=>?_⟩
  ·rw[a];exact Int.le_trans i hF.le
  ·rw[a];exact j
  ·rw[a];exact Int.le_trans i (hF.all u w d b)
 ·rw[OJ (Nf (h.vne c))]at a
  refine⟨hF.i,hF.vis,hF.out,hF.back,?_,?_,fun u w d b=>?_⟩
  ·rw[a];exact hF.le
  ·rw[a];exact hF.wit
  ·rw[a];exact hF.all u w d b
theorem TInv.back(h:TInv g s (f::r))(hi:f.i<(DA g f.v).length){w:Nat}(c:w<g.length)(j:(DA g f.v)[f.i]=(w:Int))(m:s.nm w≠0)(l:s.pt w<0):TInv g (Gn f.v (min (s.lw f.v) (s.nm w)) s) (⟨f.v,f.i+1,f.seg⟩::r):=by
 have a:0<s.nm w:=by have:=h.non w c;omega
 have d:w∈stk (f::r):=by
  rcases(h.vis w c).1 a with h1|h1
  ·exact h1
  ·omega
 have b:(w:Int)∈g.getD f.v []:=by rw[←j];exact Lc _
 have k:=h.lower (x:=min (s.lw f.v) (s.nm w)) O7 (by
  by_cases e:s.lw f.v≤s.nm w
  ·rw[show min (s.lw f.v) (s.nm w)=s.lw f.v by omega]
   exact(h.frs f O_).wit
  ·rw[show min (s.lw f.v) (s.nm w)=s.nm w by omega]
   exact⟨w,d,rfl,Rch.edge b⟩)
 have i:f.v<s.low.length:=by rw[h.ll];exact h.fin
 refine k.moved ((k.frs f O_).more hi j a (fun _=>?_));rw[yq i,OK rfl];show _≤s.nm w;omega
end
section
variable {g:bU}{s:Ts}{fs:List Tf}{f h:Tf}{r:List Tf}
theorem Gh:stk (⟨h.v,h.i,h.seg++f.v::f.seg⟩::r)=stk (f::h::r):=by simp[stk]
theorem TInv.pass(b:TInv g s (f::h::r)):(Gn h.v (min (s.lw h.v) (s.lw f.v)) s).lw f.v=s.lw f.v:=by
 have a:h.v<s.low.length:=by rw[b.ll];exact b.inG h.v (qe O_)
 rw[yq a,OJ (b.vne O_)]
theorem TInv.merge(c:TInv g s (f::h::r))(hi:f.i=(DA g f.v).length)(C:s.lw f.v≠s.nm f.v):TInv g (Gn h.v (min (s.lw h.v) (s.lw f.v)) s) (⟨h.v,h.i,h.seg++f.v::f.seg⟩::r):=by
 have hF:=c.frs f O_;have q:=c.frs h O_;have z:h.v<s.low.length:=by rw[c.ll];exact c.inG h.v (qe O_)
 have hS:=Gh (f:=f) (h:=h) (r:=r);have o:=c.chn;have i:Rch g [(h.v:Int)] f.v:=o.1;have m:Rch g [(f.v:Int)] h.v:=by
  obtain⟨x,h1,h2,h3⟩:=hF.wit;have D:s.nm x<s.nm f.v:=by have:=hF.le;omega
  have y:x∈stk (h::r):=by
   rw[yQ]at h1
   rcases h1 with h1|h1
   ·exact h1
   ·have:=c.above x h1;omega
  refine h3.trans (Il (r:=r) (f:=h) (fun k t=>(c.frs k (LO _ t)).back) o.2 x y)
 have j:∀k,(Gn h.v (min (s.lw h.v) (s.lw f.v)) s).lw k=if h.v=k then min (s.lw h.v) (s.lw f.v)else s.lw k:=fun k=>yq z
 have l:∀u w,seen g ⟨h.v,h.i,h.seg++f.v::f.seg⟩ u w→seen g h u w∨seen g f u w:=by
  rintro u w (h1|⟨h1,h2⟩)
  ·exact .inl (.inl h1)
  ·dsimp only at h1
   rw[LK,LN]at h1
   rcases h1 with h1|rfl|h1
   ·exact .inl (.inr ⟨h1,h2⟩)
   ·exact .inr (.inl ⟨rfl,by rw[hi,Mk];exact h2⟩)
   ·exact .inr (.inr ⟨h1,h2⟩)
 refine⟨c.ln,by simp[Gn,c.ll],c.lp,by rw[hS];exact c.inG,by rw[hS];exact c.vis,c.non,by rw[hS];exact c.off,by rw[hS];exact c.asc,c.top,c.c0,?_,?_,c.clo,c.ptl,c.g0,c.cn,c.gn,c.scc⟩
 ·intro k t
  rw[hS];rcases LN.1 t with rfl|t
  ·refine⟨q.i,fun u w v=>?_,fun u d=>?_,fun u d=>?_,?_,?_,fun u w v n=>?_⟩
   ·rcases l u w v with h1|h1
    ·exact q.vis u w h1
    ·exact hF.vis u w h1
   ·dsimp only at d⊢
    rw[LK,LN]at d
    rcases d with d|rfl|d
    ·exact q.out u d
    ·exact i
    ·exact i.trans (hF.out u d)
   ·dsimp only at d⊢
    rw[LK,LN]at d
    rcases d with d|rfl|d
    ·exact q.back u d
    ·exact m
    ·exact(hF.back u d).trans m
   ·dsimp only
    rw[j,OK rfl];have:=q.le;show _≤s.nm h.v;omega
   ·dsimp only
    rw[j,OK rfl];by_cases e:s.lw h.v≤s.lw f.v
    ·rw[show min (s.lw h.v) (s.lw f.v)=s.lw h.v by omega]
     exact q.wit
    ·rw[show min (s.lw h.v) (s.lw f.v)=s.lw f.v by omega]
     obtain⟨x,h1,h2,h3⟩:=hF.wit;exact⟨x,h1,h2,i.trans h3⟩
   ·dsimp only
    rw[j,OK rfl];show _≤s.nm w.toNat;rcases l u w v with h1|h1
    ·have:=q.all u w h1 n;omega
    ·have:=hF.all u w h1 n;omega
  ·have p:=c.frs k (by simp[t])
   have B:h.v≠k.v:=fun e=>by
    have h1:=c.asc;have h2:(stk (h::r)).Pairwise fun a b=>s.nm a<s.nm b:=by
     simp only[stk]at h1⊢
     exact(L7.1 h1).1
    simp only[stk]at h2
    have h3:=(L7.1 h2).2.2 k.v (qe t) h.v O_;rw[e]at h3
    exact absurd h3 (J9 _)
   have A:(Gn h.v (min (s.lw h.v) (s.lw f.v)) s).lw k.v=s.lw k.v:=by rw[j,OJ B]
   refine⟨p.i,p.vis,p.out,p.back,?_,?_,fun u w v n=>?_⟩
   ·rw[A];exact p.le
   ·rw[A];exact p.wit
   ·rw[A];exact p.all u w v n
 ·have:=o.2
  cases r with
  |nil=>trivial
  |cons k r=>exact this
theorem TInv.closed(n:TInv g s fs)(k:okG g){a b:Nat}(l:a<g.length)(j:0≤s.pt a)(i:Rch g [(a:Int)] b):b<g.length∧0≤s.pt b:=by
 induction i with
 |@base x c=>
  have:x=(a:Int):=by simpa using c
  subst this;simpa using⟨l,j⟩
 |@step m x _ c d=>
  have e:=AE k m x c;exact⟨by omega,n.clo m d.1 d.2 x c⟩
theorem TInv.close(c:TInv g s (f::r))(G:okG g)(hi:f.i=(DA g f.v).length)(T:s.lw f.v=s.nm f.v):TInv g (Gl (f.v::f.seg) s) r:=by
 have hF:=c.frs f O_;have z:=c.nodup;have d:stk (f::r)=stk r++f.v::f.seg:=rfl;rw[d]at z
 have D:∀x∈stk r,x∉f.v::f.seg:=fun x h1 h2=>(L3.1 z).2.2 x h1 x h2 rfl
 have E:(f.v::f.seg).Nodup:=(L3.1 z).2.1;have Q:∀x∈f.v::f.seg,x<g.length:=fun x l=>c.inG x (by rw[d];exact LM _ l)
 have F:∀x∈f.v::f.seg,x<s.part.length:=fun x l=>by rw[c.lp];exact Q x l
 have i:∀x∈f.v::f.seg,s.pt x<0:=fun x l=>c.off x (by rw[d];exact LM _ l)
 have m:∀k,(Gl (f.v::f.seg) s).pt k=if k∈f.v::f.seg then s.got else s.pt k:=fun k=>EV F k
 have M:∀k,(Gl (f.v::f.seg) s).nm k=s.nm k:=fun _=>rfl
 have A:=c.g0;have B:∀x,x∈f.v::f.seg↔x=f.v∨x∈f.seg:=fun x=>LN
 have t:∀x∈f.v::f.seg,Rch g [(f.v:Int)] x:=fun x l=>by
  rcases(B x).1 l with rfl|l
  ·exact Rch.self _
  ·exact hF.out x l
 have j:∀x∈f.v::f.seg,Rch g [(x:Int)] f.v:=fun x l=>by
  rcases(B x).1 l with rfl|l
  ·exact Rch.self _
  ·exact hF.back x l
 have C:∀u∈f.v::f.seg,∀w∈DA g u,w.toNat∈f.v::f.seg∨0≤s.pt w.toNat:=by
  intro u K w y
  have o:seen g f u w:=by
   rcases(B u).1 K with rfl|K
   ·exact .inl ⟨rfl,by rw[hi,Mk];exact y⟩
   ·exact .inr ⟨K,y⟩
  have I:=AE G u w y;rcases(c.vis w.toNat O7).1 (hF.vis u w o)with h1|h1
  ·have h2:=hF.all u w o h1
   rw[d,LK]at h1
   rcases h1 with h1|h1
   ·have:=c.below _ h1;omega
   ·exact .inl h1
  ·exact .inr h1
 refine⟨c.ln,c.ll,by simp only[Gl];rw[EW];exact c.lp,fun n hn=>c.inG n (by rw[d];exact LL _ hn),?_,c.non,?_,?_,c.top,c.c0,?_,jg c.chn,?_,?_,by simp only[Gl];omega,c.cn,?_,?_⟩
 ·intro n hn
  rw[M,c.vis n hn,m,d,LK];by_cases e:n∈f.v::f.seg
  ·rw[OK e]
   exact⟨fun _=>.inr A,fun _=>.inl (.inr e)⟩
  ·rw[OJ e]
   constructor
   ·rintro((h1|h1)|h1)
    ·exact .inl h1
    ·exact absurd h1 e
    ·exact .inr h1
   ·rintro(h1|h1)
    ·exact .inl (.inl h1)
    ·exact .inr h1
 ·intro n hn
  rw[m,OJ (D n hn)];exact c.off n (by rw[d];exact LL _ hn)
 ·have:=c.asc
  rw[d]at this
  exact(L7.1 this).1
 ·intro k R
  have v:=c.frs k (by simp[R]);refine⟨v.i,v.vis,v.out,v.back,v.le,?_,fun u w S H=>v.all u w S (by rw[d];exact LL _ H)⟩;obtain⟨x,h1,h2,h3⟩:=v.wit;refine⟨x,?_,h2,h3⟩;rw[yQ]at h1
  rcases h1 with h1|h1
  ·exact h1
  ·have a1:=c.above x h1
   have a2:=c.below k.v (qe R);have a3:=v.le;omega
 ·intro n hn L w y
  have I:=AE G n w y;rw[m]at L⊢
  split
  ·exact A
  ·rename_i J
   split at L
   ·rename_i N
    rcases C n N w y with h1|h1
    ·exact absurd h1 J
    ·exact h1
   ·exact c.clo n hn L w y
 ·intro n hn
  rw[m];show _<s.got+1;split
  ·omega
  ·have:=c.ptl n hn;omega
 ·have h1:=EY (p:=s.part) (x:=s.got) A E F i
  have h2:=c.gn;simp only[Gl,Lm]at h1⊢
  omega
 ·intro a b P O q hpb
  rw[m]at q hpb⊢
  rw[m];by_cases ea:a∈f.v::f.seg<;>by_cases eb:b∈f.v::f.seg
  ·rw[OK ea,OK eb]
   exact⟨fun _=>⟨(j a ea).trans (t b eb),(j b eb).trans (t a ea)⟩,fun _=>rfl⟩
  ·rw[OK ea,OJ eb]
   rw[OJ eb]at hpb
   have h1:=c.ptl b O;constructor
   ·intro e;omega
   ·rintro⟨_,h3⟩
    have:=c.closed G O hpb h3;have:=i a ea;omega
  ·rw[OJ ea,OK eb]
   rw[OJ ea]at q
   have h1:=c.ptl a P;constructor
   ·intro e;omega
   ·rintro⟨h3,_⟩
    have:=c.closed G P q h3;have:=i b eb;omega
  ·rw[OJ ea,OJ eb]
   rw[OJ ea]at q
   rw[OJ eb]at hpb
   exact c.scc a b P O q hpb
theorem TInv.alone(a:TInv g s [f]):s.lw f.v=s.nm f.v:=by
 have hF:=a.frs f O_;obtain⟨x,h1,h2,_⟩:=hF.wit;rw[yQ]at h1
 have h3:=hF.le;rcases h1 with h1|h1
 ·simp[stk]at h1
 ·have:=a.above x h1;omega
theorem TInv.keepLow(a:TInv g s (f::h::r))(c:s.lw f.v=s.nm f.v):Gn h.v (min (s.lw h.v) (s.lw f.v)) s=s:=by
 have h1:=(a.frs h O_).le;have h2:=a.below h.v (qe O_);have b:h.v<s.low.length:=by rw[a.ll];exact a.inG h.v (qe O_)
 have e:min (s.lw h.v) (s.lw f.v)=s.low[h.v]:=by
  have:s.lw h.v=s.low[h.v]:=qS b;omega
 unfold Gn;rw[e,Mf]
end
end Go.Proofs.YtfpjecjadlgdcaaGreatDoor
