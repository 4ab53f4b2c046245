import Derived.Test.YtfpjecjadlgdcaaGreatDoorPtTopBounds5
set_option linter.unusedVariables false
set_option linter.unusedSimpArgs false
set_option linter.defProp false
namespace Go.Proofs.YtfpjecjadlgdcaaGreatDoor
open Go.RowKit
instance uU:IsT Tryz.prog 318 (Int×Int):=IsT.of O8 Tryz.underlying318 rfl
instance uV:IsFd Tryz.prog 318 0 0:=IsFd.of O8
instance uW:IsFd Tryz.prog 318 1 1:=IsFd.of O8
instance uX:IsZC Tryz.prog 318 [Py 0,Py 0]:=IsZC.of (z:=.agg #[Py 0,Py 0]) O8 rfl
instance uY:IsBd Tryz.prog 318 [(0,1),(1,1)]:=IsBd.of O8
instance uZ:IsZ Tryz.prog 318 ((0,0):Int×Int) 16:=IsZ.of (z:=.agg #[Py 0,Py 0]) O8 (fun _ _=>C4 (C5 _ _ _) (C5 _ _ _))
instance u4:IsS Tryz.prog 319 318:=⟨Tryz.underlying319⟩
section
variable {P:Program}{Q:Exit→Act→World→Prop}{n:Nat}{σ:Sg}{w wc:World}{L rest:List Oper}{S:World→Prop}{ord:List (Nat×Bool)}{i d:Nat}{op:Op}{ty:TypeId}{pos:String}{af:Array Edge}{g:Option (Nat×Bool)}{t e:TypeId}{x y:Operand}{b o:Nat}{cells:List Value}
theorem e_{a c:Int}{f:Array TypeId}(m:gd L σ ⟨some d,.call ⟨.builtin .min,#[x,y],f⟩,ty,pos,af,g⟩=some true)(hd:Nat.ble (d+1) n=true)(l:ev σ x=some (Py a))(k:ev σ y=some (Py c))
  (h:WL P L Q rest n ((d,Py (min a c))::σ) w):WL P L Q (⟨some d,.call ⟨.builtin .min,#[x,y],f⟩,ty,pos,af,g⟩::rest) n σ w:=by
 refine WL.run m hd (fun u j=>?_) h;have e:(if c<a then c else a)=min a c:=by omega
 simp[execOp,resolve,invoke,builtin,j.ev l,j.ev k,run_min_int2,e]
end
structure TM(w:World)(B b:Nat)(gV nV lV pV sV:Value)(nb lb pb:Nat)(s:Ts)(st:List Int):Prop where
 blk:Blk w b 279 [gV,nV,lV,pV,sV,.int .i64 s.count,.int .i64 s.got]
 num:Own w B 3 cZ nV s.num
 low:Own w B 3 cZ lV s.low
 part:Own w B 3 cZ pV s.part
 stk:Own w B 3 cZ sV st
 ge:B≤b
 hnb:nV.ownBlock=some nb
 hlb:lV.ownBlock=some lb
 hpb:pV.ownBlock=some pb
 ne:nb≠lb∧nb≠pb∧lb≠pb∧nb≠b∧lb≠b∧pb≠b
 sne:∀k,sV.ownBlock=some k→k≠nb∧k≠lb∧k≠pb∧k≠b
def tS(b a lb pb:Nat)(sV:Value):Nat→Prop:=fun k=>k=b∨k=a∨k=lb∨k=pb∨sV.ownBlock=some k
theorem TM.lts{w:World}{B b:Nat}{gV nV lV pV sV:Value}{a lb pb:Nat}{s:Ts}{st:List Int}(h:TM w B b gV nV lV pV sV a lb pb s st):b<w.heap.size∧a<w.heap.size∧lb<w.heap.size∧pb<w.heap.size∧(∀k,sV.ownBlock=some k→k<w.heap.size)∧B≤a∧B≤lb∧B≤pb∧(∀k,sV.ownBlock=some k→B≤k):=
 ⟨h.blk.lt,(h.num.lt _ h.hnb).2.1,(h.low.lt _ h.hlb).2.1,(h.part.lt _ h.hpb).2.1,fun k c=>(h.stk.lt k c).2.1,(h.num.lt _ h.hnb).1,(h.low.lt _ h.hlb).1,(h.part.lt _ h.hpb).1,fun k c=>(h.stk.lt k c).1⟩
theorem TM.ext{w w':World}{B b:Nat}{gV nV lV pV sV:Value}{c lb pb:Nat}{s:Ts}{st:List Int}(h:TM w B b gV nV lV pV sV c lb pb s st)(a:Ext w w'):TM w' B b gV nV lV pV sV c lb pb s st:=
 ⟨h.blk.ext a,h.num.extN a,h.low.extN a,h.part.extN a,h.stk.extN a,h.ge,h.hnb,h.hlb,h.hpb,h.ne,h.sne⟩
theorem TM.off{w w':World}{row:Option Nat}{B b:Nat}{gV nV lV pV sV:Value}{f lb pb:Nat}{s:Ts}{st:List Int}(h:TM w B b gV nV lV pV sV f lb pb s st)(c:w.grownBy w' row)(hn:∀k,row=some k→¬tS b f lb pb sV k):TM w' B b gV nV lV pV sV f lb pb s st:=
 ⟨h.blk.kept c (fun e=>hn b e.symm (.inl rfl)),h.num.keptN c (fun k a e=>hn k e.symm (.inr (.inl (by rw[h.hnb]at a;cases a;rfl)))),h.low.keptN c (fun k a e=>hn k e.symm (.inr (.inr (.inl (by rw[h.hlb]at a;cases a;rfl))))),h.part.keptN c (fun k a e=>hn k e.symm (.inr (.inr (.inr (.inl (by rw[h.hpb]at a;cases a;rfl)))))),h.stk.keptN c (fun k a e=>hn k e.symm (.inr (.inr (.inr (.inr a))))),h.ge,h.hnb,h.hlb,h.hpb,h.ne,h.sne⟩
theorem ia(w:World){B b:Nat}{gV nV lV pV sV:Value}{W lb pb:Nat}{s:Ts}{st:List Int}(h:TM w B b gV nV lV pV sV W lb pb s st){k:Nat}(hB:B≤w.heap.size)(hk:k<s.num.length)(hk2:k<s.low.length)(hc0:0≤s.count)(hc:s.count<4611686018427387904)(hst:st.length≤1099511627776):
  Rt Tryz.prog 260 [Pz b,Py k].toArray w fun _ w'=>∃sV',TM w' B b gV nV lV pV sV' W lb pb (Gk k s) (st++[(k:Int)])∧Chg (tS b W lb pb sV) w w'∧(∀j,sV'.ownBlock=some j→sV.ownBlock=some j∨w.heap.size≤j):=by
 obtain⟨hn1,hn2,hn3,E,U,hn6⟩:=h.ne;refine dE Tryz.func260 Tryz.ntmps260 rfl rfl ?_;have hb:=h.blk;refine Qn ?_;refine WL.st rfl rfl rfl hb rfl rfl Pr (fun R hb1 O=>?_);have hC1:Chg (tS b W lb pb sV) w R:=(Chg.refl _ _).grown O (fun g e=>by cases e;exact .inl rfl);have D:=h.num.keptN O (fun g a e=>by rw[h.hnb]at a;cases a;cases e;exact E rfl);have J:=h.low.keptN O (fun g a e=>by rw[h.hlb]at a;cases a;cases e;exact U rfl);have f:=h.part.keptN O (fun g a e=>by rw[h.hpb]at a;cases a;cases e;exact hn6 rfl);have r:=h.stk.keptN O (fun g a e=>by cases e;exact(h.sne _ a).2.2.2 rfl);skip;apply WL.nil;apply bz;apply CW.seq;have hd:=hb1.ext (Ext.drew R);have hSK:∀w2,(fun x:World=>x.heap[b]?=(drew R).heap[b]?) w2→w2.heap[b]?=(drew R).heap[b]?:=fun _ h=>h
 refine aF (fun x:World=>x.heap[b]?=(drew R).heap[b]?) [(0,true),(1,true),(2,true),(3,true),(4,true),(5,true),(6,true),(7,true),(8,true),(9,true),(10,true),(11,true),(12,true),(13,true),(14,true),(15,true),(16,true),(17,true),(18,true),(19,false),(20,true),(21,false)] mixed O8 rfl ?_;refine RJ ?_;have z:=D.extN (Ext.drew R);have G:=J.extN (Ext.drew R);refine cx (u:=Py (s.count+1)) (yv:=s.count+1) rfl rfl rfl rfl rfl rfl z hk Pg Pg Pt (fun w' a=>a.block b hd.lt (fun e=>E (by rw[h.hnb]at e;exact(Nn e).symm))) (fun w2 q C l=>?_);have I:=G.keptN l (fun g a e=>by rw[h.hlb]at a;rw[h.hnb]at e;cases a;cases e;exact hn1 rfl);have hb2:=hd.kept l (fun e=>by rw[h.hnb]at e;cases e;exact E rfl);skip;refine cx (u:=Py (s.count+1)) (yv:=s.count+1) rfl rfl rfl rfl rfl rfl I hk2 Pg Pg Pt (fun w' a=>(a.block b hb2.lt (fun e=>U (by rw[h.hlb]at e;exact(Nn e).symm))).trans (l.block b hd.lt (fun e=>E (by rw[h.hnb]at e;exact(Nn e).symm)))) (fun w3 q3 H N=>?_);have A:=C.keptN N (fun g a e=>by rw[h.hnb]at a;rw[h.hlb]at e;cases a;cases e;exact hn1 rfl);have hb3:=hb2.kept N (fun e=>by rw[h.hlb]at e;cases e;exact U rfl);have c:=((f.extN (Ext.drew R)).keptN l (fun g a e=>by rw[h.hpb]at a;rw[h.hnb]at e;cases a;cases e;exact hn2 rfl)).keptN N (fun g a e=>by rw[h.hpb]at a;rw[h.hlb]at e;cases a;cases e;exact hn3 rfl);have X:=((r.extN (Ext.drew R)).keptN l (fun g a e=>by rw[h.hnb]at e;cases e;exact(h.sne _ a).1 rfl)).keptN N (fun g a e=>by rw[h.hlb]at e;cases e;exact(h.sne _ a).2.1 rfl);have hC3:Chg (tS b W lb pb sV) w w3:=((hC1.grown (w'':=drew R) (row:=none) ⟨rfl,rfl,rfl,MM _,fun _ _ _=>rfl⟩ (fun g e=>by cases e)).grown l (fun g e=>by rw[h.hnb]at e;cases e;exact .inr (.inl rfl))).grown N (fun g e=>by rw[h.hlb]at e;cases e;exact .inr (.inr (.inl rfl)));clear hb hb1 hb2 hd D C z J I G f r hSK hC1;refine RQ ?_;apply bz;apply CW.region;refine Rr ?_;have hBw:B≤w3.heap.size:=MN hB hC3.size;refine dW (F:=cZ) (yv:=(k:Int)) rfl rfl Pg rfl rfl Pg X Pt hBw Pj O9 Pb O7 (fun sV' w4 p m M V=>?_);have Y:=A.keptN M (fun g a e=>by rw[h.hnb]at a;cases a;exact(h.sne _ e.symm).1 rfl);have Z:=H.keptN M (fun g a e=>by rw[h.hlb]at a;cases a;exact(h.sne _ e.symm).2.1 rfl);have T:=c.keptN M (fun g a e=>by rw[h.hpb]at a;cases a;exact(h.sne _ e.symm).2.2.1 rfl);have hb4:=hb3.kept M (fun e=>(h.sne _ e.symm).2.2.2 rfl);have hC4:Chg (tS b W lb pb sV) w w4:=hC3.grown M (fun g e=>.inr (.inr (.inr (.inr e))));have hl1:=A.lt _ h.hnb;have hl2:=H.lt _ h.hlb;have hl3:=c.lt _ h.hpb;have hl4:=hb3.lt;have v:∀j,sV'.ownBlock=some j→j≠W∧j≠lb∧j≠pb∧j≠b:=by
  intro j hj
  rcases V j hj with h1|h1
  ·exact h.sne j h1
  ·refine⟨?_,?_,?_,?_⟩<;>(intro e;omega)
 refine Rk ?_;obtain⟨so,sc,rfl⟩:=m.val;refine WL.st rfl rfl rfl hb4 rfl rfl Pr (fun w5 hb5 K=>?_);refine PZ ?_;refine aV rfl ⟨_,⟨hb5,?_,?_,?_,?_,h.ge,h.hnb,h.hlb,h.hpb,h.ne,v⟩,hC4.grown K (fun g e=>by cases e;exact .inl rfl),fun j hj=>(V j hj).imp id (fun h1=>MN hC3.size h1)⟩
 ·exact Y.keptN K (fun g a e=>by rw[h.hnb]at a;cases a;cases e;exact E rfl)
 ·exact Z.keptN K (fun g a e=>by rw[h.hlb]at a;cases a;cases e;exact U rfl)
 ·exact T.keptN K (fun g a e=>by rw[h.hpb]at a;cases a;cases e;exact hn6 rfl)
 ·exact m.keptN K (fun g a e=>by cases e;exact(v _ a).2.2.2 rfl)
def v_(l:List Nat):List Int:=l.map fun n:Nat=>(n:Int)
theorem wa(a b:List Nat):v_ (a++b)=v_ a++v_ b:=LE
theorem kp(w:World){B b:Nat}{gV nV lV pV sV:Value}{R lb pb:Nat}{s:Ts}{base T:List Nat}{k:Nat}(h:TM w B b gV nV lV pV sV R lb pb s (v_ (base++k::T)))(hnd:(k::T).Nodup)(hT:∀x∈k::T,x<s.part.length)(hg0:0≤s.got)(hg1:s.got<4611686018427387904):
  Rt Tryz.prog 261 [Pz b,Py k].toArray w fun _ w'=>∃sV',TM w' B b gV nV lV pV sV' R lb pb (Gl (k::T) s) (v_ base)∧Chg (tS b R lb pb sV) w w'∧sV'.ownBlock=sV.ownBlock:=by
 obtain⟨hn1,hn2,hn3,hn4,hn5,V⟩:=h.ne;refine dE Tryz.func261 Tryz.ntmps261 rfl rfl ?_;refine Rb ?_;refine CW.loop (S:=List Nat×List Nat×Value) (fun _=>[(0,Pz b),(1,Py k)])
  (fun x w'=>k::T=x.1++x.2.1∧0<x.1.length∧TM w' B b gV nV lV pV x.2.2 R lb pb {s with part:=EU s.part x.2.1 s.got} (v_ (base++x.1))∧Chg (tS b R lb pb sV) w w'∧x.2.2.ownBlock=sV.ownBlock) (fun x=>x.1.length) (k::T,[],sV) O6 ⟨(Ki _).symm,Nat.succ_pos _,h,Chg.refl _ _,rfl⟩ ?_
 rintro⟨rem,D,v⟩ w1 ⟨c,W,hM,hC,hv⟩
 dsimp only at c W hM hv
 obtain⟨rem',m,rfl⟩:∃rem' m,rem=rem'++[m]:=⟨rem.dropLast,rem.getLast (L1 W),(List.dropLast_concat_getLast _).symm⟩;have hmT:m∈k::T:=by rw[c];simp
 have hml:=hT m hmT;have est:v_ (base++(rem'++[m]))=v_ (base++rem')++[(m:Int)]:=by rw[←Kh,wa];rfl
 rw[est]at hM
 generalize hX:v_ (base++rem')=X at*
 have hb:=hM.blk;obtain⟨so,sc,hsv,Z⟩:=hM.stk.oldN.sl;have Y:(X++[(m:Int)]).length=X.length+1:=by simp
 have hel:∀(h:(((X++[(m:Int)]).length:Int) -1).toNat<(X++[(m:Int)]).length),(X++[(m:Int)])[(((X++[(m:Int)]).length:Int) -1).toNat]=m:=by
  intro h
  have:(((X++[(m:Int)]).length:Int) -1).toNat=X.length:=by rw[Y];omega
  simp[this]
 have hmx:=Z.len63;subst hsv;refine Rh ?_;refine dh rfl rfl rfl rfl rfl Pl Z O7 O7 Pg (fun u q hu=>?_);obtain rfl:=hu.int;simp only[hel];refine Rl ?_;refine QL.nil (fun w2 F=>?_);have hM2:=hM.ext F;have hC2:Chg (tS b R lb pb sV) w w2:=⟨F.os.trans hC.os,F.tape.trans hC.tape,F.output.trans hC.output,MN hC.size F.size,fun k hk hn=>(F.block k (MQ hk hC.size)).trans (hC.block k hk hn)⟩;apply bz;apply CW.seq;have E:=hM2.ext (Ext.drew w2);have hbd:=E.blk;have hSK:∀A,(fun x:World=>x.heap[b]?=(drew w2).heap[b]?) A→A.heap[b]?=(drew w2).heap[b]?:=fun _ h=>h
 refine aE (fun x:World=>x.heap[b]?=(drew w2).heap[b]?) [(0,true),(1,true),(2,true),(3,true),(4,true),(5,true),(6,true),(7,true),(8,true),(9,true),(10,true),(11,true),(12,false),(13,true)] 14 mixed O8 rfl ?_;refine RN ?_;refine bX (α:=Int) X.length (by rw[Y];omega) rfl rfl rfl rfl rfl (by have:=Z.le;omega) ?_;refine cr rfl (fh rfl rfl rfl (WL.nil (a_ rfl ?_)));refine RT ?_;refine bp rfl (WL.st rfl rfl rfl hbd rfl rfl Pr (fun A hb3 O=>WL.nil (bu ?_)));have f:=(E.stk.take rfl (k:=X.length) O7).keptN O (fun g a e=>by cases e;exact(hM.sne _ (show Value.ownBlock (.slice so (X++[(m:Int)]).length sc)=some b by cases so<;>exact a)).2.2.2 rfl);rw[show(X++[(m:Int)]).take X.length=X by simp]at f
 have I:=E.num.keptN O (fun g a e=>by rw[h.hnb]at a;cases a;cases e;exact hn4 rfl);have K:=E.low.keptN O (fun g a e=>by rw[h.hlb]at a;cases a;cases e;exact hn5 rfl);have z:=E.part.keptN O (fun g a e=>by rw[h.hpb]at a;cases a;cases e;exact V rfl);have hC3:Chg (tS b R lb pb sV) w A:=(hC2.grown (w'':=drew w2) (row:=none) ⟨rfl,rfl,rfl,MM _,fun _ _ _=>rfl⟩ (fun g e=>by cases e)).grown O (fun g e=>by cases e;exact .inl rfl);apply bz;apply CW.seq;have hb4:=hb3.ext (Ext.drew A);have hSK:∀w4,(fun x:World=>x.heap[b]?=(drew A).heap[b]?) w4→w4.heap[b]?=(drew A).heap[b]?:=fun _ h=>h
 refine aF (fun x:World=>x.heap[b]?=(drew A).heap[b]?) [(0,true),(1,true),(2,true),(3,true),(4,true),(5,true),(6,true),(7,true),(8,true),(9,true),(10,false)] mixed O8 rfl ?_;refine RJ ?_;refine cx (u:=Py s.got) (yv:=s.got) rfl rfl rfl rfl rfl rfl (z.extN (Ext.drew A)) (by dsimp only;rw[EW];exact hml) Pg Pg Pt (fun w' a=>a.block b hb4.lt (fun e=>by rw[h.hpb]at e;cases e;exact V rfl)) (fun w5 q r N=>?_);have H:=(I.extN (Ext.drew A)).keptN N (fun g a e=>by rw[h.hnb]at a;rw[h.hpb]at e;cases a;cases e;exact hn2 rfl);have J:=(K.extN (Ext.drew A)).keptN N (fun g a e=>by rw[h.hlb]at a;rw[h.hpb]at e;cases a;cases e;exact hn3 rfl);have U:Value.ownBlock (.slice so X.length sc)=sV.ownBlock:=by rw[←hv];cases so<;>rfl
 have G:=(f.extN (Ext.drew A)).keptN N (fun g a e=>by rw[h.hpb]at e;cases e;exact(h.sne _ (U▸a)).2.2.1 rfl);have hb5:=hb4.kept N (fun e=>by rw[h.hpb]at e;cases e;exact V rfl);have hC5:Chg (tS b R lb pb sV) w w5:=(hC3.grown (w'':=drew A) (row:=none) ⟨rfl,rfl,rfl,MM _,fun _ _ _=>rfl⟩ (fun g e=>by cases e)).grown N (fun g e=>by rw[h.hpb]at e;cases e;exact .inr (.inr (.inr (.inl rfl))));have l:∀j,Value.ownBlock (.slice so X.length sc)=some j→j≠R∧j≠lb∧j≠pb∧j≠b:=fun j hj=>h.sne j (U▸hj)
 have p:TM w5 B b gV nV lV pV (.slice so X.length sc) R lb pb {s with part:=EU s.part (m::D) s.got} (v_ (base++rem')):=⟨hb5,H,J,r,by rw[hX];exact G,h.ge,h.hnb,h.hlb,h.hpb,h.ne,l⟩;clear hM hM2 E hb hbd hb3 hb4 f I K z H J r G hC3 hC2 hC hSK;refine RQ ?_;apply bz;refine Qt ?_;apply CW.cond rfl<;>intro C
 ·have C:m=k:=by
   have:(m:Int)=(k:Int):=by simpa using C
   omega
  subst C;have hr:rem'=[]:=by
   cases rem' with
   |nil=>rfl
   |cons y ys=>
    exfalso;rw[Kl,Kl]at c
    obtain⟨rfl,h2⟩:=Kj c;rw[L4]at hnd
    exact hnd.1 (by rw[h2];simp)
  subst hr;have hD:D=T:=by simpa using c.symm
  subst hD;rw[Ki]at p
  have hb6:=p.blk;dsimp only at hb6
  refine QV ?_;refine WL.st rfl rfl rfl hb6 rfl rfl Pr (fun w6 hb7 M=>?_);refine PZ ?_;refine aV rfl ⟨_,⟨hb7,?_,?_,?_,?_,h.ge,h.hnb,h.hlb,h.hpb,h.ne,l⟩,hC5.grown M (fun g e=>by cases e;exact .inl rfl),U⟩
  ·exact p.num.keptN M (fun g a e=>by rw[h.hnb]at a;cases a;cases e;exact hn4 rfl)
  ·exact p.low.keptN M (fun g a e=>by rw[h.hlb]at a;cases a;cases e;exact hn5 rfl)
  ·exact p.part.keptN M (fun g a e=>by rw[h.hpb]at a;cases a;cases e;exact V rfl)
  ·exact p.stk.keptN M (fun g a e=>by cases e;exact(l _ a).2.2.2 rfl)
 ·have C:¬m=k:=by
   have:¬(m:Int)=(k:Int):=by simpa using C
   omega
  have hr:0<rem'.length:=by
   cases rem' with
   |nil=>exact absurd (Kj c).1.symm C
   |cons y ys=>simp
  refine QZ ?_;exact EX.back (rem',m::D,_) O6 ⟨by rw[c];simp,hr,p,hC5,U⟩ O_
theorem Own.top{w:World}{B:Nat}{e:TypeId}{v:Value}{xs:List (Int×Int)}{a c:Int}(h:Own w B e cZ v (xs++[(a,c)])):
  ∃b off cap,v=.slice (some ⟨b,off,none⟩) (xs.length+1) cap∧B≤b∧b<w.heap.size∧v.ownBlock=some b∧Cells w b (off+xs.length*2) [Py a]∧Cells w b (off+xs.length*2+1) [Py c]∧
   ∃cur,w.heap[b]?=some (.cells cur e (0,0))∧off+xs.length*2+2≤cur.size:=by
 rcases h with⟨_,h⟩|⟨b,off,cap,cur,rfl,i⟩
 ·simp at h
 ·have r:(xs++[(a,c)]).length=xs.length+1:=by simp
  have q:=i.el.2 xs.length O_;have s:(xs++[(a,c)])[xs.length]'O_=(a,c):=by simp
  rw[s]at q
  obtain⟨c1,c2,m,h1,h2⟩:=C8 q;have h1:=C3 h1;have h2:=C3 h2;rw[h1,h2]at m
  have k:=i.le;have l:=i.fit;have p:sz (Int×Int)=2:=rfl;rw[p]at l m
  rw[r]at k m
  have z:(xs.length+1)*2≤cap*2:=MX _ k;have f:∀j u,([Py a,Py c]:List Value)[j]?=some u→w.cell? ⟨b,off+xs.length*2+j,none⟩=some u:=by
   intro j u d
   have o:(((cur.toList.drop off).take ((xs.length+1)*2)).drop (xs.length*2)).take 2=[Py a,Py c]:=m;rw[←o,K5]at d
   split at d
   ·rw[KX]at d
    rw[Ow w b _ cur e (0,0) i.blk];have:=k8 d;rw[←this];congr 1;omega
   ·cases d
  refine⟨b,off,cap,by rw[r],i.ge,(Jv.1 i.blk).1,rfl,?_,?_,cur,i.blk,by omega⟩
  ·intro j u d
   cases j with
   |zero=>exact f 0 u (by simpa using d)
   |succ j=>simp at d
  ·intro j u d
   cases j with
   |zero=>exact f 1 u (by simpa using d)
   |succ j=>simp at d
section
variable {P:Program}{Q:Exit→Act→World→Prop}{n:Nat}{σ:Sg}{w:World}{L rest:List Oper}{ty:TypeId}{pos:String}{af:Array Edge}{g:Option (Nat×Bool)}{t e:TypeId}{x y:Operand}
theorem fB{B b off cap:Nat}{xs:List (Int×Int)}{a c c':Int}[U:IsT P e (Int×Int)][T:IsC P t 1 false](O:gd L σ ⟨none,.store t x y,ty,pos,af,g⟩=some true)(M:ev σ x=some (.pointer (some ⟨b,off+xs.length*2+1,none⟩)))(K:ev σ y=some (Py c'))
  (j:Own w B e cZ (.slice (some ⟨b,off,none⟩) (xs.length+1) cap) (xs++[(a,c)]))
  (h:∀w',Own w' B e cZ (.slice (some ⟨b,off,none⟩) (xs.length+1) cap) (xs++[(a,c')])→w.grownBy w' (some b)→WL P L Q rest n σ w'):WL P L Q (⟨none,.store t x y,ty,pos,af,g⟩::rest) n σ w:=by
 have N:(xs++[(a,c)]).length=xs.length+1:=by simp
 obtain⟨W,off',cap',R,_,_,_,H,S,_⟩:=j.top;obtain⟨z,_,rfl⟩:=Oi R;simp only[No,Jp]at z
 obtain⟨rfl,rfl,_⟩:=z;rcases j with⟨I,_⟩|⟨b2,off2,cap2,cur,I,j⟩
 ·cases I
 ·obtain⟨h1,_,rfl⟩:=Oi I
  simp only[No,Jp]at h1
  obtain⟨rfl,rfl,_⟩:=h1;obtain⟨w',D,l,G⟩:=Ee (P:=P) (v:=undef) (i:=xs.length) (y:=(a,c')) j O_ (Rd.mkPr (C5 w cZ a) (C5 w cZ c'));have u:=j.fit;have s:=j.le;have m:sz (Int×Int)=2:=rfl;rw[m]at u D
  rw[N]at s l
  have V:(xs.length+1)*2≤cap*2:=MX _ s;have o:(xs++[(a,c)]).set xs.length (a,c')=xs++[(a,c')]:=by simp
  rw[o]at l
  refine fp O (fun q hq=>?_) (h w' l G);have k:=OU P b (off+xs.length*2) e [Py a,Py c'] 0 cur w j.blk Pc (by simp[Value.oneCell']);have f:=OU P b (off+xs.length*2+1) e [Py c'] 0 cur w j.blk Pc (by simp[Value.oneCell']);simp only[Mx]at f k
  have p:(cur.toList.take (off+xs.length*2+1)++[Py c']++cur.toList.drop (off+xs.length*2+1+1))=(cur.toList.take (off+xs.length*2)++[Py a,Py c']++cur.toList.drop (off+xs.length*2+2)):=by
   have J:=H 0 _ rfl;rw[Mx,Ow w b _ cur e (0,0) j.blk]at J
   have r:off+xs.length*2<cur.toList.length:=by simp;omega
   rw[Mo r];have:cur.toList[off+xs.length*2]=Py a:=by
    have h2:cur.toList[off+xs.length*2]?=some (Py a):=by simpa using J
    rw[KY r]at h2
    exact Nn h2
   rw[this];simp
  have A:w'=w.setRow b (cur.toList.take (off+xs.length*2)++[Py a,Py c']++cur.toList.drop (off+xs.length*2+2)).toArray:=by
   have:(storeVar e ⟨b,off+xs.length*2,none⟩ (.agg ([Py a]++[Py c']).toArray)).run P w=.ok () (w.setRow b (cur.toList.take (off+xs.length*2)++[Py a,Py c']++cur.toList.drop (off+xs.length*2+2)).toArray):=by
    have C:(Value.agg ([Py a]++[Py c']).toArray).cells=[Py a,Py c'].toArray:=rfl;unfold storeVar;rw[Nv,Ek (α:=Int×Int)];simp only[Nu,C];rw[OJ (by simp[m])];exact k
   rw[this]at D
   cases D
   rfl
  obtain⟨i,d,F,E,_,_⟩:=T.ok;simp only[execOp,hq.ev M,hq.ev K,Instr.storeAt,Nv,Instr.sureAddr,Nx,Nu,storeVar,sizeOf,typeInfo,OT,F,E,Value.cells];rw[A,←p];simp;simp at f
  rw[f];rfl
end
theorem gu{s:Ts}{M:Int}:∀(l:List Nat) (c:Int),c≤M→l.Pairwise (fun a b=>s.nm a<s.nm b)→(∀x∈l,c<s.nm x∧s.nm x≤M)→(l.length:Int)≤M -c
 |[],c,h,_,_=>by simp;omega
 |a::l,c,h,d,i=>by
  rw[L8]at d
  have j:=i a O_;have:=gu l (s.nm a) j.2 d.2 (fun x f=>⟨d.1 x f,(i x (by simp[f])).2⟩);simp only[Lm];omega
theorem TInv.count_le{g:bU}{s:Ts}{fs:List Tf}(h:TInv g s fs):s.count≤g.length:=by have:=h.cn;omega
theorem TInv.stk_len{g:bU}{s:Ts}{fs:List Tf}(h:TInv g s fs):(stk fs).length≤g.length:=by
 have:=gu (s:=s) (M:=s.count) (stk fs) 0 h.c0 h.asc (fun x a=>⟨(h.vis x (h.inG x a)).2 (.inl a),h.top x (h.inG x a)⟩);have:=h.count_le;omega
theorem qd:∀fs:List Tf,fs.length≤(stk fs).length
 |[]=>by simp
 |f::r=>by
  have:=qd r;simp only[stk,Ll,Lm];omega
def Ct:List Tf→List (Int×Int)
 |[]=>[]
 |f::r=>Ct r++[((f.v:Int),(f.i:Int))]
theorem Cu:∀fs:List Tf,(Ct fs).length=fs.length
 |[]=>rfl
 |f::r=>by simp[Ct,Cu r]
def Jl(g:bU):List Tf→Nat
 |[]=>0
 |f::r=>((DA g f.v).length -f.i+1)+Jl g r
def It(s:Ts):List Bool:=s.num.map fun x=>decide (x≠0)
def Hc(g:bU)(s:Ts)(fs:List Tf):Nat:=B8 g (It s)+Jl g fs
theorem B9{g:bU}{s:Ts}{fs:List Tf}(h:TInv g s fs){n:Nat}(hn:n<g.length)(b:s.nm n=0):B8 g (It (Gk n s))+(DA g n).length+1=B8 g (It s):=by
 have a:n<s.num.length:=by rw[h.ln];exact hn
 have e:It (Gk n s)=(It s).set n true:=by
  unfold It Gk;simp only;rw[List.map_set]
  congr 1
  have:=h.c0;simp;omega
 have h1:=B_ g (It s) n hn (by simp[It,h.ln]) (by
  have:s.num[n]=s.nm n:=(qS a).symm;unfold It;rw[KT,K1,KY a];simp[this,b])
 rw[e];exact h1
theorem Iv(s:Ts)(n:Nat)(x:Int):It (Gn n x s)=It s:=rfl
theorem Iu(s:Ts)(D:List Nat):It (Gl D s)=It s:=rfl
theorem rG{g:bU}{s:Ts}{fs:List Tf}(h:TInv g s fs){n k:Nat}(hn:n<g.length)(a:0<s.nm k):0<(Gk n s).nm k:=by
 rw[zy (by rw[h.ln];exact hn)];have:=h.c0;split<;>omega
def aj(B b a lb pb:Nat)(pV sV:Value):Prop:=∀k,pV.ownBlock=some k→¬tS b a lb pb sV k
def yh(r:List Tf)(f:Tf)(s:Ts):Ts:=match r with
 |[]=>s
 |h::_=>Gn h.v (min (s.lw h.v) (s.lw f.v)) s
theorem Iw(w0 w:World){b:Nat}{nV lV pV sV:Value}{Z lb pb:Nat}{s:Ts}{g:bU}{F:Nat→Prop}{ao:Option Addr}{cap:Nat}{n:Nat}(hE:Ext w0 w)(H:Sl w0 F ao cap g)(hF:∀b,F b→b<w0.heap.size)(hG:okG g)(hgl:g.length≤1099511627776)
  (hM:TM w w0.heap.size b (.slice ao g.length cap) nV lV pV sV Z lb pb s (v_ [])) (j:TInv g s []) (hn:n<g.length) (h0:s.nm n=0):
  Rt Tryz.prog 201 [Pz b,Py n].toArray w fun _ w'=>∃sV' s',TM w' w0.heap.size b (.slice ao g.length cap) nV lV pV sV' Z lb pb s' (v_ [])∧TInv g s' []∧Ext w0 w'∧(∀k,0<s.nm k→0<s'.nm k)∧0<s'.nm n:=by
 obtain⟨hn1,hn2,hn3,hn4,hn5,hn6⟩:=hM.ne;have hc:=j.count_le;have hI1:=j.root hG hn h0;have hnl:n<s.num.length:=by rw[j.ln];exact hn
 have hnl2:n<s.low.length:=by rw[j.ll];exact hn
 refine dE Tryz.func201 Tryz.ntmps201 rfl rfl ?_;refine PW ?_;refine WL.build rfl rfl rfl rfl ?_;skip;refine WL.lit (α:=Int×Int) (F:=cZ) (ys:=[((n:Int),(0:Int))]) rfl rfl rfl rfl rfl (.cons (Rd.mkPr (C5 _ _ _) (C5 _ _ _)) .nil) (by show 1*2≤16777216;decide) Pj (fun w1 hp1 hg1=>?_);have hE01:Ext w w1:=(Ext.refl w).grown hg1 Pu Pn;have hM1:=hM.ext hE01;have hE1:=hE.trans hE01;refine Qt ?_;refine WL.call rfl rfl rfl (ia w1 hM1 (MJ (MP hM1.ge hM1.lts.1)) hnl hnl2 j.c0 O7 (by simp[v_])) ?_;rintro _ w2 ⟨sV2,hM2,hC2,hnb2⟩
 obtain⟨l1,l2,l3,l4,l5,l6,l7,l8,l9⟩:=hM.lts;have hpb:∀k,Value.ownBlock (.slice (some ⟨w.heap.size,0,none⟩) 1 1)=some k→¬tS b Z lb pb sV k:=by
  intro k i
  have i:w.heap.size=k:=Nn i;rintro(h1|h1|h1|h1|h1)
  ·omega
  ·omega
  ·omega
  ·omega
  ·have:=l5 _ h1;omega
 have hS2:∀k,tS b Z lb pb sV k→w0.heap.size≤k:=by
  rintro k (rfl|rfl|rfl|rfl|h1)
  ·exact hM.ge
  ·exact l6
  ·exact l7
  ·exact l8
  ·exact l9 _ h1
 have hE2:Ext w0 w2:=Chg.ext hE1 hC2 hS2;have hp2:=hp1.chg hC2 hpb;have hap2:aj w0.heap.size b Z lb pb (.slice (some ⟨w.heap.size,0,none⟩) 1 1) sV2:=by
  intro k i
  rintro(h1|h1|h1|h1|h1)
  ·exact hpb k i (.inl h1)
  ·exact hpb k i (.inr (.inl h1))
  ·exact hpb k i (.inr (.inr (.inl h1)))
  ·exact hpb k i (.inr (.inr (.inr (.inl h1))))
  ·rcases hnb2 k h1 with h2|h2
   ·exact hpb k i (.inr (.inr (.inr (.inr h2))))
   ·have i:w.heap.size=k:=Nn i
    have:w.heap.size<w1.heap.size:=(hp1.lt _ rfl).2.1;omega
 refine Qs ?_;refine CW.loop (S:=Ts×List Tf×Value×Value) (fun x=>[(0,Pz b),(4,x.2.2.1)])
  (fun x w'=>TInv g x.1 x.2.1∧TM w' w0.heap.size b (.slice ao g.length cap) nV lV pV x.2.2.2 Z lb pb x.1 (v_ (stk x.2.1))∧Own w' w0.heap.size 318 cZ x.2.2.1 (Ct x.2.1)∧aj w0.heap.size b Z lb pb x.2.2.1 x.2.2.2∧Ext w0 w'∧(∀k,0<s.nm k→0<x.1.nm k)∧0<x.1.nm n)
  (fun x=>Hc g x.1 x.2.1) (Gk n s,[⟨n,0,[]⟩],_,sV2) O6 ⟨hI1,by simpa[v_,stk]using hM2,by simpa[Ct]using hp2.low hE.size,hap2,hE2,fun k i=>rG j hn i,?_⟩ ?_
 ·rw[zy hnl,OK rfl];have:=j.c0;omega
 clear hp2 hp1 hM2 hM1 hC2 hnb2 hE2 hE1 hE01 hI1 hap2 hpb hS2;rintro⟨a,fs,wV,tV⟩ w3 ⟨j,hM,hP,z,hE3,hmo,hvn⟩
 dsimp only at j hM hP z hmo hvn
 refine PV ?_;apply CW.cond rfl<;>intro hc0
 ·obtain⟨f,r,rfl⟩:∃f r,fs=f::r:=by
   cases fs with
   |nil=>simp[Ct]at hc0
   |cons f r=>exact⟨f,r,rfl⟩
  clear hc0;have hstl:=j.stk_len;have hfl:=qd (f::r);have hplen:=Cu r;have hfv:=j.fin;have hFr:=j.frs f O_;have hfi:=hFr.i;have hcle:=j.count_le;have hgot:=j.gn;have hg0:=j.g0;have hcc0:=j.c0;have hg3:Sl w3 F ao cap g:=H.mono (fun b hb=>hE3.block b (hF b hb)) fun _ h=>h
  have hF3:∀b,F b→b<w3.heap.size:=fun b hb=>MQ (hF b hb) hE3.size
  have N:DA g f.v=g[f.v]:=by unfold DA;rw[KT,KY hfv];rfl
  have hP0:Own w3 w0.heap.size 318 cZ wV (Ct r++[((f.v:Int),(f.i:Int))]):=hP;obtain⟨pk,off,pc,rfl,hpge,J,hpob,hca,hcb,cur,hcur,hcurs⟩:=hP0.top;have hb:=hM.blk;have hpl1:(Ct r++[((f.v:Int),(f.i:Int))]).length=(Ct r).length+1:=by simp
  simp only[Lm]at hfl
  refine QS ?_;refine eH (α:=Int×Int) rfl rfl rfl rfl O7 O7 ?_;have eoff:(((((Ct r).length+1:Nat):Int)) -1).toNat*sz (Int×Int)=(Ct r).length*2:=by
   have:(((((Ct r).length+1:Nat):Int)) -1).toNat=(Ct r).length:=by omega
   rw[this];rfl
  rw[eoff];refine Re ?_;refine QL.load (α:=Int) (F:=cZ) rfl rfl rfl J Pj hcb (C5 _ _ _) ?_;refine Rz ?_;refine QL.load (α:=Int) (F:=cZ) rfl rfl rfl J Pj hca (C5 _ _ _) ?_;skip;refine dk rfl rfl rfl rfl rfl hF3 hg3 hfv Pg (fun u q hu=>?_);obtain⟨ro,rc,rfl,hrow⟩:=hu.sl;have hrl:=hrow.len63;refine Ry ?_;refine QL.nil (fun w4 I=>?_);refine PC ?_;apply CW.cond rfl<;>intro hlt
  ·have hi:f.i<(DA g f.v).length:=by rw[N];simpa[Iq]using hlt
   have hil:f.i<g[f.v].length:=by rw[←N];exact hi
   have hwr:=hG _ (Lc hfv) _ (Lc hil);obtain⟨to,eto⟩:=J7 hwr.1;have M:to<g.length:=by omega
   have erow:(DA g f.v)[f.i]=(to:Int):=by simp only[N];exact eto
   have d:=hM.ext I;have hP4:=hP0.extN I;have hb4:=d.blk;have U:Cells w4 pk (off+(Ct r).length*2) [Py (f.v:Int)]:=hca.mono (I.block pk J);have hcb4:Cells w4 pk (off+(Ct r).length*2+1) [Py (f.i:Int)]:=hcb.mono (I.block pk J);have B:pk<w4.heap.size:=MQ J I.size;have v:=hE3.trans I;have hg4:Sl w4 F ao cap g:=H.mono (fun b hb=>v.block b (hF b hb)) fun _ h=>h
   have hF4:∀b,F b→b<w4.heap.size:=fun b hb=>MQ (hF b hb) v.size
   clear hM hP hP0 hb hca hcb hg3 hF3 hE3 hrow;refine Rg ?_;refine QL.load (α:=Int) (F:=cZ) rfl rfl rfl B Pj U (C5 _ _ _) ?_;skip;refine dk rfl rfl rfl rfl rfl hF4 hg4 hfv Pg (fun u q hu=>?_);obtain⟨ro2,rc2,rfl,hrow4⟩:=hu.sl;refine Rz ?_;refine QL.load (α:=Int) (F:=cZ) rfl rfl rfl B Pj hcb4 (C5 _ _ _) ?_;skip;refine di rfl rfl rfl rfl rfl hF4 hrow4 hil eto Pg (fun q=>?_);refine Rl ?_;refine QL.nil (fun w5 hE5=>?_);have hM5:=d.ext hE5;have hP5:=hP4.extN hE5;have hb5:=hM5.blk;have hca5:Cells w5 pk (off+(Ct r).length*2) [Py (f.v:Int)]:=U.mono (hE5.block pk B);have hcb5:Cells w5 pk (off+(Ct r).length*2+1) [Py (f.i:Int)]:=hcb4.mono (hE5.block pk B);have hE05:=v.trans hE5;have hplt5:pk<w5.heap.size:=MQ B hE5.size;have hmaxr:f.i+1<9223372036854775808:=by omega
   clear d hP4 hb4 U hcb4 hg4 hF4 v hrow4;refine QW ?_;refine WL.load (α:=Int) (F:=cZ) rfl rfl rfl hcb5 (C5 _ _ _) ?_;refine Rw ?_;refine fB (xs:=Ct r) (c':=((f.i+1:Nat):Int)) rfl rfl rfl hP5 (fun w6 hP6 hg6=>?_);have hapk:=z pk hpob;have c:=hM5.off hg6 (fun k i=>by cases i;exact hapk);have hb6:=c.blk;have X:Ext w0 w6:=hE05.grown hg6 hE05.size (fun k i=>by cases i;exact hpge);have hpge6:pk<w6.heap.size:=MQ hplt5 hg6.size;have A:to<a.num.length:=by rw[j.ln];exact M
   have hlowto:to<a.low.length:=by rw[j.ll];exact M
   have R:to<a.part.length:=by rw[j.lp];exact M
   have enum:a.num[to]=a.nm to:=(qS A).symm;have epart:a.part[to]=a.pt to:=(qS R).symm;have hP6':Own w6 w0.heap.size 318 cZ (.slice (some ⟨pk,off,none⟩) ((Ct r).length+1) pc) (Ct (⟨f.v,f.i+1,f.seg⟩::r)):=by simpa[Ct]using hP6
   clear hM5 hP5 hb5 hca5 hcb5 hE05;refine QI ?_;refine eE rfl rfl rfl rfl rfl c.num A Pg (fun u q hu=>?_);obtain rfl:=hu.int;rw[enum];refine PN ?_;apply CW.cond rfl<;>intro hz
   ·have hz:a.nm to=0:=by simpa using hz
    refine PW ?_;refine WL.call rfl rfl rfl (ia w6 c X.size A hlowto hcc0 O7 (by simp only[v_,Ls];omega)) ?_;rintro _ w7 ⟨tV7,G,hC7,hnb7⟩
    have hS7:∀k,tS b Z lb pb tV k→w0.heap.size≤k:=by
     obtain⟨l1,l2,l3,l4,l5,l6,l7,l8,l9⟩:=c.lts;rintro k (rfl|rfl|rfl|rfl|h1)
     ·exact c.ge
     ·exact l6
     ·exact l7
     ·exact l8
     ·exact l9 _ h1
    have o:Ext w0 w7:=Chg.ext X hC7 hS7;have V:=hP6'.chg hC7 z;have hap7:aj w0.heap.size b Z lb pb (.slice (some ⟨pk,off,none⟩) ((Ct r).length+1) pc) tV7:=by
     intro k i
     rintro(h1|h1|h1|h1|h1)
     ·exact z k i (.inl h1)
     ·exact z k i (.inr (.inl h1))
     ·exact z k i (.inr (.inr (.inl h1)))
     ·exact z k i (.inr (.inr (.inr (.inl h1))))
     ·rcases hnb7 k h1 with h2|h2
      ·exact z k i (.inr (.inr (.inr (.inr h2))))
      ·have:=(hP6'.lt k i).2.1
       omega
    refine Qq ?_;refine WL.build rfl rfl rfl rfl ?_;skip;refine dW (α:=Int×Int) (F:=cZ) (yv:=((to:Int),(0:Int))) rfl rfl Pg rfl rfl Pg V (Rd.mkPr (C5 _ _ _) (C5 _ _ _)) o.size Pj O9 (by simp only[Ct,Ll,LA];unfold maxLen;omega) (by simp only[Ct,Ll,LA];omega) (fun pV8 w8 p hP8 hg8 hnb8=>?_);have W:=G.off hg8 (fun k i=>hap7 k i);have hE08:Ext w0 w8:=o.grown hg8 o.size (fun k i=>(V.lt k i).1);have hap8:aj w0.heap.size b Z lb pb pV8 tV7:=by
     intro k i
     rcases hnb8 k i with h1|h1
     ·exact hap7 k h1
     ·obtain⟨l1,l2,l3,l4,l5,l6,l7,l8,l9⟩:=G.lts
      rintro(h2|h2|h2|h2|h2)
      ·omega
      ·omega
      ·omega
      ·omega
      ·have:=l5 _ h2;omega
    have hpotb:=B9 j M hz;refine Qe ?_;refine EX.back (Gk to a,⟨to,0,[]⟩::⟨f.v,f.i+1,f.seg⟩::r,pV8,tV7) O6 ⟨j.tree hG hi M erow hz,?_,by simpa[Ct]using hP8,hap8,hE08,fun k i=>rG j M (hmo k i),rG j M hvn⟩ ?_
    ·have e:v_ (stk (⟨to,0,[]⟩::⟨f.v,f.i+1,f.seg⟩::r))=v_ (stk (f::r))++[(to:Int)]:=by simp[stk,v_]
     dsimp only;rw[e];exact W
    ·show Hc g (Gk to a) _<Hc g a _
     simp only[Hc,Jl];omega
   ·have hz:a.nm to≠0:=by simpa using hz
    refine QW ?_;refine eE rfl rfl rfl rfl rfl c.part R Pg (fun u q hu=>?_);obtain rfl:=hu.int;rw[epart];refine PN ?_;apply CW.cond rfl<;>intro hp0
    ·have hp0:a.pt to<0:=by simpa using hp0
     skip;have E:f.v<a.low.length:=by rw[j.ll];exact hfv
     have elow:a.low[f.v]=a.lw f.v:=(qS E).symm;have l:=c.ext (Ext.drew w6);have hbd:=l.blk;have hcad:Cells (drew w6) pk (off+(Ct r).length*2) [Py (f.v:Int)]:=by
      obtain⟨b',o',c',he,_,_,_,h1,_,_⟩:=(hP6.extN (Ext.drew w6)).top;obtain⟨h2,_,_⟩:=Oi he;simp only[No,Jp]at h2
      obtain⟨rfl,rfl,_⟩:=h2;exact h1
     have hSE:∀w7,(fun x=>x=drew w6) w7→Ext (drew w6) w7:=fun _ h=>h▸Ext.refl _
     obtain⟨lO,lC,O,K⟩:=l.low.oldN.sl;obtain⟨nO,nC,hnv,hnsl⟩:=l.num.oldN.sl;have hbd':=hbd;rw[O,hnv]at hbd'
     refine aE (fun x=>x=drew w6) [(0,true),(1,true),(2,true),(3,true),(4,true),(5,true),(6,true),(7,true),(8,true),(9,true),(10,true),(11,true),(12,true),(13,true),(14,true),(15,true),(16,true),(17,true),(18,true),(19,true),(20,true),(21,true),(22,true),(23,true),(24,true),(25,false),(26,true)] 27 mixed O8 rfl ?_;clear hbd;refine RK ?_;refine HL.load (α:=Int) (F:=cZ) hSE rfl rfl rfl rfl hpge6 Pj hcad (C5 _ _ _) ?_;refine RK ?_;refine HL.load (α:=Int) (F:=cZ) hSE rfl rfl rfl rfl hpge6 Pj hcad (C5 _ _ _) ?_;skip;refine bZ hSE rfl rfl rfl rfl rfl rfl rfl Pl K E Pg (fun u q hu=>?_);obtain rfl:=hu.int;rw[elow];refine RK ?_;refine bZ hSE rfl rfl rfl rfl rfl rfl rfl Pl hnsl A Pg (fun u q hu=>?_);obtain rfl:=hu.int;rw[enum];skip;refine cr rfl (e_ rfl rfl rfl rfl (WL.nil (a_ rfl ?_)));have C:=l.low;rw[O]at C
     refine cy (u:=Py (min (a.lw f.v) (a.nm to))) (yv:=min (a.lw f.v) (a.nm to)) rfl rfl rfl rfl rfl rfl C E Pg Pg Pt (fun w7 q D m=>?_);rw[←O]at D m
     have o:Ext w0 w7:=(X.trans (Ext.drew w6)).grown m (MN X.size Pu) (fun k i=>(l.low.lt k i).1);have G:TM w7 w0.heap.size b (.slice ao g.length cap) nV lV pV tV Z lb pb (Gn f.v (min (a.lw f.v) (a.nm to)) a) (v_ (stk (f::r))):=by
      refine⟨l.blk.kept m (fun e=>by rw[c.hlb]at e;cases e;exact hn5 rfl),l.num.keptN m (fun g H e=>by rw[c.hnb]at H;rw[c.hlb]at e;cases H;cases e;exact hn1 rfl),D,l.part.keptN m (fun g H e=>by rw[c.hpb]at H;rw[c.hlb]at e;cases H;cases e;exact hn3 rfl),l.stk.keptN m (fun g H e=>by rw[c.hlb]at e;cases e;exact(c.sne _ H).2.1 rfl),c.ge,c.hnb,c.hlb,c.hpb,c.ne,c.sne⟩
     have V:=(hP6'.extN (Ext.drew w6)).keptN m (fun g H e=>by rw[c.hlb]at e;cases e;exact z _ H (.inr (.inr (.inl rfl))));refine Qf ?_;refine EX.back (Gn f.v (min (a.lw f.v) (a.nm to)) a,⟨f.v,f.i+1,f.seg⟩::r,_,tV) O6 ⟨j.back hi M erow hz hp0,G,V,z,o,hmo,hvn⟩ ?_;show Hc g (Gn f.v (min (a.lw f.v) (a.nm to)) a) _<Hc g a _;simp only[Hc,Jl,Iv];omega
    ·have hp0:0≤a.pt to:=by simpa using hp0
     refine Qf ?_;refine EX.back (a,⟨f.v,f.i+1,f.seg⟩::r,_,tV) O6 ⟨j.shut hi M erow hp0,c,hP6',z,X,hmo,hvn⟩ ?_;show Hc g a _<Hc g a _;simp only[Hc,Jl];omega
  ·have hi:f.i=(DA g f.v).length:=by
    have:¬f.i<g[f.v].length:=by simpa[Iq]using hlt
    rw[N]at hfi⊢;omega
   have d:=hM.ext I;have hP4:=hP0.extN I;have U:Cells w4 pk (off+(Ct r).length*2) [Py (f.v:Int)]:=hca.mono (I.block pk J);have v:=hE3.trans I;clear hM hP hb hca hcb hg3 hF3 hE3 hrow;refine Q5 ?_;refine WL.load (α:=Int) (F:=cZ) rfl rfl rfl U (C5 _ _ _) ?_;refine QD ?_;refine eq (α:=Int×Int) (Ct r).length O7 rfl rfl rfl rfl hP4 O7 (fun pV5 hP5 hpb5=>?_);rw[show(Ct r++[((f.v:Int),(f.i:Int))]).take (Ct r).length=Ct r by simp]at hP5
   have hap5:aj w0.heap.size b Z lb pb pV5 tV:=fun k i=>z k (by rw[←hpb5];exact i)
   have E:f.v<a.low.length:=by rw[j.ll];exact hfv
   have hfvn:f.v<a.num.length:=by rw[j.ln];exact hfv
   have hP4l:(Ct r).length≤1099511627776:=by omega
   refine Ri ?_;apply WL.nil;apply bz;refine aB (S:=Unit) (fun _=>[(0,Pz b),(4,pV5),(7,Py (f.v:Int))])
    (fun _ w'=>TM w' w0.heap.size b (.slice ao g.length cap) nV lV pV tV Z lb pb (yh r f a) (v_ (stk (f::r)))∧Own w' w0.heap.size 318 cZ pV5 (Ct r)∧Ext w0 w') ?_ ?_
   ·refine PV ?_
    apply CW.cond rfl<;>intro hr0
    ·obtain⟨h,Y,rfl⟩:∃h Y,r=h::Y:=by
      cases r with
      |nil=>simp[Ct]at hr0
      |cons h Y=>exact⟨h,Y,rfl⟩
     have hhv:h.v<g.length:=j.inG h.v (by rw[yQ,yQ];exact .inl (.inr (.inl rfl)));have hhvl:h.v<a.low.length:=by rw[j.ll];exact hhv
     have elh:a.low[h.v]=a.lw h.v:=(qS hhvl).symm;have elf:a.low[f.v]=a.lw f.v:=(qS E).symm;have hP5':Own w4 w0.heap.size 318 cZ pV5 (Ct Y++[((h.v:Int),(h.i:Int))]):=hP5;obtain⟨pk2,off2,pc2,hpv,hpge2,hplt2,hpob2,hcaH,hcbH,_⟩:=hP5'.top;subst hpv;have hplr:(Ct Y).length+1≤1099511627776:=by simpa[Ct]using hP4l
     refine QD ?_;refine eH (α:=Int×Int) rfl rfl rfl rfl O7 O7 ?_;have eoff2:(((((Ct Y).length+1:Nat):Int)) -1).toNat*sz (Int×Int)=(Ct Y).length*2:=by
      have:(((((Ct Y).length+1:Nat):Int)) -1).toNat=(Ct Y).length:=by omega
      rw[this];rfl
     rw[eoff2];refine Rm ?_;refine WL.load (α:=Int) (F:=cZ) rfl rfl rfl hcaH (C5 _ _ _) ?_;refine PN ?_;have l:=d.ext (Ext.drew w4);have hbd:=l.blk;have hSE:∀w7,(fun x=>x=drew w4) w7→Ext (drew w4) w7:=fun _ h=>h▸Ext.refl _
     obtain⟨lO,lC,O,K⟩:=l.low.oldN.sl;have hbd':=hbd;rw[O]at hbd'
     refine aE (fun x=>x=drew w4) [(0,true),(1,true),(2,true),(3,true),(4,true),(5,true),(6,true),(7,true),(8,true),(9,true),(10,true),(11,true),(12,true),(13,true),(14,true),(15,true),(16,true),(17,true),(18,true),(19,false),(20,true)] 21 mixed O8 rfl ?_;clear hbd;refine RK ?_;refine bZ hSE rfl rfl rfl rfl rfl rfl rfl Pl K hhvl Pg (fun u q hu=>?_);obtain rfl:=hu.int;rw[elh];refine RK ?_;refine bZ hSE rfl rfl rfl rfl rfl rfl rfl Pl K E Pg (fun u q hu=>?_);obtain rfl:=hu.int;rw[elf];skip;refine cr rfl (e_ rfl rfl rfl rfl (WL.nil (a_ rfl ?_)));have C:=l.low;rw[O]at C
     refine cy (u:=Py (min (a.lw h.v) (a.lw f.v))) (yv:=min (a.lw h.v) (a.lw f.v)) rfl rfl rfl rfl rfl rfl C hhvl Pg Pg Pt (fun w7 q D m=>?_);rw[←O]at D m
     have o:Ext w0 w7:=(v.trans (Ext.drew w4)).grown m (MN v.size Pu) (fun k i=>(l.low.lt k i).1);have G:TM w7 w0.heap.size b (.slice ao g.length cap) nV lV pV tV Z lb pb (yh (h::Y) f a) (v_ (stk (f::h::Y))):=by
      refine⟨l.blk.kept m (fun e=>by rw[d.hlb]at e;cases e;exact hn5 rfl),l.num.keptN m (fun g H e=>by rw[d.hnb]at H;rw[d.hlb]at e;cases H;cases e;exact hn1 rfl),D,l.part.keptN m (fun g H e=>by rw[d.hpb]at H;rw[d.hlb]at e;cases H;cases e;exact hn3 rfl),l.stk.keptN m (fun g H e=>by rw[d.hlb]at e;cases e;exact(d.sne _ H).2.1 rfl),d.ge,d.hnb,d.hlb,d.hpb,d.ne,d.sne⟩
     have V:=(hP5.extN (Ext.drew w4)).keptN m (fun g H e=>by rw[d.hlb]at e;cases e;exact hap5 _ H (.inr (.inr (.inl rfl))));skip;exact aU () O6 ⟨G,V,o⟩
    ·have hr0:r=[]:=by
      have:(Ct r).length=0:=by simp at hr0;simp[hr0]
      rw[Cu]at this
      exact KC this
     subst hr0;refine PD ?_;exact aU () O6 ⟨d,hP5,v⟩
   rintro _ w7 ⟨G,V,o⟩
   have elw:(yh r f a).lw f.v=a.lw f.v:=by
    cases r with
    |nil=>rfl
    |cons h Y=>exact j.pass
   have hlen7:(yh r f a).low.length=a.low.length:=by cases r<;>simp[yh,Gn]
   have enm7:(yh r f a).num=a.num:=by cases r<;>rfl
   have hfv7:f.v<(yh r f a).low.length:=by rw[hlen7];exact E
   have el7:(yh r f a).low[f.v]=a.lw f.v:=by rw[←elw];exact(qS hfv7).symm
   have hfn7:f.v<(yh r f a).num.length:=by rw[enm7];exact hfvn
   have en7:(yh r f a).num[f.v]=a.nm f.v:=by
    have:(yh r f a).nm f.v=a.nm f.v:=by unfold Ts.nm;rw[enm7]
    rw[←this];exact(qS hfn7).symm
   obtain⟨lO,lC,O,K⟩:=G.low.oldN.sl;obtain⟨nO,nC,hnv,hnsl⟩:=G.num.oldN.sl;have hb7:=G.blk;rw[O,hnv]at hb7
   refine Rg ?_;refine di rfl rfl rfl rfl rfl Pl K hfv7 el7 Pg (fun q=>?_);refine Rz ?_;refine di rfl rfl rfl rfl rfl Pl hnsl hfn7 en7 Pg (fun q=>?_);refine Rl ?_;refine QL.nil (fun w8 hE8=>?_);have W:=G.ext hE8;have hP8:=V.extN hE8;have hE08:=o.trans hE8;refine PC ?_;apply CW.cond rfl<;>intro T
   ·have T:a.lw f.v=a.nm f.v:=by simpa using T
    have els:yh r f a=a:=by
     cases r with
     |nil=>rfl
     |cons h Y=>exact j.keepLow T
    rw[els]at W
    have hT:=j.close hG hi T;have hnd:=j.nodup;rw[show stk (f::r)=stk r++f.v::f.seg from rfl]at hnd W
    refine PY ?_;refine WL.call rfl rfl rfl (kp w8 W (L3.1 hnd).2.1 (fun x hx=>by rw[j.lp];exact j.inG x (by rw[show stk (f::r)=stk r++f.v::f.seg from rfl];exact LM _ hx)) hg0 O7) ?_;rintro _ w9 ⟨tV9,hM9,hC9,hnb9⟩
    have hS9:∀k,tS b Z lb pb tV k→w0.heap.size≤k:=by
     obtain⟨l1,l2,l3,l4,l5,l6,l7,l8,l9⟩:=W.lts;rintro k (rfl|rfl|rfl|rfl|h1)
     ·exact W.ge
     ·exact l6
     ·exact l7
     ·exact l8
     ·exact l9 _ h1
    have hE09:Ext w0 w9:=Chg.ext hE08 hC9 hS9;have hP9:=hP8.chg hC9 hap5;have hap9:aj w0.heap.size b Z lb pb pV5 tV9:=fun k i h1=>hap5 k i (by unfold tS at h1⊢;rw[hnb9]at h1;exact h1)
    refine Q0 ?_;refine EX.back (Gl (f.v::f.seg) a,r,pV5,tV9) O6 ⟨hT,hM9,hP9,hap9,hE09,hmo,hvn⟩ ?_;show Hc g (Gl (f.v::f.seg) a) _<Hc g a _;simp only[Hc,Jl,Iu];omega
   ·have T:a.lw f.v≠a.nm f.v:=by simpa using T
    cases r with
    |nil=>exact absurd j.alone T
    |cons h Y=>
     have hT:=j.merge hi T;refine QZ ?_;refine EX.back (Gn h.v (min (a.lw h.v) (a.lw f.v)) a,⟨h.v,h.i,h.seg++f.v::f.seg⟩::Y,pV5,tV) O6 ⟨hT,?_,hP8,hap5,hE08,hmo,hvn⟩ ?_
     ·dsimp only;rw[Gh];exact W
     ·show Hc g (Gn h.v (min (a.lw h.v) (a.lw f.v)) a) _<Hc g a _
      simp only[Hc,Jl,Iv];omega
 ·have hfs:fs=[]:=by
   have:(Ct fs).length=0:=by simp at hc0;simp[hc0]
   rw[Cu]at this
   exact KC this
  subst hfs;refine QF ?_;exact aV rfl ⟨tV,a,hM,j,hE3,hmo,hvn⟩
def Aj(l:List Int):Int:=l.foldl (fun m x=>max m (x+1)) 0
theorem Ak(l:List Int)(x:Int):Aj (l++[x])=max (Aj l) (x+1):=by simp[Aj]
def aJ(p:List Int):Prop:=∀i,i<p.length→(∃j,j<i∧p.getD j 0=p.getD i 0)∨p.getD i 0=Aj (p.take i)
structure PartsOK(g:bU)(p:List Int):Prop where
 len:p.length=g.length
 canon:aJ p
 same:∀a b,a<g.length→b<g.length→(p.getD a 0=p.getD b 0↔Rch g [(a:Int)] b∧Rch g [(b:Int)] a)
 ge:∀i,i<p.length→0≤p.getD i 0
 lt:∀i,i<p.length→p.getD i 0<g.length
structure CInv(q:List Int)(got:Int)(i:Nat)(name:List Int)(next:Int)(out:List Int):Prop where
 ln:(name.length:Int)=got
 lo:out.length=q.length
 n0:∀k,0≤name.getD k 0∧name.getD k 0≤next
 z:∀j,j<i→0<name.getD (q.getD j 0).toNat 0∧out.getD j 0=name.getD (q.getD j 0).toNat 0 -1
 zz:∀k,0<name.getD k 0→∃j,j<i∧(q.getD j 0).toNat=k
 inj:∀k k',0<name.getD k 0→name.getD k 0=name.getD k' 0→k=k'
 nx:next=Aj (out.take i)
 le:next≤i
 canon:∀j,j<i→(∃m,m<j∧out.getD m 0=out.getD j 0)∨out.getD j 0=Aj (out.take j)
theorem CInv.start{q out:List Int}{got:Int}(e:0≤got)(d:out.length=q.length):CInv q got 0 (List.replicate got.toNat 0) 0 out:=by
 have c:∀k,(List.replicate got.toNat (0:Int)).getD k 0=0:=by
  intro k
  rw[KT,K3];split<;>rfl
 refine⟨by simp;omega,d,fun k=>by rw[c];simp,fun j b=>absurd b O_,fun k a=>by rw[c]at a;omega,fun k k' a=>by rw[c]at a;omega,rfl,by simp,fun j b=>absurd b O_⟩
theorem GM{out:List Int}{i:Nat}{x:Int}(hi:i<out.length):(out.set i x).take (i+1)=out.take i++[x]:=by
 rw[Mo (by rw[Lz];exact hi)];rw[Mm Pu,Lg]
theorem CInv.canonStep{q out:List Int}{got next:Int}{i:Nat}{name:List Int}(h:CInv q got i name next out){x:Int}(hi:i<out.length)(f:(∃m,m<i∧out.getD m 0=x)∨x=Aj (out.take i)):
  ∀j,j<i+1→(∃m,m<j∧(out.set i x).getD m 0=(out.set i x).getD j 0)∨(out.set i x).getD j 0=Aj ((out.set i x).take j):=by
 intro j l
 have a:∀k,(out.set i x).getD k 0=if i=k then x else out.getD k 0:=fun k=>qW hi
 have b:∀k,k≤i→(out.set i x).take k=out.take k:=fun k g=>Mm g
 by_cases e:j=i
 ·subst e
  rw[b j Pu,a,OK rfl];rcases f with⟨m,c,h1⟩|h1
  ·exact .inl ⟨m,c,by rw[a,OJ O7];exact h1⟩
  ·exact .inr h1
 ·have d:j<i:=by omega
  rw[b j O7,a,OJ (Nf e)];rcases h.canon j d with⟨m,c,h1⟩|h1
  ·exact .inl ⟨m,c,by rw[a,OJ O7];exact h1⟩
  ·exact .inr h1
theorem CInv.old{q out:List Int}{got next:Int}{i:Nat}{name:List Int}(h:CInv q got i name next out)(hi:i<q.length)(hn:name.getD (q.getD i 0).toNat 0≠0):CInv q got (i+1) name next (out.set i (name.getD (q.getD i 0).toNat 0 -1)):=by
 have b:i<out.length:=by rw[h.lo];exact hi
 have a:0<name.getD (q.getD i 0).toNat 0:=by have:=(h.n0 (q.getD i 0).toNat).1;omega
 have l:=(h.n0 (q.getD i 0).toNat).2;have c:∀k,(out.set i (name.getD (q.getD i 0).toNat 0 -1)).getD k 0=if i=k then name.getD (q.getD i 0).toNat 0 -1 else out.getD k 0:=fun k=>qW b
 obtain⟨j,f,d⟩:=h.zz _ a;refine⟨h.ln,by rw[Lz];exact h.lo,h.n0,?_,?_,h.inj,?_,by have:=h.le;omega,?_⟩
 ·intro k g
  rw[c];by_cases e:i=k
  ·subst e;rw[OK rfl];exact⟨a,rfl⟩
  ·rw[OJ e];exact h.z k O7
 ·intro k g
  obtain⟨j,f,h1⟩:=h.zz k g;exact⟨j,by omega,h1⟩
 ·rw[GM b,Ak,←h.nx];omega
 ·refine h.canonStep b (.inl ⟨j,f,?_⟩)
  rw[(h.z j f).2,d]
theorem CInv.new{q out:List Int}{got next:Int}{i:Nat}{name:List Int}(h:CInv q got i name next out)(hi:i<q.length)(m:(q.getD i 0).toNat<name.length)(hn:name.getD (q.getD i 0).toNat 0=0):
  CInv q got (i+1) (name.set (q.getD i 0).toNat (next+1)) (next+1) (out.set i next):=by
 have c:i<out.length:=by rw[h.lo];exact hi
 have d:∀k,(out.set i next).getD k 0=if i=k then next else out.getD k 0:=fun k=>qW c
 have a:∀k,(name.set (q.getD i 0).toNat (next+1)).getD k 0=if(q.getD i 0).toNat=k then next+1 else name.getD k 0:=fun k=>qW m
 have g:0≤next:=by have:=h.n0 0;omega
 refine⟨by rw[Lz];exact h.ln,by rw[Lz];exact h.lo,?_,?_,?_,?_,?_,by have:=h.le;omega,h.canonStep c (.inr h.nx)⟩
 ·intro k
  rw[a];have:=h.n0 k;split<;>omega
 ·intro j n
  rw[a,d];by_cases e:i=j
  ·subst e
   rw[OK rfl,OK rfl];omega
  ·rw[OJ e]
   have h1:=h.z j O7;have:¬(q.getD i 0).toNat=(q.getD j 0).toNat:=fun h2=>by rw[←h2]at h1;omega
   rw[OJ this];exact h1
 ·intro k b
  rw[a]at b
  split at b
  ·rename_i e;exact⟨i,by omega,e⟩
  ·obtain⟨j,n,h1⟩:=h.zz k b;exact⟨j,by omega,h1⟩
 ·intro k k' h1 h2
  rw[a]at h1
  rw[a,a]at h2
  have a1:=h.n0 k;have a2:=h.n0 k';split at h2<;>split at h2
  ·rename_i f l;rw[←f,←l]
  ·omega
  ·omega
  ·rename_i f l
   rw[OJ f]at h1
   exact h.inj k k' h1 h2
 ·rw[GM c,Ak,←h.nx];omega
theorem CInv.done{q out name:List Int}{got next:Int}(h:CInv q got q.length name next out){g:bU}(j:q.length=g.length)(hq:∀a,a<g.length→0≤q.getD a 0)(f:∀a b,a<g.length→b<g.length→(q.getD a 0=q.getD b 0↔Rch g [(a:Int)] b∧Rch g [(b:Int)] a)):PartsOK g out:=by
 refine⟨by rw[h.lo,j],fun i hi=>h.canon i (by rw[←h.lo];exact hi),fun a b d c=>?_,fun i hi=>?_,fun i hi=>?_⟩
 ·rw[←f a b d c]
  have h1:=h.z a O7;have h2:=h.z b O7;rw[h1.2,h2.2];have m:=hq a d;have l:=hq b c;constructor
  ·intro e
   have k:name.getD (q.getD a 0).toNat 0=name.getD (q.getD b 0).toNat 0:=by omega
   have:=h.inj _ _ h1.1 k;omega
  ·intro e;rw[e]
 ·have:=h.z i (by rw[←h.lo];exact hi)
  omega
 ·have h1:=h.z i (by rw[←h.lo];exact hi)
  have h2:=(h.n0 (q.getD i 0).toNat).2;have h3:=h.le;omega
theorem TInv.start(g:bU)(part:List Int)(i:part.length=g.length)(e:∀j,j<g.length→part.getD j (-1)= -1):TInv g ⟨List.replicate g.length 0,List.replicate g.length 0,part,0,0⟩ []:=by
 have d:∀k,(List.replicate g.length (0:Int)).getD k 0=0:=by
  intro k
  rw[KT,K3];split<;>rfl
 have hn:∀k,Ts.nm ⟨List.replicate g.length 0,List.replicate g.length 0,part,0,0⟩ k=0:=d;have c:∀k,k<g.length→Ts.pt ⟨List.replicate g.length 0,List.replicate g.length 0,part,0,0⟩ k= -1:=e;refine⟨by simp,by simp,i,fun n hn=>absurd hn (by simp[stk]),fun n h=>?_,fun n h=>by rw[hn];omega,fun n hn=>absurd hn (by simp[stk]),by simp[stk],fun n h=>by rw[hn];simp,by simp,fun f hf=>absurd hf O_,trivial,fun n h h1=>by rw[c n h]at h1;omega,fun n h=>by rw[c n h];simp,by simp,by simp[Ks],?_,fun a b l m h1=>by rw[c a l]at h1;omega⟩
 ·rw[hn,c n h];simp[stk]
 ·have:zg part≤part.length:=Kq
  simp;omega
theorem dM(w0:World){F:Nat→Prop}{ao:Option Addr}{cap:Nat}{g:bU}(K:Sl w0 F ao cap g)(hF:∀b,F b→b<w0.heap.size)(hG:okG g)(hgl:g.length≤1099511627776):
  Rt Tryz.prog 123 [.slice ao g.length cap].toArray w0 fun v w'=>∃p,Own w' w0.heap.size 3 cZ v p∧PartsOK g p∧Ext w0 w':=by
 refine dD Tryz.func123 Tryz.ntmps123 rfl rfl ?_;refine Q3 ?_;refine aD (fun x=>Ext w0 x) [(0,true),(1,true),(3,true),(5,true)] [2,4,6] [(7,true),(8,false),(9,true)] mixed O8 (Ext.drew w0) ?_;refine RR ?_;refine aQ [⟨2,15,fun v N w=>Own w w0.heap.size 3 cZ v (List.replicate g.length (0:Int))∧∃b,v.ownBlock=some b∧N b⟩,⟨4,17,fun v N w=>Own w w0.heap.size 3 cZ v (List.replicate g.length (0:Int))∧∃b,v.ownBlock=some b∧N b⟩,
  ⟨6,19,fun v N w=>Own w w0.heap.size 3 cZ v (List.replicate g.length (0:Int))∧∃b,v.ownBlock=some b∧N b⟩] rfl rfl rfl (Ext.drew w0) ?_ ?_
 ·intro e he
  simp only[LN,L6,or_false]at he
  rcases he with rfl|rfl|rfl
  all_goals
   refine⟨⟨_,rfl,rfl,rfl,fun w' hS=>?_⟩,rfl,rfl,fun v N w1 w2 h hE=>⟨h.1.extN hE,h.2⟩⟩;refine eW (α:=Int) rfl rfl rfl rfl O7 Pb (fun w2 ho hgr=>?_);have hE:Ext w' w2:=(Ext.refl w').grown hgr Pu Pn;have hS:Ext w0 w':=hS;exact WL.nil (aR (fun b=>b=w'.heap.size) rfl (hS.trans hE) hE ⟨ho.low hS.size,_,rfl,rfl⟩ (fun b R=>by subst R;exact⟨MM _,(ho.lt _ rfl).2.1⟩))
 intro w1 T hE1 nV N1 h1 _ lV N2 h2 d2 pV N3 h3 d3
 obtain⟨h1,L,hnb,m1⟩:=h1;obtain⟨h2,lb,hlb,m2⟩:=h2;obtain⟨h3,pb,hpb,m3⟩:=h3;have n12:L≠lb:=fun e=>d2 N1 O_ L m1 (by rw[e];exact m2)
 have n13:L≠pb:=fun e=>d3 N1 O_ L m1 (by rw[e];exact m3)
 have n23:lb≠pb:=fun e=>d3 N2 O_ lb m2 (by rw[e];exact m3)
 dsimp only;have T:Ext w0 w1:=T;obtain⟨no,nc,hnv⟩:=h1.val;obtain⟨lo,lc,hlv⟩:=h2.val;obtain⟨po,pc,hpv⟩:=h3.val;subst hnv hlv hpv;refine HL.build rfl rfl rfl rfl rfl ?_;refine cr rfl (dX rfl rfl rfl fun w2 hb2 X=>?_);have Y:=T.trans X;refine WL.nil (a_ Y ?_);refine RR ?_;have hsz1:w0.heap.size≤w1.heap.size:=T.size;have g1:=h1.lt _ hnb;have g2:=h2.lt _ hlb;have g3:=h3.lt _ hpb;have hM2:TM w2 w0.heap.size w1.heap.size (.slice ao g.length cap) (.slice no (List.replicate g.length (0:Int)).length nc) (.slice lo (List.replicate g.length (0:Int)).length lc) (.slice po (List.replicate g.length (0:Int)).length pc) (.slice none 0 0) L lb pb ⟨List.replicate g.length 0,List.replicate g.length 0,List.replicate g.length 0,0,0⟩ (v_ []):=
  ⟨hb2,h1.extN X,h2.extN X,h3.extN X,Own.nil,hsz1,hnb,hlb,hpb,⟨n12,n13,n23,by omega,by omega,by omega⟩,fun k hk=>by simp[Value.ownBlock]at hk⟩
 generalize hnV:Value.slice no (List.replicate g.length (0:Int)).length nc=nV at*
 generalize hlV:Value.slice lo (List.replicate g.length (0:Int)).length lc=lV at*
 generalize hpV:Value.slice po (List.replicate g.length (0:Int)).length pc=pV at*
 generalize hbb:w1.heap.size=b at*
 clear h1 h2 h3 g1 g2 g3 hb2 T X hE1 d2 d3 m1 m2 m3 hnV hlV hpV;apply bz;refine Qj ?_;refine CW.loop (S:=Nat×List Int) (fun x=>[(3,Py g.length),(4,Pz b),(22,Py g.length),(23,Py x.1)])
  (fun x w=>x.1≤g.length∧x.2.length=g.length∧(∀j,j<x.1→x.2.getD j (-1)= -1)∧TM w w0.heap.size b (.slice ao g.length cap) nV lV pV (.slice none 0 0) L lb pb ⟨List.replicate g.length 0,List.replicate g.length 0,x.2,0,0⟩ (v_ [])∧Ext w0 w) (fun x=>g.length -x.1) (0,List.replicate g.length 0) O6 ⟨by omega,by simp,fun j y=>absurd y O_,hM2,Y⟩ ?_
 rintro⟨i,part⟩ w3 ⟨hi,z,G,c,n⟩
 dsimp only at hi z G c
 refine Qt ?_;apply CW.cond rfl<;>intro d
 ·simp at d
  have R:=c.blk;obtain⟨hn1,hn2,hn3,hn4,hn5,hn6⟩:=c.ne;refine QI ?_;refine ft (u:=Py (-1)) (yv:=(-1:Int)) rfl rfl rfl rfl c.part Pa Pg Pg Pt (fun O q hp4 B=>?_);have C:TM O w0.heap.size b (.slice ao g.length cap) nV lV pV (.slice none 0 0) L lb pb ⟨List.replicate g.length 0,List.replicate g.length 0,part.set i (-1),0,0⟩ (v_ []):=
   ⟨R.kept B (fun e=>by rw[c.hpb]at e;cases e;exact hn6 rfl),c.num.keptN B (fun g K e=>by rw[c.hnb]at K;rw[c.hpb]at e;cases K;cases e;exact hn2 rfl),c.low.keptN B (fun g K e=>by rw[c.hlb]at K;rw[c.hpb]at e;cases K;cases e;exact hn3 rfl),hp4,Own.nil,c.ge,c.hnb,c.hlb,c.hpb,c.ne,c.sne⟩
  have D:Ext w0 O:=n.grown B n.size (fun k hk=>(c.part.lt k hk).1);refine Qc ?_;refine EX.back (i+1,part.set i (-1)) O6 ⟨d,by simp[z],fun j y=>?_,C,D⟩ (by simp only;omega);dsimp only;rw[qW O7];split
  ·rfl
  ·exact G j (by dsimp only at y;omega)
 simp at d
 have:i=g.length:=by omega
 subst this;have hI0:=TInv.start g part z G;clear d hi G;refine Q9 ?_;refine CW.loop (S:=Nat×Ts×Value) (fun x=>[(3,Py g.length),(4,Pz b),(33,Py g.length),(34,Py x.1)])
  (fun x w=>x.1≤g.length∧TInv g x.2.1 []∧TM w w0.heap.size b (.slice ao g.length cap) nV lV pV x.2.2 L lb pb x.2.1 (v_ [])∧Ext w0 w∧∀j,j<x.1→0<x.2.1.nm j) (fun x=>g.length -x.1) (0,_,.slice none 0 0) O6 ⟨by omega,hI0,c,n,fun j y=>absurd y O_⟩ ?_
 clear hI0 c n hM2 Y;rintro⟨i,s,sV⟩ w3 ⟨hi,V,c,n,E⟩
 dsimp only at hi V c E
 refine Qt ?_;apply CW.cond rfl<;>intro d
 ·simp at d
  have R:=c.blk;have hil:i<s.num.length:=by rw[V.ln];exact d
  have en:s.num[i]=s.nm i:=(qS hil).symm;refine QI ?_;refine eE rfl rfl rfl rfl rfl c.num hil Pg (fun u q P=>?_);obtain rfl:=P.int;rw[en];refine PN ?_;apply CW.cond rfl<;>intro M
  ·have M:s.nm i=0:=by simpa using M
   refine PY ?_;refine WL.call rfl rfl rfl (Iw w0 w3 n K hF hG hgl c V d M) ?_;rintro _ O ⟨sV4,s4,C,hI4,D,hmo,hv4⟩
   refine Qc ?_;refine EX.back (i+1,s4,sV4) O6 ⟨d,hI4,C,D,fun j y=>?_⟩ (by simp only;omega);by_cases e:j=i
   ·subst e;exact hv4
   ·exact hmo j (E j (by dsimp only at y;omega))
  ·have M:s.nm i≠0:=by simpa using M
   have:=V.non i d;refine PI ?_;refine EX.back (i+1,s,sV) O6 ⟨d,V,c,n,fun j y=>?_⟩ (by simp only;omega);by_cases e:j=i
   ·subst e;dsimp only;omega
   ·exact E j (by dsimp only at y;omega)
 simp at d
 have:i=g.length:=by omega
 subst this;clear d hi;have R:=c.blk;have m:∀a,a<g.length→0≤s.pt a:=fun a ha=>by
  rcases(V.vis a ha).1 (E a ha)with h|h
  ·simp[stk]at h
  ·exact h
 have hgn:=V.gn;have hg0:=V.g0;have z:=V.lp;obtain⟨gn,egn⟩:=J7 hg0;rw[egn]at R
 have hgnl:gn≤g.length:=by omega
 refine QT ?_;refine eW (α:=Int) rfl rfl rfl rfl O7 Pb (fun O t B=>?_);have W:Ext w3 O:=(Ext.refl w3).grown B Pu Pn;have C:=c.ext W;have D:=n.trans W;have hb4:=C.blk;refine Qt ?_;refine eW (α:=Int) rfl rfl rfl rfl O7 Pb (fun w5 r hg5=>?_);have J:Ext O w5:=(Ext.refl O).grown hg5 Pu Pn;have hM5:=C.ext J;have hE5:=D.trans J;have I:=(t.extN J).low n.size;have r:=r.low D.size;have hnb34:w3.heap.size<O.heap.size:=(t.lt _ rfl).2.1;have l1:=c.lts.1;have l4:=c.lts.2.2.2.1;have hge3:=n.size;have hge4:=D.size;generalize hnm:Value.slice (some ⟨w3.heap.size,0,none⟩) gn gn=mV at*
 generalize hou:Value.slice (some ⟨O.heap.size,0,none⟩) g.length g.length=oV at*
 have hmb:mV.ownBlock=some w3.heap.size:=by rw[←hnm];rfl
 have hob:oV.ownBlock=some O.heap.size:=by rw[←hou];rfl
 have hC0:CInv s.part s.got 0 (List.replicate gn 0) 0 (List.replicate g.length 0):=by
  have:=CInv.start (q:=s.part) (out:=List.replicate g.length 0) hg0 (by simp[z]);rwa[egn,Kb,←egn]at this
 have hsame:∀a b,a<g.length→b<g.length→(s.part.getD a 0=s.part.getD b 0↔Rch g [(a:Int)] b∧Rch g [(b:Int)] a):=by
  intro a b ha R
  rw[←V.scc a b ha R (m a ha) (m b R)];unfold Ts.pt;rw[qS O7,qS O7,qS O7,qS O7]
 have hq0:∀a,a<g.length→0≤s.part.getD a 0:=fun a ha=>by
  have:=m a ha;unfold Ts.pt at this
  rw[qS O7]at this⊢
  exact this
 have hql:∀a,a<g.length→s.part.getD a 0<s.got:=fun a ha=>by
  have:=V.ptl a ha;unfold Ts.pt at this
  rw[qS O7]at this⊢
  exact this
 have hmS:¬tS b L lb pb sV w3.heap.size:=by
  obtain⟨a1,a2,a3,a4,a5,_⟩:=c.lts;rintro(h1|h1|h1|h1|h1)
  ·omega
  ·omega
  ·omega
  ·omega
  ·have:=a5 _ h1;omega
 have hoS:¬tS b L lb pb sV O.heap.size:=by
  obtain⟨a1,a2,a3,a4,a5,_⟩:=c.lts;rintro(h1|h1|h1|h1|h1)
  ·omega
  ·omega
  ·omega
  ·omega
  ·have:=a5 _ h1;omega
 clear R hb4 C t B hg5 W J hnm hou;refine Qj ?_;refine CW.loop (S:=Nat×List Int×Int×List Int) (fun x=>[(4,Pz b),(7,mV),(8,Py x.2.2.1),(9,oV),(56,Py g.length),(57,Py x.1)])
  (fun x w=>x.1≤g.length∧CInv s.part s.got x.1 x.2.1 x.2.2.1 x.2.2.2∧TM w w0.heap.size b (.slice ao g.length cap) nV lV pV sV L lb pb s (v_ [])∧Own w w0.heap.size 3 cZ mV x.2.1∧Own w w0.heap.size 3 cZ oV x.2.2.2∧Ext w0 w) (fun x=>g.length -x.1) (0,_,0,_) O6 ⟨by omega,hC0,hM5,I,r,hE5⟩ ?_
 clear hM5 I r hE5 hC0 c;rintro⟨i,name,next,out⟩ w6 ⟨hi,hC,c,l,H,hE6⟩
 dsimp only at hi hC l H
 refine Qt ?_;apply CW.cond rfl<;>intro d
 ·simp at d
  have R:=c.blk;have A:i<s.part.length:=by omega
  have ei:s.part[i]=s.part.getD i 0:=(qS A).symm;obtain⟨k,ek⟩:=J7 (hq0 i d);have hkl:=hql i d;have hnl:=hC.ln;have Q:k<name.length:=by omega
  have hk0:=hC.n0 k;have hCle:=hC.le;have hio:i<out.length:=by rw[hC.lo];exact A
  have enk:name[k]=name.getD k 0:=(qS Q).symm;obtain⟨hn1,hn2,hn3,hn4,hn5,hn6⟩:=c.ne;dsimp only;apply CW.skip;apply bz;apply CW.seq;apply CW.block;apply CW.seq;apply CW.region;refine Ri ?_;apply WL.nil;apply bz;refine aB (S:=List Int×Int) (fun x=>[(4,Pz b),(7,mV),(8,Py x.2),(9,oV),(10,Py i),(56,Py g.length),(57,Py i)])
   (fun x w'=>∃out',CInv s.part s.got (i+1) x.1 x.2 out'∧out'=out.set i (x.1.getD k 0 -1)∧x.1.length=name.length∧TM w' w0.heap.size b (.slice ao g.length cap) nV lV pV sV L lb pb s (v_ [])∧Own w' w0.heap.size 3 cZ mV x.1∧Own w' w0.heap.size 3 cZ oV out∧Ext w0 w') ?_ ?_
  ·refine QW ?_
   refine eE rfl rfl rfl rfl rfl c.part A Pg (fun u q P=>?_);obtain rfl:=P.int;rw[ei,ek];skip;refine eE rfl rfl rfl rfl rfl l Q Pg (fun u q P=>?_);obtain rfl:=P.int;rw[enk];refine PN ?_;apply CW.cond rfl<;>intro M
   ·have M:name.getD k 0=0:=by simpa using M
    have Z:=hC.new A (by rw[ek,Kb];exact Q) (by rw[ek,Kb];exact M);rw[ek,Kb]at Z
    refine Qn ?_;refine eE rfl rfl rfl rfl rfl c.part A Pg (fun u q P=>?_);obtain rfl:=P.int;rw[ei,ek];refine Ri ?_;refine ft (u:=Py (next+1)) (yv:=next+1) rfl rfl rfl rfl l Q Pg Pg Pt (fun w7 q f hg7=>?_);have U:=c.off hg7 (fun j y=>by
     rw[hmb]at y
     cases y
     exact hmS)
    have o:=H.keptN hg7 (fun g K e=>by rw[hob]at K;rw[hmb]at e;cases K;simp at e;omega);have hE7:Ext w0 w7:=hE6.grown hg7 hE6.size (fun j y=>(l.lt j y).1);refine PZ ?_;refine aU (name.set k (next+1),next+1) O6 ⟨_,Z,?_,by simp,U,f,o,hE7⟩;dsimp only;rw[qW Q,OK rfl]
    congr 1;omega
   ·have M:name.getD k 0≠0:=by simpa using M
    have Z:=hC.old A (by rw[ek,Kb];exact M);rw[ek,Kb]at Z
    refine PD ?_;exact aU (name,next) O6 ⟨_,Z,rfl,rfl,c,l,H,hE6⟩
  rintro⟨name',next'⟩ w7 ⟨out',Z,rfl,hnl',U,f,o,hE7⟩
  dsimp only at Z hnl' f⊢
  have hb7:=U.blk;have hkn':k<name'.length:=by omega
  have enk':name'[k]=name'.getD k 0:=(qS hkn').symm;have hk0':=Z.n0 k;have hNle:=Z.le;refine QW ?_;refine eE rfl rfl rfl rfl rfl U.part A Pg (fun u q P=>?_);obtain rfl:=P.int;rw[ei,ek];skip;refine eE rfl rfl rfl rfl rfl f hkn' Pg (fun u q P=>?_);obtain rfl:=P.int;rw[enk'];refine Rv ?_;refine ft (u:=Py (name'.getD k 0 -1)) (yv:=name'.getD k 0 -1) rfl rfl rfl rfl o hio Pg Pg Pt (fun w8 q hout8 hg8=>?_);have hM8:=U.off hg8 (fun j y=>by rw[hob]at y;cases y;exact hoS);have hname8:=f.keptN hg8 (fun g K e=>by rw[hmb]at K;rw[hob]at e;cases K;simp at e;omega);have hE8:Ext w0 w8:=hE7.grown hg8 hE7.size (fun j y=>(o.lt j y).1);refine Qc ?_;exact EX.back (i+1,name',next',_) O6 ⟨d,Z,hM8,hname8,hout8,hE8⟩ (by simp only;omega)
 simp at d
 have:i=g.length:=by omega
 subst this;refine P_ ?_;refine be rfl rfl ⟨out,H,?_,hE6⟩;exact CInv.done (z▸hC) z hq0 hsame
theorem Rc.lt{E:Nat→Nat→Prop}{N a b:Nat}(d:∀u v,E u v→v<N)(c:a<N):Rc E a b→b<N
 |⟨p,n,h⟩=>by
  cases n with
  |zero=>rw[←h.last,h.first];exact c
  |succ n=>rw[←h.last];exact d _ _ (h.step n O7)
theorem Rc.first{E:Nat→Nat→Prop}{a b c:Nat}(h1:Rc E a b)(h2:E b c)(h3:Rc E c a):∃u,E a u∧Rc E u a:=by
 obtain⟨p,n,h⟩:=h1;cases n with
 |zero=>obtain rfl:a=b:=h.first.symm.trans h.last
        exact⟨c,h2,h3⟩
 |succ n=>
  refine⟨p 1,by have:=h.step 0 O7;rwa[h.first]at this,Rc.trans ⟨fun i=>p (i+1),n,rfl,h.last,fun i hi=>h.step (i+1) O7⟩ ((Rc.one h2).trans h3)⟩
theorem kJ{g:bU}{part:List Int}{Ps:List (Nat→Prop)}(j:okG g)(o:PartsOK g part){i:Nat}(hi:i<g.length):
  aM (Eg g) Ps i↔(∃u,u<g.length∧part.getD u 0=part.getD i 0∧∃to∈g.getD u [],part.getD to.toNat 0=part.getD i 0)∧∀P∈Ps,∃x,x<g.length∧P x∧part.getD x 0=part.getD i 0:=by
 have k:∀u v,Eg g u v→v<g.length:=fun u v h=>h.lt j
 have c:∀a b,a<g.length→b<g.length→(part.getD a 0=part.getD b 0↔Rc (Eg g) a b∧Rc (Eg g) b a):=fun a b q p=>by
  rw[o.same a b q p,CO j,CO j]
 constructor
 ·rintro⟨⟨u,h1,h2⟩,h3⟩
  refine⟨⟨i,hi,rfl,(u:Int),h1,?_⟩,fun P hP=>?_⟩
  ·exact((c u i (k _ _ h1) hi).2 ⟨h2,Rc.one h1⟩)
  ·obtain⟨x,e,k1,k2⟩:=h3 P hP
   exact⟨x,Rc.lt k hi k1,e,(c x i (Rc.lt k hi k1) hi).2 ⟨k2,k1⟩⟩
 ·rintro⟨⟨u,n,h1,to,h2,h3⟩,h4⟩
  have t:=AE j u to h2;have d:Eg g u to.toNat:=by show((to.toNat:Nat):Int)∈_;rw[show((to.toNat:Nat):Int)=to by omega];exact h2
  refine⟨Rc.first ((c u i n hi).1 h1).2 d ((c _ i (k _ _ d) hi).1 h3).1,fun P hP=>?_⟩;obtain⟨x,e,r,m⟩:=h4 P hP;exact⟨x,r,((c x i e hi).1 m).2,((c x i e hi).1 m).1⟩
section
variable {g:bU}{f li:List Int}{sm:bU}
theorem Eg.lt1{g:bU}{u v:Nat}(h:Eg g u v):u<g.length:=by
 unfold Eg at h
 apply J1;intro hn
 rw[KT,KZ O7]at h
 simp at h
end
def pB(mu no:List Nat)(k x:Nat):Bool:=decide (x&&&mu.getD k 0=mu.getD k 0)&&decide (x&&&no.getD k 0=0)
structure AccRun(st:List Int)(nx:List (List Int))(mu no:List Nat)(fr:List (List Int))(L r:Nat→Nat):Prop where
 first:(r 0:Int)∈st
 fits:∀i,pB mu no (r i) (L i)=true
 step:∀i,(r (i+1):Int)∈nx.getD (r i) []
 fair:∀F∈fr,∀i,∃j,i≤j∧(r j:Int)∈F
def Acc(st:List Int)(nx:List (List Int))(mu no:List Nat)(fr:List (List Int))(L:Nat→Nat):Prop:=∃r,AccRun st nx mu no fr L r
section
variable {st:List Int}{nx:List (List Int)}{mu no:List Nat}{fr:List (List Int)}{s l:List Nat}
end
theorem Acc.congr{st:List Int}{nx:List (List Int)}{mu no:List Nat}{fr:List (List Int)}{L L':Nat→Nat}(h:∀i,L i=L' i):Acc st nx mu no fr L↔Acc st nx mu no fr L':=by
 rw[show L=L' from funext h]
abbrev de:=Int×Int
theorem vt{ps t:List de}{p:de}(h:p∈ps):(ps++t).idxOf p=ps.idxOf p:=by rw[Li,OK h]
theorem vv{ps:List de}{p:de}(h:p∉ps):ps.idxOf p=ps.length:=by
 have h1:=List.idxOf_le_length (a:=p) (l:=ps);have h2:=mt Lj.1 h;omega
theorem qO{α:Type}{l t:List α}{j:Nat}{d:α}(h:j<l.length):(l++t).getD j d=l.getD j d:=by rw[KT,KT,KU h]
theorem qN{α:Type}{l:List α}{x d:α}:(l++[x]).getD l.length d=x:=by rw[KT,KV Pu];simp
theorem qP{ps:List de}{n:Nat}(h:n<ps.length):ps.getD n (0,0)∈ps:=by rw[KT,KY h];exact Lc _
theorem vm{ps:List de}{p:de}(h:p∈ps):ps.idxOf p<ps.length∧ps.getD (ps.idxOf p) (0,0)=p:=by
 have a:=Lj.2 h;exact⟨a,by rw[KT,KY a,Nk,List.getElem_idxOf a]⟩
abbrev cD:=List Int×List (List Int)×List Nat×List Nat×List (List Int)
def aa(A:cD)(L:Nat→Nat):Prop:=Acc A.1 A.2.1 A.2.2.1 A.2.2.2.1 A.2.2.2.2 L
def db(A:cD):Prop:=(∀x∈A.1,0≤x)∧∀k,∀x∈A.2.1.getD k [],0≤x
def fK(ps:List de)(p:de):List de:=if p∈ps then ps else ps++[p]
def CH(fit:de→Bool):List de→List de→List Int→List de×List Int
 |[],ps,l=>(ps,l)
 |p::r,ps,l=>if fit p=true then CH fit r (fK ps p) (l++[(ps.idxOf p:Int)])else CH fit r ps l
def Bs(l k:List Int):List de:=l.flatMap fun x=>k.map fun y=>(x,y)
section
variable {fit:de→Bool}
theorem addF_mem{ps:List de}{p q:de}:q∈fK ps p↔q∈ps∨q=p:=by
 unfold fK;split
 ·exact⟨.inl,fun h=>h.elim id (fun h=>by subst h;assumption)⟩
 ·simp
theorem fL{ps:List de}{p:de}:∃t,fK ps p=ps++t:=by
 unfold fK;split
 ·exact⟨[],by simp⟩
 ·exact⟨[p],rfl⟩
theorem fN{ps:List de}{p:de}(h:ps.Nodup):(fK ps p).Nodup:=by
 unfold fK;split
 ·exact h
 ·rename_i hn
  rw[L3];refine⟨h,Ma _ _,fun a d b c e=>?_⟩;rw[L0]at c
  exact hn (by rw[←c,←e];exact d)
theorem fM{ps:List de}{p:de}:(fK ps p).idxOf p=ps.idxOf p:=by
 unfold fK;split
 ·rfl
 ·rename_i hn
  rw[Li,OJ hn,vv hn];simp
structure PutF(fit:de→Bool)(r ps:List de)(l:List Int)(q:List de×List Int):Prop where
 nd:q.1.Nodup
 app:∃t,q.1=ps++t
 new:∀p∈q.1,p∈ps∨(p∈r∧fit p=true)
 all:∀p∈r,fit p=true→p∈q.1
 num:∀i,i∈q.2↔i∈l∨∃p∈r,fit p=true∧i=(q.1.idxOf p:Int)
 len:q.2.length≤l.length+r.length
theorem CI:∀(r ps:List de) (l:List Int),ps.Nodup→PutF fit r ps l (CH fit r ps l)
 |[],ps,l,h=>⟨h,⟨[],by simp[CH]⟩,fun p e=>.inl e,(fun p e=>by cases e),fun i=>by simp[CH],by simp[CH]⟩
 |p::r,ps,l,h=>by
  rw[CH];split
  ·rename_i hf
   have k:=CI r (fK ps p) (l++[(ps.idxOf p:Int)]) (fN h);obtain⟨t,d⟩:=k.app;obtain⟨f,c⟩:=fL (ps:=ps) (p:=p);refine⟨k.nd,⟨f++t,by rw[d,c,Kh]⟩,fun q hq=>?_,fun q hq a=>?_,fun i=>?_,?_⟩
   ·rcases k.new q hq with h1|h1
    ·rcases addF_mem.1 h1 with h1|h1
     ·exact .inl h1
     ·subst h1;exact .inr ⟨LP,hf⟩
    ·exact .inr ⟨LO _ h1.1,h1.2⟩
   ·rcases LN.1 hq with rfl|hq
    ·rw[d];exact LL _ (addF_mem.2 (.inr rfl))
    ·exact k.all q hq a
   ·have b:(CH fit r (fK ps p) (l++[(ps.idxOf p:Int)])).1.idxOf p=ps.idxOf p:=by
     rw[d,Li,OK (addF_mem.2 (.inr rfl)),fM]
    rw[k.num];constructor
    ·rintro(h1|⟨q,h1,h2,h3⟩)
     ·rcases LK.1 h1 with h1|h1
      ·exact .inl h1
      ·rw[L0]at h1
       exact .inr ⟨p,LP,hf,by rw[b];exact h1⟩
     ·exact .inr ⟨q,LO _ h1,h2,h3⟩
    ·rintro(h1|⟨q,h1,h2,h3⟩)
     ·exact .inl (LL _ h1)
     ·rcases LN.1 h1 with rfl|h1
      ·exact .inl (LM _ (by rw[L0,h3,b]))
      ·exact .inr ⟨q,h1,h2,h3⟩
   ·have:=k.len;simp only[Ll,Lm,Lt]at this⊢;omega
  ·rename_i hf
   have k:=CI r ps l h;refine⟨k.nd,k.app,fun q hq=>?_,fun q hq a=>?_,fun i=>?_,?_⟩
   ·exact(k.new q hq).imp id fun h1=>⟨LO _ h1.1,h1.2⟩
   ·rcases LN.1 hq with rfl|hq
    ·exact absurd a hf
    ·exact k.all q hq a
   ·rw[k.num]
    constructor
    ·rintro(h1|⟨q,h1,h2,h3⟩)
     ·exact .inl h1
     ·exact .inr ⟨q,LO _ h1,h2,h3⟩
    ·rintro(h1|⟨q,h1,h2,h3⟩)
     ·exact .inl h1
     ·rcases LN.1 h1 with rfl|h1
      ·exact absurd h2 hf
      ·exact .inr ⟨q,h1,h2,h3⟩
   ·have:=k.len;simp only[Lm]at this⊢;omega
theorem pairsX_mem{l k:List Int}{p:de}:p∈Bs l k↔p.1∈l∧p.2∈k:=by
 unfold Bs;simp only[LS,LU];constructor
 ·rintro⟨x,b,y,a,rfl⟩;exact⟨b,a⟩
 ·rintro⟨h1,h2⟩;exact⟨p.1,h1,p.2,h2,rfl⟩
theorem zY:∀(n:Nat) (l:List Nat),l.Nodup→(∀x∈l,x<n)→l.length≤n
 |0,l,_,h=>by
  cases l with
  |nil=>simp
  |cons x r=>have:=h x O_;omega
 |n+1,l,hd,h=>by
  by_cases hn:n∈l
  ·have h1:=zY n (l.erase n) (hd.erase n) (fun x a=>by
    have h2:=(List.Nodup.mem_erase_iff hd).1 a;have:=h x h2.2;have:=h2.1;omega)
   rw[Lq hn]at h1
   omega
  ·have:=zY n l hd (fun x a=>by
    have h2:=h x a;have:x≠n:=fun e=>hn (e▸a)
    omega)
   omega
theorem zV{a b:Nat}{ps:List de}(hn:ps.Nodup)(h:∀p∈ps,(0≤p.1∧p.1<a)∧0≤p.2∧p.2<b):ps.length≤a*b:=by
 have hd:∀(x y:Nat),y<b→(b*x+y) / b=x∧(b*x+y) % b=y:=fun x y g=>by
  have l:0<b:=by omega
  exact⟨by rw[Nat.mul_add_div l,Mz g,Mx],by rw[Nat.mul_add_mod,MT g]⟩
 have h1:=zY (a*b) (ps.map fun p=>b*p.1.toNat+p.2.toNat) (by
  unfold List.Nodup at hn⊢
  rw[L_];refine(L9.2 fun {p q} c=>?_);have d:p∈ps:=c.subset O_;have hq:q∈ps:=c.subset O_;have f:=L9.1 hn c;intro e
  obtain⟨⟨p1,p2⟩,j,i⟩:=h p d;obtain⟨⟨r,o⟩,n,m⟩:=h q hq;have d1:=hd p.1.toNat p.2.toNat O7;have d2:=hd q.1.toNat q.2.toNat O7;rw[e]at d1
  exact f (Prod.ext (by have:=d1.1.symm.trans d2.1;omega) (by have:=d1.2.symm.trans d2.2;omega))) (fun x k=>by
  obtain⟨p,d,rfl⟩:=LU.1 k;obtain⟨⟨p1,p2⟩,j,i⟩:=h p d;have h2:p.1.toNat+1≤a:=by omega
  have h3:=MW b h2;rw[Nat.mul_add,MY,Nat.mul_comm b a]at h3
  omega)
 simpa using h1
end
abbrev UP:=List (Int×Int)
abbrev wR(up:UP):List Int:=up.map Prod.fst
structure WyC(g:List (List Int))(fr:List Int)(al:Nat→Bool)(up:UP):Prop where
 nd:(wR up).Nodup
 rg:AF g.length (wR up)
 par:∀i (hi:i<up.length),(up[i].2= -1∧up[i].1∈fr)∨∃j,∃hj:j<up.length,j<i∧up[i].2=up[j].1∧up[i].1∈g.getD up[j].1.toNat []∧al up[i].1.toNat=true
structure WyOK(g:List (List Int))(fr:List Int)(to al:Nat→Bool)(r:List Int):Prop where
 ne:0<r.length
 len:r.length≤g.length
 rg:AF g.length r
 st:r.getD 0 0∈fr
 ed:∀i,i+1<r.length→r.getD (i+1) 0∈g.getD (r.getD i 0).toNat []∧al (r.getD (i+1) 0).toNat=true
 en:to (r.getD (r.length -1) 0).toNat=true
def fG(g:List (List Int))(fr:List Int)(to al:Nat→Bool):Prop:=∃C:List Int,(∀x∈fr,x∈C)∧∀x∈C,to x.toNat=false∧∀k∈g.getD x.toNat [],al k.toNat=true→k∈C
def fQ(part:List Int)(only:Int)(k:Nat):Bool:=decide (only<0)||decide (part.getD k 0=only)
section
variable {g:List (List Int)}{fr:List Int}{to al:Nat→Bool}{up:UP}
theorem AH:∀{n:Nat} {l:List Int},l.Nodup→AF n l→l.length≤n:=fun {n l} hn h=>by
 have h1:=zY n (l.map Int.toNat) (by
  unfold List.Nodup at hn⊢
  rw[L_];refine L9.2 fun {a b} c=>?_
  have d:=h a (c.subset O_);have f:=h b (c.subset O_);have:=L9.1 hn c;omega) (fun x e=>by
  obtain⟨a,d,rfl⟩:=LU.1 e;have:=h a d;omega)
 simpa using h1
theorem WyC.nil:WyC g fr al []:=⟨List.Pairwise.nil,(fun x a=>by cases a),fun i hi=>absurd hi O_⟩
theorem WyC.len(h:WyC g fr al up):up.length≤g.length:=by
 have:=AH h.nd h.rg;simpa using this
theorem WyC.push(h:WyC g fr al up){x:Int×Int}(hn:x.1∉wR up)(n:0≤x.1∧x.1<g.length)
  (o:(x.2= -1∧x.1∈fr)∨∃j,∃d:j<up.length,x.2=up[j].1∧x.1∈g.getD up[j].1.toNat []∧al x.1.toNat=true):WyC g fr al (up++[x]):=by
 refine⟨?_,fun y c=>?_,fun i hi=>?_⟩
 ·unfold wR
  rw[LE,L3];refine⟨h.nd,by simp,fun a p b l e=>?_⟩;simp at l
  subst l;subst e;exact hn p
 ·unfold wR at c
  rw[LE]at c
  rcases LK.1 c with c|c
  ·exact h.rg y c
  ·simp at c;subst c;exact n
 ·by_cases m:i<up.length
  ·rw[K7 m]
   rcases h.par i m with k|⟨j,d,k1,k2,k3⟩
   ·exact .inl k
   ·exact .inr ⟨j,by simp;omega,k1,by rw[K7 d];exact k2,by rw[K7 d];exact k3⟩
  ·have f:i=up.length:=by simp at hi;omega
   subst f;rw[K8 Pu];simp only[M8,K_];rcases o with k|⟨j,d,k⟩
   ·exact .inl k
   ·exact .inr ⟨j,by simp;omega,d,by rw[K7 d];exact k⟩
structure BackI(g:List (List Int))(fr:List Int)(al:Nat→Bool)(up:UP)(h q:Nat)(out:List Int):Prop where
 hq:q≤up.length
 hh:h<up.length
 len:out.length+q≤h+1
 rg:AF g.length out
 rv:∀i,i+1<out.length→out.getD i 0∈g.getD (out.getD (i+1) 0).toNat []∧al (out.getD i 0).toNat=true
 nx:∀(h0:0<q),0<out.length→out.getD (out.length -1) 0∈g.getD (up[q -1]'O7).1.toNat []∧al (out.getD (out.length -1) 0).toNat=true
 hd:0<out.length→out.getD 0 0=up[h].1
 em:out.length=0→q=h+1
 fn:q=0→0<out.length∧out.getD (out.length -1) 0∈fr
def Ai(up:UP)(q:Nat):Int:=if h:0<q∧q≤up.length then(up[q -1]'O7).1 else -1
theorem BackI.start{h:Nat}(hh:h<up.length):BackI g fr al up h (h+1) []:=
 ⟨hh,hh,by simp,(fun x a=>by cases a),fun i hi=>absurd hi O_,fun _ k=>absurd k O_,fun k=>absurd k O_,fun _=>rfl,fun k=>by cases k⟩
theorem qQ{l:List Int}{x:Int}{i:Nat}(h:i<l.length):(l++[x]).getD i 0=l.getD i 0:=by
 rw[KT,KU h,←KT]
theorem qR{l:List Int}{x:Int}:(l++[x]).getD l.length 0=x:=by
 rw[KT,KV Pu];simp
theorem BackI.step(p:WyC g fr al up){h q:Nat}{out:List Int}(b:BackI g fr al up h q out)(n:0<q):∃a,a<q∧(up[q -1]'(by have:=b.hq;omega)).2=Ai up a∧BackI g fr al up h a (out++[(up[q -1]'(by have:=b.hq;omega)).1]):=by
 have hq:=b.hq;have d:q -1<up.length:=by omega
 have f:0≤up[q -1].1∧up[q -1].1<g.length:=p.rg _ (LU.2 ⟨_,Lc d,rfl⟩);have o:=b.len;have common:∀a (m:a<q),(∀(h1:0<a),up[q -1].1∈g.getD (up[a -1]'O7).1.toNat []∧al up[q -1].1.toNat=true)→(a=0→up[q -1].1∈fr)→BackI g fr al up h a (out++[up[q -1].1]):=by
  intro a m hn hf
  refine⟨by omega,b.hh,by simp;omega,fun x c=>?_,fun i hi=>?_,fun h1 _=>?_,fun _=>?_,fun k=>by simp at k,fun k=>⟨by simp,?_⟩⟩
  ·rcases LK.1 c with c|c
   ·exact b.rg x c
   ·rw[L0]at c;subst c;exact f
  ·simp at hi
   rw[qQ (i:=i) O7];by_cases e:i+1<out.length
   ·rw[qQ (i:=i+1) e];exact b.rv i e
   ·obtain e:i+1=out.length:=by omega
    rw[e,qR];have:=b.nx n O7;rw[show out.length -1=i by omega]at this
    exact this
  ·rw[show(out++[up[q -1].1]).length -1=out.length by simp,qR]
   exact hn h1
  ·by_cases e:0<out.length
   ·rw[qQ e];exact b.hd e
   ·have r:out.length=0:=by omega
    have s:=b.em r;have:(out++[up[q -1].1]).getD 0 0=up[q -1].1:=by
     have:=qR (l:=out) (x:=up[q -1].1);rwa[r]at this
    rw[this]
    congr 2
    omega
  ·rw[show(out++[up[q -1].1]).length -1=out.length by simp,qR]
   exact hf k
 rcases p.par (q -1) d with⟨k1,k2⟩|⟨j,t,k1,k2,k3,k4⟩
 ·exact⟨0,n,by rw[k1];unfold Ai;rw[dif_neg O7],common 0 n (fun h1=>absurd h1 O7) (fun _=>k2)⟩
 ·refine⟨j+1,by omega,?_,common (j+1) O7 (fun _=>⟨k3,k4⟩) (fun e=>by cases e)⟩
  rw[k2];unfold Ai;rw[OF ⟨by omega,by omega⟩];rfl
theorem BackI.done(k:WyC g fr al up){h:Nat}{out:List Int}(b:BackI g fr al up h 0 out)(j:to (up[h]'b.hh).1.toNat=true):WyOK g fr to al out.reverse:=by
 have d:=b.len;have f:=k.len;have hh:=b.hh;have c:=(b.fn rfl).1;have a:∀i,i<out.length→out.reverse.getD i 0=out.getD (out.length -1 -i) 0:=fun i hi=>by
  rw[KT,List.getElem?_reverse hi,←KT]
 refine⟨by simpa using c,by rw[Ly];omega,fun x e=>b.rg x (List.mem_reverse.1 e),?_,fun i hi=>?_,?_⟩
 ·rw[a 0 c];exact(b.fn rfl).2
 ·rw[Ly]at hi
  rw[a _ hi,a i O7];have:=b.rv (out.length -1 -(i+1)) O7;rw[show out.length -1 -(i+1)+1=out.length -1 -i by omega]at this
  exact this
 ·rw[Ly,a _ O7,show out.length -1 -(out.length -1)=0 by omega,b.hd c];exact j
end
theorem vu{ps:List de}{p:de}(h:p∈ps):ps.idxOf p<ps.length:=(vm h).1
structure RunE(fit:de→Bool)(next:de→List de)(start ps:List de)(fr:List Int)(nx:List (List Int)):Prop where
 nd:ps.Nodup
 ok:∀p∈ps,fit p=true
 sm:∀p∈start,fit p=true→p∈ps
 sn:∀i,i∈fr↔∃p∈start,fit p=true∧i=(ps.idxOf p:Int)
 le:nx.length≤ps.length
 nm:∀n,n<nx.length→∀q∈next (ps.getD n (0,0)),fit q=true→q∈ps
 nn:∀n,n<nx.length→∀i,i∈nx.getD n []↔∃q∈next (ps.getD n (0,0)),fit q=true∧i=(ps.idxOf q:Int)
 rc:∀i:Nat,i<ps.length→(i:Int)∈fr∨∃m,m<i∧m<nx.length∧(i:Int)∈nx.getD m []
section
variable {fit:de→Bool}{next:de→List de}{start ps:List de}{fr:List Int}{nx:List (List Int)}
theorem RunE.init:RunE fit next start (CH fit start [] []).1 (CH fit start [] []).2 []:=by
 have k:=CI (fit:=fit) start [] [] List.Pairwise.nil;have a:∀p∈(CH fit start [] []).1,p∈start∧fit p=true:=fun p b=>(k.new p b).resolve_left (fun h=>by cases h)
 refine⟨k.nd,fun p b=>(a p b).2,k.all,fun i=>?_,Nc _,fun n hn=>absurd hn O_,fun n hn=>absurd hn O_,fun i hi=>.inl ?_⟩
 ·rw[k.num]
  exact⟨fun h=>h.resolve_left (fun h=>by cases h),.inr⟩
 ·rw[k.num]
  have c:=Lc hi;exact .inr ⟨_,(a _ c).1,(a _ c).2,by rw[k.nd.idxOf_getElem i hi]⟩
theorem RunE.step(h:RunE fit next start ps fr nx)(hn:nx.length<ps.length):
  RunE fit next start (CH fit (next (ps.getD nx.length (0,0))) ps []).1 fr (nx++[(CH fit (next (ps.getD nx.length (0,0))) ps []).2]):=by
 generalize s:next (ps.getD nx.length (0,0))=r
 have k:=CI (fit:=fit) r ps [] h.nd;generalize CH fit r ps []=q at*
 obtain⟨t,o⟩:=k.app;have j:∀p∈ps,p∈q.1:=fun p b=>by rw[o];exact LL _ b
 have a:∀p∈ps,q.1.idxOf p=ps.idxOf p:=fun p b=>by rw[o];exact vt b
 have u:q.1.length=ps.length+t.length:=by rw[o,Ll]
 have c:∀n,n<ps.length→q.1.getD n (0,0)=ps.getD n (0,0):=fun n hn=>by rw[o];exact qO hn
 have w:=h.le;refine⟨k.nd,fun p b=>(k.new p b).elim (h.ok p) (·.2),fun p b hf=>j p (h.sm p b hf),fun i=>?_,by rw[Ll];simp;omega,fun n d x l hf=>?_,fun n d i=>?_,fun i hi=>?_⟩
 ·rw[h.sn]
  constructor
  ·rintro⟨p,h1,h2,h3⟩;exact⟨p,h1,h2,by rw[a p (h.sm p h1 h2)];exact h3⟩
  ·rintro⟨p,h1,h2,h3⟩;exact⟨p,h1,h2,by rw[←a p (h.sm p h1 h2)];exact h3⟩
 ·simp at d
  rw[c n O7]at l
  by_cases e:n<nx.length
  ·exact j x (h.nm n e x l hf)
  ·obtain rfl:n=nx.length:=by omega
   rw[s]at l
   exact k.all x l hf
 ·simp at d
  rw[c n O7];by_cases e:n<nx.length
  ·rw[qO e,h.nn n e]
   constructor
   ·rintro⟨p,h1,h2,h3⟩;exact⟨p,h1,h2,by rw[a p (h.nm n e p h1 h2)];exact h3⟩
   ·rintro⟨p,h1,h2,h3⟩;exact⟨p,h1,h2,by rw[←a p (h.nm n e p h1 h2)];exact h3⟩
  ·obtain rfl:n=nx.length:=by omega
   rw[qN,s,k.num];exact⟨fun h=>h.resolve_left (fun h=>by cases h),.inr⟩
 ·by_cases e:i<ps.length
  ·rcases h.rc i e with h1|⟨m,h1,h2,h3⟩
   ·exact .inl h1
   ·exact .inr ⟨m,h1,by simp;omega,by rw[qO h2];exact h3⟩
  ·refine .inr ⟨nx.length,by omega,by simp,?_⟩
   rw[qN,k.num];have v:=Lc hi;have f:q.1[i]∉ps:=fun b=>by
    have h1:=a _ b;rw[k.nd.idxOf_getElem i hi]at h1
    have:=vu b;omega
   obtain⟨h1,h2⟩:=(k.new _ v).resolve_left f;exact .inr ⟨_,h1,h2,by rw[k.nd.idxOf_getElem i hi]⟩
variable(h:RunE fit next start ps fr nx)(hl:nx.length=ps.length)
include h hl
theorem RunE.okG:okG nx:=fun l a x b=>by
 obtain⟨n,hn,rfl⟩:=LT.1 a;rw[←show nx.getD n []=nx[n] by rw[KT,KY hn];rfl]at b
 obtain⟨q,h1,h2,rfl⟩:=(h.nn n hn x).1 b;have:=vu (h.nm n hn q h1 h2);omega
theorem RunE.okF:AF nx.length fr:=fun x a=>by
 obtain⟨q,h1,h2,rfl⟩:=(h.sn x).1 a;have:=vu (h.sm q h1 h2);omega
theorem RunE.reach:∀i:Nat,i<nx.length→∃a:Nat,(a:Int)∈fr∧Rc (Eg nx) a i:=fun i=>by
 induction i using Nat.strongRecOn with
 |ind i b=>
  intro hi
  rcases h.rc i O7 with h1|⟨m,h1,h2,h3⟩
  ·exact⟨i,h1,Rc.refl i⟩
  ·obtain⟨a,d,c⟩:=b m h1 h2
   exact⟨a,d,c.trans (Rc.one h3)⟩
end
structure PWay(fit:de→Bool)(next:de→List de)(start:List de)(Ss:List (de→Bool))(r:Nat→de):Prop where
 first:r 0∈start
 fits:∀i,fit (r i)=true
 step:∀i,r (i+1)∈next (r i)
 fair:∀S∈Ss,∀i,∃j,i≤j∧S (r j)=true
def E2(Ss:List (de→Bool))(ps:List de):List (List Bool):=Ss.map fun S=>ps.map S
def bT(g:bU)(part:List Int)(sets:List (List Bool))(c:Int):Prop:=
 (∃u,u<g.length∧part.getD u 0=c∧∃to∈g.getD u [],part.getD to.toNat 0=c)∧∀S∈sets,∃x,x<g.length∧S.getD x false=true∧part.getD x 0=c
abbrev EZ(sets:List (List Bool)):List (Nat→Prop):=sets.map fun S x=>S.getD x false=true
theorem rx{g:bU}{part:List Int}{sets:List (List Bool)}(b:okG g)(a:PartsOK g part){i:Nat}(hi:i<g.length):aM (Eg g) (EZ sets) i↔bT g part sets (part.getD i 0):=by
 rw[kJ b a hi];unfold bT;refine On fun _=>⟨fun h S hS=>?_,fun h P hP=>?_⟩
 ·obtain⟨x,h1,h2,h3⟩:=h _ (LU.2 ⟨S,hS,rfl⟩)
  exact⟨x,h1,h2,h3⟩
 ·obtain⟨S,hS,rfl⟩:=LU.1 hP
  obtain⟨x,h1,h2,h3⟩:=h S hS;exact⟨x,h1,h2,h3⟩
theorem E3{S:de→Bool}{ps:List de}{x:Nat}(a:x<ps.length):(ps.map S).getD x false=S (ps.getD x (0,0)):=by
 rw[KT,K1,KY a,KT,KY a];rfl
section
variable {fit:de→Bool}{next:de→List de}{start ps:List de}{fr:List Int}{nx:List (List Int)}{Ss:List (de→Bool)}{part:List Int}
theorem CL(h:RunE fit next start ps fr nx)(hl:nx.length=ps.length){r:Nat→de}(a:PWay fit next start Ss r):∀i,r i∈ps
 |0=>h.sm _ a.first (a.fits 0)
 |i+1=>by
  have h1:=CL h hl a i;have h2:=vm h1;refine h.nm (ps.idxOf (r i)) O7 _ ?_ (a.fits (i+1));rw[h2.2];exact a.step i
theorem CK(h:RunE fit next start ps fr nx)(hl:nx.length=ps.length)(k:PartsOK nx part):
  (∃r,PWay fit next start Ss r)↔∃c:Int,0≤c∧c<nx.length∧bT nx part (E2 Ss ps) c:=by
 have w:=h.okG hl;constructor
 ·rintro⟨r,e⟩
  have d:=CL h hl e;have A:Way8 (Eg nx) (EZ (E2 Ss ps)) (fun i=>ps.idxOf (r i)):=by
   refine⟨fun i=>?_,fun P hP i=>?_⟩
   ·have h2:=vm (d i)
    refine(h.nn (ps.idxOf (r i)) O7 _).2 ⟨r (i+1),?_,e.fits _,rfl⟩;rw[h2.2];exact e.step i
   ·obtain⟨L,z,rfl⟩:=LU.1 hP
    obtain⟨S,hS,rfl⟩:=LU.1 z;obtain⟨j,h1,h2⟩:=e.fair S hS i;have h3:=vm (d j);refine⟨j,h1,?_⟩;show(ps.map S).getD (ps.idxOf (r j)) false=true;rw[E3 h3.1,h3.2];exact h2
  obtain⟨v,_,m,i,hi⟩:=IA (N:=ps.length) (fun i=>vu (d i)) A;have o:v<nx.length:=by have:=vu (d i);omega
  exact⟨part.getD v 0,k.ge v (by rw[k.len];exact o),k.lt v (by rw[k.len];exact o),(rx w k o).1 m⟩
 ·rintro⟨c,_,_,m⟩
  obtain⟨u,x,s,_⟩:=m.1;rw[←s]at m
  have f:=(rx w k x).2 m;obtain⟨a,y,t⟩:=h.reach hl u x;obtain⟨r,l,e⟩:=kK t f;have b:∀i,r i<nx.length:=fun i=>by
   cases i with
   |zero=>rw[l];have:=h.okF hl _ y;omega
   |succ i=>exact(e.1 i).lt w
  refine⟨fun i=>ps.getD (r i) (0,0),?_,fun i=>h.ok _ (qP (by have:=b i;omega)),fun i=>?_,fun S hS i=>?_⟩
  ·rw[l]
   obtain⟨p,h1,h2,h3⟩:=(h.sn _).1 y;have h4:=vm (h.sm p h1 h2);rw[show a=ps.idxOf p by omega,h4.2];exact h1
  ·obtain⟨q,h1,h2,h3⟩:=(h.nn (r i) (b i) _).1 (e.1 i)
   have h4:=vm (h.nm (r i) (b i) q h1 h2);rw[show r (i+1)=ps.idxOf q by omega,h4.2];exact h1
  ·obtain⟨j,h1,h2⟩:=e.2 _ (LU.2 ⟨ps.map S,LU.2 ⟨S,hS,rfl⟩,rfl⟩) i
   refine⟨j,h1,?_⟩;rw[E3 (by have:=b j;omega)]at h2
   exact h2
end
theorem BF{g:bU}{part:List Int}(d:okG g)(m:PartsOK g part){C:List Int}{c:Int}(t:∀x∈C,∀k∈g.getD x.toNat [],part.getD k.toNat 0=c→k∈C)
  {u v:Nat} (e:u<g.length) (q:v<g.length) (pu:part.getD u 0=c) (pv:part.getD v 0=c) (h:(u:Int)∈C):(v:Int)∈C:=by
 have s:∀u v,Eg g u v→v<g.length:=fun u v h=>h.lt d
 obtain⟨h1,h2⟩:=(m.same u v e q).1 (pu.trans pv.symm);rw[CO d]at h1 h2
 obtain⟨p,n,a⟩:=h1;have b:∀i,i≤n→Rc (Eg g) u (p i)∧Rc (Eg g) (p i) v:=fun i hi=>
  ⟨⟨p,i,a.first,rfl,fun j r=>a.step j O7⟩,⟨fun j=>p (i+j),n -i,by simp,by rw[show i+(n -i)=n by omega];exact a.last,fun j r=>a.step (i+j) O7⟩⟩
 have l:∀i,i≤n→p i<g.length:=fun i hi=>Rc.lt s e (b i hi).1
 have f:∀i,i≤n→part.getD (p i) 0=c:=fun i hi=>by
  rw[←pu];refine((m.same (p i) u (l i hi) e).2 ?_);rw[CO d,CO d];exact⟨(b i hi).2.trans h2,(b i hi).1⟩
 have:∀i,i≤n→((p i:Nat):Int)∈C:=fun i=>by
  induction i with
  |zero=>intro _;rw[a.first];exact h
  |succ i o=>
   intro hi
   refine t _ (o O7) _ ?_ (by rw[Kb];exact f _ hi);rw[Kb];exact a.step i O7
 have h3:=this n Pu;rwa[a.last]at h3
theorem fR{part:List Int}{c:Int}(a:0≤c){k:Nat}:fQ part c k=true↔part.getD k 0=c:=by
 unfold fQ;simp;omega
theorem IC{g:bU}{part:List Int}(l:okG g)(i:PartsOK g part){c:Int}(m:0≤c){fr:List Int}{to:Nat→Bool}{u x:Nat}(e:u<g.length)(d:x<g.length)(pu:part.getD u 0=c)(px:part.getD x 0=c)(hf:(u:Int)∈fr)(f:to x=true):
  ¬fG g fr to (fQ part c):=by
 rintro⟨C,h1,h2⟩
 have:=BF l i (C:=C) (c:=c) (fun y b k j a=>(h2 y b).2 k j ((fR m).2 a)) e d pu px (h1 _ hf);have h3:=(h2 _ this).1;rw[Kb,f]at h3
 cases h3
theorem IB{g:bU}{part fr:List Int}{to:Nat→Bool}{x a:Nat}(f:(a:Int)∈fr)(e:Rc (Eg g) a x)(d:to x=true):¬fG g fr to (fQ part (-1)):=by
 rintro⟨C,h1,h2⟩
 obtain⟨p,n,b⟩:=e;have:∀i,i≤n→((p i:Nat):Int)∈C:=fun i=>by
  induction i with
  |zero=>intro _;rw[b.first];exact h1 _ f
  |succ i c=>
   intro hi
   exact(h2 _ (c O7)).2 _ (by rw[Kb];exact b.step i O7) (by unfold fQ;simp)
 have h3:=this n Pu;rw[b.last]at h3
 have h4:=(h2 _ h3).1;rw[Kb,d]at h4
 cases h4
structure RoI(g:bU)(part:List Int)(n:Nat)(seen:List (List Bool))(out:List Int):Prop where
 ne:0<out.length
 len:out.length≤1+seen.length*g.length
 rg:AF g.length out
 pt:∀x∈out,part.getD x.toNat 0=part.getD n 0
 st:out.getD 0 0=(n:Int)
 ed:∀i,i+1<out.length→out.getD (i+1) 0∈g.getD (out.getD i 0).toNat []
 all:∀S∈seen,∃x∈out,S.getD x.toNat false=true
structure RoOK(g:bU)(n:Nat)(sets:List (List Bool))(out:List Int):Prop where
 ne:0<out.length
 len:out.length≤1+(sets.length+1)*g.length
 rg:AF g.length out
 st:out.getD 0 0=(n:Int)
 ed:∀i,i+1<out.length→out.getD (i+1) 0∈g.getD (out.getD i 0).toNat []
 cl:(n:Int)∈g.getD (out.getD (out.length -1) 0).toNat []
 all:∀S∈sets,∃x∈out,S.getD x.toNat false=true
section
variable {g:bU}{part:List Int}{n:Nat}{seen:List (List Bool)}{out:List Int}
theorem RoI.start(hn:n<g.length):RoI g part n [] [(n:Int)]:=
 ⟨by simp,by simp,fun x a=>by rw[L0]at a;subst a;omega,fun x a=>by rw[L0]at a;subst a;simp,rfl,fun i hi=>by simp at hi,fun S hS=>by cases hS⟩
theorem RoI.skip(h:RoI g part n seen out){S:List Bool}(hS:∃x∈out,S.getD x.toNat false=true):RoI g part n (seen++[S]) out:=
 ⟨h.ne,by have:=h.len;rw[Ll,Mt];omega,h.rg,h.pt,h.st,h.ed,fun S' a=>by
  rcases LK.1 a with h1|h1
  ·exact h.all S' h1
  ·rw[L0]at h1;subst h1;exact hS⟩
theorem re{l k:List Int}{i:Nat}(h:i<l.length):(l++k).getD i 0=l.getD i 0:=qO h
theorem rh{l k:List Int}{i:Nat}(h:l.length≤i):(l++k).getD i 0=k.getD (i -l.length) 0:=by
 rw[KT,KV h,←KT]
theorem ri{l:List Int}{i:Nat}:(l.drop 1).getD i 0=l.getD (i+1) 0:=by
 rw[KT,KX,←KT,Ms]
theorem Jm{fr:List Int}{to:Nat→Bool}{c:Int}{l:List Int}(b:0≤c)(h:WyOK g fr to (fQ part c) l)(hf:∀x∈fr,part.getD x.toNat 0=c):∀x∈l,part.getD x.toNat 0=c:=fun x a=>by
 obtain⟨i,hi,rfl⟩:=LT.1 a;have e:l[i]=l.getD i 0:=by rw[KT,KY hi];rfl
 rw[e];cases i with
 |zero=>exact hf _ h.st
 |succ i=>exact(fR b).1 (h.ed i hi).2
theorem RoI.go(h:RoI g part n seen out)(q:0≤part.getD n 0){S:List Bool}{l:List Int}(hl:WyOK g [out.getD (out.length -1) 0] (fun k=>S.getD k false) (fQ part (part.getD n 0)) l):RoI g part n (seen++[S]) (out++l.drop 1):=by
 have d:=h.ne;have p:=hl.ne;have b:l.getD 0 0=out.getD (out.length -1) 0:=by simpa using hl.st
 have c:out.getD (out.length -1) 0∈out:=by rw[KT,KY O7];exact Lc _
 have f:=Jm q hl (fun x a=>by rw[L0]at a;subst a;exact h.pt _ c);have j:(l.drop 1).length=l.length -1:=Ln;refine⟨by rw[Ll];omega,?_,fun x a=>?_,fun x a=>?_,by rw[re d];exact h.st,fun i hi=>?_,fun S' m=>?_⟩
 ·have:=h.len;have:=hl.len
  rw[Ll,Ll,Ln,Mt];simp;omega
 ·rcases LK.1 a with a|a
  ·exact h.rg x a
  ·exact hl.rg x (LX a)
 ·rcases LK.1 a with a|a
  ·exact h.pt x a
  ·exact f x (LX a)
 ·rw[Ll,j]at hi
  by_cases e:i+1<out.length
  ·rw[re e,re O7];exact h.ed i e
  ·rw[rh (i:=i+1) O7,ri]
   by_cases r:i<out.length
   ·obtain rfl:i=out.length -1:=by omega
    rw[re r,←b,show out.length -1+1 -out.length+1=0+1 by omega];exact(hl.ed 0 O7).1
   ·rw[rh (i:=i) O7,ri,show i+1 -out.length+1=(i -out.length+1)+1 by omega]
    exact(hl.ed _ O7).1
 ·rcases LK.1 m with h1|h1
  ·obtain⟨x,a,o⟩:=h.all S' h1
   exact⟨x,LL _ a,o⟩
  ·rw[L0]at h1;subst h1
   by_cases e:l.length=1
   ·refine⟨_,LL _ c,?_⟩
    have:=hl.en;rw[e]at this
    rw[←b];exact this
   ·refine⟨l.getD (l.length -1) 0,LM _ ?_,hl.en⟩
    rw[LT];refine⟨l.length -2,by omega,?_⟩;rw[La,KT,KY O7];simp only[Nk]
    congr 1
    omega
theorem RoI.close(h:RoI g part n seen out){fr:List Int}{al:Nat→Bool}{l:List Int}(hf:∀x∈fr,x∈g.getD (out.getD (out.length -1) 0).toNat [])(hl:WyOK g fr (fun k=>decide (k=n)) al l):RoOK g n seen (out++l.take (l.length -1)):=by
 have j:=h.ne;have o:=hl.ne;have d:=hf _ hl.st;have b:(l.take (l.length -1)).length=l.length -1:=by rw[LB];omega
 have c:∀i,i<l.length -1→(l.take (l.length -1)).getD i 0=l.getD i 0:=fun i hi=>by
  rw[KT,K6 hi,←KT]
 have f:l.getD (l.length -1) 0=(n:Int):=by
  have h1:=hl.en;have h2:0≤l.getD (l.length -1) 0:=by
   rw[KT,KY O7];exact(hl.rg _ (Lc O7)).1
  simp only[OD]at h1
  omega
 refine⟨by rw[Ll];omega,?_,fun x a=>?_,by rw[re j];exact h.st,fun i hi=>?_,?_,fun S hS=>?_⟩
 ·have:=h.len;have:=hl.len
  rw[Ll,b,Mt];omega
 ·rcases LK.1 a with a|a
  ·exact h.rg x a
  ·exact hl.rg x (LY a)
 ·rw[Ll,b]at hi
  by_cases e:i+1<out.length
  ·rw[re e,re O7];exact h.ed i e
  ·rw[rh (i:=i+1) O7,c _ O7]
   by_cases p:i<out.length
   ·obtain rfl:i=out.length -1:=by omega
    rw[re p,show out.length -1+1 -out.length=0 by omega];exact d
   ·rw[rh (i:=i) O7,c _ O7,show i+1 -out.length=(i -out.length)+1 by omega]
    exact(hl.ed _ O7).1
 ·rw[Ll,b]
  by_cases e:l.length=1
  ·rw[re O7,show out.length+(l.length -1) -1=out.length -1 by omega]
   rw[←f,e];exact d
  ·rw[rh O7,c _ O7,show out.length+(l.length -1) -1 -out.length=l.length -2 by omega,←f]
   have:=(hl.ed (l.length -2) O7).1;rwa[show l.length -2+1=l.length -1 by omega]at this
 ·obtain⟨x,a,m⟩:=h.all S hS
  exact⟨x,LL _ a,m⟩
end

def jI(n:Nat)(l:List Int):Bool:=decide (l.length=0)||Am n l
def jT(st:List Int)(nx:List (List Int))(k:Nat)(fr:List (List Int)):Int:=
 if nx.length>600∨fr.length>80 then 2 else if k≠nx.length∨Am nx.length st=true then 1 else if nx.any (jI nx.length)=true then 1 else if fr.any (Am nx.length)=true then 1 else 0
theorem jU{st:List Int}{nx:List (List Int)}{k:Nat}{fr:List (List Int)}(h:jT st nx k fr=0):nx.length≤600∧fr.length≤80∧k=nx.length∧AF nx.length st∧(∀l∈nx,0<l.length∧AF nx.length l)∧∀l∈fr,AF nx.length l:=by
 unfold jT at h
 split at h
 ·cases h
 split at h
 ·cases h
 split at h
 ·cases h
 split at h
 ·cases h
 rename_i h1 h2 h3 h4;refine⟨by omega,by omega,?_,?_,?_,?_⟩
 ·by_cases e:k=nx.length
  ·exact e
  ·exact absurd (.inl e) h2
 ·rw[←oddB_false]
  cases e:Am nx.length st
  ·rfl
  ·exact absurd (.inr e) h2
 ·intro l a
  have h3:nx.any (jI nx.length)=false:=by simpa using h3
  rw[Kf]at h3
  have:=h3 l a;simp only[jI,JW,OD,OO,JR]at this
  exact⟨by omega,oddB_false.1 this.2⟩
 ·intro l a
  have h4:fr.any (Am nx.length)=false:=by simpa using h4
  rw[Kf]at h4
  exact oddB_false.1 (by simpa using h4 l a)
def G0(al l:List Int)(i:Nat):Int:=if i+1<al.length then al.getD (i+1) 0 else l.getD 0 0
def F2(nx:List (List Int))(al l:List Int)(i:Nat):Bool:=(nx.getD (al.getD i 0).toNat []).contains (G0 al l i)
def ru(st:List Int)(nx fr:List (List Int))(al l:List Int):Bool:=
 st.contains (al.getD 0 0)&&(List.range al.length).all (F2 nx al l)&&fr.all (fun f=>f.any (fun x=>l.contains x))
theorem vZ{n:Nat}{l:List Int}(h:AF n l):(l.map Int.toNat).map Int.ofNat=l:=by
 rw[LH]
 conv=>rhs;rw[←List.map_id l]
 refine LF fun x a=>?_
 have:=h x a;show Int.ofNat x.toNat=x;have h2:(x.toNat:Int)=x:=Kc O7;exact h2
theorem qT{l:List Nat}{i:Nat}(h:i<l.length):(l.map Int.ofNat).getD i 0=((l.getD i 0:Nat):Int):=by
 rw[KT,K1,KY h,KT,KY h];rfl
theorem f8{s l:List Nat}{i:Nat}(h:i<(s++l).length):(((s++l).map Int.ofNat).getD i 0)=(xx s l i:Int):=by
 rw[qT h];unfold xx;rw[Ll]at h
 by_cases h1:i<s.length
 ·rw[OK h1,KT,KU h1,←KT]
 ·rw[OJ h1,KT,KV O7,←KT,MT O7]
def mF(nx:List (List Int))(s l:List Nat)(i:Nat):Bool:=(nx.getD (xx s l i) []).contains ((xx s l (i+1):Nat):Int)
theorem F3{nx:List (List Int)}{s l:List Nat}(a:0<l.length){i:Nat}(h:i<(s++l).length):F2 nx ((s++l).map Int.ofNat) (l.map Int.ofNat) i=mF nx s l i:=by
 unfold F2 mF;have b:G0 ((s++l).map Int.ofNat) (l.map Int.ofNat) i=((xx s l (i+1):Nat):Int):=by
  unfold G0;rw[Ls];by_cases h1:i+1<(s++l).length
  ·rw[OK h1,f8 h1]
  ·rw[OJ h1,qT a]
   have e:i+1=s.length+l.length:=by rw[Ll]at h h1;omega
   rw[e];unfold xx;rw[OJ O7,Mw,Nat.mod_self]
 rw[b,f8 h];rfl
theorem mN{nx:List (List Int)}{s l:List Nat}(b:0<l.length):(List.range ((s++l).map Int.ofNat).length).all (F2 nx ((s++l).map Int.ofNat) (l.map Int.ofNat))=true↔∀i,mF nx s l i=true:=by
 rw[Kd,Ls];constructor
 ·intro h i
  have c:=MU (i -s.length) b;have key:∀j,j<(s++l).length→mF nx s l j=true:=fun j a=>by rw[←F3 b a];exact h j (LZ.2 a)
  rw[Ll]at key
  by_cases h1:i<s.length
  ·exact key i O7
  ·have a:=key (s.length+(i -s.length) % l.length) O7
   have one:∀k,s.length≤k→xx s l k=l.getD ((k -s.length) % l.length) 0:=fun k f=>by unfold xx;rw[OJ O7]
   unfold mF at a⊢
   rw[one _ O7,one _ O7]at a⊢
   have e:(s.length+(i -s.length) % l.length -s.length) % l.length=(i -s.length) % l.length:=by rw[Mw,Nat.mod_mod]
   have d:(s.length+(i -s.length) % l.length+1 -s.length) % l.length=(i+1 -s.length) % l.length:=by
    have:s.length+(i -s.length) % l.length+1 -s.length=(i -s.length) % l.length+1:=by omega
    rw[this];have:i+1 -s.length=(i -s.length)+1:=by omega
    rw[this,Nat.mod_add_mod]
   rw[e,d]at a
   exact a
 ·intro h i hi
  rw[F3 b (LZ.1 hi)];exact h i
def xm(lb:List Nat)(l:List Int):List Nat:=l.map fun x=>lb.getD x.toNat 0
def rz{α:Type}(N:Nat)(full:Nat→List α)(x0:Nat)(part:List α):List (List α):=(List.range N).map fun x=>if x<x0 then full x else if x=x0 then part else []
section
variable {α:Type}{N:Nat}{full:Nat→List α}{x0:Nat}{part:List α}
theorem rC:(rz N full x0 part).length=N:=by simp[rz]
theorem rF:rz N full 0 []=List.replicate N []:=by
 unfold rz;refine KD O_ fun i h1 h2=>?_
 simp
theorem rB(h:x0<N):(rz N full x0 part)[x0]'(by rw[rC];exact h)=part:=by simp[rz]
theorem rE{part':List α}(h:x0<N):(rz N full x0 part).set x0 part'=rz N full x0 part':=by
 refine KD (by simp[rC]) fun i h1 h2=>?_
 rw[Lf];by_cases e:x0=i
 ·subst e;rw[OK rfl,rB h]
 ·rw[OJ e]
  simp only[rz,Lb,Ld];split
  ·rfl
  ·rw[OJ (Nf e),OJ (Nf e)]
theorem rD:rz N full x0 (full x0)=rz N full (x0+1) []:=by
 unfold rz;refine KD O_ fun i h1 h2=>?_
 simp only[Lb,Ld];by_cases h:i<x0
 ·rw[OK h,OK O7]
 ·rw[OJ h]
  by_cases e:i=x0
  ·subst e;rw[OK rfl,OK O7]
  ·rw[OJ e,OJ O7]
   split<;>rfl
theorem rA:rz N full N []=(List.range N).map full:=by
 unfold rz;refine KD O_ fun i h1 h2=>?_
 simp only[Lb,Ld];rw[OK (by simpa using h1)]
end

abbrev cC:=List Int×List (List Int)×List Nat×List Nat×List (List Int)
abbrev gL(a1:Option Addr)(c1:Nat)(a2:Option Addr)(c2:Nat)(a3:Option Addr)(c3:Nat)(a4:Option Addr)(c4:Nat)(f:Option Addr)(e:Nat)(n1 d c b a:Nat):Value:=.agg [.slice a1 n1 c1,.slice a2 d c2,.slice a3 c c3,.slice a4 b c4,.slice f a e].toArray
structure AutoAt(w:World)(F:Nat→Prop)(v:Value)(A:cC):Prop where
 ok:∃a1 c1 a2 c2 a3 c3 a4 c4 a5 c5,v=gL a1 c1 a2 c2 a3 c3 a4 c4 a5 c5 A.1.length A.2.1.length A.2.2.1.length A.2.2.2.1.length A.2.2.2.2.length∧Sl w F a1 c1 A.1∧Sl w F a2 c2 A.2.1∧Sl w F a3 c3 A.2.2.1∧Sl w F a4 c4 A.2.2.2.1∧Sl w F a5 c5 A.2.2.2.2
def ji(A:cC):Int:=
 if A.2.1.length>2048∨A.2.2.2.2.length>80 then 2 else if A.2.2.1.length≠A.2.1.length∨A.2.2.2.1.length≠A.2.1.length∨Am A.2.1.length A.1=true then 1
 else if A.2.1.any (Am A.2.1.length)=true∨A.2.2.2.2.any (Am A.2.1.length)=true then 1 else 0
structure OkA(A:cC):Prop where
 n:A.2.1.length≤2048
 f:A.2.2.2.2.length≤80
 mu:A.2.2.1.length=A.2.1.length
 no:A.2.2.2.1.length=A.2.1.length
 st:AF A.2.1.length A.1
 nx:∀r∈A.2.1,AF A.2.1.length r
 fr:∀r∈A.2.2.2.2,AF A.2.1.length r
theorem any_odd{n:Nat}{g:List (List Int)}:g.any (Am n)=false↔∀r∈g,AF n r:=by
 rw[Kf];refine forall_congr' fun r=>forall_congr' fun _=>?_
 rw[←oddB_false,JR]
theorem jk{A:cC}(h:ji A=0):OkA A:=by
 unfold ji at h
 split at h
 ·cases h
 split at h
 ·cases h
 split at h
 ·cases h
 rename_i h1 h2 h3;rw[OO]at h1 h2 h3
 rw[OO]at h2
 exact⟨by omega,by omega,by omega,by omega,oddB_false.1 (by simpa using h2.2.2),any_odd.1 (by simpa using h3.1),any_odd.1 (by simpa using h3.2)⟩
theorem jj{A:cC}(h:OkA A):ji A=0:=by
 unfold ji;have a:=oddB_false.2 h.st;have b:=any_odd.2 h.nx;have c:=any_odd.2 h.fr;have d:=h.mu;have e:=h.no;rw[OJ (by have:=h.n;have:=h.f;omega),OJ (by rw[a];simp;omega),OJ (by rw[b,c];simp)]
theorem gl(n:Nat)(x:Int)(b:Nat)(w:World)(a:Blk w b 3 [Py n]):
  Rt Tryz.prog 258 [Py x,Pz b].toArray w fun v w'=>v=.bool (decide (x<0∨x≥n))∧w=w':=by
 refine dE Tryz.func258 Tryz.ntmps258 rfl rfl ?_;refine Qt ?_;refine eU (s:=6) rfl (fun h=>?_) (fun h=>?_)
 ·refine PL ?_
  refine be rfl rfl ?_;simp at h
  simp[h]
 ·refine Q_ ?_
  refine be rfl rfl ?_;simp at h
  simp[J_.2 h]
theorem gm(w0:World){lo:Option Addr}{lcap:Nat}{l:List Int}(n:Nat)(d:Sl w0 (c7 w0) lo lcap l):
  Rt Tryz.prog 197 [.slice lo l.length lcap,Py n].toArray w0 fun v w'=>v=.bool (Am n l)∧Ext w0 w':=by
 refine dE Tryz.func197 Tryz.ntmps197 rfl rfl ?_;refine PB ?_;refine dX rfl rfl rfl fun b e a=>?_
 refine QJ ?_;refine WL.call rfl rfl rfl (kD b (fun x=>decide (x<0∨x≥n)) (d.up a) (fun w c i h=>?_)) ?_
 ·refine FnV.mk (Rt.mono (gl n _ _ w (e.ext c)) ?_)
  rintro v w' ⟨rfl,rfl⟩
  exact⟨rfl,Ext.refl _⟩
 ·rintro v w' ⟨rfl,f⟩
  refine PK ?_;exact be rfl rfl ⟨rfl,a.trans f⟩
theorem fI(w:World){lo:Option Addr}{lcap:Nat}{l:List Int}(n:Nat)(b:Nat)(d:Blk w b 3 [Py n])(a:Sl w (c7 w) lo lcap l):
  Rt Tryz.prog 198 [.slice lo l.length lcap,Pz b].toArray w fun v w'=>v=.bool (Am n l)∧Ext w w':=by
 refine dE Tryz.func198 Tryz.ntmps198 rfl rfl ?_;refine Qa ?_;refine WL.call rfl rfl rfl (gm w n a) ?_;rintro _ w' ⟨rfl,c⟩
 refine PK ?_;exact be rfl rfl ⟨rfl,c⟩
theorem fJ(w:World){lo:Option Addr}{lcap:Nat}{l:List Int}(n:Nat)(b:Nat)(d:Blk w b 3 [Py n])(a:Sl w (c7 w) lo lcap l):
  Rt Tryz.prog 199 [.slice lo l.length lcap,Pz b].toArray w fun v w'=>v=.bool (Am n l)∧Ext w w':=by
 refine dE Tryz.func199 Tryz.ntmps199 rfl rfl ?_;refine Qa ?_;refine WL.call rfl rfl rfl (gm w n a) ?_;rintro _ w' ⟨rfl,c⟩
 refine PK ?_;exact be rfl rfl ⟨rfl,c⟩
theorem fH(w0:World){t:Value}{A:cC}(N:AutoAt w0 (c7 w0) t A):
  Rt Tryz.prog 121 [t].toArray w0 fun v w'=>v=Py (ji A)∧Ext w0 w':=by
 obtain⟨a1,c1,a2,c2,a3,c3,a4,c4,T,S,rfl,h1,h2,h3,h4,z⟩:=N.ok;obtain⟨st,nx,mu,no,fr⟩:=A;dsimp only at*
 have K:=h2.len63;have J:=h3.len63;have I:=h4.len63;have H:=z.len63;refine dD Tryz.func121 Tryz.ntmps121 rfl rfl ?_;have a:=Ext.refl w0;refine PB ?_;refine dX rfl rfl rfl fun Q c C=>?_
 have a:=a.trans C;have D:=C.size;have L:=c.lt;refine QX ?_;refine WL.alloc rfl rfl (fun P d B=>?_);have c:=c.ext B;have a:=a.trans B;skip;refine WL.st rfl rfl rfl d rfl rfl Pr (fun s d j=>?_);have c:=c.kept j Pc;have a:Ext w0 s:=a.grown j a.size (fun g M=>by cases M;exact D);unfold ji;dsimp only;refine Qa ?_
 (refine eV rfl rfl (fun h=>?_) (fun h=>?_))
 ·refine Q6 ?_
  skip;refine be rfl rfl ⟨?_,a⟩;simp at h
  rw[OK (.inl O7)]
 refine Q_ ?_;refine CW.cond rfl (fun e=>?_) (fun e=>?_)
 ·refine QO ?_
  refine be rfl rfl ⟨?_,a⟩;simp at e
  rw[OK (.inr O7)]
 simp at h e
 rw[OJ O7];clear h e;refine QP ?_
 (refine eV rfl rfl (fun h=>?_) (fun h=>?_))
 ·simp at h
  refine Q6 ?_;refine be rfl rfl ⟨?_,a⟩;rw[OK (.inl O7)]
 simp at h
 have R:=h;clear h;refine Ru ?_
 (refine eV rfl rfl (fun h=>?_) (fun h=>?_))
 ·have k:=h
  simp at k
  refine Q6 ?_;refine be rfl rfl ⟨?_,a⟩;rw[OK (.inr (.inl O7))]
 have k:=h;simp at k
 refine Rs ?_;refine WL.call rfl rfl rfl (gm s nx.length (h1.up a)) ?_;rintro _ F ⟨rfl,r⟩
 have c:=c.ext r;have d:=d.ext r;have a:=a.trans r;refine PN ?_;apply CW.cond rfl<;>intro y
 ·refine QO ?_
  refine be rfl rfl ⟨?_,a⟩;rw[OK (.inr (.inr y))]
 rw[OJ (by rw[y];simp;omega)];refine Qw ?_;refine WL.call rfl rfl rfl (kE F (Am nx.length) (h2.up a) (fun w f i hi u l=>?_)) ?_
 ·obtain⟨lo,G,rfl,m⟩:=l.sl
  exact FnV.mk (Rt.mono (fI w nx.length _ (d.ext f) (m.lift fun b n=>MQ n f.size)) fun v w' h=>h)
 rintro _ E ⟨rfl,q⟩
 have c:=c.ext q;have d:=d.ext q;have a:=a.trans q;refine Ri ?_
 (refine eV rfl rfl (fun h=>?_) (fun h=>?_))
 ·have o:=h
  refine Q6 ?_;refine be rfl rfl ⟨?_,a⟩;rw[OK (.inl o)]
 have o:=h;refine Ru ?_;refine WL.call rfl rfl rfl (kE E (Am nx.length) (z.up a) (fun w f i hi u l=>?_)) ?_
 ·obtain⟨lo,G,rfl,m⟩:=l.sl
  exact FnV.mk (Rt.mono (fJ w nx.length _ (d.ext f) (m.lift fun b n=>MQ n f.size)) fun v w' h=>h)
 rintro _ O ⟨rfl,p⟩
 have c:=c.ext p;have d:=d.ext p;have a:=a.trans p;refine PN ?_;apply CW.cond rfl<;>intro x
 ·refine QO ?_
  refine be rfl rfl ⟨?_,a⟩;rw[OK (.inr x)]
 refine QU ?_;refine be rfl rfl ⟨?_,a⟩;rw[OJ (by rw[o,x];simp)]
theorem qK{l:List Nat}{k:Nat}(h:k<l.length):l.getD k 0=l[k]:=by rw[KT,KY h];rfl
theorem bM(w0:World){a1 a2 a3 a4 r:Option Addr}{c1 c2 c3 c4 p n1 o n:Nat}{mu no:List Nat}(h3:Sl w0 (c7 w0) a3 c3 mu)(h4:Sl w0 (c7 w0) a4 c4 no)(k x:Nat)(g:k<mu.length)(b:k<no.length)(j:x<18446744073709551616):
  Rt Tryz.prog 259 [gL a1 c1 a2 c2 a3 c3 a4 c4 r p n1 o mu.length no.length n,Py (k:Int),.int .u64 (x:Int)].toArray w0 fun v w'=>v=.bool (pB mu no k x)∧Ext w0 w':=by
 refine dF Tryz.func259 Tryz.ntmps259 rfl rfl ?_;refine PB ?_;refine dX rfl rfl rfl fun s t c=>?_
 have h3:=h3.up c;have h4:=h4.up c;refine Re ?_;refine dk rfl rfl rfl rfl rfl Pl h3 g Pg (fun u q a=>?_);obtain⟨rfl,f⟩:=a.u64;refine Ry ?_;rw[Ot _ _ j f];refine dk rfl rfl rfl rfl rfl Pl h3 g Pg (fun u m a=>?_);obtain⟨rfl,_⟩:=a.u64;refine Rl ?_;unfold pB;rw[qK g,qK b]
 (refine dt rfl rfl (fun h=>?_) (fun h=>?_))
 ·simp only[Oq]at h
  have h:x&&&mu[k]=mu[k]:=by exact_mod_cast h
  rw[OC h,JZ];refine Ry ?_;refine dk rfl rfl rfl rfl rfl Pl h4 b Pg (fun u m a=>?_);obtain⟨rfl,d⟩:=a.u64;refine Rl ?_;rw[Ot _ _ j d];refine QL.nil (fun l i=>?_);refine PQ ?_;refine be rfl rfl ⟨?_,c.trans i⟩
  congr 1
  rw[JN,Oq,OE]
  exact_mod_cast J6
 ·have h:¬x&&&mu[k]=mu[k]:=by
   intro e;rw[e]at h;simp at h
  rw[Oz h,JO];refine Rn ?_;refine QL.nil (fun l i=>?_);refine PQ ?_;exact be rfl rfl ⟨rfl,c.trans i⟩

section
variable {g:bU}{f num li todo:List Int}
end
theorem vP(w0:World){ao:Option Addr}{cap:Nat}{xs:List Bool}(x:Bool)(d:Sl w0 (c7 w0) ao cap xs):
  Rt Tryz.prog 72 [.slice ao xs.length cap,.bool x].toArray w0 fun v w'=>v=Py (idxOf (fun y=>x==y) xs)∧Ext w0 w':=by
 have g:=d.len63;refine dE Tryz.func72 Tryz.ntmps72 rfl rfl ?_;refine Q3 ?_;refine CW.loop (S:=Nat) (fun k=>[(0,.slice ao xs.length cap),(1,.bool x),(7,Py xs.length),(8,Py k)])
  (fun k w=>k≤xs.length∧Ext w0 w∧∀j (h:j<xs.length),j<k→(x==xs[j])=false) (fun k=>xs.length -k) 0 O6 ⟨by omega,Ext.refl _,by omega⟩ ?_
 rintro k w ⟨i,a,hn⟩
 refine Qt ?_;apply CW.cond rfl<;>intro h
 ·simp at h
  refine PT ?_;refine eA rfl rfl rfl rfl rfl (d.at a) h rfl Pg (fun q=>?_);refine Q8 ?_;refine CW.cond rfl (fun c=>?_) (fun c=>?_)
  ·refine PA ?_
   refine be rfl rfl ⟨?_,a⟩;rw[vq h hn c]
  ·refine PI ?_
   refine EX.back (k+1) O6 ⟨h,a,?_⟩ O7;intro j b f
   by_cases e:j=k
   ·subst e;exact c
   ·exact hn j b O7
 ·simp at h
  refine P_ ?_;refine be rfl rfl ⟨?_,a⟩;rw[vw (fun j b=>hn j b O7)]
theorem kG(w0:World){ao:Option Addr}{cap:Nat}{xs:List Bool}(x:Bool)(a:Sl w0 (c7 w0) ao cap xs):
  Rt Tryz.prog 141 [.slice ao xs.length cap,.bool x].toArray w0 fun v w'=>v=.bool (xs.contains x)∧Ext w0 w':=by
 refine dE Tryz.func141 Tryz.ntmps141 rfl rfl ?_;refine Qt ?_;refine WL.call rfl rfl rfl (vP w0 x a) ?_;rintro v w' ⟨rfl,b⟩
 refine PK ?_;refine be rfl rfl ⟨?_,b⟩;rw[←List.any_beq,←vl]


theorem qF{l:List Bool}{j:Nat}(h:j<l.length):l.getD j false=l[j]:=by rw[KT,KY h];rfl
section
variable {P:Program}{Q:Exit→Act→World→Prop}{n:Nat}{σ:Sg}{wc:World}{L:List Oper}{S:World→Prop}{rest:List (Nat×Bool)}{i j d d':Nat}{ty:TypeId}{pos:String}{af:Array Edge}{g:Option (Nat×Bool)}{ty':TypeId}{pos':String}{af':Array Edge}{g':Option (Nat×Bool)}{t e:TypeId}{x ix:Operand}
variable {α:Type}[Rep α]{F:Nat→Prop}
end



section
variable {P:Program}{Q:Exit→Act→World→Prop}{n:Nat}{σ:Sg}{w:World}{L rest:List Oper}{d:Nat}{ty:TypeId}{pos:String}{af:Array Edge}{g:Option (Nat×Bool)}
variable {α:Type}[Rep α]{e t:TypeId}{x0:α}{bytes:Nat}
end

theorem Ay{A:cC}(h:OkA A):db A:=⟨fun x a=>(h.st x a).1,fun k x a=>(AE h.nx k x a).1⟩
theorem IW(n:Nat)(x:Int)(b:Nat)(w:World)(a:Blk w b 3 [Py n]):
  Rt Tryz.prog 188 [Py x,Pz b].toArray w fun v w'=>v=.bool (decide (x<0∨x≥n))∧w=w':=by
 refine dE Tryz.func188 Tryz.ntmps188 rfl rfl ?_;refine Qt ?_;refine eU (s:=6) rfl (fun h=>?_) (fun h=>?_)
 ·refine PL ?_
  refine be rfl rfl ?_;simp at h
  simp[h]
 ·refine Q_ ?_
  refine be rfl rfl ?_;simp at h
  simp[J_.2 h]
theorem IX(w0:World){lo:Option Addr}{lcap:Nat}{l:List Int}(n:Nat)(d:Sl w0 (c7 w0) lo lcap l):
  Rt Tryz.prog 109 [.slice lo l.length lcap,Py n].toArray w0 fun v w'=>v=.bool (Am n l)∧Ext w0 w':=by
 refine dE Tryz.func109 Tryz.ntmps109 rfl rfl ?_;refine PB ?_;refine dX rfl rfl rfl fun b e a=>?_
 refine QJ ?_;refine WL.call rfl rfl rfl (kD b (fun x=>decide (x<0∨x≥n)) (d.up a) (fun w c i h=>?_)) ?_
 ·refine FnV.mk (Rt.mono (IW n _ _ w (e.ext c)) ?_)
  rintro v w' ⟨rfl,rfl⟩
  exact⟨rfl,Ext.refl _⟩
 ·rintro v w' ⟨rfl,f⟩
  refine PK ?_;exact be rfl rfl ⟨rfl,a.trans f⟩
abbrev I1(a1:Option Addr)(c1:Nat)(a2:Option Addr)(c2:Nat)(a3:Option Addr)(c3:Nat)(a4:Option Addr)(c4:Nat)(n1 c b a:Nat):Value:=.agg [.slice a1 n1 c1,.slice a2 c c2,.slice a3 b c3,.slice a4 a c4].toArray
theorem ID(w:World){lo:Option Addr}{lcap:Nat}{l:List Int}(n:Nat)(b:Nat)(d:Blk w b 3 [Py n])(a:Sl w (c7 w) lo lcap l):
  Rt Tryz.prog 111 [.slice lo l.length lcap,Pz b].toArray w fun v w'=>v=.bool (Am n l)∧Ext w w':=by
 refine dE Tryz.func111 Tryz.ntmps111 rfl rfl ?_;refine Qa ?_;refine WL.call rfl rfl rfl (IX w n a) ?_;rintro _ w' ⟨rfl,c⟩
 refine PK ?_;exact be rfl rfl ⟨rfl,c⟩
theorem Ix(w0:World){a1 a2 a3 a4:Option Addr}{c1 c2 c3 c4 k:Nat}{st:List Int}{nx fr:List (List Int)}(h1:Sl w0 (c7 w0) a1 c1 st)(h2:Sl w0 (c7 w0) a2 c2 nx)(hk:k≤9223372036854775807)(h4:Sl w0 (c7 w0) a4 c4 fr):
  Rt Tryz.prog 60 [I1 a1 c1 a2 c2 a3 c3 a4 c4 st.length nx.length k fr.length].toArray w0 fun v w'=>v=Py (jT st nx k fr)∧Ext w0 w':=by
 have W:=h2.len63;have V:=h4.len63;refine dD Tryz.func60 Tryz.ntmps60 rfl rfl ?_;refine PB ?_;refine dX rfl rfl rfl fun T n f=>?_
 refine QX ?_;refine WL.alloc rfl rfl (fun w2 hn d=>?_);have x:=n.ext d;skip;refine WL.st rfl rfl rfl hn rfl rfl Pr (fun N r m=>?_);have t:=x.kept m (by simp;have:=n.lt;omega);have c:Ext w0 N:=(f.trans d).grown m (MN f.size d.size) (fun g Y=>by cases Y;exact f.size);clear n hn f d x m;refine Qa ?_
 (refine eV rfl rfl (fun h=>?_) (fun h=>?_))
 ·refine Q6 ?_
  refine be rfl rfl ⟨?_,c⟩;have h:nx.length>600:=by simp at h;omega
  unfold jT;rw[OK (.inl h)]
 have h:nx.length≤600:=by simp at h;omega
 refine Q_ ?_;apply CW.cond rfl<;>intro B
 ·refine QO ?_
  refine be rfl rfl ⟨?_,c⟩;have B:fr.length>80:=by simp at B;omega
  unfold jT;rw[OK (.inr B)]
 have B:fr.length≤80:=by simp at B;omega
 unfold jT;rw[OJ O7];refine QP ?_
 (refine eV rfl rfl (fun h=>?_) (fun h=>?_))
 ·refine Q6 ?_
  refine be rfl rfl ⟨?_,c⟩;have L:k≠nx.length:=by
   have:¬(k:Int)=(nx.length:Int):=by simp at h;omega
   omega
  rw[OK (.inl L)]
 have L:k=nx.length:=by
  have:(k:Int)=(nx.length:Int):=by simp at h;omega
  omega
 subst L;refine Rs ?_;refine WL.call rfl rfl rfl (IX N nx.length (h1.up c)) ?_;rintro _ R ⟨rfl,E⟩
 have J:=t.ext E;have H:=r.ext E;have A:=c.trans E;refine PN ?_;apply CW.cond rfl<;>intro P
 ·refine QO ?_
  refine be rfl rfl ⟨?_,A⟩;rw[OK (.inr P)]
 rw[OJ (by rw[P];simp)];clear t r c E;refine QP ?_;refine CW.loop (S:=Nat) (fun i=>[(1,Pz w0.heap.size),(3,Pz T.heap.size),(29,.slice a2 nx.length c2),(30,Py nx.length),(31,Py i)])
  (fun i w=>i≤nx.length∧Ext R w∧∀j (h:j<nx.length),j<i→jI nx.length nx[j]=false) (fun i=>nx.length -i) 0 O6 ⟨by omega,Ext.refl _,by omega⟩ ?_
 rintro i M ⟨hi,D,p⟩
 have Z:=J.ext D;have G:=H.ext D;have a:=A.trans D;refine Qt ?_;apply CW.cond rfl<;>intro o
 ·simp at o
  refine Rb ?_;refine eC rfl rfl rfl rfl rfl (h2.at a) o Pg (fun u q F=>?_);obtain⟨lo,U,rfl,s⟩:=F.sl;refine Q3 ?_
  (refine eV rfl rfl (fun h=>?_) (fun h=>?_))
  ·refine PM ?_
   refine be rfl rfl ⟨?_,a⟩;have K:nx[i].length=0:=by simp at h;simp[h]
   rw[OK (Kg.2 ⟨nx[i],Lc o,by unfold jI;simp only[JW,OD];exact .inl K⟩)]
  have K:nx[i].length≠0:=by simp at h;simpa using h
  refine Rs ?_;refine WL.call rfl rfl rfl (IX M nx.length (s.lift fun b n=>MQ n a.size)) ?_;rintro _ Q ⟨rfl,C⟩
  refine PN ?_;apply CW.cond rfl<;>intro z
  ·refine PA ?_
   refine be rfl rfl ⟨?_,a.trans C⟩;rw[OK (Kg.2 ⟨nx[i],Lc o,by unfold jI;rw[z,JY]⟩)]
  ·refine PI ?_
   refine EX.back (i+1) O6 ⟨o,D.trans C,fun j I X=>?_⟩ O7;by_cases e:j=i
   ·subst e;unfold jI;rw[z,Oz K];rfl
   ·exact p j I O7
 simp at o
 have y:nx.any (jI nx.length)=false:=by
  rw[Kf];intro l s
  obtain⟨j,I,rfl⟩:=LT.1 s;simp[p j I O7]
 rw[OJ (by rw[y];simp)];refine QT ?_;refine WL.call rfl rfl rfl (kE M (Am nx.length) (h4.up a) (fun w O i hi u F=>?_)) ?_
 ·obtain⟨lo,U,rfl,s⟩:=F.sl
  exact FnV.mk (Rt.mono (ID w nx.length _ (G.ext O) (s.lift fun b n=>MQ n O.size)) fun v w' h=>h)
 rintro _ Q ⟨rfl,C⟩
 refine PU ?_;apply CW.cond rfl<;>intro z
 ·refine QO ?_
  refine be rfl rfl ⟨?_,a.trans C⟩;rw[OK z]
 ·refine QU ?_
  refine be rfl rfl ⟨?_,a.trans C⟩;rw[OJ (by rw[z];simp)]
abbrev BL(so:Option Addr)(sc:Nat)(lo:Option Addr)(a:Nat)(s l:List Int):Value:=.agg [.slice so s.length sc,.slice lo l.length a].toArray
abbrev cN:=List Int×List (List Int)×List Nat×List (List Int)
def pD(W:cN)(A:cD)(p:de):Bool:=pB A.2.2.1 A.2.2.2.1 p.2.toNat (W.2.2.1.getD p.1.toNat 0)
def zi(W:cN)(A:cD)(p:de):List de:=Bs (W.2.1.getD p.1.toNat []) (A.2.1.getD p.2.toNat [])
def FW(W:cN)(A:cD):List de:=Bs W.1 A.1
def FP(W:cN)(A:cD):List (de→Bool):=W.2.2.2.map (fun F p=>decide (p.1∈F))++A.2.2.2.2.map (fun F p=>decide (p.2∈F))
def aP(W:cN)(A:cD):Prop:=∃r,PWay (pD W A) (zi W A) (FW W A) (FP W A) r
structure WWay(W:cN)(r:Nat→Nat):Prop where
 first:(r 0:Int)∈W.1
 step:∀i,(r (i+1):Int)∈W.2.1.getD (r i) []
 fair:∀F∈W.2.2.2,∀i,∃j,i≤j∧(r j:Int)∈F
def dc(W:cN):Prop:=(∀x∈W.1,0≤x)∧∀k,∀x∈W.2.1.getD k [],0≤x
abbrev jt(W:cN):Int:=jT W.1 W.2.1 W.2.2.1.length W.2.2.2
section
variable {W:cN}{A:cD}{s l:List Int}
theorem AG{n k:Nat}{g:List (List Int)}(h:∀r∈g,AF n r):AF n (g.getD k []):=by
 by_cases e:k<g.length
 ·rw[KT,KY e];exact h _ (Lc e)
 ·rw[KT,KZ O7];exact fun x a=>by cases a
theorem ju(h:jt W=0):dc W:=by
 obtain⟨_,_,_,h1,h2,_⟩:=jU h;exact⟨fun x a=>(h1 x a).1,fun k x a=>(AG (fun r b=>(h2 r b).2) x a).1⟩
theorem Az(h:OkA A):db A:=Ay h
theorem nR(f:dc W)(k:db A){r:Nat→de}(h:PWay (pD W A) (zi W A) (FW W A) (FP W A) r):
  WWay W (fun i=>(r i).1.toNat)∧aa A (fun i=>W.2.2.1.getD (r i).1.toNat 0):=by
 have b:=pairsX_mem.1 h.first;have a:∀i,(r (i+1)).1∈W.2.1.getD (r i).1.toNat []∧(r (i+1)).2∈A.2.1.getD (r i).2.toNat []:=fun i=>pairsX_mem.1 (h.step i)
 have e:∀i,0≤(r i).1∧0≤(r i).2:=fun i=>by
  cases i with
  |zero=>exact⟨f.1 _ b.1,k.1 _ b.2⟩
  |succ i=>exact⟨f.2 _ _ (a i).1,k.2 _ _ (a i).2⟩
 have d:∀i,(((r i).1.toNat:Nat):Int)=(r i).1:=fun i=>Kc (e i).1
 have c:∀i,(((r i).2.toNat:Nat):Int)=(r i).2:=fun i=>Kc (e i).2
 refine⟨⟨by rw[d];exact b.1,fun i=>by rw[d];exact(a i).1,fun F hF i=>?_⟩,fun i=>(r i).2.toNat,⟨by rw[c];exact b.2,fun i=>h.fits i,fun i=>by rw[c];exact(a i).2,fun F hF i=>?_⟩⟩
 ·obtain⟨j,h1,h2⟩:=h.fair _ (LL _ (LU.2 ⟨F,hF,rfl⟩)) i
  exact⟨j,h1,by rw[d];exact OQ h2⟩
 ·obtain⟨j,h1,h2⟩:=h.fair _ (LM _ (LU.2 ⟨F,hF,rfl⟩)) i
  exact⟨j,h1,by rw[c];exact OQ h2⟩
theorem nP{ρ:Nat→Nat}(a:WWay W ρ)(b:aa A (fun i=>W.2.2.1.getD (ρ i) 0)):aP W A:=by
 obtain⟨q,hq⟩:=b;refine⟨fun i=>((ρ i:Int),(q i:Int)),pairsX_mem.2 ⟨a.first,hq.first⟩,fun i=>?_,fun i=>pairsX_mem.2 ⟨?_,?_⟩,fun S hS i=>?_⟩
 ·exact hq.fits i
 ·exact a.step i
 ·exact hq.step i
 ·rcases LK.1 hS with h|h
  ·obtain⟨F,hF,rfl⟩:=LU.1 h
   obtain⟨j,h1,h2⟩:=a.fair F hF i;exact⟨j,h1,OC h2⟩
  ·obtain⟨F,hF,rfl⟩:=LU.1 h
   obtain⟨j,h1,h2⟩:=hq.fair F hF i;exact⟨j,h1,OC h2⟩
theorem xz{f:Nat→Nat}{s l:List Nat}(b:0<l.length)(i:Nat):xx (s.map f) (l.map f) i=f (xx s l i):=by
 unfold xx;rw[Ls,Ls];by_cases h:i<s.length
 ·rw[OK h,OK h,KT,K1,KY h,KT,KY h];rfl
 ·have a:=MU (i -s.length) b
  rw[OJ h,OJ h,KT,K1,KY a,KT,KY a];rfl
theorem xn{n:Nat}{lb:List Nat}{l:List Int}(h:AF n l):xm lb l=(l.map Int.toNat).map fun x=>lb.getD x 0:=by
 unfold xm;rw[LH];rfl
theorem xy{s l:List Nat}{k:Nat}(a:k<l.length)(i:Nat):∃j,i≤j∧xx s l j=l.getD k 0:=by
 refine⟨s.length+(k+i*l.length),?_,?_⟩
 ·have:i*1≤i*l.length:=MW i O7
  omega
 ·unfold xx
  rw[OJ O7,Mw,Mu,MT a]
structure PathE(W:cN)(A:cD)(s l:List Int):Prop where
 so:AF W.2.1.length s
 lo:AF W.2.1.length l
 l0:0<l.length
 good:ru W.1 W.2.1 W.2.2.2 (s++l) l=true
 acc:aa A (xx (xm W.2.2.1 s) (xm W.2.2.1 l))
 sz:s.length≤1099511627776∧l.length≤1099511627776
end
def FR(ps:List de)(l:List Int):List Int:=l.map fun n=>(ps.getD n.toNat (0,0)).1
section
variable {W:cN}{A:cD}{ps:List de}{fr:List Int}{g:List (List Int)}{part:List Int}
theorem BM(h:RunE (pD W A) (zi W A) (FW W A) ps fr g)(V:g.length=ps.length)(Q:∀p∈ps,(0≤p.1∧p.1<(W.2.1.length:Int))∧0≤p.2∧p.2<(A.2.1.length:Int))(Z:dc W)(hA:db A)
  {st lo:List Int} {to al:Nat→Bool} (H:WyOK g fr to al st) (b:RoOK g (st.getD (st.length -1) 0).toNat (E2 (FP W A) ps) lo) (N:st.length -1≤1099511627776) (O:lo.length≤1099511627776):PathE W A (FR ps (st.take (st.length -1))) (FR ps lo):=by
 have U:=H.ne;have y:=b.ne;have hg:=h.okG V;have oks:AF g.length (st.take (st.length -1)):=fun x r=>H.rg x (LY r)
 have G:∀{l:List Int},AF g.length l→AF W.2.1.length (FR ps l):=fun {l} J x r=>by
  obtain⟨n,hn,rfl⟩:=LU.1 r;have:=J n hn;exact(Q _ (qP O7)).1
 have d:(st.take (st.length -1)).length=st.length -1:=by rw[LB];omega
 have B:∀i,i<st.length -1→(st.take (st.length -1)).getD i 0=st.getD i 0:=fun i hi=>by
  rw[KT,K6 hi,←KT]
 have z:0≤st.getD (st.length -1) 0:=by
  rw[KT,KY O7];exact(H.rg _ (Lc O7)).1
 have w:lo.getD 0 0=st.getD (st.length -1) 0:=by rw[b.st];omega
 generalize hq:st.take (st.length -1)=sq at*
 have I:0<(lo.map Int.toNat).length:=by rw[Ls];exact y
 have L:∀i,i+1<(sq++lo).length→(sq++lo).getD (i+1) 0∈g.getD ((sq++lo).getD i 0).toNat []:=fun i hi=>by
  rw[Ll,d]at hi
  by_cases e:i<st.length -1
  ·rw[re (i:=i) O7,B i e]
   have C:=(H.ed i O7).1;by_cases T:i+1<st.length -1
   ·rw[re O7,B _ T];exact C
   ·rw[rh O7,d,show i+1 -(st.length -1)=0 by omega,w,show st.length -1=i+1 by omega];exact C
  ·rw[rh (i:=i) O7,rh (i:=i+1) O7,d,show i+1 -(st.length -1)=(i -(st.length -1))+1 by omega]
   exact b.ed _ O7
 have K:lo.getD 0 0∈g.getD ((sq++lo).getD ((sq++lo).length -1) 0).toNat []:=by
  rw[Ll,rh O7,show sq.length+lo.length -1 -sq.length=lo.length -1 by omega,w];have:=b.cl;rwa[Kc z]at this
 have o:∀i,mF g (sq.map Int.toNat) (lo.map Int.toNat) i=true:=by
  rw[←mN I,LE,vZ oks,vZ b.rg,Kd];intro i hi
  rw[LZ]at hi
  unfold F2 G0;rw[Kn];split
  ·exact L i (by assumption)
  ·obtain rfl:i=(sq++lo).length -1:=by omega
   exact K
 have m:∀i,xx (sq.map Int.toNat) (lo.map Int.toNat) i<ps.length:=fun i=>by
  have h1:=o i;unfold mF at h1
  rw[Kn]at h1
  have:=Eg.lt1 (g:=g) (u:=xx (sq.map Int.toNat) (lo.map Int.toNat) i) h1;omega
 have t:(sq++lo).getD 0 0=st.getD 0 0:=by
  by_cases e:0<st.length -1
  ·rw[re O7,B 0 e]
  ·rw[rh O7,d,show 0 -(st.length -1)=0 by omega,w,show st.length -1=0 by omega]
 have Y:((xx (sq.map Int.toNat) (lo.map Int.toNat) 0:Nat):Int)=st.getD 0 0:=by
  have:=f8 (s:=sq.map Int.toNat) (l:=lo.map Int.toNat) (i:=0) (by rw[Ll];omega);rw[LE,vZ oks,vZ b.rg,t]at this
  exact this.symm
 have E:PWay (pD W A) (zi W A) (FW W A) (FP W A) (fun i=>ps.getD (xx (sq.map Int.toNat) (lo.map Int.toNat) i) (0,0)):=by
  refine⟨?_,fun i=>h.ok _ (qP (m i)),fun i=>?_,fun S hS i=>?_⟩
  ·obtain⟨p,h1,h2,h3⟩:=(h.sn _).1 (show st.getD 0 0∈fr from H.st)
   have h4:=vm (h.sm p h1 h2);rw[show xx (sq.map Int.toNat) (lo.map Int.toNat) 0=ps.idxOf p by omega,h4.2];exact h1
  ·have C:((xx (sq.map Int.toNat) (lo.map Int.toNat) (i+1):Nat):Int)∈g.getD (xx (sq.map Int.toNat) (lo.map Int.toNat) i) []:=by simpa[mF]using o i
   obtain⟨q,h1,h2,h3⟩:=(h.nn _ (by have:=m i;omega) _).1 C;have h4:=vm (h.nm _ (by have:=m i;omega) q h1 h2);rw[show xx (sq.map Int.toNat) (lo.map Int.toNat) (i+1)=ps.idxOf q by omega,h4.2];exact h1
  ·obtain⟨x,r,c⟩:=b.all (ps.map S) (LU.2 ⟨S,hS,rfl⟩)
   have P:=b.rg x r;rw[E3 O7]at c
   obtain⟨k,J,rfl⟩:=LT.1 r;obtain⟨j,X,C⟩:=xy (s:=sq.map Int.toNat) (l:=lo.map Int.toNat) (k:=k) (by rw[Ls];exact J) i;refine⟨j,X,?_⟩;have R:(lo.map Int.toNat).getD k 0=lo[k].toNat:=by rw[KT,K1,KY J];rfl
   rw[C,R];exact c
 obtain⟨D,M⟩:=nR Z hA E;have okss:=G oks;have okll:=G b.rg;have f:∀{l:List Int},AF g.length l→(FR ps l).map Int.toNat=(l.map Int.toNat).map fun n=>(ps.getD n (0,0)).1.toNat:=fun {l} J=>by
  unfold FR;rw[LH,LH];rfl
 have a:∀i,xx ((FR ps sq).map Int.toNat) ((FR ps lo).map Int.toNat) i=(ps.getD (xx (sq.map Int.toNat) (lo.map Int.toNat) i) (0,0)).1.toNat:=fun i=>by
  rw[f oks,f b.rg,xz I]
 have v:0<((FR ps lo).map Int.toNat).length:=by unfold FR;rw[Ls,Ls];exact y
 refine⟨okss,okll,by unfold FR;rw[Ls];exact y,?_,?_,by unfold FR;rw[Ls,Ls,d];exact⟨N,O⟩⟩
 ·unfold ru
  rw[JL,JL];refine⟨⟨?_,?_⟩,?_⟩
  ·have h1:=D.first
   rw[←a]at h1
   rw[←vZ okss,←vZ okll,←LE,f8 (by rw[Ll];omega)];simpa using h1
  ·rw[←vZ okss,←vZ okll,←LE,mN v]
   intro i
   have h1:=D.step i;rw[←a,←a]at h1
   simpa[mF]using h1
  ·rw[Kd]
   intro F hF
   rw[Kg];obtain⟨x,r,c⟩:=b.all (ps.map fun p=>decide (p.1∈F)) (LU.2 ⟨_,LL _ (LU.2 ⟨F,hF,rfl⟩),rfl⟩);have P:=b.rg x r;rw[E3 O7]at c
   exact⟨_,OQ c,by rw[Kn];exact LU.2 ⟨x,r,rfl⟩⟩
 ·have e1:=xn (lb:=W.2.2.1) okss
  have T:=xn (lb:=W.2.2.1) okll;rw[e1,T];exact(Acc.congr fun i=>(by rw[xz v,a]:W.2.2.1.getD (ps.getD (xx (sq.map Int.toNat) (lo.map Int.toNat) i) (0,0)).1.toNat 0=_)).1 M
end
class IsM(P:Program)(t:TypeId)(k e:outParam TypeId):Prop where
 ok:P.underlying t=some (.map k e)
class IsKy(P:Program)(k:TypeId):Prop where
 ok:WideMaps.KeyLaw P k
theorem IsKy.of{P:Program}{k:TypeId}{d:TypeDesc}(h:laidOutB P=true){m:Nat}(f:Nat.ble (m+1) 10000=true)(a:Nat.ble (k+1) P.types.size=true)(i:P.keyTypeAt m k=true)(c:P.underlying k=some d)(hd:fP d=true):IsKy P k:=
 ⟨deep_law_laid h (MH f) (Nat.lt_of_succ_le (MH a)) i (by
  rw[c];cases d<;>first|rfl|(cases hd))⟩
class IsZ0(P:Program)(e:TypeId):Prop where
 ok:(P.info? e).map (fun i=>i.zero)=some (some (.int .i64 0))
def KeyV(P:Program)(k:TypeId)(v:Value):Prop:=∃l,keyOf P k v=some l
def NumM(P:Program)(k:TypeId)(w:World)(b:Nat)(ks:List Value):Prop:=
 ∃(a:Array MapEntry) (clock:Nat),w.heap[b]?=some (.map a clock)∧a.toList.map (·.key)=ks∧(∀(i:Nat) (e:MapEntry),a.toList[i]?=some e→e.val=.int .i64 (i:Int))∧(∀x∈ks,KeyV P k x)∧ks.Nodup
section
variable {P:Program}{k:TypeId}{w w':World}{b:Nat}{ks:List Value}
theorem NumM.lt(h:NumM P k w b ks):b<w.heap.size:=by
 obtain⟨c,clock,a,_⟩:=h;exact(Jv.1 a).1
theorem NumM.at(h:NumM P k w b ks)(a:w'.heap[b]?=w.heap[b]?):NumM P k w' b ks:=by
 obtain⟨c,clock,h1,h2⟩:=h;exact⟨c,clock,a.trans h1,h2⟩
theorem NumM.ext(h:NumM P k w b ks)(a:Ext w w'):NumM P k w' b ks:=h.at (a.block b h.lt)
theorem NumM.kept{row:Option Nat}(h:NumM P k w b ks)(c:w.grownBy w' row)(a:some b≠row):NumM P k w' b ks:=h.at (c.block b h.lt a)
theorem NumM.made(w:World):NumM P k (w.alloc (.map #[] 0)) w.heap.size []:=
 ⟨#[],0,OH w _,rfl,fun i e h=>by simp at h,fun x h=>by simp at h,List.Pairwise.nil⟩
theorem Ea{t e:TypeId}{x:Value}[u:IsM P t k e][r:IsKy P k][E:IsZ0 P e](h:NumM P k w b ks)(f:KeyV P k x):
  (x∉ks∧(Instr.lookup t (.map (some b)) x true).run P w=.ok (.tuple #[.int .i64 0,.bool false]) w)∨
  ∃(j:Nat) (B:j<ks.length),ks[j]=x∧(Instr.lookup t (.map (some b)) x true).run P w=.ok (.tuple #[.int .i64 (j:Int),.bool true]) w:=by
 obtain⟨D,clock,C,a,F,p,G⟩:=h;obtain⟨l,f⟩:=f;obtain⟨i,h1,h2⟩:=Nl.1 E.ok;have o:(zeroValue e).run P w=.ok (.int .i64 0) w:=by simp[zeroValue,typeInfo,h1,h2]
 have c:∀e∈D.toList,∃l,keyOf P k e.key=some l:=fun e s=>p _ (a▸LU.2 ⟨e,s,rfl⟩)
 rcases r.ok.find w f D.toList c with⟨g1,g2⟩|⟨j,H,g1,g2,g3⟩
 ·refine .inl ⟨fun A=>?_,by simp[Instr.lookup,OW u.ok,Mq C,r.ok.check w _ f,g1,o,Result.andThen]⟩
  rw[←a]at A
  obtain⟨e,s,q⟩:=LU.1 A;exact g2 e s q
 ·have B:j<ks.length:=by rw[←a,Ls];exact(K0.1 g2).1
  refine .inr ⟨j,B,?_,?_⟩
  ·subst a
   rw[Lb,←g3]
   congr 1
   exact(K0.1 g2).2
  ·have m:=F j H g2
   simp[Instr.lookup,OW u.ok,Mq C,r.ok.check w _ f,g1,Result.andThen,m]
theorem Eb{t e:TypeId}{x:Value}[G:IsM P t k e][C:IsKy P k](h:NumM P k w b ks)(E:KeyV P k x)(hn:x∉ks):
  ∃w',(Instr.mapUpdate t (.map (some b)) x (.int .i64 (ks.length:Int))).run P w=.ok () w'∧NumM P k w' b (ks++[x])∧w.grownBy w' (some b):=by
 obtain⟨r,clock,B,m,F,s,u⟩:=h;obtain⟨l,o⟩:=E;have p:∀e∈r.toList,∃l,keyOf P k e.key=some l:=fun e f=>s _ (m▸LU.2 ⟨e,f,rfl⟩)
 have H:r.toList.length=ks.length:=by rw[←m,Ls]
 have A:=(Jv.1 B).1;rcases C.ok.find w o r.toList p with⟨g1,g2⟩|⟨j,K,g1,g2,g3⟩
 ·refine⟨_,by simp[Instr.mapUpdate,OW G.ok,Mq B,C.ok.check w false o,g1,Mr _ B,Result.andThen];rfl,?_,?_⟩
  ·refine⟨r.push ⟨x,.int .i64 (ks.length:Int),clock⟩,clock+1,by simp[A],by simp[m],fun i e f=>?_,fun y q=>?_,?_⟩
   ·rw[Array.toList_push]at f
    rcases MR i r.toList.length with hi|hi
    ·rw[KU hi]at f
     exact F i e f
    ·rw[KV hi]at f
     have J:i -r.toList.length=0:=by
      have:=(K0.1 f).1;simp at this;omega
     rw[J]at f
     simp at f
     subst f;show Value.int .i64 (ks.length:Int)=_
     congr 1;omega
   ·rcases LK.1 q with q|q
    ·exact s y q
    ·rw[L0]at q;subst q;exact⟨l,o⟩
   ·rw[L3]
    refine⟨u,by simp,fun a I c D e=>?_⟩;rw[L0]at D
    subst D;subst e;exact hn I
  ·exact⟨rfl,rfl,rfl,by simp,fun i _ hi=>by
    simp only[Jz];rw[OJ (fun e=>hi (by rw[e]))]⟩
 ·exact absurd (m▸LU.2 ⟨K,LW g2,g3⟩) hn
end
section
variable {P:Program}{Q:Exit→Act→World→Prop}{n:Nat}{σ:Sg}{w:World}{L rest:List Oper}{d:Nat}{ty:TypeId}{pos:String}{af:Array Edge}{g:Option (Nat×Bool)}{t k e:TypeId}{b:Nat}{ks:List Value}{x y z:Operand}{v:Value}
theorem fk(o:gd L σ ⟨none,.mapUpdate t x y z,ty,pos,af,g⟩=some true)(j:ev σ x=some (.map (some b)))(i:ev σ y=some v)(c:ev σ z=some (.int .i64 (ks.length:Int)))[p:IsM P t k e][q:IsKy P k]
  (h:NumM P k w b ks) (l:KeyV P k v) (hn:v∉ks)
  (m:∀w',NumM P k w' b (ks++[v])→w.grownBy w' (some b)→WL P L Q rest n σ w'):
  WL P L Q (⟨none,.mapUpdate t x y z,ty,pos,af,g⟩::rest) n σ w:=by
 obtain⟨w',g1,g2,g3⟩:=Eb (t:=t) h l hn;refine fp o (fun a f=>?_) (m w' g2 g3);simp[execOp,f.ev j,f.ev i,f.ev c,g1]
theorem fd(c:gd L σ ⟨some d,.makeMap t none,ty,pos,af,g⟩=some true)(hd:Nat.ble (d+1) n=true)
  (h:NumM P k (w.alloc (.map #[] 0)) w.heap.size []→WL P L Q rest n ((d,.map (some w.heap.size))::σ) (w.alloc (.map #[] 0))):
  WL P L Q (⟨some d,.makeMap t none,ty,pos,af,g⟩::rest) n σ w:=by
 refine WL.run c hd (fun a f=>?_) (h (NumM.made w));simp[execOp,Instr.makeMap]
end
theorem KeyV.pair{P:Program}{k fa fb:TypeId}{x y:Int}(h:(P.keyType k&&Value.formed P k (.agg #[.int .i64 0,.int .i64 0]))=true)
  (i:∀a b:Int,P.keyLits (P.types.size+1) k [.int .i64 a,.int .i64 b]=(if(Lit.int .i64 a).wf=true∧(Lit.int .i64 b).wf=true then some [.int .i64 a,.int .i64 b]else none))
  (hd:∃d,P.underlying k=some (.struct d)) (f:(Lit.int .i64 x).wf=true) (c:(Lit.int .i64 y).wf=true):KeyV P k (.agg ⟨[.int .i64 x,.int .i64 y]⟩):=by
 obtain⟨d,hd⟩:=hd;refine⟨.string (keyBytes [.int .i64 x,.int .i64 y]),?_⟩;unfold keyOf;rw[hd];dsimp only;have hf:Value.formed P k (.agg ⟨[.int .i64 x,.int .i64 y]⟩)=Value.formed P k (.agg #[.int .i64 0,.int .i64 0]):=by
  unfold Value.formed;rw[hd];rfl
 rw[hf,OK h];show Option.map _ (P.keyLits (P.types.size+1) k [.int .i64 x,.int .i64 y])=_;rw[i,OK ⟨f,c⟩];rfl
end Go.Proofs.YtfpjecjadlgdcaaGreatDoor
