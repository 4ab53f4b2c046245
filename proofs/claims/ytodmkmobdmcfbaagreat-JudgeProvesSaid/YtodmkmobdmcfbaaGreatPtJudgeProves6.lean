import Derived.Test.YtodmkmobdmcfbaaGreatPtJudgeProves5
set_option linter.unusedVariables false
set_option linter.unusedSimpArgs false
set_option linter.defProp false
namespace Go.Proofs.YtodmkmobdmcfbaaGreat
open Go.RowKit
instance uY:IsT Tryz.prog 263 (Int×Int):=IsT.of OT Tryz.underlying263 rfl
instance uZ:IsFd Tryz.prog 263 0 0:=IsFd.of OT
instance u4:IsFd Tryz.prog 263 1 1:=IsFd.of OT
instance u5:IsZC Tryz.prog 263 [Pj 0,Pj 0]:=IsZC.of (z:=.agg #[Pj 0,Pj 0]) OT rfl
instance u6:IsBd Tryz.prog 263 [(0,1),(1,1)]:=IsBd.of OT
instance u7:IsZ Tryz.prog 263 ((0,0):Int×Int) 16:=IsZ.of (z:=.agg #[Pj 0,Pj 0]) OT (fun _ _=>C1 (C2 _ _ _) (C2 _ _ _))
instance u9:IsS Tryz.prog 264 263:=⟨Tryz.underlying264⟩
section
variable {P:Program}{Q:Exit→Act→World→Prop}{n:Nat}{σ:Sg}{w wc:World}{L rest:List Oper}{S:World→Prop}{ord:List (Nat×Bool)}{i d:Nat}{op:Op}{ty:TypeId}{pos:String}{af:Array Edge}{g:Option (Nat×Bool)}{t e:TypeId}{x y:Operand}{b o:Nat}{cells:List Value}
theorem fe{a c:Int}{f:Array TypeId}(m:gd L σ ⟨some d,.call ⟨.builtin .min,#[x,y],f⟩,ty,pos,af,g⟩=some true)(hd:Nat.ble (d+1) n=true)(l:ev σ x=some (Pj a))(k:ev σ y=some (Pj c))
  (h:WL P L Q rest n ((d,Pj (min a c))::σ) w):WL P L Q (⟨some d,.call ⟨.builtin .min,#[x,y],f⟩,ty,pos,af,g⟩::rest) n σ w:=by
 refine WL.run m hd (fun u j=>?_) h;have e:(if c<a then c else a)=min a c:=by omega
 simp[execOp,resolve,invoke,builtin,j.ev l,j.ev k,run_min_int2,e]
end
structure TM(w:World)(B b:Nat)(gV nV lV pV sV:Value)(nb lb pb:Nat)(s:Ts)(st:List Int):Prop where
 blk:Blk w b 223 [gV,nV,lV,pV,sV,.int .i64 s.count,.int .i64 s.got]
 num:Own w B 3 c7 nV s.num
 low:Own w B 3 c7 lV s.low
 part:Own w B 3 c7 pV s.part
 stk:Own w B 3 c7 sV st
 ge:B≤b
 hnb:nV.ownBlock=some nb
 hlb:lV.ownBlock=some lb
 hpb:pV.ownBlock=some pb
 ne:nb≠lb∧nb≠pb∧lb≠pb∧nb≠b∧lb≠b∧pb≠b
 sne:∀k,sV.ownBlock=some k→k≠nb∧k≠lb∧k≠pb∧k≠b
def tS(b a lb pb:Nat)(sV:Value):Nat→Prop:=fun k=>k=b∨k=a∨k=lb∨k=pb∨sV.ownBlock=some k
theorem TM.lts{w:World}{B b:Nat}{gV nV lV pV sV:Value}{a lb pb:Nat}{s:Ts}{st:List Int}(h:TM w B b gV nV lV pV sV a lb pb s st):b<w.heap.size∧a<w.heap.size∧lb<w.heap.size∧pb<w.heap.size∧(∀k,sV.ownBlock=some k→k<w.heap.size)∧B≤a∧B≤lb∧B≤pb∧(∀k,sV.ownBlock=some k→B≤k):=
 ⟨h.blk.lt,(h.num.lt _ h.hnb).2.1,(h.low.lt _ h.hlb).2.1,(h.part.lt _ h.hpb).2.1,fun k c=>(h.stk.lt k c).2.1,(h.num.lt _ h.hnb).1,(h.low.lt _ h.hlb).1,(h.part.lt _ h.hpb).1,fun k c=>(h.stk.lt k c).1⟩
theorem TM.ext{w w':World}{B b:Nat}{gV nV lV pV sV:Value}{c lb pb:Nat}{s:Ts}{st:List Int}(h:TM w B b gV nV lV pV sV c lb pb s st)(a:Ext w w'):TM w' B b gV nV lV pV sV c lb pb s st:=
 ⟨h.blk.ext a,h.num.extN a,h.low.extN a,h.part.extN a,h.stk.extN a,h.ge,h.hnb,h.hlb,h.hpb,h.ne,h.sne⟩
theorem TM.off{w w':World}{row:Option Nat}{B b:Nat}{gV nV lV pV sV:Value}{f lb pb:Nat}{s:Ts}{st:List Int}(h:TM w B b gV nV lV pV sV f lb pb s st)(c:w.grownBy w' row)(hn:∀k,row=some k→¬tS b f lb pb sV k):TM w' B b gV nV lV pV sV f lb pb s st:=
 ⟨h.blk.kept c (fun e=>hn b e.symm (.inl rfl)),h.num.keptN c (fun k a e=>hn k e.symm (.inr (.inl (by rw[h.hnb]at a;cases a;rfl)))),h.low.keptN c (fun k a e=>hn k e.symm (.inr (.inr (.inl (by rw[h.hlb]at a;cases a;rfl))))),h.part.keptN c (fun k a e=>hn k e.symm (.inr (.inr (.inr (.inl (by rw[h.hpb]at a;cases a;rfl)))))),h.stk.keptN c (fun k a e=>hn k e.symm (.inr (.inr (.inr (.inr a))))),h.ge,h.hnb,h.hlb,h.hpb,h.ne,h.sne⟩
theorem ij(w:World){B b:Nat}{gV nV lV pV sV:Value}{W lb pb:Nat}{s:Ts}{st:List Int}(h:TM w B b gV nV lV pV sV W lb pb s st){k:Nat}(hB:B≤w.heap.size)(hk:k<s.num.length)(hk2:k<s.low.length)(hc0:0≤s.count)(hc:s.count<4611686018427387904)(hst:st.length≤1099511627776):
  Rt Tryz.prog 212 [Pk b,Pj k].toArray w fun _ w'=>∃sV',TM w' B b gV nV lV pV sV' W lb pb (Gy k s) (st++[(k:Int)])∧Chg (tS b W lb pb sV) w w'∧(∀j,sV'.ownBlock=some j→sV.ownBlock=some j∨w.heap.size≤j):=by
 obtain⟨hn1,hn2,hn3,E,U,hn6⟩:=h.ne;refine dH Tryz.func212 Tryz.ntmps212 rfl rfl ?_;have hb:=h.blk;refine PQ ?_;refine WL.st rfl rfl rfl hb rfl rfl Pd (fun R hb1 O=>?_);have hC1:Chg (tS b W lb pb sV) w R:=(Chg.refl _ _).grown O (fun g e=>by cases e;exact .inl rfl);have D:=h.num.keptN O (fun g a e=>by rw[h.hnb]at a;cases a;cases e;exact E rfl);have J:=h.low.keptN O (fun g a e=>by rw[h.hlb]at a;cases a;cases e;exact U rfl);have f:=h.part.keptN O (fun g a e=>by rw[h.hpb]at a;cases a;cases e;exact hn6 rfl);have r:=h.stk.keptN O (fun g a e=>by cases e;exact(h.sne _ a).2.2.2 rfl);skip;apply WL.nil;apply bx;apply CW.seq;have hd:=hb1.ext (Ext.drew R);have hSK:∀w2,(fun x:World=>x.heap[b]?=(drew R).heap[b]?) w2→w2.heap[b]?=(drew R).heap[b]?:=fun _ h=>h
 refine aF (fun x:World=>x.heap[b]?=(drew R).heap[b]?) [(0,true),(1,true),(2,true),(3,true),(4,true),(5,true),(6,true),(7,true),(8,true),(9,true),(10,true),(11,true),(12,true),(13,true),(14,true),(15,true),(16,true),(17,true),(18,true),(19,false),(20,true),(21,false)] mixed OT rfl ?_;refine Q7 ?_;have z:=D.extN (Ext.drew R);have G:=J.extN (Ext.drew R);refine cz (u:=Pj (s.count+1)) (yv:=s.count+1) rfl rfl rfl rfl rfl rfl z hk O3 O3 Pe (fun w' a=>a.block b hd.lt (fun e=>E (by rw[h.hnb]at e;exact(Nn e).symm))) (fun w2 q C l=>?_);have I:=G.keptN l (fun g a e=>by rw[h.hlb]at a;rw[h.hnb]at e;cases a;cases e;exact hn1 rfl);have hb2:=hd.kept l (fun e=>by rw[h.hnb]at e;cases e;exact E rfl);skip;refine cz (u:=Pj (s.count+1)) (yv:=s.count+1) rfl rfl rfl rfl rfl rfl I hk2 O3 O3 Pe (fun w' a=>(a.block b hb2.lt (fun e=>U (by rw[h.hlb]at e;exact(Nn e).symm))).trans (l.block b hd.lt (fun e=>E (by rw[h.hnb]at e;exact(Nn e).symm)))) (fun w3 q3 H N=>?_);have A:=C.keptN N (fun g a e=>by rw[h.hnb]at a;rw[h.hlb]at e;cases a;cases e;exact hn1 rfl);have hb3:=hb2.kept N (fun e=>by rw[h.hlb]at e;cases e;exact U rfl);have c:=((f.extN (Ext.drew R)).keptN l (fun g a e=>by rw[h.hpb]at a;rw[h.hnb]at e;cases a;cases e;exact hn2 rfl)).keptN N (fun g a e=>by rw[h.hpb]at a;rw[h.hlb]at e;cases a;cases e;exact hn3 rfl);have X:=((r.extN (Ext.drew R)).keptN l (fun g a e=>by rw[h.hnb]at e;cases e;exact(h.sne _ a).1 rfl)).keptN N (fun g a e=>by rw[h.hlb]at e;cases e;exact(h.sne _ a).2.1 rfl);have hC3:Chg (tS b W lb pb sV) w w3:=((hC1.grown (w'':=drew R) (row:=none) ⟨rfl,rfl,rfl,MM _,fun _ _ _=>rfl⟩ (fun g e=>by cases e)).grown l (fun g e=>by rw[h.hnb]at e;cases e;exact .inr (.inl rfl))).grown N (fun g e=>by rw[h.hlb]at e;cases e;exact .inr (.inr (.inl rfl)));clear hb hb1 hb2 hd D C z J I G f r hSK hC1;refine Rf ?_;apply bx;apply CW.region;refine QU ?_;have hBw:B≤w3.heap.size:=MN hB hC3.size;refine dY (F:=c7) (yv:=(k:Int)) rfl rfl O3 rfl rfl O3 X Pe hBw O6 OU OY OS (fun sV' w4 p m M V=>?_);have Y:=A.keptN M (fun g a e=>by rw[h.hnb]at a;cases a;exact(h.sne _ e.symm).1 rfl);have Z:=H.keptN M (fun g a e=>by rw[h.hlb]at a;cases a;exact(h.sne _ e.symm).2.1 rfl);have T:=c.keptN M (fun g a e=>by rw[h.hpb]at a;cases a;exact(h.sne _ e.symm).2.2.1 rfl);have hb4:=hb3.kept M (fun e=>(h.sne _ e.symm).2.2.2 rfl);have hC4:Chg (tS b W lb pb sV) w w4:=hC3.grown M (fun g e=>.inr (.inr (.inr (.inr e))));have hl1:=A.lt _ h.hnb;have hl2:=H.lt _ h.hlb;have hl3:=c.lt _ h.hpb;have hl4:=hb3.lt;have v:∀j,sV'.ownBlock=some j→j≠W∧j≠lb∧j≠pb∧j≠b:=by
  intro j hj
  rcases V j hj with h1|h1
  ·exact h.sne j h1
  ·refine⟨?_,?_,?_,?_⟩<;>(intro e;omega)
 refine QQ ?_;obtain⟨so,sc,rfl⟩:=m.val;refine WL.st rfl rfl rfl hb4 rfl rfl Pd (fun w5 hb5 K=>?_);refine QB ?_;refine aV rfl ⟨_,⟨hb5,?_,?_,?_,?_,h.ge,h.hnb,h.hlb,h.hpb,h.ne,v⟩,hC4.grown K (fun g e=>by cases e;exact .inl rfl),fun j hj=>(V j hj).imp id (fun h1=>MN hC3.size h1)⟩
 ·exact Y.keptN K (fun g a e=>by rw[h.hnb]at a;cases a;cases e;exact E rfl)
 ·exact Z.keptN K (fun g a e=>by rw[h.hlb]at a;cases a;cases e;exact U rfl)
 ·exact T.keptN K (fun g a e=>by rw[h.hpb]at a;cases a;cases e;exact hn6 rfl)
 ·exact m.keptN K (fun g a e=>by cases e;exact(v _ a).2.2.2 rfl)
def vW(l:List Nat):List Int:=l.map fun n:Nat=>(n:Int)
theorem vX(a b:List Nat):vW (a++b)=vW a++vW b:=LC
theorem kC(w:World){B b:Nat}{gV nV lV pV sV:Value}{R lb pb:Nat}{s:Ts}{base T:List Nat}{k:Nat}(h:TM w B b gV nV lV pV sV R lb pb s (vW (base++k::T)))(hnd:(k::T).Nodup)(hT:∀x∈k::T,x<s.part.length)(hg0:0≤s.got)(hg1:s.got<4611686018427387904):
  Rt Tryz.prog 213 [Pk b,Pj k].toArray w fun _ w'=>∃sV',TM w' B b gV nV lV pV sV' R lb pb (Gz (k::T) s) (vW base)∧Chg (tS b R lb pb sV) w w'∧sV'.ownBlock=sV.ownBlock:=by
 obtain⟨hn1,hn2,hn3,hn4,hn5,V⟩:=h.ne;refine dH Tryz.func213 Tryz.ntmps213 rfl rfl ?_;refine Qo ?_;refine CW.loop (S:=List Nat×List Nat×Value) (fun _=>[(0,Pk b),(1,Pj k)])
  (fun x w'=>k::T=x.1++x.2.1∧0<x.1.length∧TM w' B b gV nV lV pV x.2.2 R lb pb {s with part:=E8 s.part x.2.1 s.got} (vW (base++x.1))∧Chg (tS b R lb pb sV) w w'∧x.2.2.ownBlock=sV.ownBlock) (fun x=>x.1.length) (k::T,[],sV) OR ⟨(Kk _).symm,Nat.succ_pos _,h,Chg.refl _ _,rfl⟩ ?_
 rintro⟨rem,D,v⟩ w1 ⟨c,W,hM,hC,hv⟩
 dsimp only at c W hM hv
 obtain⟨rem',m,rfl⟩:∃rem' m,rem=rem'++[m]:=⟨rem.dropLast,rem.getLast (L1 W),(List.dropLast_concat_getLast _).symm⟩;have hmT:m∈k::T:=by rw[c];simp
 have hml:=hT m hmT;have est:vW (base++(rem'++[m]))=vW (base++rem')++[(m:Int)]:=by rw[←Kj,vX];rfl
 rw[est]at hM
 generalize hX:vW (base++rem')=X at*
 have hb:=hM.blk;obtain⟨so,sc,hsv,Z⟩:=hM.stk.oldN.sl;have Y:(X++[(m:Int)]).length=X.length+1:=by simp
 have hel:∀(h:(((X++[(m:Int)]).length:Int) -1).toNat<(X++[(m:Int)]).length),(X++[(m:Int)])[(((X++[(m:Int)]).length:Int) -1).toNat]=m:=by
  intro h
  have:(((X++[(m:Int)]).length:Int) -1).toNat=X.length:=by rw[Y];omega
  simp[this]
 have hmx:=Z.len63;subst hsv;refine QN ?_;refine dl rfl rfl rfl rfl rfl O8 Z OS OS O3 (fun u q hu=>?_);obtain rfl:=hu.int;simp only[hel];refine QP ?_;refine QL.nil (fun w2 F=>?_);have hM2:=hM.ext F;have hC2:Chg (tS b R lb pb sV) w w2:=⟨F.os.trans hC.os,F.tape.trans hC.tape,F.output.trans hC.output,MN hC.size F.size,fun k hk hn=>(F.block k (MQ hk hC.size)).trans (hC.block k hk hn)⟩;apply bx;apply CW.seq;have E:=hM2.ext (Ext.drew w2);have hbd:=E.blk;have hSK:∀A,(fun x:World=>x.heap[b]?=(drew w2).heap[b]?) A→A.heap[b]?=(drew w2).heap[b]?:=fun _ h=>h
 refine aE (fun x:World=>x.heap[b]?=(drew w2).heap[b]?) [(0,true),(1,true),(2,true),(3,true),(4,true),(5,true),(6,true),(7,true),(8,true),(9,true),(10,true),(11,true),(12,false),(13,true)] 14 mixed OT rfl ?_;refine Q_ ?_;refine bX (α:=Int) X.length (by rw[Y];omega) rfl rfl rfl rfl rfl (by have:=Z.le;omega) ?_;refine cu rfl (fi rfl rfl rfl (WL.nil (a_ rfl ?_)));refine Re ?_;refine bm rfl (WL.st rfl rfl rfl hbd rfl rfl Pd (fun A hb3 O=>WL.nil (bp ?_)));have f:=(E.stk.take rfl (k:=X.length) OS).keptN O (fun g a e=>by cases e;exact(hM.sne _ (show Value.ownBlock (.slice so (X++[(m:Int)]).length sc)=some b by cases so<;>exact a)).2.2.2 rfl);rw[show(X++[(m:Int)]).take X.length=X by simp]at f
 have I:=E.num.keptN O (fun g a e=>by rw[h.hnb]at a;cases a;cases e;exact hn4 rfl);have K:=E.low.keptN O (fun g a e=>by rw[h.hlb]at a;cases a;cases e;exact hn5 rfl);have z:=E.part.keptN O (fun g a e=>by rw[h.hpb]at a;cases a;cases e;exact V rfl);have hC3:Chg (tS b R lb pb sV) w A:=(hC2.grown (w'':=drew w2) (row:=none) ⟨rfl,rfl,rfl,MM _,fun _ _ _=>rfl⟩ (fun g e=>by cases e)).grown O (fun g e=>by cases e;exact .inl rfl);apply bx;apply CW.seq;have hb4:=hb3.ext (Ext.drew A);have hSK:∀w4,(fun x:World=>x.heap[b]?=(drew A).heap[b]?) w4→w4.heap[b]?=(drew A).heap[b]?:=fun _ h=>h
 refine aF (fun x:World=>x.heap[b]?=(drew A).heap[b]?) [(0,true),(1,true),(2,true),(3,true),(4,true),(5,true),(6,true),(7,true),(8,true),(9,true),(10,false)] mixed OT rfl ?_;refine Q7 ?_;refine cz (u:=Pj s.got) (yv:=s.got) rfl rfl rfl rfl rfl rfl (z.extN (Ext.drew A)) (by dsimp only;rw[E_];exact hml) O3 O3 Pe (fun w' a=>a.block b hb4.lt (fun e=>by rw[h.hpb]at e;cases e;exact V rfl)) (fun w5 q r N=>?_);have H:=(I.extN (Ext.drew A)).keptN N (fun g a e=>by rw[h.hnb]at a;rw[h.hpb]at e;cases a;cases e;exact hn2 rfl);have J:=(K.extN (Ext.drew A)).keptN N (fun g a e=>by rw[h.hlb]at a;rw[h.hpb]at e;cases a;cases e;exact hn3 rfl);have U:Value.ownBlock (.slice so X.length sc)=sV.ownBlock:=by rw[←hv];cases so<;>rfl
 have G:=(f.extN (Ext.drew A)).keptN N (fun g a e=>by rw[h.hpb]at e;cases e;exact(h.sne _ (U▸a)).2.2.1 rfl);have hb5:=hb4.kept N (fun e=>by rw[h.hpb]at e;cases e;exact V rfl);have hC5:Chg (tS b R lb pb sV) w w5:=(hC3.grown (w'':=drew A) (row:=none) ⟨rfl,rfl,rfl,MM _,fun _ _ _=>rfl⟩ (fun g e=>by cases e)).grown N (fun g e=>by rw[h.hpb]at e;cases e;exact .inr (.inr (.inr (.inl rfl))));have l:∀j,Value.ownBlock (.slice so X.length sc)=some j→j≠R∧j≠lb∧j≠pb∧j≠b:=fun j hj=>h.sne j (U▸hj)
 have p:TM w5 B b gV nV lV pV (.slice so X.length sc) R lb pb {s with part:=E8 s.part (m::D) s.got} (vW (base++rem')):=⟨hb5,H,J,r,by rw[hX];exact G,h.ge,h.hnb,h.hlb,h.hpb,h.ne,l⟩;clear hM hM2 E hb hbd hb3 hb4 f I K z H J r G hC3 hC2 hC hSK;refine Rf ?_;apply bx;refine Qw ?_;apply CW.cond rfl<;>intro C
 ·have C:m=k:=by
   have:(m:Int)=(k:Int):=by simpa using C
   omega
  subst C;have hr:rem'=[]:=by
   cases rem' with
   |nil=>rfl
   |cons y ys=>
    exfalso;rw[Km,Km]at c
    obtain⟨rfl,h2⟩:=Kl c;rw[L4]at hnd
    exact hnd.1 (by rw[h2];simp)
  subst hr;have hD:D=T:=by simpa using c.symm
  subst hD;rw[Kk]at p
  have hb6:=p.blk;dsimp only at hb6
  refine PX ?_;refine WL.st rfl rfl rfl hb6 rfl rfl Pd (fun w6 hb7 M=>?_);refine QB ?_;refine aV rfl ⟨_,⟨hb7,?_,?_,?_,?_,h.ge,h.hnb,h.hlb,h.hpb,h.ne,l⟩,hC5.grown M (fun g e=>by cases e;exact .inl rfl),U⟩
  ·exact p.num.keptN M (fun g a e=>by rw[h.hnb]at a;cases a;cases e;exact hn4 rfl)
  ·exact p.low.keptN M (fun g a e=>by rw[h.hlb]at a;cases a;cases e;exact hn5 rfl)
  ·exact p.part.keptN M (fun g a e=>by rw[h.hpb]at a;cases a;cases e;exact V rfl)
  ·exact p.stk.keptN M (fun g a e=>by cases e;exact(l _ a).2.2.2 rfl)
 ·have C:¬m=k:=by
   have:¬(m:Int)=(k:Int):=by simpa using C
   omega
  have hr:0<rem'.length:=by
   cases rem' with
   |nil=>exact absurd (Kl c).1.symm C
   |cons y ys=>simp
  refine Qe ?_;exact EX.back (rem',m::D,_) OR ⟨by rw[c];simp,hr,p,hC5,U⟩ OW
theorem Own.top{w:World}{B:Nat}{e:TypeId}{v:Value}{xs:List (Int×Int)}{a c:Int}(h:Own w B e c7 v (xs++[(a,c)])):
  ∃b off cap,v=.slice (some ⟨b,off,none⟩) (xs.length+1) cap∧B≤b∧b<w.heap.size∧v.ownBlock=some b∧Cells w b (off+xs.length*2) [Pj a]∧Cells w b (off+xs.length*2+1) [Pj c]∧
   ∃cur,w.heap[b]?=some (.cells cur e (0,0))∧off+xs.length*2+2≤cur.size:=by
 rcases h with⟨_,h⟩|⟨b,off,cap,cur,rfl,i⟩
 ·simp at h
 ·have r:(xs++[(a,c)]).length=xs.length+1:=by simp
  have q:=i.el.2 xs.length OW;have s:(xs++[(a,c)])[xs.length]'OW=(a,c):=by simp
  rw[s]at q
  obtain⟨c1,c2,m,h1,h2⟩:=C5 q;have h1:=C0 h1;have h2:=C0 h2;rw[h1,h2]at m
  have k:=i.le;have l:=i.fit;have p:sz (Int×Int)=2:=rfl;rw[p]at l m
  rw[r]at k m
  have z:(xs.length+1)*2≤cap*2:=MX _ k;have f:∀j u,([Pj a,Pj c]:List Value)[j]?=some u→w.cell? ⟨b,off+xs.length*2+j,none⟩=some u:=by
   intro j u d
   have o:(((cur.toList.drop off).take ((xs.length+1)*2)).drop (xs.length*2)).take 2=[Pj a,Pj c]:=m;rw[←o,K4]at d
   split at d
   ·rw[KW]at d
    rw[Og w b _ cur e (0,0) i.blk];have:=lK d;rw[←this];congr 1;omega
   ·cases d
  refine⟨b,off,cap,by rw[r],i.ge,(Jw.1 i.blk).1,rfl,?_,?_,cur,i.blk,by omega⟩
  ·intro j u d
   cases j with
   |zero=>exact f 0 u (by simpa using d)
   |succ j=>simp at d
  ·intro j u d
   cases j with
   |zero=>exact f 1 u (by simpa using d)
   |succ j=>simp at d
section
variable {P:Program}{Q:Exit→Act→World→Prop}{n:Nat}{σ:Sg}{w:World}{L rest:List Oper}{ty:TypeId}{pos:String}{af:Array Edge}{g:Option (Nat×Bool)}{t e:TypeId}{x y:Operand}
theorem fD{B b off cap:Nat}{xs:List (Int×Int)}{a c c':Int}[U:IsT P e (Int×Int)][T:IsC P t 1 false](O:gd L σ ⟨none,.store t x y,ty,pos,af,g⟩=some true)(M:ev σ x=some (.pointer (some ⟨b,off+xs.length*2+1,none⟩)))(K:ev σ y=some (Pj c'))
  (j:Own w B e c7 (.slice (some ⟨b,off,none⟩) (xs.length+1) cap) (xs++[(a,c)]))
  (h:∀w',Own w' B e c7 (.slice (some ⟨b,off,none⟩) (xs.length+1) cap) (xs++[(a,c')])→w.grownBy w' (some b)→WL P L Q rest n σ w'):WL P L Q (⟨none,.store t x y,ty,pos,af,g⟩::rest) n σ w:=by
 have N:(xs++[(a,c)]).length=xs.length+1:=by simp
 obtain⟨W,off',cap',R,_,_,_,H,S,_⟩:=j.top;obtain⟨z,_,rfl⟩:=N5 R;simp only[No,Jq]at z
 obtain⟨rfl,rfl,_⟩:=z;rcases j with⟨I,_⟩|⟨b2,off2,cap2,cur,I,j⟩
 ·cases I
 ·obtain⟨h1,_,rfl⟩:=N5 I
  simp only[No,Jq]at h1
  obtain⟨rfl,rfl,_⟩:=h1;obtain⟨w',D,l,G⟩:=En (P:=P) (v:=undef) (i:=xs.length) (y:=(a,c')) j OW (Rd.mkPr (C2 w c7 a) (C2 w c7 c'));have u:=j.fit;have s:=j.le;have m:sz (Int×Int)=2:=rfl;rw[m]at u D
  rw[N]at s l
  have V:(xs.length+1)*2≤cap*2:=MX _ s;have o:(xs++[(a,c)]).set xs.length (a,c')=xs++[(a,c')]:=by simp
  rw[o]at l
  refine fq O (fun q hq=>?_) (h w' l G);have k:=OH P b (off+xs.length*2) e [Pj a,Pj c'] 0 cur w j.blk OZ (by simp[Value.oneCell']);have f:=OH P b (off+xs.length*2+1) e [Pj c'] 0 cur w j.blk OZ (by simp[Value.oneCell']);simp only[Mz]at f k
  have p:(cur.toList.take (off+xs.length*2+1)++[Pj c']++cur.toList.drop (off+xs.length*2+1+1))=(cur.toList.take (off+xs.length*2)++[Pj a,Pj c']++cur.toList.drop (off+xs.length*2+2)):=by
   have J:=H 0 _ rfl;rw[Mz,Og w b _ cur e (0,0) j.blk]at J
   have r:off+xs.length*2<cur.toList.length:=by simp;omega
   rw[Mp r];have:cur.toList[off+xs.length*2]=Pj a:=by
    have h2:cur.toList[off+xs.length*2]?=some (Pj a):=by simpa using J
    rw[KX r]at h2
    exact Nn h2
   rw[this];simp
  have A:w'=w.setRow b (cur.toList.take (off+xs.length*2)++[Pj a,Pj c']++cur.toList.drop (off+xs.length*2+2)).toArray:=by
   have:(storeVar e ⟨b,off+xs.length*2,none⟩ (.agg ([Pj a]++[Pj c']).toArray)).run P w=.ok () (w.setRow b (cur.toList.take (off+xs.length*2)++[Pj a,Pj c']++cur.toList.drop (off+xs.length*2+2)).toArray):=by
    have C:(Value.agg ([Pj a]++[Pj c']).toArray).cells=[Pj a,Pj c'].toArray:=rfl;unfold storeVar;rw[Nv,Et (α:=Int×Int)];simp only[Nu,C];rw[Ou (by simp[m])];exact k
   rw[this]at D
   cases D
   rfl
  obtain⟨i,d,F,E,_,_⟩:=T.ok;simp only[execOp,hq.ev M,hq.ev K,Instr.storeAt,Nv,Instr.sureAddr,Nx,Nu,storeVar,sizeOf,typeInfo,OG,F,E,Value.cells];rw[A,←p];simp;simp at f
  rw[f];rfl
end
theorem gx{s:Ts}{M:Int}:∀(l:List Nat) (c:Int),c≤M→l.Pairwise (fun a b=>s.nm a<s.nm b)→(∀x∈l,c<s.nm x∧s.nm x≤M)→(l.length:Int)≤M -c
 |[],c,h,_,_=>by simp;omega
 |a::l,c,h,d,i=>by
  rw[L7]at d
  have j:=i a OW;have:=gx l (s.nm a) j.2 d.2 (fun x f=>⟨d.1 x f,(i x (by simp[f])).2⟩);simp only[Ll];omega
theorem TInv.count_le{g:bU}{s:Ts}{fs:List Tf}(h:TInv g s fs):s.count≤g.length:=by have:=h.cn;omega
theorem TInv.stk_len{g:bU}{s:Ts}{fs:List Tf}(h:TInv g s fs):(stk fs).length≤g.length:=by
 have:=gx (s:=s) (M:=s.count) (stk fs) 0 h.c0 h.asc (fun x a=>⟨(h.vis x (h.inG x a)).2 (.inl a),h.top x (h.inG x a)⟩);have:=h.count_le;omega
theorem qk:∀fs:List Tf,fs.length≤(stk fs).length
 |[]=>by simp
 |f::r=>by
  have:=qk r;simp only[stk,Lk,Ll];omega
def Co:List Tf→List (Int×Int)
 |[]=>[]
 |f::r=>Co r++[((f.v:Int),(f.i:Int))]
theorem Cp:∀fs:List Tf,(Co fs).length=fs.length
 |[]=>rfl
 |f::r=>by simp[Co,Cp r]
def Jm(g:bU):List Tf→Nat
 |[]=>0
 |f::r=>((DG g f.v).length -f.i+1)+Jm g r
def Ix(s:Ts):List Bool:=s.num.map fun x=>decide (x≠0)
def Ho(g:bU)(s:Ts)(fs:List Tf):Nat:=Ca g (Ix s)+Jm g fs
theorem Cb{g:bU}{s:Ts}{fs:List Tf}(h:TInv g s fs){n:Nat}(hn:n<g.length)(b:s.nm n=0):Ca g (Ix (Gy n s))+(DG g n).length+1=Ca g (Ix s):=by
 have a:n<s.num.length:=by rw[h.ln];exact hn
 have e:Ix (Gy n s)=(Ix s).set n true:=by
  unfold Ix Gy;simp only;rw[List.map_set]
  congr 1
  have:=h.c0;simp;omega
 have h1:=Cc g (Ix s) n hn (by simp[Ix,h.ln]) (by
  have:s.num[n]=s.nm n:=(q_ a).symm;unfold Ix;rw[KR,K0,KX a];simp[this,b])
 rw[e];exact h1
theorem Iz(s:Ts)(n:Nat)(x:Int):Ix (GB n x s)=Ix s:=rfl
theorem Iy(s:Ts)(D:List Nat):Ix (Gz D s)=Ix s:=rfl
theorem rV{g:bU}{s:Ts}{fs:List Tf}(h:TInv g s fs){n k:Nat}(hn:n<g.length)(a:0<s.nm k):0<(Gy n s).nm k:=by
 rw[zH (by rw[h.ln];exact hn)];have:=h.c0;split<;>omega
def aj(B b a lb pb:Nat)(pV sV:Value):Prop:=∀k,pV.ownBlock=some k→¬tS b a lb pb sV k
def ye(r:List Tf)(f:Tf)(s:Ts):Ts:=match r with
 |[]=>s
 |h::_=>GB h.v (min (s.lw h.v) (s.lw f.v)) s
theorem IA(w0 w:World){b:Nat}{nV lV pV sV:Value}{Z lb pb:Nat}{s:Ts}{g:bU}{F:Nat→Prop}{ao:Option Addr}{cap:Nat}{n:Nat}(hE:Ext w0 w)(H:Sl w0 F ao cap g)(hF:∀b,F b→b<w0.heap.size)(hG:okG g)(hgl:g.length≤1099511627776)
  (hM:TM w w0.heap.size b (.slice ao g.length cap) nV lV pV sV Z lb pb s (vW [])) (j:TInv g s []) (hn:n<g.length) (h0:s.nm n=0):
  Rt Tryz.prog 158 [Pk b,Pj n].toArray w fun _ w'=>∃sV' s',TM w' w0.heap.size b (.slice ao g.length cap) nV lV pV sV' Z lb pb s' (vW [])∧TInv g s' []∧Ext w0 w'∧(∀k,0<s.nm k→0<s'.nm k)∧0<s'.nm n:=by
 obtain⟨hn1,hn2,hn3,hn4,hn5,hn6⟩:=hM.ne;have hc:=j.count_le;have hI1:=j.root hG hn h0;have hnl:n<s.num.length:=by rw[j.ln];exact hn
 have hnl2:n<s.low.length:=by rw[j.ll];exact hn
 refine dH Tryz.func158 Tryz.ntmps158 rfl rfl ?_;refine PB ?_;refine WL.build rfl rfl rfl rfl ?_;skip;refine WL.lit (α:=Int×Int) (F:=c7) (ys:=[((n:Int),(0:Int))]) rfl rfl rfl rfl rfl (.cons (Rd.mkPr (C2 _ _ _) (C2 _ _ _)) .nil) (by show 1*2≤16777216;decide) O6 (fun w1 hp1 hg1=>?_);have hE01:Ext w w1:=(Ext.refl w).grown hg1 Pf O_;have hM1:=hM.ext hE01;have hE1:=hE.trans hE01;refine Qw ?_;refine WL.call rfl rfl rfl (ij w1 hM1 (Nat.le_of_lt (MP hM1.ge hM1.lts.1)) hnl hnl2 j.c0 OS (by simp[vW])) ?_;rintro _ w2 ⟨sV2,hM2,hC2,hnb2⟩
 obtain⟨l1,l2,l3,l4,l5,l6,l7,l8,l9⟩:=hM.lts;have hpb:∀k,Value.ownBlock (.slice (some ⟨w.heap.size,0,none⟩) 1 1)=some k→¬tS b Z lb pb sV k:=by
  intro k i
  have i:w.heap.size=k:=Nn i;rintro(h1|h1|h1|h1|h1)
  ·omega
  ·omega
  ·omega
  ·omega
  ·have:=l5 _ h1;omega
 have hS2:∀k,tS b Z lb pb sV k→w0.heap.size≤k:=by
  rintro k (rfl|rfl|rfl|rfl|h1)
  ·exact hM.ge
  ·exact l6
  ·exact l7
  ·exact l8
  ·exact l9 _ h1
 have hE2:Ext w0 w2:=Chg.ext hE1 hC2 hS2;have hp2:=hp1.chg hC2 hpb;have hap2:aj w0.heap.size b Z lb pb (.slice (some ⟨w.heap.size,0,none⟩) 1 1) sV2:=by
  intro k i
  rintro(h1|h1|h1|h1|h1)
  ·exact hpb k i (.inl h1)
  ·exact hpb k i (.inr (.inl h1))
  ·exact hpb k i (.inr (.inr (.inl h1)))
  ·exact hpb k i (.inr (.inr (.inr (.inl h1))))
  ·rcases hnb2 k h1 with h2|h2
   ·exact hpb k i (.inr (.inr (.inr (.inr h2))))
   ·have i:w.heap.size=k:=Nn i
    have:w.heap.size<w1.heap.size:=(hp1.lt _ rfl).2.1;omega
 refine PS ?_;refine CW.loop (S:=Ts×List Tf×Value×Value) (fun x=>[(0,Pk b),(4,x.2.2.1)])
  (fun x w'=>TInv g x.1 x.2.1∧TM w' w0.heap.size b (.slice ao g.length cap) nV lV pV x.2.2.2 Z lb pb x.1 (vW (stk x.2.1))∧Own w' w0.heap.size 263 c7 x.2.2.1 (Co x.2.1)∧aj w0.heap.size b Z lb pb x.2.2.1 x.2.2.2∧Ext w0 w'∧(∀k,0<s.nm k→0<x.1.nm k)∧0<x.1.nm n)
  (fun x=>Ho g x.1 x.2.1) (Gy n s,[⟨n,0,[]⟩],_,sV2) OR ⟨hI1,by simpa[vW,stk]using hM2,by simpa[Co]using hp2.low hE.size,hap2,hE2,fun k i=>rV j hn i,?_⟩ ?_
 ·rw[zH hnl,Ov rfl];have:=j.c0;omega
 clear hp2 hp1 hM2 hM1 hC2 hnb2 hE2 hE1 hE01 hI1 hap2 hpb hS2;rintro⟨a,fs,wV,tV⟩ w3 ⟨j,hM,hP,z,hE3,hmo,hvn⟩
 dsimp only at j hM hP z hmo hvn
 refine Qu ?_;apply CW.cond rfl<;>intro hc0
 ·obtain⟨f,r,rfl⟩:∃f r,fs=f::r:=by
   cases fs with
   |nil=>simp[Co]at hc0
   |cons f r=>exact⟨f,r,rfl⟩
  clear hc0;have hstl:=j.stk_len;have hfl:=qk (f::r);have hplen:=Cp r;have hfv:=j.fin;have hFr:=j.frs f OW;have hfi:=hFr.i;have hcle:=j.count_le;have hgot:=j.gn;have hg0:=j.g0;have hcc0:=j.c0;have hg3:Sl w3 F ao cap g:=H.mono (fun b hb=>hE3.block b (hF b hb)) fun _ h=>h
  have hF3:∀b,F b→b<w3.heap.size:=fun b hb=>MQ (hF b hb) hE3.size
  have N:DG g f.v=g[f.v]:=by unfold DG;rw[KR,KX hfv];rfl
  have hP0:Own w3 w0.heap.size 263 c7 wV (Co r++[((f.v:Int),(f.i:Int))]):=hP;obtain⟨pk,off,pc,rfl,hpge,J,hpob,hca,hcb,cur,hcur,hcurs⟩:=hP0.top;have hb:=hM.blk;have hpl1:(Co r++[((f.v:Int),(f.i:Int))]).length=(Co r).length+1:=by simp
  simp only[Ll]at hfl
  refine QA ?_;refine eJ (α:=Int×Int) rfl rfl rfl rfl OS OS ?_;have eoff:(((((Co r).length+1:Nat):Int)) -1).toNat*sz (Int×Int)=(Co r).length*2:=by
   have:(((((Co r).length+1:Nat):Int)) -1).toNat=(Co r).length:=by omega
   rw[this];rfl
  rw[eoff];refine QJ ?_;refine QL.load (α:=Int) (F:=c7) rfl rfl rfl J O6 hcb (C2 _ _ _) ?_;refine Q0 ?_;refine QL.load (α:=Int) (F:=c7) rfl rfl rfl J O6 hca (C2 _ _ _) ?_;skip;refine dn rfl rfl rfl rfl rfl hF3 hg3 hfv O3 (fun u q hu=>?_);obtain⟨ro,rc,rfl,hrow⟩:=hu.sl;have hrl:=hrow.len63;refine Q0 ?_;refine QL.nil (fun w4 I=>?_);refine Pn ?_;apply CW.cond rfl<;>intro hlt
  ·have hi:f.i<(DG g f.v).length:=by rw[N];simpa[Iu]using hlt
   have hil:f.i<g[f.v].length:=by rw[←N];exact hi
   have hwr:=hG _ (Lb hfv) _ (Lb hil);obtain⟨to,eto⟩:=J9 hwr.1;have M:to<g.length:=by omega
   have erow:(DG g f.v)[f.i]=(to:Int):=by simp only[N];exact eto
   have d:=hM.ext I;have hP4:=hP0.extN I;have hb4:=d.blk;have U:Cells w4 pk (off+(Co r).length*2) [Pj (f.v:Int)]:=hca.mono (I.block pk J);have hcb4:Cells w4 pk (off+(Co r).length*2+1) [Pj (f.i:Int)]:=hcb.mono (I.block pk J);have B:pk<w4.heap.size:=MQ J I.size;have v:=hE3.trans I;have hg4:Sl w4 F ao cap g:=H.mono (fun b hb=>v.block b (hF b hb)) fun _ h=>h
   have hF4:∀b,F b→b<w4.heap.size:=fun b hb=>MQ (hF b hb) v.size
   clear hM hP hP0 hb hca hcb hg3 hF3 hE3 hrow;refine QM ?_;refine QL.load (α:=Int) (F:=c7) rfl rfl rfl B O6 U (C2 _ _ _) ?_;skip;refine dn rfl rfl rfl rfl rfl hF4 hg4 hfv O3 (fun u q hu=>?_);obtain⟨ro2,rc2,rfl,hrow4⟩:=hu.sl;refine Q0 ?_;refine QL.load (α:=Int) (F:=c7) rfl rfl rfl B O6 hcb4 (C2 _ _ _) ?_;skip;refine dm rfl rfl rfl rfl rfl hF4 hrow4 hil eto O3 (fun q=>?_);refine QP ?_;refine QL.nil (fun w5 hE5=>?_);have hM5:=d.ext hE5;have hP5:=hP4.extN hE5;have hb5:=hM5.blk;have hca5:Cells w5 pk (off+(Co r).length*2) [Pj (f.v:Int)]:=U.mono (hE5.block pk B);have hcb5:Cells w5 pk (off+(Co r).length*2+1) [Pj (f.i:Int)]:=hcb4.mono (hE5.block pk B);have hE05:=v.trans hE5;have hplt5:pk<w5.heap.size:=MQ B hE5.size;have hmaxr:f.i+1<9223372036854775808:=by omega
   clear d hP4 hb4 U hcb4 hg4 hF4 v hrow4;refine P3 ?_;refine WL.load (α:=Int) (F:=c7) rfl rfl rfl hcb5 (C2 _ _ _) ?_;refine QW ?_;refine fD (xs:=Co r) (c':=((f.i+1:Nat):Int)) rfl rfl rfl hP5 (fun w6 hP6 hg6=>?_);have hapk:=z pk hpob;have c:=hM5.off hg6 (fun k i=>by cases i;exact hapk);have hb6:=c.blk;have X:Ext w0 w6:=hE05.grown hg6 hE05.size (fun k i=>by cases i;exact hpge);have hpge6:pk<w6.heap.size:=MQ hplt5 hg6.size;have A:to<a.num.length:=by rw[j.ln];exact M
   have hlowto:to<a.low.length:=by rw[j.ll];exact M
   have R:to<a.part.length:=by rw[j.lp];exact M
   have enum:a.num[to]=a.nm to:=(q_ A).symm;have epart:a.part[to]=a.pt to:=(q_ R).symm;have hP6':Own w6 w0.heap.size 263 c7 (.slice (some ⟨pk,off,none⟩) ((Co r).length+1) pc) (Co (⟨f.v,f.i+1,f.seg⟩::r)):=by simpa[Co]using hP6
   clear hM5 hP5 hb5 hca5 hcb5 hE05;refine P2 ?_;refine eG rfl rfl rfl rfl rfl c.num A O3 (fun u q hu=>?_);obtain rfl:=hu.int;rw[enum];refine Pv ?_;apply CW.cond rfl<;>intro hz
   ·have hz:a.nm to=0:=by simpa using hz
    refine PB ?_;refine WL.call rfl rfl rfl (ij w6 c X.size A hlowto hcc0 OS (by simp only[vW,Lq];omega)) ?_;rintro _ w7 ⟨tV7,G,hC7,hnb7⟩
    have hS7:∀k,tS b Z lb pb tV k→w0.heap.size≤k:=by
     obtain⟨l1,l2,l3,l4,l5,l6,l7,l8,l9⟩:=c.lts;rintro k (rfl|rfl|rfl|rfl|h1)
     ·exact c.ge
     ·exact l6
     ·exact l7
     ·exact l8
     ·exact l9 _ h1
    have o:Ext w0 w7:=Chg.ext X hC7 hS7;have V:=hP6'.chg hC7 z;have hap7:aj w0.heap.size b Z lb pb (.slice (some ⟨pk,off,none⟩) ((Co r).length+1) pc) tV7:=by
     intro k i
     rintro(h1|h1|h1|h1|h1)
     ·exact z k i (.inl h1)
     ·exact z k i (.inr (.inl h1))
     ·exact z k i (.inr (.inr (.inl h1)))
     ·exact z k i (.inr (.inr (.inr (.inl h1))))
     ·rcases hnb7 k h1 with h2|h2
      ·exact z k i (.inr (.inr (.inr (.inr h2))))
      ·have:=(hP6'.lt k i).2.1
       omega
    refine PP ?_;refine WL.build rfl rfl rfl rfl ?_;skip;refine dY (α:=Int×Int) (F:=c7) (yv:=((to:Int),(0:Int))) rfl rfl O3 rfl rfl O3 V (Rd.mkPr (C2 _ _ _) (C2 _ _ _)) o.size O6 OU (by simp only[Co,Lk,Ly];unfold maxLen;omega) (by simp only[Co,Lk,Ly];omega) (fun pV8 w8 p hP8 hg8 hnb8=>?_);have W:=G.off hg8 (fun k i=>hap7 k i);have hE08:Ext w0 w8:=o.grown hg8 o.size (fun k i=>(V.lt k i).1);have hap8:aj w0.heap.size b Z lb pb pV8 tV7:=by
     intro k i
     rcases hnb8 k i with h1|h1
     ·exact hap7 k h1
     ·obtain⟨l1,l2,l3,l4,l5,l6,l7,l8,l9⟩:=G.lts
      rintro(h2|h2|h2|h2|h2)
      ·omega
      ·omega
      ·omega
      ·omega
      ·have:=l5 _ h2;omega
    have hpotb:=Cb j M hz;refine PJ ?_;refine EX.back (Gy to a,⟨to,0,[]⟩::⟨f.v,f.i+1,f.seg⟩::r,pV8,tV7) OR ⟨j.tree hG hi M erow hz,?_,by simpa[Co]using hP8,hap8,hE08,fun k i=>rV j M (hmo k i),rV j M hvn⟩ ?_
    ·have e:vW (stk (⟨to,0,[]⟩::⟨f.v,f.i+1,f.seg⟩::r))=vW (stk (f::r))++[(to:Int)]:=by simp[stk,vW]
     dsimp only;rw[e];exact W
    ·show Ho g (Gy to a) _<Ho g a _
     simp only[Ho,Jm];omega
   ·have hz:a.nm to≠0:=by simpa using hz
    refine P3 ?_;refine eG rfl rfl rfl rfl rfl c.part R O3 (fun u q hu=>?_);obtain rfl:=hu.int;rw[epart];refine Pv ?_;apply CW.cond rfl<;>intro hp0
    ·have hp0:a.pt to<0:=by simpa using hp0
     skip;have E:f.v<a.low.length:=by rw[j.ll];exact hfv
     have elow:a.low[f.v]=a.lw f.v:=(q_ E).symm;have l:=c.ext (Ext.drew w6);have hbd:=l.blk;have hcad:Cells (drew w6) pk (off+(Co r).length*2) [Pj (f.v:Int)]:=by
      obtain⟨b',o',c',he,_,_,_,h1,_,_⟩:=(hP6.extN (Ext.drew w6)).top;obtain⟨h2,_,_⟩:=N5 he;simp only[No,Jq]at h2
      obtain⟨rfl,rfl,_⟩:=h2;exact h1
     have hSE:∀w7,(fun x=>x=drew w6) w7→Ext (drew w6) w7:=fun _ h=>h▸Ext.refl _
     obtain⟨lO,lC,O,K⟩:=l.low.oldN.sl;obtain⟨nO,nC,hnv,hnsl⟩:=l.num.oldN.sl;have hbd':=hbd;rw[O,hnv]at hbd'
     refine aE (fun x=>x=drew w6) [(0,true),(1,true),(2,true),(3,true),(4,true),(5,true),(6,true),(7,true),(8,true),(9,true),(10,true),(11,true),(12,true),(13,true),(14,true),(15,true),(16,true),(17,true),(18,true),(19,true),(20,true),(21,true),(22,true),(23,true),(24,true),(25,false),(26,true)] 27 mixed OT rfl ?_;clear hbd;refine Ra ?_;refine HL.load (α:=Int) (F:=c7) hSE rfl rfl rfl rfl hpge6 O6 hcad (C2 _ _ _) ?_;refine Ra ?_;refine HL.load (α:=Int) (F:=c7) hSE rfl rfl rfl rfl hpge6 O6 hcad (C2 _ _ _) ?_;skip;refine b_ hSE rfl rfl rfl rfl rfl rfl rfl O8 K E O3 (fun u q hu=>?_);obtain rfl:=hu.int;rw[elow];refine Ra ?_;refine b_ hSE rfl rfl rfl rfl rfl rfl rfl O8 hnsl A O3 (fun u q hu=>?_);obtain rfl:=hu.int;rw[enum];skip;refine cu rfl (fe rfl rfl rfl rfl (WL.nil (a_ rfl ?_)));have C:=l.low;rw[O]at C
     refine cA (u:=Pj (min (a.lw f.v) (a.nm to))) (yv:=min (a.lw f.v) (a.nm to)) rfl rfl rfl rfl rfl rfl C E O3 O3 Pe (fun w7 q D m=>?_);rw[←O]at D m
     have o:Ext w0 w7:=(X.trans (Ext.drew w6)).grown m (MN X.size Pf) (fun k i=>(l.low.lt k i).1);have G:TM w7 w0.heap.size b (.slice ao g.length cap) nV lV pV tV Z lb pb (GB f.v (min (a.lw f.v) (a.nm to)) a) (vW (stk (f::r))):=by
      refine⟨l.blk.kept m (fun e=>by rw[c.hlb]at e;cases e;exact hn5 rfl),l.num.keptN m (fun g H e=>by rw[c.hnb]at H;rw[c.hlb]at e;cases H;cases e;exact hn1 rfl),D,l.part.keptN m (fun g H e=>by rw[c.hpb]at H;rw[c.hlb]at e;cases H;cases e;exact hn3 rfl),l.stk.keptN m (fun g H e=>by rw[c.hlb]at e;cases e;exact(c.sne _ H).2.1 rfl),c.ge,c.hnb,c.hlb,c.hpb,c.ne,c.sne⟩
     have V:=(hP6'.extN (Ext.drew w6)).keptN m (fun g H e=>by rw[c.hlb]at e;cases e;exact z _ H (.inr (.inr (.inl rfl))));refine Qy ?_;refine EX.back (GB f.v (min (a.lw f.v) (a.nm to)) a,⟨f.v,f.i+1,f.seg⟩::r,_,tV) OR ⟨j.back hi M erow hz hp0,G,V,z,o,hmo,hvn⟩ ?_;show Ho g (GB f.v (min (a.lw f.v) (a.nm to)) a) _<Ho g a _;simp only[Ho,Jm,Iz];omega
    ·have hp0:0≤a.pt to:=by simpa using hp0
     refine Qy ?_;refine EX.back (a,⟨f.v,f.i+1,f.seg⟩::r,_,tV) OR ⟨j.shut hi M erow hp0,c,hP6',z,X,hmo,hvn⟩ ?_;show Ho g a _<Ho g a _;simp only[Ho,Jm];omega
  ·have hi:f.i=(DG g f.v).length:=by
    have:¬f.i<g[f.v].length:=by simpa[Iu]using hlt
    rw[N]at hfi⊢;omega
   have d:=hM.ext I;have hP4:=hP0.extN I;have U:Cells w4 pk (off+(Co r).length*2) [Pj (f.v:Int)]:=hca.mono (I.block pk J);have v:=hE3.trans I;clear hM hP hb hca hcb hg3 hF3 hE3 hrow;refine P2 ?_;refine WL.load (α:=Int) (F:=c7) rfl rfl rfl U (C2 _ _ _) ?_;refine QA ?_;refine ew (α:=Int×Int) (Co r).length OS rfl rfl rfl rfl hP4 OS (fun pV5 hP5 hpb5=>?_);rw[show(Co r++[((f.v:Int),(f.i:Int))]).take (Co r).length=Co r by simp]at hP5
   have hap5:aj w0.heap.size b Z lb pb pV5 tV:=fun k i=>z k (by rw[←hpb5];exact i)
   have E:f.v<a.low.length:=by rw[j.ll];exact hfv
   have hfvn:f.v<a.num.length:=by rw[j.ln];exact hfv
   have hP4l:(Co r).length≤1099511627776:=by omega
   refine QO ?_;apply WL.nil;apply bx;refine aB (S:=Unit) (fun _=>[(0,Pk b),(4,pV5),(7,Pj (f.v:Int))])
    (fun _ w'=>TM w' w0.heap.size b (.slice ao g.length cap) nV lV pV tV Z lb pb (ye r f a) (vW (stk (f::r)))∧Own w' w0.heap.size 263 c7 pV5 (Co r)∧Ext w0 w') ?_ ?_
   ·refine Qu ?_
    apply CW.cond rfl<;>intro hr0
    ·obtain⟨h,Y,rfl⟩:∃h Y,r=h::Y:=by
      cases r with
      |nil=>simp[Co]at hr0
      |cons h Y=>exact⟨h,Y,rfl⟩
     have hhv:h.v<g.length:=j.inG h.v (by rw[yP,yP];exact .inl (.inr (.inl rfl)));have hhvl:h.v<a.low.length:=by rw[j.ll];exact hhv
     have elh:a.low[h.v]=a.lw h.v:=(q_ hhvl).symm;have elf:a.low[f.v]=a.lw f.v:=(q_ E).symm;have hP5':Own w4 w0.heap.size 263 c7 pV5 (Co Y++[((h.v:Int),(h.i:Int))]):=hP5;obtain⟨pk2,off2,pc2,hpv,hpge2,hplt2,hpob2,hcaH,hcbH,_⟩:=hP5'.top;subst hpv;have hplr:(Co Y).length+1≤1099511627776:=by simpa[Co]using hP4l
     refine QA ?_;refine eJ (α:=Int×Int) rfl rfl rfl rfl OS OS ?_;have eoff2:(((((Co Y).length+1:Nat):Int)) -1).toNat*sz (Int×Int)=(Co Y).length*2:=by
      have:(((((Co Y).length+1:Nat):Int)) -1).toNat=(Co Y).length:=by omega
      rw[this];rfl
     rw[eoff2];refine QR ?_;refine WL.load (α:=Int) (F:=c7) rfl rfl rfl hcaH (C2 _ _ _) ?_;refine Pv ?_;have l:=d.ext (Ext.drew w4);have hbd:=l.blk;have hSE:∀w7,(fun x=>x=drew w4) w7→Ext (drew w4) w7:=fun _ h=>h▸Ext.refl _
     obtain⟨lO,lC,O,K⟩:=l.low.oldN.sl;have hbd':=hbd;rw[O]at hbd'
     refine aE (fun x=>x=drew w4) [(0,true),(1,true),(2,true),(3,true),(4,true),(5,true),(6,true),(7,true),(8,true),(9,true),(10,true),(11,true),(12,true),(13,true),(14,true),(15,true),(16,true),(17,true),(18,true),(19,false),(20,true)] 21 mixed OT rfl ?_;clear hbd;refine Ra ?_;refine b_ hSE rfl rfl rfl rfl rfl rfl rfl O8 K hhvl O3 (fun u q hu=>?_);obtain rfl:=hu.int;rw[elh];refine Ra ?_;refine b_ hSE rfl rfl rfl rfl rfl rfl rfl O8 K E O3 (fun u q hu=>?_);obtain rfl:=hu.int;rw[elf];skip;refine cu rfl (fe rfl rfl rfl rfl (WL.nil (a_ rfl ?_)));have C:=l.low;rw[O]at C
     refine cA (u:=Pj (min (a.lw h.v) (a.lw f.v))) (yv:=min (a.lw h.v) (a.lw f.v)) rfl rfl rfl rfl rfl rfl C hhvl O3 O3 Pe (fun w7 q D m=>?_);rw[←O]at D m
     have o:Ext w0 w7:=(v.trans (Ext.drew w4)).grown m (MN v.size Pf) (fun k i=>(l.low.lt k i).1);have G:TM w7 w0.heap.size b (.slice ao g.length cap) nV lV pV tV Z lb pb (ye (h::Y) f a) (vW (stk (f::h::Y))):=by
      refine⟨l.blk.kept m (fun e=>by rw[d.hlb]at e;cases e;exact hn5 rfl),l.num.keptN m (fun g H e=>by rw[d.hnb]at H;rw[d.hlb]at e;cases H;cases e;exact hn1 rfl),D,l.part.keptN m (fun g H e=>by rw[d.hpb]at H;rw[d.hlb]at e;cases H;cases e;exact hn3 rfl),l.stk.keptN m (fun g H e=>by rw[d.hlb]at e;cases e;exact(d.sne _ H).2.1 rfl),d.ge,d.hnb,d.hlb,d.hpb,d.ne,d.sne⟩
     have V:=(hP5.extN (Ext.drew w4)).keptN m (fun g H e=>by rw[d.hlb]at e;cases e;exact hap5 _ H (.inr (.inr (.inl rfl))));skip;exact aU () OR ⟨G,V,o⟩
    ·have hr0:r=[]:=by
      have:(Co r).length=0:=by simp at hr0;simp[hr0]
      rw[Cp]at this
      exact KD this
     subst hr0;refine Po ?_;exact aU () OR ⟨d,hP5,v⟩
   rintro _ w7 ⟨G,V,o⟩
   have elw:(ye r f a).lw f.v=a.lw f.v:=by
    cases r with
    |nil=>rfl
    |cons h Y=>exact j.pass
   have hlen7:(ye r f a).low.length=a.low.length:=by cases r<;>simp[ye,GB]
   have enm7:(ye r f a).num=a.num:=by cases r<;>rfl
   have hfv7:f.v<(ye r f a).low.length:=by rw[hlen7];exact E
   have el7:(ye r f a).low[f.v]=a.lw f.v:=by rw[←elw];exact(q_ hfv7).symm
   have hfn7:f.v<(ye r f a).num.length:=by rw[enm7];exact hfvn
   have en7:(ye r f a).num[f.v]=a.nm f.v:=by
    have:(ye r f a).nm f.v=a.nm f.v:=by unfold Ts.nm;rw[enm7]
    rw[←this];exact(q_ hfn7).symm
   obtain⟨lO,lC,O,K⟩:=G.low.oldN.sl;obtain⟨nO,nC,hnv,hnsl⟩:=G.num.oldN.sl;have hb7:=G.blk;rw[O,hnv]at hb7
   refine QM ?_;refine dm rfl rfl rfl rfl rfl O8 K hfv7 el7 O3 (fun q=>?_);refine Q0 ?_;refine dm rfl rfl rfl rfl rfl O8 hnsl hfn7 en7 O3 (fun q=>?_);refine QP ?_;refine QL.nil (fun w8 hE8=>?_);have W:=G.ext hE8;have hP8:=V.extN hE8;have hE08:=o.trans hE8;refine Pn ?_;apply CW.cond rfl<;>intro T
   ·have T:a.lw f.v=a.nm f.v:=by simpa using T
    have els:ye r f a=a:=by
     cases r with
     |nil=>rfl
     |cons h Y=>exact j.keepLow T
    rw[els]at W
    have hT:=j.close hG hi T;have hnd:=j.nodup;rw[show stk (f::r)=stk r++f.v::f.seg from rfl]at hnd W
    refine PC ?_;refine WL.call rfl rfl rfl (kC w8 W (L3.1 hnd).2.1 (fun x hx=>by rw[j.lp];exact j.inG x (by rw[show stk (f::r)=stk r++f.v::f.seg from rfl];exact LM _ hx)) hg0 OS) ?_;rintro _ w9 ⟨tV9,hM9,hC9,hnb9⟩
    have hS9:∀k,tS b Z lb pb tV k→w0.heap.size≤k:=by
     obtain⟨l1,l2,l3,l4,l5,l6,l7,l8,l9⟩:=W.lts;rintro k (rfl|rfl|rfl|rfl|h1)
     ·exact W.ge
     ·exact l6
     ·exact l7
     ·exact l8
     ·exact l9 _ h1
    have hE09:Ext w0 w9:=Chg.ext hE08 hC9 hS9;have hP9:=hP8.chg hC9 hap5;have hap9:aj w0.heap.size b Z lb pb pV5 tV9:=fun k i h1=>hap5 k i (by unfold tS at h1⊢;rw[hnb9]at h1;exact h1)
    refine Qf ?_;refine EX.back (Gz (f.v::f.seg) a,r,pV5,tV9) OR ⟨hT,hM9,hP9,hap9,hE09,hmo,hvn⟩ ?_;show Ho g (Gz (f.v::f.seg) a) _<Ho g a _;simp only[Ho,Jm,Iy];omega
   ·have T:a.lw f.v≠a.nm f.v:=by simpa using T
    cases r with
    |nil=>exact absurd j.alone T
    |cons h Y=>
     have hT:=j.merge hi T;refine Qe ?_;refine EX.back (GB h.v (min (a.lw h.v) (a.lw f.v)) a,⟨h.v,h.i,h.seg++f.v::f.seg⟩::Y,pV5,tV) OR ⟨hT,?_,hP8,hap5,hE08,hmo,hvn⟩ ?_
     ·dsimp only;rw[Gq];exact W
     ·show Ho g (GB h.v (min (a.lw h.v) (a.lw f.v)) a) _<Ho g a _
      simp only[Ho,Jm,Iz];omega
 ·have hfs:fs=[]:=by
   have:(Co fs).length=0:=by simp at hc0;simp[hc0]
   rw[Cp]at this
   exact KD this
  subst hfs;refine PZ ?_;exact aV rfl ⟨tV,a,hM,j,hE3,hmo,hvn⟩
def Ak(l:List Int):Int:=l.foldl (fun m x=>max m (x+1)) 0
theorem Al(l:List Int)(x:Int):Ak (l++[x])=max (Ak l) (x+1):=by simp[Ak]
def aJ(p:List Int):Prop:=∀i,i<p.length→(∃j,j<i∧p.getD j 0=p.getD i 0)∨p.getD i 0=Ak (p.take i)
structure PartsOK(g:bU)(p:List Int):Prop where
 len:p.length=g.length
 canon:aJ p
 same:∀a b,a<g.length→b<g.length→(p.getD a 0=p.getD b 0↔Rch g [(a:Int)] b∧Rch g [(b:Int)] a)
 ge:∀i,i<p.length→0≤p.getD i 0
 lt:∀i,i<p.length→p.getD i 0<g.length
structure CInv(q:List Int)(got:Int)(i:Nat)(name:List Int)(next:Int)(out:List Int):Prop where
 ln:(name.length:Int)=got
 lo:out.length=q.length
 n0:∀k,0≤name.getD k 0∧name.getD k 0≤next
 z:∀j,j<i→0<name.getD (q.getD j 0).toNat 0∧out.getD j 0=name.getD (q.getD j 0).toNat 0 -1
 zz:∀k,0<name.getD k 0→∃j,j<i∧(q.getD j 0).toNat=k
 inj:∀k k',0<name.getD k 0→name.getD k 0=name.getD k' 0→k=k'
 nx:next=Ak (out.take i)
 le:next≤i
 canon:∀j,j<i→(∃m,m<j∧out.getD m 0=out.getD j 0)∨out.getD j 0=Ak (out.take j)
theorem CInv.start{q out:List Int}{got:Int}(e:0≤got)(d:out.length=q.length):CInv q got 0 (List.replicate got.toNat 0) 0 out:=by
 have c:∀k,(List.replicate got.toNat (0:Int)).getD k 0=0:=by
  intro k
  rw[KR,K2];split<;>rfl
 refine⟨by simp;omega,d,fun k=>by rw[c];simp,fun j b=>absurd b OW,fun k a=>by rw[c]at a;omega,fun k k' a=>by rw[c]at a;omega,rfl,by simp,fun j b=>absurd b OW⟩
theorem G0{out:List Int}{i:Nat}{x:Int}(hi:i<out.length):(out.set i x).take (i+1)=out.take i++[x]:=by
 rw[Mp (by rw[Lx];exact hi)];rw[Mn Pf,Lf]
theorem CInv.canonStep{q out:List Int}{got next:Int}{i:Nat}{name:List Int}(h:CInv q got i name next out){x:Int}(hi:i<out.length)(f:(∃m,m<i∧out.getD m 0=x)∨x=Ak (out.take i)):
  ∀j,j<i+1→(∃m,m<j∧(out.set i x).getD m 0=(out.set i x).getD j 0)∨(out.set i x).getD j 0=Ak ((out.set i x).take j):=by
 intro j l
 have a:∀k,(out.set i x).getD k 0=if i=k then x else out.getD k 0:=fun k=>rk hi
 have b:∀k,k≤i→(out.set i x).take k=out.take k:=fun k g=>Mn g
 by_cases e:j=i
 ·subst e
  rw[b j Pf,a,Ov rfl];rcases f with⟨m,c,h1⟩|h1
  ·exact .inl ⟨m,c,by rw[a,Ou OS];exact h1⟩
  ·exact .inr h1
 ·have d:j<i:=by omega
  rw[b j OS,a,Ou (Nf e)];rcases h.canon j d with⟨m,c,h1⟩|h1
  ·exact .inl ⟨m,c,by rw[a,Ou OS];exact h1⟩
  ·exact .inr h1
theorem CInv.old{q out:List Int}{got next:Int}{i:Nat}{name:List Int}(h:CInv q got i name next out)(hi:i<q.length)(hn:name.getD (q.getD i 0).toNat 0≠0):CInv q got (i+1) name next (out.set i (name.getD (q.getD i 0).toNat 0 -1)):=by
 have b:i<out.length:=by rw[h.lo];exact hi
 have a:0<name.getD (q.getD i 0).toNat 0:=by have:=(h.n0 (q.getD i 0).toNat).1;omega
 have l:=(h.n0 (q.getD i 0).toNat).2;have c:∀k,(out.set i (name.getD (q.getD i 0).toNat 0 -1)).getD k 0=if i=k then name.getD (q.getD i 0).toNat 0 -1 else out.getD k 0:=fun k=>rk b
 obtain⟨j,f,d⟩:=h.zz _ a;refine⟨h.ln,by rw[Lx];exact h.lo,h.n0,?_,?_,h.inj,?_,by have:=h.le;omega,?_⟩
 ·intro k g
  rw[c];by_cases e:i=k
  ·subst e;rw[Ov rfl];exact⟨a,rfl⟩
  ·rw[Ou e];exact h.z k OS
 ·intro k g
  obtain⟨j,f,h1⟩:=h.zz k g;exact⟨j,by omega,h1⟩
 ·rw[G0 b,Al,←h.nx];omega
 ·refine h.canonStep b (.inl ⟨j,f,?_⟩)
  rw[(h.z j f).2,d]
theorem CInv.new{q out:List Int}{got next:Int}{i:Nat}{name:List Int}(h:CInv q got i name next out)(hi:i<q.length)(m:(q.getD i 0).toNat<name.length)(hn:name.getD (q.getD i 0).toNat 0=0):
  CInv q got (i+1) (name.set (q.getD i 0).toNat (next+1)) (next+1) (out.set i next):=by
 have c:i<out.length:=by rw[h.lo];exact hi
 have d:∀k,(out.set i next).getD k 0=if i=k then next else out.getD k 0:=fun k=>rk c
 have a:∀k,(name.set (q.getD i 0).toNat (next+1)).getD k 0=if(q.getD i 0).toNat=k then next+1 else name.getD k 0:=fun k=>rk m
 have g:0≤next:=by have:=h.n0 0;omega
 refine⟨by rw[Lx];exact h.ln,by rw[Lx];exact h.lo,?_,?_,?_,?_,?_,by have:=h.le;omega,h.canonStep c (.inr h.nx)⟩
 ·intro k
  rw[a];have:=h.n0 k;split<;>omega
 ·intro j n
  rw[a,d];by_cases e:i=j
  ·subst e
   rw[Ov rfl,Ov rfl];omega
  ·rw[Ou e]
   have h1:=h.z j OS;have:¬(q.getD i 0).toNat=(q.getD j 0).toNat:=fun h2=>by rw[←h2]at h1;omega
   rw[Ou this];exact h1
 ·intro k b
  rw[a]at b
  split at b
  ·rename_i e;exact⟨i,by omega,e⟩
  ·obtain⟨j,n,h1⟩:=h.zz k b;exact⟨j,by omega,h1⟩
 ·intro k k' h1 h2
  rw[a]at h1
  rw[a,a]at h2
  have a1:=h.n0 k;have a2:=h.n0 k';split at h2<;>split at h2
  ·rename_i f l;rw[←f,←l]
  ·omega
  ·omega
  ·rename_i f l
   rw[Ou f]at h1
   exact h.inj k k' h1 h2
 ·rw[G0 c,Al,←h.nx];omega
theorem CInv.done{q out name:List Int}{got next:Int}(h:CInv q got q.length name next out){g:bU}(j:q.length=g.length)(hq:∀a,a<g.length→0≤q.getD a 0)(f:∀a b,a<g.length→b<g.length→(q.getD a 0=q.getD b 0↔Rch g [(a:Int)] b∧Rch g [(b:Int)] a)):PartsOK g out:=by
 refine⟨by rw[h.lo,j],fun i hi=>h.canon i (by rw[←h.lo];exact hi),fun a b d c=>?_,fun i hi=>?_,fun i hi=>?_⟩
 ·rw[←f a b d c]
  have h1:=h.z a OS;have h2:=h.z b OS;rw[h1.2,h2.2];have m:=hq a d;have l:=hq b c;constructor
  ·intro e
   have k:name.getD (q.getD a 0).toNat 0=name.getD (q.getD b 0).toNat 0:=by omega
   have:=h.inj _ _ h1.1 k;omega
  ·intro e;rw[e]
 ·have:=h.z i (by rw[←h.lo];exact hi)
  omega
 ·have h1:=h.z i (by rw[←h.lo];exact hi)
  have h2:=(h.n0 (q.getD i 0).toNat).2;have h3:=h.le;omega
theorem TInv.start(g:bU)(part:List Int)(i:part.length=g.length)(e:∀j,j<g.length→part.getD j (-1)= -1):TInv g ⟨List.replicate g.length 0,List.replicate g.length 0,part,0,0⟩ []:=by
 have d:∀k,(List.replicate g.length (0:Int)).getD k 0=0:=by
  intro k
  rw[KR,K2];split<;>rfl
 have hn:∀k,Ts.nm ⟨List.replicate g.length 0,List.replicate g.length 0,part,0,0⟩ k=0:=d;have c:∀k,k<g.length→Ts.pt ⟨List.replicate g.length 0,List.replicate g.length 0,part,0,0⟩ k= -1:=e;refine⟨by simp,by simp,i,fun n hn=>absurd hn (by simp[stk]),fun n h=>?_,fun n h=>by rw[hn];omega,fun n hn=>absurd hn (by simp[stk]),by simp[stk],fun n h=>by rw[hn];simp,by simp,fun f hf=>absurd hf OW,trivial,fun n h h1=>by rw[c n h]at h1;omega,fun n h=>by rw[c n h];simp,by simp,by simp[Kt],?_,fun a b l m h1=>by rw[c a l]at h1;omega⟩
 ·rw[hn,c n h];simp[stk]
 ·have:zg part≤part.length:=Kr
  simp;omega
theorem dP(w0:World){F:Nat→Prop}{ao:Option Addr}{cap:Nat}{g:bU}(K:Sl w0 F ao cap g)(hF:∀b,F b→b<w0.heap.size)(hG:okG g)(hgl:g.length≤1099511627776):
  Rt Tryz.prog 88 [.slice ao g.length cap].toArray w0 fun v w'=>∃p,Own w' w0.heap.size 3 c7 v p∧PartsOK g p∧Ext w0 w':=by
 refine dG Tryz.func88 Tryz.ntmps88 rfl rfl ?_;refine Qp ?_;refine aD (fun x=>Ext w0 x) [(0,true),(1,true),(3,true),(5,true)] [2,4,6] [(7,true),(8,false),(9,true)] mixed OT (Ext.drew w0) ?_;refine Rf ?_;refine aQ [⟨2,15,fun v N w=>Own w w0.heap.size 3 c7 v (List.replicate g.length (0:Int))∧∃b,v.ownBlock=some b∧N b⟩,⟨4,17,fun v N w=>Own w w0.heap.size 3 c7 v (List.replicate g.length (0:Int))∧∃b,v.ownBlock=some b∧N b⟩,
  ⟨6,19,fun v N w=>Own w w0.heap.size 3 c7 v (List.replicate g.length (0:Int))∧∃b,v.ownBlock=some b∧N b⟩] rfl rfl rfl (Ext.drew w0) ?_ ?_
 ·intro e he
  simp only[LN,List.not_mem_nil,or_false]at he
  rcases he with rfl|rfl|rfl
  all_goals
   refine⟨⟨_,rfl,rfl,rfl,fun w' hS=>?_⟩,rfl,rfl,fun v N w1 w2 h hE=>⟨h.1.extN hE,h.2⟩⟩;refine eY (α:=Int) rfl rfl rfl rfl OS OY (fun w2 ho hgr=>?_);have hE:Ext w' w2:=(Ext.refl w').grown hgr Pf O_;have hS:Ext w0 w':=hS;exact WL.nil (aR (fun b=>b=w'.heap.size) rfl (hS.trans hE) hE ⟨ho.low hS.size,_,rfl,rfl⟩ (fun b R=>by subst R;exact⟨MM _,(ho.lt _ rfl).2.1⟩))
 intro w1 T hE1 nV N1 h1 _ lV N2 h2 d2 pV N3 h3 d3
 obtain⟨h1,L,hnb,m1⟩:=h1;obtain⟨h2,lb,hlb,m2⟩:=h2;obtain⟨h3,pb,hpb,m3⟩:=h3;have n12:L≠lb:=fun e=>d2 N1 OW L m1 (by rw[e];exact m2)
 have n13:L≠pb:=fun e=>d3 N1 OW L m1 (by rw[e];exact m3)
 have n23:lb≠pb:=fun e=>d3 N2 OW lb m2 (by rw[e];exact m3)
 dsimp only;have T:Ext w0 w1:=T;obtain⟨no,nc,hnv⟩:=h1.val;obtain⟨lo,lc,hlv⟩:=h2.val;obtain⟨po,pc,hpv⟩:=h3.val;subst hnv hlv hpv;refine HL.build rfl rfl rfl rfl rfl ?_;refine cu rfl (dZ rfl rfl rfl fun w2 hb2 X=>?_);have Y:=T.trans X;refine WL.nil (a_ Y ?_);refine Rf ?_;have hsz1:w0.heap.size≤w1.heap.size:=T.size;have g1:=h1.lt _ hnb;have g2:=h2.lt _ hlb;have g3:=h3.lt _ hpb;have hM2:TM w2 w0.heap.size w1.heap.size (.slice ao g.length cap) (.slice no (List.replicate g.length (0:Int)).length nc) (.slice lo (List.replicate g.length (0:Int)).length lc) (.slice po (List.replicate g.length (0:Int)).length pc) (.slice none 0 0) L lb pb ⟨List.replicate g.length 0,List.replicate g.length 0,List.replicate g.length 0,0,0⟩ (vW []):=
  ⟨hb2,h1.extN X,h2.extN X,h3.extN X,Own.nil,hsz1,hnb,hlb,hpb,⟨n12,n13,n23,by omega,by omega,by omega⟩,fun k hk=>by simp[Value.ownBlock]at hk⟩
 generalize hnV:Value.slice no (List.replicate g.length (0:Int)).length nc=nV at*
 generalize hlV:Value.slice lo (List.replicate g.length (0:Int)).length lc=lV at*
 generalize hpV:Value.slice po (List.replicate g.length (0:Int)).length pc=pV at*
 generalize hbb:w1.heap.size=b at*
 clear h1 h2 h3 g1 g2 g3 hb2 T X hE1 d2 d3 m1 m2 m3 hnV hlV hpV;apply bx;refine Qu ?_;refine CW.loop (S:=Nat×List Int) (fun x=>[(3,Pj g.length),(4,Pk b),(22,Pj g.length),(23,Pj x.1)])
  (fun x w=>x.1≤g.length∧x.2.length=g.length∧(∀j,j<x.1→x.2.getD j (-1)= -1)∧TM w w0.heap.size b (.slice ao g.length cap) nV lV pV (.slice none 0 0) L lb pb ⟨List.replicate g.length 0,List.replicate g.length 0,x.2,0,0⟩ (vW [])∧Ext w0 w) (fun x=>g.length -x.1) (0,List.replicate g.length 0) OR ⟨by omega,by simp,fun j y=>absurd y OW,hM2,Y⟩ ?_
 rintro⟨i,part⟩ w3 ⟨hi,z,G,c,n⟩
 dsimp only at hi z G c
 refine Qw ?_;apply CW.cond rfl<;>intro d
 ·simp at d
  have R:=c.blk;obtain⟨hn1,hn2,hn3,hn4,hn5,hn6⟩:=c.ne;refine P2 ?_;refine fu (u:=Pj (-1)) (yv:=(-1:Int)) rfl rfl rfl rfl c.part OX O3 O3 Pe (fun O q hp4 B=>?_);have C:TM O w0.heap.size b (.slice ao g.length cap) nV lV pV (.slice none 0 0) L lb pb ⟨List.replicate g.length 0,List.replicate g.length 0,part.set i (-1),0,0⟩ (vW []):=
   ⟨R.kept B (fun e=>by rw[c.hpb]at e;cases e;exact hn6 rfl),c.num.keptN B (fun g K e=>by rw[c.hnb]at K;rw[c.hpb]at e;cases K;cases e;exact hn2 rfl),c.low.keptN B (fun g K e=>by rw[c.hlb]at K;rw[c.hpb]at e;cases K;cases e;exact hn3 rfl),hp4,Own.nil,c.ge,c.hnb,c.hlb,c.hpb,c.ne,c.sne⟩
  have D:Ext w0 O:=n.grown B n.size (fun k hk=>(c.part.lt k hk).1);refine PI ?_;refine EX.back (i+1,part.set i (-1)) OR ⟨d,by simp[z],fun j y=>?_,C,D⟩ (by simp only;omega);dsimp only;rw[rk OS];split
  ·rfl
  ·exact G j (by dsimp only at y;omega)
 simp at d
 have:i=g.length:=by omega
 subst this;have hI0:=TInv.start g part z G;clear d hi G;refine P5 ?_;refine CW.loop (S:=Nat×Ts×Value) (fun x=>[(3,Pj g.length),(4,Pk b),(33,Pj g.length),(34,Pj x.1)])
  (fun x w=>x.1≤g.length∧TInv g x.2.1 []∧TM w w0.heap.size b (.slice ao g.length cap) nV lV pV x.2.2 L lb pb x.2.1 (vW [])∧Ext w0 w∧∀j,j<x.1→0<x.2.1.nm j) (fun x=>g.length -x.1) (0,_,.slice none 0 0) OR ⟨by omega,hI0,c,n,fun j y=>absurd y OW⟩ ?_
 clear hI0 c n hM2 Y;rintro⟨i,s,sV⟩ w3 ⟨hi,V,c,n,E⟩
 dsimp only at hi V c E
 refine Qw ?_;apply CW.cond rfl<;>intro d
 ·simp at d
  have R:=c.blk;have hil:i<s.num.length:=by rw[V.ln];exact d
  have en:s.num[i]=s.nm i:=(q_ hil).symm;refine P2 ?_;refine eG rfl rfl rfl rfl rfl c.num hil O3 (fun u q P=>?_);obtain rfl:=P.int;rw[en];refine Pv ?_;apply CW.cond rfl<;>intro M
  ·have M:s.nm i=0:=by simpa using M
   refine PC ?_;refine WL.call rfl rfl rfl (IA w0 w3 n K hF hG hgl c V d M) ?_;rintro _ O ⟨sV4,s4,C,hI4,D,hmo,hv4⟩
   refine PI ?_;refine EX.back (i+1,s4,sV4) OR ⟨d,hI4,C,D,fun j y=>?_⟩ (by simp only;omega);by_cases e:j=i
   ·subst e;exact hv4
   ·exact hmo j (E j (by dsimp only at y;omega))
  ·have M:s.nm i≠0:=by simpa using M
   have:=V.non i d;refine Pq ?_;refine EX.back (i+1,s,sV) OR ⟨d,V,c,n,fun j y=>?_⟩ (by simp only;omega);by_cases e:j=i
   ·subst e;dsimp only;omega
   ·exact E j (by dsimp only at y;omega)
 simp at d
 have:i=g.length:=by omega
 subst this;clear d hi;have R:=c.blk;have m:∀a,a<g.length→0≤s.pt a:=fun a ha=>by
  rcases(V.vis a ha).1 (E a ha)with h|h
  ·simp[stk]at h
  ·exact h
 have hgn:=V.gn;have hg0:=V.g0;have z:=V.lp;obtain⟨gn,egn⟩:=J9 hg0;rw[egn]at R
 have hgnl:gn≤g.length:=by omega
 refine PX ?_;refine eY (α:=Int) rfl rfl rfl rfl OS OY (fun O t B=>?_);have W:Ext w3 O:=(Ext.refl w3).grown B Pf O_;have C:=c.ext W;have D:=n.trans W;have hb4:=C.blk;refine Qw ?_;refine eY (α:=Int) rfl rfl rfl rfl OS OY (fun w5 r hg5=>?_);have J:Ext O w5:=(Ext.refl O).grown hg5 Pf O_;have hM5:=C.ext J;have hE5:=D.trans J;have I:=(t.extN J).low n.size;have r:=r.low D.size;have hnb34:w3.heap.size<O.heap.size:=(t.lt _ rfl).2.1;have l1:=c.lts.1;have l4:=c.lts.2.2.2.1;have hge3:=n.size;have hge4:=D.size;generalize hnm:Value.slice (some ⟨w3.heap.size,0,none⟩) gn gn=mV at*
 generalize hou:Value.slice (some ⟨O.heap.size,0,none⟩) g.length g.length=oV at*
 have hmb:mV.ownBlock=some w3.heap.size:=by rw[←hnm];rfl
 have hob:oV.ownBlock=some O.heap.size:=by rw[←hou];rfl
 have hC0:CInv s.part s.got 0 (List.replicate gn 0) 0 (List.replicate g.length 0):=by
  have:=CInv.start (q:=s.part) (out:=List.replicate g.length 0) hg0 (by simp[z]);rwa[egn,Kd,←egn]at this
 have hsame:∀a b,a<g.length→b<g.length→(s.part.getD a 0=s.part.getD b 0↔Rch g [(a:Int)] b∧Rch g [(b:Int)] a):=by
  intro a b ha R
  rw[←V.scc a b ha R (m a ha) (m b R)];unfold Ts.pt;rw[q_ OS,q_ OS,q_ OS,q_ OS]
 have hq0:∀a,a<g.length→0≤s.part.getD a 0:=fun a ha=>by
  have:=m a ha;unfold Ts.pt at this
  rw[q_ OS]at this⊢
  exact this
 have hql:∀a,a<g.length→s.part.getD a 0<s.got:=fun a ha=>by
  have:=V.ptl a ha;unfold Ts.pt at this
  rw[q_ OS]at this⊢
  exact this
 have hmS:¬tS b L lb pb sV w3.heap.size:=by
  obtain⟨a1,a2,a3,a4,a5,_⟩:=c.lts;rintro(h1|h1|h1|h1|h1)
  ·omega
  ·omega
  ·omega
  ·omega
  ·have:=a5 _ h1;omega
 have hoS:¬tS b L lb pb sV O.heap.size:=by
  obtain⟨a1,a2,a3,a4,a5,_⟩:=c.lts;rintro(h1|h1|h1|h1|h1)
  ·omega
  ·omega
  ·omega
  ·omega
  ·have:=a5 _ h1;omega
 clear R hb4 C t B hg5 W J hnm hou;refine Qu ?_;refine CW.loop (S:=Nat×List Int×Int×List Int) (fun x=>[(4,Pk b),(7,mV),(8,Pj x.2.2.1),(9,oV),(56,Pj g.length),(57,Pj x.1)])
  (fun x w=>x.1≤g.length∧CInv s.part s.got x.1 x.2.1 x.2.2.1 x.2.2.2∧TM w w0.heap.size b (.slice ao g.length cap) nV lV pV sV L lb pb s (vW [])∧Own w w0.heap.size 3 c7 mV x.2.1∧Own w w0.heap.size 3 c7 oV x.2.2.2∧Ext w0 w) (fun x=>g.length -x.1) (0,_,0,_) OR ⟨by omega,hC0,hM5,I,r,hE5⟩ ?_
 clear hM5 I r hE5 hC0 c;rintro⟨i,name,next,out⟩ w6 ⟨hi,hC,c,l,H,hE6⟩
 dsimp only at hi hC l H
 refine Qw ?_;apply CW.cond rfl<;>intro d
 ·simp at d
  have R:=c.blk;have A:i<s.part.length:=by omega
  have ei:s.part[i]=s.part.getD i 0:=(q_ A).symm;obtain⟨k,ek⟩:=J9 (hq0 i d);have hkl:=hql i d;have hnl:=hC.ln;have Q:k<name.length:=by omega
  have hk0:=hC.n0 k;have hCle:=hC.le;have hio:i<out.length:=by rw[hC.lo];exact A
  have enk:name[k]=name.getD k 0:=(q_ Q).symm;obtain⟨hn1,hn2,hn3,hn4,hn5,hn6⟩:=c.ne;dsimp only;apply CW.skip;apply bx;apply CW.seq;apply CW.block;apply CW.seq;apply CW.region;refine QO ?_;apply WL.nil;apply bx;refine aB (S:=List Int×Int) (fun x=>[(4,Pk b),(7,mV),(8,Pj x.2),(9,oV),(10,Pj i),(56,Pj g.length),(57,Pj i)])
   (fun x w'=>∃out',CInv s.part s.got (i+1) x.1 x.2 out'∧out'=out.set i (x.1.getD k 0 -1)∧x.1.length=name.length∧TM w' w0.heap.size b (.slice ao g.length cap) nV lV pV sV L lb pb s (vW [])∧Own w' w0.heap.size 3 c7 mV x.1∧Own w' w0.heap.size 3 c7 oV out∧Ext w0 w') ?_ ?_
  ·refine P3 ?_
   refine eG rfl rfl rfl rfl rfl c.part A O3 (fun u q P=>?_);obtain rfl:=P.int;rw[ei,ek];skip;refine eG rfl rfl rfl rfl rfl l Q O3 (fun u q P=>?_);obtain rfl:=P.int;rw[enk];refine Pv ?_;apply CW.cond rfl<;>intro M
   ·have M:name.getD k 0=0:=by simpa using M
    have Z:=hC.new A (by rw[ek,Kd];exact Q) (by rw[ek,Kd];exact M);rw[ek,Kd]at Z
    refine PQ ?_;refine eG rfl rfl rfl rfl rfl c.part A O3 (fun u q P=>?_);obtain rfl:=P.int;rw[ei,ek];refine QO ?_;refine fu (u:=Pj (next+1)) (yv:=next+1) rfl rfl rfl rfl l Q O3 O3 Pe (fun w7 q f hg7=>?_);have U:=c.off hg7 (fun j y=>by
     rw[hmb]at y
     cases y
     exact hmS)
    have o:=H.keptN hg7 (fun g K e=>by rw[hob]at K;rw[hmb]at e;cases K;simp at e;omega);have hE7:Ext w0 w7:=hE6.grown hg7 hE6.size (fun j y=>(l.lt j y).1);refine QB ?_;refine aU (name.set k (next+1),next+1) OR ⟨_,Z,?_,by simp,U,f,o,hE7⟩;dsimp only;rw[rk Q,Ov rfl]
    congr 1;omega
   ·have M:name.getD k 0≠0:=by simpa using M
    have Z:=hC.old A (by rw[ek,Kd];exact M);rw[ek,Kd]at Z
    refine Po ?_;exact aU (name,next) OR ⟨_,Z,rfl,rfl,c,l,H,hE6⟩
  rintro⟨name',next'⟩ w7 ⟨out',Z,rfl,hnl',U,f,o,hE7⟩
  dsimp only at Z hnl' f⊢
  have hb7:=U.blk;have hkn':k<name'.length:=by omega
  have enk':name'[k]=name'.getD k 0:=(q_ hkn').symm;have hk0':=Z.n0 k;have hNle:=Z.le;refine P3 ?_;refine eG rfl rfl rfl rfl rfl U.part A O3 (fun u q P=>?_);obtain rfl:=P.int;rw[ei,ek];skip;refine eG rfl rfl rfl rfl rfl f hkn' O3 (fun u q P=>?_);obtain rfl:=P.int;rw[enk'];refine QZ ?_;refine fu (u:=Pj (name'.getD k 0 -1)) (yv:=name'.getD k 0 -1) rfl rfl rfl rfl o hio O3 O3 Pe (fun w8 q hout8 hg8=>?_);have hM8:=U.off hg8 (fun j y=>by rw[hob]at y;cases y;exact hoS);have hname8:=f.keptN hg8 (fun g K e=>by rw[hmb]at K;rw[hob]at e;cases K;simp at e;omega);have hE8:Ext w0 w8:=hE7.grown hg8 hE7.size (fun j y=>(o.lt j y).1);refine PI ?_;exact EX.back (i+1,name',next',_) OR ⟨d,Z,hM8,hname8,hout8,hE8⟩ (by simp only;omega)
 simp at d
 have:i=g.length:=by omega
 subst this;refine PG ?_;refine be rfl rfl ⟨out,H,?_,hE6⟩;exact CInv.done (z▸hC) z hq0 hsame
theorem Rc.lt{E:Nat→Nat→Prop}{N a b:Nat}(d:∀u v,E u v→v<N)(c:a<N):Rc E a b→b<N
 |⟨p,n,h⟩=>by
  cases n with
  |zero=>rw[←h.last,h.first];exact c
  |succ n=>rw[←h.last];exact d _ _ (h.step n OS)
theorem Rc.first{E:Nat→Nat→Prop}{a b c:Nat}(h1:Rc E a b)(h2:E b c)(h3:Rc E c a):∃u,E a u∧Rc E u a:=by
 obtain⟨p,n,h⟩:=h1;cases n with
 |zero=>obtain rfl:a=b:=h.first.symm.trans h.last
        exact⟨c,h2,h3⟩
 |succ n=>
  refine⟨p 1,by have:=h.step 0 OS;rwa[h.first]at this,Rc.trans ⟨fun i=>p (i+1),n,rfl,h.last,fun i hi=>h.step (i+1) OS⟩ ((Rc.one h2).trans h3)⟩
theorem lk{g:bU}{part:List Int}{Ps:List (Nat→Prop)}(j:okG g)(o:PartsOK g part){i:Nat}(hi:i<g.length):
  aM (Eg g) Ps i↔(∃u,u<g.length∧part.getD u 0=part.getD i 0∧∃to∈g.getD u [],part.getD to.toNat 0=part.getD i 0)∧∀P∈Ps,∃x,x<g.length∧P x∧part.getD x 0=part.getD i 0:=by
 have k:∀u v,Eg g u v→v<g.length:=fun u v h=>h.lt j
 have c:∀a b,a<g.length→b<g.length→(part.getD a 0=part.getD b 0↔Rc (Eg g) a b∧Rc (Eg g) b a):=fun a b q p=>by
  rw[o.same a b q p,CK j,CK j]
 constructor
 ·rintro⟨⟨u,h1,h2⟩,h3⟩
  refine⟨⟨i,hi,rfl,(u:Int),h1,?_⟩,fun P hP=>?_⟩
  ·exact((c u i (k _ _ h1) hi).2 ⟨h2,Rc.one h1⟩)
  ·obtain⟨x,e,k1,k2⟩:=h3 P hP
   exact⟨x,Rc.lt k hi k1,e,(c x i (Rc.lt k hi k1) hi).2 ⟨k2,k1⟩⟩
 ·rintro⟨⟨u,n,h1,to,h2,h3⟩,h4⟩
  have t:=AF j u to h2;have d:Eg g u to.toNat:=by show((to.toNat:Nat):Int)∈_;rw[show((to.toNat:Nat):Int)=to by omega];exact h2
  refine⟨Rc.first ((c u i n hi).1 h1).2 d ((c _ i (k _ _ d) hi).1 h3).1,fun P hP=>?_⟩;obtain⟨x,e,r,m⟩:=h4 P hP;exact⟨x,r,((c x i e hi).1 m).2,((c x i e hi).1 m).1⟩
section
variable {g:bU}{f li:List Int}{sm:bU}
theorem Eg.lt1{g:bU}{u v:Nat}(h:Eg g u v):u<g.length:=by
 unfold Eg at h
 apply J3;intro hn
 rw[KR,KY OS]at h
 simp at h
end
def pI(mu no:List Nat)(k x:Nat):Bool:=decide (x&&&mu.getD k 0=mu.getD k 0)&&decide (x&&&no.getD k 0=0)
structure AccRun(st:List Int)(nx:List (List Int))(mu no:List Nat)(fr:List (List Int))(L r:Nat→Nat):Prop where
 first:(r 0:Int)∈st
 fits:∀i,pI mu no (r i) (L i)=true
 step:∀i,(r (i+1):Int)∈nx.getD (r i) []
 fair:∀F∈fr,∀i,∃j,i≤j∧(r j:Int)∈F
def Acc(st:List Int)(nx:List (List Int))(mu no:List Nat)(fr:List (List Int))(L:Nat→Nat):Prop:=∃r,AccRun st nx mu no fr L r
section
variable {st:List Int}{nx:List (List Int)}{mu no:List Nat}{fr:List (List Int)}{s l:List Nat}
end
theorem Acc.congr{st:List Int}{nx:List (List Int)}{mu no:List Nat}{fr:List (List Int)}{L L':Nat→Nat}(h:∀i,L i=L' i):Acc st nx mu no fr L↔Acc st nx mu no fr L':=by
 rw[show L=L' from funext h]
abbrev dg:=Int×Int
theorem vp{ps t:List dg}{p:dg}(h:p∈ps):(ps++t).idxOf p=ps.idxOf p:=by rw[Lh,Ov h]
theorem vr{ps:List dg}{p:dg}(h:p∉ps):ps.idxOf p=ps.length:=by
 have h1:=List.idxOf_le_length (a:=p) (l:=ps);have h2:=mt Li.1 h;omega
theorem qX{α:Type}{l t:List α}{j:Nat}{d:α}(h:j<l.length):(l++t).getD j d=l.getD j d:=by rw[KR,KR,KT h]
theorem qW{α:Type}{l:List α}{x d:α}:(l++[x]).getD l.length d=x:=by rw[KR,KU Pf];simp
theorem qY{ps:List dg}{n:Nat}(h:n<ps.length):ps.getD n (0,0)∈ps:=by rw[KR,KX h];exact Lb _
theorem vl{ps:List dg}{p:dg}(h:p∈ps):ps.idxOf p<ps.length∧ps.getD (ps.idxOf p) (0,0)=p:=by
 have a:=Li.2 h;exact⟨a,by rw[KR,KX a,Nk,List.getElem_idxOf a]⟩
abbrev cG:=List Int×List (List Int)×List Nat×List Nat×List (List Int)
def aa(A:cG)(L:Nat→Nat):Prop:=Acc A.1 A.2.1 A.2.2.1 A.2.2.2.1 A.2.2.2.2 L
def de(A:cG):Prop:=(∀x∈A.1,0≤x)∧∀k,∀x∈A.2.1.getD k [],0≤x
def fM(ps:List dg)(p:dg):List dg:=if p∈ps then ps else ps++[p]
def CB(fit:dg→Bool):List dg→List dg→List Int→List dg×List Int
 |[],ps,l=>(ps,l)
 |p::r,ps,l=>if fit p=true then CB fit r (fM ps p) (l++[(ps.idxOf p:Int)])else CB fit r ps l
def Bv(l k:List Int):List dg:=l.flatMap fun x=>k.map fun y=>(x,y)
section
variable {fit:dg→Bool}
theorem addF_mem{ps:List dg}{p q:dg}:q∈fM ps p↔q∈ps∨q=p:=by
 unfold fM;split
 ·exact⟨.inl,fun h=>h.elim id (fun h=>by subst h;assumption)⟩
 ·simp
theorem fN{ps:List dg}{p:dg}:∃t,fM ps p=ps++t:=by
 unfold fM;split
 ·exact⟨[],by simp⟩
 ·exact⟨[p],rfl⟩
theorem fP{ps:List dg}{p:dg}(h:ps.Nodup):(fM ps p).Nodup:=by
 unfold fM;split
 ·exact h
 ·rename_i hn
  rw[L3];refine⟨h,Ma _ _,fun a d b c e=>?_⟩;rw[L0]at c
  exact hn (by rw[←c,←e];exact d)
theorem fO{ps:List dg}{p:dg}:(fM ps p).idxOf p=ps.idxOf p:=by
 unfold fM;split
 ·rfl
 ·rename_i hn
  rw[Lh,Ou hn,vr hn];simp
structure PutF(fit:dg→Bool)(r ps:List dg)(l:List Int)(q:List dg×List Int):Prop where
 nd:q.1.Nodup
 app:∃t,q.1=ps++t
 new:∀p∈q.1,p∈ps∨(p∈r∧fit p=true)
 all:∀p∈r,fit p=true→p∈q.1
 num:∀i,i∈q.2↔i∈l∨∃p∈r,fit p=true∧i=(q.1.idxOf p:Int)
 len:q.2.length≤l.length+r.length
theorem CC:∀(r ps:List dg) (l:List Int),ps.Nodup→PutF fit r ps l (CB fit r ps l)
 |[],ps,l,h=>⟨h,⟨[],by simp[CB]⟩,fun p e=>.inl e,(fun p e=>by cases e),fun i=>by simp[CB],by simp[CB]⟩
 |p::r,ps,l,h=>by
  rw[CB];split
  ·rename_i hf
   have k:=CC r (fM ps p) (l++[(ps.idxOf p:Int)]) (fP h);obtain⟨t,d⟩:=k.app;obtain⟨f,c⟩:=fN (ps:=ps) (p:=p);refine⟨k.nd,⟨f++t,by rw[d,c,Kj]⟩,fun q hq=>?_,fun q hq a=>?_,fun i=>?_,?_⟩
   ·rcases k.new q hq with h1|h1
    ·rcases addF_mem.1 h1 with h1|h1
     ·exact .inl h1
     ·subst h1;exact .inr ⟨LP,hf⟩
    ·exact .inr ⟨LO _ h1.1,h1.2⟩
   ·rcases LN.1 hq with rfl|hq
    ·rw[d];exact LL _ (addF_mem.2 (.inr rfl))
    ·exact k.all q hq a
   ·have b:(CB fit r (fM ps p) (l++[(ps.idxOf p:Int)])).1.idxOf p=ps.idxOf p:=by
     rw[d,Lh,Ov (addF_mem.2 (.inr rfl)),fO]
    rw[k.num];constructor
    ·rintro(h1|⟨q,h1,h2,h3⟩)
     ·rcases LK.1 h1 with h1|h1
      ·exact .inl h1
      ·rw[L0]at h1
       exact .inr ⟨p,LP,hf,by rw[b];exact h1⟩
     ·exact .inr ⟨q,LO _ h1,h2,h3⟩
    ·rintro(h1|⟨q,h1,h2,h3⟩)
     ·exact .inl (LL _ h1)
     ·rcases LN.1 h1 with rfl|h1
      ·exact .inl (LM _ (by rw[L0,h3,b]))
      ·exact .inr ⟨q,h1,h2,h3⟩
   ·have:=k.len;simp only[Lk,Ll,Lr]at this⊢;omega
  ·rename_i hf
   have k:=CC r ps l h;refine⟨k.nd,k.app,fun q hq=>?_,fun q hq a=>?_,fun i=>?_,?_⟩
   ·exact(k.new q hq).imp id fun h1=>⟨LO _ h1.1,h1.2⟩
   ·rcases LN.1 hq with rfl|hq
    ·exact absurd a hf
    ·exact k.all q hq a
   ·rw[k.num]
    constructor
    ·rintro(h1|⟨q,h1,h2,h3⟩)
     ·exact .inl h1
     ·exact .inr ⟨q,LO _ h1,h2,h3⟩
    ·rintro(h1|⟨q,h1,h2,h3⟩)
     ·exact .inl h1
     ·rcases LN.1 h1 with rfl|h1
      ·exact absurd h2 hf
      ·exact .inr ⟨q,h1,h2,h3⟩
   ·have:=k.len;simp only[Ll]at this⊢;omega
theorem pairsX_mem{l k:List Int}{p:dg}:p∈Bv l k↔p.1∈l∧p.2∈k:=by
 unfold Bv;simp only[LS,LU];constructor
 ·rintro⟨x,b,y,a,rfl⟩;exact⟨b,a⟩
 ·rintro⟨h1,h2⟩;exact⟨p.1,h1,p.2,h2,rfl⟩
theorem zZ:∀(n:Nat) (l:List Nat),l.Nodup→(∀x∈l,x<n)→l.length≤n
 |0,l,_,h=>by
  cases l with
  |nil=>simp
  |cons x r=>have:=h x OW;omega
 |n+1,l,hd,h=>by
  by_cases hn:n∈l
  ·have h1:=zZ n (l.erase n) (hd.erase n) (fun x a=>by
    have h2:=(List.Nodup.mem_erase_iff hd).1 a;have:=h x h2.2;have:=h2.1;omega)
   rw[Lo hn]at h1
   omega
  ·have:=zZ n l hd (fun x a=>by
    have h2:=h x a;have:x≠n:=fun e=>hn (e▸a)
    omega)
   omega
theorem zW{a b:Nat}{ps:List dg}(hn:ps.Nodup)(h:∀p∈ps,(0≤p.1∧p.1<a)∧0≤p.2∧p.2<b):ps.length≤a*b:=by
 have hd:∀(x y:Nat),y<b→(b*x+y) / b=x∧(b*x+y) % b=y:=fun x y g=>by
  have l:0<b:=by omega
  exact⟨by rw[Nat.mul_add_div l,MB g,Mz],by rw[Nat.mul_add_mod,MT g]⟩
 have h1:=zZ (a*b) (ps.map fun p=>b*p.1.toNat+p.2.toNat) (by
  unfold List.Nodup at hn⊢
  rw[L_];refine(L8.2 fun {p q} c=>?_);have d:p∈ps:=c.subset OW;have hq:q∈ps:=c.subset OW;have f:=L8.1 hn c;intro e
  obtain⟨⟨p1,p2⟩,j,i⟩:=h p d;obtain⟨⟨r,o⟩,n,m⟩:=h q hq;have d1:=hd p.1.toNat p.2.toNat OS;have d2:=hd q.1.toNat q.2.toNat OS;rw[e]at d1
  exact f (Prod.ext (by have:=d1.1.symm.trans d2.1;omega) (by have:=d1.2.symm.trans d2.2;omega))) (fun x k=>by
  obtain⟨p,d,rfl⟩:=LU.1 k;obtain⟨⟨p1,p2⟩,j,i⟩:=h p d;have h2:p.1.toNat+1≤a:=by omega
  have h3:=MW b h2;rw[Nat.mul_add,MY,Nat.mul_comm b a]at h3
  omega)
 simpa using h1
end
abbrev UP:=List (Int×Int)
abbrev wO(up:UP):List Int:=up.map Prod.fst
structure WyC(g:List (List Int))(fr:List Int)(al:Nat→Bool)(up:UP):Prop where
 nd:(wO up).Nodup
 rg:AG g.length (wO up)
 par:∀i (hi:i<up.length),(up[i].2= -1∧up[i].1∈fr)∨∃j,∃hj:j<up.length,j<i∧up[i].2=up[j].1∧up[i].1∈g.getD up[j].1.toNat []∧al up[i].1.toNat=true
structure WyOK(g:List (List Int))(fr:List Int)(to al:Nat→Bool)(r:List Int):Prop where
 ne:0<r.length
 len:r.length≤g.length
 rg:AG g.length r
 st:r.getD 0 0∈fr
 ed:∀i,i+1<r.length→r.getD (i+1) 0∈g.getD (r.getD i 0).toNat []∧al (r.getD (i+1) 0).toNat=true
 en:to (r.getD (r.length -1) 0).toNat=true
def fI(g:List (List Int))(fr:List Int)(to al:Nat→Bool):Prop:=∃C:List Int,(∀x∈fr,x∈C)∧∀x∈C,to x.toNat=false∧∀k∈g.getD x.toNat [],al k.toNat=true→k∈C
def fS(part:List Int)(only:Int)(k:Nat):Bool:=decide (only<0)||decide (part.getD k 0=only)
section
variable {g:List (List Int)}{fr:List Int}{to al:Nat→Bool}{up:UP}
theorem AI:∀{n:Nat} {l:List Int},l.Nodup→AG n l→l.length≤n:=fun {n l} hn h=>by
 have h1:=zZ n (l.map Int.toNat) (by
  unfold List.Nodup at hn⊢
  rw[L_];refine L8.2 fun {a b} c=>?_
  have d:=h a (c.subset OW);have f:=h b (c.subset OW);have:=L8.1 hn c;omega) (fun x e=>by
  obtain⟨a,d,rfl⟩:=LU.1 e;have:=h a d;omega)
 simpa using h1
theorem WyC.nil:WyC g fr al []:=⟨List.Pairwise.nil,(fun x a=>by cases a),fun i hi=>absurd hi OW⟩
theorem WyC.len(h:WyC g fr al up):up.length≤g.length:=by
 have:=AI h.nd h.rg;simpa using this
theorem WyC.push(h:WyC g fr al up){x:Int×Int}(hn:x.1∉wO up)(n:0≤x.1∧x.1<g.length)
  (o:(x.2= -1∧x.1∈fr)∨∃j,∃d:j<up.length,x.2=up[j].1∧x.1∈g.getD up[j].1.toNat []∧al x.1.toNat=true):WyC g fr al (up++[x]):=by
 refine⟨?_,fun y c=>?_,fun i hi=>?_⟩
 ·unfold wO
  rw[LC,L3];refine⟨h.nd,by simp,fun a p b l e=>?_⟩;simp at l
  subst l;subst e;exact hn p
 ·unfold wO at c
  rw[LC]at c
  rcases LK.1 c with c|c
  ·exact h.rg y c
  ·simp at c;subst c;exact n
 ·by_cases m:i<up.length
  ·rw[K6 m]
   rcases h.par i m with k|⟨j,d,k1,k2,k3⟩
   ·exact .inl k
   ·exact .inr ⟨j,by simp;omega,k1,by rw[K6 d];exact k2,by rw[K6 d];exact k3⟩
  ·have f:i=up.length:=by simp at hi;omega
   subst f;rw[K7 Pf];simp only[M8,K9];rcases o with k|⟨j,d,k⟩
   ·exact .inl k
   ·exact .inr ⟨j,by simp;omega,d,by rw[K6 d];exact k⟩
structure BackI(g:List (List Int))(fr:List Int)(al:Nat→Bool)(up:UP)(h q:Nat)(out:List Int):Prop where
 hq:q≤up.length
 hh:h<up.length
 len:out.length+q≤h+1
 rg:AG g.length out
 rv:∀i,i+1<out.length→out.getD i 0∈g.getD (out.getD (i+1) 0).toNat []∧al (out.getD i 0).toNat=true
 nx:∀(h0:0<q),0<out.length→out.getD (out.length -1) 0∈g.getD (up[q -1]'OS).1.toNat []∧al (out.getD (out.length -1) 0).toNat=true
 hd:0<out.length→out.getD 0 0=up[h].1
 em:out.length=0→q=h+1
 fn:q=0→0<out.length∧out.getD (out.length -1) 0∈fr
def Aj(up:UP)(q:Nat):Int:=if h:0<q∧q≤up.length then(up[q -1]'OS).1 else -1
theorem BackI.start{h:Nat}(hh:h<up.length):BackI g fr al up h (h+1) []:=
 ⟨hh,hh,by simp,(fun x a=>by cases a),fun i hi=>absurd hi OW,fun _ k=>absurd k OW,fun k=>absurd k OW,fun _=>rfl,fun k=>by cases k⟩
theorem qZ{l:List Int}{x:Int}{i:Nat}(h:i<l.length):(l++[x]).getD i 0=l.getD i 0:=by
 rw[KR,KT h,←KR]
theorem q8{l:List Int}{x:Int}:(l++[x]).getD l.length 0=x:=by
 rw[KR,KU Pf];simp
theorem BackI.step(p:WyC g fr al up){h q:Nat}{out:List Int}(b:BackI g fr al up h q out)(n:0<q):∃a,a<q∧(up[q -1]'(by have:=b.hq;omega)).2=Aj up a∧BackI g fr al up h a (out++[(up[q -1]'(by have:=b.hq;omega)).1]):=by
 have hq:=b.hq;have d:q -1<up.length:=by omega
 have f:0≤up[q -1].1∧up[q -1].1<g.length:=p.rg _ (LU.2 ⟨_,Lb d,rfl⟩);have o:=b.len;have common:∀a (m:a<q),(∀(h1:0<a),up[q -1].1∈g.getD (up[a -1]'OS).1.toNat []∧al up[q -1].1.toNat=true)→(a=0→up[q -1].1∈fr)→BackI g fr al up h a (out++[up[q -1].1]):=by
  intro a m hn hf
  refine⟨by omega,b.hh,by simp;omega,fun x c=>?_,fun i hi=>?_,fun h1 _=>?_,fun _=>?_,fun k=>by simp at k,fun k=>⟨by simp,?_⟩⟩
  ·rcases LK.1 c with c|c
   ·exact b.rg x c
   ·rw[L0]at c;subst c;exact f
  ·simp at hi
   rw[qZ (i:=i) OS];by_cases e:i+1<out.length
   ·rw[qZ (i:=i+1) e];exact b.rv i e
   ·obtain e:i+1=out.length:=by omega
    rw[e,q8];have:=b.nx n OS;rw[show out.length -1=i by omega]at this
    exact this
  ·rw[show(out++[up[q -1].1]).length -1=out.length by simp,q8]
   exact hn h1
  ·by_cases e:0<out.length
   ·rw[qZ e];exact b.hd e
   ·have r:out.length=0:=by omega
    have s:=b.em r;have:(out++[up[q -1].1]).getD 0 0=up[q -1].1:=by
     have:=q8 (l:=out) (x:=up[q -1].1);rwa[r]at this
    rw[this]
    congr 2
    omega
  ·rw[show(out++[up[q -1].1]).length -1=out.length by simp,q8]
   exact hf k
 rcases p.par (q -1) d with⟨k1,k2⟩|⟨j,t,k1,k2,k3,k4⟩
 ·exact⟨0,n,by rw[k1];unfold Aj;rw[dif_neg OS],common 0 n (fun h1=>absurd h1 OS) (fun _=>k2)⟩
 ·refine⟨j+1,by omega,?_,common (j+1) OS (fun _=>⟨k3,k4⟩) (fun e=>by cases e)⟩
  rw[k2];unfold Aj;rw[Oo ⟨by omega,by omega⟩];rfl
theorem BackI.done(k:WyC g fr al up){h:Nat}{out:List Int}(b:BackI g fr al up h 0 out)(j:to (up[h]'b.hh).1.toNat=true):WyOK g fr to al out.reverse:=by
 have d:=b.len;have f:=k.len;have hh:=b.hh;have c:=(b.fn rfl).1;have a:∀i,i<out.length→out.reverse.getD i 0=out.getD (out.length -1 -i) 0:=fun i hi=>by
  rw[KR,List.getElem?_reverse hi,←KR]
 refine⟨by simpa using c,by rw[Lv];omega,fun x e=>b.rg x (List.mem_reverse.1 e),?_,fun i hi=>?_,?_⟩
 ·rw[a 0 c];exact(b.fn rfl).2
 ·rw[Lv]at hi
  rw[a _ hi,a i OS];have:=b.rv (out.length -1 -(i+1)) OS;rw[show out.length -1 -(i+1)+1=out.length -1 -i by omega]at this
  exact this
 ·rw[Lv,a _ OS,show out.length -1 -(out.length -1)=0 by omega,b.hd c];exact j
end
theorem vq{ps:List dg}{p:dg}(h:p∈ps):ps.idxOf p<ps.length:=(vl h).1
structure RunE(fit:dg→Bool)(next:dg→List dg)(start ps:List dg)(fr:List Int)(nx:List (List Int)):Prop where
 nd:ps.Nodup
 ok:∀p∈ps,fit p=true
 sm:∀p∈start,fit p=true→p∈ps
 sn:∀i,i∈fr↔∃p∈start,fit p=true∧i=(ps.idxOf p:Int)
 le:nx.length≤ps.length
 nm:∀n,n<nx.length→∀q∈next (ps.getD n (0,0)),fit q=true→q∈ps
 nn:∀n,n<nx.length→∀i,i∈nx.getD n []↔∃q∈next (ps.getD n (0,0)),fit q=true∧i=(ps.idxOf q:Int)
 rc:∀i:Nat,i<ps.length→(i:Int)∈fr∨∃m,m<i∧m<nx.length∧(i:Int)∈nx.getD m []
section
variable {fit:dg→Bool}{next:dg→List dg}{start ps:List dg}{fr:List Int}{nx:List (List Int)}
theorem RunE.init:RunE fit next start (CB fit start [] []).1 (CB fit start [] []).2 []:=by
 have k:=CC (fit:=fit) start [] [] List.Pairwise.nil;have a:∀p∈(CB fit start [] []).1,p∈start∧fit p=true:=fun p b=>(k.new p b).resolve_left (fun h=>by cases h)
 refine⟨k.nd,fun p b=>(a p b).2,k.all,fun i=>?_,Nc _,fun n hn=>absurd hn OW,fun n hn=>absurd hn OW,fun i hi=>.inl ?_⟩
 ·rw[k.num]
  exact⟨fun h=>h.resolve_left (fun h=>by cases h),.inr⟩
 ·rw[k.num]
  have c:=Lb hi;exact .inr ⟨_,(a _ c).1,(a _ c).2,by rw[k.nd.idxOf_getElem i hi]⟩
theorem RunE.step(h:RunE fit next start ps fr nx)(hn:nx.length<ps.length):
  RunE fit next start (CB fit (next (ps.getD nx.length (0,0))) ps []).1 fr (nx++[(CB fit (next (ps.getD nx.length (0,0))) ps []).2]):=by
 generalize s:next (ps.getD nx.length (0,0))=r
 have k:=CC (fit:=fit) r ps [] h.nd;generalize CB fit r ps []=q at*
 obtain⟨t,o⟩:=k.app;have j:∀p∈ps,p∈q.1:=fun p b=>by rw[o];exact LL _ b
 have a:∀p∈ps,q.1.idxOf p=ps.idxOf p:=fun p b=>by rw[o];exact vp b
 have u:q.1.length=ps.length+t.length:=by rw[o,Lk]
 have c:∀n,n<ps.length→q.1.getD n (0,0)=ps.getD n (0,0):=fun n hn=>by rw[o];exact qX hn
 have w:=h.le;refine⟨k.nd,fun p b=>(k.new p b).elim (h.ok p) (·.2),fun p b hf=>j p (h.sm p b hf),fun i=>?_,by rw[Lk];simp;omega,fun n d x l hf=>?_,fun n d i=>?_,fun i hi=>?_⟩
 ·rw[h.sn]
  constructor
  ·rintro⟨p,h1,h2,h3⟩;exact⟨p,h1,h2,by rw[a p (h.sm p h1 h2)];exact h3⟩
  ·rintro⟨p,h1,h2,h3⟩;exact⟨p,h1,h2,by rw[←a p (h.sm p h1 h2)];exact h3⟩
 ·simp at d
  rw[c n OS]at l
  by_cases e:n<nx.length
  ·exact j x (h.nm n e x l hf)
  ·obtain rfl:n=nx.length:=by omega
   rw[s]at l
   exact k.all x l hf
 ·simp at d
  rw[c n OS];by_cases e:n<nx.length
  ·rw[qX e,h.nn n e]
   constructor
   ·rintro⟨p,h1,h2,h3⟩;exact⟨p,h1,h2,by rw[a p (h.nm n e p h1 h2)];exact h3⟩
   ·rintro⟨p,h1,h2,h3⟩;exact⟨p,h1,h2,by rw[←a p (h.nm n e p h1 h2)];exact h3⟩
  ·obtain rfl:n=nx.length:=by omega
   rw[qW,s,k.num];exact⟨fun h=>h.resolve_left (fun h=>by cases h),.inr⟩
 ·by_cases e:i<ps.length
  ·rcases h.rc i e with h1|⟨m,h1,h2,h3⟩
   ·exact .inl h1
   ·exact .inr ⟨m,h1,by simp;omega,by rw[qX h2];exact h3⟩
  ·refine .inr ⟨nx.length,by omega,by simp,?_⟩
   rw[qW,k.num];have v:=Lb hi;have f:q.1[i]∉ps:=fun b=>by
    have h1:=a _ b;rw[k.nd.idxOf_getElem i hi]at h1
    have:=vq b;omega
   obtain⟨h1,h2⟩:=(k.new _ v).resolve_left f;exact .inr ⟨_,h1,h2,by rw[k.nd.idxOf_getElem i hi]⟩
variable(h:RunE fit next start ps fr nx)(hl:nx.length=ps.length)
include h hl
theorem RunE.okG:okG nx:=fun l a x b=>by
 obtain⟨n,hn,rfl⟩:=LT.1 a;rw[←show nx.getD n []=nx[n] by rw[KR,KX hn];rfl]at b
 obtain⟨q,h1,h2,rfl⟩:=(h.nn n hn x).1 b;have:=vq (h.nm n hn q h1 h2);omega
theorem RunE.okF:AG nx.length fr:=fun x a=>by
 obtain⟨q,h1,h2,rfl⟩:=(h.sn x).1 a;have:=vq (h.sm q h1 h2);omega
theorem RunE.reach:∀i:Nat,i<nx.length→∃a:Nat,(a:Int)∈fr∧Rc (Eg nx) a i:=fun i=>by
 induction i using Nat.strongRecOn with
 |ind i b=>
  intro hi
  rcases h.rc i OS with h1|⟨m,h1,h2,h3⟩
  ·exact⟨i,h1,Rc.refl i⟩
  ·obtain⟨a,d,c⟩:=b m h1 h2
   exact⟨a,d,c.trans (Rc.one h3)⟩
end
structure PWay(fit:dg→Bool)(next:dg→List dg)(start:List dg)(Ss:List (dg→Bool))(r:Nat→dg):Prop where
 first:r 0∈start
 fits:∀i,fit (r i)=true
 step:∀i,r (i+1)∈next (r i)
 fair:∀S∈Ss,∀i,∃j,i≤j∧S (r j)=true
def Fg(Ss:List (dg→Bool))(ps:List dg):List (List Bool):=Ss.map fun S=>ps.map S
def bT(g:bU)(part:List Int)(sets:List (List Bool))(c:Int):Prop:=
 (∃u,u<g.length∧part.getD u 0=c∧∃to∈g.getD u [],part.getD to.toNat 0=c)∧∀S∈sets,∃x,x<g.length∧S.getD x false=true∧part.getD x 0=c
abbrev Fd(sets:List (List Bool)):List (Nat→Prop):=sets.map fun S x=>S.getD x false=true
theorem rK{g:bU}{part:List Int}{sets:List (List Bool)}(b:okG g)(a:PartsOK g part){i:Nat}(hi:i<g.length):aM (Eg g) (Fd sets) i↔bT g part sets (part.getD i 0):=by
 rw[lk b a hi];unfold bT;refine N_ fun _=>⟨fun h S hS=>?_,fun h P hP=>?_⟩
 ·obtain⟨x,h1,h2,h3⟩:=h _ (LU.2 ⟨S,hS,rfl⟩)
  exact⟨x,h1,h2,h3⟩
 ·obtain⟨S,hS,rfl⟩:=LU.1 hP
  obtain⟨x,h1,h2,h3⟩:=h S hS;exact⟨x,h1,h2,h3⟩
theorem Fh{S:dg→Bool}{ps:List dg}{x:Nat}(a:x<ps.length):(ps.map S).getD x false=S (ps.getD x (0,0)):=by
 rw[KR,K0,KX a,KR,KX a];rfl
section
variable {fit:dg→Bool}{next:dg→List dg}{start ps:List dg}{fr:List Int}{nx:List (List Int)}{Ss:List (dg→Bool)}{part:List Int}
theorem CF(h:RunE fit next start ps fr nx)(hl:nx.length=ps.length){r:Nat→dg}(a:PWay fit next start Ss r):∀i,r i∈ps
 |0=>h.sm _ a.first (a.fits 0)
 |i+1=>by
  have h1:=CF h hl a i;have h2:=vl h1;refine h.nm (ps.idxOf (r i)) OS _ ?_ (a.fits (i+1));rw[h2.2];exact a.step i
theorem CE(h:RunE fit next start ps fr nx)(hl:nx.length=ps.length)(k:PartsOK nx part):
  (∃r,PWay fit next start Ss r)↔∃c:Int,0≤c∧c<nx.length∧bT nx part (Fg Ss ps) c:=by
 have w:=h.okG hl;constructor
 ·rintro⟨r,e⟩
  have d:=CF h hl e;have A:Way8 (Eg nx) (Fd (Fg Ss ps)) (fun i=>ps.idxOf (r i)):=by
   refine⟨fun i=>?_,fun P hP i=>?_⟩
   ·have h2:=vl (d i)
    refine(h.nn (ps.idxOf (r i)) OS _).2 ⟨r (i+1),?_,e.fits _,rfl⟩;rw[h2.2];exact e.step i
   ·obtain⟨L,z,rfl⟩:=LU.1 hP
    obtain⟨S,hS,rfl⟩:=LU.1 z;obtain⟨j,h1,h2⟩:=e.fair S hS i;have h3:=vl (d j);refine⟨j,h1,?_⟩;show(ps.map S).getD (ps.idxOf (r j)) false=true;rw[Fh h3.1,h3.2];exact h2
  obtain⟨v,_,m,i,hi⟩:=IE (N:=ps.length) (fun i=>vq (d i)) A;have o:v<nx.length:=by have:=vq (d i);omega
  exact⟨part.getD v 0,k.ge v (by rw[k.len];exact o),k.lt v (by rw[k.len];exact o),(rK w k o).1 m⟩
 ·rintro⟨c,_,_,m⟩
  obtain⟨u,x,s,_⟩:=m.1;rw[←s]at m
  have f:=(rK w k x).2 m;obtain⟨a,y,t⟩:=h.reach hl u x;obtain⟨r,l,e⟩:=lq t f;have b:∀i,r i<nx.length:=fun i=>by
   cases i with
   |zero=>rw[l];have:=h.okF hl _ y;omega
   |succ i=>exact(e.1 i).lt w
  refine⟨fun i=>ps.getD (r i) (0,0),?_,fun i=>h.ok _ (qY (by have:=b i;omega)),fun i=>?_,fun S hS i=>?_⟩
  ·rw[l]
   obtain⟨p,h1,h2,h3⟩:=(h.sn _).1 y;have h4:=vl (h.sm p h1 h2);rw[show a=ps.idxOf p by omega,h4.2];exact h1
  ·obtain⟨q,h1,h2,h3⟩:=(h.nn (r i) (b i) _).1 (e.1 i)
   have h4:=vl (h.nm (r i) (b i) q h1 h2);rw[show r (i+1)=ps.idxOf q by omega,h4.2];exact h1
  ·obtain⟨j,h1,h2⟩:=e.2 _ (LU.2 ⟨ps.map S,LU.2 ⟨S,hS,rfl⟩,rfl⟩) i
   refine⟨j,h1,?_⟩;rw[Fh (by have:=b j;omega)]at h2
   exact h2
end
theorem BG{g:bU}{part:List Int}(d:okG g)(m:PartsOK g part){C:List Int}{c:Int}(t:∀x∈C,∀k∈g.getD x.toNat [],part.getD k.toNat 0=c→k∈C)
  {u v:Nat} (e:u<g.length) (q:v<g.length) (pu:part.getD u 0=c) (pv:part.getD v 0=c) (h:(u:Int)∈C):(v:Int)∈C:=by
 have s:∀u v,Eg g u v→v<g.length:=fun u v h=>h.lt d
 obtain⟨h1,h2⟩:=(m.same u v e q).1 (pu.trans pv.symm);rw[CK d]at h1 h2
 obtain⟨p,n,a⟩:=h1;have b:∀i,i≤n→Rc (Eg g) u (p i)∧Rc (Eg g) (p i) v:=fun i hi=>
  ⟨⟨p,i,a.first,rfl,fun j r=>a.step j OS⟩,⟨fun j=>p (i+j),n -i,by simp,by rw[show i+(n -i)=n by omega];exact a.last,fun j r=>a.step (i+j) OS⟩⟩
 have l:∀i,i≤n→p i<g.length:=fun i hi=>Rc.lt s e (b i hi).1
 have f:∀i,i≤n→part.getD (p i) 0=c:=fun i hi=>by
  rw[←pu];refine((m.same (p i) u (l i hi) e).2 ?_);rw[CK d,CK d];exact⟨(b i hi).2.trans h2,(b i hi).1⟩
 have:∀i,i≤n→((p i:Nat):Int)∈C:=fun i=>by
  induction i with
  |zero=>intro _;rw[a.first];exact h
  |succ i o=>
   intro hi
   refine t _ (o OS) _ ?_ (by rw[Kd];exact f _ hi);rw[Kd];exact a.step i OS
 have h3:=this n Pf;rwa[a.last]at h3
theorem fT{part:List Int}{c:Int}(a:0≤c){k:Nat}:fS part c k=true↔part.getD k 0=c:=by
 unfold fS;simp;omega
theorem IG{g:bU}{part:List Int}(l:okG g)(i:PartsOK g part){c:Int}(m:0≤c){fr:List Int}{to:Nat→Bool}{u x:Nat}(e:u<g.length)(d:x<g.length)(pu:part.getD u 0=c)(px:part.getD x 0=c)(hf:(u:Int)∈fr)(f:to x=true):
  ¬fI g fr to (fS part c):=by
 rintro⟨C,h1,h2⟩
 have:=BG l i (C:=C) (c:=c) (fun y b k j a=>(h2 y b).2 k j ((fT m).2 a)) e d pu px (h1 _ hf);have h3:=(h2 _ this).1;rw[Kd,f]at h3
 cases h3
theorem IF{g:bU}{part fr:List Int}{to:Nat→Bool}{x a:Nat}(f:(a:Int)∈fr)(e:Rc (Eg g) a x)(d:to x=true):¬fI g fr to (fS part (-1)):=by
 rintro⟨C,h1,h2⟩
 obtain⟨p,n,b⟩:=e;have:∀i,i≤n→((p i:Nat):Int)∈C:=fun i=>by
  induction i with
  |zero=>intro _;rw[b.first];exact h1 _ f
  |succ i c=>
   intro hi
   exact(h2 _ (c OS)).2 _ (by rw[Kd];exact b.step i OS) (by unfold fS;simp)
 have h3:=this n Pf;rw[b.last]at h3
 have h4:=(h2 _ h3).1;rw[Kd,d]at h4
 cases h4
structure RoI(g:bU)(part:List Int)(n:Nat)(seen:List (List Bool))(out:List Int):Prop where
 ne:0<out.length
 len:out.length≤1+seen.length*g.length
 rg:AG g.length out
 pt:∀x∈out,part.getD x.toNat 0=part.getD n 0
 st:out.getD 0 0=(n:Int)
 ed:∀i,i+1<out.length→out.getD (i+1) 0∈g.getD (out.getD i 0).toNat []
 all:∀S∈seen,∃x∈out,S.getD x.toNat false=true
structure RoOK(g:bU)(n:Nat)(sets:List (List Bool))(out:List Int):Prop where
 ne:0<out.length
 len:out.length≤1+(sets.length+1)*g.length
 rg:AG g.length out
 st:out.getD 0 0=(n:Int)
 ed:∀i,i+1<out.length→out.getD (i+1) 0∈g.getD (out.getD i 0).toNat []
 cl:(n:Int)∈g.getD (out.getD (out.length -1) 0).toNat []
 all:∀S∈sets,∃x∈out,S.getD x.toNat false=true
section
variable {g:bU}{part:List Int}{n:Nat}{seen:List (List Bool)}{out:List Int}
theorem RoI.start(hn:n<g.length):RoI g part n [] [(n:Int)]:=
 ⟨by simp,by simp,fun x a=>by rw[L0]at a;subst a;omega,fun x a=>by rw[L0]at a;subst a;simp,rfl,fun i hi=>by simp at hi,fun S hS=>by cases hS⟩
theorem RoI.skip(h:RoI g part n seen out){S:List Bool}(hS:∃x∈out,S.getD x.toNat false=true):RoI g part n (seen++[S]) out:=
 ⟨h.ne,by have:=h.len;rw[Lk,Mv];omega,h.rg,h.pt,h.st,h.ed,fun S' a=>by
  rcases LK.1 a with h1|h1
  ·exact h.all S' h1
  ·rw[L0]at h1;subst h1;exact hS⟩
theorem rr{l k:List Int}{i:Nat}(h:i<l.length):(l++k).getD i 0=l.getD i 0:=qX h
theorem rs{l k:List Int}{i:Nat}(h:l.length≤i):(l++k).getD i 0=k.getD (i -l.length) 0:=by
 rw[KR,KU h,←KR]
theorem rt{l:List Int}{i:Nat}:(l.drop 1).getD i 0=l.getD (i+1) 0:=by
 rw[KR,KW,←KR,Mu]
theorem Jn{fr:List Int}{to:Nat→Bool}{c:Int}{l:List Int}(b:0≤c)(h:WyOK g fr to (fS part c) l)(hf:∀x∈fr,part.getD x.toNat 0=c):∀x∈l,part.getD x.toNat 0=c:=fun x a=>by
 obtain⟨i,hi,rfl⟩:=LT.1 a;have e:l[i]=l.getD i 0:=by rw[KR,KX hi];rfl
 rw[e];cases i with
 |zero=>exact hf _ h.st
 |succ i=>exact(fT b).1 (h.ed i hi).2
theorem RoI.go(h:RoI g part n seen out)(q:0≤part.getD n 0){S:List Bool}{l:List Int}(hl:WyOK g [out.getD (out.length -1) 0] (fun k=>S.getD k false) (fS part (part.getD n 0)) l):RoI g part n (seen++[S]) (out++l.drop 1):=by
 have d:=h.ne;have p:=hl.ne;have b:l.getD 0 0=out.getD (out.length -1) 0:=by simpa using hl.st
 have c:out.getD (out.length -1) 0∈out:=by rw[KR,KX OS];exact Lb _
 have f:=Jn q hl (fun x a=>by rw[L0]at a;subst a;exact h.pt _ c);have j:(l.drop 1).length=l.length -1:=Lm;refine⟨by rw[Lk];omega,?_,fun x a=>?_,fun x a=>?_,by rw[rr d];exact h.st,fun i hi=>?_,fun S' m=>?_⟩
 ·have:=h.len;have:=hl.len
  rw[Lk,Lk,Lm,Mv];simp;omega
 ·rcases LK.1 a with a|a
  ·exact h.rg x a
  ·exact hl.rg x (LX a)
 ·rcases LK.1 a with a|a
  ·exact h.pt x a
  ·exact f x (LX a)
 ·rw[Lk,j]at hi
  by_cases e:i+1<out.length
  ·rw[rr e,rr OS];exact h.ed i e
  ·rw[rs (i:=i+1) OS,rt]
   by_cases r:i<out.length
   ·obtain rfl:i=out.length -1:=by omega
    rw[rr r,←b,show out.length -1+1 -out.length+1=0+1 by omega];exact(hl.ed 0 OS).1
   ·rw[rs (i:=i) OS,rt,show i+1 -out.length+1=(i -out.length+1)+1 by omega]
    exact(hl.ed _ OS).1
 ·rcases LK.1 m with h1|h1
  ·obtain⟨x,a,o⟩:=h.all S' h1
   exact⟨x,LL _ a,o⟩
  ·rw[L0]at h1;subst h1
   by_cases e:l.length=1
   ·refine⟨_,LL _ c,?_⟩
    have:=hl.en;rw[e]at this
    rw[←b];exact this
   ·refine⟨l.getD (l.length -1) 0,LM _ ?_,hl.en⟩
    rw[LT];refine⟨l.length -2,by omega,?_⟩;rw[K_,KR,KX OS];simp only[Nk]
    congr 1
    omega
theorem RoI.close(h:RoI g part n seen out){fr:List Int}{al:Nat→Bool}{l:List Int}(hf:∀x∈fr,x∈g.getD (out.getD (out.length -1) 0).toNat [])(hl:WyOK g fr (fun k=>decide (k=n)) al l):RoOK g n seen (out++l.take (l.length -1)):=by
 have j:=h.ne;have o:=hl.ne;have d:=hf _ hl.st;have b:(l.take (l.length -1)).length=l.length -1:=by rw[Lz];omega
 have c:∀i,i<l.length -1→(l.take (l.length -1)).getD i 0=l.getD i 0:=fun i hi=>by
  rw[KR,K5 hi,←KR]
 have f:l.getD (l.length -1) 0=(n:Int):=by
  have h1:=hl.en;have h2:0≤l.getD (l.length -1) 0:=by
   rw[KR,KX OS];exact(hl.rg _ (Lb OS)).1
  simp only[Om]at h1
  omega
 refine⟨by rw[Lk];omega,?_,fun x a=>?_,by rw[rr j];exact h.st,fun i hi=>?_,?_,fun S hS=>?_⟩
 ·have:=h.len;have:=hl.len
  rw[Lk,b,Mv];omega
 ·rcases LK.1 a with a|a
  ·exact h.rg x a
  ·exact hl.rg x (LY a)
 ·rw[Lk,b]at hi
  by_cases e:i+1<out.length
  ·rw[rr e,rr OS];exact h.ed i e
  ·rw[rs (i:=i+1) OS,c _ OS]
   by_cases p:i<out.length
   ·obtain rfl:i=out.length -1:=by omega
    rw[rr p,show out.length -1+1 -out.length=0 by omega];exact d
   ·rw[rs (i:=i) OS,c _ OS,show i+1 -out.length=(i -out.length)+1 by omega]
    exact(hl.ed _ OS).1
 ·rw[Lk,b]
  by_cases e:l.length=1
  ·rw[rr OS,show out.length+(l.length -1) -1=out.length -1 by omega]
   rw[←f,e];exact d
  ·rw[rs OS,c _ OS,show out.length+(l.length -1) -1 -out.length=l.length -2 by omega,←f]
   have:=(hl.ed (l.length -2) OS).1;rwa[show l.length -2+1=l.length -1 by omega]at this
 ·obtain⟨x,a,m⟩:=h.all S hS
  exact⟨x,LL _ a,m⟩
end

def jQ(n:Nat)(l:List Int):Bool:=decide (l.length=0)||An n l
def j7(st:List Int)(nx:List (List Int))(k:Nat)(fr:List (List Int)):Int:=
 if nx.length>600∨fr.length>80 then 2 else if k≠nx.length∨An nx.length st=true then 1 else if nx.any (jQ nx.length)=true then 1 else if fr.any (An nx.length)=true then 1 else 0
theorem j8{st:List Int}{nx:List (List Int)}{k:Nat}{fr:List (List Int)}(h:j7 st nx k fr=0):nx.length≤600∧fr.length≤80∧k=nx.length∧AG nx.length st∧(∀l∈nx,0<l.length∧AG nx.length l)∧∀l∈fr,AG nx.length l:=by
 unfold j7 at h
 split at h
 ·cases h
 split at h
 ·cases h
 split at h
 ·cases h
 split at h
 ·cases h
 rename_i h1 h2 h3 h4;refine⟨by omega,by omega,?_,?_,?_,?_⟩
 ·by_cases e:k=nx.length
  ·exact e
  ·exact absurd (.inl e) h2
 ·rw[←oddB_false]
  cases e:An nx.length st
  ·rfl
  ·exact absurd (.inr e) h2
 ·intro l a
  have h3:nx.any (jQ nx.length)=false:=by simpa using h3
  rw[Kh]at h3
  have:=h3 l a;simp only[jQ,JX,Om,Oz,JS]at this
  exact⟨by omega,oddB_false.1 this.2⟩
 ·intro l a
  have h4:fr.any (An nx.length)=false:=by simpa using h4
  rw[Kh]at h4
  exact oddB_false.1 (by simpa using h4 l a)
def Hb(al l:List Int)(i:Nat):Int:=if i+1<al.length then al.getD (i+1) 0 else l.getD 0 0
def F8(nx:List (List Int))(al l:List Int)(i:Nat):Bool:=(nx.getD (al.getD i 0).toNat []).contains (Hb al l i)
def rG(st:List Int)(nx fr:List (List Int))(al l:List Int):Bool:=
 st.contains (al.getD 0 0)&&(List.range al.length).all (F8 nx al l)&&fr.all (fun f=>f.any (fun x=>l.contains x))
theorem vV{n:Nat}{l:List Int}(h:AG n l):(l.map Int.toNat).map Int.ofNat=l:=by
 rw[LG]
 conv=>rhs;rw[←List.map_id l]
 refine LD fun x a=>?_
 have:=h x a;show Int.ofNat x.toNat=x;have h2:(x.toNat:Int)=x:=Ke OS;exact h2
theorem re{l:List Nat}{i:Nat}(h:i<l.length):(l.map Int.ofNat).getD i 0=((l.getD i 0:Nat):Int):=by
 rw[KR,K0,KX h,KR,KX h];rfl
theorem f_{s l:List Nat}{i:Nat}(h:i<(s++l).length):(((s++l).map Int.ofNat).getD i 0)=(xu s l i:Int):=by
 rw[re h];unfold xu;rw[Lk]at h
 by_cases h1:i<s.length
 ·rw[Ov h1,KR,KT h1,←KR]
 ·rw[Ou h1,KR,KU OS,←KR,MT OS]
def mW(nx:List (List Int))(s l:List Nat)(i:Nat):Bool:=(nx.getD (xu s l i) []).contains ((xu s l (i+1):Nat):Int)
theorem F9{nx:List (List Int)}{s l:List Nat}(a:0<l.length){i:Nat}(h:i<(s++l).length):F8 nx ((s++l).map Int.ofNat) (l.map Int.ofNat) i=mW nx s l i:=by
 unfold F8 mW;have b:Hb ((s++l).map Int.ofNat) (l.map Int.ofNat) i=((xu s l (i+1):Nat):Int):=by
  unfold Hb;rw[Lq];by_cases h1:i+1<(s++l).length
  ·rw[Ov h1,f_ h1]
  ·rw[Ou h1,re a]
   have e:i+1=s.length+l.length:=by rw[Lk]at h h1;omega
   rw[e];unfold xu;rw[Ou OS,My,Nat.mod_self]
 rw[b,f_ h];rfl
theorem m8{nx:List (List Int)}{s l:List Nat}(b:0<l.length):(List.range ((s++l).map Int.ofNat).length).all (F8 nx ((s++l).map Int.ofNat) (l.map Int.ofNat))=true↔∀i,mW nx s l i=true:=by
 rw[Kf,Lq];constructor
 ·intro h i
  have c:=MU (i -s.length) b;have key:∀j,j<(s++l).length→mW nx s l j=true:=fun j a=>by rw[←F9 b a];exact h j (LZ.2 a)
  rw[Lk]at key
  by_cases h1:i<s.length
  ·exact key i OS
  ·have a:=key (s.length+(i -s.length) % l.length) OS
   have one:∀k,s.length≤k→xu s l k=l.getD ((k -s.length) % l.length) 0:=fun k f=>by unfold xu;rw[Ou OS]
   unfold mW at a⊢
   rw[one _ OS,one _ OS]at a⊢
   have e:(s.length+(i -s.length) % l.length -s.length) % l.length=(i -s.length) % l.length:=by rw[My,Nat.mod_mod]
   have d:(s.length+(i -s.length) % l.length+1 -s.length) % l.length=(i+1 -s.length) % l.length:=by
    have:s.length+(i -s.length) % l.length+1 -s.length=(i -s.length) % l.length+1:=by omega
    rw[this];have:i+1 -s.length=(i -s.length)+1:=by omega
    rw[this,Nat.mod_add_mod]
   rw[e,d]at a
   exact a
 ·intro h i hi
  rw[F9 b (LZ.1 hi)];exact h i
def xi(lb:List Nat)(l:List Int):List Nat:=l.map fun x=>lb.getD x.toNat 0
def rN{α:Type}(N:Nat)(full:Nat→List α)(x0:Nat)(part:List α):List (List α):=(List.range N).map fun x=>if x<x0 then full x else if x=x0 then part else []
section
variable {α:Type}{N:Nat}{full:Nat→List α}{x0:Nat}{part:List α}
theorem rR:(rN N full x0 part).length=N:=by simp[rN]
theorem rU:rN N full 0 []=List.replicate N []:=by
 unfold rN;refine KE OW fun i h1 h2=>?_
 simp
theorem rQ(h:x0<N):(rN N full x0 part)[x0]'(by rw[rR];exact h)=part:=by simp[rN]
theorem rT{part':List α}(h:x0<N):(rN N full x0 part).set x0 part'=rN N full x0 part':=by
 refine KE (by simp[rR]) fun i h1 h2=>?_
 rw[Le];by_cases e:x0=i
 ·subst e;rw[Ov rfl,rQ h]
 ·rw[Ou e]
  simp only[rN,La,Lc];split
  ·rfl
  ·rw[Ou (Nf e),Ou (Nf e)]
theorem rS:rN N full x0 (full x0)=rN N full (x0+1) []:=by
 unfold rN;refine KE OW fun i h1 h2=>?_
 simp only[La,Lc];by_cases h:i<x0
 ·rw[Ov h,Ov OS]
 ·rw[Ou h]
  by_cases e:i=x0
  ·subst e;rw[Ov rfl,Ov OS]
  ·rw[Ou e,Ou OS]
   split<;>rfl
theorem rP:rN N full N []=(List.range N).map full:=by
 unfold rN;refine KE OW fun i h1 h2=>?_
 simp only[La,Lc];rw[Ov (by simpa using h1)]
end
theorem kB(w0:World){F:Nat→Prop}{ao:Option Addr}{cap:Nat}{xs:List Nat}(a:Sl w0 F ao cap xs)(hF:∀b,F b→b<w0.heap.size)(j:xs.length*8≤140737488355328):
  Rt Tryz.prog 48 [.slice ao xs.length cap].toArray w0 fun v w'=>Own w' w0.heap.size 95 c7 v xs∧Ext w0 w':=by
 have n:=a.len63;refine dG Tryz.func48 Tryz.ntmps48 rfl rfl ?_;refine Qi ?_;apply CW.cond rfl<;>intro h
 ·refine P7 ?_
  refine be rfl rfl ⟨?_,Ext.refl _⟩;have l:ao=none:=by simpa using h
  have:xs=[]:=KD (by have:=a.nil l;have:=a.le;omega);subst this;exact Own.nil
 ·refine P1 ?_
  refine eT (α:=Nat) rfl rfl (fun f e i=>?_);refine QO ?_;have c:Ext w0 f:=(JJ _ _).grown i Pf O_;refine WL.app (F:=c7) rfl rfl rfl rfl e (a.up0 c hF).srcN c.size O6 (by simp[maxLen];omega) (by simpa using j) (fun v m ho2 d _=>?_);refine Pr ?_;refine be rfl rfl ⟨by simpa using ho2,c.grown d c.size ?_⟩;intro k g
  exact(e.lt k g).1
abbrev cF:=List Int×List (List Int)×List Nat×List Nat×List (List Int)
abbrev gP(a1:Option Addr)(c1:Nat)(a2:Option Addr)(c2:Nat)(a3:Option Addr)(c3:Nat)(a4:Option Addr)(c4:Nat)(f:Option Addr)(e:Nat)(n1 d c b a:Nat):Value:=.agg [.slice a1 n1 c1,.slice a2 d c2,.slice a3 c c3,.slice a4 b c4,.slice f a e].toArray
structure AutoAt(w:World)(F:Nat→Prop)(v:Value)(A:cF):Prop where
 ok:∃a1 c1 a2 c2 a3 c3 a4 c4 a5 c5,v=gP a1 c1 a2 c2 a3 c3 a4 c4 a5 c5 A.1.length A.2.1.length A.2.2.1.length A.2.2.2.1.length A.2.2.2.2.length∧Sl w F a1 c1 A.1∧Sl w F a2 c2 A.2.1∧Sl w F a3 c3 A.2.2.1∧Sl w F a4 c4 A.2.2.2.1∧Sl w F a5 c5 A.2.2.2.2
def jp(A:cF):Int:=
 if A.2.1.length>2048∨A.2.2.2.2.length>80 then 2 else if A.2.2.1.length≠A.2.1.length∨A.2.2.2.1.length≠A.2.1.length∨An A.2.1.length A.1=true then 1
 else if A.2.1.any (An A.2.1.length)=true∨A.2.2.2.2.any (An A.2.1.length)=true then 1 else 0
structure OkA(A:cF):Prop where
 n:A.2.1.length≤2048
 f:A.2.2.2.2.length≤80
 mu:A.2.2.1.length=A.2.1.length
 no:A.2.2.2.1.length=A.2.1.length
 st:AG A.2.1.length A.1
 nx:∀r∈A.2.1,AG A.2.1.length r
 fr:∀r∈A.2.2.2.2,AG A.2.1.length r
theorem any_odd{n:Nat}{g:List (List Int)}:g.any (An n)=false↔∀r∈g,AG n r:=by
 rw[Kh];refine forall_congr' fun r=>forall_congr' fun _=>?_
 rw[←oddB_false,JS]
theorem jr{A:cF}(h:jp A=0):OkA A:=by
 unfold jp at h
 split at h
 ·cases h
 split at h
 ·cases h
 split at h
 ·cases h
 rename_i h1 h2 h3;rw[Oz]at h1 h2 h3
 rw[Oz]at h2
 exact⟨by omega,by omega,by omega,by omega,oddB_false.1 (by simpa using h2.2.2),any_odd.1 (by simpa using h3.1),any_odd.1 (by simpa using h3.2)⟩
theorem jq{A:cF}(h:OkA A):jp A=0:=by
 unfold jp;have a:=oddB_false.2 h.st;have b:=any_odd.2 h.nx;have c:=any_odd.2 h.fr;have d:=h.mu;have e:=h.no;rw[Ou (by have:=h.n;have:=h.f;omega),Ou (by rw[a];simp;omega),Ou (by rw[b,c];simp)]
theorem gp(n:Nat)(x:Int)(b:Nat)(w:World)(a:Blk w b 3 [Pj n]):
  Rt Tryz.prog 210 [Pj x,Pk b].toArray w fun v w'=>v=.bool (decide (x<0∨x≥n))∧w=w':=by
 refine dH Tryz.func210 Tryz.ntmps210 rfl rfl ?_;refine Qw ?_;refine eW (s:=6) rfl (fun h=>?_) (fun h=>?_)
 ·refine Pt ?_
  refine be rfl rfl ?_;simp at h
  simp[h]
 ·refine Qn ?_
  refine be rfl rfl ?_;simp at h
  simp[Kb.2 h]
theorem gq(w0:World){lo:Option Addr}{lcap:Nat}{l:List Int}(n:Nat)(d:Sl w0 (c9 w0) lo lcap l):
  Rt Tryz.prog 154 [.slice lo l.length lcap,Pj n].toArray w0 fun v w'=>v=.bool (An n l)∧Ext w0 w':=by
 refine dH Tryz.func154 Tryz.ntmps154 rfl rfl ?_;refine Pm ?_;refine dZ rfl rfl rfl fun b e a=>?_
 refine PK ?_;refine WL.call rfl rfl rfl (k7 b (fun x=>decide (x<0∨x≥n)) (d.up a) (fun w c i h=>?_)) ?_
 ·refine FnV.mk (Rt.mono (gp n _ _ w (e.ext c)) ?_)
  rintro v w' ⟨rfl,rfl⟩
  exact⟨rfl,Ext.refl _⟩
 ·rintro v w' ⟨rfl,f⟩
  refine Pr ?_;exact be rfl rfl ⟨rfl,a.trans f⟩
theorem fK(w:World){lo:Option Addr}{lcap:Nat}{l:List Int}(n:Nat)(b:Nat)(d:Blk w b 3 [Pj n])(a:Sl w (c9 w) lo lcap l):
  Rt Tryz.prog 155 [.slice lo l.length lcap,Pk b].toArray w fun v w'=>v=.bool (An n l)∧Ext w w':=by
 refine dH Tryz.func155 Tryz.ntmps155 rfl rfl ?_;refine QE ?_;refine WL.call rfl rfl rfl (gq w n a) ?_;rintro _ w' ⟨rfl,c⟩
 refine Pr ?_;exact be rfl rfl ⟨rfl,c⟩
theorem fL(w:World){lo:Option Addr}{lcap:Nat}{l:List Int}(n:Nat)(b:Nat)(d:Blk w b 3 [Pj n])(a:Sl w (c9 w) lo lcap l):
  Rt Tryz.prog 156 [.slice lo l.length lcap,Pk b].toArray w fun v w'=>v=.bool (An n l)∧Ext w w':=by
 refine dH Tryz.func156 Tryz.ntmps156 rfl rfl ?_;refine QE ?_;refine WL.call rfl rfl rfl (gq w n a) ?_;rintro _ w' ⟨rfl,c⟩
 refine Pr ?_;exact be rfl rfl ⟨rfl,c⟩
theorem fJ(w0:World){t:Value}{A:cF}(N:AutoAt w0 (c9 w0) t A):
  Rt Tryz.prog 86 [t].toArray w0 fun v w'=>v=Pj (jp A)∧Ext w0 w':=by
 obtain⟨a1,c1,a2,c2,a3,c3,a4,c4,T,S,rfl,h1,h2,h3,h4,z⟩:=N.ok;obtain⟨st,nx,mu,no,fr⟩:=A;dsimp only at*
 have K:=h2.len63;have J:=h3.len63;have I:=h4.len63;have H:=z.len63;refine dG Tryz.func86 Tryz.ntmps86 rfl rfl ?_;have a:=Ext.refl w0;refine Pm ?_;refine dZ rfl rfl rfl fun Q c C=>?_
 have a:=a.trans C;have D:=C.size;have L:=c.lt;refine QH ?_;refine WL.alloc rfl rfl (fun P d B=>?_);have c:=c.ext B;have a:=a.trans B;skip;refine WL.st rfl rfl rfl d rfl rfl Pd (fun s d j=>?_);have c:=c.kept j OZ;have a:Ext w0 s:=a.grown j a.size (fun g M=>by cases M;exact D);unfold jp;dsimp only;refine QE ?_
 (refine eX rfl rfl (fun h=>?_) (fun h=>?_))
 ·refine Qr ?_
  skip;refine be rfl rfl ⟨?_,a⟩;simp at h
  rw[Ov (.inl OS)]
 refine PY ?_;refine CW.cond rfl (fun e=>?_) (fun e=>?_)
 ·refine P7 ?_
  refine be rfl rfl ⟨?_,a⟩;simp at e
  rw[Ov (.inr OS)]
 simp at h e
 rw[Ou OS];clear h e;refine Qg ?_
 (refine eX rfl rfl (fun h=>?_) (fun h=>?_))
 ·simp at h
  refine Qr ?_;refine be rfl rfl ⟨?_,a⟩;rw[Ov (.inl OS)]
 simp at h
 have R:=h;clear h;refine QX ?_
 (refine eX rfl rfl (fun h=>?_) (fun h=>?_))
 ·have k:=h
  simp at k
  refine Qr ?_;refine be rfl rfl ⟨?_,a⟩;rw[Ov (.inr (.inl OS))]
 have k:=h;simp at k
 refine QV ?_;refine WL.call rfl rfl rfl (gq s nx.length (h1.up a)) ?_;rintro _ F ⟨rfl,r⟩
 have c:=c.ext r;have d:=d.ext r;have a:=a.trans r;refine Pv ?_;apply CW.cond rfl<;>intro y
 ·refine P7 ?_
  refine be rfl rfl ⟨?_,a⟩;rw[Ov (.inr (.inr y))]
 rw[Ou (by rw[y];simp;omega)];refine QG ?_;refine WL.call rfl rfl rfl (k8 F (An nx.length) (h2.up a) (fun w f i hi u l=>?_)) ?_
 ·obtain⟨lo,G,rfl,m⟩:=l.sl
  exact FnV.mk (Rt.mono (fK w nx.length _ (d.ext f) (m.lift fun b n=>MQ n f.size)) fun v w' h=>h)
 rintro _ E ⟨rfl,q⟩
 have c:=c.ext q;have d:=d.ext q;have a:=a.trans q;refine QO ?_
 (refine eX rfl rfl (fun h=>?_) (fun h=>?_))
 ·have o:=h
  refine Qr ?_;refine be rfl rfl ⟨?_,a⟩;rw[Ov (.inl o)]
 have o:=h;refine QX ?_;refine WL.call rfl rfl rfl (k8 E (An nx.length) (z.up a) (fun w f i hi u l=>?_)) ?_
 ·obtain⟨lo,G,rfl,m⟩:=l.sl
  exact FnV.mk (Rt.mono (fL w nx.length _ (d.ext f) (m.lift fun b n=>MQ n f.size)) fun v w' h=>h)
 rintro _ O ⟨rfl,p⟩
 have c:=c.ext p;have d:=d.ext p;have a:=a.trans p;refine Pv ?_;apply CW.cond rfl<;>intro x
 ·refine P7 ?_
  refine be rfl rfl ⟨?_,a⟩;rw[Ov (.inr x)]
 refine Qd ?_;refine be rfl rfl ⟨?_,a⟩;rw[Ou (by rw[o,x];simp)]
theorem qT{l:List Nat}{k:Nat}(h:k<l.length):l.getD k 0=l[k]:=by rw[KR,KX h];rfl
theorem bL(w0:World){a1 a2 a3 a4 r:Option Addr}{c1 c2 c3 c4 p n1 o n:Nat}{mu no:List Nat}(h3:Sl w0 (c9 w0) a3 c3 mu)(h4:Sl w0 (c9 w0) a4 c4 no)(k x:Nat)(g:k<mu.length)(b:k<no.length)(j:x<18446744073709551616):
  Rt Tryz.prog 211 [gP a1 c1 a2 c2 a3 c3 a4 c4 r p n1 o mu.length no.length n,Pj (k:Int),.int .u64 (x:Int)].toArray w0 fun v w'=>v=.bool (pI mu no k x)∧Ext w0 w':=by
 refine dI Tryz.func211 Tryz.ntmps211 rfl rfl ?_;refine Pm ?_;refine dZ rfl rfl rfl fun s t c=>?_
 have h3:=h3.up c;have h4:=h4.up c;refine QJ ?_;refine dn rfl rfl rfl rfl rfl O8 h3 g O3 (fun u q a=>?_);obtain⟨rfl,f⟩:=a.u64;refine Q0 ?_;rw[Od _ _ j f];refine dn rfl rfl rfl rfl rfl O8 h3 g O3 (fun u m a=>?_);obtain⟨rfl,_⟩:=a.u64;refine QP ?_;unfold pI;rw[qT g,qT b]
 (refine dw rfl rfl (fun h=>?_) (fun h=>?_))
 ·simp only[Ob]at h
  have h:x&&&mu[k]=mu[k]:=by exact_mod_cast h
  rw[Ol h,J0];refine Q0 ?_;refine dn rfl rfl rfl rfl rfl O8 h4 b O3 (fun u m a=>?_);obtain⟨rfl,d⟩:=a.u64;refine QP ?_;rw[Od _ _ j d];refine QL.nil (fun l i=>?_);refine Pz ?_;refine be rfl rfl ⟨?_,c.trans i⟩
  congr 1
  rw[JO,Ob,On]
  exact_mod_cast J8
 ·have h:¬x&&&mu[k]=mu[k]:=by
   intro e;rw[e]at h;simp at h
  rw[Oj h,JP];refine QS ?_;refine QL.nil (fun l i=>?_);refine Pz ?_;exact be rfl rfl ⟨rfl,c.trans i⟩

section
variable {g:bU}{f num li todo:List Int}
end
theorem vL(w0:World){ao:Option Addr}{cap:Nat}{xs:List Bool}(x:Bool)(d:Sl w0 (c9 w0) ao cap xs):
  Rt Tryz.prog 163 [.slice ao xs.length cap,.bool x].toArray w0 fun v w'=>v=Pj (idxOf (fun y=>x==y) xs)∧Ext w0 w':=by
 have g:=d.len63;refine dH Tryz.func163 Tryz.ntmps163 rfl rfl ?_;refine Qp ?_;refine CW.loop (S:=Nat) (fun k=>[(0,.slice ao xs.length cap),(1,.bool x),(7,Pj xs.length),(8,Pj k)])
  (fun k w=>k≤xs.length∧Ext w0 w∧∀j (h:j<xs.length),j<k→(x==xs[j])=false) (fun k=>xs.length -k) 0 OR ⟨by omega,Ext.refl _,by omega⟩ ?_
 rintro k w ⟨i,a,hn⟩
 refine Qw ?_;apply CW.cond rfl<;>intro h
 ·simp at h
  refine PA ?_;refine eC rfl rfl rfl rfl rfl (d.at a) h rfl O3 (fun q=>?_);refine Qk ?_;refine CW.cond rfl (fun c=>?_) (fun c=>?_)
  ·refine Pl ?_
   refine be rfl rfl ⟨?_,a⟩;rw[vm h hn c]
  ·refine Pq ?_
   refine EX.back (k+1) OR ⟨h,a,?_⟩ OS;intro j b f
   by_cases e:j=k
   ·subst e;exact c
   ·exact hn j b OS
 ·simp at h
  refine PG ?_;refine be rfl rfl ⟨?_,a⟩;rw[vt (fun j b=>hn j b OS)]
theorem k_(w0:World){ao:Option Addr}{cap:Nat}{xs:List Bool}(x:Bool)(a:Sl w0 (c9 w0) ao cap xs):
  Rt Tryz.prog 132 [.slice ao xs.length cap,.bool x].toArray w0 fun v w'=>v=.bool (xs.contains x)∧Ext w0 w':=by
 refine dH Tryz.func132 Tryz.ntmps132 rfl rfl ?_;refine Qw ?_;refine WL.call rfl rfl rfl (vL w0 x a) ?_;rintro v w' ⟨rfl,b⟩
 refine Pr ?_;refine be rfl rfl ⟨?_,b⟩;rw[←List.any_beq,←vk]


theorem qO{l:List Bool}{j:Nat}(h:j<l.length):l.getD j false=l[j]:=by rw[KR,KX h];rfl
section
variable {P:Program}{Q:Exit→Act→World→Prop}{n:Nat}{σ:Sg}{wc:World}{L:List Oper}{S:World→Prop}{rest:List (Nat×Bool)}{i j d d':Nat}{ty:TypeId}{pos:String}{af:Array Edge}{g:Option (Nat×Bool)}{ty':TypeId}{pos':String}{af':Array Edge}{g':Option (Nat×Bool)}{t e:TypeId}{x ix:Operand}
variable {α:Type}[Rep α]{F:Nat→Prop}
theorem bZ{ao:Option Addr}{cap:Nat}{xs:List α}{k:Nat}{kd:IntKind}(hS:S wc)
  (ho1:Ac L i=some ⟨some d,.indexAddr t x ix,ty,pos,af,g⟩) (ho2:Ac L j=some ⟨some d',.load e (.tmp d),ty',pos',af',g'⟩)
  (m:gd L σ ⟨some d,.indexAddr t x ix,ty,pos,af,g⟩=some true) (hd:Nat.ble (d+1) n=true) (hd':Nat.ble (d'+1) n=true)
  (l:ev σ x=some (.slice ao xs.length cap)) (hi:ev σ ix=some (.int kd (k:Int))) [v:IsS P t e] [s:IsT P e α] (a:Sl wc F ao cap xs) (h1:k<xs.length)
  (c:∀p,gd L ((d,.pointer p)::σ) ⟨some d',.load e (.tmp d),ty',pos',af',g'⟩=some true)
  (h:∀u p,Rd wc F u xs[k]→HL P L S Q rest n ((d',u)::(d,.pointer p)::σ) wc):
  HL P L S Q ((i,false)::(j,false)::rest) n σ wc:=by
 obtain⟨b,off,rfl,q,r,o,f⟩:=a.el k h1;refine cu ho1 (eJ (α:=α) m hd l hi OS OS (WL.nil (a_ hS ?_)));refine cu ho2 (WL.load (α:=α) (c _) hd' pW (by simpa using o) f (WL.nil (a_ hS ?_)));exact h _ _ ⟨r,rfl,f⟩
end



def bS(c:Nat)(w:World):Nat→Prop:=fun b=>c≤b∧b<w.heap.size
theorem Rd.upF{α:Type}[Rep α]{w w':World}{c:Nat}{v:Value}{x:α}(h:Rd w (bS c w) v x)(f:Ext w w'):Rd w' (bS c w') v x:=h.mono (fun b a=>f.block b a.2) fun b a=>⟨a.1,MQ a.2 f.size⟩
section
variable {P:Program}{Q:Exit→Act→World→Prop}{n:Nat}{σ:Sg}{w:World}{L rest:List Oper}{d:Nat}{ty:TypeId}{pos:String}{af:Array Edge}{g:Option (Nat×Bool)}
variable {α:Type}[Rep α]{e t:TypeId}{x0:α}{bytes:Nat}
theorem eU(c:Nat)(x:c≤w.heap.size){len:Nat}{parts:List (Nat×Operand)}{vs:List Value}(ys:List α)(q:gd L σ ⟨some d,.buildSlice t len parts.toArray,ty,pos,af,g⟩=some true)(hd:Nat.ble (d+1) n=true)
  (p:vi 0 (FJ parts)=parts) (m:oe σ (FJ parts)=some vs) [u:IsS P t e] [s:IsT P e α] [r:IsZ P e x0 bytes] (f:len=ys.length) (o:RdAll w (bS c w) vs ys) (i:ys.length*sz α≤16777216)
  (h:∀v w',Ext w w'→Rd w' (bS c w') v ys→WL P L Q rest n ((d,v)::σ) w'):
  WL P L Q (⟨some d,.buildSlice t len parts.toArray,ty,pos,af,g⟩::rest) n σ w:=
 WL.lit q hd p m f o i (fun b h=>h.2) fun w' k j=>by
  have l:Ext w w':=(JJ _ _).grown j Pf O_;refine h _ w' l (k.rd.mono Pc fun b a=>?_);rcases a with a|a
  ·exact⟨a.1,MQ a.2 l.size⟩
  ·have:=k.lt b a;exact⟨by omega,this.2.1⟩
end

theorem Az{A:cF}(h:OkA A):de A:=⟨fun x a=>(h.st x a).1,fun k x a=>(AF h.nx k x a).1⟩
theorem I0(n:Nat)(x:Int)(b:Nat)(w:World)(a:Blk w b 3 [Pj n]):
  Rt Tryz.prog 146 [Pj x,Pk b].toArray w fun v w'=>v=.bool (decide (x<0∨x≥n))∧w=w':=by
 refine dH Tryz.func146 Tryz.ntmps146 rfl rfl ?_;refine Qw ?_;refine eW (s:=6) rfl (fun h=>?_) (fun h=>?_)
 ·refine Pt ?_
  refine be rfl rfl ?_;simp at h
  simp[h]
 ·refine Qn ?_
  refine be rfl rfl ?_;simp at h
  simp[Kb.2 h]
theorem I1(w0:World){lo:Option Addr}{lcap:Nat}{l:List Int}(n:Nat)(d:Sl w0 (c9 w0) lo lcap l):
  Rt Tryz.prog 74 [.slice lo l.length lcap,Pj n].toArray w0 fun v w'=>v=.bool (An n l)∧Ext w0 w':=by
 refine dH Tryz.func74 Tryz.ntmps74 rfl rfl ?_;refine Pm ?_;refine dZ rfl rfl rfl fun b e a=>?_
 refine PK ?_;refine WL.call rfl rfl rfl (k7 b (fun x=>decide (x<0∨x≥n)) (d.up a) (fun w c i h=>?_)) ?_
 ·refine FnV.mk (Rt.mono (I0 n _ _ w (e.ext c)) ?_)
  rintro v w' ⟨rfl,rfl⟩
  exact⟨rfl,Ext.refl _⟩
 ·rintro v w' ⟨rfl,f⟩
  refine Pr ?_;exact be rfl rfl ⟨rfl,a.trans f⟩
abbrev I2(a1:Option Addr)(c1:Nat)(a2:Option Addr)(c2:Nat)(a3:Option Addr)(c3:Nat)(a4:Option Addr)(c4:Nat)(n1 c b a:Nat):Value:=.agg [.slice a1 n1 c1,.slice a2 c c2,.slice a3 b c3,.slice a4 a c4].toArray
theorem IH(w:World){lo:Option Addr}{lcap:Nat}{l:List Int}(n:Nat)(b:Nat)(d:Blk w b 3 [Pj n])(a:Sl w (c9 w) lo lcap l):
  Rt Tryz.prog 76 [.slice lo l.length lcap,Pk b].toArray w fun v w'=>v=.bool (An n l)∧Ext w w':=by
 refine dH Tryz.func76 Tryz.ntmps76 rfl rfl ?_;refine QE ?_;refine WL.call rfl rfl rfl (I1 w n a) ?_;rintro _ w' ⟨rfl,c⟩
 refine Pr ?_;exact be rfl rfl ⟨rfl,c⟩
theorem IB(w0:World){a1 a2 a3 a4:Option Addr}{c1 c2 c3 c4 k:Nat}{st:List Int}{nx fr:List (List Int)}(h1:Sl w0 (c9 w0) a1 c1 st)(h2:Sl w0 (c9 w0) a2 c2 nx)(hk:k≤9223372036854775807)(h4:Sl w0 (c9 w0) a4 c4 fr):
  Rt Tryz.prog 35 [I2 a1 c1 a2 c2 a3 c3 a4 c4 st.length nx.length k fr.length].toArray w0 fun v w'=>v=Pj (j7 st nx k fr)∧Ext w0 w':=by
 have W:=h2.len63;have V:=h4.len63;refine dG Tryz.func35 Tryz.ntmps35 rfl rfl ?_;refine Pm ?_;refine dZ rfl rfl rfl fun T n f=>?_
 refine QH ?_;refine WL.alloc rfl rfl (fun w2 hn d=>?_);have x:=n.ext d;skip;refine WL.st rfl rfl rfl hn rfl rfl Pd (fun N r m=>?_);have t:=x.kept m (by simp;have:=n.lt;omega);have c:Ext w0 N:=(f.trans d).grown m (MN f.size d.size) (fun g Y=>by cases Y;exact f.size);clear n hn f d x m;refine QE ?_
 (refine eX rfl rfl (fun h=>?_) (fun h=>?_))
 ·refine Qr ?_
  refine be rfl rfl ⟨?_,c⟩;have h:nx.length>600:=by simp at h;omega
  unfold j7;rw[Ov (.inl h)]
 have h:nx.length≤600:=by simp at h;omega
 refine PY ?_;apply CW.cond rfl<;>intro B
 ·refine P7 ?_
  refine be rfl rfl ⟨?_,c⟩;have B:fr.length>80:=by simp at B;omega
  unfold j7;rw[Ov (.inr B)]
 have B:fr.length≤80:=by simp at B;omega
 unfold j7;rw[Ou OS];refine Qg ?_
 (refine eX rfl rfl (fun h=>?_) (fun h=>?_))
 ·refine Qr ?_
  refine be rfl rfl ⟨?_,c⟩;have L:k≠nx.length:=by
   have:¬(k:Int)=(nx.length:Int):=by simp at h;omega
   omega
  rw[Ov (.inl L)]
 have L:k=nx.length:=by
  have:(k:Int)=(nx.length:Int):=by simp at h;omega
  omega
 subst L;refine QV ?_;refine WL.call rfl rfl rfl (I1 N nx.length (h1.up c)) ?_;rintro _ R ⟨rfl,E⟩
 have J:=t.ext E;have H:=r.ext E;have A:=c.trans E;refine Pv ?_;apply CW.cond rfl<;>intro P
 ·refine P7 ?_
  refine be rfl rfl ⟨?_,A⟩;rw[Ov (.inr P)]
 rw[Ou (by rw[P];simp)];clear t r c E;refine Qh ?_;refine CW.loop (S:=Nat) (fun i=>[(1,Pk w0.heap.size),(3,Pk T.heap.size),(29,.slice a2 nx.length c2),(30,Pj nx.length),(31,Pj i)])
  (fun i w=>i≤nx.length∧Ext R w∧∀j (h:j<nx.length),j<i→jQ nx.length nx[j]=false) (fun i=>nx.length -i) 0 OR ⟨by omega,Ext.refl _,by omega⟩ ?_
 rintro i M ⟨hi,D,p⟩
 have Z:=J.ext D;have G:=H.ext D;have a:=A.trans D;refine Qw ?_;apply CW.cond rfl<;>intro o
 ·simp at o
  refine Qo ?_;refine eE rfl rfl rfl rfl rfl (h2.at a) o O3 (fun u q F=>?_);obtain⟨lo,U,rfl,s⟩:=F.sl;refine Qp ?_
  (refine eX rfl rfl (fun h=>?_) (fun h=>?_))
  ·refine Pu ?_
   refine be rfl rfl ⟨?_,a⟩;have K:nx[i].length=0:=by simp at h;simp[h]
   rw[Ov (Ki.2 ⟨nx[i],Lb o,by unfold jQ;simp only[JX,Om];exact .inl K⟩)]
  have K:nx[i].length≠0:=by simp at h;simpa using h
  refine QV ?_;refine WL.call rfl rfl rfl (I1 M nx.length (s.lift fun b n=>MQ n a.size)) ?_;rintro _ Q ⟨rfl,C⟩
  refine Pv ?_;apply CW.cond rfl<;>intro z
  ·refine Pl ?_
   refine be rfl rfl ⟨?_,a.trans C⟩;rw[Ov (Ki.2 ⟨nx[i],Lb o,by unfold jQ;rw[z,JZ]⟩)]
  ·refine Pq ?_
   refine EX.back (i+1) OR ⟨o,D.trans C,fun j I X=>?_⟩ OS;by_cases e:j=i
   ·subst e;unfold jQ;rw[z,Oj K];rfl
   ·exact p j I OS
 simp at o
 have y:nx.any (jQ nx.length)=false:=by
  rw[Kh];intro l s
  obtain⟨j,I,rfl⟩:=LT.1 s;simp[p j I OS]
 rw[Ou (by rw[y];simp)];refine QG ?_;refine WL.call rfl rfl rfl (k8 M (An nx.length) (h4.up a) (fun w O i hi u F=>?_)) ?_
 ·obtain⟨lo,U,rfl,s⟩:=F.sl
  exact FnV.mk (Rt.mono (IH w nx.length _ (G.ext O) (s.lift fun b n=>MQ n O.size)) fun v w' h=>h)
 rintro _ Q ⟨rfl,C⟩
 refine QB ?_;apply CW.cond rfl<;>intro z
 ·refine P7 ?_
  refine be rfl rfl ⟨?_,a.trans C⟩;rw[Ov z]
 ·refine Qd ?_
  refine be rfl rfl ⟨?_,a.trans C⟩;rw[Ou (by rw[z];simp)]
abbrev BM(so:Option Addr)(sc:Nat)(lo:Option Addr)(a:Nat)(s l:List Int):Value:=.agg [.slice so s.length sc,.slice lo l.length a].toArray
abbrev cQ:=List Int×List (List Int)×List Nat×List (List Int)
def pK(W:cQ)(A:cG)(p:dg):Bool:=pI A.2.2.1 A.2.2.2.1 p.2.toNat (W.2.2.1.getD p.1.toNat 0)
def zq(W:cQ)(A:cG)(p:dg):List dg:=Bv (W.2.1.getD p.1.toNat []) (A.2.1.getD p.2.toNat [])
def FZ(W:cQ)(A:cG):List dg:=Bv W.1 A.1
def FT(W:cQ)(A:cG):List (dg→Bool):=W.2.2.2.map (fun F p=>decide (p.1∈F))++A.2.2.2.2.map (fun F p=>decide (p.2∈F))
def aP(W:cQ)(A:cG):Prop:=∃r,PWay (pK W A) (zq W A) (FZ W A) (FT W A) r
structure WWay(W:cQ)(r:Nat→Nat):Prop where
 first:(r 0:Int)∈W.1
 step:∀i,(r (i+1):Int)∈W.2.1.getD (r i) []
 fair:∀F∈W.2.2.2,∀i,∃j,i≤j∧(r j:Int)∈F
def df(W:cQ):Prop:=(∀x∈W.1,0≤x)∧∀k,∀x∈W.2.1.getD k [],0≤x
abbrev jB(W:cQ):Int:=j7 W.1 W.2.1 W.2.2.1.length W.2.2.2
section
variable {W:cQ}{A:cG}{s l:List Int}
theorem AH{n k:Nat}{g:List (List Int)}(h:∀r∈g,AG n r):AG n (g.getD k []):=by
 by_cases e:k<g.length
 ·rw[KR,KX e];exact h _ (Lb e)
 ·rw[KR,KY OS];exact fun x a=>by cases a
theorem jC(h:jB W=0):df W:=by
 obtain⟨_,_,_,h1,h2,_⟩:=j8 h;exact⟨fun x a=>(h1 x a).1,fun k x a=>(AH (fun r b=>(h2 r b).2) x a).1⟩
theorem AA(h:OkA A):de A:=Az h
theorem ot(f:df W)(k:de A){r:Nat→dg}(h:PWay (pK W A) (zq W A) (FZ W A) (FT W A) r):
  WWay W (fun i=>(r i).1.toNat)∧aa A (fun i=>W.2.2.1.getD (r i).1.toNat 0):=by
 have b:=pairsX_mem.1 h.first;have a:∀i,(r (i+1)).1∈W.2.1.getD (r i).1.toNat []∧(r (i+1)).2∈A.2.1.getD (r i).2.toNat []:=fun i=>pairsX_mem.1 (h.step i)
 have e:∀i,0≤(r i).1∧0≤(r i).2:=fun i=>by
  cases i with
  |zero=>exact⟨f.1 _ b.1,k.1 _ b.2⟩
  |succ i=>exact⟨f.2 _ _ (a i).1,k.2 _ _ (a i).2⟩
 have d:∀i,(((r i).1.toNat:Nat):Int)=(r i).1:=fun i=>Ke (e i).1
 have c:∀i,(((r i).2.toNat:Nat):Int)=(r i).2:=fun i=>Ke (e i).2
 refine⟨⟨by rw[d];exact b.1,fun i=>by rw[d];exact(a i).1,fun F hF i=>?_⟩,fun i=>(r i).2.toNat,⟨by rw[c];exact b.2,fun i=>h.fits i,fun i=>by rw[c];exact(a i).2,fun F hF i=>?_⟩⟩
 ·obtain⟨j,h1,h2⟩:=h.fair _ (LL _ (LU.2 ⟨F,hF,rfl⟩)) i
  exact⟨j,h1,by rw[d];exact OC h2⟩
 ·obtain⟨j,h1,h2⟩:=h.fair _ (LM _ (LU.2 ⟨F,hF,rfl⟩)) i
  exact⟨j,h1,by rw[c];exact OC h2⟩
theorem ol{ρ:Nat→Nat}(a:WWay W ρ)(b:aa A (fun i=>W.2.2.1.getD (ρ i) 0)):aP W A:=by
 obtain⟨q,hq⟩:=b;refine⟨fun i=>((ρ i:Int),(q i:Int)),pairsX_mem.2 ⟨a.first,hq.first⟩,fun i=>?_,fun i=>pairsX_mem.2 ⟨?_,?_⟩,fun S hS i=>?_⟩
 ·exact hq.fits i
 ·exact a.step i
 ·exact hq.step i
 ·rcases LK.1 hS with h|h
  ·obtain⟨F,hF,rfl⟩:=LU.1 h
   obtain⟨j,h1,h2⟩:=a.fair F hF i;exact⟨j,h1,Ol h2⟩
  ·obtain⟨F,hF,rfl⟩:=LU.1 h
   obtain⟨j,h1,h2⟩:=hq.fair F hF i;exact⟨j,h1,Ol h2⟩
theorem xx{f:Nat→Nat}{s l:List Nat}(b:0<l.length)(i:Nat):xu (s.map f) (l.map f) i=f (xu s l i):=by
 unfold xu;rw[Lq,Lq];by_cases h:i<s.length
 ·rw[Ov h,Ov h,KR,K0,KX h,KR,KX h];rfl
 ·have a:=MU (i -s.length) b
  rw[Ou h,Ou h,KR,K0,KX a,KR,KX a];rfl
theorem xj{n:Nat}{lb:List Nat}{l:List Int}(h:AG n l):xi lb l=(l.map Int.toNat).map fun x=>lb.getD x 0:=by
 unfold xi;rw[LG];rfl
theorem xv{s l:List Nat}{k:Nat}(a:k<l.length)(i:Nat):∃j,i≤j∧xu s l j=l.getD k 0:=by
 refine⟨s.length+(k+i*l.length),?_,?_⟩
 ·have:i*1≤i*l.length:=MW i OS
  omega
 ·unfold xu
  rw[Ou OS,My,Mw,MT a]
structure PathE(W:cQ)(A:cG)(s l:List Int):Prop where
 so:AG W.2.1.length s
 lo:AG W.2.1.length l
 l0:0<l.length
 good:rG W.1 W.2.1 W.2.2.2 (s++l) l=true
 acc:aa A (xu (xi W.2.2.1 s) (xi W.2.2.1 l))
 sz:s.length≤1099511627776∧l.length≤1099511627776
end
def FV(ps:List dg)(l:List Int):List Int:=l.map fun n=>(ps.getD n.toNat (0,0)).1
section
variable {W:cQ}{A:cG}{ps:List dg}{fr:List Int}{g:List (List Int)}{part:List Int}
theorem BN(h:RunE (pK W A) (zq W A) (FZ W A) ps fr g)(V:g.length=ps.length)(Q:∀p∈ps,(0≤p.1∧p.1<(W.2.1.length:Int))∧0≤p.2∧p.2<(A.2.1.length:Int))(Z:df W)(hA:de A)
  {st lo:List Int} {to al:Nat→Bool} (H:WyOK g fr to al st) (b:RoOK g (st.getD (st.length -1) 0).toNat (Fg (FT W A) ps) lo) (N:st.length -1≤1099511627776) (O:lo.length≤1099511627776):PathE W A (FV ps (st.take (st.length -1))) (FV ps lo):=by
 have U:=H.ne;have y:=b.ne;have hg:=h.okG V;have oks:AG g.length (st.take (st.length -1)):=fun x r=>H.rg x (LY r)
 have G:∀{l:List Int},AG g.length l→AG W.2.1.length (FV ps l):=fun {l} J x r=>by
  obtain⟨n,hn,rfl⟩:=LU.1 r;have:=J n hn;exact(Q _ (qY OS)).1
 have d:(st.take (st.length -1)).length=st.length -1:=by rw[Lz];omega
 have B:∀i,i<st.length -1→(st.take (st.length -1)).getD i 0=st.getD i 0:=fun i hi=>by
  rw[KR,K5 hi,←KR]
 have z:0≤st.getD (st.length -1) 0:=by
  rw[KR,KX OS];exact(H.rg _ (Lb OS)).1
 have w:lo.getD 0 0=st.getD (st.length -1) 0:=by rw[b.st];omega
 generalize hq:st.take (st.length -1)=sq at*
 have I:0<(lo.map Int.toNat).length:=by rw[Lq];exact y
 have L:∀i,i+1<(sq++lo).length→(sq++lo).getD (i+1) 0∈g.getD ((sq++lo).getD i 0).toNat []:=fun i hi=>by
  rw[Lk,d]at hi
  by_cases e:i<st.length -1
  ·rw[rr (i:=i) OS,B i e]
   have C:=(H.ed i OS).1;by_cases T:i+1<st.length -1
   ·rw[rr OS,B _ T];exact C
   ·rw[rs OS,d,show i+1 -(st.length -1)=0 by omega,w,show st.length -1=i+1 by omega];exact C
  ·rw[rs (i:=i) OS,rs (i:=i+1) OS,d,show i+1 -(st.length -1)=(i -(st.length -1))+1 by omega]
   exact b.ed _ OS
 have K:lo.getD 0 0∈g.getD ((sq++lo).getD ((sq++lo).length -1) 0).toNat []:=by
  rw[Lk,rs OS,show sq.length+lo.length -1 -sq.length=lo.length -1 by omega,w];have:=b.cl;rwa[Ke z]at this
 have o:∀i,mW g (sq.map Int.toNat) (lo.map Int.toNat) i=true:=by
  rw[←m8 I,LC,vV oks,vV b.rg,Kf];intro i hi
  rw[LZ]at hi
  unfold F8 Hb;rw[Ko];split
  ·exact L i (by assumption)
  ·obtain rfl:i=(sq++lo).length -1:=by omega
   exact K
 have m:∀i,xu (sq.map Int.toNat) (lo.map Int.toNat) i<ps.length:=fun i=>by
  have h1:=o i;unfold mW at h1
  rw[Ko]at h1
  have:=Eg.lt1 (g:=g) (u:=xu (sq.map Int.toNat) (lo.map Int.toNat) i) h1;omega
 have t:(sq++lo).getD 0 0=st.getD 0 0:=by
  by_cases e:0<st.length -1
  ·rw[rr OS,B 0 e]
  ·rw[rs OS,d,show 0 -(st.length -1)=0 by omega,w,show st.length -1=0 by omega]
 have Y:((xu (sq.map Int.toNat) (lo.map Int.toNat) 0:Nat):Int)=st.getD 0 0:=by
  have:=f_ (s:=sq.map Int.toNat) (l:=lo.map Int.toNat) (i:=0) (by rw[Lk];omega);rw[LC,vV oks,vV b.rg,t]at this
  exact this.symm
 have E:PWay (pK W A) (zq W A) (FZ W A) (FT W A) (fun i=>ps.getD (xu (sq.map Int.toNat) (lo.map Int.toNat) i) (0,0)):=by
  refine⟨?_,fun i=>h.ok _ (qY (m i)),fun i=>?_,fun S hS i=>?_⟩
  ·obtain⟨p,h1,h2,h3⟩:=(h.sn _).1 (show st.getD 0 0∈fr from H.st)
   have h4:=vl (h.sm p h1 h2);rw[show xu (sq.map Int.toNat) (lo.map Int.toNat) 0=ps.idxOf p by omega,h4.2];exact h1
  ·have C:((xu (sq.map Int.toNat) (lo.map Int.toNat) (i+1):Nat):Int)∈g.getD (xu (sq.map Int.toNat) (lo.map Int.toNat) i) []:=by simpa[mW]using o i
   obtain⟨q,h1,h2,h3⟩:=(h.nn _ (by have:=m i;omega) _).1 C;have h4:=vl (h.nm _ (by have:=m i;omega) q h1 h2);rw[show xu (sq.map Int.toNat) (lo.map Int.toNat) (i+1)=ps.idxOf q by omega,h4.2];exact h1
  ·obtain⟨x,r,c⟩:=b.all (ps.map S) (LU.2 ⟨S,hS,rfl⟩)
   have P:=b.rg x r;rw[Fh OS]at c
   obtain⟨k,J,rfl⟩:=LT.1 r;obtain⟨j,X,C⟩:=xv (s:=sq.map Int.toNat) (l:=lo.map Int.toNat) (k:=k) (by rw[Lq];exact J) i;refine⟨j,X,?_⟩;have R:(lo.map Int.toNat).getD k 0=lo[k].toNat:=by rw[KR,K0,KX J];rfl
   rw[C,R];exact c
 obtain⟨D,M⟩:=ot Z hA E;have okss:=G oks;have okll:=G b.rg;have f:∀{l:List Int},AG g.length l→(FV ps l).map Int.toNat=(l.map Int.toNat).map fun n=>(ps.getD n (0,0)).1.toNat:=fun {l} J=>by
  unfold FV;rw[LG,LG];rfl
 have a:∀i,xu ((FV ps sq).map Int.toNat) ((FV ps lo).map Int.toNat) i=(ps.getD (xu (sq.map Int.toNat) (lo.map Int.toNat) i) (0,0)).1.toNat:=fun i=>by
  rw[f oks,f b.rg,xx I]
 have v:0<((FV ps lo).map Int.toNat).length:=by unfold FV;rw[Lq,Lq];exact y
 refine⟨okss,okll,by unfold FV;rw[Lq];exact y,?_,?_,by unfold FV;rw[Lq,Lq,d];exact⟨N,O⟩⟩
 ·unfold rG
  rw[JM,JM];refine⟨⟨?_,?_⟩,?_⟩
  ·have h1:=D.first
   rw[←a]at h1
   rw[←vV okss,←vV okll,←LC,f_ (by rw[Lk];omega)];simpa using h1
  ·rw[←vV okss,←vV okll,←LC,m8 v]
   intro i
   have h1:=D.step i;rw[←a,←a]at h1
   simpa[mW]using h1
  ·rw[Kf]
   intro F hF
   rw[Ki];obtain⟨x,r,c⟩:=b.all (ps.map fun p=>decide (p.1∈F)) (LU.2 ⟨_,LL _ (LU.2 ⟨F,hF,rfl⟩),rfl⟩);have P:=b.rg x r;rw[Fh OS]at c
   exact⟨_,OC c,by rw[Ko];exact LU.2 ⟨x,r,rfl⟩⟩
 ·have e1:=xj (lb:=W.2.2.1) okss
  have T:=xj (lb:=W.2.2.1) okll;rw[e1,T];exact(Acc.congr fun i=>(by rw[xx v,a]:W.2.2.1.getD (ps.getD (xu (sq.map Int.toNat) (lo.map Int.toNat) i) (0,0)).1.toNat 0=_)).1 M
end
end Go.Proofs.YtodmkmobdmcfbaaGreat
