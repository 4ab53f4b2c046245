import Derived.Test.YtfpjecjadlgdcaaGreatDoorPtTopBounds10
set_option linter.unusedVariables false
set_option linter.unusedSimpArgs false
set_option linter.defProp false
namespace Go.Proofs.YtfpjecjadlgdcaaGreatDoor
open Go.RowKit
theorem Chg.step{S S':Nat→Prop}{w0 w w':World}(h:Chg S w0 w)(k:Chg S' w w')(hS:∀b,S' b→S b∨w0.heap.size≤b):Chg S w0 w':=
 ⟨k.os.trans h.os,k.tape.trans h.tape,k.output.trans h.output,MN h.size k.size,fun b a hn=>(k.block b (MQ a h.size) (fun c=>(hS b c).elim hn (fun h=>by omega))).trans (h.block b a hn)⟩
theorem Chg.stepE{S:Nat→Prop}{w0 w w':World}(h:Chg S w0 w)(k:Ext w w'):Chg S w0 w':=h.step (S':=fun _=>False) (.ofExt k) Pj
theorem Chg.stepG{S:Nat→Prop}{w0 w w':World}{row:Option Nat}(h:Chg S w0 w)(k:w.grownBy w' row)(hS:∀b,row=some b→S b∨w0.heap.size≤b):Chg S w0 w':=
 h.step (S':=fun b=>row=some b) ⟨k.os,k.tape,k.output,k.size,fun b a hn=>k.block b a (fun e=>hn e.symm)⟩ hS
def Lw(B:Nat):Nat→Prop:=fun b=>b<B
theorem Lw.at{α:Type}[Rep α]{w w':World}{B:Nat}{S:Nat→Prop}{ao:Option Addr}{cap:Nat}{xs:List α}(h:Sl w (Lw B) ao cap xs)(d:Chg S w w')(e:B≤w.heap.size)(hS:∀b,S b→B≤b):Sl w' (Lw B) ao cap xs:=
 h.mono (fun b a=>d.block b (MQ a e) (fun c=>by have:=hS b c;have:b<B:=a;omega)) fun _ h=>h
theorem Lw.old{α:Type}[Rep α]{w:World}{B:Nat}{ao:Option Addr}{cap:Nat}{xs:List α}(h:Sl w (Lw B) ao cap xs)(c:B≤w.heap.size):Sl w (c7 w) ao cap xs:=h.mono Pq fun b a=>MQ a c
theorem CE{tok st:Int}{s:Sr}{m:List Int}{fr:Int×Int}:(CD tok st s m fr).1.1=s.1∨(CD tok st s m fr).1.1=s.1++[m]:=by
 unfold CD;split
 ·exact .inl rfl
 split
 ·exact .inl rfl
 split
 ·exact .inl rfl
 ·exact .inr rfl
theorem rL{l a:List (List Int)}{m c:List Int}{n:Nat}(h:a=l∨a=l++[c])(hn:n<l.length)(b:l.getD n []=m):n<a.length∧a.getD n []=m:=by
 rcases h with rfl|rfl
 ·exact⟨hn,b⟩
 ·refine⟨by simp;omega,?_⟩
  rw[KT,KU hn,←KT];exact b
theorem G5{p:cI}{m:List Int}(a:m.length=p.2.length)(b:Tok m):cU p m:=⟨a,fun j=>b.at j⟩
theorem yN{p:cI}{m:List Int}(h:cU p m):Tok m:=fun x a=>by
 obtain⟨j,b,rfl⟩:=LT.1 a;have:=h.2 j;rwa[qZ b]at this
theorem py{p:cI}{m:List Int}{k:Int}(b:cU p m)(h:(pj p m k).2=0):cU p (pj p m k).1:=by
 obtain⟨_,a⟩:=pn h;exact pz b a.2.2.1 a.2.2.2
def dK(c c':SC):Prop:=c'.sb=c.sb∧c'.p1=c.p1∧c'.p2=c.p2∧c'.tok=c.tok∧c'.st=c.st∧c'.N=c.N∧c'.lo=c.lo
theorem Srch.grow{w w':World}{B:Nat}{c:SC}{s:Sr}{nx:List (List cE)}{x':Value}(h:Srch w B c s nx)(d:w.grownBy w' c.xt.ownBlock)(hnb:∀g,x'.ownBlock=some g→c.xt.ownBlock=some g∨w.heap.size≤g)(j:∀g,x'.ownBlock=some g→B≤g∧g<w'.heap.size):
  Srch w' B ⟨c.sb,c.mb,c.mv,c.nv,c.ov,c.mvs,c.nvs,c.p1,c.p2,c.tok,c.st,c.N,x',c.lo⟩ s nx∧(∀b,iO ⟨c.sb,c.mb,c.mv,c.nv,c.ov,c.mvs,c.nvs,c.p1,c.p2,c.tok,c.st,c.N,x',c.lo⟩ b→iO c b∨w.heap.size≤b):=by
 have hd:=h.dis;have l:Chg (iO c) w w':=(Chg.refl _ w).grown d (fun g d=>.inr (.inr (.inr (.inr (.inr d)))));have i:∀b,iO ⟨c.sb,c.mb,c.mv,c.nv,c.ov,c.mvs,c.nvs,c.p1,c.p2,c.tok,c.st,c.N,x',c.lo⟩ b→iO c b∨w.heap.size≤b:=by
  intro b i
  rcases i with h|h|h|h|h|h
  ·exact .inl (.inl h)
  ·exact .inl (.inr (.inl h))
  ·exact .inl (.inr (.inr (.inl h)))
  ·exact .inl (.inr (.inr (.inr (.inl h))))
  ·exact .inl (.inr (.inr (.inr (.inr (.inl h)))))
  ·exact(hnb b h).imp (fun h=>.inr (.inr (.inr (.inr (.inr h))))) id
 have f:=iP h;have na:∀{a:Option Nat},ap a c.xt.ownBlock→(∀g,a=some g→g<w.heap.size)→ap a x'.ownBlock:=fun k kl=>(k.sym.new hnb kl).sym
 refine⟨⟨h.blk.kept d (fun e=>hd.d05 _ rfl e.symm),h.num.kept d (fun e=>hd.d15 _ rfl e.symm),h.mo.keptN d (fun g k e=>hd.d25 g k e.symm),h.no.keptN d (fun g k e=>hd.d35 g k e.symm),h.oo.keptN d (fun g k e=>hd.d45 g k e.symm),h.mi.to l i,h.ni.to l i,h.ge,h.lob,j,
  ⟨hd.d01,hd.d02,hd.d03,hd.d04,hd.d12,hd.d13,hd.d14,hd.d23,hd.d24,hd.d34,na hd.d05 (fun g e=>by cases e;exact(f _ (.inl rfl)).2),na hd.d15 (fun g e=>by cases e;exact(f _ (.inr (.inl rfl))).2),na hd.d25 (fun g e=>(f _ (.inr (.inr (.inl e)))).2),na hd.d35 (fun g e=>(f _ (.inr (.inr (.inr (.inl e))))).2),na hd.d45 (fun g e=>(f _ (.inr (.inr (.inr (.inr (.inl e)))))).2)⟩,h.ok,h.nd,h.lim⟩,i⟩
set_option maxHeartbeats 2000000 in
theorem mP{B:Nat}(w0:World){c:SC}{s:Sr}{nx:List (List cE)}{so fo:Option Addr}{sc fc:Nat}{ns:List cG}{fl:List cF}(hS:Srch w0 B c s nx)(y:B≤w0.heap.size)(hs:Sl w0 (Lw B) so sc ns)(hf:Sl w0 (Lw B) fo fc fl)
  (I:c.p1=.slice so ns.length sc) (H:c.p2=.slice fo fl.length fc) (J:c.N=fl.length) (hz:(F4 (ns,fl)).2=0) (hxt:c.xt=.slice none 0 0) {n:Nat} (hn:n<s.1.length):
  Rt Tryz.prog 65 [Pz c.sb,Py (n:Int)].toArray w0 fun v w'=>∃c' x,v=.tuple ⟨[x,Py (mH (ns,fl) c.tok c.st n s).2.2]⟩∧Srch w' B c' (mH (ns,fl) c.tok c.st n s).1 nx∧dK c c'∧
   Chg (iO c) w0 w'∧(∀b,iO c' b→iO c b∨w0.heap.size≤b)∧Own w' w0.heap.size 149 cZ x (mH (ns,fl) c.tok c.st n s).2.1∧∀g,x.ownBlock=some g→c'.xt.ownBlock=some g:=by
 have hbg:=iP hS;have hBb:∀b,iO c b→B≤b:=fun b h=>(hbg b h).1
 have hlo:=hS.lob;have hmok:∀m∈s.1,cU (ns,fl) m:=fun m hm=>G5 (by rw[(hS.ok m hm).1];exact J) (hS.ok m hm).2
 obtain⟨m,hmd⟩:∃m,m=s.1.getD n []:=⟨_,rfl⟩;have hmn:s.1[n]=m:=by rw[hmd,KT,KY hn];rfl
 have hmk:cU (ns,fl) m:=hmok m (hmn▸Lc hn);have hcm:=yL hz hmk;unfold mH;rw[←hmd];refine dE Tryz.func65 Tryz.ntmps65 rfl rfl ?_;have O:∀{w:World} {d:SC} {r:Sr},Srch w B d r nx→n<r.1.length∧r.1.getD n []=m→∃ao ac,d.mv=.slice ao d.mvs.length ac∧∃hv:n<d.mvs.length,Sl w (c7 w) ao ac d.mvs∧∃mo mc,d.mvs[n].v=.slice mo m.length mc∧Sl w (c7 w) mo mc m:=by
  intro w d r hR hr
  obtain⟨ao,ac,hv,D⟩:=hR.mo.oldN.sl;have hlen:=hR.mi.len;have hn1:n<d.mvs.length:=by rw[hlen];exact hr.1
  obtain⟨mo,mc,he,hms⟩:=hR.mi.el n hn1 hr.1;obtain⟨hr1,hr2⟩:=hr;have e1:r.1[n]=m:=by
   rw[KT,KY hr1]at hr2
   exact hr2
  rw[e1]at he hms
  exact⟨ao,ac,hv,hn1,D,mo,mc,he,hms.mono Pq (fun b f=>f.2.1)⟩
 have A:Ext w0 (drew w0):=Ext.drew w0;obtain⟨ao,ac,Q,Y,D,mo,mc,l,Z⟩:=O hS ⟨hn,hmd.symm⟩;have o:=hS.blk;rw[Q,I,H]at o
 refine Qt ?_;have hSE:∀w1,(fun x=>Ext w0 x) w1→Ext w0 w1:=fun _ h=>h
 refine aF (fun x=>Ext w0 x) [(0,true),(1,true),(2,true),(3,true),(4,true),(5,true),(6,true),(7,true),(8,true),(9,true),(10,true),(11,true),(12,false),(13,true),(14,true),(15,true),(16,true),(17,true)] mixed O8 A ?_;refine RO ?_;refine bY (w:=w0) (F:=c7 w0) (fun z hz b f=>hz.block b f) rfl rfl rfl rfl rfl rfl rfl D Y Pg (fun u q hu=>?_);obtain⟨rfl,_⟩:=hu.raw;rw[l];refine cr rfl (WL.call rfl rfl rfl (bC (drew w0) ((hs.mono Pq fun _ h=>h:Sl (drew w0) (Lw B) so sc ns)|>fun h=>Lw.old h (MN y A.size)) ((hf.mono Pq fun _ h=>h:Sl (drew w0) (Lw B) fo fc fl)|>fun h=>Lw.old h (MN y A.size)) (Z.up A)) ?_);rintro _ w1 ⟨x,rfl,P,e1⟩
 have hE1:=A.trans e1;refine WL.nil (a_ hE1 ?_);rw[OK hcm]at P
 rw[hcm];obtain⟨xo,xc,rfl,G⟩:=P.slF (F':=fun b=>w0.heap.size≤b∧b<w1.heap.size) Pj (fun g a=>⟨MN A.size (P.lt g a).1,(P.lt g a).2.1⟩);have hcan:i3 (ns,fl) m=i6 (ns,fl) m:=by unfold i3;rw[OK hcm]
 have hcl:=i4 (p:=(ns,fl)) (m:=m);rw[hcan]at hcl⊢
 generalize i6 (ns,fl) m=can at*
 refine RR ?_;refine Q3 ?_;refine CW.loop (S:=Nat×SC×Sr×List cE) (fun t=>[(0,Pz c.sb),(1,Py (n:Int)),(6,t.2.1.xt),(30,.slice xo can.length xc),(31,Py can.length),(32,Py t.1)])
  (fun t w=>t.1≤can.length∧mJ (ns,fl) c.tok c.st (n:Int) m (can.drop t.1) t.2.2.1 t.2.2.2=mJ (ns,fl) c.tok c.st (n:Int) m can s []∧Srch w B t.2.1 t.2.2.1 nx∧dK c t.2.1∧Chg (iO c) w0 w∧(∀b,iO t.2.1 b→iO c b∨w0.heap.size≤b)∧Own w w0.heap.size 149 cZ t.2.1.xt t.2.2.2∧t.2.2.2.length≤t.1
   ∧n<t.2.2.1.1.length∧t.2.2.1.1.getD n []=m∧Sl w (Fb t.2.1 w) xo xc can) (fun t=>can.length -t.1) (0,c,s,[]) (by rw[hxt];exact O6) ⟨Nc _,by rw[KB],hS.ext hE1,⟨rfl,rfl,rfl,rfl,rfl,rfl,rfl⟩,.ofExt hE1,fun _ h=>.inl h,by rw[hxt];exact Own.nil,MM _,hn,hmd.symm,
   G.mono Pq (fun b f=>⟨by show c.lo≤b;have:=f.1;have:=hlo;omega,f.2,fun h=>by have:=(hbg b h).2;have:=f.1;omega⟩)⟩ ?_
 clear o G P D Z Q l hS;rintro⟨i,d,r,out⟩ w2 ⟨hi,M,hS,hsx,hC,K,X,hol,hrn,hrm,G⟩
 dsimp only at hi M hS hsx hC K X hol hrn hrm G⊢
 obtain⟨sb,mb,mv,nv,ov,mvs,nvs,p1,p2,tok,st,N,xt,lo⟩:=d;obtain⟨q1,q2,q3,q4,q5,q6,q7⟩:=hsx;dsimp only at q1 q2 q3 q4 q5 q6 q7 X
 subst q1 q4 q5 q7;rw[I]at q2
 rw[H]at q3
 rw[J]at q6
 subst q2 q3 q6;have hz2:=hC.size;have hB2:B≤w2.heap.size:=MN y hz2;have hbg2:=iP hS;refine Qt ?_;apply CW.cond rfl<;>intro h
 ·have hi':i<can.length:=by simp at h;omega
  rw[Kx hi',mJ]at M
  have o:=hS.blk;refine Rb ?_;refine eB rfl rfl rfl rfl rfl G hi' rfl Pg (fun q=>?_);generalize can[i]=k at*
  refine Qt ?_;refine WL.build rfl rfl rfl rfl ?_;refine Rk ?_;refine WL.st rfl rfl rfl o rfl rfl Pr (fun L E R=>?_);have hS3:=hS.last (fr:=((n:Int),k)) R E;have hC3:Chg (iO c) w0 L:=hC.stepG R (fun b h=>by cases h;exact K _ (.inl rfl));have hxs3:=Fb.to G ((Chg.refl _ w2).grown R (fun g h=>by cases h;exact .inl rfl)) (fun _ h=>.inl h);have hxo3:=X.keptN R (fun g a e=>hS.dis.d05 g e.symm a);obtain⟨ao,ac,Q,Y,D,mo,mc,l,Z⟩:=O hS3 ⟨hrn,hrm⟩;dsimp only at Q Y D l
  subst Q;have o:=E;have A:Ext L (drew L):=Ext.drew L;have hSE:∀w1,(fun x=>Ext L x) w1→Ext L w1:=fun _ h=>h
  have hB3:B≤L.heap.size:=MN y hC3.size;have hs3:=Lw.at hs hC3 y hBb;have hf3:=Lw.at hf hC3 y hBb;clear E R;refine PP ?_;refine aF (fun x=>Ext L x) [(0,true),(1,true),(2,true),(3,true),(4,true),(5,true),(6,true),(7,true),(8,true),(9,true),(10,true),(11,true),(12,true),(13,false),(14,true),(15,true),(16,true),(17,true),(18,true)] mixed O8 A ?_;refine RO ?_;refine bY (w:=L) (F:=c7 L) (fun z hz b f=>hz.block b f) rfl rfl rfl rfl rfl rfl rfl D Y Pg (fun u q hu=>?_);obtain⟨rfl,_⟩:=hu.raw;rw[l];refine RE ?_;refine cr rfl (WL.call rfl rfl rfl (bL (drew L) ((Lw.old hs3 hB3).up A) ((Lw.old hf3 hB3).up A) (Z.up A) k) ?_);rintro _ w4 ⟨x,rfl,j,e4⟩
  have W:=A.trans e4;refine WL.nil (a_ W ?_);refine RR ?_;have hS4:=hS3.ext W;have hC4:=hC3.stepE W;have hxs4:=Fb.to hxs3 (.ofExt W) (fun _ h=>.inl h);have hxo4:=hxo3.extN W;have hlt3:∀b,iO ⟨c.sb,mb,.slice ao mvs.length ac,nv,ov,mvs,nvs,.slice so ns.length sc,.slice fo fl.length fc,c.tok,c.st,fl.length,xt,c.lo⟩ b→b<L.heap.size:=fun b f=>(iP hS3 b f).2
  by_cases he:(pj (ns,fl) m k).2=0
  case neg=>
   have hz1:((pj (ns,fl) m k).2 != 0)=true:=by simpa using he
   rw[OK he]at M
   rw[←M];refine Qt ?_;rw[hz1];refine QK ?_;exact bf rfl rfl rfl ⟨_,_,rfl,hS4,⟨rfl,I.symm,H.symm,rfl,rfl,J.symm,rfl⟩,hC4,K,Own.nil,fun g a=>by cases a⟩
  rw[OJ (by simp[he])]at M
  have hmk4:=py hmk he;have hT4:=yN hmk4;rw[he];generalize (pj (ns,fl) m k).1=m' at*
  have hyT:=j.rowT (F:=Fb ⟨c.sb,mb,.slice ao mvs.length ac,nv,ov,mvs,nvs,.slice so ns.length sc,.slice fo fl.length fc,c.tok,c.st,fl.length,xt,c.lo⟩ w4) (fun g a=>⟨by have:=(j.lt g a).1;have:=A.size;have:=hlo;dsimp only;omega,(j.lt g a).2.1,fun h=>by have:=hlt3 g h;have:=(j.lt g a).1;have:=A.size;omega⟩);obtain⟨yo,yc,rfl,hys⟩:=j.slF (F':=Fb ⟨c.sb,mb,.slice ao mvs.length ac,nv,ov,mvs,nvs,.slice so ns.length sc,.slice fo fl.length fc,c.tok,c.st,fl.length,xt,c.lo⟩ w4) Pj (fun g a=>⟨by have:=(j.lt g a).1;have:=A.size;have:=hlo;dsimp only;omega,(j.lt g a).2.1,fun h=>by have:=hlt3 g h;have:=(j.lt g a).1;have:=A.size;omega⟩);refine Qv ?_;refine WL.build rfl rfl rfl rfl ?_;refine WL.call rfl rfl rfl (F0 w4 hS4 (MN y hC4.size) hys hyT hmk4.1 hT4 ((n:Int),k)) ?_;rintro _ w5 ⟨C,rfl,V,hsc,hC5,hby5⟩
  dsimp only at V hsc
  have hpe:CD c.tok c.st (r.1,r.2.1,((n:Int),k)) m' ((n:Int),k)=CD c.tok c.st r m' ((n:Int),k):=rfl;rw[hpe]at V⊢
  have hby':∀b,iO C b→iO c b∨w0.heap.size≤b:=fun b h=>(hby5 b h).elim (K b) (fun h=>.inr (MN hC4.size h))
  have hC6:Chg (iO c) w0 w5:=hC4.step (bI hC5) K;have hxs5:=Fb.to hxs4 (bI hC5) hby5 (MI hsc.2.2.2.2.2.2.2);have U:=hS4.dis;have hxo5:Own w5 w0.heap.size 149 cZ xt out:=hxo4.chg hC5 (fun b f hbb=>by
   rcases hbb with h|h|h|h|h|h
   ·exact U.d05 b (by rw[h]) f
   ·exact U.d15 b (by rw[h]) f
   ·exact U.d25 b h f
   ·exact U.d35 b h f
   ·exact U.d45 b h f
   ·exact h)
  obtain⟨g1,g2,g3,g4,g5,g6,g7,g8⟩:=hsc;dsimp only at g1 g2 g3 g4 g5 g6 g7 g8
  have hgr:=rL (CE (tok:=c.tok) (st:=c.st) (s:=r) (m:=m') (fr:=((n:Int),k))) hrn hrm;by_cases T:(CD c.tok c.st r m' ((n:Int),k)).2.2=0
  case neg=>
   have hz1:((CD c.tok c.st r m' ((n:Int),k)).2.2 != 0)=true:=by simpa using T
   rw[OK T]at M
   rw[←M];refine Qt ?_;rw[hz1];refine QK ?_;exact bf rfl rfl rfl ⟨C,_,rfl,V,⟨g1,by rw[g2,I],by rw[g3,H],g4,g5,by rw[g6,J],g8⟩,hC6,hby',Own.nil,fun g a=>by cases a⟩
  rw[OJ (by simp[T])]at M
  rw[T];generalize CD c.tok c.st r m' ((n:Int),k)=pe at*
  obtain⟨r',to,er⟩:=pe;dsimp only at M V hgr T⊢
  have hC5z:=hC6.size;refine Qv ?_;refine WL.build rfl rfl rfl rfl ?_;refine dW (α:=Int×Int) (F:=cZ) (bytes:=16) (yv:=(k,to)) rfl rfl Pg rfl rfl Pg hxo5 (Rd.mkPr (c1:=[Py k]) (c2:=[Py to]) (C5 _ _ _) (C5 _ _ _)) hC5z Pj O9 Pb O7 (fun xt' w6 p6 ho6 hg6 hnb6=>?_);rw[←g7]at hg6 hnb6
  obtain⟨hS6,hb6⟩:=V.grow hg6 hnb6 (fun g a=>⟨MN y (ho6.lt g a).1,(ho6.lt g a).2.1⟩);have hxlt:∀g,C.xt.ownBlock=some g→w0.heap.size≤g:=fun g a=>by rw[g7]at a;exact(hxo5.lt g a).1
  have hC7:=hC6.stepG hg6 (fun b f=>.inr (hxlt b f));have hxs6:=Fb.to hxs5 ((Chg.refl _ w5).grown hg6 (fun g a=>.inr (.inr (.inr (.inr (.inr a)))))) hb6;refine Qc ?_;refine EX.back (i+1,⟨C.sb,C.mb,C.mv,C.nv,C.ov,C.mvs,C.nvs,C.p1,C.p2,C.tok,C.st,C.N,xt',C.lo⟩,r',out++[(k,to)]) O6 ⟨hi',M,hS6,⟨g1,by rw[g2,I],by rw[g3,H],g4,g5,by rw[g6,J],g8⟩,hC7,fun b f=>(hb6 b f).elim (hby' b) (fun h=>.inr (MN hC5z h)),ho6,by simp;omega,hgr.1,hgr.2,hxs6⟩ Pa
 ·obtain rfl:i=can.length:=by simp at h;omega
  rw[Kz,mJ]at M
  rw[←M];refine P_ ?_;exact bf rfl rfl rfl ⟨_,_,rfl,hS,⟨rfl,I.symm,H.symm,rfl,rfl,J.symm,rfl⟩,hC,K,X,fun g a=>a⟩
instance uJ:IsT Tryz.prog 75 Raw:=IsT.of O8 N9 rfl
instance uK:IsZ Tryz.prog 75 (⟨.slice none 0 0⟩:Raw) 24:=IsZ.of (z:=.slice none 0 0) O8 (fun _ _=>⟨rfl,rfl⟩)
theorem rI(w:World)(row:Option Nat):w.grownBy w row:=⟨rfl,rfl,rfl,MM _,fun _ _ _=>rfl⟩
theorem Srch.pushN{w o m:World}{B:Nat}{c:SC}{s:Sr}{nx:List (List cE)}{nv':Value}{xo:Option Addr}{xc:Nat}{i:List cE}(h:Srch w B c s nx)(D:B≤w.heap.size)(A:Sl w (Fb c w) xo xc i)(p:RowT (Fb c w) w 2 (.slice xo i.length xc))
  (C:Own o B 75 cZ nv' (c.nvs++[(⟨.slice xo i.length xc⟩:Raw)])) (j:w.grownBy o c.nv.ownBlock) (hnb:∀g,nv'.ownBlock=some g→c.nv.ownBlock=some g∨w.heap.size≤g) (d:o.grownBy m (some c.sb))
  (q:Blk m c.sb 98 [c.p1,c.p2,Py c.tok,Py c.st,c.mv,nv',.map (some c.mb),c.ov,Py s.2.2.1,Py s.2.2.2]):
  Srch m B ⟨c.sb,c.mb,c.mv,nv',c.ov,c.mvs,c.nvs++[(⟨.slice xo i.length xc⟩:Raw)],c.p1,c.p2,c.tok,c.st,c.N,c.xt,c.lo⟩ s (nx++[i])∧Chg (busyI c) w m∧
   ∀b,iO ⟨c.sb,c.mb,c.mv,nv',c.ov,c.mvs,c.nvs++[(⟨.slice xo i.length xc⟩:Raw)],c.p1,c.p2,c.tok,c.st,c.N,c.xt,c.lo⟩ b→iO c b∨w.heap.size≤b:=by
 have hd:=h.dis;have n:=iP h;have l:Chg (busyI c) w m:=((Chg.refl _ w).grown j (fun g j=>.inr (.inr (.inr (.inl j))))).grown d Pp;have f:∀b,iO ⟨c.sb,c.mb,c.mv,nv',c.ov,c.mvs,c.nvs++[(⟨.slice xo i.length xc⟩:Raw)],c.p1,c.p2,c.tok,c.st,c.N,c.xt,c.lo⟩ b→iO c b∨w.heap.size≤b:=by
  intro b q
  rcases q with h|h|h|h|h|h
  ·exact .inl (.inl h)
  ·exact .inl (.inr (.inl h))
  ·exact .inl (.inr (.inr (.inl h)))
  ·exact(hnb b h).imp (fun h=>.inr (.inr (.inr (.inl h)))) id
  ·exact .inl (.inr (.inr (.inr (.inr (.inl h)))))
  ·exact .inl (.inr (.inr (.inr (.inr (.inr h)))))
 have na:∀{a:Option Nat},ap a c.nv.ownBlock→(∀g,a=some g→g<w.heap.size)→ap a nv'.ownBlock:=fun k kl=>(k.sym.new hnb kl).sym
 have n0:ap (some c.sb) nv'.ownBlock:=na hd.d03 (fun g e=>by cases e;exact(n _ (.inl rfl)).2);have n1:ap (some c.mb) nv'.ownBlock:=na hd.d13 (fun g e=>by cases e;exact(n _ (.inr (.inl rfl))).2);have z:ap c.mv.ownBlock nv'.ownBlock:=na hd.d23 (fun g e=>(n _ (.inr (.inr (.inl e)))).2);have u:ap c.ov.ownBlock nv'.ownBlock:=na hd.d34.sym (fun g e=>(n _ (.inr (.inr (.inr (.inr (.inl e)))))).2);have r:ap c.xt.ownBlock nv'.ownBlock:=na hd.d35.sym (fun g e=>(n _ (.inr (.inr (.inr (.inr (.inr e)))))).2);refine⟨⟨q,(h.num.kept j (fun e=>hd.d13 _ rfl e.symm)).kept d (fun e=>hd.d01 (Nn e).symm),(h.mo.keptN j (fun g k e=>hd.d23 g k e.symm)).keptN d (fun g k e=>hd.d02 g e.symm k),C.keptN d (fun g k e=>n0 g e.symm k),(h.oo.keptN j (fun g k e=>hd.d34 g e.symm k)).keptN d (fun g k e=>hd.d04 g e.symm k),
  h.mi.to (bI l) f,(h.ni.to (bI l) f).push (Fb.to A (bI l) f) (Fb.toT p (bI l) f),h.ge,h.lob,(fun g k=>⟨(h.xo g k).1,MQ (h.xo g k).2 l.size⟩),
  ⟨hd.d01,hd.d02,n0,hd.d04,hd.d12,n1,hd.d14,z,hd.d24,u.sym,hd.d05,hd.d15,hd.d25,r.sym,hd.d45⟩,h.ok,h.nd,h.lim⟩,l,f⟩
theorem mK{p:cI}{tok st n:Int}{m:List Int}:∀(l:List Int) (s:Sr) (out:List cE),s.1.length≤(mJ p tok st n m l s out).1.1.length
 |[],s,out=>MM _
 |k::r,s,out=>by
  rw[mJ];split
  ·exact MM _
  have h:s.1.length≤(CD tok st s (pj p m k).1 (n,k)).1.1.length:=by
   rcases CE (tok:=tok) (st:=st) (s:=s) (m:=(pj p m k).1) (fr:=(n,k))with h|h<;>rw[h]
   ·exact MM _
   ·simp
  split
  ·exact h
  ·exact MN h (mK r _ _)
theorem mI{p:cI}{tok st:Int}{n:Nat}{s:Sr}:s.1.length≤(mH p tok st n s).1.1.length:=mK _ _ _
set_option maxHeartbeats 2000000 in
theorem Ec(w0:World){so fo:Option Addr}{sc fc:Nat}{ns:List cG}{fl:List cF}(hs:Sl w0 (c7 w0) so sc ns)(hf:Sl w0 (c7 w0) fo fc fl)(tok st:Int):
  Rt Tryz.prog 28 [Cq so sc fo fc ns.length fl.length,Py tok,Py st].toArray w0 fun v w'=>Ext w0 w'∧((DQ (ns,fl) tok st≠0∧v=.tuple ⟨[.pointer none,Py (DQ (ns,fl) tok st)]⟩)∨
   (DQ (ns,fl) tok st=0∧∃c,v=.tuple ⟨[Pz c.sb,Py (runB (ns,fl) tok st).2.2]⟩∧Srch w' w0.heap.size c (runB (ns,fl) tok st).1 (runB (ns,fl) tok st).2.1∧c.lo=w0.heap.size)):=by
 refine dF Tryz.func28 Tryz.ntmps28 rfl rfl ?_;refine PB ?_;refine dX rfl rfl rfl fun w1 C e1=>?_
 refine Q4 ?_;refine WL.call rfl rfl rfl (c6 w1 (hs.up e1) (hf.up e1)) ?_;rintro _ V ⟨x,rfl,l,e2⟩
 have C:=C.ext e2;have U:=e1.trans e2;unfold DQ;by_cases P:(F4 (ns,fl)).2=0
 case neg=>
  have E:((F4 (ns,fl)).2 != 0)=true:=by simpa using P
  rw[OK P];refine Qt ?_;rw[E];refine Q6 ?_;exact bf rfl rfl rfl ⟨U,.inl ⟨P,rfl⟩⟩
 rw[OJ (by simp[P]),P];obtain⟨hc0,hse,hl60⟩:=F5 P;have hpok:=jM hc0;have hf30:=hpok.f;dsimp only at hf30
 by_cases ha:tok<1∨tok>9∨st<1∨st>200
 ·have X:DE tok st=1:=by unfold DE;rw[OK ha]
  rw[X];have fin:∀(Q:Exit→Act→World→Prop),True:=fun _=>trivial
  refine Qv ?_;by_cases h1:tok<1
  ·rw[OC h1]
   refine Q6 ?_;exact bf rfl rfl rfl ⟨U,.inl ⟨by decide,rfl⟩⟩
  rw[Oz h1];refine Ri ?_;by_cases h2:tok>9
  ·rw[OC h2]
   refine Q6 ?_;exact bf rfl rfl rfl ⟨U,.inl ⟨by decide,rfl⟩⟩
  rw[Oz h2];refine Ri ?_;by_cases h3:st<1
  ·rw[OC h3]
   refine Q6 ?_;exact bf rfl rfl rfl ⟨U,.inl ⟨by decide,rfl⟩⟩
  rw[Oz h3];refine PN ?_;rw[OC (show st>200 by omega)];refine Q6 ?_;exact bf rfl rfl rfl ⟨U,.inl ⟨by decide,rfl⟩⟩
 have X:DE tok st=0:=by unfold DE;rw[OJ ha]
 rw[X];refine Qv ?_;rw[Oz (show¬tok<1 by omega)];refine Ri ?_;rw[Oz (show¬tok>9 by omega)];refine Ri ?_;rw[Oz (show¬st<1 by omega)];refine PN ?_;rw[Oz (show¬st>200 by omega)];refine QN ?_;refine fd (k:=235) rfl rfl (fun H=>?_);have e3:Ext V (V.alloc (.map #[] 0)):=Ext.alloc V _;generalize V.alloc (.map #[] 0)=w3 at*
 have C:=C.ext e3;have U:=U.trans e3;refine WL.build rfl rfl rfl rfl ?_;refine dX rfl rfl rfl fun w4 B e4=>?_
 have hlm:=H.lt;have hz2:=e1.size;have hz3:=e2.size;have hz4:=e3.size;have C:=C.ext e4;have K:=U.trans e4;have hS0:Srch w4 w0.heap.size ⟨w3.heap.size,V.heap.size,.slice none 0 0,.slice none 0 0,.slice none 0 0,[],[],.slice so ns.length sc,.slice fo fl.length fc,tok,st,fl.length,.slice none 0 0,w0.heap.size⟩ ([],[],(0,0)) []:=by
  have no:∀{a:Option Nat},ap a none:=fun g _ h=>by cases h
  have no2:∀{a:Option Nat},ap none a:=fun g h _=>by cases h
  refine⟨B,H.ext e4,Own.nil,Own.nil,Own.nil,⟨rfl,fun i h _=>absurd h O_,fun i h=>absurd h O_⟩,⟨rfl,fun i h _=>absurd h O_,fun i h=>absurd h O_⟩,⟨by dsimp only;omega,by dsimp only;omega⟩,MM _,(fun g h=>by cases h),⟨by dsimp only;omega,no,no,no,no,no,no,no2,no2,no2,no,no,no2,no2,no2⟩,(fun m h=>by cases h),List.Pairwise.nil,⟨by dsimp only;simp;omega,by dsimp only;omega,by dsimp only;omega,rfl,by dsimp only;omega⟩⟩
 refine Q4 ?_;refine WL.call rfl rfl rfl (aq w4 (hs.up K) (hf.up K)) ?_;rintro _ w5 ⟨x,rfl,l,e5⟩
 rw[OK P]at l
 have hS5:=hS0.ext e5;have hE5:=K.trans e5;have hbm:=h_ (p:=(ns,fl));have Y:=fun b h=>(iP hS0 b h).2
 have W:=l.rowT (F:=Fb ⟨w3.heap.size,V.heap.size,.slice none 0 0,.slice none 0 0,.slice none 0 0,[],[],.slice so ns.length sc,.slice fo fl.length fc,tok,st,fl.length,.slice none 0 0,w0.heap.size⟩ w5) (fun g z=>⟨by have:=(l.lt g z).1;have:=K.size;dsimp only;omega,(l.lt g z).2.1,fun h=>by have:=Y g h;have:=(l.lt g z).1;omega⟩);obtain⟨xo,xc,rfl,M⟩:=l.slF (F':=Fb ⟨w3.heap.size,V.heap.size,.slice none 0 0,.slice none 0 0,.slice none 0 0,[],[],.slice so ns.length sc,.slice fo fl.length fc,tok,st,fl.length,.slice none 0 0,w0.heap.size⟩ w5) Pj (fun g z=>⟨by have:=(l.lt g z).1;have:=K.size;dsimp only;omega,(l.lt g z).2.1,fun h=>by have:=Y g h;have:=(l.lt g z).1;omega⟩);unfold runB;generalize hZ (ns,fl)=m0 at*
 refine Qt ?_;refine WL.build rfl rfl rfl rfl ?_;refine WL.call rfl rfl rfl (F0 w5 hS5 hE5.size M W hbm.1 (yN hbm) (-1,-1)) ?_;rintro _ w6 ⟨c,rfl,N,j,hC6,hby6⟩
 dsimp only at N j
 have hE6:Ext w0 w6:=(bI hC6).ext hE5 (fun b h=>(iP hS5 b h).1);by_cases hp:(CD tok st ([],[],(0,0)) m0 (-1,-1)).2.2=0
 case neg=>
  have E:((CD tok st ([],[],(0,0)) m0 (-1,-1)).2.2 != 0)=true:=by simpa using hp
  rw[OK hp];have R:=j.2.2.2.2.2.2.2;obtain⟨g1,_⟩:=j;dsimp only at g1 R
  refine Qt ?_;rw[E];refine Q6 ?_;exact bf rfl rfl rfl ⟨hE6,.inr ⟨rfl,c,by rw[g1],N,R⟩⟩
 rw[OJ (by simp[hp]),hp];generalize (CD tok st ([],[],(0,0)) m0 (-1,-1)).1=s0 at*
 clear hS0 hS5 M l Y B H hby6 hC6;refine QN ?_;refine CW.loop (S:=Nat×SC×Sr×List (List cE)) (fun t=>[(10,Pz w3.heap.size),(15,Py t.1)])
  (fun t w=>t.1≤t.2.2.1.1.length∧DM (ns,fl) tok st (201 -t.1) t.1 t.2.2.1 t.2.2.2=DM (ns,fl) tok st 201 0 s0 []∧Srch w w0.heap.size t.2.1 t.2.2.1 t.2.2.2∧t.2.1.xt=.slice none 0 0∧t.2.2.2.length=t.1∧t.2.1.sb=w3.heap.size∧t.2.1.p1=.slice so ns.length sc∧t.2.1.p2=.slice fo fl.length fc∧t.2.1.tok=tok∧t.2.1.st=st∧t.2.1.N=fl.length∧t.2.1.lo=w0.heap.size∧Ext w0 w)
  (fun t=>201 -t.1) (0,c,s0,[]) O6 ⟨Nc _,rfl,N,j.2.2.2.2.2.2.1,rfl,j.1,j.2.1,j.2.2.1,j.2.2.2.1,j.2.2.2.2.1,j.2.2.2.2.2.1,j.2.2.2.2.2.2.2,hE6⟩ ?_
 clear N j;rintro⟨n,c,s,nx⟩ w7 ⟨hn,L,hS,hxt,hnl,q1,q2,q3,q4,q5,q6,q7,u⟩
 dsimp only at hn L hS hxt hnl q1 q2 q3 q4 q5 q6 q7 u⊢
 have T:=hS.lim;have hml:=hS.mi.len;obtain⟨ao,ac,hmv⟩:=hS.mo.val;have B:=hS.blk;rw[hmv,q1,hml]at B
 have hn200:s.1.length≤200:=by have:=T.1;have:=T.2.2.1;omega
 obtain⟨f,hf201⟩:∃f,201 -n=f+1:=⟨200 -n,by omega⟩;rw[hf201,DM]at L
 refine QE ?_;apply CW.cond rfl<;>intro h
 ·have hn':n<s.1.length:=by simp at h;omega
  rw[OK hn']at L
  refine PX ?_;rw[←q1];refine WL.call rfl rfl rfl (mP w7 hS u.size (hs.at u) (hf.at u) q2 q3 q6 P hxt hn') ?_;rintro _ w8 ⟨c',x,rfl,J,hsx,hC8,hby8,d,hxx⟩
  rw[q4,q5]at J d⊢
  obtain⟨g1,g2,g3,g4,g5,g6,g7⟩:=hsx;have O:Ext w0 w8:=hC8.ext u (fun b h=>(iP hS b h).1);by_cases he:(mH (ns,fl) tok st n s).2.2=0
  case neg=>
   have E:((mH (ns,fl) tok st n s).2.2 != 0)=true:=by simpa using he
   rw[OK he]at L
   rw[←L];refine Qt ?_;rw[E];refine QK ?_;exact bf rfl rfl rfl ⟨O,.inr ⟨rfl,c',by rw[g1],J,by rw[g7,q7]⟩⟩
  rw[OJ (by simp[he])]at L
  rw[he];have Z:=mI (p:=(ns,fl)) (tok:=tok) (st:=st) (n:=n) (s:=s);generalize mH (ns,fl) tok st n s=ee at*
  obtain⟨s',es,er⟩:=ee;dsimp only at L J d he Z⊢
  have q:=J.dis;obtain⟨D,hb9⟩:=J.grow (x':=.slice none 0 0) (rI w8 _) (fun g h=>by cases h) (fun g h=>by cases h);have W:=d.rowT (F:=Fb ⟨c'.sb,c'.mb,c'.mv,c'.nv,c'.ov,c'.mvs,c'.nvs,c'.p1,c'.p2,c'.tok,c'.st,c'.N,.slice none 0 0,c'.lo⟩ w8) (fun g z=>⟨by have:=(d.lt g z).1;have:=u.size;dsimp only;omega,(d.lt g z).2.1,fun h=>by
   have o:=hxx g z;rcases h with h|h|h|h|h|h
   ·exact q.d05 g (by rw[h]) o
   ·exact q.d15 g (by rw[h]) o
   ·exact q.d25 g h o
   ·exact q.d35 g h o
   ·exact q.d45 g h o
   ·cases h⟩)
  obtain⟨xo,xc,rfl,M⟩:=d.slF (F':=Fb ⟨c'.sb,c'.mb,c'.mv,c'.nv,c'.ov,c'.mvs,c'.nvs,c'.p1,c'.p2,c'.tok,c'.st,c'.N,.slice none 0 0,c'.lo⟩ w8) Pj (fun g z=>⟨by have:=(d.lt g z).1;have:=u.size;dsimp only;omega,(d.lt g z).2.1,fun h=>by
   have o:=hxx g z;rcases h with h|h|h|h|h|h
   ·exact q.d05 g (by rw[h]) o
   ·exact q.d15 g (by rw[h]) o
   ·exact q.d25 g h o
   ·exact q.d35 g h o
   ·exact q.d45 g h o
   ·cases h⟩)
  have I:=D.no;have A:=D.blk;have hnl9:=D.ni.len;dsimp only at I A hnl9
  obtain⟨no,nc,G⟩:=I.val;rw[G,g1]at A
  refine QI ?_;refine dW (α:=Raw) (F:=cZ) (bytes:=24) (yv:=(⟨.slice xo es.length xc⟩:Raw)) rfl rfl Pg rfl rfl Pg (G▸I) (Rd.mkRaw _ _ _ rfl) O.size Pj O9 Pb O7 (fun nv' w9 p9 ho9 hg9 hnb9=>?_);obtain⟨no',nc',rfl⟩:=ho9.val;have r:=A.kept hg9 (fun e=>D.dis.d03 c.sb (by dsimp only;rw[g1]) (by dsimp only;rw[G];exact e.symm));refine Rk ?_;refine WL.st rfl rfl rfl r rfl rfl Pr (fun w10 r hg10=>?_);obtain⟨hS10,hC10,hb10⟩:=D.pushN O.size M W ho9 (by dsimp only;rw[G];exact hg9) (by dsimp only;rw[G];exact hnb9) (by dsimp only;rw[g1];exact hg10) (by dsimp only;rw[g1];exact r);have hE10:Ext w0 w10:=(bI hC10).ext O (fun b h=>(iP D b h).1);refine Qc ?_;refine EX.back (n+1,_,s',nx++[es]) O6 ⟨?_,?_,hS10,rfl,by simp[hnl],by dsimp only;rw[g1,q1],by dsimp only;rw[g2,q2],by dsimp only;rw[g3,q3],by dsimp only;rw[g4,q4],by dsimp only;rw[g5,q5],by dsimp only;rw[g6,q6],by dsimp only;rw[g7,q7],hE10⟩ Pa
  ·dsimp only;omega
  ·rw[show 201 -(n+1)=f by omega];exact L
 ·obtain rfl:n=s.1.length:=by simp at h;omega
  rw[OJ (MO _)]at L
  rw[←L];refine P_ ?_;exact bf rfl rfl rfl ⟨u,.inr ⟨rfl,c,by rw[q1],hS,q7⟩⟩
def GF(lo hi:Nat)(x y:Value):Nat→Prop:=fun b=>lo≤b∧b<hi∧x.ownBlock≠some b∧y.ownBlock≠some b
structure LOut{α:Type}[Rep α](w:World)(lo hi:Nat)(x y:Value)(t:TypeId)(v:Value)(vs:List Raw)(xs:List (List α)):Prop where
 own:Own w lo t cZ v vs
 top:∀g,v.ownBlock=some g→g<hi
 len:vs.length=xs.length
 el:∀i (h:i<vs.length) (h':i<xs.length),∃ao cap,vs[i].v=.slice ao xs[i].length cap∧Sl w (GF lo hi x y) ao cap xs[i]
 ty:∀i (h:i<vs.length),RowT (GF lo hi x y) w (sz α) vs[i].v
section
variable {α:Type}[Rep α]{w w':World}{lo hi:Nat}{x y v:Value}{t:TypeId}{vs:List Raw}{xs:List (List α)}
theorem LOut.to(h:LOut w lo hi x y t v vs xs)(a:∀b,lo≤b→b<hi→w'.heap[b]?=w.heap[b]?):LOut w' lo hi x y t v vs xs:=
 ⟨h.own.keep (fun g c=>a g (h.own.lt g c).1 (h.top g c)) Pj,h.top,h.len,fun i h1 h2=>by
  obtain⟨ao,cap,e,d⟩:=h.el i h1 h2;exact⟨ao,cap,e,d.mono (fun b h=>a b h.1 h.2.1) fun _ h=>h⟩,fun i h1=>(h.ty i h1).to fun b h _=>⟨h,a b h.1 h.2.1⟩⟩
theorem LOut.low(h:LOut w lo hi x y t v vs xs){lo':Nat}(a:lo'≤lo):LOut w lo' hi x y t v vs xs:=
 ⟨h.own.low a,h.top,h.len,fun i h1 h2=>by
  obtain⟨ao,cap,e,c⟩:=h.el i h1 h2;exact⟨ao,cap,e,c.mono Pq fun b h=>⟨MN a h.1,h.2⟩⟩,fun i h1=>(h.ty i h1).to fun b h _=>⟨⟨MN a h.1,h.2⟩,rfl⟩⟩
theorem LOut.nil:LOut w lo hi x y t (.slice none 0 0) [] ([]:List (List α)):=⟨Own.nil,(fun g h=>by cases h),rfl,fun i h _=>absurd h O_,fun i h=>absurd h O_⟩
theorem LOut.rd(h:LOut w lo hi x y t v vs xs){F:Nat→Prop}(hF:∀b,lo≤b→b<hi→F b):Rd w F v xs:=by
 obtain⟨ao,cap,e,c⟩:=h.own.slF (F':=F) Pj (fun g k=>hF g (h.own.lt g k).1 (h.top g k));have d:Sl w F ao cap xs:=by
  refine⟨by rw[←h.len];exact c.le,c.mx,c.nil,fun i hi=>?_⟩;have a:i<vs.length:=by rw[h.len];exact hi
  obtain⟨b,off,p,j,q,n,m⟩:=c.el i a;obtain⟨rfl,h1⟩:=m;obtain⟨io,ic,o,f⟩:=h.el i a hi;exact⟨b,off,p,j,[vs[i].v],n,io,ic,by rw[o],f.mono Pq (fun b l=>hF b l.1 l.2.1)⟩
 rw[e,h.len];exact d.rd
end
theorem bH(w0:World){so fo:Option Addr}{sc fc:Nat}{ns:List cG}{fl:List cF}(p:Sl w0 (c7 w0) so sc ns)(hf:Sl w0 (c7 w0) fo fc fl)(tok st:Int):
  Rt Tryz.prog 10 [Cq so sc fo fc ns.length fl.length,Py tok,Py st].toArray w0 fun v w'=>∃x y mvs nvs,v=.tuple ⟨[.agg [x,y].toArray,Py (n_ (ns,fl) tok st).2]⟩∧LOut w' w0.heap.size w'.heap.size x y 39 x mvs (n_ (ns,fl) tok st).1.1∧LOut w' w0.heap.size w'.heap.size x y 75 y nvs (n_ (ns,fl) tok st).1.2∧Ext w0 w':=by
 refine dF Tryz.func10 Tryz.ntmps10 rfl rfl ?_;refine PB ?_;refine dX rfl rfl rfl fun I r C=>?_
 skip;refine WL.alloc rfl rfl (fun s a H=>?_);have r:=r.ext H;have B:=C.trans H;have L:=a.lt;refine Q4 ?_;refine WL.call rfl rfl rfl (Ec s (p.up B) (hf.up B) tok st) ?_;rintro _ n ⟨G,J⟩
 have a:=a.ext G;have f:=B.trans G;unfold n_;rcases J with⟨u,rfl⟩|⟨u,c,rfl,hS,D⟩
 ·rw[OK u]
  have k:(DQ (ns,fl) tok st != 0)=true:=by simpa using u
  refine Qt ?_;rw[k];refine QB ?_;refine WL.build (parts:=[]) rfl rfl rfl rfl ?_;refine Ri ?_;refine WL.st rfl rfl rfl a rfl rfl Pr (fun o a d=>?_);refine PS ?_;exact bh rfl rfl rfl a rfl ⟨_,_,[],[],rfl,LOut.nil,LOut.nil,f.grown d f.size (fun g j=>by cases j;exact C.size)⟩
 rw[OJ (by simp[u])];by_cases z:(runB (ns,fl) tok st).2.2=0
 case neg=>
  rw[OK z];have k:((runB (ns,fl) tok st).2.2 != 0)=true:=by simpa using z
  refine Qt ?_;rw[k];refine QB ?_;refine WL.build (parts:=[]) rfl rfl rfl rfl ?_;refine Ri ?_;refine WL.st rfl rfl rfl a rfl rfl Pr (fun o a d=>?_);refine PS ?_;exact bh rfl rfl rfl a rfl ⟨_,_,[],[],rfl,LOut.nil,LOut.nil,f.grown d f.size (fun g j=>by cases j;exact C.size)⟩
 rw[OJ (by simp[z]),z];have q:=hS.blk;have K:c.sb≠I.heap.size:=by have:=hS.ge.1;omega
 obtain⟨ao,ac,m⟩:=hS.mo.val;obtain⟨no,M,l⟩:=hS.no.val;rw[m,l]at q
 refine Q5 ?_;refine WL.st rfl rfl rfl a rfl rfl Pr (fun o a d=>?_);have rdl:∀{α:Type} [Rep α] {t:TypeId} {v:Value} {vs:List Raw} {xs:List (List α)},Own n s.heap.size t cZ v vs→Inn n c vs xs→LOut o w0.heap.size o.heap.size c.mv c.nv t v vs xs:=by
  intro α _ t v vs xs E hi
  have F:∀b,Fb c n b→GF s.heap.size n.heap.size c.mv c.nv b:=fun b A=>⟨by rw[←D];exact A.1,A.2.1,fun e=>A.2.2 (.inr (.inr (.inl e))),fun e=>A.2.2 (.inr (.inr (.inr (.inl e))))⟩
  have h3:LOut n s.heap.size n.heap.size c.mv c.nv t v vs xs:=⟨E,fun g j=>(E.lt g j).2.1,hi.len,fun i h1 h2=>by
   obtain⟨ao,cap,e,p⟩:=hi.el i h1 h2;exact⟨ao,cap,e,p.mono Pq F⟩,fun i h1=>(hi.ty i h1).to fun b h _=>⟨F b h,rfl⟩⟩
  have h4:=(h3.to (w':=o) fun b h1 h2=>d.block b h2 Po).low B.size;exact⟨h4.own,fun g j=>MQ (h4.top g j) d.size,h4.len,fun i k1 k2=>by
   obtain⟨ao,cap,e,p⟩:=h4.el i k1 k2;exact⟨ao,cap,e,p.mono Pq fun b h=>⟨h.1,MQ h.2.1 d.size,h.2.2⟩⟩,fun i k1=>(h4.ty i k1).to fun b h _=>⟨⟨h.1,MQ h.2.1 d.size,h.2.2⟩,rfl⟩⟩
 refine PK ?_;exact bh rfl rfl rfl a rfl ⟨_,_,c.mvs,c.nvs,rfl,by rw[←m,←l];exact rdl hS.mo hS.mi,by rw[←m,←l];exact rdl hS.no hS.ni,f.grown d f.size (fun g j=>by cases j;exact C.size)⟩
theorem bE(w0:World){so fo:Option Addr}{sc fc:Nat}{ns:List cG}{fl:List cF}(a:Sl w0 (c7 w0) so sc ns)(hf:Sl w0 (c7 w0) fo fc fl)(tok st:Int):
  Rt Tryz.prog 10 [Cq so sc fo fc ns.length fl.length,Py tok,Py st].toArray w0 fun v w'=>∃x y,v=.tuple ⟨[.agg [x,y].toArray,Py (n_ (ns,fl) tok st).2]⟩∧Rd w' (c7 w') x (n_ (ns,fl) tok st).1.1∧Rd w' (c7 w') y (n_ (ns,fl) tok st).1.2∧Ext w0 w':=
 Rt.mono (bH w0 a hf tok st) fun v w' ⟨x,y,_,_,e,h1,h2,c⟩=>⟨x,y,e,h1.rd (fun b _ h=>h),h2.rd (fun b _ h=>h),c⟩
theorem Cells.hd'{w:World}{b o:Nat}{x:Value}{r:List Value}(h:Cells w b o (x::r)):Cells w b o [x]:=fun j u a=>by
 match j,a with
 |0,a=>exact h 0 u (by simpa using a)
theorem Sl.edge0{w:World}{F:Nat→Prop}{ao:Option Addr}{cap:Nat}{xs:List cE}(h:Sl w F ao cap xs){i:Nat}(hi:i<xs.length):∃b off,ao=some ⟨b,off,none⟩∧F b∧Cells w b (off+i*2) [Py xs[i].1]∧Cells w b (off+i*2+1) [Py xs[i].2]:=by
 obtain⟨b,off,e,d,f,a,c⟩:=h.el i hi;obtain⟨c1,c2,rfl,h1,h2⟩:=C8 c;rw[C3 h1,C3 h2]at a
 exact⟨b,off,e,d,a.hd',a.tl'⟩
theorem Sl.step0{w:World}{F:Nat→Prop}{ao:Option Addr}{cap:Nat}{xs:List cK}(h:Sl w F ao cap xs){i:Nat}(hi:i<xs.length):∃b off,ao=some ⟨b,off,none⟩∧F b∧Cells w b (off+i*3) [Py xs[i].1]:=by
 obtain⟨b,off,e,d,f,a,c⟩:=h.el i hi;obtain⟨c1,c2,rfl,h1,h2⟩:=C8 c;rw[C3 h1]at a
 exact⟨b,off,e,d,a.hd'⟩
theorem C2{w:World}{F:Nat→Prop}{v:Value}{x:cE}(h:Rd w F v x):v=.agg [Py x.1,Py x.2].toArray:=by
 obtain⟨c1,c2,rfl,h1,h2⟩:=h.pr;rw[C3 h1,C3 h2];rfl
theorem q_{l:List cE}{j:Nat}(h:j<l.length):l.getD j (0,0)=l[j]:=by rw[KT,KY h];rfl
theorem rk{l:List (List cE)}{j:Nat}(h:j<l.length):l.getD j []=l[j]:=by rw[KT,KY h];rfl
theorem rl{l:List cK}{j:Nat}(h:j<l.length):l.getD j (0,0,0)=l[j]:=by rw[KT,KY h];rfl
theorem Fd{s:Nat}(a:s<62):IntKind.u64.wrap (1*2 ^ min ((s:Int)).toNat IntKind.u64.bits)=((2 ^ s:Nat):Int):=by
 have h1:min ((s:Int)).toNat IntKind.u64.bits=s:=by
  rw[Kb];exact MS (by show s≤64;omega)
 rw[h1,Ka];have h2:(2:Nat) ^ s<2 ^ 62:=M5 O9 a;have h3:((2:Int)) ^ s=((2 ^ s:Nat):Int):=by push_cast;rfl
 rw[h3];generalize (2:Nat) ^ s=q at*
 simp[IntKind.wrap,IntKind.bits,IntKind.signed]<;>omega
def RunAt(w:World)(sb:Nat)(sl:List cK)(nx:List (List cE)):Prop:=
 ∃(lo:Option Addr) (b:Nat) (mv:Value) (no:Option Addr) (a:Nat) (oo:Option Addr) (oc:Nat) (ao:Option Addr) (ac:Nat) (yo:Option Addr) (yc:Nat) (f e d c:Value),
  Blk w sb 129 [.slice lo sl.length b,mv,.slice no nx.length a,.slice oo (gz nx nx.length) oc,.slice ao nx.length ac,.slice yo nx.length yc,f,e,d,c]∧
  Sl w (c7 w) lo b sl∧Sl w (c7 w) no a nx∧Sl w (c7 w) oo oc (Ao nx nx.length)∧Sl w (c7 w) ao ac (gw nx nx.length)∧Sl w (c7 w) yo yc (yB nx nx.length)
theorem RunAt.up{w w':World}{sb:Nat}{sl:List cK}{nx:List (List cE)}(h:RunAt w sb sl nx)(a:Ext w w'):RunAt w' sb sl nx:=by
 obtain⟨lo,g,mv,no,f,oo,oc,ao,ac,yo,yc,e,d,c,b,i,h1,h2,h3,h4,j⟩:=h;exact⟨lo,g,mv,no,f,oo,oc,ao,ac,yo,yc,e,d,c,b,i.ext a,h1.up a,h2.up a,h3.up a,h4.up a,j.up a⟩
theorem atL_len{nx:List (List cE)}{k:Nat}:(gw nx k).length=k:=by simp[gw]
theorem manyL_len{nx:List (List cE)}{k:Nat}:(yB nx k).length=k:=by simp[yB]
theorem gx{nx:List (List cE)}{k m:Nat}(h:m<(gw nx k).length):(gw nx k)[m]=((gz nx m:Nat):Int):=by simp[gw]
theorem yC{nx:List (List cE)}{k m:Nat}(h:m<(yB nx k).length):(yB nx k)[m]=((yV nx m:Nat):Int):=by simp[yB]
theorem gA{nx:List (List cE)}(h:∀j,(nx.getD j []).length≤60):∀n,gz nx n≤60*n
 |0=>by rw[gE];omega
 |n+1=>by
  rw[gD];have:=gA h n;have:=h n;unfold yV;omega
theorem Au{sl:List cK}{nx:List (List cE)}(c:NxOk sl nx){j:Nat}(b:j<gz nx nx.length):
  ∃n i,n<nx.length∧i<yV nx n∧j=gz nx n+i∧(As nx j).2=(n:Int)∧((As nx j).1= -1∧nx.getD n []=[]∨0≤(As nx j).1∧(As nx j).1<sl.length∧i<(nx.getD n []).length∧As nx j=(((nx.getD n []).getD i (0,0)).1,(n:Int))):=by
 obtain⟨n,i,hn,hi,rfl⟩:=Aw b;refine⟨n,i,hn,hi,rfl,?_⟩;rw[At hn hi];by_cases h:nx.getD n []=[]
 ·rw[OK h];exact⟨rfl,.inl ⟨rfl,h⟩⟩
 ·rw[OJ h]
  have d:0<(nx.getD n []).length:=Lu.2 h;have a:i<(nx.getD n []).length:=by unfold yV at hi;omega
  have:=c.ed n hn _ (Lc a);rw[←q_ a]at this
  exact⟨rfl,.inr ⟨this.1,this.2.1,a,rfl⟩⟩
theorem f9(w0:World){sb m:Nat}{sl:List cK}{nx:List (List cE)}(hR:RunAt w0 sb sl nx)(n:NxOk sl nx)(H:m<nx.length):
  Rt Tryz.prog 49 [Pz sb,Py (m:Int)].toArray w0 fun v w'=>Own w' w0.heap.size 3 cZ v (fW nx m)∧Ext w0 w':=by
 obtain⟨lo,G,mv,no,E,oo,oc,ao,ac,yo,yc,B,A,z,y,p,h1,h2,h3,h4,x⟩:=hR;have u:=gA n.row m;have r:yV nx m≤60:=by have:=n.row m;unfold yV;omega
 have d:=n.n;have f:nx.length=(gw nx nx.length).length:=atL_len.symm;have e:nx.length=(yB nx nx.length).length:=manyL_len.symm;refine dE Tryz.func49 Tryz.ntmps49 rfl rfl ?_;refine P9 ?_;rw[show Value.slice yo nx.length yc=.slice yo (yB nx nx.length).length yc by rw[←e]];refine eB (i:=m) rfl rfl rfl rfl rfl x O7 (yC _) Pg (fun q=>?_);refine Qs ?_;refine CW.loop (S:=Nat×Value) (fun s=>[(0,Pz sb),(1,Py m),(5,s.2),(13,Py ((yV nx m:Nat):Int)),(14,Py s.1)])
  (fun s w=>s.1≤yV nx m∧Own w w0.heap.size 3 cZ s.2 ((List.range s.1).map fun i:Nat=>((gz nx m+i:Nat):Int))∧Ext w0 w) (fun s=>yV nx m -s.1) (0,.slice none 0 0) O6 ⟨Nc _,Own.nil,Ext.refl _⟩ ?_
 rintro⟨i,ov⟩ D ⟨hi,b,a⟩
 dsimp only at hi b a⊢
 have p:=p.ext a;refine Qt ?_;apply CW.cond rfl<;>intro h
 ·have k:i<yV nx m:=by simp only[OD]at h;omega
  clear h;refine QI ?_;rw[show Value.slice ao nx.length ac=.slice ao (gw nx nx.length).length ac by rw[←f]];refine eB (i:=m) rfl rfl rfl rfl rfl (h4.up a) O7 (gx _) Pg (fun q=>?_);refine Rw ?_;refine dW (α:=Int) (F:=cZ) (bytes:=8) (yv:=((gz nx m:Nat):Int)+(i:Int)) rfl rfl Pg rfl rfl Pg b Pt a.size Pj O9 (by unfold maxLen;simp;omega) Pc (fun ov' C q ho2 l o=>?_);have c:(List.range (i+1)).map (fun i:Nat=>((gz nx m+i:Nat):Int))=(List.range i).map (fun i:Nat=>((gz nx m+i:Nat):Int))++[((gz nx m:Nat):Int)+(i:Int)]:=by
   rw[Mb,LE];simp
  rw[←c]at ho2
  refine Qc ?_;exact EX.back (i+1,ov') O6 ⟨k,ho2,JG a l a.size (fun g t=>(b.lt g t).1)⟩ Pa
 have j:i=yV nx m:=by simp only[OA]at h;omega
 subst j;refine P_ ?_;exact be rfl rfl ⟨b,a⟩
theorem Dy(w0:World){sb j:Nat}{sl:List cK}{nx:List (List cE)}(hR:RunAt w0 sb sl nx)(l:NxOk sl nx)(w:j<gz nx nx.length):
  Rt Tryz.prog 47 [Pz sb,Py (j:Int)].toArray w0 fun v w'=>Own w' w0.heap.size 3 cZ v (zk nx j)∧Ext w0 w':=by
 have L:=hR;obtain⟨lo,lc,mv,no,nc,oo,oc,ao,ac,yo,yc,x1,x2,Z,Y,S,h1,h2,h3,h4,h5⟩:=hR;obtain⟨n,i,hn,hi,W,m,Q⟩:=Au l w;have X:=gA l.row n;have G:=l.n;have H:nx.length=(gw nx nx.length).length:=atL_len.symm;have D:gz nx nx.length=(Ao nx nx.length).length:=rfl;have I:(Ao nx nx.length)[j]'w=As nx j:=(q_ w).symm;unfold zk;refine dE Tryz.func47 Tryz.ntmps47 rfl rfl ?_;refine P9 ?_;rw[D];refine eC (i:=j) rfl rfl rfl rfl rfl h3 w Pg (fun u q b=>?_);rw[I]at b
 rw[C2 b];clear b;skip;refine WL.alloc rfl rfl (fun w1 f O=>?_);skip;refine WL.st rfl rfl rfl f rfl rfl Pr (fun d f p=>?_);have e:Ext w0 d:=JG O p O.size Pi;have S:=S.ext e;have hR:=L.up e;clear O p;refine QR ?_;by_cases a:(As nx j).1<0
 ·rw[OC a,OK a]
  refine QB ?_;refine WL.lit (F:=cZ) (ys:=[(j:Int)]) rfl rfl rfl rfl rfl (.cons Pt .nil) (by show 1*1≤16777216;decide) Pj (fun P E J=>?_);have N:Ext d P:=(JI _ _).grown J Pu Pn;refine PS ?_;exact be rfl rfl ⟨E.low e.size,e.trans N⟩
 rw[Oz a,OJ a];rcases Q with⟨Q,_⟩|⟨_,_,c,U⟩
 ·omega
 have K:=l.ed n hn _ (Lc c);rw[←q_ c]at K
 have x:GX nx j=(nx.getD n []).getD i (0,0):=by
  unfold GX;rw[m,Kb,show j -gz nx n=i by omega]
 rw[x];obtain⟨t,R⟩:∃t:Nat,((nx.getD n []).getD i (0,0)).2=(t:Int):=⟨((nx.getD n []).getD i (0,0)).2.toNat,by omega⟩;rw[R,Kb];rw[m]at f
 have g:∀z,(fun z:World=>Ext d z) z→Ext d z:=fun _ h=>h
 refine Q2 ?_;refine aF (fun z:World=>Ext d z) [(0,true),(1,true),(2,true),(3,true),(4,true),(5,true),(6,true),(7,true),(8,true),(9,true),(10,true),(11,true),(12,true),(13,true),(14,true),(15,true),(16,true),(17,true),(18,true),(19,true),(20,true),(21,true),(22,true),(23,false),(24,true)] mixed O8 (Ext.drew d) ?_;refine RK ?_;refine bZ (k:=n) g rfl rfl rfl rfl rfl rfl rfl Pl (h2.up e) hn Pg (fun u q b=>?_);rw[←rk hn]at b
 obtain⟨ro,rc,rfl,V⟩:=b.sl;refine RK ?_;rw[show Value.slice ao nx.length ac=.slice ao (gw nx nx.length).length ac by rw[←H]];refine bZ (k:=n) g rfl rfl rfl rfl rfl rfl rfl Pl (h4.up e) O7 Pg (fun u q b=>?_);rw[gx]at b
 obtain rfl:=b.int;have o:(j:Int) -((gz nx n:Nat):Int)=(i:Int):=by omega
 have T:=gA l.row nx.length;refine RN ?_;rw[o];clear b;have B:(nx.getD n [])[i].2=(t:Int):=by rw[←q_ c];exact R
 have A:t<nx.length:=by omega
 obtain⟨rb,rf,rfl,C,_,r⟩:=V.edge0 c;rw[B]at r
 refine ca (α:=cE) rfl rfl rfl rfl rfl O7 O7 ?_;refine RF ?_;refine HL.load (α:=Int) (F:=cZ) (y:=(t:Int)) g rfl rfl rfl rfl C Pj (by rw[Kb];exact r) rfl ?_;rw[show Iq Int [Py (t:Int)]=Py (t:Int) from rfl];have M:=Ext.drew d;refine cr rfl (WL.call rfl rfl rfl (f9 (drew d) (hR.up M) l A) ?_);rintro v P ⟨E,N⟩
 have s:=M.trans N;refine WL.nil (a_ s ?_);refine RR ?_;refine PQ ?_;exact be rfl rfl ⟨E.low (by have:=M.size;have:=e.size;omega),e.trans s⟩
theorem Dv(w0:World){sb j:Nat}{sl:List cK}{nx:List (List cE)}(hR:RunAt w0 sb sl nx)(m:NxOk sl nx)(e:j<gz nx nx.length):
  Rt Tryz.prog 48 [Pz sb,Py (j:Int)].toArray w0 fun v w'=>v=.int .u64 ((xq sl nx j:Nat):Int)∧xq sl nx j<18446744073709551616∧Ext w0 w':=by
 obtain⟨lo,G,mv,no,E,oo,oc,ao,ac,yo,yc,C,B,A,z,H,h1,h2,h3,h4,I⟩:=hR;obtain⟨n,i,hn,hi,u,p,l⟩:=Au m e;have g:(Ao nx nx.length)[j]'e=As nx j:=(q_ e).symm;obtain⟨ob,off,rfl,f,b,h⟩:=h3.edge0 e;rw[g]at b h
 unfold xq;refine dE Tryz.func48 Tryz.ntmps48 rfl rfl ?_;refine P9 ?_;refine eH (α:=cE) rfl rfl rfl rfl O7 O7 ?_;refine Rm ?_;refine WL.load (α:=Int) (F:=cZ) (y:=(As nx j).1) rfl rfl rfl (by rw[Kb];exact b) rfl ?_;rw[show Iq Int [Py (As nx j).1]=Py (As nx j).1 from rfl];refine PN ?_;by_cases a:(As nx j).1<0
 ·rw[OC a,OK a]
  refine Q6 ?_;exact be rfl rfl ⟨rfl,by decide,Ext.refl _⟩
 rw[Oz a,OJ a];rcases l with⟨l,_⟩|⟨g0,g1,w,o⟩
 ·omega
 obtain⟨k,t⟩:∃k:Nat,(As nx j).1=(k:Int):=⟨(As nx j).1.toNat,by omega⟩;rw[t]at b g1⊢
 rw[Kb];have c:k<sl.length:=by omega
 obtain⟨lb,lf,rfl,hlb,d⟩:=h1.step0 c;have r:=m.node _ (Lc c);rw[rl c];obtain⟨s,q⟩:∃s:Nat,sl[k].1=(s:Int):=⟨(sl[k].1).toNat,by omega⟩;rw[q]at d⊢
 rw[Kb];refine Rf ?_;refine dm (α:=cE) rfl rfl rfl rfl O7 O7 ?_;refine Ro ?_;refine QL.load (α:=Int) (F:=cZ) (y:=(k:Int)) rfl rfl rfl f Pj (by rw[Kb];exact b) rfl ?_;rw[show Iq Int [Py (k:Int)]=Py (k:Int) from rfl];skip;refine dm (α:=cK) rfl rfl rfl rfl O7 O7 ?_;refine Ro ?_;refine QL.load (α:=Int) (F:=cZ) (y:=(s:Int)) rfl rfl rfl hlb Pj (by rw[Kb];exact d) rfl ?_;rw[show Iq Int [Py (s:Int)]=Py (s:Int) from rfl];refine Rl ?_;rw[Fd (show s<62 by omega)];refine QL.nil fun D x=>?_
 refine PQ ?_;refine be rfl rfl ⟨rfl,?_,x⟩;have h2:(2:Nat) ^ s<2 ^ 64:=M5 O9 O7;exact h2
theorem gj{l:List cE}{p:cE→Bool}{i:Nat}(h:i<l.length):(l.take (i+1)).any p=((l.take i).any p||p l[i]):=by
 rw[Mi,KY h,Ke];simp
set_option maxHeartbeats 1000000 in
theorem oF(w0:World){sb k:Nat}{sl:List cK}{nx:List (List cE)}(hR:RunAt w0 sb sl nx)(H:NxOk sl nx):
  Rt Tryz.prog 50 [Pz sb,Py (k:Int)].toArray w0 fun v w'=>Own w' w0.heap.size 3 cZ v (ow nx (k:Int))∧Ext w0 w':=by
 obtain⟨lo,lc,mv,no,nc,oo,oc,ao,ac,yo,yc,x1,x2,x3,x4,Y,h1,h2,h3,h4,h5⟩:=hR;have hat:=gA H.row nx.length;have L:=H.n;have hol:(Ao nx nx.length).length=gz nx nx.length:=rfl;refine dE Tryz.func50 Tryz.ntmps50 rfl rfl ?_;refine QE ?_;refine CW.loop (S:=Nat×Value) (fun s=>[(0,Pz sb),(1,Py k),(5,s.2),(14,.slice oo (Ao nx nx.length).length oc),(15,Py (gz nx nx.length:Nat)),(16,Py s.1)])
  (fun s w=>s.1≤gz nx nx.length∧Own w w0.heap.size 3 cZ s.2 (oz nx (k:Int) s.1)∧Ext w0 w) (fun s=>gz nx nx.length -s.1) (0,.slice none 0 0) O6 ⟨Nc _,Own.nil,Ext.refl _⟩ ?_
 rintro⟨j,ov⟩ X ⟨N,A,D⟩
 dsimp only at N A D⊢
 refine Qt ?_;apply CW.cond rfl<;>intro h
 ·have o:j<gz nx nx.length:=by simp only[OD]at h;omega
  clear h;have O:(Ao nx nx.length)[j]'o=As nx j:=(q_ o).symm;obtain⟨n,i,hn,hi,hji,z,hx⟩:=Au H o;have hfl:=oA (nx:=nx) (k:=(k:Int)) (n:=j);have a:=oB (nx:=nx) (k:=(k:Int)) (n:=j);refine PX ?_;refine eC (i:=j) rfl rfl rfl rfl rfl (h3.up D) o Pg (fun u q d=>?_);rw[O]at d
  rw[C2 d];clear d;skip;refine WL.alloc rfl rfl (fun w2 b T=>?_);refine Ri ?_;refine WL.st rfl rfl rfl b rfl rfl Pr (fun w3 b C=>?_);have R:Ext X w3:=JG T C T.size Pi;have E:=D.trans R;have Y:=Y.ext E;have ho3:=A.extN R;clear T C;rw[z]at b
  have f:i5 nx j (k:Int)=(nx.getD n []).any fun y=>y.1==(k:Int):=by unfold i5;rw[z,Kb]
  refine Re ?_;refine dk (i:=n) rfl rfl rfl rfl rfl Pl (h2.up E) hn Pg (fun u q d=>?_);rw[←rk hn]at d
  obtain⟨ro,rc,rfl,hr⟩:=d.sl;clear d;refine Ry ?_;refine QL.nil fun w4 I=>?_
  have V:=R.trans I;have K:=hr.up I;have b:=b.ext I;have ho4:=ho3.extN I;have hrl:=H.row n;generalize nx.getD n []=row at*
  refine Rb ?_;refine CW.loop (S:=Nat) (fun s=>[(0,Pz sb),(1,Py k),(5,ov),(6,Py j),(7,Pz X.heap.size),(8,.bool ((row.take s).any fun y=>y.1==(k:Int))),(14,.slice oo (Ao nx nx.length).length oc),(15,Py (gz nx nx.length:Nat)),(16,Py j),(29,.slice ro row.length rc),(30,Py row.length),(31,Py s)])
   (fun s w=>s≤row.length∧Ext w4 w) (fun s=>row.length -s) 0 O6 ⟨Nc _,Ext.refl _⟩ ?_
  rintro r w5 ⟨hr0,x⟩
  refine Qt ?_;apply CW.cond rfl<;>intro h
  ·have e:r<row.length:=by simp only[OD]at h;omega
   clear h;have m:=gj (p:=fun y=>y.1==(k:Int)) e;refine Rb ?_;refine eC (i:=r) rfl rfl rfl rfl rfl (K.up x) e Pg (fun u q d=>?_);rw[C2 d];clear d;generalize row[r]=ed at*
   generalize (row.take r).any (fun y=>y.1==(k:Int))=can at*
   skip;refine WL.alloc rfl rfl (fun W l e6=>?_);skip;refine WL.st rfl rfl rfl l rfl rfl Pr (fun w7 l P=>?_);have Z:Ext w5 w7:=JG e6 P e6.size Pi;cases can with
   |true=>
    refine Qx ?_;refine EX.back (r+1) ?_ ⟨e,x.trans Z⟩ O7;rw[m,Bool.true_or];exact O6
   |false=>
    refine Qn ?_;refine EX.back (r+1) ?_ ⟨e,x.trans Z⟩ O7;rw[m,JQ];exact O6
  have J:r=row.length:=by simp only[OA]at h;omega
  subst J;rw[Mk,←f];have b:=b.ext x;have ho5:=ho4.extN x;have U:=V.trans x;have c:=D.trans U;unfold vy at a
  clear h f;generalize i5 nx j (k:Int)=can at*
  have app:∀(hf:oz nx (k:Int) (j+1)=oz nx (k:Int) j++[(j:Int)]),True:=fun _=>trivial
  cases can with
  |false=>
   rw[JT,Bool.true_or,OK rfl]at a
   refine QC ?_;refine dW (α:=Int) (F:=cZ) (bytes:=8) (yv:=(j:Int)) rfl rfl Pg rfl rfl Pg ho5 Pt c.size Pj O9 Pb O7 (fun ov' W q ho6 t B=>?_);rw[←a]at ho6
   refine Qc ?_;exact EX.back (j+1,ov') O6 ⟨o,ho6,JG c t c.size (fun g Q=>(A.lt g Q).1)⟩ Pa
  |true=>
   rw[JU,JQ]at a
   refine Qy ?_;by_cases G:(As nx j).1=(k:Int)
   ·rw[show((As nx j).1==(k:Int))=true by rw[G];exact Or _,OK rfl]at a
    rw[show((As nx j).1==(k:Int))=true by rw[G];exact Or _];refine QB ?_;refine dW (α:=Int) (F:=cZ) (bytes:=8) (yv:=(j:Int)) rfl rfl Pg rfl rfl Pg ho5 Pt c.size Pj O9 Pb O7 (fun ov' W q ho6 t B=>?_);rw[←a]at ho6
    refine Qc ?_;exact EX.back (j+1,ov') O6 ⟨o,ho6,JG c t c.size (fun g Q=>(A.lt g Q).1)⟩ Pa
   ·rw[show((As nx j).1==(k:Int))=false by simpa using G,OJ O_,Ki]at a
    rw[show((As nx j).1==(k:Int))=false by simpa using G];rw[←a]at ho5
    refine P0 ?_;exact EX.back (j+1,ov) O6 ⟨o,ho5,c⟩ Pa
 have M:j=gz nx nx.length:=by simp only[OA]at h;omega
 subst M;refine P_ ?_;exact be rfl rfl ⟨A,D⟩
theorem eX{P:Program}{Q:Exit→Act→World→Prop}{n:Nat}{σ:Sg}{w:World}{L rest:List Oper}{d:Nat}{ty:TypeId}{pos:String}{af:Array Edge}{g:Option (Nat×Bool)}{x y:Operand}{a c:Int}{b:Array TypeId}
  (k:gd L σ ⟨some d,.call ⟨.builtin .max,#[x,y],b⟩,ty,pos,af,g⟩=some true) (hd:Nat.ble (d+1) n=true) (j:ev σ x=some (Py a)) (i:ev σ y=some (Py c))
  (h:WL P L Q rest n ((d,Py (max a c))::σ) w):WL P L Q (⟨some d,.call ⟨.builtin .max,#[x,y],b⟩,ty,pos,af,g⟩::rest) n σ w:=by
 refine WL.run k hd (fun u f=>?_) h;have e:(if a<c then c else a)=max a c:=by omega
 simp[execOp,resolve,invoke,builtin,f.ev j,f.ev i,run_max_int2,e]
structure Fld3(w:World)(B sb:Nat)(ov av yv:Value)(os:List cE)(bs ys:List Int):Prop where
 o:Own w B 149 cZ ov os
 a:Own w B 3 cZ av bs
 y:Own w B 3 cZ yv ys
 oa:∀g,ov.ownBlock=some g→av.ownBlock≠some g
 oy:∀g,ov.ownBlock=some g→yv.ownBlock≠some g
 ay:∀g,av.ownBlock=some g→yv.ownBlock≠some g
 sb:sb<B
section
variable {w w0 w1 w2:World}{B sb:Nat}{ov av yv ov' av' yv':Value}{os os':List cE}{bs ys bs' ys':List Int}
theorem Fld3.ext(h:Fld3 w B sb ov av yv os bs ys)(a:Ext w w1):Fld3 w1 B sb ov av yv os bs ys:=⟨h.o.extN a,h.a.extN a,h.y.extN a,h.oa,h.oy,h.ay,h.sb⟩
theorem Fld3.setO(h:Fld3 w B sb ov av yv os bs ys)(k:B=w0.heap.size)(j:Chg (fun b=>b=sb) w0 w)(f:Own w1 B 149 cZ ov' os')(a:w.grownBy w1 ov.ownBlock)(hnb:∀g,ov'.ownBlock=some g→ov.ownBlock=some g∨w.heap.size≤g)(c:w1.grownBy w2 (some sb)):
  Fld3 w2 B sb ov' av yv os' bs ys∧Chg (fun b=>b=sb) w0 w2:=by
 have d:=h.sb;refine⟨⟨f.keptN c (fun g a e=>by have:=(f.lt g a).1;have:=Nn e;omega),(h.a.keptN a (fun g a e=>h.oa g e.symm a)).keptN c (fun g a e=>by have:=(h.a.lt g a).1;have:=Nn e;omega),(h.y.keptN a (fun g a e=>h.oy g e.symm a)).keptN c (fun g a e=>by have:=(h.y.lt g a).1;have:=Nn e;omega),fun g a e=>?_,fun g a e=>?_,h.ay,d⟩,?_⟩
 ·rcases hnb g a with h1|h1
  ·exact h.oa g h1 e
  ·have:=(h.a.lt g e).2.1;omega
 ·rcases hnb g a with h1|h1
  ·exact h.oy g h1 e
  ·have:=(h.y.lt g e).2.1;omega
 ·exact(j.then (Chg.of_grown a) (fun b i=>.inr (by have:=(h.o.lt b i).1;omega))).grown c (fun g a=>by cases a;rfl)
theorem Fld3.setA(h:Fld3 w B sb ov av yv os bs ys)(k:B=w0.heap.size)(j:Chg (fun b=>b=sb) w0 w)(f:Own w1 B 3 cZ av' bs')(a:w.grownBy w1 av.ownBlock)(hnb:∀g,av'.ownBlock=some g→av.ownBlock=some g∨w.heap.size≤g)(c:w1.grownBy w2 (some sb)):
  Fld3 w2 B sb ov av' yv os bs' ys∧Chg (fun b=>b=sb) w0 w2:=by
 have d:=h.sb;refine⟨⟨(h.o.keptN a (fun g a e=>h.oa g a e.symm)).keptN c (fun g a e=>by have:=(h.o.lt g a).1;have:=Nn e;omega),f.keptN c (fun g a e=>by have:=(f.lt g a).1;have:=Nn e;omega),(h.y.keptN a (fun g a e=>h.ay g e.symm a)).keptN c (fun g a e=>by have:=(h.y.lt g a).1;have:=Nn e;omega),fun g a e=>?_,h.oy,fun g a e=>?_,d⟩,?_⟩
 ·rcases hnb g e with h1|h1
  ·exact h.oa g a h1
  ·have:=(h.o.lt g a).2.1;omega
 ·rcases hnb g a with h1|h1
  ·exact h.ay g h1 e
  ·have:=(h.y.lt g e).2.1;omega
 ·exact(j.then (Chg.of_grown a) (fun b i=>.inr (by have:=(h.a.lt b i).1;omega))).grown c (fun g a=>by cases a;rfl)
theorem Fld3.setY(h:Fld3 w B sb ov av yv os bs ys)(k:B=w0.heap.size)(j:Chg (fun b=>b=sb) w0 w)(f:Own w1 B 3 cZ yv' ys')(a:w.grownBy w1 yv.ownBlock)(hnb:∀g,yv'.ownBlock=some g→yv.ownBlock=some g∨w.heap.size≤g)(c:w1.grownBy w2 (some sb)):
  Fld3 w2 B sb ov av yv' os bs ys'∧Chg (fun b=>b=sb) w0 w2:=by
 have d:=h.sb;refine⟨⟨(h.o.keptN a (fun g a e=>h.oy g a e.symm)).keptN c (fun g a e=>by have:=(h.o.lt g a).1;have:=Nn e;omega),(h.a.keptN a (fun g a e=>h.ay g a e.symm)).keptN c (fun g a e=>by have:=(h.a.lt g a).1;have:=Nn e;omega),f.keptN c (fun g a e=>by have:=(f.lt g a).1;have:=Nn e;omega),h.oa,fun g a e=>?_,fun g a e=>?_,d⟩,?_⟩
 ·rcases hnb g e with h1|h1
  ·exact h.oy g a h1
  ·have:=(h.o.lt g a).2.1;omega
 ·rcases hnb g e with h1|h1
  ·exact h.ay g a h1
  ·have:=(h.a.lt g a).2.1;omega
 ·exact(j.then (Chg.of_grown a) (fun b i=>.inr (by have:=(h.y.lt b i).1;omega))).grown c (fun g a=>by cases a;rfl)
end
theorem gy{nx:List (List cE)}{k:Nat}:gw nx (k+1)=gw nx k++[((gz nx k:Nat):Int)]:=by unfold gw;rw[Mb,LE];rfl
theorem yD{nx:List (List cE)}{k:Nat}:yB nx (k+1)=yB nx k++[((yV nx k:Nat):Int)]:=by unfold yB;rw[Mb,LE];rfl
set_option maxHeartbeats 2000000 in
theorem F1(w0:World){F:Nat→Prop}{sb:Nat}{lV mV U T R Q:Value}{no:Option Addr}{y:Nat}{nx:List (List cE)}
  (a:Blk w0 sb 129 [lV,mV,.slice no nx.length y,.slice none 0 0,.slice none 0 0,.slice none 0 0,U,T,R,Q]) (hn:Sl w0 F no y nx) (hF:∀b,F b→b<w0.heap.size∧b≠sb) (D:∀j,(nx.getD j []).length≤60) (hn200:nx.length≤200):
  Rt Tryz.prog 46 [Pz sb].toArray w0 fun v w'=>v=.bool (decide (gz nx nx.length≤600))∧∃ov av yv,Blk w' sb 129 [lV,mV,.slice no nx.length y,ov,av,yv,U,T,R,Q]∧
   Fld3 w' w0.heap.size sb ov av yv (Ao nx nx.length) (gw nx nx.length) (yB nx nx.length)∧Chg (fun b=>b=sb) w0 w':=by
 have W:=a.lt;refine dD Tryz.func46 Tryz.ntmps46 rfl rfl ?_;refine QE ?_;refine CW.loop (S:=Nat×Value×Value×Value) (fun s=>[(0,Pz sb),(11,.slice no nx.length y),(12,Py nx.length),(13,Py s.1)])
  (fun s w=>s.1≤nx.length∧Blk w sb 129 [lV,mV,.slice no nx.length y,s.2.1,s.2.2.1,s.2.2.2,U,T,R,Q]∧Fld3 w w0.heap.size sb s.2.1 s.2.2.1 s.2.2.2 (Ao nx s.1) (gw nx s.1) (yB nx s.1)∧Chg (fun b=>b=sb) w0 w)
  (fun s=>nx.length -s.1) (0,.slice none 0 0,.slice none 0 0,.slice none 0 0) O6 ⟨Nc _,a,⟨Own.nil,Own.nil,Own.nil,(fun g o=>by cases o),(fun g o=>by cases o),(fun g o=>by cases o),W⟩,Chg.refl _ _⟩ ?_
 clear a;rintro⟨n,ov,av,yv⟩ w1 ⟨hi,a,hf,c⟩
 dsimp only at hi a hf c⊢
 have z1:=c.size;obtain⟨oo,oc,rfl⟩:=hf.o.val;have hatn:=gA D n;have I:(Ao nx n).length=gz nx n:=rfl;rw[I]at a
 refine Qt ?_;apply CW.cond rfl<;>intro h
 ·have L:n<nx.length:=by simp only[OD]at h;omega
  clear h;have hnF:∀{w:World},Chg (fun b=>b=sb) w0 w→Sl w F no y nx:=fun h=>hn.mono (fun b a=>h.block b (hF b a).1 (hF b a).2) Pl
  have hFl:∀{w:World},Chg (fun b=>b=sb) w0 w→∀b,F b→b<w.heap.size:=fun h b a=>MQ (hF b a).1 h.size
  obtain⟨ao,ac,rfl⟩:=hf.a.val;have K:=fun g o=>hf.a.lt g o
  have hal:(gw nx n).length=n:=atL_len;have hrl:=D n;refine PX ?_;refine eC (i:=n) rfl rfl rfl rfl rfl (hnF c) L Pg (fun u q P=>?_);rw[←rk L]at P
  obtain⟨V,rc,rfl,hr⟩:=P.sl;clear P;refine Qt ?_;have p:Ext w1 (drew w1):=Ext.drew w1;have C:=a.ext p;have hKs:∀u,(fun z:World=>∀b,b<w1.heap.size→(Value.slice ao (gw nx n).length ac).ownBlock≠some b→z.heap[b]?=(drew w1).heap[b]?) u→u.heap[sb]?=(drew w1).heap[sb]?:=fun u h=>h _ O7 (fun e=>by have:=K _ e;omega)
  skip;refine aE (fun z:World=>∀b,b<w1.heap.size→(Value.slice ao (gw nx n).length ac).ownBlock≠some b→z.heap[b]?=(drew w1).heap[b]?) [(0,true),(1,true),(2,true),(3,true),(4,true),(5,true),(6,true),(7,true),(8,true),(9,true),(10,false),(11,false),(12,false),(13,false)] 14 mixed O8 (fun _ _ _=>rfl) ?_;refine RN ?_;refine bV (α:=Int) (F:=cZ) (bytes:=8) (yv:=((gz nx n:Nat):Int)) rfl rfl rfl rfl Pg rfl rfl Pg (hf.a.extN p) Pt (by have:=p.size;omega) Pj O9 Pb O7
   (fun z hz b a d=>hz.block b a (fun e=>d e.symm)) (fun av' w2 q2 ho2 A E=>?_)
  rw[←gy]at ho2
  have hb2:=C.kept A (fun e=>by have:=K _ e.symm;omega);have N:(fun z:World=>∀b,b<w1.heap.size→(Value.slice ao (gw nx n).length ac).ownBlock≠some b→z.heap[b]?=(drew w1).heap[b]?) w2:=fun b a d=>A.block b a (fun e=>d e.symm)
  obtain⟨ao',ac',rfl⟩:=ho2.val;refine cr rfl (fh rfl rfl rfl (WL.nil (a_ N ?_)));refine cr rfl (eG rfl rfl rfl (WL.nil (a_ N (HL.nil ?_))));refine bp rfl (WL.st rfl rfl rfl hb2 rfl rfl Pr (fun w3 hb3 hg3=>WL.nil (bu ?_)));obtain⟨hf3,O⟩:=(hf.ext p).setA rfl (c.trans (Chg.of_ext _ p)) ho2 A E hg3;have hr3:Sl w3 F V rc (nx.getD n []):=hr.mono (fun b a=>(O.block b (hF b a).1 (hF b a).2).trans (c.block b (hF b a).1 (hF b a).2).symm) Pl;clear hKs N p C hb2 A hg3 ho2 E hf K c a hr z1;have X:Ao nx (n+1)=Ao nx n++Aq (nx.getD n []) n:=Ap;have hmn:yB nx (n+1)=yB nx n++[((max 1 (nx.getD n []).length:Nat):Int)]:=yD;generalize nx.getD n []=row at*
  have hrF:∀{w:World},Chg (fun b=>b=sb) w0 w→Sl w F V rc row:=fun h=>hr3.mono (fun b a=>(h.block b (hF b a).1 (hF b a).2).trans (O.block b (hF b a).1 (hF b a).2).symm) Pl
  apply bz;refine Q3 ?_;refine CW.loop (S:=Nat×Value) (fun s=>[(0,Pz sb),(3,Py n),(4,.slice V row.length rc),(11,.slice no nx.length y),(12,Py nx.length),(13,Py n),(32,.slice V row.length rc),(33,Py row.length),(34,Py s.1)])
   (fun s w=>s.1≤row.length∧Blk w sb 129 [lV,mV,.slice no nx.length y,s.2,.slice ao' (gw nx (n+1)).length ac',yv,U,T,R,Q]∧Fld3 w w0.heap.size sb s.2 (.slice ao' (gw nx (n+1)).length ac') yv (Ao nx n++(row.take s.1).map fun x=>(x.1,(n:Int))) (gw nx (n+1)) (yB nx n)∧Chg (fun b=>b=sb) w0 w)
   (fun s=>row.length -s.1) (0,.slice oo (Ao nx n).length oc) O6 ⟨Nc _,hb3,by simpa using hf3,O⟩ ?_
  clear hb3 hf3;rintro⟨r,ov⟩ w4 ⟨hr0,a,hf,c⟩
  dsimp only at hr0 a hf c⊢
  have z4:=c.size;refine Qt ?_;apply CW.cond rfl<;>intro h
  ·have G:r<row.length:=by simp only[OD]at h;omega
   clear h;have hnx:Ao nx n++(row.take (r+1)).map (fun x:cE=>(x.1,(n:Int)))=(Ao nx n++(row.take r).map (fun x:cE=>(x.1,(n:Int))))++[(row[r].1,(n:Int))]:=by
    rw[Mi,KY G,LE,Kh];rfl
   have hln:(Ao nx n++(row.take r).map (fun x:cE=>(x.1,(n:Int)))).length=gz nx n+r:=by
    rw[Ll,Ls,LB,I];omega
   obtain⟨oo,oc,rfl⟩:=hf.o.val;have m:=fun g o=>hf.o.lt g o
   refine Rb ?_;refine eC (i:=r) rfl rfl rfl rfl rfl (hrF c) G Pg (fun u q P=>?_);rw[C2 P];clear P;generalize row[r]=ed at*
   skip;refine WL.alloc rfl rfl (fun w5 f e5=>?_);skip;refine WL.st rfl rfl rfl f rfl rfl Pr (fun k f l=>?_);have e6:Ext w4 k:=JG e5 l e5.size Pi;have z6:=e6.size;have a:=a.ext e6;have hf:=hf.ext e6;have c:=c.trans (Chg.of_ext _ e6);have l6:=f.lt;clear e5 l;have p:Ext k (drew k):=Ext.drew k;have C:=a.ext p;have hb6d:=f.ext p;generalize hOV:Ao nx n++(row.take r).map (fun x:cE=>(x.1,(n:Int)))=OV at*
   have hKs:∀u,(fun z:World=>∀b,b<k.heap.size→(Value.slice oo OV.length oc).ownBlock≠some b→z.heap[b]?=(drew k).heap[b]?) u→u.heap[sb]?=(drew k).heap[sb]?:=fun u h=>h _ O7 (fun e=>by have:=m _ e;omega)
   have hK6:∀u,(fun z:World=>∀b,b<k.heap.size→(Value.slice oo OV.length oc).ownBlock≠some b→z.heap[b]?=(drew k).heap[b]?) u→u.heap[w4.heap.size]?=(drew k).heap[w4.heap.size]?:=fun u h=>h _ O7 (fun e=>by have:=(m _ e).2.1;omega)
   refine PU ?_;refine aE (fun z:World=>∀b,b<k.heap.size→(Value.slice oo OV.length oc).ownBlock≠some b→z.heap[b]?=(drew k).heap[b]?) [(0,true),(1,true),(2,true),(3,true),(4,true),(5,true),(6,true),(7,true),(8,true),(9,false),(10,false),(11,false),(12,false)] 13 mixed O8 (fun _ _ _=>rfl) ?_;refine RN ?_;refine bV (α:=cE) (F:=cZ) (bytes:=16) (yv:=(ed.1,(n:Int))) rfl rfl rfl rfl Pg rfl rfl Pg (hf.o.extN p) (Rd.mkPr (c1:=[Py ed.1]) (c2:=[Py (n:Int)]) (C5 _ _ _) (C5 _ _ _)) (by have:=p.size;omega) Pj O9 Pb O7
    (fun z hz b a d=>hz.block b a (fun e=>d e.symm)) (fun ov' w7 q2 ho7 t Y=>?_)
   rw[←hnx]at ho7
   have M:=C.kept t (fun e=>by have:=m _ e.symm;omega);have hS7:(fun z:World=>∀b,b<k.heap.size→(Value.slice oo OV.length oc).ownBlock≠some b→z.heap[b]?=(drew k).heap[b]?) w7:=fun b a d=>t.block b a (fun e=>d e.symm)
   obtain⟨oo',oc',rfl⟩:=ho7.val;refine cr rfl (fh rfl rfl rfl (WL.nil (a_ hS7 ?_)));refine cr rfl (eG rfl rfl rfl (WL.nil (a_ hS7 (HL.nil ?_))));refine bp rfl (WL.st rfl rfl rfl M rfl rfl Pr (fun w8 hb8 hg8=>WL.nil (bu ?_)));obtain⟨hf8,hC8⟩:=(hf.ext p).setO rfl (c.trans (Chg.of_ext _ p)) ho7 t Y hg8;refine Qc ?_;exact EX.back (r+1,_) O6 ⟨G,hb8,hf8,hC8⟩ Pa
  have hre:r=row.length:=by simp only[OA]at h;omega
  subst hre;rw[Mk]at hf
  clear h;have hln:(Ao nx n++row.map (fun x:cE=>(x.1,(n:Int)))).length=gz nx n+row.length:=by
   rw[Ll,Ls,I]
  obtain⟨oo,oc,rfl⟩:=hf.o.val;have m:=fun g o=>hf.o.lt g o
  apply CW.exit
  repeat (first|apply bB|apply aZ|apply bz)
  refine aB (S:=Option Addr×Nat) (fun _=>[(0,Pz sb),(4,.slice V row.length rc),(11,.slice no nx.length y),(12,Py nx.length),(13,Py n)])
   (fun s w=>Blk w sb 129 [lV,mV,.slice no nx.length y,.slice s.1 (Ao nx (n+1)).length s.2,.slice ao' (gw nx (n+1)).length ac',yv,U,T,R,Q]∧Fld3 w w0.heap.size sb (.slice s.1 (Ao nx (n+1)).length s.2) (.slice ao' (gw nx (n+1)).length ac') yv (Ao nx (n+1)) (gw nx (n+1)) (yB nx n)∧Chg (fun b=>b=sb) w0 w) ?_ ?_
  ·by_cases h0:row=[]
   ·have H:Ao nx (n+1)=(Ao nx n++row.map (fun x:cE=>(x.1,(n:Int))))++[(-1,(n:Int))]:=by
     rw[X];unfold Aq;rw[OK h0,h0];simp
    have J:((row.length:Int)==0)=true:=by rw[h0];rfl
    generalize Ao nx n++row.map (fun x:cE=>(x.1,(n:Int)))=OV at*
    refine Q3 ?_;rw[J];refine QW ?_;refine WL.build rfl rfl rfl rfl ?_;refine dW (α:=cE) (F:=cZ) (bytes:=16) (yv:=(-1,(n:Int))) rfl rfl Pg rfl rfl Pg hf.o (Rd.mkPr (c1:=[Py (-1)]) (c2:=[Py (n:Int)]) (C5 _ _ _) (C5 _ _ _)) z4 Pj O9 Pb O7 (fun ov' w5 q ho5 hg5 hnb5=>?_);rw[←H]at ho5
    have hb5:=a.kept hg5 (fun e=>by have:=m _ e.symm;omega);obtain⟨oo',oc',rfl⟩:=ho5.val;refine Rk ?_;refine WL.st rfl rfl rfl hb5 rfl rfl Pr (fun k f l=>?_);obtain⟨hf6,hC6⟩:=hf.setO rfl c ho5 hg5 hnb5 l;refine PZ ?_;exact aU (oo',oc') O6 ⟨f,hf6,hC6⟩
   ·have H:Ao nx (n+1)=Ao nx n++row.map (fun x:cE=>(x.1,(n:Int))):=by
     rw[X];unfold Aq;rw[OJ h0]
    have J:((row.length:Int)==0)=false:=by
     have:0<row.length:=Lu.2 h0;have:(row.length:Int)≠0:=by omega
     simpa using this
    rw[←H]at hf a
    refine Q3 ?_;rw[J];refine Q2 ?_;exact aU (oo,oc) O6 ⟨a,hf,c⟩
  clear a hf m c z4;rintro⟨oo,oc⟩ w5 ⟨a,hf,c⟩
  dsimp only at a hf c
  have z5:=c.size;obtain⟨yo,yc,rfl⟩:=hf.y.val;have hly:=fun g o=>hf.y.lt g o
  have hyl:(yB nx n).length=n:=manyL_len;refine QE ?_;refine eX rfl rfl rfl rfl ?_;rw[show max (1:Int) (row.length:Int)=((max 1 row.length:Nat):Int) by omega];refine dW (α:=Int) (F:=cZ) (bytes:=8) (yv:=((max 1 row.length:Nat):Int)) rfl rfl Pg rfl rfl Pg hf.y Pt z5 Pj O9 Pb O7 (fun yv' k q ho6 l Z=>?_);rw[←hmn]at ho6
  have f:=a.kept l (fun e=>by have:=hly _ e.symm;omega);obtain⟨yo',yc',rfl⟩:=ho6.val;refine Rk ?_;refine WL.st rfl rfl rfl f rfl rfl Pr (fun w7 M t=>?_);obtain⟨hf7,hC7⟩:=hf.setY rfl c ho6 l Z t;refine Qc ?_;exact EX.back (n+1,_,_,_) O6 ⟨L,M,hf7,hC7⟩ Pa
 have d:n=nx.length:=by simp only[OA]at h;omega
 subst d;have hde:decide (((gz nx nx.length:Nat):Int)≤600)=decide (gz nx nx.length≤600):=by
  by_cases h:gz nx nx.length≤600
  ·rw[OC h,OC O7]
  ·rw[Oz h,Oz O7]
 rw[←hde];refine Qy ?_;exact be rfl rfl ⟨rfl,_,_,_,a,hf,c⟩
theorem Dl{fn:Func}{a u s:Nat}{t:TypeId}(h:fn.results=#[.cell a t,.tmp u,.tmp s])(tmps:Array Value)(P:Program)(w:World){p:Addr}{v:Value}(b:tmps.getD a undef=.pointer (some p))(c:(loadVar t p).run P w=.ok v w):
  (results fn tmps).run P w=.ok (.tuple ⟨[v,tmps.getD u undef,tmps.getD s undef]⟩) w:=by
 simp only[Js]at b⊢
 simp[results,h,b,asAddr,c]
theorem bi{P:Program}{n:Nat}{σ:Sg}{w:World}{fn:Func}{a b u s:Nat}{t e:TypeId}{cells:List Value}{k:Nat}{x y:Value}{R:Value→World→Prop}(o:fn.results=#[.cell a t,.tmp u,.tmp s])(r:fnd σ a=some (Pz b))(g:fnd σ u=some x)(m:fnd σ s=some y)[p:IsC P t k true](q:Blk w b e cells)(l:xI cells=k)(h:R (.tuple ⟨[.agg cells.toArray,x,y]⟩) w):
  EX (bodyPost P fn fun e w'=>∃v,e=.returned v∧R v w') .ret n σ w:=by
 unfold EX;intro ac c
 refine Ov (Dl o _ _ _ (c.slot a _ r) (v:=.agg cells.toArray) ?_) c.defers ⟨_,by rw[c.slot u x g,c.slot s y m],h⟩;rw[xJ]at l
 have d:=OS (P:=P) w ⟨b,0,none⟩ cells (fun j u g=>by rw[Oj,Nb];exact q.cell g);obtain⟨i,dd,h1,h2,h3,h4⟩:=p.ok;have f:(isAgg t).run P w=.ok true w:=by
  unfold isAgg;rw[Nv,OW h3 w,←h4];cases dd<;>rfl
 rw[l]at d
 simp[loadVar,f,sizeOf,typeInfo,h1,h2,d]
structure WorldAt(w:World)(F:Nat→Prop)(v:Value)(A:cO):Prop where
 ok:∃a1 c1 a2 c2 a3 c3 a4 c4,v=I1 a1 c1 a2 c2 a3 c3 a4 c4 A.1.length A.2.1.length A.2.2.1.length A.2.2.2.length∧Sl w F a1 c1 A.1∧Sl w F a2 c2 A.2.1∧Sl w F a3 c3 A.2.2.1∧Sl w F a4 c4 A.2.2.2
theorem CN{α:Type}{f:Nat→α}{n:Nat}:(List.range (n+1)).map f=(List.range n).map f++[f n]:=by rw[Mb,LE];rfl
theorem zr(w:World)(F:Nat→Prop):WorldAt w F (.agg #[.slice none 0 0,.slice none 0 0,.slice none 0 0,.slice none 0 0]) zq:=
 ⟨none,0,none,0,none,0,none,0,rfl,Sl.zero w _,Sl.zero w _,Sl.zero w _,Sl.zero w _⟩
set_option maxHeartbeats 4000000 in
theorem Ep(w0:World){so fo:Option Addr}{sc fc:Nat}{ns:List cG}{fl:List cF}(hs:Sl w0 (c7 w0) so sc ns)(hf:Sl w0 (c7 w0) fo fc fl)(tok st:Int):
  Rt Tryz.prog 21 [Cq so sc fo fc ns.length fl.length,Py tok,Py st].toArray w0 fun v w'=>(∃x oo oc,v=.tuple ⟨[x,.slice oo (El (ns,fl) tok st).1.2.length oc,Py (El (ns,fl) tok st).2]⟩∧WorldAt w' (c7 w') x (El (ns,fl) tok st).1.1∧Sl w' (c7 w') oo oc (El (ns,fl) tok st).1.2)∧Ext w0 w':=by
 refine dF Tryz.func21 Tryz.ntmps21 rfl rfl ?_;have U:=Ext.refl w0;refine PB ?_;refine dX rfl rfl rfl fun w1 Y e1=>?_
 have U:=U.trans e1;skip;refine WL.alloc rfl rfl (fun w2 C e2=>?_);have Y:=Y.ext e2;have U:=U.trans e2;have l1:=Y.lt;have l2:=C.lt;have z1:=e1.size;unfold El;refine Q4 ?_;refine WL.call rfl rfl rfl (bE w2 (hs.up U) (hf.up U) tok st) ?_;rintro _ w3 ⟨mv,nv,rfl,hmv,hnv,e3⟩
 have Y:=Y.ext e3;have C:=C.ext e3;have U:=U.trans e3;have hnx:=oh (p:=(ns,fl)) (tok:=tok) (st:=st);have hexl:=og (p:=(ns,fl)) (tok:=tok) (st:=st);generalize n_ (ns,fl) tok st=r1 at*
 obtain⟨⟨ml,nx⟩,x1⟩:=r1;dsimp only at hmv hnv hnx hexl⊢
 obtain⟨mo,mc,rfl,hms⟩:=hmv.sl;obtain⟨no,nc,rfl,hns⟩:=hnv.sl;clear hmv hnv;refine Ri ?_;refine WL.alloc rfl rfl (fun w4 hb9 e4=>?_);skip;refine WL.st rfl rfl rfl hb9 rfl rfl Pr (fun i hb9 hg5=>?_);have e5:Ext w3 i:=JG e4 hg5 e4.size Pi;have Y:=Y.ext e5;have C:=C.ext e5;have U:=U.trans e5;have hns:=hns.up e5;have z3:=e3.size;have z5:=e5.size;clear e1 e2 e3 e4 e5 hg5 hms;by_cases hx:x1=0
 case neg=>
  have d:(x1 != 0)=true:=by simpa using hx
  rw[OK hx];refine Qt ?_;rw[d];refine QB ?_;refine WL.build (parts:=[]) rfl rfl rfl rfl ?_;refine Ri ?_;refine WL.st rfl rfl rfl C rfl rfl Pr (fun w6 C hg6=>?_);have hE6:Ext w0 w6:=U.grown hg6 U.size Pk;refine PS ?_;exact bi rfl rfl rfl rfl C rfl ⟨⟨_,none,0,rfl,zr _ _,Sl.zero _ _⟩,hE6⟩
 subst hx;have hN:=hnx rfl;have hst0:=(hexl rfl).1;rw[OJ O_];clear hnx hexl;refine QN ?_;refine WL.build rfl rfl rfl rfl ?_;skip;refine dX rfl rfl rfl fun w6 hsb e6=>?_
 have Y:=Y.ext e6;have C:=C.ext e6;have U:=U.trans e6;have hns6:Sl w6 (c7 i) no nc nx:=hns.at e6;have z6:=e6.size;have l6:=hsb.lt;refine Q4 ?_;refine WL.call rfl rfl rfl (c6 w6 (hs.up U) (hf.up U)) ?_;rintro _ w7 ⟨lv,rfl,hlo,e7⟩
 have C:=C.ext e7;have hsb:=hsb.ext e7;have U:=U.trans e7;have z7:=e7.size;have hll:=fun g a=>hlo.lt g a
 generalize (F4 (ns,fl)).1=sl at*
 obtain⟨lo,lc,rfl⟩:=hlo.val;obtain⟨lo',lc',el,hls⟩:=hlo.sl;obtain⟨rfl,_,rfl⟩:=Oi el;refine Rw ?_;refine WL.st rfl rfl rfl hsb rfl rfl Pr (fun w8 hsb hg8=>?_);have z8:=hg8.size;have l8:=hsb.lt;have hb68:=C.kept hg8 Po;have hE8:Ext w0 w8:=U.grown hg8 U.size Pk;have hk8:∀b,b<w7.heap.size→b≠i.heap.size→w8.heap[b]?=w7.heap[b]?:=fun b d E=>hg8.block b d (fun e=>E (Nn e))
 have hls8:Sl w8 (fun b=>b<w8.heap.size∧b≠i.heap.size) lo lc sl:=hls.mono (fun b d=>d.elim (fun h=>h.elim) (fun h=>hk8 b (hll b h).2.1 (by have:=(hll b h).1;omega))) (fun b d=>d.elim (fun h=>h.elim) (fun h=>⟨by have:=(hll b h).2.1;omega,by have:=(hll b h).1;omega⟩));have hns8:Sl w8 (c7 i) no nc nx:=hns6.mono (fun b d=>by
  have d:b<i.heap.size:=d;exact(hk8 b O7 O7).trans (e7.block b O7)) Pl
 clear hk8 e7 hls hns hns6 hlo hll C U;refine Qt ?_;refine WL.call rfl rfl rfl (F1 w8 hsb hns8 (fun b d=>by
  have d:b<i.heap.size:=d;exact⟨by omega,by omega⟩) hN.row hN.n) ?_
 rintro _ o ⟨rfl,ov,av,yv,hsb9,T,hC9⟩
 have z9:=hC9.size;have l9:=hsb9.lt;have hb69:Blk o _ _ _:=(hC9.block _ O7 (fun h=>by omega)).trans hb68;have hE9:Ext w0 o:=Chg.ext hE8 hC9 (fun b d=>by subst d;omega);have q1:Sl o (Fz o (fun b=>b=i.heap.size)) lo lc sl:=Sl.fz (M:=fun b=>b=i.heap.size) hls8 hC9 (fun b h=>.inl h);have q2:Sl o (Fz o (fun b=>b=i.heap.size)) no nc nx:=Sl.fz (M:=fun b=>b=i.heap.size) (hns8.mono Pq (fun b d=>by
  have d:b<i.heap.size:=d;exact⟨by omega,by omega⟩)) hC9 (fun b h=>.inl h)
 obtain⟨oo,oc,rfl,q3⟩:=T.o.slF (F':=fun b=>w8.heap.size≤b∧b<o.heap.size) Pj (fun g a=>⟨(T.o.lt g a).1,(T.o.lt g a).2.1⟩);obtain⟨ao,ac,rfl,q4⟩:=T.a.slF (F':=fun b=>w8.heap.size≤b∧b<o.heap.size) Pj (fun g a=>⟨(T.a.lt g a).1,(T.a.lt g a).2.1⟩);obtain⟨yo,yc,rfl,q5⟩:=T.y.slF (F':=fun b=>w8.heap.size≤b∧b<o.heap.size) Pj (fun g a=>⟨(T.y.lt g a).1,(T.y.lt g a).2.1⟩);rw[atL_len,manyL_len,show(Ao nx nx.length).length=gz nx nx.length from rfl]at hsb9
 have hmk:∀{w:World} {x1 x2 x3 x4:Value},Chg (fun b=>b=i.heap.size) o w→Blk w i.heap.size 129 [.slice lo sl.length lc,.agg [.slice mo ml.length mc,.slice no nx.length nc].toArray,.slice no nx.length nc,.slice oo (gz nx nx.length) oc,.slice ao nx.length ac,.slice yo nx.length yc,x1,x2,x3,x4]→True:=fun _ _=>trivial
 have hrun:∀{w:World} {mv x1 x2 x3 x4:Value},Chg (fun b=>b=i.heap.size) o w→Blk w i.heap.size 129 [.slice lo sl.length lc,mv,.slice no nx.length nc,.slice oo (gz nx nx.length) oc,.slice ao nx.length ac,.slice yo nx.length yc,x1,x2,x3,x4]→RunAt w i.heap.size sl nx:=fun {w} {mv} {x1} {x2} {x3} {x4} hC d=>by
  have hk:∀b,w8.heap.size≤b∧b<o.heap.size→w.heap[b]?=o.heap[b]?:=fun b d=>hC.block b d.2 (fun h=>by omega)
  have hl:∀b,w8.heap.size≤b∧b<o.heap.size→c7 w b:=fun b d=>MQ d.2 hC.size
  exact⟨lo,lc,mv,no,nc,oo,oc,ao,ac,yo,yc,x1,x2,x3,x4,d,(q1.fz hC (fun b h=>.inl h)).old',(q2.fz hC (fun b h=>.inl h)).old',q3.mono hk hl,q4.mono hk hl,q5.mono hk hl⟩
 clear hmk T hC9 hsb hb68 hls8 hns8;have hat:=gA hN.row nx.length;have hn200:=hN.n;have hsl:=hN.sl;by_cases h600:gz nx nx.length≤600
 case neg=>
  rw[Oz h600,OK O7];refine Ra ?_;refine WL.build (parts:=[]) rfl rfl rfl rfl ?_;skip;refine WL.st rfl rfl rfl hb69 rfl rfl Pr (fun r C hg6=>?_);have hE6:Ext w0 r:=hE9.grown hg6 hE9.size Pk;refine PS ?_;exact bi rfl rfl rfl rfl C rfl ⟨⟨_,none,0,rfl,zr _ _,Sl.zero _ _⟩,hE6⟩
 rw[OC h600,OJ O7];generalize hNN:gz nx nx.length=NN at*
 refine QI ?_;refine CW.loop (S:=Nat×Value×Value×List Raw) (fun s=>[(6,Pz w1.heap.size),(11,Pz i.heap.size),(44,Py (NN:Nat)),(45,Py s.1)])
  (fun s w=>s.1≤NN∧Blk w i.heap.size 129 [.slice lo sl.length lc,.slice mo ml.length mc,.slice no nx.length nc,.slice oo NN oc,.slice ao nx.length ac,.slice yo nx.length yc,.slice none 0 0,s.2.1,s.2.2.1,.slice none 0 0]∧Own w o.heap.size 39 cZ s.2.1 s.2.2.2∧
   InnR w (fun b=>b=i.heap.size∨s.2.1.ownBlock=some b∨s.2.2.1.ownBlock=some b∨b<o.heap.size) s.2.2.2 ((List.range s.1).map (zk nx))∧Own w o.heap.size 131 cZ s.2.2.1 ((List.range s.1).map (xq sl nx))∧(∀g,s.2.1.ownBlock=some g→s.2.2.1.ownBlock≠some g)∧Chg (fun b=>b=i.heap.size) o w)
  (fun s=>NN -s.1) (0,.slice none 0 0,.slice none 0 0,[]) O6 ⟨Nc _,hsb9,Own.nil,InnR.nil,Own.nil,(fun g a=>by cases a),Chg.refl _ _⟩ ?_
 rintro⟨j,nv,lbv,vs⟩ r ⟨hj0,D,hon,inn,hol,hdis,A⟩
 dsimp only at hj0 D hon inn hol hdis A⊢
 have z10:=A.size;have hln:=fun g a=>hon.lt g a
 have H:=fun g a=>hol.lt g a
 have hvl:vs.length=j:=by rw[inn.len];simp
 obtain⟨nvo,nvc,rfl⟩:=hon.val;obtain⟨lbo,lbc,rfl⟩:=hol.val;refine Qt ?_;apply CW.cond rfl<;>intro h
 ·have hj:j<NN:=by simp only[OD]at h;omega
  clear h;have hD:Ext r (drew r):=Ext.drew r;have K:=D.ext hD;have hKs:∀u,(fun z:World=>∀b,b<r.heap.size→(Value.slice nvo vs.length nvc).ownBlock≠some b→z.heap[b]?=(drew r).heap[b]?) u→u.heap[i.heap.size]?=(drew r).heap[i.heap.size]?:=fun u h=>h _ O7 (fun e=>by have:=hln _ e;omega)
  refine PT ?_;refine aE (fun z:World=>∀b,b<r.heap.size→(Value.slice nvo vs.length nvc).ownBlock≠some b→z.heap[b]?=(drew r).heap[b]?) [(0,true),(1,true),(2,true),(3,true),(4,true),(5,true),(6,true),(7,true),(8,false),(9,false),(10,false),(11,false),(12,false),(13,false)] 14 mixed O8 (fun _ _ _=>rfl) ?_;refine RJ ?_;refine cr rfl (WL.call rfl rfl rfl (Dy (drew r) ((hrun A D).up hD) hN (by rw[hNN];exact hj)) ?_);rintro rv w11 ⟨hro,I⟩
  have J:=hD.trans I;have z11:=J.size;have hlr:=fun g a=>hro.lt g a
  obtain⟨ro,rc,rfl⟩:=hro.val;refine WL.nil (a_ (fun b d _=>I.block b d) ?_);refine bV (α:=Raw) (F:=cZ) (bytes:=24) (yv:=(⟨.slice ro (zk nx j).length rc⟩:Raw)) rfl rfl rfl rfl Pg rfl rfl Pg (hon.extN J) (Rd.mkRaw _ _ _ rfl) O7 Pj O9 Pb O7
   (fun z hz b d E=>(hz.block b O7 (fun e=>E e.symm)).trans (I.block b d)) (fun nv' G q12 ho12 l hnb12=>?_)
  have P:=(K.ext I).kept l (fun e=>by have:=hln _ e.symm;omega);have z12:=l.size;have hS12:(fun z:World=>∀b,b<r.heap.size→(Value.slice nvo vs.length nvc).ownBlock≠some b→z.heap[b]?=(drew r).heap[b]?) G:=fun b d E=>(l.block b O7 (fun e=>E e.symm)).trans (I.block b d)
  obtain⟨nvo',nvc',rfl⟩:=ho12.val;refine cr rfl (fh rfl rfl rfl (WL.nil (a_ hS12 ?_)));refine cr rfl (eG rfl rfl rfl (WL.nil (a_ hS12 ?_)));refine cr rfl (eG rfl rfl rfl (WL.nil (a_ hS12 (HL.nil ?_))));refine bp rfl (WL.st rfl rfl rfl P rfl rfl Pr (fun c t V=>WL.nil (bu ?_)));have z13:=V.size;have hnn:∀g,(Value.slice nvo' (vs++[(⟨.slice ro (zk nx j).length rc⟩:Raw)]).length nvc').ownBlock=some g→g≠i.heap.size∧o.heap.size≤g:=fun g a=>⟨fun e=>by have:=(ho12.lt g a).1;omega,(ho12.lt g a).1⟩
  have hon13:=ho12.keptN V (fun g a e=>(hnn g a).1 (Nn e));have hol13:=((hol.extN J).keptN l (fun g a e=>hdis g e.symm a)).keptN V (fun g a e=>by have:=Nn e;have:=H g a;omega);have hdis13:∀g,(Value.slice nvo' (vs++[(⟨.slice ro (zk nx j).length rc⟩:Raw)]).length nvc').ownBlock=some g→(Value.slice lbo ((List.range j).map (xq sl nx)).length lbc).ownBlock≠some g:=fun g a e=>by
   rcases hnb12 g a with h|h
   ·exact hdis g h e
   ·have:=(H g e).2.1;omega
  have y:Chg (fun b=>b=i.heap.size) o c:=((A.trans (Chg.of_ext _ J)).then (Chg.of_grown l) (fun b h=>.inr (hln b h).1)).grown V (fun g a=>by cases a;rfl);have W:Rd w11 (Fz w11 (fun b=>b=i.heap.size∨(Value.slice nvo vs.length nvc).ownBlock=some b∨(Value.slice lbo ((List.range j).map (xq sl nx)).length lbc).ownBlock=some b∨b<o.heap.size)) (.slice ro (zk nx j).length rc) (zk nx j):=
   hro.rd.mono Pq (fun g a=>a.elim (fun h=>h.elim) (fun a=>⟨(hlr g a).2.1,fun h=>by
    have h1:r.heap.size≤g:=(hlr g a).1;rcases h with h|h|h|h
    ·omega
    ·have:=(hln g h).2.1;omega
    ·have:=(H g h).2.1;omega
    ·omega⟩))
  have inn11:=(inn.to (Chg.of_ext _ J) (fun b h=>.inl h)).push W;have hC1113:Chg (fun b=>b=i.heap.size∨(Value.slice nvo vs.length nvc).ownBlock=some b∨(Value.slice lbo ((List.range j).map (xq sl nx)).length lbc).ownBlock=some b∨b<o.heap.size) w11 c:=((Chg.of_grown l).wk (fun b h=>.inr (.inl h))).grown V Pp;have inn13:=inn11.to hC1113 (M':=fun b=>b=i.heap.size∨(Value.slice nvo' (vs++[(⟨.slice ro (zk nx j).length rc⟩:Raw)]).length nvc').ownBlock=some b∨(Value.slice lbo ((List.range j).map (xq sl nx)).length lbc).ownBlock=some b∨b<o.heap.size) (fun b h=>by
   rcases h with h|h|h|h
   ·exact .inl (.inl h)
   ·exact(hnb12 b h).imp (fun h=>.inr (.inl h)) id
   ·exact .inl (.inr (.inr (.inl h)))
   ·exact .inl (.inr (.inr (.inr h))))
  rw[←CN]at inn13
  have hln13:=fun g a=>hon13.lt g a
  clear hKs hS12 hD K I J hlr hro P l V hnb12 ho12 W inn11 hC1113 inn hon hol hdis hnn A D hln;apply bz;have hD:Ext c (drew c):=Ext.drew c;have K:=t.ext hD;have hKs:∀u,(fun z:World=>∀b,b<c.heap.size→(Value.slice lbo ((List.range j).map (xq sl nx)).length lbc).ownBlock≠some b→z.heap[b]?=(drew c).heap[b]?) u→u.heap[i.heap.size]?=(drew c).heap[i.heap.size]?:=fun u h=>h _ O7 (fun e=>by have:=H _ e;omega)
  have hlbl:((List.range j).map (xq sl nx)).length=j:=by simp
  skip;refine aE (fun z:World=>∀b,b<c.heap.size→(Value.slice lbo ((List.range j).map (xq sl nx)).length lbc).ownBlock≠some b→z.heap[b]?=(drew c).heap[b]?) [(0,true),(1,true),(2,true),(3,true),(4,true),(5,true),(6,true),(7,true),(8,false),(9,false),(10,false),(11,false),(12,false),(13,false)] 14 mixed O8 (fun _ _ _=>rfl) ?_;refine RJ ?_;refine cr rfl (WL.call rfl rfl rfl (Dv (drew c) ((hrun y t).up hD) hN (by rw[hNN];exact hj)) ?_);rintro _ B ⟨rfl,hlt64,R⟩
  have n:=hD.trans R;have z14:=n.size;refine WL.nil (a_ (fun b d _=>R.block b d) ?_);refine bV (α:=Nat) (F:=cZ) (bytes:=8) (yv:=xq sl nx j) rfl rfl rfl rfl Pg rfl rfl Pg (hol13.extN n) ⟨_,rfl,C6 _ _ _ hlt64⟩ O7 Pj O9 Pb O7
   (fun z hz b d E=>(hz.block b O7 (fun e=>E e.symm)).trans (R.block b d)) (fun lb' w15 q15 L q X=>?_)
  rw[←CN]at L
  have hsb15:=(K.ext R).kept q (fun e=>by have:=H _ e.symm;omega);have z15:=q.size;have Q:(fun z:World=>∀b,b<c.heap.size→(Value.slice lbo ((List.range j).map (xq sl nx)).length lbc).ownBlock≠some b→z.heap[b]?=(drew c).heap[b]?) w15:=fun b d E=>(q.block b O7 (fun e=>E e.symm)).trans (R.block b d)
  obtain⟨lbo',lbc',rfl⟩:=L.val;refine cr rfl (fh rfl rfl rfl (WL.nil (a_ Q ?_)));refine cr rfl (eG rfl rfl rfl (WL.nil (a_ Q ?_)));refine cr rfl (eG rfl rfl rfl (WL.nil (a_ Q (HL.nil ?_))));refine bp rfl (WL.st rfl rfl rfl hsb15 rfl rfl Pr (fun w16 hsb16 N=>WL.nil (bu ?_)));have hol16:=L.keptN N (fun g a e=>by have:=Nn e;have:=(L.lt g a).1;omega);have hon16:=((hon13.extN n).keptN q (fun g a e=>hdis13 g a e.symm)).keptN N (fun g a e=>by have:=Nn e;have:=hln13 g a;omega);have hC16:Chg (fun b=>b=i.heap.size) o w16:=((y.trans (Chg.of_ext _ n)).then (Chg.of_grown q) (fun b h=>.inr (H b h).1)).grown N (fun g a=>by cases a;rfl);have Z:Chg (fun b=>b=i.heap.size∨(Value.slice nvo' (vs++[(⟨.slice ro (zk nx j).length rc⟩:Raw)]).length nvc').ownBlock=some b∨(Value.slice lbo ((List.range j).map (xq sl nx)).length lbc).ownBlock=some b∨b<o.heap.size) B w16:=((Chg.of_grown q).wk (fun b h=>.inr (.inr (.inl h)))).grown N Pp;have inn16:=(inn13.to (Chg.of_ext _ n) (fun b h=>.inl h)).to Z (M':=fun b=>b=i.heap.size∨(Value.slice nvo' (vs++[(⟨.slice ro (zk nx j).length rc⟩:Raw)]).length nvc').ownBlock=some b∨(Value.slice lbo' ((List.range (j+1)).map (xq sl nx)).length lbc').ownBlock=some b∨b<o.heap.size) (fun b h=>by
   rcases h with h|h|h|h
   ·exact .inl (.inl h)
   ·exact .inl (.inr (.inl h))
   ·exact(X b h).imp (fun h=>.inr (.inr (.inl h))) id
   ·exact .inl (.inr (.inr (.inr h))))
  have hdis16:∀g,(Value.slice nvo' (vs++[(⟨.slice ro (zk nx j).length rc⟩:Raw)]).length nvc').ownBlock=some g→(Value.slice lbo' ((List.range (j+1)).map (xq sl nx)).length lbc').ownBlock≠some g:=fun g a e=>by
   rcases X g e with h|h
   ·exact hdis13 g a h
   ·have:=(hln13 g a).2.1;omega
  refine Qc ?_;exact EX.back (j+1,_,_,_) O6 ⟨hj,hsb16,hon16,inn16,hol16,hdis16,hC16⟩ Pa
 have hje:j=NN:=by simp only[OA]at h;omega
 subst hje;clear h;have hC10':=A;have hR10:=hrun A D;have hb610:Blk r _ _ _:=(A.block _ O7 (fun h=>by omega)).trans hb69;have hE10:Ext w0 r:=Chg.ext hE9 A (fun b d=>by subst d;omega);refine Qo ?_;refine WL.call rfl rfl rfl (f9 r (m:=0) hR10 hN hN.pos) ?_;rintro sv w11 ⟨hos,I⟩
 have hsb11:=D.ext I;have z11:=I.size;have hlos:=fun g a=>hos.lt g a
 obtain⟨sto,stc,rfl⟩:=hos.val;refine Rk ?_;refine WL.st rfl rfl rfl hsb11 rfl rfl Pr (fun G P l=>?_);have z12:=l.size;have O:Chg (fun b=>b=i.heap.size) r G:=(Chg.of_ext _ I).grown l (fun g a=>by cases a;rfl);have hC12:=A.trans O;have hb612:Blk G _ _ _:=(O.block _ O7 (fun h=>by omega)).trans hb610;have hE12:Ext w0 G:=Chg.ext hE10 O (fun b d=>by subst d;omega);have hon12:=(hon.extN I).keptN l (fun g a e=>by have:=Nn e;have:=hln g a;omega);have hol12:=(hol.extN I).keptN l (fun g a e=>by have:=Nn e;have:=H g a;omega);have hos12:=hos.keptN l (fun g a e=>by have:=Nn e;have:=hlos g a;omega);have inn12:=inn.to (O.wk (M':=fun b=>b=i.heap.size∨(Value.slice nvo vs.length nvc).ownBlock=some b∨(Value.slice lbo ((List.range j).map (xq sl nx)).length lbc).ownBlock=some b∨b<o.heap.size) (fun b h=>.inl h)) (fun b h=>.inl h);obtain⟨nvo2,nvc2,en,s2⟩:=inn12.sl (F:=Fz G (fun b=>b=i.heap.size∨b<o.heap.size)) hon12 (fun b d=>⟨d.1,fun h=>d.2 (h.elim .inl fun h=>.inr (.inr (.inr h)))⟩) (fun g a=>⟨(hon12.lt g a).2.1,fun h=>by have:=(hln g a).1;rcases h with h|h<;>omega⟩);obtain⟨rfl,hnlen,rfl⟩:=Oi en;obtain⟨lbo2,lbc2,en2,s3⟩:=hol12.slF (F':=Fz G (fun b=>b=i.heap.size∨b<o.heap.size)) Pj (fun g a=>⟨(hol12.lt g a).2.1,fun h=>by have:=(H g a).1;rcases h with h|h<;>omega⟩);obtain⟨rfl,_,rfl⟩:=Oi en2;obtain⟨sto2,stc2,en3,s1⟩:=hos12.slF (F':=Fz G (fun b=>b=i.heap.size∨b<o.heap.size)) Pj (fun g a=>⟨(hos12.lt g a).2.1,fun h=>by have:=(hlos g a).1;rcases h with h|h<;>omega⟩);obtain⟨rfl,_,rfl⟩:=Oi en3;rw[hnlen]at P
 clear hon hol hos inn hdis hC10' hon12 hol12 hos12 inn12 hln H hlos en en2 en3 hR10 D hsb11 I l hE10 hb610 A;refine QE ?_;refine CW.loop (S:=Nat×Value×List Raw) (fun s=>[(6,Pz w1.heap.size),(11,Pz i.heap.size),(87,Py sl.length),(88,Py s.1)])
  (fun s w=>s.1≤sl.length∧Blk w i.heap.size 129 [.slice lo sl.length lc,.slice mo ml.length mc,.slice no nx.length nc,.slice oo j oc,.slice ao nx.length ac,.slice yo nx.length yc,.slice sto (fW nx 0).length stc,.slice nvo ((List.range j).map (zk nx)).length nvc,.slice lbo ((List.range j).map (xq sl nx)).length lbc,s.2.1]∧Own w G.heap.size 39 cZ s.2.1 s.2.2∧
   InnR w (fun b=>b=i.heap.size∨s.2.1.ownBlock=some b∨b<o.heap.size) s.2.2 ((List.range s.1).map fun k:Nat=>ow nx (k:Int))∧Chg (fun b=>b=i.heap.size) G w)
  (fun s=>sl.length -s.1) (0,.slice none 0 0,[]) O6 ⟨Nc _,P,Own.nil,InnR.nil,Chg.refl _ _⟩ ?_
 rintro⟨k,fv,ws⟩ c ⟨hk0,t,hof,inf,y⟩
 dsimp only at hk0 t hof inf y⊢
 have z13:=y.size;have hlf:=fun g a=>hof.lt g a
 have hwl:ws.length=k:=by rw[inf.len];simp
 obtain⟨fvo,fvc,rfl⟩:=hof.val;refine Qt ?_;apply CW.cond rfl<;>intro h
 ·have hk:k<sl.length:=by simp only[OD]at h;omega
  clear h;have hD:Ext c (drew c):=Ext.drew c;have K:=t.ext hD;have hKs:∀u,(fun z:World=>∀b,b<c.heap.size→(Value.slice fvo ws.length fvc).ownBlock≠some b→z.heap[b]?=(drew c).heap[b]?) u→u.heap[i.heap.size]?=(drew c).heap[i.heap.size]?:=fun u h=>h _ O7 (fun e=>by have:=hlf _ e;omega)
  refine PT ?_;refine aE (fun z:World=>∀b,b<c.heap.size→(Value.slice fvo ws.length fvc).ownBlock≠some b→z.heap[b]?=(drew c).heap[b]?) [(0,true),(1,true),(2,true),(3,true),(4,true),(5,true),(6,true),(7,true),(8,false),(9,false),(10,false),(11,false),(12,false),(13,false)] 14 mixed O8 (fun _ _ _=>rfl) ?_;refine RJ ?_;refine cr rfl (WL.call rfl rfl rfl (oF (drew c) (k:=k) ((hrun (hC12.trans y) t).up hD) hN) ?_);rintro rv B ⟨hro,R⟩
  have n:=hD.trans R;have z14:=n.size;have hlr:=fun g a=>hro.lt g a
  obtain⟨ro,rc,rfl⟩:=hro.val;refine WL.nil (a_ (fun b d _=>R.block b d) ?_);refine bV (α:=Raw) (F:=cZ) (bytes:=24) (yv:=(⟨.slice ro (ow nx (k:Int)).length rc⟩:Raw)) rfl rfl rfl rfl Pg rfl rfl Pg (hof.extN n) (Rd.mkRaw _ _ _ rfl) O7 Pj O9 Pb O7
   (fun z hz b d E=>(hz.block b O7 (fun e=>E e.symm)).trans (R.block b d)) (fun fv' w15 q15 L q X=>?_)
  have hsb15:=(K.ext R).kept q (fun e=>by have:=hlf _ e.symm;omega);have z15:=q.size;have Q:(fun z:World=>∀b,b<c.heap.size→(Value.slice fvo ws.length fvc).ownBlock≠some b→z.heap[b]?=(drew c).heap[b]?) w15:=fun b d E=>(q.block b O7 (fun e=>E e.symm)).trans (R.block b d)
  obtain⟨fvo',fvc',rfl⟩:=L.val;refine cr rfl (fh rfl rfl rfl (WL.nil (a_ Q ?_)));refine cr rfl (eG rfl rfl rfl (WL.nil (a_ Q ?_)));refine cr rfl (eG rfl rfl rfl (WL.nil (a_ Q (HL.nil ?_))));refine bp rfl (WL.st rfl rfl rfl hsb15 rfl rfl Pr (fun w16 hsb16 N=>WL.nil (bu ?_)));have hof16:=L.keptN N (fun g a e=>by have:=Nn e;have:=(L.lt g a).1;omega);have hC16:Chg (fun b=>b=i.heap.size) G w16:=((y.trans (Chg.of_ext _ n)).then (Chg.of_grown q) (fun b h=>.inr (hlf b h).1)).grown N (fun g a=>by cases a;rfl);have W:Rd B (Fz B (fun b=>b=i.heap.size∨(Value.slice fvo ws.length fvc).ownBlock=some b∨b<o.heap.size)) (.slice ro (ow nx (k:Int)).length rc) (ow nx (k:Int)):=
   hro.rd.mono Pq (fun g a=>a.elim (fun h=>h.elim) (fun a=>⟨(hlr g a).2.1,fun h=>by
    have h1:c.heap.size≤g:=(hlr g a).1;rcases h with h|h|h
    ·omega
    ·have:=(hlf g h).2.1;omega
    ·omega⟩))
  have inf14:=(inf.to (Chg.of_ext _ n) (fun b h=>.inl h)).push W;have Z:Chg (fun b=>b=i.heap.size∨(Value.slice fvo ws.length fvc).ownBlock=some b∨b<o.heap.size) B w16:=((Chg.of_grown q).wk (fun b h=>.inr (.inl h))).grown N Pp;have inf16:=inf14.to Z (M':=fun b=>b=i.heap.size∨(Value.slice fvo' (ws++[(⟨.slice ro (ow nx (k:Int)).length rc⟩:Raw)]).length fvc').ownBlock=some b∨b<o.heap.size) (fun b h=>by
   rcases h with h|h|h
   ·exact .inl (.inl h)
   ·exact(X b h).imp (fun h=>.inr (.inl h)) id
   ·exact .inl (.inr (.inr h)))
  rw[←CN (f:=fun k:Nat=>ow nx (k:Int))]at inf16
  refine Qc ?_;exact EX.back (k+1,_,_) O6 ⟨hk,hsb16,hof16,inf16,hC16⟩ Pa
 have hke:k=sl.length:=by simp only[OA]at h;omega
 subst hke;clear h;obtain⟨fvo2,fvc2,en4,s4⟩:=inf.sl (F:=Fz c (fun b=>b=i.heap.size∨b<o.heap.size)) hof (fun b d=>⟨d.1,fun h=>d.2 (h.elim .inl fun h=>.inr (.inr h))⟩) (fun g a=>⟨(hof.lt g a).2.1,fun h=>by have:=(hlf g a).1;rcases h with h|h<;>omega⟩);obtain⟨rfl,hflen,rfl⟩:=Oi en4;rw[hflen]at t
 have hb613:Blk c _ _ _:=(y.block _ O7 (fun h=>by omega)).trans hb612;have hE13:Ext w0 c:=Chg.ext hE12 y (fun b d=>by subst d;omega);have hD:Ext c (drew c):=Ext.drew c;have K:=t.ext hD;have hb6d:=hb613.ext hD;have hKs:∀u,(fun z:World=>z.heap[i.heap.size]?=(drew c).heap[i.heap.size]?) u→u.heap[i.heap.size]?=(drew c).heap[i.heap.size]?:=fun u h=>h
 refine Qo ?_;refine aF (fun z:World=>z.heap[i.heap.size]?=(drew c).heap[i.heap.size]?) [(0,true),(1,true),(2,true),(3,true),(4,true),(5,true),(6,true),(7,true),(8,false),(9,true),(10,true)] mixed O8 rfl ?_;refine RK ?_;refine cf hKs rfl rfl rfl rfl K rfl ?_;refine RJ ?_;refine cr rfl (WL.st rfl rfl rfl hb6d rfl rfl Pr (fun B hb14 hg14=>WL.nil (a_ ?_ ?_)))
 ·exact hg14.block _ (by have:=hD.size;omega) Po
 refine RR ?_;have z14:c.heap.size≤B.heap.size:=hg14.size;have hE14:Ext w0 B:=(hE13.trans hD).grown hg14 (by have:=hE13.size;have:=hD.size;omega) Pk;have hk13:∀b,b<c.heap.size→b≠w1.heap.size→B.heap[b]?=c.heap[b]?:=fun b d E=>hg14.block b d (fun e=>E (Nn e))
 have hfin:∀b,Fz G (fun b=>b=i.heap.size∨b<o.heap.size) b→B.heap[b]?=G.heap[b]?:=fun b d=>by
  have h1:o.heap.size≤b:=MK (fun hx=>d.2 (.inr hx));have h2:=d.1;exact(hk13 b O7 O7).trans (y.block b d.1 (fun h=>d.2 (.inl h)))
 have hle:∀b,Fz G (fun b=>b=i.heap.size∨b<o.heap.size) b→c7 B b:=fun b d=>(show b<B.heap.size by have:=d.1;omega)
 have hC913:=hC12.trans y;have s5:Sl B (c7 B) oo oc (Ao nx nx.length):=q3.mono (fun b d=>(hk13 b (by have:=d.2;omega) (by have:=d.1;omega)).trans (hC913.block b d.2 (fun h=>by have:=d.1;omega))) (fun b d=>(show b<B.heap.size by have:=d.2;omega));refine PQ ?_;subst hNN;exact bi rfl rfl rfl rfl hb14 rfl ⟨⟨_,oo,oc,rfl,⟨sto,stc,nvo,nvc,lbo,lbc,fvo,fvc,rfl,s1.mono hfin hle,s2.mono hfin hle,s3.mono hfin hle,s4.mono (fun b d=>hk13 b d.1 (by have:=MK (fun hx=>d.2 (.inr hx));omega)) (fun b d=>(show b<B.heap.size by have:=d.1;omega))⟩,s5⟩,hE14⟩
theorem En{p:cI}{tok st:Int}(h:(El p tok st).2=0):(n_ p tok st).2=0∧gz (n_ p tok st).1.2 (n_ p tok st).1.2.length≤600∧(El p tok st).1=(Er (F4 p).1 (n_ p tok st).1.2,Ao (n_ p tok st).1.2 (n_ p tok st).1.2.length):=by
 unfold El at h⊢
 split at h
 ·rename_i g;exact absurd h g
 rename_i g1;split at h
 ·cases h
 rename_i g2;rw[OJ g1,OJ g2];exact⟨by simpa using g1,by omega,rfl⟩
theorem Dh{n k:Nat}(h:k<n):(List.replicate n true).getD k false=true:=by
 rw[KT,K3,OK h];rfl
noncomputable abbrev fS(nx fr:bU):List Bool:=IR nx (List.replicate nx.length true) fr
theorem f6{nx:bU}(a:okG nx){u v:Nat}:Eg (inG nx (List.replicate nx.length true)) u v↔Eg nx u v:=by
 rw[inG_edge];exact⟨fun h=>h.1,fun h=>⟨h,Dh h.lt1,Dh (h.lt a)⟩⟩
theorem fT{nx fr:bU}(a:okG nx){n:Nat}(h:n<nx.length):(fS nx fr).getD n false=true↔∃r,r 0=n∧Way8 (Eg nx) (E0 fr) r:=by
 rw[IS h,show Eg (inG nx (List.replicate nx.length true))=Eg nx from funext fun u=>funext fun v=>propext (f6 a)]
theorem bJ(w0:World){a1 a2 a3 a4:Option Addr}{c1 c2 c3 c4 k:Nat}{st:List Int}{nx fr:bU}(h1:Sl w0 (c7 w0) a1 c1 st)(h2:Sl w0 (c7 w0) a2 c2 nx)(U:k≤9223372036854775807)(h4:Sl w0 (c7 w0) a4 c4 fr)(X:mG nx≤8589934592):
  Rt Tryz.prog 95 [I1 a1 c1 a2 c2 a3 c3 a4 c4 st.length nx.length k fr.length].toArray w0 fun v w'=>∃x,v=.tuple ⟨[x,Py (jT st nx k fr)]⟩∧Own w' w0.heap.size 4 cZ x (if jT st nx k fr=0 then fS nx fr else [])∧Ext w0 w':=by
 have Q:=h2.len63;refine dD Tryz.func95 Tryz.ntmps95 rfl rfl ?_;have d:=Ext.refl w0;refine PB ?_;refine dX rfl rfl rfl fun O n Z=>?_
 have d:=d.trans Z;refine Q4 ?_;refine WL.call rfl rfl rfl (Ix O (h1.up d) (h2.up d) U (h4.up d)) ?_;rintro _ o ⟨rfl,L⟩
 have n:=n.ext L;have d:=d.trans L;refine Qt ?_;apply CW.cond rfl<;>intro h
 ·have h:jT st nx k fr≠0:=by simpa using h
  refine QO ?_;exact bf rfl rfl rfl ⟨_,rfl,by rw[OJ h];exact Own.nil,d⟩
 have h:jT st nx k fr=0:=by simpa using h
 obtain⟨j,K,T,A,f,g⟩:=jU h;have B:okG nx:=fun r P=>(f r P).2
 rw[OK h,h];refine QP ?_;refine eW (α:=Bool) rfl rfl rfl rfl O7 Pb (fun N ho3 G=>?_);have Y:Ext o N:=(JI _ _).grown G Pu Pn;generalize y:Value.slice (some ⟨o.heap.size,0,none⟩) nx.length nx.length=sv at*
 have R:∃ao cap,sv=.slice ao nx.length cap:=⟨_,_,y.symm⟩;refine QS ?_;rw[Lx];refine CW.loop (S:=Nat×List Bool) (fun s=>[(1,Pz w0.heap.size),(5,sv),(17,Py nx.length),(18,Py s.1)])
  (fun s w=>s.1≤nx.length∧Own w o.heap.size 4 cZ sv s.2∧s.2.length=nx.length∧(∀c,c<s.1→s.2.getD c false=true)∧Ext o w) (fun s=>nx.length -s.1) (0,List.replicate nx.length false) O6 ⟨Nc _,ho3,by simp,fun c H=>absurd H Pa,Y⟩ ?_
 rintro⟨i,inn⟩ M ⟨hi,q,m,l,t⟩
 dsimp only at hi q m l⊢
 have a:=d.trans t;have V:=n.ext t;refine Qt ?_;apply CW.cond rfl<;>intro h
 ·have E:i<nx.length:=by simp at h;omega
  refine PT ?_;refine ft (u:=.bool true) (yv:=true) rfl rfl rfl rfl q (show i<inn.length by omega) Pg Pg (Rd.mkBool _ _ _) (fun J q2 ho5 F=>?_);have I:Ext o J:=t.grown F t.size (fun b W=>(q.lt b W).1);refine Qc ?_;refine EX.back (i+1,inn.set i true) O6 ⟨E,ho5,by simpa using m,fun c H=>?_,I⟩ Pa;dsimp only at H⊢
  rw[qV O7];by_cases e:i=c
  ·rw[OK e]
  ·rw[OJ e];exact l c O7
 obtain rfl:i=nx.length:=by simp at h;omega
 have p:inn=List.replicate nx.length true:=by
  refine KD (by simpa using m) fun c h1 h2=>?_
  rw[←IM h1,Le];exact l c O7
 subst p;obtain⟨io,ic,C,D⟩:=q.oldN.sl;subst C;refine QT ?_;refine WL.call rfl rfl rfl (fD M (h2.up a) (h4.up a) D B g O_ j X) ?_;rintro v J ⟨z,I⟩
 refine PK ?_;exact bf rfl rfl rfl ⟨_,rfl,z.low a.size,a.trans I⟩
def DH(nx:List (List cE)):List (List Int):=(List.range (gz nx nx.length)).map (zk nx)
def DP(K:Nat)(nx:List (List cE)):List (List Int):=(List.range K).map fun k:Nat=>ow nx (k:Int)
theorem DK{nx:List (List cE)}:(DH nx).length=gz nx nx.length:=by simp[DH]
theorem DJ{nx:List (List cE)}{j:Nat}(h:j<gz nx nx.length):(DH nx).getD j []=zk nx j:=by
 unfold DH;rw[KT,K1,K2 h];rfl
theorem fX{nx:List (List cE)}{m:Nat}(b:m<nx.length):AF (gz nx nx.length) (fW nx m):=fun x a=>by
 unfold fW at a
 obtain⟨i,hi,rfl⟩:=LU.1 a;have:=gB (nx:=nx) b (LZ.1 hi);omega
theorem GY{sl:List cK}{nx:List (List cE)}(d:NxOk sl nx){j:Nat}(g:j<gz nx nx.length)(k:¬(As nx j).1<0):(GX nx j).2.toNat<nx.length:=by
 obtain⟨n,i,hn,hi,f,b,c⟩:=Au d g;rcases c with⟨c,_⟩|⟨_,_,a,e⟩
 ·omega
 have h:=d.ed n hn _ (Lc a);unfold GX;rw[b,Kb,show j -gz nx n=i by omega,q_ a];omega
theorem zl{sl:List cK}{nx:List (List cE)}(c:NxOk sl nx){j:Nat}(b:j<gz nx nx.length):AF (gz nx nx.length) (zk nx j):=by
 unfold zk;split
 ·intro x a
  rw[L0]at a
  subst a;omega
 ·rename_i d
  exact fX (GY c b d)
theorem zm{sl:List cK}{nx:List (List cE)}(a:NxOk sl nx){j:Nat}:0<(zk nx j).length∧(zk nx j).length≤60:=by
 unfold zk;split
 ·simp
 ·have h1:=yW (nx:=nx) (n:=(GX nx j).2.toNat)
  have h2:=a.row (GX nx j).2.toNat;unfold fW;rw[Ls,Lv];unfold yV at h1⊢
  omega
theorem DL{sl:List cK}{nx:List (List cE)}(a:NxOk sl nx):∀r∈DH nx,0<r.length∧r.length≤60∧AF (gz nx nx.length) r:=fun r b=>by
 unfold DH at b
 obtain⟨j,c,rfl⟩:=LU.1 b;exact⟨(zm a).1,(zm a).2,zl a (LZ.1 c)⟩
theorem ox{nx:List (List cE)}{k:Int}:AF (gz nx nx.length) (ow nx k):=fun x a=>by
 unfold ow oz at a
 obtain⟨i,hi,rfl⟩:=LU.1 a;have:=LZ.1 (LR.1 hi).1;omega
theorem DG{nx:List (List cE)}{K:Nat}:∀F∈DP K nx,AF (gz nx nx.length) F:=fun F hF=>by
 unfold DP at hF
 obtain⟨k,_,rfl⟩:=LU.1 hF;exact ox
theorem Es{sl:List cK}{nx:List (List cE)}(b:NxOk sl nx)(c:gz nx nx.length≤600):jT (fW nx 0) (DH nx) (gz nx nx.length) (DP sl.length nx)=0:=by
 have d:=b.sl;have hF:(DP sl.length nx).length=sl.length:=by simp[DP]
 unfold jT;rw[DK,OJ O7,OJ,OJ,OJ]
 ·intro h
  obtain⟨F,hF,a⟩:=Kg.1 h;rw[oddB_false.2 (DG F hF)]at a;cases a
 ·intro h
  obtain⟨r,e,a⟩:=Kg.1 h;obtain⟨h1,_,h3⟩:=DL b r e;unfold jI at a
  rw[oddB_false.2 h3,JX]at a
  simp at a
  rw[a]at h1;simp at h1
 ·rintro(h|h)
  ·exact h rfl
  ·rw[oddB_false.2 (fX b.pos)]at h;cases h
theorem DI{sl:List cK}{nx:List (List cE)}(c:NxOk sl nx)(a:gz nx nx.length≤600):mG (DH nx)≤8589934592:=by
 have h:=mO (DH nx) 60 (fun r b=>(DL c r b).2.1);rw[DK]at h
 omega
open Classical in
noncomputable def iF(n:Nat)(P:Nat→Prop):List Bool:=(List.range n).map fun i=>decide (P i)
theorem iI{n:Nat}{P:Nat→Prop}:(iF n P).length=n:=by simp[iF]
theorem iH{n i:Nat}{P:Nat→Prop}(h:i<n):(iF n P).getD i false=true↔P i:=by
 unfold iF;rw[KT,K1,K2 h];simp
theorem iG{n:Nat}{P Q:Nat→Prop}(h:∀i,i<n→(P i↔Q i)):iF n P=iF n Q:=by
 refine KD (by rw[iI,iI]) fun i h1 h2=>?_
 have hi:i<n:=by rw[iI]at h1;exact h1
 rw[JN,←IM h1,←IM h2,iH hi,iH hi];exact h i hi
theorem iJ{n:Nat}{P:Nat→Prop}{l:List Bool}(a:l.length=n)(h:∀i,i<n→(l.getD i false=true↔P i)):l=iF n P:=by
 refine KD (by rw[iI];exact a) fun i h1 h2=>?_
 have hi:i<n:=by omega
 rw[JN,←IM h1,←IM h2,iH hi];exact h i hi
def oC(nx fr:bU)(n:Nat):Prop:=∃r,r 0=n∧Way8 (Eg nx) (E0 fr) r
def mS(nx fr:bU)(A:Nat→Prop)(n:Nat):Prop:=∃r,r 0=n∧Way8 (Eg nx) (E0 fr) r∧∀i,A (r i)
inductive EuP(E:Nat→Nat→Prop)(A B:Nat→Prop):Nat→Prop
 |here {n:Nat}:B n→EuP E A B n
 |step {n m:Nat}:A n→E n m→EuP E A B m→EuP E A B n
def nI(nx fr:bU)(A B:Nat→Prop):Nat→Prop:=EuP (Eg nx) A fun n=>B n∧oC nx fr n
def nS(nx fr:bU)(A:Nat→Prop)(n:Nat):Prop:=∃m,Eg nx n m∧A m∧oC nx fr m
def gK(nx fr:bU)(A B:Nat→Prop)(n:Nat):Prop:=¬(nI nx fr (fun i=>¬B i) (fun i=>¬A i∧¬B i) n∨mS nx fr (fun i=>¬B i) n)
section
variable {nx fr:bU}{A B:Nat→Prop}
theorem Way8.lt{r:Nat→Nat}(a:okG nx)(h:Way8 (Eg nx) (E0 fr) r)(i:Nat):r i<nx.length:=by
 cases i with
 |zero=>exact(h.1 0).lt1
 |succ i=>exact(h.1 i).lt a
theorem IU(a:okG nx):IR nx (iF nx.length A) fr=iF nx.length (mS nx fr A):=by
 refine iJ IT fun n hn=>?_
 rw[IS hn];constructor
 ·rintro⟨r,b,h1,h2⟩
  have h3:=fun i=>inG_edge.1 (h1 i)
  exact⟨r,b,⟨fun i=>(h3 i).1,h2⟩,fun i=>(iH (h3 i).1.lt1).1 (h3 i).2.1⟩
 ·rintro⟨r,b,h,c⟩
  exact⟨r,b,fun i=>inG_edge.2 ⟨h.1 i,(iH (h.lt a i)).2 (c i),(iH (h.lt a (i+1))).2 (c (i+1))⟩,h.2⟩
theorem f7(a:okG nx):fS nx fr=iF nx.length (oC nx fr):=iJ IT fun n hn=>fT a hn
end
def kZ(nx:bU)(lb:List Nat)(fr:bU)(k n:Int)(ks:List (Nat→Prop)):Nat→Prop:=
 if k=1 then fun _=>True
 else if k=3 then fun i=>lb.getD i 0 >>> n.toNat&&&1=1
 else if k=4 then fun i=>¬ks.getD 0 (fun _=>False) i
 else if k=5 then fun i=>ks.getD 0 (fun _=>False) i∧ks.getD 1 (fun _=>False) i
 else if k=6 then fun i=>ks.getD 0 (fun _=>False) i∨ks.getD 1 (fun _=>False) i
 else if k=7 then nS nx fr (ks.getD 0 (fun _=>False))
 else if k=8 then nI nx fr (fun _=>True) (ks.getD 0 (fun _=>False))
 else if k=9 then mS nx fr (ks.getD 0 (fun _=>False))
 else if k=10 then nI nx fr (ks.getD 0 (fun _=>False)) (ks.getD 1 (fun _=>False))
 else if k=11 then fun i=>¬nS nx fr (fun j=>¬ks.getD 0 (fun _=>False) j) i
 else if k=12 then fun i=>¬mS nx fr (fun j=>¬ks.getD 0 (fun _=>False) j) i
 else if k=13 then fun i=>¬nI nx fr (fun _=>True) (fun j=>¬ks.getD 0 (fun _=>False) j) i
 else if k=14 then gK nx fr (ks.getD 0 (fun _=>False)) (ks.getD 1 (fun _=>False))
 else fun _=>False
mutual
def kX(nx:bU)(lb:List Nat)(fr:bU):Ltl→Nat→Prop
 |.mk k n kids=>kZ nx lb fr k n (kY nx lb fr kids)
def kY(nx:bU)(lb:List Nat)(fr:bU):List Ltl→List (Nat→Prop)
 |[]=>[]
 |x::r=>kX nx lb fr x::kY nx lb fr r
end
section
variable {nx fr:bU}{lb:List Nat}{f g:Ltl}
end
section
variable {nx fr:bU}{lb:List Nat}{f:Ltl}{r:Nat→Nat}
end
section
variable {N:Nat}{nx nx' fr fr':bU}{lb lb':List Nat}
variable {A A' B B':Nat→Prop}
end
def LabAt(w:World)(b:Nat)(nx:bU)(lb:List Nat)(fr:bU):Prop:=
 ∃(a1:Option Addr) (c1 n1:Nat) (a2:Option Addr) (c2:Nat) (a3:Option Addr) (c3:Nat) (a4:Option Addr) (c4:Nat) (ao:Option Addr) (ac:Nat) (a:Option Addr) (bc:Nat),
  Blk w b 197 [.slice a1 n1 c1,.slice a2 nx.length c2,.slice a3 lb.length c3,.slice a4 fr.length c4,.slice ao (iF nx.length (oC nx fr)).length ac,.slice a (Ht nx).length bc]∧
  Sl w (c7 w) a2 c2 nx∧Sl w (c7 w) a3 c3 lb∧Sl w (c7 w) a4 c4 fr∧Sl w (c7 w) ao ac (iF nx.length (oC nx fr))∧Sl w (c7 w) a bc (Ht nx)
theorem LabAt.up{w w':World}{b:Nat}{nx fr:bU}{lb:List Nat}(h:LabAt w b nx lb fr)(a:Ext w w'):LabAt w' b nx lb fr:=by
 obtain⟨a1,c1,n1,a2,c2,a3,c3,a4,c4,ao,ac,f,bc,c,h2,h3,h4,e,d⟩:=h;exact⟨a1,c1,n1,a2,c2,a3,c3,a4,c4,ao,ac,f,bc,c.ext a,h2.up a,h3.up a,h4.up a,e.up a,d.up a⟩
structure WOk(nx:bU)(fr:bU):Prop where
 n:nx.length≤600
 g:okG nx
 f:∀F∈fr,AF nx.length F
 e:mG nx≤8589934592
abbrev xp(b:Nat):Value:=.pointer (some ⟨b,0,none⟩)
theorem mD(w0:World){b:Nat}{nx fr:bU}{lb:List Nat}(C:LabAt w0 b nx lb fr)(hn:nx.length≤600){fv:Value}{P:Nat→Prop}
  (hf:∀(w:World) (n:Nat),Ext w0 w→n<nx.length→FnV Tryz.prog fv [Py (n:Int)] w fun v w'=>∃c:Bool,v=.bool c∧(c=true↔P n)∧Ext w w'):
  Rt Tryz.prog 96 [xp b,fv].toArray w0 fun v w'=>Own w' w0.heap.size 4 cZ v (iF nx.length P)∧Ext w0 w':=by
 obtain⟨a1,c1,n1,a2,c2,a3,c3,a4,c4,ao,ac,J,bc,t,h2,h3,h4,I,H⟩:=C;refine dE Tryz.func96 Tryz.ntmps96 rfl rfl ?_;refine QE ?_;refine eW (α:=Bool) rfl rfl rfl rfl O7 Pb (fun z ho3 p=>?_);have E:Ext w0 z:=(JI _ _).grown p Pu Pn;generalize l:Value.slice (some ⟨w0.heap.size,0,none⟩) nx.length nx.length=sv at*
 have A:∃ao cap,sv=.slice ao nx.length cap:=⟨_,_,l.symm⟩;refine QS ?_;rw[Lx];refine CW.loop (S:=Nat×List Bool) (fun s=>[(1,fv),(5,sv),(15,Py nx.length),(16,Py s.1)])
  (fun s w=>s.1≤nx.length∧Own w w0.heap.size 4 cZ sv s.2∧s.2.length=nx.length∧(∀c,c<s.1→(s.2.getD c false=true↔P c))∧Ext w0 w) (fun s=>nx.length -s.1) (0,List.replicate nx.length false) O6 ⟨Nc _,ho3,by simp,fun c q=>absurd q Pa,E⟩ ?_
 rintro⟨i,o⟩ y ⟨hi,f,d,a,j⟩
 dsimp only at hi f d a⊢
 refine Qt ?_;apply CW.cond rfl<;>intro h
 ·have g:i<nx.length:=by simp at h;omega
  refine PT ?_;refine d7 rfl rfl rfl rfl (hf y i j g) ?_;rintro _ F ⟨c,rfl,q,r⟩
  skip;refine ft (u:=.bool c) (yv:=c) rfl rfl rfl rfl (f.extN r) (show i<o.length by omega) Pg Pg (Rd.mkBool _ _ _) (fun x G ho6 m=>?_);have D:Ext w0 x:=(j.trans r).grown m (j.trans r).size (fun b t=>(f.lt b t).1);refine Qc ?_;refine EX.back (i+1,o.set i c) O6 ⟨g,ho6,by simpa using d,fun k B=>?_,D⟩ Pa;dsimp only at B⊢
  rw[qV O7];by_cases e:i=k
  ·subst e;rw[OK rfl];exact q
  ·rw[OJ e];exact a k O7
 obtain rfl:i=nx.length:=by simp at h;omega
 rw[iJ d a]at f
 refine P_ ?_;exact be rfl rfl ⟨f,j⟩
theorem yb(w:World){bb x:Nat}{ao:Option Addr}{ac:Nat}{l:List Bool}(c:Blk w bb 80 [.slice ao l.length ac])(b:Sl w (c7 w) ao ac l)(a:x<l.length):
  Rt Tryz.prog 161 [Py (x:Int),Pz bb].toArray w fun v w'=>v=.bool (!l.getD x false)∧Ext w w':=by
 refine dE Tryz.func161 Tryz.ntmps161 rfl rfl ?_;refine Qa ?_;refine eA rfl rfl rfl rfl rfl b a (IM a).symm Pg (fun q=>?_);refine PK ?_;exact be rfl rfl ⟨rfl,Ext.refl _⟩
theorem Aa{c:Bool}{P:Prop}(h:c=true↔P):(!c)=true↔¬P:=by
 rw[←h];cases c<;>simp
theorem yd(w0:World){b:Nat}{nx fr:bU}{lb:List Nat}(l:LabAt w0 b nx lb fr)(hn:nx.length≤600){ao:Option Addr}{ac:Nat}{P:Nat→Prop}(k:Sl w0 (c7 w0) ao ac (iF nx.length P)):
  Rt Tryz.prog 99 [xp b,.slice ao (iF nx.length P).length ac].toArray w0 fun v w'=>Own w' w0.heap.size 4 cZ v (iF nx.length fun i=>¬P i)∧Ext w0 w':=by
 refine dE Tryz.func99 Tryz.ntmps99 rfl rfl ?_;refine PB ?_;refine dX rfl rfl rfl fun g a c=>?_
 have j:=a.lt;refine QJ ?_;refine WL.call rfl rfl rfl (mD g (P:=fun i=>¬P i) (l.up c) hn (fun w n e hn=>FnV.mk (f:=161) (Rt.mono (yb w (a.ext e) (k.up (c.trans e)) (show n<_ by rw[iI];exact hn)) (fun v w' d=>⟨_,d.1,Aa (iH hn),d.2⟩)))) ?_;rintro _ o ⟨h,m⟩
 refine PK ?_;exact be rfl rfl ⟨h.low c.size,c.trans m⟩
theorem xC(w:World){b1 b2 x:Nat}{ao d:Option Addr}{ac bc:Nat}{l k:List Bool}(h:Blk w b1 80 [.slice ao l.length ac])(g:Blk w b2 80 [.slice d k.length bc])(e:Sl w (c7 w) ao ac l)(f:Sl w (c7 w) d bc k)(b:x<l.length)(a:x<k.length):
  Rt Tryz.prog 162 [Py (x:Int),Pz b1,Pz b2].toArray w fun v w'=>v=.bool (l.getD x false&&k.getD x false)∧Ext w w':=by
 refine dF Tryz.func162 Tryz.ntmps162 rfl rfl ?_;refine Qa ?_;refine eA rfl rfl rfl rfl rfl e b (IM b).symm Pg (fun q=>?_);generalize l.getD x false=c;cases c with
 |false=>
  refine PL ?_;exact be rfl rfl ⟨rfl,Ext.refl _⟩
 |true=>
  refine Rs ?_;refine eA rfl rfl rfl rfl rfl f a (IM a).symm Pg (fun i=>?_);refine PK ?_;exact be rfl rfl ⟨rfl,Ext.refl _⟩
theorem gi{c d:Bool}{P Q:Prop}(h:c=true↔P)(k:d=true↔Q):(c&&d)=true↔P∧Q:=by
 rw[←h,←k];cases c<;>cases d<;>simp
theorem xD(w0:World){b:Nat}{nx fr:bU}{lb:List Nat}(p:LabAt w0 b nx lb fr)(hn:nx.length≤600){ao j:Option Addr}{ac bc:Nat}{P Q:Nat→Prop}(o:Sl w0 (c7 w0) ao ac (iF nx.length P))(m:Sl w0 (c7 w0) j bc (iF nx.length Q)):
  Rt Tryz.prog 100 [xp b,.slice ao (iF nx.length P).length ac,.slice j (iF nx.length Q).length bc].toArray w0 fun v w'=>Own w' w0.heap.size 4 cZ v (iF nx.length fun i=>P i∧Q i)∧Ext w0 w':=by
 refine dF Tryz.func100 Tryz.ntmps100 rfl rfl ?_;refine PB ?_;refine dX rfl rfl rfl fun t c r=>?_
 skip;refine dX rfl rfl rfl fun k e h=>?_
 have c:=c.ext h;have d:=r.trans h;refine QJ ?_;refine WL.call rfl rfl rfl (mD k (P:=fun i=>P i∧Q i) (p.up d) hn (fun w n a hn=>FnV.mk (f:=162) (Rt.mono (xC w (c.ext a) (e.ext a) (o.up (d.trans a)) (m.up (d.trans a)) (show n<_ by rw[iI];exact hn) (show n<_ by rw[iI];exact hn)) (fun v w' g=>⟨_,g.1,gi (iH hn) (iH hn),g.2⟩)))) ?_;rintro _ s ⟨l,q⟩
 refine PK ?_;exact be rfl rfl ⟨l.low d.size,d.trans q⟩
theorem xL(w:World){b b1 b2 x:Nat}{nx fr:bU}{lb:List Nat}(D:LabAt w b nx lb fr)(o:okG nx){ao:Option Addr}{ac:Nat}{P:Nat→Prop}(C:Blk w b1 135 [xp b])(B:Blk w b2 80 [.slice ao (iF nx.length P).length ac])
  (A:Sl w (c7 w) ao ac (iF nx.length P)) (n:x<nx.length):
  Rt Tryz.prog 163 [Py (x:Int),Pz b1,Pz b2].toArray w fun v w'=>∃c:Bool,v=.bool c∧(c=true↔nS nx fr P x)∧Ext w w':=by
 obtain⟨a1,c1,n1,a2,c2,a3,c3,a4,c4,fo,fc,J,bc,H,h2,h3,h4,E,I⟩:=D;have e:=AE o x;rw[IN n]at e
 have j:∀m:Nat,Eg nx x m↔(m:Int)∈nx[x]:=fun m=>by unfold Eg;rw[IN n]
 refine dF Tryz.func163 Tryz.ntmps163 rfl rfl ?_;refine P9 ?_;refine eC rfl rfl rfl rfl rfl h2 n Pg (fun u q y=>?_);obtain⟨t,rc,rfl,s⟩:=y.sl;have z:=s.len63;generalize nx[x]=row at*
 refine Qs ?_;refine CW.loop (S:=Nat) (fun i=>[(1,Pz b1),(2,Pz b2),(14,.slice t row.length rc),(15,Py row.length),(16,Py i)])
  (fun i w'=>w'=w∧i≤row.length∧∀m:Nat,(m:Int)∈row.take i→¬(P m∧oC nx fr m)) (fun i=>row.length -i) 0 O6 ⟨rfl,Nc _,fun m a=>by simp at a⟩ ?_
 rintro i w' ⟨rfl,hi,f⟩
 refine Qt ?_;apply CW.cond rfl<;>intro h
 ·have d:i<row.length:=by simp at h;omega
  obtain⟨k,p⟩:∃k:Nat,row[i]=(k:Int):=⟨(row[i]).toNat,by have:=e _ (Lc d);omega⟩;have g:k<nx.length:=by have:=e _ (Lc d);omega
  have l:row.take (i+1)=row.take i++[(k:Int)]:=by rw[Mi,KY d,p];rfl
  have r:(k:Int)∈row:=p▸Lc d;have bP:=iH (P:=P) g;have bF:=iH (P:=oC nx fr) g;refine Rb ?_;refine eB rfl rfl rfl rfl rfl s d p Pg (fun q=>?_);refine Qa ?_;refine eA rfl rfl rfl rfl rfl A (show k<_ by rw[iI];exact g) (IM _).symm Pg (fun G=>?_);generalize (iF nx.length P).getD k false=c at*
  cases c with
  |false=>
   refine Qx ?_;refine EX.back (i+1) O6 ⟨rfl,d,fun m a=>?_⟩ O7;rw[l]at a
   rcases LK.1 a with a|a
   ·exact f m a
   ·have:m=k:=by have:=L0.1 a;omega
    subst this;exact fun h=>by have:=bP.2 h.1;cases this
  |true=>
   refine Rr ?_;refine eA rfl rfl rfl rfl rfl E (show k<_ by rw[iI];exact g) (IM _).symm Pg (fun F=>?_);generalize (iF nx.length (oC nx fr)).getD k false=c at*
   cases c with
   |false=>
    refine P0 ?_;refine EX.back (i+1) O6 ⟨rfl,d,fun m a=>?_⟩ O7;rw[l]at a
    rcases LK.1 a with a|a
    ·exact f m a
    ·have:m=k:=by have:=L0.1 a;omega
     subst this;exact fun h=>by have:=bF.2 h.2;cases this
   |true=>
    refine QK ?_;exact be rfl rfl ⟨_,rfl,⟨fun _=>⟨k,(j k).2 r,bP.1 rfl,bF.1 rfl⟩,fun _=>rfl⟩,Ext.refl _⟩
 ·obtain rfl:i=row.length:=by simp at h;omega
  rw[Mk]at f
  refine P_ ?_;refine be rfl rfl ⟨_,rfl,⟨(fun h=>by cases h),fun⟨m,h1,h2⟩=>absurd h2 (f m ((j m).1 h1))⟩,Ext.refl _⟩
theorem xM(w0:World){b:Nat}{nx fr:bU}{lb:List Nat}(h:LabAt w0 b nx lb fr)(e:okG nx)(hn:nx.length≤600){ao:Option Addr}{ac:Nat}{P:Nat→Prop}(l:Sl w0 (c7 w0) ao ac (iF nx.length P)):
  Rt Tryz.prog 102 [xp b,.slice ao (iF nx.length P).length ac].toArray w0 fun v w'=>Own w' w0.heap.size 4 cZ v (iF nx.length (nS nx fr P))∧Ext w0 w':=by
 refine dE Tryz.func102 Tryz.ntmps102 rfl rfl ?_;refine PB ?_;refine dX rfl rfl rfl fun q c o=>?_
 skip;refine dX rfl rfl rfl fun j g i=>?_
 have c:=c.ext i;have d:=o.trans i;refine Qz ?_;refine WL.call rfl rfl rfl (mD j (P:=nS nx fr P) (h.up d) hn (fun w n a hn=>FnV.mk (f:=163) (xL w (h.up (d.trans a)) e (c.ext a) (g.ext a) (l.up (d.trans a)) hn))) ?_;rintro _ p ⟨k,m⟩
 refine PK ?_;exact be rfl rfl ⟨k.low d.size,d.trans m⟩
end Go.Proofs.YtfpjecjadlgdcaaGreatDoor
