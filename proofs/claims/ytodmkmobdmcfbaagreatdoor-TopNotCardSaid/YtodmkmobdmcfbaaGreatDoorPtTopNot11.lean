import Derived.Test.YtodmkmobdmcfbaaGreatDoorPtTopNot10
set_option linter.unusedVariables false
set_option linter.unusedSimpArgs false
set_option linter.defProp false
namespace Go.Proofs.YtodmkmobdmcfbaaGreatDoor
open Go.RowKit
theorem Chg.step{S S':Nat→Prop}{w0 w w':World}(h:Chg S w0 w)(k:Chg S' w w')(hS:∀b,S' b→S b∨w0.heap.size≤b):Chg S w0 w':=
 ⟨k.os.trans h.os,k.tape.trans h.tape,k.output.trans h.output,MH h.size k.size,fun b a hn=>(k.block b (MK a h.size) (fun c=>(hS b c).elim hn (fun h=>by omega))).trans (h.block b a hn)⟩
theorem Chg.stepE{S:Nat→Prop}{w0 w w':World}(h:Chg S w0 w)(k:Ext w w'):Chg S w0 w':=h.step (S':=fun _=>False) (.ofExt k) Pc
theorem Chg.stepG{S:Nat→Prop}{w0 w w':World}{row:Option Nat}(h:Chg S w0 w)(k:w.grownBy w' row)(hS:∀b,row=some b→S b∨w0.heap.size≤b):Chg S w0 w':=
 h.step (S':=fun b=>row=some b) ⟨k.os,k.tape,k.output,k.size,fun b a hn=>k.block b a (fun e=>hn e.symm)⟩ hS
def Lw(B:Nat):Nat→Prop:=fun b=>b<B
theorem Lw.at{α:Type}[Rep α]{w w':World}{B:Nat}{S:Nat→Prop}{ao:Option Addr}{cap:Nat}{xs:List α}(h:Sl w (Lw B) ao cap xs)(d:Chg S w w')(e:B≤w.heap.size)(hS:∀b,S b→B≤b):Sl w' (Lw B) ao cap xs:=
 h.mono (fun b a=>d.block b (MK a e) (fun c=>by have:=hS b c;have:b<B:=a;omega)) fun _ h=>h
theorem Lw.old{α:Type}[Rep α]{w:World}{B:Nat}{ao:Option Addr}{cap:Nat}{xs:List α}(h:Sl w (Lw B) ao cap xs)(c:B≤w.heap.size):Sl w (c7 w) ao cap xs:=h.mono Pj fun b a=>MK a c
theorem Cz{tok st:Int}{s:Sr}{m:List Int}{fr:Int×Int}:(Cy tok st s m fr).1.1=s.1∨(Cy tok st s m fr).1.1=s.1++[m]:=by
 unfold Cy;split
 ·exact .inl rfl
 split
 ·exact .inl rfl
 split
 ·exact .inl rfl
 ·exact .inr rfl
theorem rK{l a:List (List Int)}{m c:List Int}{n:Nat}(h:a=l∨a=l++[c])(hn:n<l.length)(b:l.getD n []=m):n<a.length∧a.getD n []=m:=by
 rcases h with rfl|rfl
 ·exact⟨hn,b⟩
 ·refine⟨by simp;omega,?_⟩
  rw[KN,KO hn,←KN];exact b
theorem GY{p:cI}{m:List Int}(a:m.length=p.2.length)(b:Tok m):cU p m:=⟨a,fun j=>b.at j⟩
theorem yF{p:cI}{m:List Int}(h:cU p m):Tok m:=fun x a=>by
 obtain⟨j,b,rfl⟩:=LO.1 a;have:=h.2 j;rwa[qY b]at this
theorem pw{p:cI}{m:List Int}{k:Int}(b:cU p m)(h:(pi p m k).2=0):cU p (pi p m k).1:=by
 obtain⟨_,a⟩:=pm h;exact py b a.2.2.1 a.2.2.2
def dK(c c':SC):Prop:=c'.sb=c.sb∧c'.p1=c.p1∧c'.p2=c.p2∧c'.tok=c.tok∧c'.st=c.st∧c'.N=c.N∧c'.lo=c.lo
theorem Srch.grow{w w':World}{B:Nat}{c:SC}{s:Sr}{nx:List (List cE)}{x':Value}(h:Srch w B c s nx)(d:w.grownBy w' c.xt.ownBlock)(hnb:∀g,x'.ownBlock=some g→c.xt.ownBlock=some g∨w.heap.size≤g)(j:∀g,x'.ownBlock=some g→B≤g∧g<w'.heap.size):
  Srch w' B ⟨c.sb,c.mb,c.mv,c.nv,c.ov,c.mvs,c.nvs,c.p1,c.p2,c.tok,c.st,c.N,x',c.lo⟩ s nx∧(∀b,iP ⟨c.sb,c.mb,c.mv,c.nv,c.ov,c.mvs,c.nvs,c.p1,c.p2,c.tok,c.st,c.N,x',c.lo⟩ b→iP c b∨w.heap.size≤b):=by
 have hd:=h.dis;have l:Chg (iP c) w w':=(Chg.refl _ w).grown d (fun g d=>.inr (.inr (.inr (.inr (.inr d)))));have i:∀b,iP ⟨c.sb,c.mb,c.mv,c.nv,c.ov,c.mvs,c.nvs,c.p1,c.p2,c.tok,c.st,c.N,x',c.lo⟩ b→iP c b∨w.heap.size≤b:=by
  intro b i
  rcases i with h|h|h|h|h|h
  ·exact .inl (.inl h)
  ·exact .inl (.inr (.inl h))
  ·exact .inl (.inr (.inr (.inl h)))
  ·exact .inl (.inr (.inr (.inr (.inl h))))
  ·exact .inl (.inr (.inr (.inr (.inr (.inl h)))))
  ·exact(hnb b h).imp (fun h=>.inr (.inr (.inr (.inr (.inr h))))) id
 have f:=iQ h;have na:∀{a:Option Nat},ap a c.xt.ownBlock→(∀g,a=some g→g<w.heap.size)→ap a x'.ownBlock:=fun k kl=>(k.sym.new hnb kl).sym
 refine⟨⟨h.blk.kept d (fun e=>hd.d05 _ rfl e.symm),h.num.kept d (fun e=>hd.d15 _ rfl e.symm),h.mo.keptN d (fun g k e=>hd.d25 g k e.symm),h.no.keptN d (fun g k e=>hd.d35 g k e.symm),h.oo.keptN d (fun g k e=>hd.d45 g k e.symm),h.mi.to l i,h.ni.to l i,h.ge,h.lob,j,
  ⟨hd.d01,hd.d02,hd.d03,hd.d04,hd.d12,hd.d13,hd.d14,hd.d23,hd.d24,hd.d34,na hd.d05 (fun g e=>by cases e;exact(f _ (.inl rfl)).2),na hd.d15 (fun g e=>by cases e;exact(f _ (.inr (.inl rfl))).2),na hd.d25 (fun g e=>(f _ (.inr (.inr (.inl e)))).2),na hd.d35 (fun g e=>(f _ (.inr (.inr (.inr (.inl e))))).2),na hd.d45 (fun g e=>(f _ (.inr (.inr (.inr (.inr (.inl e)))))).2)⟩,h.ok,h.nd,h.lim⟩,i⟩
set_option maxHeartbeats 2000000 in
theorem mO{B:Nat}(w0:World){c:SC}{s:Sr}{nx:List (List cE)}{so fo:Option Addr}{sc fc:Nat}{ns:List cG}{fl:List cF}(hS:Srch w0 B c s nx)(y:B≤w0.heap.size)(hs:Sl w0 (Lw B) so sc ns)(hf:Sl w0 (Lw B) fo fc fl)
  (I:c.p1=.slice so ns.length sc) (H:c.p2=.slice fo fl.length fc) (J:c.N=fl.length) (hz:(FX (ns,fl)).2=0) (hxt:c.xt=.slice none 0 0) {n:Nat} (hn:n<s.1.length):
  Rt Tryz.prog 100 [Pr c.sb,Pq (n:Int)].toArray w0 fun v w'=>∃c' x,v=.tuple ⟨[x,Pq (mH (ns,fl) c.tok c.st n s).2.2]⟩∧Srch w' B c' (mH (ns,fl) c.tok c.st n s).1 nx∧dK c c'∧
   Chg (iP c) w0 w'∧(∀b,iP c' b→iP c b∨w0.heap.size≤b)∧Own w' w0.heap.size 102 cZ x (mH (ns,fl) c.tok c.st n s).2.1∧∀g,x.ownBlock=some g→c'.xt.ownBlock=some g:=by
 have hbg:=iQ hS;have hBb:∀b,iP c b→B≤b:=fun b h=>(hbg b h).1
 have hlo:=hS.lob;have hmok:∀m∈s.1,cU (ns,fl) m:=fun m hm=>GY (by rw[(hS.ok m hm).1];exact J) (hS.ok m hm).2
 obtain⟨m,hmd⟩:∃m,m=s.1.getD n []:=⟨_,rfl⟩;have hmn:s.1[n]=m:=by rw[hmd,KN,KT hn];rfl
 have hmk:cU (ns,fl) m:=hmok m (hmn▸K8 hn);have hcm:=yD hz hmk;unfold mH;rw[←hmd];refine dE Tryz.func100 Tryz.ntmps100 rfl rfl ?_;have O:∀{w:World} {d:SC} {r:Sr},Srch w B d r nx→n<r.1.length∧r.1.getD n []=m→∃ao ac,d.mv=.slice ao d.mvs.length ac∧∃hv:n<d.mvs.length,Sl w (c7 w) ao ac d.mvs∧∃mo mc,d.mvs[n].v=.slice mo m.length mc∧Sl w (c7 w) mo mc m:=by
  intro w d r hR hr
  obtain⟨ao,ac,hv,D⟩:=hR.mo.oldN.sl;have hlen:=hR.mi.len;have hn1:n<d.mvs.length:=by rw[hlen];exact hr.1
  obtain⟨mo,mc,he,hms⟩:=hR.mi.el n hn1 hr.1;obtain⟨hr1,hr2⟩:=hr;have e1:r.1[n]=m:=by
   rw[KN,KT hr1]at hr2
   exact hr2
  rw[e1]at he hms
  exact⟨ao,ac,hv,hn1,D,mo,mc,he,hms.mono Pj (fun b f=>f.2.1)⟩
 have A:Ext w0 (drew w0):=Ext.drew w0;obtain⟨ao,ac,Q,Y,D,mo,mc,l,Z⟩:=O hS ⟨hn,hmd.symm⟩;have o:=hS.blk;rw[Q,I,H]at o
 refine Qm ?_;have hSE:∀w1,(fun x=>Ext w0 x) w1→Ext w0 w1:=fun _ h=>h
 refine aF (fun x=>Ext w0 x) [(0,true),(1,true),(2,true),(3,true),(4,true),(5,true),(6,true),(7,true),(8,true),(9,true),(10,true),(11,true),(12,false),(13,true),(14,true),(15,true),(16,true),(17,true)] mixed O1 A ?_;refine RG ?_;refine bY (w:=w0) (F:=c7 w0) (fun z hz b f=>hz.block b f) rfl rfl rfl rfl rfl rfl rfl D Y O_ (fun u q hu=>?_);obtain⟨rfl,_⟩:=hu.raw;rw[l];refine cr rfl (WL.call rfl rfl rfl (bC (drew w0) ((hs.mono Pj fun _ h=>h:Sl (drew w0) (Lw B) so sc ns)|>fun h=>Lw.old h (MH y A.size)) ((hf.mono Pj fun _ h=>h:Sl (drew w0) (Lw B) fo fc fl)|>fun h=>Lw.old h (MH y A.size)) (Z.up A)) ?_);rintro _ w1 ⟨x,rfl,P,e1⟩
 have hE1:=A.trans e1;refine WL.nil (a_ hE1 ?_);rw[OE hcm]at P
 rw[hcm];obtain⟨xo,xc,rfl,G⟩:=P.slF (F':=fun b=>w0.heap.size≤b∧b<w1.heap.size) Pc (fun g a=>⟨MH A.size (P.lt g a).1,(P.lt g a).2.1⟩);have hcan:i4 (ns,fl) m=i7 (ns,fl) m:=by unfold i4;rw[OE hcm]
 have hcl:=i5 (p:=(ns,fl)) (m:=m);rw[hcan]at hcl⊢
 generalize i7 (ns,fl) m=can at*
 refine RJ ?_;refine QZ ?_;refine CW.loop (S:=Nat×SC×Sr×List cE) (fun t=>[(0,Pr c.sb),(1,Pq (n:Int)),(6,t.2.1.xt),(30,.slice xo can.length xc),(31,Pq can.length),(32,Pq t.1)])
  (fun t w=>t.1≤can.length∧mJ (ns,fl) c.tok c.st (n:Int) m (can.drop t.1) t.2.2.1 t.2.2.2=mJ (ns,fl) c.tok c.st (n:Int) m can s []∧Srch w B t.2.1 t.2.2.1 nx∧dK c t.2.1∧Chg (iP c) w0 w∧(∀b,iP t.2.1 b→iP c b∨w0.heap.size≤b)∧Own w w0.heap.size 102 cZ t.2.1.xt t.2.2.2∧t.2.2.2.length≤t.1
   ∧n<t.2.2.1.1.length∧t.2.2.1.1.getD n []=m∧Sl w (Fb t.2.1 w) xo xc can) (fun t=>can.length -t.1) (0,c,s,[]) (by rw[hxt];exact OZ) ⟨M9 _,by rw[Kw],hS.ext hE1,⟨rfl,rfl,rfl,rfl,rfl,rfl,rfl⟩,.ofExt hE1,fun _ h=>.inl h,by rw[hxt];exact Own.nil,MF _,hn,hmd.symm,
   G.mono Pj (fun b f=>⟨by show c.lo≤b;have:=f.1;have:=hlo;omega,f.2,fun h=>by have:=(hbg b h).2;have:=f.1;omega⟩)⟩ ?_
 clear o G P D Z Q l hS;rintro⟨i,d,r,out⟩ w2 ⟨hi,M,hS,hsx,hC,K,X,hol,hrn,hrm,G⟩
 dsimp only at hi M hS hsx hC K X hol hrn hrm G⊢
 obtain⟨sb,mb,mv,nv,ov,mvs,nvs,p1,p2,tok,st,N,xt,lo⟩:=d;obtain⟨q1,q2,q3,q4,q5,q6,q7⟩:=hsx;dsimp only at q1 q2 q3 q4 q5 q6 q7 X
 subst q1 q4 q5 q7;rw[I]at q2
 rw[H]at q3
 rw[J]at q6
 subst q2 q3 q6;have hz2:=hC.size;have hB2:B≤w2.heap.size:=MH y hz2;have hbg2:=iQ hS;refine Qm ?_;apply CW.cond rfl<;>intro h
 ·have hi':i<can.length:=by simp at h;omega
  rw[Ks hi',mJ]at M
  have o:=hS.blk;refine Q6 ?_;refine eB rfl rfl rfl rfl rfl G hi' rfl O_ (fun q=>?_);generalize can[i]=k at*
  refine Qm ?_;refine WL.build rfl rfl rfl rfl ?_;refine Re ?_;refine WL.st rfl rfl rfl o rfl rfl Pk (fun L E R=>?_);have hS3:=hS.last (fr:=((n:Int),k)) R E;have hC3:Chg (iP c) w0 L:=hC.stepG R (fun b h=>by cases h;exact K _ (.inl rfl));have hxs3:=Fb.to G ((Chg.refl _ w2).grown R (fun g h=>by cases h;exact .inl rfl)) (fun _ h=>.inl h);have hxo3:=X.keptN R (fun g a e=>hS.dis.d05 g e.symm a);obtain⟨ao,ac,Q,Y,D,mo,mc,l,Z⟩:=O hS3 ⟨hrn,hrm⟩;dsimp only at Q Y D l
  subst Q;have o:=E;have A:Ext L (drew L):=Ext.drew L;have hSE:∀w1,(fun x=>Ext L x) w1→Ext L w1:=fun _ h=>h
  have hB3:B≤L.heap.size:=MH y hC3.size;have hs3:=Lw.at hs hC3 y hBb;have hf3:=Lw.at hf hC3 y hBb;clear E R;refine PI ?_;refine aF (fun x=>Ext L x) [(0,true),(1,true),(2,true),(3,true),(4,true),(5,true),(6,true),(7,true),(8,true),(9,true),(10,true),(11,true),(12,true),(13,false),(14,true),(15,true),(16,true),(17,true),(18,true)] mixed O1 A ?_;refine RG ?_;refine bY (w:=L) (F:=c7 L) (fun z hz b f=>hz.block b f) rfl rfl rfl rfl rfl rfl rfl D Y O_ (fun u q hu=>?_);obtain⟨rfl,_⟩:=hu.raw;rw[l];refine Rx ?_;refine cr rfl (WL.call rfl rfl rfl (bL (drew L) ((Lw.old hs3 hB3).up A) ((Lw.old hf3 hB3).up A) (Z.up A) k) ?_);rintro _ w4 ⟨x,rfl,j,e4⟩
  have W:=A.trans e4;refine WL.nil (a_ W ?_);refine RJ ?_;have hS4:=hS3.ext W;have hC4:=hC3.stepE W;have hxs4:=Fb.to hxs3 (.ofExt W) (fun _ h=>.inl h);have hxo4:=hxo3.extN W;have hlt3:∀b,iP ⟨c.sb,mb,.slice ao mvs.length ac,nv,ov,mvs,nvs,.slice so ns.length sc,.slice fo fl.length fc,c.tok,c.st,fl.length,xt,c.lo⟩ b→b<L.heap.size:=fun b f=>(iQ hS3 b f).2
  by_cases he:(pi (ns,fl) m k).2=0
  case neg=>
   have hz1:((pi (ns,fl) m k).2 != 0)=true:=by simpa using he
   rw[OE he]at M
   rw[←M];refine Qm ?_;rw[hz1];refine QF ?_;exact bf rfl rfl rfl ⟨_,_,rfl,hS4,⟨rfl,I.symm,H.symm,rfl,rfl,J.symm,rfl⟩,hC4,K,Own.nil,fun g a=>by cases a⟩
  rw[OD (by simp[he])]at M
  have hmk4:=pw hmk he;have hT4:=yF hmk4;rw[he];generalize (pi (ns,fl) m k).1=m' at*
  have hyT:=j.rowT (F:=Fb ⟨c.sb,mb,.slice ao mvs.length ac,nv,ov,mvs,nvs,.slice so ns.length sc,.slice fo fl.length fc,c.tok,c.st,fl.length,xt,c.lo⟩ w4) (fun g a=>⟨by have:=(j.lt g a).1;have:=A.size;have:=hlo;dsimp only;omega,(j.lt g a).2.1,fun h=>by have:=hlt3 g h;have:=(j.lt g a).1;have:=A.size;omega⟩);obtain⟨yo,yc,rfl,hys⟩:=j.slF (F':=Fb ⟨c.sb,mb,.slice ao mvs.length ac,nv,ov,mvs,nvs,.slice so ns.length sc,.slice fo fl.length fc,c.tok,c.st,fl.length,xt,c.lo⟩ w4) Pc (fun g a=>⟨by have:=(j.lt g a).1;have:=A.size;have:=hlo;dsimp only;omega,(j.lt g a).2.1,fun h=>by have:=hlt3 g h;have:=(j.lt g a).1;have:=A.size;omega⟩);refine Qp ?_;refine WL.build rfl rfl rfl rfl ?_;refine WL.call rfl rfl rfl (FT w4 hS4 (MH y hC4.size) hys hyT hmk4.1 hT4 ((n:Int),k)) ?_;rintro _ w5 ⟨C,rfl,V,hsc,hC5,hby5⟩
  dsimp only at V hsc
  have hpe:Cy c.tok c.st (r.1,r.2.1,((n:Int),k)) m' ((n:Int),k)=Cy c.tok c.st r m' ((n:Int),k):=rfl;rw[hpe]at V⊢
  have hby':∀b,iP C b→iP c b∨w0.heap.size≤b:=fun b h=>(hby5 b h).elim (K b) (fun h=>.inr (MH hC4.size h))
  have hC6:Chg (iP c) w0 w5:=hC4.step (bI hC5) K;have hxs5:=Fb.to hxs4 (bI hC5) hby5 (MB hsc.2.2.2.2.2.2.2);have U:=hS4.dis;have hxo5:Own w5 w0.heap.size 102 cZ xt out:=hxo4.chg hC5 (fun b f hbb=>by
   rcases hbb with h|h|h|h|h|h
   ·exact U.d05 b (by rw[h]) f
   ·exact U.d15 b (by rw[h]) f
   ·exact U.d25 b h f
   ·exact U.d35 b h f
   ·exact U.d45 b h f
   ·exact h)
  obtain⟨g1,g2,g3,g4,g5,g6,g7,g8⟩:=hsc;dsimp only at g1 g2 g3 g4 g5 g6 g7 g8
  have hgr:=rK (Cz (tok:=c.tok) (st:=c.st) (s:=r) (m:=m') (fr:=((n:Int),k))) hrn hrm;by_cases T:(Cy c.tok c.st r m' ((n:Int),k)).2.2=0
  case neg=>
   have hz1:((Cy c.tok c.st r m' ((n:Int),k)).2.2 != 0)=true:=by simpa using T
   rw[OE T]at M
   rw[←M];refine Qm ?_;rw[hz1];refine QF ?_;exact bf rfl rfl rfl ⟨C,_,rfl,V,⟨g1,by rw[g2,I],by rw[g3,H],g4,g5,by rw[g6,J],g8⟩,hC6,hby',Own.nil,fun g a=>by cases a⟩
  rw[OD (by simp[T])]at M
  rw[T];generalize Cy c.tok c.st r m' ((n:Int),k)=pe at*
  obtain⟨r',to,er⟩:=pe;dsimp only at M V hgr T⊢
  have hC5z:=hC6.size;refine Qp ?_;refine WL.build rfl rfl rfl rfl ?_;refine dW (α:=Int×Int) (F:=cZ) (bytes:=16) (yv:=(k,to)) rfl rfl O_ rfl rfl O_ hxo5 (Rd.mkPr (c1:=[Pq k]) (c2:=[Pq to]) (CZ _ _ _) (CZ _ _ _)) hC5z Pc O2 O5 O0 (fun xt' w6 p6 ho6 hg6 hnb6=>?_);rw[←g7]at hg6 hnb6
  obtain⟨hS6,hb6⟩:=V.grow hg6 hnb6 (fun g a=>⟨MH y (ho6.lt g a).1,(ho6.lt g a).2.1⟩);have hxlt:∀g,C.xt.ownBlock=some g→w0.heap.size≤g:=fun g a=>by rw[g7]at a;exact(hxo5.lt g a).1
  have hC7:=hC6.stepG hg6 (fun b f=>.inr (hxlt b f));have hxs6:=Fb.to hxs5 ((Chg.refl _ w5).grown hg6 (fun g a=>.inr (.inr (.inr (.inr (.inr a)))))) hb6;refine P6 ?_;refine EX.back (i+1,⟨C.sb,C.mb,C.mv,C.nv,C.ov,C.mvs,C.nvs,C.p1,C.p2,C.tok,C.st,C.N,xt',C.lo⟩,r',out++[(k,to)]) OZ ⟨hi',M,hS6,⟨g1,by rw[g2,I],by rw[g3,H],g4,g5,by rw[g6,J],g8⟩,hC7,fun b f=>(hb6 b f).elim (hby' b) (fun h=>.inr (MH hC5z h)),ho6,by simp;omega,hgr.1,hgr.2,hxs6⟩ O4
 ·obtain rfl:i=can.length:=by simp at h;omega
  rw[Ku,mJ]at M
  rw[←M];refine P3 ?_;exact bf rfl rfl rfl ⟨_,_,rfl,hS,⟨rfl,I.symm,H.symm,rfl,rfl,J.symm,rfl⟩,hC,K,X,fun g a=>a⟩
instance uz:IsT Tryz.prog 52 Raw:=IsT.of O1 NX rfl
instance uA:IsZ Tryz.prog 52 (⟨.slice none 0 0⟩:Raw) 24:=IsZ.of (z:=.slice none 0 0) O1 (fun _ _=>⟨rfl,rfl⟩)
theorem rH(w:World)(row:Option Nat):w.grownBy w row:=⟨rfl,rfl,rfl,MF _,fun _ _ _=>rfl⟩
theorem Srch.pushN{w o m:World}{B:Nat}{c:SC}{s:Sr}{nx:List (List cE)}{nv':Value}{xo:Option Addr}{xc:Nat}{i:List cE}(h:Srch w B c s nx)(D:B≤w.heap.size)(A:Sl w (Fb c w) xo xc i)(p:RowT (Fb c w) w 2 (.slice xo i.length xc))
  (C:Own o B 52 cZ nv' (c.nvs++[(⟨.slice xo i.length xc⟩:Raw)])) (j:w.grownBy o c.nv.ownBlock) (hnb:∀g,nv'.ownBlock=some g→c.nv.ownBlock=some g∨w.heap.size≤g) (d:o.grownBy m (some c.sb))
  (q:Blk m c.sb 124 [c.p1,c.p2,Pq c.tok,Pq c.st,c.mv,nv',.map (some c.mb),c.ov,Pq s.2.2.1,Pq s.2.2.2]):
  Srch m B ⟨c.sb,c.mb,c.mv,nv',c.ov,c.mvs,c.nvs++[(⟨.slice xo i.length xc⟩:Raw)],c.p1,c.p2,c.tok,c.st,c.N,c.xt,c.lo⟩ s (nx++[i])∧Chg (busyI c) w m∧
   ∀b,iP ⟨c.sb,c.mb,c.mv,nv',c.ov,c.mvs,c.nvs++[(⟨.slice xo i.length xc⟩:Raw)],c.p1,c.p2,c.tok,c.st,c.N,c.xt,c.lo⟩ b→iP c b∨w.heap.size≤b:=by
 have hd:=h.dis;have n:=iQ h;have l:Chg (busyI c) w m:=((Chg.refl _ w).grown j (fun g j=>.inr (.inr (.inr (.inl j))))).grown d Pi;have f:∀b,iP ⟨c.sb,c.mb,c.mv,nv',c.ov,c.mvs,c.nvs++[(⟨.slice xo i.length xc⟩:Raw)],c.p1,c.p2,c.tok,c.st,c.N,c.xt,c.lo⟩ b→iP c b∨w.heap.size≤b:=by
  intro b q
  rcases q with h|h|h|h|h|h
  ·exact .inl (.inl h)
  ·exact .inl (.inr (.inl h))
  ·exact .inl (.inr (.inr (.inl h)))
  ·exact(hnb b h).imp (fun h=>.inr (.inr (.inr (.inl h)))) id
  ·exact .inl (.inr (.inr (.inr (.inr (.inl h)))))
  ·exact .inl (.inr (.inr (.inr (.inr (.inr h)))))
 have na:∀{a:Option Nat},ap a c.nv.ownBlock→(∀g,a=some g→g<w.heap.size)→ap a nv'.ownBlock:=fun k kl=>(k.sym.new hnb kl).sym
 have n0:ap (some c.sb) nv'.ownBlock:=na hd.d03 (fun g e=>by cases e;exact(n _ (.inl rfl)).2);have n1:ap (some c.mb) nv'.ownBlock:=na hd.d13 (fun g e=>by cases e;exact(n _ (.inr (.inl rfl))).2);have z:ap c.mv.ownBlock nv'.ownBlock:=na hd.d23 (fun g e=>(n _ (.inr (.inr (.inl e)))).2);have u:ap c.ov.ownBlock nv'.ownBlock:=na hd.d34.sym (fun g e=>(n _ (.inr (.inr (.inr (.inr (.inl e)))))).2);have r:ap c.xt.ownBlock nv'.ownBlock:=na hd.d35.sym (fun g e=>(n _ (.inr (.inr (.inr (.inr (.inr e)))))).2);refine⟨⟨q,(h.num.kept j (fun e=>hd.d13 _ rfl e.symm)).kept d (fun e=>hd.d01 (Nj e).symm),(h.mo.keptN j (fun g k e=>hd.d23 g k e.symm)).keptN d (fun g k e=>hd.d02 g e.symm k),C.keptN d (fun g k e=>n0 g e.symm k),(h.oo.keptN j (fun g k e=>hd.d34 g e.symm k)).keptN d (fun g k e=>hd.d04 g e.symm k),
  h.mi.to (bI l) f,(h.ni.to (bI l) f).push (Fb.to A (bI l) f) (Fb.toT p (bI l) f),h.ge,h.lob,(fun g k=>⟨(h.xo g k).1,MK (h.xo g k).2 l.size⟩),
  ⟨hd.d01,hd.d02,n0,hd.d04,hd.d12,n1,hd.d14,z,hd.d24,u.sym,hd.d05,hd.d15,hd.d25,r.sym,hd.d45⟩,h.ok,h.nd,h.lim⟩,l,f⟩
theorem mK{p:cI}{tok st n:Int}{m:List Int}:∀(l:List Int) (s:Sr) (out:List cE),s.1.length≤(mJ p tok st n m l s out).1.1.length
 |[],s,out=>MF _
 |k::r,s,out=>by
  rw[mJ];split
  ·exact MF _
  have h:s.1.length≤(Cy tok st s (pi p m k).1 (n,k)).1.1.length:=by
   rcases Cz (tok:=tok) (st:=st) (s:=s) (m:=(pi p m k).1) (fr:=(n,k))with h|h<;>rw[h]
   ·exact MF _
   ·simp
  split
  ·exact h
  ·exact MH h (mK r _ _)
theorem mI{p:cI}{tok st:Int}{n:Nat}{s:Sr}:s.1.length≤(mH p tok st n s).1.1.length:=mK _ _ _
set_option maxHeartbeats 2000000 in
theorem D5(w0:World){so fo:Option Addr}{sc fc:Nat}{ns:List cG}{fl:List cF}(hs:Sl w0 (c7 w0) so sc ns)(hf:Sl w0 (c7 w0) fo fc fl)(tok st:Int):
  Rt Tryz.prog 39 [Cl so sc fo fc ns.length fl.length,Pq tok,Pq st].toArray w0 fun v w'=>Ext w0 w'∧((DI (ns,fl) tok st≠0∧v=.tuple ⟨[.pointer none,Pq (DI (ns,fl) tok st)]⟩)∨
   (DI (ns,fl) tok st=0∧∃c,v=.tuple ⟨[Pr c.sb,Pq (runB (ns,fl) tok st).2.2]⟩∧Srch w' w0.heap.size c (runB (ns,fl) tok st).1 (runB (ns,fl) tok st).2.1∧c.lo=w0.heap.size)):=by
 refine dF Tryz.func39 Tryz.ntmps39 rfl rfl ?_;refine Pu ?_;refine dX rfl rfl rfl fun w1 C e1=>?_
 refine Q0 ?_;refine WL.call rfl rfl rfl (c6 w1 (hs.up e1) (hf.up e1)) ?_;rintro _ V ⟨x,rfl,l,e2⟩
 have C:=C.ext e2;have U:=e1.trans e2;unfold DI;by_cases P:(FX (ns,fl)).2=0
 case neg=>
  have E:((FX (ns,fl)).2 != 0)=true:=by simpa using P
  rw[OE P];refine Qm ?_;rw[E];refine Q3 ?_;exact bf rfl rfl rfl ⟨U,.inl ⟨P,rfl⟩⟩
 rw[OD (by simp[P]),P];obtain⟨hc0,hse,hl60⟩:=FY P;have hpok:=jN hc0;have hf30:=hpok.f;dsimp only at hf30
 by_cases ha:tok<1∨tok>9∨st<1∨st>200
 ·have X:Dy tok st=1:=by unfold Dy;rw[OE ha]
  rw[X];have fin:∀(Q:Exit→Act→World→Prop),True:=fun _=>trivial
  refine Qp ?_;by_cases h1:tok<1
  ·rw[Ov h1]
   refine Q3 ?_;exact bf rfl rfl rfl ⟨U,.inl ⟨by decide,rfl⟩⟩
  rw[Ot h1];refine Ra ?_;by_cases h2:tok>9
  ·rw[Ov h2]
   refine Q3 ?_;exact bf rfl rfl rfl ⟨U,.inl ⟨by decide,rfl⟩⟩
  rw[Ot h2];refine Ra ?_;by_cases h3:st<1
  ·rw[Ov h3]
   refine Q3 ?_;exact bf rfl rfl rfl ⟨U,.inl ⟨by decide,rfl⟩⟩
  rw[Ot h3];refine PE ?_;rw[Ov (show st>200 by omega)];refine Q3 ?_;exact bf rfl rfl rfl ⟨U,.inl ⟨by decide,rfl⟩⟩
 have X:Dy tok st=0:=by unfold Dy;rw[OD ha]
 rw[X];refine Qp ?_;rw[Ot (show¬tok<1 by omega)];refine Ra ?_;rw[Ot (show¬tok>9 by omega)];refine Ra ?_;rw[Ot (show¬st<1 by omega)];refine PE ?_;rw[Ot (show¬st>200 by omega)];refine QI ?_;refine fd (k:=239) rfl rfl (fun H=>?_);have e3:Ext V (V.alloc (.map #[] 0)):=Ext.alloc V _;generalize V.alloc (.map #[] 0)=w3 at*
 have C:=C.ext e3;have U:=U.trans e3;refine WL.build rfl rfl rfl rfl ?_;refine dX rfl rfl rfl fun w4 B e4=>?_
 have hlm:=H.lt;have hz2:=e1.size;have hz3:=e2.size;have hz4:=e3.size;have C:=C.ext e4;have K:=U.trans e4;have hS0:Srch w4 w0.heap.size ⟨w3.heap.size,V.heap.size,.slice none 0 0,.slice none 0 0,.slice none 0 0,[],[],.slice so ns.length sc,.slice fo fl.length fc,tok,st,fl.length,.slice none 0 0,w0.heap.size⟩ ([],[],(0,0)) []:=by
  have no:∀{a:Option Nat},ap a none:=fun g _ h=>by cases h
  have no2:∀{a:Option Nat},ap none a:=fun g h _=>by cases h
  refine⟨B,H.ext e4,Own.nil,Own.nil,Own.nil,⟨rfl,fun i h _=>absurd h O3,fun i h=>absurd h O3⟩,⟨rfl,fun i h _=>absurd h O3,fun i h=>absurd h O3⟩,⟨by dsimp only;omega,by dsimp only;omega⟩,MF _,(fun g h=>by cases h),⟨by dsimp only;omega,no,no,no,no,no,no,no2,no2,no2,no,no,no2,no2,no2⟩,(fun m h=>by cases h),List.Pairwise.nil,⟨by dsimp only;simp;omega,by dsimp only;omega,by dsimp only;omega,rfl,by dsimp only;omega⟩⟩
 refine Q0 ?_;refine WL.call rfl rfl rfl (aq w4 (hs.up K) (hf.up K)) ?_;rintro _ w5 ⟨x,rfl,l,e5⟩
 rw[OE P]at l
 have hS5:=hS0.ext e5;have hE5:=K.trans e5;have hbm:=ia (p:=(ns,fl));have Y:=fun b h=>(iQ hS0 b h).2
 have W:=l.rowT (F:=Fb ⟨w3.heap.size,V.heap.size,.slice none 0 0,.slice none 0 0,.slice none 0 0,[],[],.slice so ns.length sc,.slice fo fl.length fc,tok,st,fl.length,.slice none 0 0,w0.heap.size⟩ w5) (fun g z=>⟨by have:=(l.lt g z).1;have:=K.size;dsimp only;omega,(l.lt g z).2.1,fun h=>by have:=Y g h;have:=(l.lt g z).1;omega⟩);obtain⟨xo,xc,rfl,M⟩:=l.slF (F':=Fb ⟨w3.heap.size,V.heap.size,.slice none 0 0,.slice none 0 0,.slice none 0 0,[],[],.slice so ns.length sc,.slice fo fl.length fc,tok,st,fl.length,.slice none 0 0,w0.heap.size⟩ w5) Pc (fun g z=>⟨by have:=(l.lt g z).1;have:=K.size;dsimp only;omega,(l.lt g z).2.1,fun h=>by have:=Y g h;have:=(l.lt g z).1;omega⟩);unfold runB;generalize h_ (ns,fl)=m0 at*
 refine Qm ?_;refine WL.build rfl rfl rfl rfl ?_;refine WL.call rfl rfl rfl (FT w5 hS5 hE5.size M W hbm.1 (yF hbm) (-1,-1)) ?_;rintro _ w6 ⟨c,rfl,N,j,hC6,hby6⟩
 dsimp only at N j
 have hE6:Ext w0 w6:=(bI hC6).ext hE5 (fun b h=>(iQ hS5 b h).1);by_cases hp:(Cy tok st ([],[],(0,0)) m0 (-1,-1)).2.2=0
 case neg=>
  have E:((Cy tok st ([],[],(0,0)) m0 (-1,-1)).2.2 != 0)=true:=by simpa using hp
  rw[OE hp];have R:=j.2.2.2.2.2.2.2;obtain⟨g1,_⟩:=j;dsimp only at g1 R
  refine Qm ?_;rw[E];refine Q3 ?_;exact bf rfl rfl rfl ⟨hE6,.inr ⟨rfl,c,by rw[g1],N,R⟩⟩
 rw[OD (by simp[hp]),hp];generalize (Cy tok st ([],[],(0,0)) m0 (-1,-1)).1=s0 at*
 clear hS0 hS5 M l Y B H hby6 hC6;refine QI ?_;refine CW.loop (S:=Nat×SC×Sr×List (List cE)) (fun t=>[(10,Pr w3.heap.size),(15,Pq t.1)])
  (fun t w=>t.1≤t.2.2.1.1.length∧DF (ns,fl) tok st (201 -t.1) t.1 t.2.2.1 t.2.2.2=DF (ns,fl) tok st 201 0 s0 []∧Srch w w0.heap.size t.2.1 t.2.2.1 t.2.2.2∧t.2.1.xt=.slice none 0 0∧t.2.2.2.length=t.1∧t.2.1.sb=w3.heap.size∧t.2.1.p1=.slice so ns.length sc∧t.2.1.p2=.slice fo fl.length fc∧t.2.1.tok=tok∧t.2.1.st=st∧t.2.1.N=fl.length∧t.2.1.lo=w0.heap.size∧Ext w0 w)
  (fun t=>201 -t.1) (0,c,s0,[]) OZ ⟨M9 _,rfl,N,j.2.2.2.2.2.2.1,rfl,j.1,j.2.1,j.2.2.1,j.2.2.2.1,j.2.2.2.2.1,j.2.2.2.2.2.1,j.2.2.2.2.2.2.2,hE6⟩ ?_
 clear N j;rintro⟨n,c,s,nx⟩ w7 ⟨hn,L,hS,hxt,hnl,q1,q2,q3,q4,q5,q6,q7,u⟩
 dsimp only at hn L hS hxt hnl q1 q2 q3 q4 q5 q6 q7 u⊢
 have T:=hS.lim;have hml:=hS.mi.len;obtain⟨ao,ac,hmv⟩:=hS.mo.val;have B:=hS.blk;rw[hmv,q1,hml]at B
 have hn200:s.1.length≤200:=by have:=T.1;have:=T.2.2.1;omega
 obtain⟨f,hf201⟩:∃f,201 -n=f+1:=⟨200 -n,by omega⟩;rw[hf201,DF]at L
 refine Qz ?_;apply CW.cond rfl<;>intro h
 ·have hn':n<s.1.length:=by simp at h;omega
  rw[OE hn']at L
  refine PP ?_;rw[←q1];refine WL.call rfl rfl rfl (mO w7 hS u.size (hs.at u) (hf.at u) q2 q3 q6 P hxt hn') ?_;rintro _ w8 ⟨c',x,rfl,J,hsx,hC8,hby8,d,hxx⟩
  rw[q4,q5]at J d⊢
  obtain⟨g1,g2,g3,g4,g5,g6,g7⟩:=hsx;have O:Ext w0 w8:=hC8.ext u (fun b h=>(iQ hS b h).1);by_cases he:(mH (ns,fl) tok st n s).2.2=0
  case neg=>
   have E:((mH (ns,fl) tok st n s).2.2 != 0)=true:=by simpa using he
   rw[OE he]at L
   rw[←L];refine Qm ?_;rw[E];refine QF ?_;exact bf rfl rfl rfl ⟨O,.inr ⟨rfl,c',by rw[g1],J,by rw[g7,q7]⟩⟩
  rw[OD (by simp[he])]at L
  rw[he];have Z:=mI (p:=(ns,fl)) (tok:=tok) (st:=st) (n:=n) (s:=s);generalize mH (ns,fl) tok st n s=ee at*
  obtain⟨s',es,er⟩:=ee;dsimp only at L J d he Z⊢
  have q:=J.dis;obtain⟨D,hb9⟩:=J.grow (x':=.slice none 0 0) (rH w8 _) (fun g h=>by cases h) (fun g h=>by cases h);have W:=d.rowT (F:=Fb ⟨c'.sb,c'.mb,c'.mv,c'.nv,c'.ov,c'.mvs,c'.nvs,c'.p1,c'.p2,c'.tok,c'.st,c'.N,.slice none 0 0,c'.lo⟩ w8) (fun g z=>⟨by have:=(d.lt g z).1;have:=u.size;dsimp only;omega,(d.lt g z).2.1,fun h=>by
   have o:=hxx g z;rcases h with h|h|h|h|h|h
   ·exact q.d05 g (by rw[h]) o
   ·exact q.d15 g (by rw[h]) o
   ·exact q.d25 g h o
   ·exact q.d35 g h o
   ·exact q.d45 g h o
   ·cases h⟩)
  obtain⟨xo,xc,rfl,M⟩:=d.slF (F':=Fb ⟨c'.sb,c'.mb,c'.mv,c'.nv,c'.ov,c'.mvs,c'.nvs,c'.p1,c'.p2,c'.tok,c'.st,c'.N,.slice none 0 0,c'.lo⟩ w8) Pc (fun g z=>⟨by have:=(d.lt g z).1;have:=u.size;dsimp only;omega,(d.lt g z).2.1,fun h=>by
   have o:=hxx g z;rcases h with h|h|h|h|h|h
   ·exact q.d05 g (by rw[h]) o
   ·exact q.d15 g (by rw[h]) o
   ·exact q.d25 g h o
   ·exact q.d35 g h o
   ·exact q.d45 g h o
   ·cases h⟩)
  have I:=D.no;have A:=D.blk;have hnl9:=D.ni.len;dsimp only at I A hnl9
  obtain⟨no,nc,G⟩:=I.val;rw[G,g1]at A
  refine QD ?_;refine dW (α:=Raw) (F:=cZ) (bytes:=24) (yv:=(⟨.slice xo es.length xc⟩:Raw)) rfl rfl O_ rfl rfl O_ (G▸I) (Rd.mkRaw _ _ _ rfl) O.size Pc O2 O5 O0 (fun nv' w9 p9 ho9 hg9 hnb9=>?_);obtain⟨no',nc',rfl⟩:=ho9.val;have r:=A.kept hg9 (fun e=>D.dis.d03 c.sb (by dsimp only;rw[g1]) (by dsimp only;rw[G];exact e.symm));refine Re ?_;refine WL.st rfl rfl rfl r rfl rfl Pk (fun w10 r hg10=>?_);obtain⟨hS10,hC10,hb10⟩:=D.pushN O.size M W ho9 (by dsimp only;rw[G];exact hg9) (by dsimp only;rw[G];exact hnb9) (by dsimp only;rw[g1];exact hg10) (by dsimp only;rw[g1];exact r);have hE10:Ext w0 w10:=(bI hC10).ext O (fun b h=>(iQ D b h).1);refine P6 ?_;refine EX.back (n+1,_,s',nx++[es]) OZ ⟨?_,?_,hS10,rfl,by simp[hnl],by dsimp only;rw[g1,q1],by dsimp only;rw[g2,q2],by dsimp only;rw[g3,q3],by dsimp only;rw[g4,q4],by dsimp only;rw[g5,q5],by dsimp only;rw[g6,q6],by dsimp only;rw[g7,q7],hE10⟩ O4
  ·dsimp only;omega
  ·rw[show 201 -(n+1)=f by omega];exact L
 ·obtain rfl:n=s.1.length:=by simp at h;omega
  rw[OD (MI _)]at L
  rw[←L];refine P3 ?_;exact bf rfl rfl rfl ⟨u,.inr ⟨rfl,c,by rw[q1],hS,q7⟩⟩
def GF(lo hi:Nat)(x y:Value):Nat→Prop:=fun b=>lo≤b∧b<hi∧x.ownBlock≠some b∧y.ownBlock≠some b
structure LOut{α:Type}[Rep α](w:World)(lo hi:Nat)(x y:Value)(t:TypeId)(v:Value)(vs:List Raw)(xs:List (List α)):Prop where
 own:Own w lo t cZ v vs
 top:∀g,v.ownBlock=some g→g<hi
 len:vs.length=xs.length
 el:∀i (h:i<vs.length) (h':i<xs.length),∃ao cap,vs[i].v=.slice ao xs[i].length cap∧Sl w (GF lo hi x y) ao cap xs[i]
 ty:∀i (h:i<vs.length),RowT (GF lo hi x y) w (sz α) vs[i].v
section
variable {α:Type}[Rep α]{w w':World}{lo hi:Nat}{x y v:Value}{t:TypeId}{vs:List Raw}{xs:List (List α)}
theorem LOut.to(h:LOut w lo hi x y t v vs xs)(a:∀b,lo≤b→b<hi→w'.heap[b]?=w.heap[b]?):LOut w' lo hi x y t v vs xs:=
 ⟨h.own.keep (fun g c=>a g (h.own.lt g c).1 (h.top g c)) Pc,h.top,h.len,fun i h1 h2=>by
  obtain⟨ao,cap,e,d⟩:=h.el i h1 h2;exact⟨ao,cap,e,d.mono (fun b h=>a b h.1 h.2.1) fun _ h=>h⟩,fun i h1=>(h.ty i h1).to fun b h _=>⟨h,a b h.1 h.2.1⟩⟩
theorem LOut.low(h:LOut w lo hi x y t v vs xs){lo':Nat}(a:lo'≤lo):LOut w lo' hi x y t v vs xs:=
 ⟨h.own.low a,h.top,h.len,fun i h1 h2=>by
  obtain⟨ao,cap,e,c⟩:=h.el i h1 h2;exact⟨ao,cap,e,c.mono Pj fun b h=>⟨MH a h.1,h.2⟩⟩,fun i h1=>(h.ty i h1).to fun b h _=>⟨⟨MH a h.1,h.2⟩,rfl⟩⟩
theorem LOut.nil:LOut w lo hi x y t (.slice none 0 0) [] ([]:List (List α)):=⟨Own.nil,(fun g h=>by cases h),rfl,fun i h _=>absurd h O3,fun i h=>absurd h O3⟩
theorem LOut.rd(h:LOut w lo hi x y t v vs xs){F:Nat→Prop}(hF:∀b,lo≤b→b<hi→F b):Rd w F v xs:=by
 obtain⟨ao,cap,e,c⟩:=h.own.slF (F':=F) Pc (fun g k=>hF g (h.own.lt g k).1 (h.top g k));have d:Sl w F ao cap xs:=by
  refine⟨by rw[←h.len];exact c.le,c.mx,c.nil,fun i hi=>?_⟩;have a:i<vs.length:=by rw[h.len];exact hi
  obtain⟨b,off,p,j,q,n,m⟩:=c.el i a;obtain⟨rfl,h1⟩:=m;obtain⟨io,ic,o,f⟩:=h.el i a hi;exact⟨b,off,p,j,[vs[i].v],n,io,ic,by rw[o],f.mono Pj (fun b l=>hF b l.1 l.2.1)⟩
 rw[e,h.len];exact d.rd
end
theorem bH(w0:World){so fo:Option Addr}{sc fc:Nat}{ns:List cG}{fl:List cF}(p:Sl w0 (c7 w0) so sc ns)(hf:Sl w0 (c7 w0) fo fc fl)(tok st:Int):
  Rt Tryz.prog 16 [Cl so sc fo fc ns.length fl.length,Pq tok,Pq st].toArray w0 fun v w'=>∃x y mvs nvs,v=.tuple ⟨[.agg [x,y].toArray,Pq (nZ (ns,fl) tok st).2]⟩∧LOut w' w0.heap.size w'.heap.size x y 39 x mvs (nZ (ns,fl) tok st).1.1∧LOut w' w0.heap.size w'.heap.size x y 52 y nvs (nZ (ns,fl) tok st).1.2∧Ext w0 w':=by
 refine dF Tryz.func16 Tryz.ntmps16 rfl rfl ?_;refine Pu ?_;refine dX rfl rfl rfl fun I r C=>?_
 skip;refine WL.alloc rfl rfl (fun s a H=>?_);have r:=r.ext H;have B:=C.trans H;have L:=a.lt;refine Q0 ?_;refine WL.call rfl rfl rfl (D5 s (p.up B) (hf.up B) tok st) ?_;rintro _ n ⟨G,J⟩
 have a:=a.ext G;have f:=B.trans G;unfold nZ;rcases J with⟨u,rfl⟩|⟨u,c,rfl,hS,D⟩
 ·rw[OE u]
  have k:(DI (ns,fl) tok st != 0)=true:=by simpa using u
  refine Qm ?_;rw[k];refine Qu ?_;refine WL.build (parts:=[]) rfl rfl rfl rfl ?_;refine Ra ?_;refine WL.st rfl rfl rfl a rfl rfl Pk (fun o a d=>?_);refine PK ?_;exact bh rfl rfl rfl a rfl ⟨_,_,[],[],rfl,LOut.nil,LOut.nil,f.grown d f.size (fun g j=>by cases j;exact C.size)⟩
 rw[OD (by simp[u])];by_cases z:(runB (ns,fl) tok st).2.2=0
 case neg=>
  rw[OE z];have k:((runB (ns,fl) tok st).2.2 != 0)=true:=by simpa using z
  refine Qm ?_;rw[k];refine Qu ?_;refine WL.build (parts:=[]) rfl rfl rfl rfl ?_;refine Ra ?_;refine WL.st rfl rfl rfl a rfl rfl Pk (fun o a d=>?_);refine PK ?_;exact bh rfl rfl rfl a rfl ⟨_,_,[],[],rfl,LOut.nil,LOut.nil,f.grown d f.size (fun g j=>by cases j;exact C.size)⟩
 rw[OD (by simp[z]),z];have q:=hS.blk;have K:c.sb≠I.heap.size:=by have:=hS.ge.1;omega
 obtain⟨ao,ac,m⟩:=hS.mo.val;obtain⟨no,M,l⟩:=hS.no.val;rw[m,l]at q
 refine Q2 ?_;refine WL.st rfl rfl rfl a rfl rfl Pk (fun o a d=>?_);have rdl:∀{α:Type} [Rep α] {t:TypeId} {v:Value} {vs:List Raw} {xs:List (List α)},Own n s.heap.size t cZ v vs→Inn n c vs xs→LOut o w0.heap.size o.heap.size c.mv c.nv t v vs xs:=by
  intro α _ t v vs xs E hi
  have F:∀b,Fb c n b→GF s.heap.size n.heap.size c.mv c.nv b:=fun b A=>⟨by rw[←D];exact A.1,A.2.1,fun e=>A.2.2 (.inr (.inr (.inl e))),fun e=>A.2.2 (.inr (.inr (.inr (.inl e))))⟩
  have h3:LOut n s.heap.size n.heap.size c.mv c.nv t v vs xs:=⟨E,fun g j=>(E.lt g j).2.1,hi.len,fun i h1 h2=>by
   obtain⟨ao,cap,e,p⟩:=hi.el i h1 h2;exact⟨ao,cap,e,p.mono Pj F⟩,fun i h1=>(hi.ty i h1).to fun b h _=>⟨F b h,rfl⟩⟩
  have h4:=(h3.to (w':=o) fun b h1 h2=>d.block b h2 Ph).low B.size;exact⟨h4.own,fun g j=>MK (h4.top g j) d.size,h4.len,fun i k1 k2=>by
   obtain⟨ao,cap,e,p⟩:=h4.el i k1 k2;exact⟨ao,cap,e,p.mono Pj fun b h=>⟨h.1,MK h.2.1 d.size,h.2.2⟩⟩,fun i k1=>(h4.ty i k1).to fun b h _=>⟨⟨h.1,MK h.2.1 d.size,h.2.2⟩,rfl⟩⟩
 refine PB ?_;exact bh rfl rfl rfl a rfl ⟨_,_,c.mvs,c.nvs,rfl,by rw[←m,←l];exact rdl hS.mo hS.mi,by rw[←m,←l];exact rdl hS.no hS.ni,f.grown d f.size (fun g j=>by cases j;exact C.size)⟩
theorem bE(w0:World){so fo:Option Addr}{sc fc:Nat}{ns:List cG}{fl:List cF}(a:Sl w0 (c7 w0) so sc ns)(hf:Sl w0 (c7 w0) fo fc fl)(tok st:Int):
  Rt Tryz.prog 16 [Cl so sc fo fc ns.length fl.length,Pq tok,Pq st].toArray w0 fun v w'=>∃x y,v=.tuple ⟨[.agg [x,y].toArray,Pq (nZ (ns,fl) tok st).2]⟩∧Rd w' (c7 w') x (nZ (ns,fl) tok st).1.1∧Rd w' (c7 w') y (nZ (ns,fl) tok st).1.2∧Ext w0 w':=
 Rt.mono (bH w0 a hf tok st) fun v w' ⟨x,y,_,_,e,h1,h2,c⟩=>⟨x,y,e,h1.rd (fun b _ h=>h),h2.rd (fun b _ h=>h),c⟩
theorem Cells.hd'{w:World}{b o:Nat}{x:Value}{r:List Value}(h:Cells w b o (x::r)):Cells w b o [x]:=fun j u a=>by
 match j,a with
 |0,a=>exact h 0 u (by simpa using a)
theorem Sl.edge0{w:World}{F:Nat→Prop}{ao:Option Addr}{cap:Nat}{xs:List cE}(h:Sl w F ao cap xs){i:Nat}(hi:i<xs.length):∃b off,ao=some ⟨b,off,none⟩∧F b∧Cells w b (off+i*2) [Pq xs[i].1]∧Cells w b (off+i*2+1) [Pq xs[i].2]:=by
 obtain⟨b,off,e,d,f,a,c⟩:=h.el i hi;obtain⟨c1,c2,rfl,h1,h2⟩:=C2 c;rw[CX h1,CX h2]at a
 exact⟨b,off,e,d,a.hd',a.tl'⟩
theorem Sl.step0{w:World}{F:Nat→Prop}{ao:Option Addr}{cap:Nat}{xs:List cK}(h:Sl w F ao cap xs){i:Nat}(hi:i<xs.length):∃b off,ao=some ⟨b,off,none⟩∧F b∧Cells w b (off+i*3) [Pq xs[i].1]:=by
 obtain⟨b,off,e,d,f,a,c⟩:=h.el i hi;obtain⟨c1,c2,rfl,h1,h2⟩:=C2 c;rw[CX h1]at a
 exact⟨b,off,e,d,a.hd'⟩
theorem CV{w:World}{F:Nat→Prop}{v:Value}{x:cE}(h:Rd w F v x):v=.agg [Pq x.1,Pq x.2].toArray:=by
 obtain⟨c1,c2,rfl,h1,h2⟩:=h.pr;rw[CX h1,CX h2];rfl
theorem q8{l:List cE}{j:Nat}(h:j<l.length):l.getD j (0,0)=l[j]:=by rw[KN,KT h];rfl
theorem rj{l:List (List cE)}{j:Nat}(h:j<l.length):l.getD j []=l[j]:=by rw[KN,KT h];rfl
theorem rk{l:List cK}{j:Nat}(h:j<l.length):l.getD j (0,0,0)=l[j]:=by rw[KN,KT h];rfl
theorem E5{s:Nat}(a:s<62):IntKind.u64.wrap (1*2 ^ min ((s:Int)).toNat IntKind.u64.bits)=((2 ^ s:Nat):Int):=by
 have h1:min ((s:Int)).toNat IntKind.u64.bits=s:=by
  rw[J7];exact MN (by show s≤64;omega)
 rw[h1,J6];have h2:(2:Nat) ^ s<2 ^ 62:=M1 O2 a;have h3:((2:Int)) ^ s=((2 ^ s:Nat):Int):=by push_cast;rfl
 rw[h3];generalize (2:Nat) ^ s=q at*
 simp[IntKind.wrap,IntKind.bits,IntKind.signed]<;>omega
def RunAt(w:World)(sb:Nat)(sl:List cK)(nx:List (List cE)):Prop:=
 ∃(lo:Option Addr) (b:Nat) (mv:Value) (no:Option Addr) (a:Nat) (oo:Option Addr) (oc:Nat) (ao:Option Addr) (ac:Nat) (yo:Option Addr) (yc:Nat) (f e d c:Value),
  Blk w sb 78 [.slice lo sl.length b,mv,.slice no nx.length a,.slice oo (gA nx nx.length) oc,.slice ao nx.length ac,.slice yo nx.length yc,f,e,d,c]∧
  Sl w (c7 w) lo b sl∧Sl w (c7 w) no a nx∧Sl w (c7 w) oo oc (Ag nx nx.length)∧Sl w (c7 w) ao ac (gx nx nx.length)∧Sl w (c7 w) yo yc (yp nx nx.length)
theorem RunAt.up{w w':World}{sb:Nat}{sl:List cK}{nx:List (List cE)}(h:RunAt w sb sl nx)(a:Ext w w'):RunAt w' sb sl nx:=by
 obtain⟨lo,g,mv,no,f,oo,oc,ao,ac,yo,yc,e,d,c,b,i,h1,h2,h3,h4,j⟩:=h;exact⟨lo,g,mv,no,f,oo,oc,ao,ac,yo,yc,e,d,c,b,i.ext a,h1.up a,h2.up a,h3.up a,h4.up a,j.up a⟩
theorem atL_len{nx:List (List cE)}{k:Nat}:(gx nx k).length=k:=by simp[gx]
theorem manyL_len{nx:List (List cE)}{k:Nat}:(yp nx k).length=k:=by simp[yp]
theorem gy{nx:List (List cE)}{k m:Nat}(h:m<(gx nx k).length):(gx nx k)[m]=((gA nx m:Nat):Int):=by simp[gx]
theorem yq{nx:List (List cE)}{k m:Nat}(h:m<(yp nx k).length):(yp nx k)[m]=((yN nx m:Nat):Int):=by simp[yp]
theorem gB{nx:List (List cE)}(h:∀j,(nx.getD j []).length≤60):∀n,gA nx n≤60*n
 |0=>by rw[gF];omega
 |n+1=>by
  rw[gE];have:=gB h n;have:=h n;unfold yN;omega
theorem Am{sl:List cK}{nx:List (List cE)}(c:NxOk sl nx){j:Nat}(b:j<gA nx nx.length):
  ∃n i,n<nx.length∧i<yN nx n∧j=gA nx n+i∧(Ak nx j).2=(n:Int)∧((Ak nx j).1= -1∧nx.getD n []=[]∨0≤(Ak nx j).1∧(Ak nx j).1<sl.length∧i<(nx.getD n []).length∧Ak nx j=(((nx.getD n []).getD i (0,0)).1,(n:Int))):=by
 obtain⟨n,i,hn,hi,rfl⟩:=Ao b;refine⟨n,i,hn,hi,rfl,?_⟩;rw[Al hn hi];by_cases h:nx.getD n []=[]
 ·rw[OE h];exact⟨rfl,.inl ⟨rfl,h⟩⟩
 ·rw[OD h]
  have d:0<(nx.getD n []).length:=Lp.2 h;have a:i<(nx.getD n []).length:=by unfold yN at hi;omega
  have:=c.ed n hn _ (K8 a);rw[←q8 a]at this
  exact⟨rfl,.inr ⟨this.1,this.2.1,a,rfl⟩⟩
theorem f_(w0:World){sb m:Nat}{sl:List cK}{nx:List (List cE)}(hR:RunAt w0 sb sl nx)(n:NxOk sl nx)(H:m<nx.length):
  Rt Tryz.prog 21 [Pr sb,Pq (m:Int)].toArray w0 fun v w'=>Own w' w0.heap.size 3 cZ v (fW nx m)∧Ext w0 w':=by
 obtain⟨lo,G,mv,no,E,oo,oc,ao,ac,yo,yc,B,A,z,y,p,h1,h2,h3,h4,x⟩:=hR;have u:=gB n.row m;have r:yN nx m≤60:=by have:=n.row m;unfold yN;omega
 have d:=n.n;have f:nx.length=(gx nx nx.length).length:=atL_len.symm;have e:nx.length=(yp nx nx.length).length:=manyL_len.symm;refine dE Tryz.func21 Tryz.ntmps21 rfl rfl ?_;refine Qw ?_;rw[show Value.slice yo nx.length yc=.slice yo (yp nx nx.length).length yc by rw[←e]];refine eB (i:=m) rfl rfl rfl rfl rfl x O0 (yq _) O_ (fun q=>?_);refine Ql ?_;refine CW.loop (S:=Nat×Value) (fun s=>[(0,Pr sb),(1,Pq m),(5,s.2),(13,Pq ((yN nx m:Nat):Int)),(14,Pq s.1)])
  (fun s w=>s.1≤yN nx m∧Own w w0.heap.size 3 cZ s.2 ((List.range s.1).map fun i:Nat=>((gA nx m+i:Nat):Int))∧Ext w0 w) (fun s=>yN nx m -s.1) (0,.slice none 0 0) OZ ⟨M9 _,Own.nil,Ext.refl _⟩ ?_
 rintro⟨i,ov⟩ D ⟨hi,b,a⟩
 dsimp only at hi b a⊢
 have p:=p.ext a;refine Qm ?_;apply CW.cond rfl<;>intro h
 ·have k:i<yN nx m:=by simp only[Ow]at h;omega
  clear h;refine QD ?_;rw[show Value.slice ao nx.length ac=.slice ao (gx nx nx.length).length ac by rw[←f]];refine eB (i:=m) rfl rfl rfl rfl rfl (h4.up a) O0 (gy _) O_ (fun q=>?_);refine Rn ?_;refine dW (α:=Int) (F:=cZ) (bytes:=8) (yv:=((gA nx m:Nat):Int)+(i:Int)) rfl rfl O_ rfl rfl O_ b Pl a.size Pc O2 (by unfold maxLen;simp;omega) O6 (fun ov' C q ho2 l o=>?_);have c:(List.range (i+1)).map (fun i:Nat=>((gA nx m+i:Nat):Int))=(List.range i).map (fun i:Nat=>((gA nx m+i:Nat):Int))++[((gA nx m:Nat):Int)+(i:Int)]:=by
   rw[L7,Lz];simp
  rw[←c]at ho2
  refine P6 ?_;exact EX.back (i+1,ov') OZ ⟨k,ho2,JB a l a.size (fun g t=>(b.lt g t).1)⟩ O4
 have j:i=yN nx m:=by simp only[Ou]at h;omega
 subst j;refine P3 ?_;exact be rfl rfl ⟨b,a⟩
theorem Ds(w0:World){sb j:Nat}{sl:List cK}{nx:List (List cE)}(hR:RunAt w0 sb sl nx)(l:NxOk sl nx)(w:j<gA nx nx.length):
  Rt Tryz.prog 19 [Pr sb,Pq (j:Int)].toArray w0 fun v w'=>Own w' w0.heap.size 3 cZ v (za nx j)∧Ext w0 w':=by
 have L:=hR;obtain⟨lo,lc,mv,no,nc,oo,oc,ao,ac,yo,yc,x1,x2,Z,Y,S,h1,h2,h3,h4,h5⟩:=hR;obtain⟨n,i,hn,hi,W,m,Q⟩:=Am l w;have X:=gB l.row n;have G:=l.n;have H:nx.length=(gx nx nx.length).length:=atL_len.symm;have D:gA nx nx.length=(Ag nx nx.length).length:=rfl;have I:(Ag nx nx.length)[j]'w=Ak nx j:=(q8 w).symm;unfold za;refine dE Tryz.func19 Tryz.ntmps19 rfl rfl ?_;refine Qw ?_;rw[D];refine eC (i:=j) rfl rfl rfl rfl rfl h3 w O_ (fun u q b=>?_);rw[I]at b
 rw[CV b];clear b;skip;refine WL.alloc rfl rfl (fun w1 f O=>?_);skip;refine WL.st rfl rfl rfl f rfl rfl Pk (fun d f p=>?_);have e:Ext w0 d:=JB O p O.size Pb;have S:=S.ext e;have hR:=L.up e;clear O p;refine QM ?_;by_cases a:(Ak nx j).1<0
 ·rw[Ov a,OE a]
  refine Qu ?_;refine WL.lit (F:=cZ) (ys:=[(j:Int)]) rfl rfl rfl rfl rfl (.cons Pl .nil) (by show 1*1≤16777216;decide) Pc (fun P E J=>?_);have N:Ext d P:=(JD _ _).grown J Pm Pg;refine PK ?_;exact be rfl rfl ⟨E.low e.size,e.trans N⟩
 rw[Ot a,OD a];rcases Q with⟨Q,_⟩|⟨_,_,c,U⟩
 ·omega
 have K:=l.ed n hn _ (K8 c);rw[←q8 c]at K
 have x:GQ nx j=(nx.getD n []).getD i (0,0):=by
  unfold GQ;rw[m,J7,show j -gA nx n=i by omega]
 rw[x];obtain⟨t,R⟩:∃t:Nat,((nx.getD n []).getD i (0,0)).2=(t:Int):=⟨((nx.getD n []).getD i (0,0)).2.toNat,by omega⟩;rw[R,J7];rw[m]at f
 have g:∀z,(fun z:World=>Ext d z) z→Ext d z:=fun _ h=>h
 refine QY ?_;refine aF (fun z:World=>Ext d z) [(0,true),(1,true),(2,true),(3,true),(4,true),(5,true),(6,true),(7,true),(8,true),(9,true),(10,true),(11,true),(12,true),(13,true),(14,true),(15,true),(16,true),(17,true),(18,true),(19,true),(20,true),(21,true),(22,true),(23,false),(24,true)] mixed O1 (Ext.drew d) ?_;refine RD ?_;refine bZ (k:=n) g rfl rfl rfl rfl rfl rfl rfl Pe (h2.up e) hn O_ (fun u q b=>?_);rw[←rj hn]at b
 obtain⟨ro,rc,rfl,V⟩:=b.sl;refine RD ?_;rw[show Value.slice ao nx.length ac=.slice ao (gx nx nx.length).length ac by rw[←H]];refine bZ (k:=n) g rfl rfl rfl rfl rfl rfl rfl Pe (h4.up e) O0 O_ (fun u q b=>?_);rw[gy]at b
 obtain rfl:=b.int;have o:(j:Int) -((gA nx n:Nat):Int)=(i:Int):=by omega
 have T:=gB l.row nx.length;refine RF ?_;rw[o];clear b;have B:(nx.getD n [])[i].2=(t:Int):=by rw[←q8 c];exact R
 have A:t<nx.length:=by omega
 obtain⟨rb,rf,rfl,C,_,r⟩:=V.edge0 c;rw[B]at r
 refine ca (α:=cE) rfl rfl rfl rfl rfl O0 O0 ?_;refine Ry ?_;refine HL.load (α:=Int) (F:=cZ) (y:=(t:Int)) g rfl rfl rfl rfl C Pc (by rw[J7];exact r) rfl ?_;rw[show Il Int [Pq (t:Int)]=Pq (t:Int) from rfl];have M:=Ext.drew d;refine cr rfl (WL.call rfl rfl rfl (f_ (drew d) (hR.up M) l A) ?_);rintro v P ⟨E,N⟩
 have s:=M.trans N;refine WL.nil (a_ s ?_);refine RJ ?_;refine PJ ?_;exact be rfl rfl ⟨E.low (by have:=M.size;have:=e.size;omega),e.trans s⟩
theorem Dp(w0:World){sb j:Nat}{sl:List cK}{nx:List (List cE)}(hR:RunAt w0 sb sl nx)(m:NxOk sl nx)(e:j<gA nx nx.length):
  Rt Tryz.prog 20 [Pr sb,Pq (j:Int)].toArray w0 fun v w'=>v=.int .u64 ((xg sl nx j:Nat):Int)∧xg sl nx j<18446744073709551616∧Ext w0 w':=by
 obtain⟨lo,G,mv,no,E,oo,oc,ao,ac,yo,yc,C,B,A,z,H,h1,h2,h3,h4,I⟩:=hR;obtain⟨n,i,hn,hi,u,p,l⟩:=Am m e;have g:(Ag nx nx.length)[j]'e=Ak nx j:=(q8 e).symm;obtain⟨ob,off,rfl,f,b,h⟩:=h3.edge0 e;rw[g]at b h
 unfold xg;refine dE Tryz.func20 Tryz.ntmps20 rfl rfl ?_;refine Qw ?_;refine eH (α:=cE) rfl rfl rfl rfl O0 O0 ?_;refine Rg ?_;refine WL.load (α:=Int) (F:=cZ) (y:=(Ak nx j).1) rfl rfl rfl (by rw[J7];exact b) rfl ?_;rw[show Il Int [Pq (Ak nx j).1]=Pq (Ak nx j).1 from rfl];refine PE ?_;by_cases a:(Ak nx j).1<0
 ·rw[Ov a,OE a]
  refine Q3 ?_;exact be rfl rfl ⟨rfl,by decide,Ext.refl _⟩
 rw[Ot a,OD a];rcases l with⟨l,_⟩|⟨g0,g1,w,o⟩
 ·omega
 obtain⟨k,t⟩:∃k:Nat,(Ak nx j).1=(k:Int):=⟨(Ak nx j).1.toNat,by omega⟩;rw[t]at b g1⊢
 rw[J7];have c:k<sl.length:=by omega
 obtain⟨lb,lf,rfl,hlb,d⟩:=h1.step0 c;have r:=m.node _ (K8 c);rw[rk c];obtain⟨s,q⟩:∃s:Nat,sl[k].1=(s:Int):=⟨(sl[k].1).toNat,by omega⟩;rw[q]at d⊢
 rw[J7];refine Q8 ?_;refine dm (α:=cE) rfl rfl rfl rfl O0 O0 ?_;refine Ri ?_;refine QL.load (α:=Int) (F:=cZ) (y:=(k:Int)) rfl rfl rfl f Pc (by rw[J7];exact b) rfl ?_;rw[show Il Int [Pq (k:Int)]=Pq (k:Int) from rfl];skip;refine dm (α:=cK) rfl rfl rfl rfl O0 O0 ?_;refine Ri ?_;refine QL.load (α:=Int) (F:=cZ) (y:=(s:Int)) rfl rfl rfl hlb Pc (by rw[J7];exact d) rfl ?_;rw[show Il Int [Pq (s:Int)]=Pq (s:Int) from rfl];refine Rf ?_;rw[E5 (show s<62 by omega)];refine QL.nil fun D x=>?_
 refine PJ ?_;refine be rfl rfl ⟨rfl,?_,x⟩;have h2:(2:Nat) ^ s<2 ^ 64:=M1 O2 O0;exact h2
theorem gk{l:List cE}{p:cE→Bool}{i:Nat}(h:i<l.length):(l.take (i+1)).any p=((l.take i).any p||p l[i]):=by
 rw[Md,KT h,J_];simp
set_option maxHeartbeats 1000000 in
theorem oE(w0:World){sb k:Nat}{sl:List cK}{nx:List (List cE)}(hR:RunAt w0 sb sl nx)(H:NxOk sl nx):
  Rt Tryz.prog 22 [Pr sb,Pq (k:Int)].toArray w0 fun v w'=>Own w' w0.heap.size 3 cZ v (ot nx (k:Int))∧Ext w0 w':=by
 obtain⟨lo,lc,mv,no,nc,oo,oc,ao,ac,yo,yc,x1,x2,x3,x4,Y,h1,h2,h3,h4,h5⟩:=hR;have hat:=gB H.row nx.length;have L:=H.n;have hol:(Ag nx nx.length).length=gA nx nx.length:=rfl;refine dE Tryz.func22 Tryz.ntmps22 rfl rfl ?_;refine Qz ?_;refine CW.loop (S:=Nat×Value) (fun s=>[(0,Pr sb),(1,Pq k),(5,s.2),(14,.slice oo (Ag nx nx.length).length oc),(15,Pq (gA nx nx.length:Nat)),(16,Pq s.1)])
  (fun s w=>s.1≤gA nx nx.length∧Own w w0.heap.size 3 cZ s.2 (ow nx (k:Int) s.1)∧Ext w0 w) (fun s=>gA nx nx.length -s.1) (0,.slice none 0 0) OZ ⟨M9 _,Own.nil,Ext.refl _⟩ ?_
 rintro⟨j,ov⟩ X ⟨N,A,D⟩
 dsimp only at N A D⊢
 refine Qm ?_;apply CW.cond rfl<;>intro h
 ·have o:j<gA nx nx.length:=by simp only[Ow]at h;omega
  clear h;have O:(Ag nx nx.length)[j]'o=Ak nx j:=(q8 o).symm;obtain⟨n,i,hn,hi,hji,z,hx⟩:=Am H o;have hfl:=ox (nx:=nx) (k:=(k:Int)) (n:=j);have a:=oz (nx:=nx) (k:=(k:Int)) (n:=j);refine PP ?_;refine eC (i:=j) rfl rfl rfl rfl rfl (h3.up D) o O_ (fun u q d=>?_);rw[O]at d
  rw[CV d];clear d;skip;refine WL.alloc rfl rfl (fun w2 b T=>?_);refine Ra ?_;refine WL.st rfl rfl rfl b rfl rfl Pk (fun w3 b C=>?_);have R:Ext X w3:=JB T C T.size Pb;have E:=D.trans R;have Y:=Y.ext E;have ho3:=A.extN R;clear T C;rw[z]at b
  have f:i6 nx j (k:Int)=(nx.getD n []).any fun y=>y.1==(k:Int):=by unfold i6;rw[z,J7]
  refine Q7 ?_;refine dk (i:=n) rfl rfl rfl rfl rfl Pe (h2.up E) hn O_ (fun u q d=>?_);rw[←rj hn]at d
  obtain⟨ro,rc,rfl,hr⟩:=d.sl;clear d;refine Rp ?_;refine QL.nil fun w4 I=>?_
  have V:=R.trans I;have K:=hr.up I;have b:=b.ext I;have ho4:=ho3.extN I;have hrl:=H.row n;generalize nx.getD n []=row at*
  refine Q6 ?_;refine CW.loop (S:=Nat) (fun s=>[(0,Pr sb),(1,Pq k),(5,ov),(6,Pq j),(7,Pr X.heap.size),(8,.bool ((row.take s).any fun y=>y.1==(k:Int))),(14,.slice oo (Ag nx nx.length).length oc),(15,Pq (gA nx nx.length:Nat)),(16,Pq j),(29,.slice ro row.length rc),(30,Pq row.length),(31,Pq s)])
   (fun s w=>s≤row.length∧Ext w4 w) (fun s=>row.length -s) 0 OZ ⟨M9 _,Ext.refl _⟩ ?_
  rintro r w5 ⟨hr0,x⟩
  refine Qm ?_;apply CW.cond rfl<;>intro h
  ·have e:r<row.length:=by simp only[Ow]at h;omega
   clear h;have m:=gk (p:=fun y=>y.1==(k:Int)) e;refine Q6 ?_;refine eC (i:=r) rfl rfl rfl rfl rfl (K.up x) e O_ (fun u q d=>?_);rw[CV d];clear d;generalize row[r]=ed at*
   generalize (row.take r).any (fun y=>y.1==(k:Int))=can at*
   skip;refine WL.alloc rfl rfl (fun W l e6=>?_);skip;refine WL.st rfl rfl rfl l rfl rfl Pk (fun w7 l P=>?_);have Z:Ext w5 w7:=JB e6 P e6.size Pb;cases can with
   |true=>
    refine Qr ?_;refine EX.back (r+1) ?_ ⟨e,x.trans Z⟩ O0;rw[m,Bool.true_or];exact OZ
   |false=>
    refine Qg ?_;refine EX.back (r+1) ?_ ⟨e,x.trans Z⟩ O0;rw[m,JL];exact OZ
  have J:r=row.length:=by simp only[Ou]at h;omega
  subst J;rw[Mf,←f];have b:=b.ext x;have ho5:=ho4.extN x;have U:=V.trans x;have c:=D.trans U;unfold vk at a
  clear h f;generalize i6 nx j (k:Int)=can at*
  have app:∀(hf:ow nx (k:Int) (j+1)=ow nx (k:Int) j++[(j:Int)]),True:=fun _=>trivial
  cases can with
  |false=>
   rw[JO,Bool.true_or,OE rfl]at a
   refine Qx ?_;refine dW (α:=Int) (F:=cZ) (bytes:=8) (yv:=(j:Int)) rfl rfl O_ rfl rfl O_ ho5 Pl c.size Pc O2 O5 O0 (fun ov' W q ho6 t B=>?_);rw[←a]at ho6
   refine P6 ?_;exact EX.back (j+1,ov') OZ ⟨o,ho6,JB c t c.size (fun g Q=>(A.lt g Q).1)⟩ O4
  |true=>
   rw[JP,JL]at a
   refine Qo ?_;by_cases G:(Ak nx j).1=(k:Int)
   ·rw[show((Ak nx j).1==(k:Int))=true by rw[G];exact Ok _,OE rfl]at a
    rw[show((Ak nx j).1==(k:Int))=true by rw[G];exact Ok _];refine Qu ?_;refine dW (α:=Int) (F:=cZ) (bytes:=8) (yv:=(j:Int)) rfl rfl O_ rfl rfl O_ ho5 Pl c.size Pc O2 O5 O0 (fun ov' W q ho6 t B=>?_);rw[←a]at ho6
    refine P6 ?_;exact EX.back (j+1,ov') OZ ⟨o,ho6,JB c t c.size (fun g Q=>(A.lt g Q).1)⟩ O4
   ·rw[show((Ak nx j).1==(k:Int))=false by simpa using G,OD O3,Kd]at a
    rw[show((Ak nx j).1==(k:Int))=false by simpa using G];rw[←a]at ho5
    refine PT ?_;exact EX.back (j+1,ov) OZ ⟨o,ho5,c⟩ O4
 have M:j=gA nx nx.length:=by simp only[Ou]at h;omega
 subst M;refine P3 ?_;exact be rfl rfl ⟨A,D⟩
theorem eX{P:Program}{Q:Exit→Act→World→Prop}{n:Nat}{σ:Sg}{w:World}{L rest:List Oper}{d:Nat}{ty:TypeId}{pos:String}{af:Array Edge}{g:Option (Nat×Bool)}{x y:Operand}{a c:Int}{b:Array TypeId}
  (k:gd L σ ⟨some d,.call ⟨.builtin .max,#[x,y],b⟩,ty,pos,af,g⟩=some true) (hd:Nat.ble (d+1) n=true) (j:ev σ x=some (Pq a)) (i:ev σ y=some (Pq c))
  (h:WL P L Q rest n ((d,Pq (max a c))::σ) w):WL P L Q (⟨some d,.call ⟨.builtin .max,#[x,y],b⟩,ty,pos,af,g⟩::rest) n σ w:=by
 refine WL.run k hd (fun u f=>?_) h;have e:(if a<c then c else a)=max a c:=by omega
 simp[execOp,resolve,invoke,builtin,f.ev j,f.ev i,run_max_int2,e]
structure Fld3(w:World)(B sb:Nat)(ov av yv:Value)(os:List cE)(bs ys:List Int):Prop where
 o:Own w B 102 cZ ov os
 a:Own w B 3 cZ av bs
 y:Own w B 3 cZ yv ys
 oa:∀g,ov.ownBlock=some g→av.ownBlock≠some g
 oy:∀g,ov.ownBlock=some g→yv.ownBlock≠some g
 ay:∀g,av.ownBlock=some g→yv.ownBlock≠some g
 sb:sb<B
section
variable {w w0 w1 w2:World}{B sb:Nat}{ov av yv ov' av' yv':Value}{os os':List cE}{bs ys bs' ys':List Int}
theorem Fld3.ext(h:Fld3 w B sb ov av yv os bs ys)(a:Ext w w1):Fld3 w1 B sb ov av yv os bs ys:=⟨h.o.extN a,h.a.extN a,h.y.extN a,h.oa,h.oy,h.ay,h.sb⟩
theorem Fld3.setO(h:Fld3 w B sb ov av yv os bs ys)(k:B=w0.heap.size)(j:Chg (fun b=>b=sb) w0 w)(f:Own w1 B 102 cZ ov' os')(a:w.grownBy w1 ov.ownBlock)(hnb:∀g,ov'.ownBlock=some g→ov.ownBlock=some g∨w.heap.size≤g)(c:w1.grownBy w2 (some sb)):
  Fld3 w2 B sb ov' av yv os' bs ys∧Chg (fun b=>b=sb) w0 w2:=by
 have d:=h.sb;refine⟨⟨f.keptN c (fun g a e=>by have:=(f.lt g a).1;have:=Nj e;omega),(h.a.keptN a (fun g a e=>h.oa g e.symm a)).keptN c (fun g a e=>by have:=(h.a.lt g a).1;have:=Nj e;omega),(h.y.keptN a (fun g a e=>h.oy g e.symm a)).keptN c (fun g a e=>by have:=(h.y.lt g a).1;have:=Nj e;omega),fun g a e=>?_,fun g a e=>?_,h.ay,d⟩,?_⟩
 ·rcases hnb g a with h1|h1
  ·exact h.oa g h1 e
  ·have:=(h.a.lt g e).2.1;omega
 ·rcases hnb g a with h1|h1
  ·exact h.oy g h1 e
  ·have:=(h.y.lt g e).2.1;omega
 ·exact(j.then (Chg.of_grown a) (fun b i=>.inr (by have:=(h.o.lt b i).1;omega))).grown c (fun g a=>by cases a;rfl)
theorem Fld3.setA(h:Fld3 w B sb ov av yv os bs ys)(k:B=w0.heap.size)(j:Chg (fun b=>b=sb) w0 w)(f:Own w1 B 3 cZ av' bs')(a:w.grownBy w1 av.ownBlock)(hnb:∀g,av'.ownBlock=some g→av.ownBlock=some g∨w.heap.size≤g)(c:w1.grownBy w2 (some sb)):
  Fld3 w2 B sb ov av' yv os bs' ys∧Chg (fun b=>b=sb) w0 w2:=by
 have d:=h.sb;refine⟨⟨(h.o.keptN a (fun g a e=>h.oa g a e.symm)).keptN c (fun g a e=>by have:=(h.o.lt g a).1;have:=Nj e;omega),f.keptN c (fun g a e=>by have:=(f.lt g a).1;have:=Nj e;omega),(h.y.keptN a (fun g a e=>h.ay g e.symm a)).keptN c (fun g a e=>by have:=(h.y.lt g a).1;have:=Nj e;omega),fun g a e=>?_,h.oy,fun g a e=>?_,d⟩,?_⟩
 ·rcases hnb g e with h1|h1
  ·exact h.oa g a h1
  ·have:=(h.o.lt g a).2.1;omega
 ·rcases hnb g a with h1|h1
  ·exact h.ay g h1 e
  ·have:=(h.y.lt g e).2.1;omega
 ·exact(j.then (Chg.of_grown a) (fun b i=>.inr (by have:=(h.a.lt b i).1;omega))).grown c (fun g a=>by cases a;rfl)
theorem Fld3.setY(h:Fld3 w B sb ov av yv os bs ys)(k:B=w0.heap.size)(j:Chg (fun b=>b=sb) w0 w)(f:Own w1 B 3 cZ yv' ys')(a:w.grownBy w1 yv.ownBlock)(hnb:∀g,yv'.ownBlock=some g→yv.ownBlock=some g∨w.heap.size≤g)(c:w1.grownBy w2 (some sb)):
  Fld3 w2 B sb ov av yv' os bs ys'∧Chg (fun b=>b=sb) w0 w2:=by
 have d:=h.sb;refine⟨⟨(h.o.keptN a (fun g a e=>h.oy g a e.symm)).keptN c (fun g a e=>by have:=(h.o.lt g a).1;have:=Nj e;omega),(h.a.keptN a (fun g a e=>h.ay g a e.symm)).keptN c (fun g a e=>by have:=(h.a.lt g a).1;have:=Nj e;omega),f.keptN c (fun g a e=>by have:=(f.lt g a).1;have:=Nj e;omega),h.oa,fun g a e=>?_,fun g a e=>?_,d⟩,?_⟩
 ·rcases hnb g e with h1|h1
  ·exact h.oy g a h1
  ·have:=(h.o.lt g a).2.1;omega
 ·rcases hnb g e with h1|h1
  ·exact h.ay g a h1
  ·have:=(h.a.lt g a).2.1;omega
 ·exact(j.then (Chg.of_grown a) (fun b i=>.inr (by have:=(h.y.lt b i).1;omega))).grown c (fun g a=>by cases a;rfl)
end
theorem gz{nx:List (List cE)}{k:Nat}:gx nx (k+1)=gx nx k++[((gA nx k:Nat):Int)]:=by unfold gx;rw[L7,Lz];rfl
theorem yr{nx:List (List cE)}{k:Nat}:yp nx (k+1)=yp nx k++[((yN nx k:Nat):Int)]:=by unfold yp;rw[L7,Lz];rfl
set_option maxHeartbeats 2000000 in
theorem FU(w0:World){F:Nat→Prop}{sb:Nat}{lV mV U T R Q:Value}{no:Option Addr}{y:Nat}{nx:List (List cE)}
  (a:Blk w0 sb 78 [lV,mV,.slice no nx.length y,.slice none 0 0,.slice none 0 0,.slice none 0 0,U,T,R,Q]) (hn:Sl w0 F no y nx) (hF:∀b,F b→b<w0.heap.size∧b≠sb) (D:∀j,(nx.getD j []).length≤60) (hn200:nx.length≤200):
  Rt Tryz.prog 18 [Pr sb].toArray w0 fun v w'=>v=.bool (decide (gA nx nx.length≤600))∧∃ov av yv,Blk w' sb 78 [lV,mV,.slice no nx.length y,ov,av,yv,U,T,R,Q]∧
   Fld3 w' w0.heap.size sb ov av yv (Ag nx nx.length) (gx nx nx.length) (yp nx nx.length)∧Chg (fun b=>b=sb) w0 w':=by
 have W:=a.lt;refine dD Tryz.func18 Tryz.ntmps18 rfl rfl ?_;refine Qz ?_;refine CW.loop (S:=Nat×Value×Value×Value) (fun s=>[(0,Pr sb),(11,.slice no nx.length y),(12,Pq nx.length),(13,Pq s.1)])
  (fun s w=>s.1≤nx.length∧Blk w sb 78 [lV,mV,.slice no nx.length y,s.2.1,s.2.2.1,s.2.2.2,U,T,R,Q]∧Fld3 w w0.heap.size sb s.2.1 s.2.2.1 s.2.2.2 (Ag nx s.1) (gx nx s.1) (yp nx s.1)∧Chg (fun b=>b=sb) w0 w)
  (fun s=>nx.length -s.1) (0,.slice none 0 0,.slice none 0 0,.slice none 0 0) OZ ⟨M9 _,a,⟨Own.nil,Own.nil,Own.nil,(fun g o=>by cases o),(fun g o=>by cases o),(fun g o=>by cases o),W⟩,Chg.refl _ _⟩ ?_
 clear a;rintro⟨n,ov,av,yv⟩ w1 ⟨hi,a,hf,c⟩
 dsimp only at hi a hf c⊢
 have z1:=c.size;obtain⟨oo,oc,rfl⟩:=hf.o.val;have hatn:=gB D n;have I:(Ag nx n).length=gA nx n:=rfl;rw[I]at a
 refine Qm ?_;apply CW.cond rfl<;>intro h
 ·have L:n<nx.length:=by simp only[Ow]at h;omega
  clear h;have hnF:∀{w:World},Chg (fun b=>b=sb) w0 w→Sl w F no y nx:=fun h=>hn.mono (fun b a=>h.block b (hF b a).1 (hF b a).2) Pe
  have hFl:∀{w:World},Chg (fun b=>b=sb) w0 w→∀b,F b→b<w.heap.size:=fun h b a=>MK (hF b a).1 h.size
  obtain⟨ao,ac,rfl⟩:=hf.a.val;have K:=fun g o=>hf.a.lt g o
  have hal:(gx nx n).length=n:=atL_len;have hrl:=D n;refine PP ?_;refine eC (i:=n) rfl rfl rfl rfl rfl (hnF c) L O_ (fun u q P=>?_);rw[←rj L]at P
  obtain⟨V,rc,rfl,hr⟩:=P.sl;clear P;refine Qm ?_;have p:Ext w1 (drew w1):=Ext.drew w1;have C:=a.ext p;have hKs:∀u,(fun z:World=>∀b,b<w1.heap.size→(Value.slice ao (gx nx n).length ac).ownBlock≠some b→z.heap[b]?=(drew w1).heap[b]?) u→u.heap[sb]?=(drew w1).heap[sb]?:=fun u h=>h _ O0 (fun e=>by have:=K _ e;omega)
  skip;refine aE (fun z:World=>∀b,b<w1.heap.size→(Value.slice ao (gx nx n).length ac).ownBlock≠some b→z.heap[b]?=(drew w1).heap[b]?) [(0,true),(1,true),(2,true),(3,true),(4,true),(5,true),(6,true),(7,true),(8,true),(9,true),(10,false),(11,false),(12,false),(13,false)] 14 mixed O1 (fun _ _ _=>rfl) ?_;refine RF ?_;refine bV (α:=Int) (F:=cZ) (bytes:=8) (yv:=((gA nx n:Nat):Int)) rfl rfl rfl rfl O_ rfl rfl O_ (hf.a.extN p) Pl (by have:=p.size;omega) Pc O2 O5 O0
   (fun z hz b a d=>hz.block b a (fun e=>d e.symm)) (fun av' w2 q2 ho2 A E=>?_)
  rw[←gz]at ho2
  have hb2:=C.kept A (fun e=>by have:=K _ e.symm;omega);have N:(fun z:World=>∀b,b<w1.heap.size→(Value.slice ao (gx nx n).length ac).ownBlock≠some b→z.heap[b]?=(drew w1).heap[b]?) w2:=fun b a d=>A.block b a (fun e=>d e.symm)
  obtain⟨ao',ac',rfl⟩:=ho2.val;refine cr rfl (fh rfl rfl rfl (WL.nil (a_ N ?_)));refine cr rfl (eG rfl rfl rfl (WL.nil (a_ N (HL.nil ?_))));refine bp rfl (WL.st rfl rfl rfl hb2 rfl rfl Pk (fun w3 hb3 hg3=>WL.nil (bu ?_)));obtain⟨hf3,O⟩:=(hf.ext p).setA rfl (c.trans (Chg.of_ext _ p)) ho2 A E hg3;have hr3:Sl w3 F V rc (nx.getD n []):=hr.mono (fun b a=>(O.block b (hF b a).1 (hF b a).2).trans (c.block b (hF b a).1 (hF b a).2).symm) Pe;clear hKs N p C hb2 A hg3 ho2 E hf K c a hr z1;have X:Ag nx (n+1)=Ag nx n++Ai (nx.getD n []) n:=Ah;have hmn:yp nx (n+1)=yp nx n++[((max 1 (nx.getD n []).length:Nat):Int)]:=yr;generalize nx.getD n []=row at*
  have hrF:∀{w:World},Chg (fun b=>b=sb) w0 w→Sl w F V rc row:=fun h=>hr3.mono (fun b a=>(h.block b (hF b a).1 (hF b a).2).trans (O.block b (hF b a).1 (hF b a).2).symm) Pe
  apply bz;refine QZ ?_;refine CW.loop (S:=Nat×Value) (fun s=>[(0,Pr sb),(3,Pq n),(4,.slice V row.length rc),(11,.slice no nx.length y),(12,Pq nx.length),(13,Pq n),(32,.slice V row.length rc),(33,Pq row.length),(34,Pq s.1)])
   (fun s w=>s.1≤row.length∧Blk w sb 78 [lV,mV,.slice no nx.length y,s.2,.slice ao' (gx nx (n+1)).length ac',yv,U,T,R,Q]∧Fld3 w w0.heap.size sb s.2 (.slice ao' (gx nx (n+1)).length ac') yv (Ag nx n++(row.take s.1).map fun x=>(x.1,(n:Int))) (gx nx (n+1)) (yp nx n)∧Chg (fun b=>b=sb) w0 w)
   (fun s=>row.length -s.1) (0,.slice oo (Ag nx n).length oc) OZ ⟨M9 _,hb3,by simpa using hf3,O⟩ ?_
  clear hb3 hf3;rintro⟨r,ov⟩ w4 ⟨hr0,a,hf,c⟩
  dsimp only at hr0 a hf c⊢
  have z4:=c.size;refine Qm ?_;apply CW.cond rfl<;>intro h
  ·have G:r<row.length:=by simp only[Ow]at h;omega
   clear h;have hnx:Ag nx n++(row.take (r+1)).map (fun x:cE=>(x.1,(n:Int)))=(Ag nx n++(row.take r).map (fun x:cE=>(x.1,(n:Int))))++[(row[r].1,(n:Int))]:=by
    rw[Md,KT G,Lz,Kc];rfl
   have hln:(Ag nx n++(row.take r).map (fun x:cE=>(x.1,(n:Int)))).length=gA nx n+r:=by
    rw[Lg,Ln,Lv,I];omega
   obtain⟨oo,oc,rfl⟩:=hf.o.val;have m:=fun g o=>hf.o.lt g o
   refine Q6 ?_;refine eC (i:=r) rfl rfl rfl rfl rfl (hrF c) G O_ (fun u q P=>?_);rw[CV P];clear P;generalize row[r]=ed at*
   skip;refine WL.alloc rfl rfl (fun w5 f e5=>?_);skip;refine WL.st rfl rfl rfl f rfl rfl Pk (fun k f l=>?_);have e6:Ext w4 k:=JB e5 l e5.size Pb;have z6:=e6.size;have a:=a.ext e6;have hf:=hf.ext e6;have c:=c.trans (Chg.of_ext _ e6);have l6:=f.lt;clear e5 l;have p:Ext k (drew k):=Ext.drew k;have C:=a.ext p;have hb6d:=f.ext p;generalize hOV:Ag nx n++(row.take r).map (fun x:cE=>(x.1,(n:Int)))=OV at*
   have hKs:∀u,(fun z:World=>∀b,b<k.heap.size→(Value.slice oo OV.length oc).ownBlock≠some b→z.heap[b]?=(drew k).heap[b]?) u→u.heap[sb]?=(drew k).heap[sb]?:=fun u h=>h _ O0 (fun e=>by have:=m _ e;omega)
   have hK6:∀u,(fun z:World=>∀b,b<k.heap.size→(Value.slice oo OV.length oc).ownBlock≠some b→z.heap[b]?=(drew k).heap[b]?) u→u.heap[w4.heap.size]?=(drew k).heap[w4.heap.size]?:=fun u h=>h _ O0 (fun e=>by have:=(m _ e).2.1;omega)
   refine PM ?_;refine aE (fun z:World=>∀b,b<k.heap.size→(Value.slice oo OV.length oc).ownBlock≠some b→z.heap[b]?=(drew k).heap[b]?) [(0,true),(1,true),(2,true),(3,true),(4,true),(5,true),(6,true),(7,true),(8,true),(9,false),(10,false),(11,false),(12,false)] 13 mixed O1 (fun _ _ _=>rfl) ?_;refine RF ?_;refine bV (α:=cE) (F:=cZ) (bytes:=16) (yv:=(ed.1,(n:Int))) rfl rfl rfl rfl O_ rfl rfl O_ (hf.o.extN p) (Rd.mkPr (c1:=[Pq ed.1]) (c2:=[Pq (n:Int)]) (CZ _ _ _) (CZ _ _ _)) (by have:=p.size;omega) Pc O2 O5 O0
    (fun z hz b a d=>hz.block b a (fun e=>d e.symm)) (fun ov' w7 q2 ho7 t Y=>?_)
   rw[←hnx]at ho7
   have M:=C.kept t (fun e=>by have:=m _ e.symm;omega);have hS7:(fun z:World=>∀b,b<k.heap.size→(Value.slice oo OV.length oc).ownBlock≠some b→z.heap[b]?=(drew k).heap[b]?) w7:=fun b a d=>t.block b a (fun e=>d e.symm)
   obtain⟨oo',oc',rfl⟩:=ho7.val;refine cr rfl (fh rfl rfl rfl (WL.nil (a_ hS7 ?_)));refine cr rfl (eG rfl rfl rfl (WL.nil (a_ hS7 (HL.nil ?_))));refine bp rfl (WL.st rfl rfl rfl M rfl rfl Pk (fun w8 hb8 hg8=>WL.nil (bu ?_)));obtain⟨hf8,hC8⟩:=(hf.ext p).setO rfl (c.trans (Chg.of_ext _ p)) ho7 t Y hg8;refine P6 ?_;exact EX.back (r+1,_) OZ ⟨G,hb8,hf8,hC8⟩ O4
  have hre:r=row.length:=by simp only[Ou]at h;omega
  subst hre;rw[Mf]at hf
  clear h;have hln:(Ag nx n++row.map (fun x:cE=>(x.1,(n:Int)))).length=gA nx n+row.length:=by
   rw[Lg,Ln,I]
  obtain⟨oo,oc,rfl⟩:=hf.o.val;have m:=fun g o=>hf.o.lt g o
  apply CW.exit
  repeat (first|apply bB|apply aZ|apply bz)
  refine aB (S:=Option Addr×Nat) (fun _=>[(0,Pr sb),(4,.slice V row.length rc),(11,.slice no nx.length y),(12,Pq nx.length),(13,Pq n)])
   (fun s w=>Blk w sb 78 [lV,mV,.slice no nx.length y,.slice s.1 (Ag nx (n+1)).length s.2,.slice ao' (gx nx (n+1)).length ac',yv,U,T,R,Q]∧Fld3 w w0.heap.size sb (.slice s.1 (Ag nx (n+1)).length s.2) (.slice ao' (gx nx (n+1)).length ac') yv (Ag nx (n+1)) (gx nx (n+1)) (yp nx n)∧Chg (fun b=>b=sb) w0 w) ?_ ?_
  ·by_cases h0:row=[]
   ·have H:Ag nx (n+1)=(Ag nx n++row.map (fun x:cE=>(x.1,(n:Int))))++[(-1,(n:Int))]:=by
     rw[X];unfold Ai;rw[OE h0,h0];simp
    have J:((row.length:Int)==0)=true:=by rw[h0];rfl
    generalize Ag nx n++row.map (fun x:cE=>(x.1,(n:Int)))=OV at*
    refine QZ ?_;rw[J];refine QH ?_;refine WL.build rfl rfl rfl rfl ?_;refine dW (α:=cE) (F:=cZ) (bytes:=16) (yv:=(-1,(n:Int))) rfl rfl O_ rfl rfl O_ hf.o (Rd.mkPr (c1:=[Pq (-1)]) (c2:=[Pq (n:Int)]) (CZ _ _ _) (CZ _ _ _)) z4 Pc O2 O5 O0 (fun ov' w5 q ho5 hg5 hnb5=>?_);rw[←H]at ho5
    have hb5:=a.kept hg5 (fun e=>by have:=m _ e.symm;omega);obtain⟨oo',oc',rfl⟩:=ho5.val;refine Re ?_;refine WL.st rfl rfl rfl hb5 rfl rfl Pk (fun k f l=>?_);obtain⟨hf6,hC6⟩:=hf.setO rfl c ho5 hg5 hnb5 l;refine PS ?_;exact aU (oo',oc') OZ ⟨f,hf6,hC6⟩
   ·have H:Ag nx (n+1)=Ag nx n++row.map (fun x:cE=>(x.1,(n:Int))):=by
     rw[X];unfold Ai;rw[OD h0]
    have J:((row.length:Int)==0)=false:=by
     have:0<row.length:=Lp.2 h0;have:(row.length:Int)≠0:=by omega
     simpa using this
    rw[←H]at hf a
    refine QZ ?_;rw[J];refine QY ?_;exact aU (oo,oc) OZ ⟨a,hf,c⟩
  clear a hf m c z4;rintro⟨oo,oc⟩ w5 ⟨a,hf,c⟩
  dsimp only at a hf c
  have z5:=c.size;obtain⟨yo,yc,rfl⟩:=hf.y.val;have hly:=fun g o=>hf.y.lt g o
  have hyl:(yp nx n).length=n:=manyL_len;refine Qz ?_;refine eX rfl rfl rfl rfl ?_;rw[show max (1:Int) (row.length:Int)=((max 1 row.length:Nat):Int) by omega];refine dW (α:=Int) (F:=cZ) (bytes:=8) (yv:=((max 1 row.length:Nat):Int)) rfl rfl O_ rfl rfl O_ hf.y Pl z5 Pc O2 O5 O0 (fun yv' k q ho6 l Z=>?_);rw[←hmn]at ho6
  have f:=a.kept l (fun e=>by have:=hly _ e.symm;omega);obtain⟨yo',yc',rfl⟩:=ho6.val;refine Re ?_;refine WL.st rfl rfl rfl f rfl rfl Pk (fun w7 M t=>?_);obtain⟨hf7,hC7⟩:=hf.setY rfl c ho6 l Z t;refine P6 ?_;exact EX.back (n+1,_,_,_) OZ ⟨L,M,hf7,hC7⟩ O4
 have d:n=nx.length:=by simp only[Ou]at h;omega
 subst d;have hde:decide (((gA nx nx.length:Nat):Int)≤600)=decide (gA nx nx.length≤600):=by
  by_cases h:gA nx nx.length≤600
  ·rw[Ov h,Ov O0]
  ·rw[Ot h,Ot O0]
 rw[←hde];refine Qo ?_;exact be rfl rfl ⟨rfl,_,_,_,a,hf,c⟩
theorem Df{fn:Func}{a u s:Nat}{t:TypeId}(h:fn.results=#[.cell a t,.tmp u,.tmp s])(tmps:Array Value)(P:Program)(w:World){p:Addr}{v:Value}(b:tmps.getD a undef=.pointer (some p))(c:(loadVar t p).run P w=.ok v w):
  (results fn tmps).run P w=.ok (.tuple ⟨[v,tmps.getD u undef,tmps.getD s undef]⟩) w:=by
 simp only[Jn]at b⊢
 simp[results,h,b,asAddr,c]
theorem bi{P:Program}{n:Nat}{σ:Sg}{w:World}{fn:Func}{a b u s:Nat}{t e:TypeId}{cells:List Value}{k:Nat}{x y:Value}{R:Value→World→Prop}(o:fn.results=#[.cell a t,.tmp u,.tmp s])(r:fnd σ a=some (Pr b))(g:fnd σ u=some x)(m:fnd σ s=some y)[p:IsC P t k true](q:Blk w b e cells)(l:xz cells=k)(h:R (.tuple ⟨[.agg cells.toArray,x,y]⟩) w):
  EX (bodyPost P fn fun e w'=>∃v,e=.returned v∧R v w') .ret n σ w:=by
 unfold EX;intro ac c
 refine On (Df o _ _ _ (c.slot a _ r) (v:=.agg cells.toArray) ?_) c.defers ⟨_,by rw[c.slot u x g,c.slot s y m],h⟩;rw[xA]at l
 have d:=OM (P:=P) w ⟨b,0,none⟩ cells (fun j u g=>by rw[Od,M8];exact q.cell g);obtain⟨i,dd,h1,h2,h3,h4⟩:=p.ok;have f:(isAgg t).run P w=.ok true w:=by
  unfold isAgg;rw[Nr,OP h3 w,←h4];cases dd<;>rfl
 rw[l]at d
 simp[loadVar,f,sizeOf,typeInfo,h1,h2,d]
structure WorldAt(w:World)(F:Nat→Prop)(v:Value)(A:cO):Prop where
 ok:∃a1 c1 a2 c2 a3 c3 a4 c4,v=IW a1 c1 a2 c2 a3 c3 a4 c4 A.1.length A.2.1.length A.2.2.1.length A.2.2.2.length∧Sl w F a1 c1 A.1∧Sl w F a2 c2 A.2.1∧Sl w F a3 c3 A.2.2.1∧Sl w F a4 c4 A.2.2.2
theorem CH{α:Type}{f:Nat→α}{n:Nat}:(List.range (n+1)).map f=(List.range n).map f++[f n]:=by rw[L7,Lz];rfl
theorem zi(w:World)(F:Nat→Prop):WorldAt w F (.agg #[.slice none 0 0,.slice none 0 0,.slice none 0 0,.slice none 0 0]) zh:=
 ⟨none,0,none,0,none,0,none,0,rfl,Sl.zero w _,Sl.zero w _,Sl.zero w _,Sl.zero w _⟩
set_option maxHeartbeats 4000000 in
theorem Ef(w0:World){so fo:Option Addr}{sc fc:Nat}{ns:List cG}{fl:List cF}(hs:Sl w0 (c7 w0) so sc ns)(hf:Sl w0 (c7 w0) fo fc fl)(tok st:Int):
  Rt Tryz.prog 8 [Cl so sc fo fc ns.length fl.length,Pq tok,Pq st].toArray w0 fun v w'=>(∃x oo oc,v=.tuple ⟨[x,.slice oo (Ec (ns,fl) tok st).1.2.length oc,Pq (Ec (ns,fl) tok st).2]⟩∧WorldAt w' (c7 w') x (Ec (ns,fl) tok st).1.1∧Sl w' (c7 w') oo oc (Ec (ns,fl) tok st).1.2)∧Ext w0 w':=by
 refine dF Tryz.func8 Tryz.ntmps8 rfl rfl ?_;have U:=Ext.refl w0;refine Pu ?_;refine dX rfl rfl rfl fun w1 Y e1=>?_
 have U:=U.trans e1;skip;refine WL.alloc rfl rfl (fun w2 C e2=>?_);have Y:=Y.ext e2;have U:=U.trans e2;have l1:=Y.lt;have l2:=C.lt;have z1:=e1.size;unfold Ec;refine Q0 ?_;refine WL.call rfl rfl rfl (bE w2 (hs.up U) (hf.up U) tok st) ?_;rintro _ w3 ⟨mv,nv,rfl,hmv,hnv,e3⟩
 have Y:=Y.ext e3;have C:=C.ext e3;have U:=U.trans e3;have hnx:=oe (p:=(ns,fl)) (tok:=tok) (st:=st);have hexl:=od (p:=(ns,fl)) (tok:=tok) (st:=st);generalize nZ (ns,fl) tok st=r1 at*
 obtain⟨⟨ml,nx⟩,x1⟩:=r1;dsimp only at hmv hnv hnx hexl⊢
 obtain⟨mo,mc,rfl,hms⟩:=hmv.sl;obtain⟨no,nc,rfl,hns⟩:=hnv.sl;clear hmv hnv;refine Ra ?_;refine WL.alloc rfl rfl (fun w4 hb9 e4=>?_);skip;refine WL.st rfl rfl rfl hb9 rfl rfl Pk (fun i hb9 hg5=>?_);have e5:Ext w3 i:=JB e4 hg5 e4.size Pb;have Y:=Y.ext e5;have C:=C.ext e5;have U:=U.trans e5;have hns:=hns.up e5;have z3:=e3.size;have z5:=e5.size;clear e1 e2 e3 e4 e5 hg5 hms;by_cases hx:x1=0
 case neg=>
  have d:(x1 != 0)=true:=by simpa using hx
  rw[OE hx];refine Qm ?_;rw[d];refine Qu ?_;refine WL.build (parts:=[]) rfl rfl rfl rfl ?_;refine Ra ?_;refine WL.st rfl rfl rfl C rfl rfl Pk (fun w6 C hg6=>?_);have hE6:Ext w0 w6:=U.grown hg6 U.size Pd;refine PK ?_;exact bi rfl rfl rfl rfl C rfl ⟨⟨_,none,0,rfl,zi _ _,Sl.zero _ _⟩,hE6⟩
 subst hx;have hN:=hnx rfl;have hst0:=(hexl rfl).1;rw[OD O3];clear hnx hexl;refine QI ?_;refine WL.build rfl rfl rfl rfl ?_;skip;refine dX rfl rfl rfl fun w6 hsb e6=>?_
 have Y:=Y.ext e6;have C:=C.ext e6;have U:=U.trans e6;have hns6:Sl w6 (c7 i) no nc nx:=hns.at e6;have z6:=e6.size;have l6:=hsb.lt;refine Q0 ?_;refine WL.call rfl rfl rfl (c6 w6 (hs.up U) (hf.up U)) ?_;rintro _ w7 ⟨lv,rfl,hlo,e7⟩
 have C:=C.ext e7;have hsb:=hsb.ext e7;have U:=U.trans e7;have z7:=e7.size;have hll:=fun g a=>hlo.lt g a
 generalize (FX (ns,fl)).1=sl at*
 obtain⟨lo,lc,rfl⟩:=hlo.val;obtain⟨lo',lc',el,hls⟩:=hlo.sl;obtain⟨rfl,_,rfl⟩:=Oc el;refine Rn ?_;refine WL.st rfl rfl rfl hsb rfl rfl Pk (fun w8 hsb hg8=>?_);have z8:=hg8.size;have l8:=hsb.lt;have hb68:=C.kept hg8 Ph;have hE8:Ext w0 w8:=U.grown hg8 U.size Pd;have hk8:∀b,b<w7.heap.size→b≠i.heap.size→w8.heap[b]?=w7.heap[b]?:=fun b d E=>hg8.block b d (fun e=>E (Nj e))
 have hls8:Sl w8 (fun b=>b<w8.heap.size∧b≠i.heap.size) lo lc sl:=hls.mono (fun b d=>d.elim (fun h=>h.elim) (fun h=>hk8 b (hll b h).2.1 (by have:=(hll b h).1;omega))) (fun b d=>d.elim (fun h=>h.elim) (fun h=>⟨by have:=(hll b h).2.1;omega,by have:=(hll b h).1;omega⟩));have hns8:Sl w8 (c7 i) no nc nx:=hns6.mono (fun b d=>by
  have d:b<i.heap.size:=d;exact(hk8 b O0 O0).trans (e7.block b O0)) Pe
 clear hk8 e7 hls hns hns6 hlo hll C U;refine Qm ?_;refine WL.call rfl rfl rfl (FU w8 hsb hns8 (fun b d=>by
  have d:b<i.heap.size:=d;exact⟨by omega,by omega⟩) hN.row hN.n) ?_
 rintro _ o ⟨rfl,ov,av,yv,hsb9,T,hC9⟩
 have z9:=hC9.size;have l9:=hsb9.lt;have hb69:Blk o _ _ _:=(hC9.block _ O0 (fun h=>by omega)).trans hb68;have hE9:Ext w0 o:=Chg.ext hE8 hC9 (fun b d=>by subst d;omega);have q1:Sl o (Fz o (fun b=>b=i.heap.size)) lo lc sl:=Sl.fz (M:=fun b=>b=i.heap.size) hls8 hC9 (fun b h=>.inl h);have q2:Sl o (Fz o (fun b=>b=i.heap.size)) no nc nx:=Sl.fz (M:=fun b=>b=i.heap.size) (hns8.mono Pj (fun b d=>by
  have d:b<i.heap.size:=d;exact⟨by omega,by omega⟩)) hC9 (fun b h=>.inl h)
 obtain⟨oo,oc,rfl,q3⟩:=T.o.slF (F':=fun b=>w8.heap.size≤b∧b<o.heap.size) Pc (fun g a=>⟨(T.o.lt g a).1,(T.o.lt g a).2.1⟩);obtain⟨ao,ac,rfl,q4⟩:=T.a.slF (F':=fun b=>w8.heap.size≤b∧b<o.heap.size) Pc (fun g a=>⟨(T.a.lt g a).1,(T.a.lt g a).2.1⟩);obtain⟨yo,yc,rfl,q5⟩:=T.y.slF (F':=fun b=>w8.heap.size≤b∧b<o.heap.size) Pc (fun g a=>⟨(T.y.lt g a).1,(T.y.lt g a).2.1⟩);rw[atL_len,manyL_len,show(Ag nx nx.length).length=gA nx nx.length from rfl]at hsb9
 have hmk:∀{w:World} {x1 x2 x3 x4:Value},Chg (fun b=>b=i.heap.size) o w→Blk w i.heap.size 78 [.slice lo sl.length lc,.agg [.slice mo ml.length mc,.slice no nx.length nc].toArray,.slice no nx.length nc,.slice oo (gA nx nx.length) oc,.slice ao nx.length ac,.slice yo nx.length yc,x1,x2,x3,x4]→True:=fun _ _=>trivial
 have hrun:∀{w:World} {mv x1 x2 x3 x4:Value},Chg (fun b=>b=i.heap.size) o w→Blk w i.heap.size 78 [.slice lo sl.length lc,mv,.slice no nx.length nc,.slice oo (gA nx nx.length) oc,.slice ao nx.length ac,.slice yo nx.length yc,x1,x2,x3,x4]→RunAt w i.heap.size sl nx:=fun {w} {mv} {x1} {x2} {x3} {x4} hC d=>by
  have hk:∀b,w8.heap.size≤b∧b<o.heap.size→w.heap[b]?=o.heap[b]?:=fun b d=>hC.block b d.2 (fun h=>by omega)
  have hl:∀b,w8.heap.size≤b∧b<o.heap.size→c7 w b:=fun b d=>MK d.2 hC.size
  exact⟨lo,lc,mv,no,nc,oo,oc,ao,ac,yo,yc,x1,x2,x3,x4,d,(q1.fz hC (fun b h=>.inl h)).old',(q2.fz hC (fun b h=>.inl h)).old',q3.mono hk hl,q4.mono hk hl,q5.mono hk hl⟩
 clear hmk T hC9 hsb hb68 hls8 hns8;have hat:=gB hN.row nx.length;have hn200:=hN.n;have hsl:=hN.sl;by_cases h600:gA nx nx.length≤600
 case neg=>
  rw[Ot h600,OE O0];refine Q5 ?_;refine WL.build (parts:=[]) rfl rfl rfl rfl ?_;skip;refine WL.st rfl rfl rfl hb69 rfl rfl Pk (fun r C hg6=>?_);have hE6:Ext w0 r:=hE9.grown hg6 hE9.size Pd;refine PK ?_;exact bi rfl rfl rfl rfl C rfl ⟨⟨_,none,0,rfl,zi _ _,Sl.zero _ _⟩,hE6⟩
 rw[Ov h600,OD O0];generalize hNN:gA nx nx.length=NN at*
 refine QD ?_;refine CW.loop (S:=Nat×Value×Value×List Raw) (fun s=>[(6,Pr w1.heap.size),(11,Pr i.heap.size),(44,Pq (NN:Nat)),(45,Pq s.1)])
  (fun s w=>s.1≤NN∧Blk w i.heap.size 78 [.slice lo sl.length lc,.slice mo ml.length mc,.slice no nx.length nc,.slice oo NN oc,.slice ao nx.length ac,.slice yo nx.length yc,.slice none 0 0,s.2.1,s.2.2.1,.slice none 0 0]∧Own w o.heap.size 39 cZ s.2.1 s.2.2.2∧
   InnR w (fun b=>b=i.heap.size∨s.2.1.ownBlock=some b∨s.2.2.1.ownBlock=some b∨b<o.heap.size) s.2.2.2 ((List.range s.1).map (za nx))∧Own w o.heap.size 82 cZ s.2.2.1 ((List.range s.1).map (xg sl nx))∧(∀g,s.2.1.ownBlock=some g→s.2.2.1.ownBlock≠some g)∧Chg (fun b=>b=i.heap.size) o w)
  (fun s=>NN -s.1) (0,.slice none 0 0,.slice none 0 0,[]) OZ ⟨M9 _,hsb9,Own.nil,InnR.nil,Own.nil,(fun g a=>by cases a),Chg.refl _ _⟩ ?_
 rintro⟨j,nv,lbv,vs⟩ r ⟨hj0,D,hon,inn,hol,hdis,A⟩
 dsimp only at hj0 D hon inn hol hdis A⊢
 have z10:=A.size;have hln:=fun g a=>hon.lt g a
 have H:=fun g a=>hol.lt g a
 have hvl:vs.length=j:=by rw[inn.len];simp
 obtain⟨nvo,nvc,rfl⟩:=hon.val;obtain⟨lbo,lbc,rfl⟩:=hol.val;refine Qm ?_;apply CW.cond rfl<;>intro h
 ·have hj:j<NN:=by simp only[Ow]at h;omega
  clear h;have hD:Ext r (drew r):=Ext.drew r;have K:=D.ext hD;have hKs:∀u,(fun z:World=>∀b,b<r.heap.size→(Value.slice nvo vs.length nvc).ownBlock≠some b→z.heap[b]?=(drew r).heap[b]?) u→u.heap[i.heap.size]?=(drew r).heap[i.heap.size]?:=fun u h=>h _ O0 (fun e=>by have:=hln _ e;omega)
  refine PL ?_;refine aE (fun z:World=>∀b,b<r.heap.size→(Value.slice nvo vs.length nvc).ownBlock≠some b→z.heap[b]?=(drew r).heap[b]?) [(0,true),(1,true),(2,true),(3,true),(4,true),(5,true),(6,true),(7,true),(8,false),(9,false),(10,false),(11,false),(12,false),(13,false)] 14 mixed O1 (fun _ _ _=>rfl) ?_;refine RC ?_;refine cr rfl (WL.call rfl rfl rfl (Ds (drew r) ((hrun A D).up hD) hN (by rw[hNN];exact hj)) ?_);rintro rv w11 ⟨hro,I⟩
  have J:=hD.trans I;have z11:=J.size;have hlr:=fun g a=>hro.lt g a
  obtain⟨ro,rc,rfl⟩:=hro.val;refine WL.nil (a_ (fun b d _=>I.block b d) ?_);refine bV (α:=Raw) (F:=cZ) (bytes:=24) (yv:=(⟨.slice ro (za nx j).length rc⟩:Raw)) rfl rfl rfl rfl O_ rfl rfl O_ (hon.extN J) (Rd.mkRaw _ _ _ rfl) O0 Pc O2 O5 O0
   (fun z hz b d E=>(hz.block b O0 (fun e=>E e.symm)).trans (I.block b d)) (fun nv' G q12 ho12 l hnb12=>?_)
  have P:=(K.ext I).kept l (fun e=>by have:=hln _ e.symm;omega);have z12:=l.size;have hS12:(fun z:World=>∀b,b<r.heap.size→(Value.slice nvo vs.length nvc).ownBlock≠some b→z.heap[b]?=(drew r).heap[b]?) G:=fun b d E=>(l.block b O0 (fun e=>E e.symm)).trans (I.block b d)
  obtain⟨nvo',nvc',rfl⟩:=ho12.val;refine cr rfl (fh rfl rfl rfl (WL.nil (a_ hS12 ?_)));refine cr rfl (eG rfl rfl rfl (WL.nil (a_ hS12 ?_)));refine cr rfl (eG rfl rfl rfl (WL.nil (a_ hS12 (HL.nil ?_))));refine bp rfl (WL.st rfl rfl rfl P rfl rfl Pk (fun c t V=>WL.nil (bu ?_)));have z13:=V.size;have hnn:∀g,(Value.slice nvo' (vs++[(⟨.slice ro (za nx j).length rc⟩:Raw)]).length nvc').ownBlock=some g→g≠i.heap.size∧o.heap.size≤g:=fun g a=>⟨fun e=>by have:=(ho12.lt g a).1;omega,(ho12.lt g a).1⟩
  have hon13:=ho12.keptN V (fun g a e=>(hnn g a).1 (Nj e));have hol13:=((hol.extN J).keptN l (fun g a e=>hdis g e.symm a)).keptN V (fun g a e=>by have:=Nj e;have:=H g a;omega);have hdis13:∀g,(Value.slice nvo' (vs++[(⟨.slice ro (za nx j).length rc⟩:Raw)]).length nvc').ownBlock=some g→(Value.slice lbo ((List.range j).map (xg sl nx)).length lbc).ownBlock≠some g:=fun g a e=>by
   rcases hnb12 g a with h|h
   ·exact hdis g h e
   ·have:=(H g e).2.1;omega
  have y:Chg (fun b=>b=i.heap.size) o c:=((A.trans (Chg.of_ext _ J)).then (Chg.of_grown l) (fun b h=>.inr (hln b h).1)).grown V (fun g a=>by cases a;rfl);have W:Rd w11 (Fz w11 (fun b=>b=i.heap.size∨(Value.slice nvo vs.length nvc).ownBlock=some b∨(Value.slice lbo ((List.range j).map (xg sl nx)).length lbc).ownBlock=some b∨b<o.heap.size)) (.slice ro (za nx j).length rc) (za nx j):=
   hro.rd.mono Pj (fun g a=>a.elim (fun h=>h.elim) (fun a=>⟨(hlr g a).2.1,fun h=>by
    have h1:r.heap.size≤g:=(hlr g a).1;rcases h with h|h|h|h
    ·omega
    ·have:=(hln g h).2.1;omega
    ·have:=(H g h).2.1;omega
    ·omega⟩))
  have inn11:=(inn.to (Chg.of_ext _ J) (fun b h=>.inl h)).push W;have hC1113:Chg (fun b=>b=i.heap.size∨(Value.slice nvo vs.length nvc).ownBlock=some b∨(Value.slice lbo ((List.range j).map (xg sl nx)).length lbc).ownBlock=some b∨b<o.heap.size) w11 c:=((Chg.of_grown l).wk (fun b h=>.inr (.inl h))).grown V Pi;have inn13:=inn11.to hC1113 (M':=fun b=>b=i.heap.size∨(Value.slice nvo' (vs++[(⟨.slice ro (za nx j).length rc⟩:Raw)]).length nvc').ownBlock=some b∨(Value.slice lbo ((List.range j).map (xg sl nx)).length lbc).ownBlock=some b∨b<o.heap.size) (fun b h=>by
   rcases h with h|h|h|h
   ·exact .inl (.inl h)
   ·exact(hnb12 b h).imp (fun h=>.inr (.inl h)) id
   ·exact .inl (.inr (.inr (.inl h)))
   ·exact .inl (.inr (.inr (.inr h))))
  rw[←CH]at inn13
  have hln13:=fun g a=>hon13.lt g a
  clear hKs hS12 hD K I J hlr hro P l V hnb12 ho12 W inn11 hC1113 inn hon hol hdis hnn A D hln;apply bz;have hD:Ext c (drew c):=Ext.drew c;have K:=t.ext hD;have hKs:∀u,(fun z:World=>∀b,b<c.heap.size→(Value.slice lbo ((List.range j).map (xg sl nx)).length lbc).ownBlock≠some b→z.heap[b]?=(drew c).heap[b]?) u→u.heap[i.heap.size]?=(drew c).heap[i.heap.size]?:=fun u h=>h _ O0 (fun e=>by have:=H _ e;omega)
  have hlbl:((List.range j).map (xg sl nx)).length=j:=by simp
  skip;refine aE (fun z:World=>∀b,b<c.heap.size→(Value.slice lbo ((List.range j).map (xg sl nx)).length lbc).ownBlock≠some b→z.heap[b]?=(drew c).heap[b]?) [(0,true),(1,true),(2,true),(3,true),(4,true),(5,true),(6,true),(7,true),(8,false),(9,false),(10,false),(11,false),(12,false),(13,false)] 14 mixed O1 (fun _ _ _=>rfl) ?_;refine RC ?_;refine cr rfl (WL.call rfl rfl rfl (Dp (drew c) ((hrun y t).up hD) hN (by rw[hNN];exact hj)) ?_);rintro _ B ⟨rfl,hlt64,R⟩
  have n:=hD.trans R;have z14:=n.size;refine WL.nil (a_ (fun b d _=>R.block b d) ?_);refine bV (α:=Nat) (F:=cZ) (bytes:=8) (yv:=xg sl nx j) rfl rfl rfl rfl O_ rfl rfl O_ (hol13.extN n) ⟨_,rfl,C0 _ _ _ hlt64⟩ O0 Pc O2 O5 O0
   (fun z hz b d E=>(hz.block b O0 (fun e=>E e.symm)).trans (R.block b d)) (fun lb' w15 q15 L q X=>?_)
  rw[←CH]at L
  have hsb15:=(K.ext R).kept q (fun e=>by have:=H _ e.symm;omega);have z15:=q.size;have Q:(fun z:World=>∀b,b<c.heap.size→(Value.slice lbo ((List.range j).map (xg sl nx)).length lbc).ownBlock≠some b→z.heap[b]?=(drew c).heap[b]?) w15:=fun b d E=>(q.block b O0 (fun e=>E e.symm)).trans (R.block b d)
  obtain⟨lbo',lbc',rfl⟩:=L.val;refine cr rfl (fh rfl rfl rfl (WL.nil (a_ Q ?_)));refine cr rfl (eG rfl rfl rfl (WL.nil (a_ Q ?_)));refine cr rfl (eG rfl rfl rfl (WL.nil (a_ Q (HL.nil ?_))));refine bp rfl (WL.st rfl rfl rfl hsb15 rfl rfl Pk (fun w16 hsb16 N=>WL.nil (bu ?_)));have hol16:=L.keptN N (fun g a e=>by have:=Nj e;have:=(L.lt g a).1;omega);have hon16:=((hon13.extN n).keptN q (fun g a e=>hdis13 g a e.symm)).keptN N (fun g a e=>by have:=Nj e;have:=hln13 g a;omega);have hC16:Chg (fun b=>b=i.heap.size) o w16:=((y.trans (Chg.of_ext _ n)).then (Chg.of_grown q) (fun b h=>.inr (H b h).1)).grown N (fun g a=>by cases a;rfl);have Z:Chg (fun b=>b=i.heap.size∨(Value.slice nvo' (vs++[(⟨.slice ro (za nx j).length rc⟩:Raw)]).length nvc').ownBlock=some b∨(Value.slice lbo ((List.range j).map (xg sl nx)).length lbc).ownBlock=some b∨b<o.heap.size) B w16:=((Chg.of_grown q).wk (fun b h=>.inr (.inr (.inl h)))).grown N Pi;have inn16:=(inn13.to (Chg.of_ext _ n) (fun b h=>.inl h)).to Z (M':=fun b=>b=i.heap.size∨(Value.slice nvo' (vs++[(⟨.slice ro (za nx j).length rc⟩:Raw)]).length nvc').ownBlock=some b∨(Value.slice lbo' ((List.range (j+1)).map (xg sl nx)).length lbc').ownBlock=some b∨b<o.heap.size) (fun b h=>by
   rcases h with h|h|h|h
   ·exact .inl (.inl h)
   ·exact .inl (.inr (.inl h))
   ·exact(X b h).imp (fun h=>.inr (.inr (.inl h))) id
   ·exact .inl (.inr (.inr (.inr h))))
  have hdis16:∀g,(Value.slice nvo' (vs++[(⟨.slice ro (za nx j).length rc⟩:Raw)]).length nvc').ownBlock=some g→(Value.slice lbo' ((List.range (j+1)).map (xg sl nx)).length lbc').ownBlock≠some g:=fun g a e=>by
   rcases X g e with h|h
   ·exact hdis13 g a h
   ·have:=(hln13 g a).2.1;omega
  refine P6 ?_;exact EX.back (j+1,_,_,_) OZ ⟨hj,hsb16,hon16,inn16,hol16,hdis16,hC16⟩ O4
 have hje:j=NN:=by simp only[Ou]at h;omega
 subst hje;clear h;have hC10':=A;have hR10:=hrun A D;have hb610:Blk r _ _ _:=(A.block _ O0 (fun h=>by omega)).trans hb69;have hE10:Ext w0 r:=Chg.ext hE9 A (fun b d=>by subst d;omega);refine Qh ?_;refine WL.call rfl rfl rfl (f_ r (m:=0) hR10 hN hN.pos) ?_;rintro sv w11 ⟨hos,I⟩
 have hsb11:=D.ext I;have z11:=I.size;have hlos:=fun g a=>hos.lt g a
 obtain⟨sto,stc,rfl⟩:=hos.val;refine Re ?_;refine WL.st rfl rfl rfl hsb11 rfl rfl Pk (fun G P l=>?_);have z12:=l.size;have O:Chg (fun b=>b=i.heap.size) r G:=(Chg.of_ext _ I).grown l (fun g a=>by cases a;rfl);have hC12:=A.trans O;have hb612:Blk G _ _ _:=(O.block _ O0 (fun h=>by omega)).trans hb610;have hE12:Ext w0 G:=Chg.ext hE10 O (fun b d=>by subst d;omega);have hon12:=(hon.extN I).keptN l (fun g a e=>by have:=Nj e;have:=hln g a;omega);have hol12:=(hol.extN I).keptN l (fun g a e=>by have:=Nj e;have:=H g a;omega);have hos12:=hos.keptN l (fun g a e=>by have:=Nj e;have:=hlos g a;omega);have inn12:=inn.to (O.wk (M':=fun b=>b=i.heap.size∨(Value.slice nvo vs.length nvc).ownBlock=some b∨(Value.slice lbo ((List.range j).map (xg sl nx)).length lbc).ownBlock=some b∨b<o.heap.size) (fun b h=>.inl h)) (fun b h=>.inl h);obtain⟨nvo2,nvc2,en,s2⟩:=inn12.sl (F:=Fz G (fun b=>b=i.heap.size∨b<o.heap.size)) hon12 (fun b d=>⟨d.1,fun h=>d.2 (h.elim .inl fun h=>.inr (.inr (.inr h)))⟩) (fun g a=>⟨(hon12.lt g a).2.1,fun h=>by have:=(hln g a).1;rcases h with h|h<;>omega⟩);obtain⟨rfl,hnlen,rfl⟩:=Oc en;obtain⟨lbo2,lbc2,en2,s3⟩:=hol12.slF (F':=Fz G (fun b=>b=i.heap.size∨b<o.heap.size)) Pc (fun g a=>⟨(hol12.lt g a).2.1,fun h=>by have:=(H g a).1;rcases h with h|h<;>omega⟩);obtain⟨rfl,_,rfl⟩:=Oc en2;obtain⟨sto2,stc2,en3,s1⟩:=hos12.slF (F':=Fz G (fun b=>b=i.heap.size∨b<o.heap.size)) Pc (fun g a=>⟨(hos12.lt g a).2.1,fun h=>by have:=(hlos g a).1;rcases h with h|h<;>omega⟩);obtain⟨rfl,_,rfl⟩:=Oc en3;rw[hnlen]at P
 clear hon hol hos inn hdis hC10' hon12 hol12 hos12 inn12 hln H hlos en en2 en3 hR10 D hsb11 I l hE10 hb610 A;refine Qz ?_;refine CW.loop (S:=Nat×Value×List Raw) (fun s=>[(6,Pr w1.heap.size),(11,Pr i.heap.size),(87,Pq sl.length),(88,Pq s.1)])
  (fun s w=>s.1≤sl.length∧Blk w i.heap.size 78 [.slice lo sl.length lc,.slice mo ml.length mc,.slice no nx.length nc,.slice oo j oc,.slice ao nx.length ac,.slice yo nx.length yc,.slice sto (fW nx 0).length stc,.slice nvo ((List.range j).map (za nx)).length nvc,.slice lbo ((List.range j).map (xg sl nx)).length lbc,s.2.1]∧Own w G.heap.size 39 cZ s.2.1 s.2.2∧
   InnR w (fun b=>b=i.heap.size∨s.2.1.ownBlock=some b∨b<o.heap.size) s.2.2 ((List.range s.1).map fun k:Nat=>ot nx (k:Int))∧Chg (fun b=>b=i.heap.size) G w)
  (fun s=>sl.length -s.1) (0,.slice none 0 0,[]) OZ ⟨M9 _,P,Own.nil,InnR.nil,Chg.refl _ _⟩ ?_
 rintro⟨k,fv,ws⟩ c ⟨hk0,t,hof,inf,y⟩
 dsimp only at hk0 t hof inf y⊢
 have z13:=y.size;have hlf:=fun g a=>hof.lt g a
 have hwl:ws.length=k:=by rw[inf.len];simp
 obtain⟨fvo,fvc,rfl⟩:=hof.val;refine Qm ?_;apply CW.cond rfl<;>intro h
 ·have hk:k<sl.length:=by simp only[Ow]at h;omega
  clear h;have hD:Ext c (drew c):=Ext.drew c;have K:=t.ext hD;have hKs:∀u,(fun z:World=>∀b,b<c.heap.size→(Value.slice fvo ws.length fvc).ownBlock≠some b→z.heap[b]?=(drew c).heap[b]?) u→u.heap[i.heap.size]?=(drew c).heap[i.heap.size]?:=fun u h=>h _ O0 (fun e=>by have:=hlf _ e;omega)
  refine PL ?_;refine aE (fun z:World=>∀b,b<c.heap.size→(Value.slice fvo ws.length fvc).ownBlock≠some b→z.heap[b]?=(drew c).heap[b]?) [(0,true),(1,true),(2,true),(3,true),(4,true),(5,true),(6,true),(7,true),(8,false),(9,false),(10,false),(11,false),(12,false),(13,false)] 14 mixed O1 (fun _ _ _=>rfl) ?_;refine RC ?_;refine cr rfl (WL.call rfl rfl rfl (oE (drew c) (k:=k) ((hrun (hC12.trans y) t).up hD) hN) ?_);rintro rv B ⟨hro,R⟩
  have n:=hD.trans R;have z14:=n.size;have hlr:=fun g a=>hro.lt g a
  obtain⟨ro,rc,rfl⟩:=hro.val;refine WL.nil (a_ (fun b d _=>R.block b d) ?_);refine bV (α:=Raw) (F:=cZ) (bytes:=24) (yv:=(⟨.slice ro (ot nx (k:Int)).length rc⟩:Raw)) rfl rfl rfl rfl O_ rfl rfl O_ (hof.extN n) (Rd.mkRaw _ _ _ rfl) O0 Pc O2 O5 O0
   (fun z hz b d E=>(hz.block b O0 (fun e=>E e.symm)).trans (R.block b d)) (fun fv' w15 q15 L q X=>?_)
  have hsb15:=(K.ext R).kept q (fun e=>by have:=hlf _ e.symm;omega);have z15:=q.size;have Q:(fun z:World=>∀b,b<c.heap.size→(Value.slice fvo ws.length fvc).ownBlock≠some b→z.heap[b]?=(drew c).heap[b]?) w15:=fun b d E=>(q.block b O0 (fun e=>E e.symm)).trans (R.block b d)
  obtain⟨fvo',fvc',rfl⟩:=L.val;refine cr rfl (fh rfl rfl rfl (WL.nil (a_ Q ?_)));refine cr rfl (eG rfl rfl rfl (WL.nil (a_ Q ?_)));refine cr rfl (eG rfl rfl rfl (WL.nil (a_ Q (HL.nil ?_))));refine bp rfl (WL.st rfl rfl rfl hsb15 rfl rfl Pk (fun w16 hsb16 N=>WL.nil (bu ?_)));have hof16:=L.keptN N (fun g a e=>by have:=Nj e;have:=(L.lt g a).1;omega);have hC16:Chg (fun b=>b=i.heap.size) G w16:=((y.trans (Chg.of_ext _ n)).then (Chg.of_grown q) (fun b h=>.inr (hlf b h).1)).grown N (fun g a=>by cases a;rfl);have W:Rd B (Fz B (fun b=>b=i.heap.size∨(Value.slice fvo ws.length fvc).ownBlock=some b∨b<o.heap.size)) (.slice ro (ot nx (k:Int)).length rc) (ot nx (k:Int)):=
   hro.rd.mono Pj (fun g a=>a.elim (fun h=>h.elim) (fun a=>⟨(hlr g a).2.1,fun h=>by
    have h1:c.heap.size≤g:=(hlr g a).1;rcases h with h|h|h
    ·omega
    ·have:=(hlf g h).2.1;omega
    ·omega⟩))
  have inf14:=(inf.to (Chg.of_ext _ n) (fun b h=>.inl h)).push W;have Z:Chg (fun b=>b=i.heap.size∨(Value.slice fvo ws.length fvc).ownBlock=some b∨b<o.heap.size) B w16:=((Chg.of_grown q).wk (fun b h=>.inr (.inl h))).grown N Pi;have inf16:=inf14.to Z (M':=fun b=>b=i.heap.size∨(Value.slice fvo' (ws++[(⟨.slice ro (ot nx (k:Int)).length rc⟩:Raw)]).length fvc').ownBlock=some b∨b<o.heap.size) (fun b h=>by
   rcases h with h|h|h
   ·exact .inl (.inl h)
   ·exact(X b h).imp (fun h=>.inr (.inl h)) id
   ·exact .inl (.inr (.inr h)))
  rw[←CH (f:=fun k:Nat=>ot nx (k:Int))]at inf16
  refine P6 ?_;exact EX.back (k+1,_,_) OZ ⟨hk,hsb16,hof16,inf16,hC16⟩ O4
 have hke:k=sl.length:=by simp only[Ou]at h;omega
 subst hke;clear h;obtain⟨fvo2,fvc2,en4,s4⟩:=inf.sl (F:=Fz c (fun b=>b=i.heap.size∨b<o.heap.size)) hof (fun b d=>⟨d.1,fun h=>d.2 (h.elim .inl fun h=>.inr (.inr h))⟩) (fun g a=>⟨(hof.lt g a).2.1,fun h=>by have:=(hlf g a).1;rcases h with h|h<;>omega⟩);obtain⟨rfl,hflen,rfl⟩:=Oc en4;rw[hflen]at t
 have hb613:Blk c _ _ _:=(y.block _ O0 (fun h=>by omega)).trans hb612;have hE13:Ext w0 c:=Chg.ext hE12 y (fun b d=>by subst d;omega);have hD:Ext c (drew c):=Ext.drew c;have K:=t.ext hD;have hb6d:=hb613.ext hD;have hKs:∀u,(fun z:World=>z.heap[i.heap.size]?=(drew c).heap[i.heap.size]?) u→u.heap[i.heap.size]?=(drew c).heap[i.heap.size]?:=fun u h=>h
 refine Qh ?_;refine aF (fun z:World=>z.heap[i.heap.size]?=(drew c).heap[i.heap.size]?) [(0,true),(1,true),(2,true),(3,true),(4,true),(5,true),(6,true),(7,true),(8,false),(9,true),(10,true)] mixed O1 rfl ?_;refine RD ?_;refine cf hKs rfl rfl rfl rfl K rfl ?_;refine RC ?_;refine cr rfl (WL.st rfl rfl rfl hb6d rfl rfl Pk (fun B hb14 hg14=>WL.nil (a_ ?_ ?_)))
 ·exact hg14.block _ (by have:=hD.size;omega) Ph
 refine RJ ?_;have z14:c.heap.size≤B.heap.size:=hg14.size;have hE14:Ext w0 B:=(hE13.trans hD).grown hg14 (by have:=hE13.size;have:=hD.size;omega) Pd;have hk13:∀b,b<c.heap.size→b≠w1.heap.size→B.heap[b]?=c.heap[b]?:=fun b d E=>hg14.block b d (fun e=>E (Nj e))
 have hfin:∀b,Fz G (fun b=>b=i.heap.size∨b<o.heap.size) b→B.heap[b]?=G.heap[b]?:=fun b d=>by
  have h1:o.heap.size≤b:=MD (fun hx=>d.2 (.inr hx));have h2:=d.1;exact(hk13 b O0 O0).trans (y.block b d.1 (fun h=>d.2 (.inl h)))
 have hle:∀b,Fz G (fun b=>b=i.heap.size∨b<o.heap.size) b→c7 B b:=fun b d=>(show b<B.heap.size by have:=d.1;omega)
 have hC913:=hC12.trans y;have s5:Sl B (c7 B) oo oc (Ag nx nx.length):=q3.mono (fun b d=>(hk13 b (by have:=d.2;omega) (by have:=d.1;omega)).trans (hC913.block b d.2 (fun h=>by have:=d.1;omega))) (fun b d=>(show b<B.heap.size by have:=d.2;omega));refine PJ ?_;subst hNN;exact bi rfl rfl rfl rfl hb14 rfl ⟨⟨_,oo,oc,rfl,⟨sto,stc,nvo,nvc,lbo,lbc,fvo,fvc,rfl,s1.mono hfin hle,s2.mono hfin hle,s3.mono hfin hle,s4.mono (fun b d=>hk13 b d.1 (by have:=MD (fun hx=>d.2 (.inr hx));omega)) (fun b d=>(show b<B.heap.size by have:=d.1;omega))⟩,s5⟩,hE14⟩
theorem Ed{p:cI}{tok st:Int}(h:(Ec p tok st).2=0):(nZ p tok st).2=0∧gA (nZ p tok st).1.2 (nZ p tok st).1.2.length≤600∧(Ec p tok st).1=(Eh (FX p).1 (nZ p tok st).1.2,Ag (nZ p tok st).1.2 (nZ p tok st).1.2.length):=by
 unfold Ec at h⊢
 split at h
 ·rename_i g;exact absurd h g
 rename_i g1;split at h
 ·cases h
 rename_i g2;rw[OD g1,OD g2];exact⟨by simpa using g1,by omega,rfl⟩
theorem Db{n k:Nat}(h:k<n):(List.replicate n true).getD k false=true:=by
 rw[KN,KY,OE h];rfl
noncomputable abbrev fS(nx fr:bU):List Bool:=IL nx (List.replicate nx.length true) fr
theorem f6{nx:bU}(a:okG nx){u v:Nat}:Eg (inG nx (List.replicate nx.length true)) u v↔Eg nx u v:=by
 rw[inG_edge];exact⟨fun h=>h.1,fun h=>⟨h,Db h.lt1,Db (h.lt a)⟩⟩
theorem fT{nx fr:bU}(a:okG nx){n:Nat}(h:n<nx.length):(fS nx fr).getD n false=true↔∃r,r 0=n∧Way8 (Eg nx) (ES fr) r:=by
 rw[IM h,show Eg (inG nx (List.replicate nx.length true))=Eg nx from funext fun u=>funext fun v=>propext (f6 a)]
theorem bJ(w0:World){a1 a2 a3 a4:Option Addr}{c1 c2 c3 c4 k:Nat}{st:List Int}{nx fr:bU}(h1:Sl w0 (c7 w0) a1 c1 st)(h2:Sl w0 (c7 w0) a2 c2 nx)(U:k≤9223372036854775807)(h4:Sl w0 (c7 w0) a4 c4 fr)(X:mG nx≤8589934592):
  Rt Tryz.prog 51 [IW a1 c1 a2 c2 a3 c3 a4 c4 st.length nx.length k fr.length].toArray w0 fun v w'=>∃x,v=.tuple ⟨[x,Pq (jU st nx k fr)]⟩∧Own w' w0.heap.size 4 cZ x (if jU st nx k fr=0 then fS nx fr else [])∧Ext w0 w':=by
 have Q:=h2.len63;refine dD Tryz.func51 Tryz.ntmps51 rfl rfl ?_;have d:=Ext.refl w0;refine Pu ?_;refine dX rfl rfl rfl fun O n Z=>?_
 have d:=d.trans Z;refine Q0 ?_;refine WL.call rfl rfl rfl (Is O (h1.up d) (h2.up d) U (h4.up d)) ?_;rintro _ o ⟨rfl,L⟩
 have n:=n.ext L;have d:=d.trans L;refine Qm ?_;apply CW.cond rfl<;>intro h
 ·have h:jU st nx k fr≠0:=by simpa using h
  refine QJ ?_;exact bf rfl rfl rfl ⟨_,rfl,by rw[OD h];exact Own.nil,d⟩
 have h:jU st nx k fr=0:=by simpa using h
 obtain⟨j,K,T,A,f,g⟩:=jV h;have B:okG nx:=fun r P=>(f r P).2
 rw[OE h,h];refine QK ?_;refine eW (α:=Bool) rfl rfl rfl rfl O0 O5 (fun N ho3 G=>?_);have Y:Ext o N:=(JD _ _).grown G Pm Pg;generalize y:Value.slice (some ⟨o.heap.size,0,none⟩) nx.length nx.length=sv at*
 have R:∃ao cap,sv=.slice ao nx.length cap:=⟨_,_,y.symm⟩;refine QN ?_;rw[Lr];refine CW.loop (S:=Nat×List Bool) (fun s=>[(1,Pr w0.heap.size),(5,sv),(17,Pq nx.length),(18,Pq s.1)])
  (fun s w=>s.1≤nx.length∧Own w o.heap.size 4 cZ sv s.2∧s.2.length=nx.length∧(∀c,c<s.1→s.2.getD c false=true)∧Ext o w) (fun s=>nx.length -s.1) (0,List.replicate nx.length false) OZ ⟨M9 _,ho3,by simp,fun c H=>absurd H O4,Y⟩ ?_
 rintro⟨i,inn⟩ M ⟨hi,q,m,l,t⟩
 dsimp only at hi q m l⊢
 have a:=d.trans t;have V:=n.ext t;refine Qm ?_;apply CW.cond rfl<;>intro h
 ·have E:i<nx.length:=by simp at h;omega
  refine PL ?_;refine ft (u:=.bool true) (yv:=true) rfl rfl rfl rfl q (show i<inn.length by omega) O_ O_ (Rd.mkBool _ _ _) (fun J q2 ho5 F=>?_);have I:Ext o J:=t.grown F t.size (fun b W=>(q.lt b W).1);refine P6 ?_;refine EX.back (i+1,inn.set i true) OZ ⟨E,ho5,by simpa using m,fun c H=>?_,I⟩ O4;dsimp only at H⊢
  rw[qU O0];by_cases e:i=c
  ·rw[OE e]
  ·rw[OD e];exact l c O0
 obtain rfl:i=nx.length:=by simp at h;omega
 have p:inn=List.replicate nx.length true:=by
  refine Ky (by simpa using m) fun c h1 h2=>?_
  rw[←IH h1,K_];exact l c O0
 subst p;obtain⟨io,ic,C,D⟩:=q.oldN.sl;subst C;refine QP ?_;refine WL.call rfl rfl rfl (fD M (h2.up a) (h4.up a) D B g O3 j X) ?_;rintro v J ⟨z,I⟩
 refine PB ?_;exact bf rfl rfl rfl ⟨_,rfl,z.low a.size,a.trans I⟩
def DA(nx:List (List cE)):List (List Int):=(List.range (gA nx nx.length)).map (za nx)
def DH(K:Nat)(nx:List (List cE)):List (List Int):=(List.range K).map fun k:Nat=>ot nx (k:Int)
theorem DD{nx:List (List cE)}:(DA nx).length=gA nx nx.length:=by simp[DA]
theorem DC{nx:List (List cE)}{j:Nat}(h:j<gA nx nx.length):(DA nx).getD j []=za nx j:=by
 unfold DA;rw[KN,KW,KX h];rfl
theorem fX{nx:List (List cE)}{m:Nat}(b:m<nx.length):Ax (gA nx nx.length) (fW nx m):=fun x a=>by
 unfold fW at a
 obtain⟨i,hi,rfl⟩:=LP.1 a;have:=gC (nx:=nx) b (LU.1 hi);omega
theorem GR{sl:List cK}{nx:List (List cE)}(d:NxOk sl nx){j:Nat}(g:j<gA nx nx.length)(k:¬(Ak nx j).1<0):(GQ nx j).2.toNat<nx.length:=by
 obtain⟨n,i,hn,hi,f,b,c⟩:=Am d g;rcases c with⟨c,_⟩|⟨_,_,a,e⟩
 ·omega
 have h:=d.ed n hn _ (K8 a);unfold GQ;rw[b,J7,show j -gA nx n=i by omega,q8 a];omega
theorem zb{sl:List cK}{nx:List (List cE)}(c:NxOk sl nx){j:Nat}(b:j<gA nx nx.length):Ax (gA nx nx.length) (za nx j):=by
 unfold za;split
 ·intro x a
  rw[LV]at a
  subst a;omega
 ·rename_i d
  exact fX (GR c b d)
theorem ze{sl:List cK}{nx:List (List cE)}(a:NxOk sl nx){j:Nat}:0<(za nx j).length∧(za nx j).length≤60:=by
 unfold za;split
 ·simp
 ·have h1:=yO (nx:=nx) (n:=(GQ nx j).2.toNat)
  have h2:=a.row (GQ nx j).2.toNat;unfold fW;rw[Ln,Lq];unfold yN at h1⊢
  omega
theorem DE{sl:List cK}{nx:List (List cE)}(a:NxOk sl nx):∀r∈DA nx,0<r.length∧r.length≤60∧Ax (gA nx nx.length) r:=fun r b=>by
 unfold DA at b
 obtain⟨j,c,rfl⟩:=LP.1 b;exact⟨(ze a).1,(ze a).2,zb a (LU.1 c)⟩
theorem ou{nx:List (List cE)}{k:Int}:Ax (gA nx nx.length) (ot nx k):=fun x a=>by
 unfold ot ow at a
 obtain⟨i,hi,rfl⟩:=LP.1 a;have:=LU.1 (LM.1 hi).1;omega
theorem Dz{nx:List (List cE)}{K:Nat}:∀F∈DH K nx,Ax (gA nx nx.length) F:=fun F hF=>by
 unfold DH at hF
 obtain⟨k,_,rfl⟩:=LP.1 hF;exact ou
theorem Ei{sl:List cK}{nx:List (List cE)}(b:NxOk sl nx)(c:gA nx nx.length≤600):jU (fW nx 0) (DA nx) (gA nx nx.length) (DH sl.length nx)=0:=by
 have d:=b.sl;have hF:(DH sl.length nx).length=sl.length:=by simp[DH]
 unfold jU;rw[DD,OD O0,OD,OD,OD]
 ·intro h
  obtain⟨F,hF,a⟩:=Kb.1 h;rw[oddB_false.2 (Dz F hF)]at a;cases a
 ·intro h
  obtain⟨r,e,a⟩:=Kb.1 h;obtain⟨h1,_,h3⟩:=DE b r e;unfold jJ at a
  rw[oddB_false.2 h3,JS]at a
  simp at a
  rw[a]at h1;simp at h1
 ·rintro(h|h)
  ·exact h rfl
  ·rw[oddB_false.2 (fX b.pos)]at h;cases h
def BM(row:List cE)(k:Int):Nat:=(row.findIdx? fun e=>e.1==k).getD 0
theorem BO{nx:List (List cE)}{m:Nat}{k:Int}:BM (nx.getD m []) k<yN nx m:=by
 unfold BM;cases h:(nx.getD m []).findIdx? (fun e=>e.1==k)with
 |none=>exact yO
 |some i=>
  obtain⟨h1,_⟩:=KG.1 h;unfold yN;simp only[Ng];omega
theorem BN{row:List cE}{k:Int}(h:(row.any fun y=>y.1==k)=true):BM row k<row.length∧(row.getD (BM row k) (0,0)).1=k:=by
 unfold BM;cases hf:row.findIdx? (fun e=>e.1==k)with
 |none=>
  rw[KF]at hf
  obtain⟨y,b,a⟩:=Kb.1 h;rw[hf y b]at a;cases a
 |some i=>
  obtain⟨h1,h2,_⟩:=KG.1 hf;simp only[Ng];rw[q8 h1];exact⟨h1,by simpa using h2⟩
def Hx(K:Nat)(nx:List (List cE))(n:Nat):Nat→Nat
 |0=>n
 |t+1=>if(Ak nx (Hx K nx n t)).1<0 then Hx K nx n t else gA nx (GQ nx (Hx K nx n t)).2.toNat+BM (nx.getD (GQ nx (Hx K nx n t)).2.toNat []) (((t+1) % K:Nat):Int)
theorem Hy{sl:List cK}{nx:List (List cE)}(b:NxOk sl nx){K n:Nat}(hn:n<gA nx nx.length):∀t,Hx K nx n t<gA nx nx.length
 |0=>hn
 |t+1=>by
  have a:=Hy b (K:=K) hn t;rw[Hx];split
  ·exact a
  ·rename_i c
   exact gC (GR b a c) BO
theorem vl{nx:List (List cE)}{k:Int}{j:Nat}(a:j<gA nx nx.length)(h:vk nx k j=true):(j:Int)∈ot nx k:=by
 unfold ot ow;exact LP.2 ⟨j,LM.2 ⟨LU.2 a,h⟩,rfl⟩
theorem Hz{K n:Nat}{nx:List (List cE)}{a:Nat}(h:(Ak nx (Hx K nx n a)).1<0):∀d,Hx K nx n (a+d)=Hx K nx n a
 |0=>rfl
 |d+1=>by
  have b:=Hz h d;rw[show a+(d+1)=(a+d)+1 by omega,Hx,b,OE h]
theorem Ej{sl:List cK}{nx:List (List cE)}(c:NxOk sl nx):fS (DA nx) (DH sl.length nx)=List.replicate (gA nx nx.length) true:=by
 have u:okG (DA nx):=fun r A=>by rw[DD];exact(DE c r A).2.2
 have o:(fS (DA nx) (DH sl.length nx)).length=gA nx nx.length:=by
  unfold fS;rw[IN,DD]
 refine Ky (by rw[o,Lr]) fun n h1 h2=>?_
 rw[K_];have hn:n<gA nx nx.length:=by omega
 have:=(fT (nx:=DA nx) (fr:=DH sl.length nx) u (n:=n) (by rw[DD];exact hn)).2 ⟨Hx sl.length nx n,rfl,fun t=>?_,fun P hP i=>?_⟩
 ·rw[KN,KT h1]at this
  exact this
 ·have b:=Hy c (K:=sl.length) hn t
  show((Hx sl.length nx n (t+1):Nat):Int)∈(DA nx).getD (Hx sl.length nx n t) [];rw[DC b];unfold za;rw[Hx];split
  ·simp
  ·unfold fW
   exact LP.2 ⟨_,LU.2 BO,rfl⟩
 ·obtain⟨F,hF,rfl⟩:=LP.1 hP
  unfold DH at hF
  obtain⟨k,w,rfl⟩:=LP.1 hF;have w:=LU.1 w;by_cases a:∃e,(Ak nx (Hx sl.length nx n e)).1<0
  ·obtain⟨e,C⟩:=a
   refine⟨e+i,by omega,?_⟩;have b:=Hy c (K:=sl.length) hn (e+i);refine vl b ?_;rw[Hz C];have l:=Hy c (K:=sl.length) hn e;obtain⟨m,q,z,hq,_,d,s⟩:=Am c l;rcases s with⟨_,B⟩|⟨h,_⟩
   ·unfold vk i6
    rw[d,J7,B];rfl
   ·omega
  ·have a:∀t,¬(Ak nx (Hx sl.length nx n t)).1<0:=fun t h=>a ⟨t,h⟩
   have x:i≤sl.length*(i+1)+k:=by
    have:1*(i+1)≤sl.length*(i+1):=MT _ O0;omega
   have h1:1≤sl.length*(i+1)+k:=by
    have:1*(i+1)≤sl.length*(i+1):=MT _ O0;omega
   refine⟨sl.length*(i+1)+k,x,?_⟩;have f:(sl.length*(i+1)+k) % sl.length=k:=by rw[MQ,MO w]
   generalize sl.length*(i+1)+k=j at*
   obtain⟨t,rfl⟩:∃t,j=t+1:=⟨j -1,by omega⟩;have b:=Hy c (K:=sl.length) hn (t+1);have g:=Hy c (K:=sl.length) hn t;refine vl b ?_;have z:=GR c g (a t);rw[Hx,OD (a t),f];generalize (GQ nx (Hx sl.length nx n t)).2.toNat=m at*
   unfold vk i6;have s:=Al z (BO (nx:=nx) (m:=m) (k:=(k:Int)));have d:(Ak nx (gA nx m+BM (nx.getD m []) (k:Int))).2=(m:Int):=by
    rw[s];split<;>rfl
   rw[d,J7];cases p:((nx.getD m []).any fun y=>y.1==(k:Int))with
   |false=>rfl
   |true=>
    obtain⟨p1,p2⟩:=BN p;have v:nx.getD m []≠[]:=fun h=>by rw[h]at p1;simp at p1
    rw[s,OD v];dsimp only;rw[p2,Ok];exact JT _
theorem DB{sl:List cK}{nx:List (List cE)}(c:NxOk sl nx)(a:gA nx nx.length≤600):mG (DA nx)≤8589934592:=by
 have h:=mN (DA nx) 60 (fun r b=>(DE c r b).2.1);rw[DD]at h
 omega
open Classical in
noncomputable def iG(n:Nat)(P:Nat→Prop):List Bool:=(List.range n).map fun i=>decide (P i)
theorem iJ{n:Nat}{P:Nat→Prop}:(iG n P).length=n:=by simp[iG]
theorem iI{n i:Nat}{P:Nat→Prop}(h:i<n):(iG n P).getD i false=true↔P i:=by
 unfold iG;rw[KN,KW,KX h];simp
theorem iH{n:Nat}{P Q:Nat→Prop}(h:∀i,i<n→(P i↔Q i)):iG n P=iG n Q:=by
 refine Ky (by rw[iJ,iJ]) fun i h1 h2=>?_
 have hi:i<n:=by rw[iJ]at h1;exact h1
 rw[JI,←IH h1,←IH h2,iI hi,iI hi];exact h i hi
theorem iK{n:Nat}{P:Nat→Prop}{l:List Bool}(a:l.length=n)(h:∀i,i<n→(l.getD i false=true↔P i)):l=iG n P:=by
 refine Ky (by rw[iJ];exact a) fun i h1 h2=>?_
 have hi:i<n:=by omega
 rw[JI,←IH h1,←IH h2,iI hi];exact h i hi
def oA(nx fr:bU)(n:Nat):Prop:=∃r,r 0=n∧Way8 (Eg nx) (ES fr) r
def mR(nx fr:bU)(A:Nat→Prop)(n:Nat):Prop:=∃r,r 0=n∧Way8 (Eg nx) (ES fr) r∧∀i,A (r i)
inductive EuP(E:Nat→Nat→Prop)(A B:Nat→Prop):Nat→Prop
 |here {n:Nat}:B n→EuP E A B n
 |step {n m:Nat}:A n→E n m→EuP E A B m→EuP E A B n
def nH(nx fr:bU)(A B:Nat→Prop):Nat→Prop:=EuP (Eg nx) A fun n=>B n∧oA nx fr n
def nR(nx fr:bU)(A:Nat→Prop)(n:Nat):Prop:=∃m,Eg nx n m∧A m∧oA nx fr m
def gL(nx fr:bU)(A B:Nat→Prop)(n:Nat):Prop:=¬(nH nx fr (fun i=>¬B i) (fun i=>¬A i∧¬B i) n∨mR nx fr (fun i=>¬B i) n)
section
variable {nx fr:bU}{A B:Nat→Prop}
theorem Way8.lt{r:Nat→Nat}(a:okG nx)(h:Way8 (Eg nx) (ES fr) r)(i:Nat):r i<nx.length:=by
 cases i with
 |zero=>exact(h.1 0).lt1
 |succ i=>exact(h.1 i).lt a
theorem IP(a:okG nx):IL nx (iG nx.length A) fr=iG nx.length (mR nx fr A):=by
 refine iK IN fun n hn=>?_
 rw[IM hn];constructor
 ·rintro⟨r,b,h1,h2⟩
  have h3:=fun i=>inG_edge.1 (h1 i)
  exact⟨r,b,⟨fun i=>(h3 i).1,h2⟩,fun i=>(iI (h3 i).1.lt1).1 (h3 i).2.1⟩
 ·rintro⟨r,b,h,c⟩
  exact⟨r,b,fun i=>inG_edge.2 ⟨h.1 i,(iI (h.lt a i)).2 (c i),(iI (h.lt a (i+1))).2 (c (i+1))⟩,h.2⟩
theorem f7(a:okG nx):fS nx fr=iG nx.length (oA nx fr):=iK IN fun n hn=>fT a hn
end
def k7(nx:bU)(lb:List Nat)(fr:bU)(k n:Int)(ks:List (Nat→Prop)):Nat→Prop:=
 if k=1 then fun _=>True
 else if k=3 then fun i=>lb.getD i 0 >>> n.toNat&&&1=1
 else if k=4 then fun i=>¬ks.getD 0 (fun _=>False) i
 else if k=5 then fun i=>ks.getD 0 (fun _=>False) i∧ks.getD 1 (fun _=>False) i
 else if k=6 then fun i=>ks.getD 0 (fun _=>False) i∨ks.getD 1 (fun _=>False) i
 else if k=7 then nR nx fr (ks.getD 0 (fun _=>False))
 else if k=8 then nH nx fr (fun _=>True) (ks.getD 0 (fun _=>False))
 else if k=9 then mR nx fr (ks.getD 0 (fun _=>False))
 else if k=10 then nH nx fr (ks.getD 0 (fun _=>False)) (ks.getD 1 (fun _=>False))
 else if k=11 then fun i=>¬nR nx fr (fun j=>¬ks.getD 0 (fun _=>False) j) i
 else if k=12 then fun i=>¬mR nx fr (fun j=>¬ks.getD 0 (fun _=>False) j) i
 else if k=13 then fun i=>¬nH nx fr (fun _=>True) (fun j=>¬ks.getD 0 (fun _=>False) j) i
 else if k=14 then gL nx fr (ks.getD 0 (fun _=>False)) (ks.getD 1 (fun _=>False))
 else fun _=>False
mutual
def kY(nx:bU)(lb:List Nat)(fr:bU):Ltl→Nat→Prop
 |.mk k n kids=>k7 nx lb fr k n (kZ nx lb fr kids)
def kZ(nx:bU)(lb:List Nat)(fr:bU):List Ltl→List (Nat→Prop)
 |[]=>[]
 |x::r=>kY nx lb fr x::kZ nx lb fr r
end
section
variable {nx fr:bU}{lb:List Nat}{f g:Ltl}
end
section
variable {nx fr:bU}{lb:List Nat}{f:Ltl}{r:Nat→Nat}
end
section
variable {N:Nat}{nx nx' fr fr':bU}{lb lb':List Nat}
variable {A A' B B':Nat→Prop}
end
def LabAt(w:World)(b:Nat)(nx:bU)(lb:List Nat)(fr:bU):Prop:=
 ∃(a1:Option Addr) (c1 n1:Nat) (a2:Option Addr) (c2:Nat) (a3:Option Addr) (c3:Nat) (a4:Option Addr) (c4:Nat) (ao:Option Addr) (ac:Nat) (a:Option Addr) (bc:Nat),
  Blk w b 140 [.slice a1 n1 c1,.slice a2 nx.length c2,.slice a3 lb.length c3,.slice a4 fr.length c4,.slice ao (iG nx.length (oA nx fr)).length ac,.slice a (Hk nx).length bc]∧
  Sl w (c7 w) a2 c2 nx∧Sl w (c7 w) a3 c3 lb∧Sl w (c7 w) a4 c4 fr∧Sl w (c7 w) ao ac (iG nx.length (oA nx fr))∧Sl w (c7 w) a bc (Hk nx)
theorem LabAt.up{w w':World}{b:Nat}{nx fr:bU}{lb:List Nat}(h:LabAt w b nx lb fr)(a:Ext w w'):LabAt w' b nx lb fr:=by
 obtain⟨a1,c1,n1,a2,c2,a3,c3,a4,c4,ao,ac,f,bc,c,h2,h3,h4,e,d⟩:=h;exact⟨a1,c1,n1,a2,c2,a3,c3,a4,c4,ao,ac,f,bc,c.ext a,h2.up a,h3.up a,h4.up a,e.up a,d.up a⟩
structure WOk(nx:bU)(fr:bU):Prop where
 n:nx.length≤600
 g:okG nx
 f:∀F∈fr,Ax nx.length F
 e:mG nx≤8589934592
abbrev xf(b:Nat):Value:=.pointer (some ⟨b,0,none⟩)
theorem mD(w0:World){b:Nat}{nx fr:bU}{lb:List Nat}(C:LabAt w0 b nx lb fr)(hn:nx.length≤600){fv:Value}{P:Nat→Prop}
  (hf:∀(w:World) (n:Nat),Ext w0 w→n<nx.length→FnV Tryz.prog fv [Pq (n:Int)] w fun v w'=>∃c:Bool,v=.bool c∧(c=true↔P n)∧Ext w w'):
  Rt Tryz.prog 53 [xf b,fv].toArray w0 fun v w'=>Own w' w0.heap.size 4 cZ v (iG nx.length P)∧Ext w0 w':=by
 obtain⟨a1,c1,n1,a2,c2,a3,c3,a4,c4,ao,ac,J,bc,t,h2,h3,h4,I,H⟩:=C;refine dE Tryz.func53 Tryz.ntmps53 rfl rfl ?_;refine Qz ?_;refine eW (α:=Bool) rfl rfl rfl rfl O0 O5 (fun z ho3 p=>?_);have E:Ext w0 z:=(JD _ _).grown p Pm Pg;generalize l:Value.slice (some ⟨w0.heap.size,0,none⟩) nx.length nx.length=sv at*
 have A:∃ao cap,sv=.slice ao nx.length cap:=⟨_,_,l.symm⟩;refine QN ?_;rw[Lr];refine CW.loop (S:=Nat×List Bool) (fun s=>[(1,fv),(5,sv),(15,Pq nx.length),(16,Pq s.1)])
  (fun s w=>s.1≤nx.length∧Own w w0.heap.size 4 cZ sv s.2∧s.2.length=nx.length∧(∀c,c<s.1→(s.2.getD c false=true↔P c))∧Ext w0 w) (fun s=>nx.length -s.1) (0,List.replicate nx.length false) OZ ⟨M9 _,ho3,by simp,fun c q=>absurd q O4,E⟩ ?_
 rintro⟨i,o⟩ y ⟨hi,f,d,a,j⟩
 dsimp only at hi f d a⊢
 refine Qm ?_;apply CW.cond rfl<;>intro h
 ·have g:i<nx.length:=by simp at h;omega
  refine PL ?_;refine d7 rfl rfl rfl rfl (hf y i j g) ?_;rintro _ F ⟨c,rfl,q,r⟩
  skip;refine ft (u:=.bool c) (yv:=c) rfl rfl rfl rfl (f.extN r) (show i<o.length by omega) O_ O_ (Rd.mkBool _ _ _) (fun x G ho6 m=>?_);have D:Ext w0 x:=(j.trans r).grown m (j.trans r).size (fun b t=>(f.lt b t).1);refine P6 ?_;refine EX.back (i+1,o.set i c) OZ ⟨g,ho6,by simpa using d,fun k B=>?_,D⟩ O4;dsimp only at B⊢
  rw[qU O0];by_cases e:i=k
  ·subst e;rw[OE rfl];exact q
  ·rw[OD e];exact a k O0
 obtain rfl:i=nx.length:=by simp at h;omega
 rw[iK d a]at f
 refine P3 ?_;exact be rfl rfl ⟨f,j⟩
theorem xT(w:World){bb x:Nat}{ao:Option Addr}{ac:Nat}{l:List Bool}(c:Blk w bb 58 [.slice ao l.length ac])(b:Sl w (c7 w) ao ac l)(a:x<l.length):
  Rt Tryz.prog 113 [Pq (x:Int),Pr bb].toArray w fun v w'=>v=.bool (!l.getD x false)∧Ext w w':=by
 refine dE Tryz.func113 Tryz.ntmps113 rfl rfl ?_;refine P4 ?_;refine eA rfl rfl rfl rfl rfl b a (IH a).symm O_ (fun q=>?_);refine PB ?_;exact be rfl rfl ⟨rfl,Ext.refl _⟩
theorem zT{c:Bool}{P:Prop}(h:c=true↔P):(!c)=true↔¬P:=by
 rw[←h];cases c<;>simp
theorem xU(w0:World){b:Nat}{nx fr:bU}{lb:List Nat}(l:LabAt w0 b nx lb fr)(hn:nx.length≤600){ao:Option Addr}{ac:Nat}{P:Nat→Prop}(k:Sl w0 (c7 w0) ao ac (iG nx.length P)):
  Rt Tryz.prog 56 [xf b,.slice ao (iG nx.length P).length ac].toArray w0 fun v w'=>Own w' w0.heap.size 4 cZ v (iG nx.length fun i=>¬P i)∧Ext w0 w':=by
 refine dE Tryz.func56 Tryz.ntmps56 rfl rfl ?_;refine Pu ?_;refine dX rfl rfl rfl fun g a c=>?_
 have j:=a.lt;refine QE ?_;refine WL.call rfl rfl rfl (mD g (P:=fun i=>¬P i) (l.up c) hn (fun w n e hn=>FnV.mk (f:=113) (Rt.mono (xT w (a.ext e) (k.up (c.trans e)) (show n<_ by rw[iJ];exact hn)) (fun v w' d=>⟨_,d.1,zT (iI hn),d.2⟩)))) ?_;rintro _ o ⟨h,m⟩
 refine PB ?_;exact be rfl rfl ⟨h.low c.size,c.trans m⟩
theorem xr(w:World){b1 b2 x:Nat}{ao d:Option Addr}{ac bc:Nat}{l k:List Bool}(h:Blk w b1 58 [.slice ao l.length ac])(g:Blk w b2 58 [.slice d k.length bc])(e:Sl w (c7 w) ao ac l)(f:Sl w (c7 w) d bc k)(b:x<l.length)(a:x<k.length):
  Rt Tryz.prog 114 [Pq (x:Int),Pr b1,Pr b2].toArray w fun v w'=>v=.bool (l.getD x false&&k.getD x false)∧Ext w w':=by
 refine dF Tryz.func114 Tryz.ntmps114 rfl rfl ?_;refine P4 ?_;refine eA rfl rfl rfl rfl rfl e b (IH b).symm O_ (fun q=>?_);generalize l.getD x false=c;cases c with
 |false=>
  refine PC ?_;exact be rfl rfl ⟨rfl,Ext.refl _⟩
 |true=>
  refine Rl ?_;refine eA rfl rfl rfl rfl rfl f a (IH a).symm O_ (fun i=>?_);refine PB ?_;exact be rfl rfl ⟨rfl,Ext.refl _⟩
theorem gj{c d:Bool}{P Q:Prop}(h:c=true↔P)(k:d=true↔Q):(c&&d)=true↔P∧Q:=by
 rw[←h,←k];cases c<;>cases d<;>simp
theorem xu(w0:World){b:Nat}{nx fr:bU}{lb:List Nat}(p:LabAt w0 b nx lb fr)(hn:nx.length≤600){ao j:Option Addr}{ac bc:Nat}{P Q:Nat→Prop}(o:Sl w0 (c7 w0) ao ac (iG nx.length P))(m:Sl w0 (c7 w0) j bc (iG nx.length Q)):
  Rt Tryz.prog 57 [xf b,.slice ao (iG nx.length P).length ac,.slice j (iG nx.length Q).length bc].toArray w0 fun v w'=>Own w' w0.heap.size 4 cZ v (iG nx.length fun i=>P i∧Q i)∧Ext w0 w':=by
 refine dF Tryz.func57 Tryz.ntmps57 rfl rfl ?_;refine Pu ?_;refine dX rfl rfl rfl fun t c r=>?_
 skip;refine dX rfl rfl rfl fun k e h=>?_
 have c:=c.ext h;have d:=r.trans h;refine QE ?_;refine WL.call rfl rfl rfl (mD k (P:=fun i=>P i∧Q i) (p.up d) hn (fun w n a hn=>FnV.mk (f:=114) (Rt.mono (xr w (c.ext a) (e.ext a) (o.up (d.trans a)) (m.up (d.trans a)) (show n<_ by rw[iJ];exact hn) (show n<_ by rw[iJ];exact hn)) (fun v w' g=>⟨_,g.1,gj (iI hn) (iI hn),g.2⟩)))) ?_;rintro _ s ⟨l,q⟩
 refine PB ?_;exact be rfl rfl ⟨l.low d.size,d.trans q⟩
theorem xC(w:World){b b1 b2 x:Nat}{nx fr:bU}{lb:List Nat}(D:LabAt w b nx lb fr)(o:okG nx){ao:Option Addr}{ac:Nat}{P:Nat→Prop}(C:Blk w b1 88 [xf b])(B:Blk w b2 58 [.slice ao (iG nx.length P).length ac])
  (A:Sl w (c7 w) ao ac (iG nx.length P)) (n:x<nx.length):
  Rt Tryz.prog 115 [Pq (x:Int),Pr b1,Pr b2].toArray w fun v w'=>∃c:Bool,v=.bool c∧(c=true↔nR nx fr P x)∧Ext w w':=by
 obtain⟨a1,c1,n1,a2,c2,a3,c3,a4,c4,fo,fc,J,bc,H,h2,h3,h4,E,I⟩:=D;have e:=Aw o x;rw[II n]at e
 have j:∀m:Nat,Eg nx x m↔(m:Int)∈nx[x]:=fun m=>by unfold Eg;rw[II n]
 refine dF Tryz.func115 Tryz.ntmps115 rfl rfl ?_;refine Qw ?_;refine eC rfl rfl rfl rfl rfl h2 n O_ (fun u q y=>?_);obtain⟨t,rc,rfl,s⟩:=y.sl;have z:=s.len63;generalize nx[x]=row at*
 refine Ql ?_;refine CW.loop (S:=Nat) (fun i=>[(1,Pr b1),(2,Pr b2),(14,.slice t row.length rc),(15,Pq row.length),(16,Pq i)])
  (fun i w'=>w'=w∧i≤row.length∧∀m:Nat,(m:Int)∈row.take i→¬(P m∧oA nx fr m)) (fun i=>row.length -i) 0 OZ ⟨rfl,M9 _,fun m a=>by simp at a⟩ ?_
 rintro i w' ⟨rfl,hi,f⟩
 refine Qm ?_;apply CW.cond rfl<;>intro h
 ·have d:i<row.length:=by simp at h;omega
  obtain⟨k,p⟩:∃k:Nat,row[i]=(k:Int):=⟨(row[i]).toNat,by have:=e _ (K8 d);omega⟩;have g:k<nx.length:=by have:=e _ (K8 d);omega
  have l:row.take (i+1)=row.take i++[(k:Int)]:=by rw[Md,KT d,p];rfl
  have r:(k:Int)∈row:=p▸K8 d;have bP:=iI (P:=P) g;have bF:=iI (P:=oA nx fr) g;refine Q6 ?_;refine eB rfl rfl rfl rfl rfl s d p O_ (fun q=>?_);refine P4 ?_;refine eA rfl rfl rfl rfl rfl A (show k<_ by rw[iJ];exact g) (IH _).symm O_ (fun G=>?_);generalize (iG nx.length P).getD k false=c at*
  cases c with
  |false=>
   refine Qr ?_;refine EX.back (i+1) OZ ⟨rfl,d,fun m a=>?_⟩ O0;rw[l]at a
   rcases LF.1 a with a|a
   ·exact f m a
   ·have:m=k:=by have:=LV.1 a;omega
    subst this;exact fun h=>by have:=bP.2 h.1;cases this
  |true=>
   refine Rk ?_;refine eA rfl rfl rfl rfl rfl E (show k<_ by rw[iJ];exact g) (IH _).symm O_ (fun F=>?_);generalize (iG nx.length (oA nx fr)).getD k false=c at*
   cases c with
   |false=>
    refine PT ?_;refine EX.back (i+1) OZ ⟨rfl,d,fun m a=>?_⟩ O0;rw[l]at a
    rcases LF.1 a with a|a
    ·exact f m a
    ·have:m=k:=by have:=LV.1 a;omega
     subst this;exact fun h=>by have:=bF.2 h.2;cases this
   |true=>
    refine QF ?_;exact be rfl rfl ⟨_,rfl,⟨fun _=>⟨k,(j k).2 r,bP.1 rfl,bF.1 rfl⟩,fun _=>rfl⟩,Ext.refl _⟩
 ·obtain rfl:i=row.length:=by simp at h;omega
  rw[Mf]at f
  refine P3 ?_;refine be rfl rfl ⟨_,rfl,⟨(fun h=>by cases h),fun⟨m,h1,h2⟩=>absurd h2 (f m ((j m).1 h1))⟩,Ext.refl _⟩
theorem xD(w0:World){b:Nat}{nx fr:bU}{lb:List Nat}(h:LabAt w0 b nx lb fr)(e:okG nx)(hn:nx.length≤600){ao:Option Addr}{ac:Nat}{P:Nat→Prop}(l:Sl w0 (c7 w0) ao ac (iG nx.length P)):
  Rt Tryz.prog 59 [xf b,.slice ao (iG nx.length P).length ac].toArray w0 fun v w'=>Own w' w0.heap.size 4 cZ v (iG nx.length (nR nx fr P))∧Ext w0 w':=by
 refine dE Tryz.func59 Tryz.ntmps59 rfl rfl ?_;refine Pu ?_;refine dX rfl rfl rfl fun q c o=>?_
 skip;refine dX rfl rfl rfl fun j g i=>?_
 have c:=c.ext i;have d:=o.trans i;refine Qs ?_;refine WL.call rfl rfl rfl (mD j (P:=nR nx fr P) (h.up d) hn (fun w n a hn=>FnV.mk (f:=115) (xC w (h.up (d.trans a)) e (c.ext a) (g.ext a) (l.up (d.trans a)) hn))) ?_;rintro _ p ⟨k,m⟩
 refine PB ?_;exact be rfl rfl ⟨k.low d.size,d.trans m⟩
end Go.Proofs.YtodmkmobdmcfbaaGreatDoor
