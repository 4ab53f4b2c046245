import Derived.Test.YtfpjecjadlgdcaaGreatDoorPtReportTells6
set_option linter.unusedVariables false
set_option linter.unusedSimpArgs false
set_option linter.defProp false
namespace Go.Proofs.YtfpjecjadlgdcaaGreatDoor
set_option maxHeartbeats 4000000
variable{P:Program}{α:Type}{B a K:Nat}{C D:Option Addr}{m:List Int}{F:Nat→Prop}{w:World}{v o J:Value}{g:List (List Int)}{x:Int}{l:List Bool}{r:List Value}{t:TypeId}{Q:Exit→Act→World→Prop}{s:List Nat}{L:List Oper}{c:Value→World→Prop}{f:List ByteArray}{y:Array Bool}{b:Value→(Nat→Nat)→World→Prop}{j:Array Edge}{A:List (Nat→Prop)}{G:String}{H:Array TypeId}{I:Func}
open Go.RowKit
def fL{n:Nat}{σ:Sg}{rest:List Oper}{d:Nat}{ty:TypeId}{g:Option (Nat×Bool)}{x y:Operand}{a c:Int}
  (k:gd L σ ⟨some d,.call ⟨.builtin .max,#[x,y],H⟩,ty,G,j,g⟩=some true) (hd:Nat.ble (d+1) n=true) (i:ev σ x=some (Te a)) (f:ev σ y=some (Te c))
  (h:WL P L Q rest n ((d,Te (max a c))::σ) w):WL P L Q (⟨some d,.call ⟨.builtin .max,#[x,y],H⟩,ty,G,j,g⟩::rest) n σ w:=by
 refine WL.run k hd (fun u b=>?_) h;have e:(if a<c then c else a)=max a c:=by omega
 simp[execOp,resolve,invoke,builtin,b.ev i,b.ev f,run_max_int2,e]
structure Fld3(w:World)(B sb:Nat)(ov av yv:Value)(os:List cN)(bs ys:List Int):Prop where
 o:Own w B 149 di ov os
 a:Own w B 3 di av bs
 y:Own w B 3 di yv ys
 oa:∀g,ov.ownBlock=some g->av.ownBlock≠some g
 oy:∀g,ov.ownBlock=some g->yv.ownBlock≠some g
 ay:∀g,av.ownBlock=some g->yv.ownBlock≠some g
 sb:sb<B
section
variable {w w0 w1 w2:World}{B sb:Nat}{ov av yv ov' av' yv':Value}{os os':List cN}{bs ys bs' ys':List Int}
theorem Fld3.ext(h:Fld3 w B sb ov av yv os bs ys)(a:Ext w w1):Fld3 w1 B sb ov av yv os bs ys:=⟨h.o.extN a,h.a.extN a,h.y.extN a,h.oa,h.oy,h.ay,h.sb⟩
theorem Fld3.setO(h:Fld3 w B sb ov av yv os bs ys)(k:B=w0.heap.size)(j:Chg (fun b=>b=sb) w0 w)(f:Own w1 B 149 di ov' os')(a:w.grownBy w1 ov.ownBlock)(hnb:∀g,ov'.ownBlock=some g->ov.ownBlock=some g\/w.heap.size<=g)(c:w1.grownBy w2 (some sb)):
  Fld3 w2 B sb ov' av yv os' bs ys/\Chg (fun b=>b=sb) w0 w2:=by
 have d:=h.sb;refine⟨⟨f.keptN c (fun g a e=>by have:=(f.lt g a).1;have:=QV e;omega),(h.a.keptN a (fun g a e=>h.oa g e.symm a)).keptN c (fun g a e=>by have:=(h.a.lt g a).1;have:=QV e;omega),(h.y.keptN a (fun g a e=>h.oy g e.symm a)).keptN c (fun g a e=>by have:=(h.y.lt g a).1;have:=QV e;omega),fun g a e=>?_,fun g a e=>?_,h.ay,d⟩,?_⟩
 ·rcases hnb g a with h1|h1
  ·exact h.oa g h1 e
  ·have:=(h.a.lt g e).2.1;omega
 ·rcases hnb g a with h1|h1
  ·exact h.oy g h1 e
  ·have:=(h.y.lt g e).2.1;omega
 ·exact(j.then (Chg.of_grown a) (fun b i=>.inr (by have:=(h.o.lt b i).1;omega))).grown c (fun g a=>by cases a;rfl)
theorem Fld3.setA(h:Fld3 w B sb ov av yv os bs ys)(k:B=w0.heap.size)(j:Chg (fun b=>b=sb) w0 w)(f:Own w1 B 3 di av' bs')(a:w.grownBy w1 av.ownBlock)(hnb:∀g,av'.ownBlock=some g->av.ownBlock=some g\/w.heap.size<=g)(c:w1.grownBy w2 (some sb)):
  Fld3 w2 B sb ov av' yv os bs' ys/\Chg (fun b=>b=sb) w0 w2:=by
 have d:=h.sb;refine⟨⟨(h.o.keptN a (fun g a e=>h.oa g a e.symm)).keptN c (fun g a e=>by have:=(h.o.lt g a).1;have:=QV e;omega),f.keptN c (fun g a e=>by have:=(f.lt g a).1;have:=QV e;omega),(h.y.keptN a (fun g a e=>h.ay g e.symm a)).keptN c (fun g a e=>by have:=(h.y.lt g a).1;have:=QV e;omega),fun g a e=>?_,h.oy,fun g a e=>?_,d⟩,?_⟩
 ·rcases hnb g e with h1|h1
  ·exact h.oa g a h1
  ·have:=(h.o.lt g a).2.1;omega
 ·rcases hnb g a with h1|h1
  ·exact h.ay g h1 e
  ·have:=(h.y.lt g e).2.1;omega
 ·exact(j.then (Chg.of_grown a) (fun b i=>.inr (by have:=(h.a.lt b i).1;omega))).grown c (fun g a=>by cases a;rfl)
theorem Fld3.setY(h:Fld3 w B sb ov av yv os bs ys)(k:B=w0.heap.size)(j:Chg (fun b=>b=sb) w0 w)(f:Own w1 B 3 di yv' ys')(a:w.grownBy w1 yv.ownBlock)(hnb:∀g,yv'.ownBlock=some g->yv.ownBlock=some g\/w.heap.size<=g)(c:w1.grownBy w2 (some sb)):
  Fld3 w2 B sb ov av yv' os bs ys'/\Chg (fun b=>b=sb) w0 w2:=by
 have d:=h.sb;refine⟨⟨(h.o.keptN a (fun g a e=>h.oy g a e.symm)).keptN c (fun g a e=>by have:=(h.o.lt g a).1;have:=QV e;omega),(h.a.keptN a (fun g a e=>h.ay g a e.symm)).keptN c (fun g a e=>by have:=(h.a.lt g a).1;have:=QV e;omega),f.keptN c (fun g a e=>by have:=(f.lt g a).1;have:=QV e;omega),h.oa,fun g a e=>?_,fun g a e=>?_,d⟩,?_⟩
 ·rcases hnb g e with h1|h1
  ·exact h.oy g a h1
  ·have:=(h.o.lt g a).2.1;omega
 ·rcases hnb g e with h1|h1
  ·exact h.ay g a h1
  ·have:=(h.a.lt g a).2.1;omega
 ·exact(j.then (Chg.of_grown a) (fun b i=>.inr (by have:=(h.y.lt b i).1;omega))).grown c (fun g a=>by cases a;rfl)
end
def iu{nx:List (List cN)}{k:Nat}:ir nx (k+1)=ir nx k++[((iw nx k:Nat):Int)]:=by unfold ir;rw[PL,Pb];rfl
def A3{nx:List (List cN)}{k:Nat}:A1 nx (k+1)=A1 nx k++[((Bt nx k:Nat):Int)]:=by unfold A1;rw[PL,Pb];rfl
def Ip(w0:World){X W V U:Value}{nx:List (List cN)}
  (c:Blk w0 B 129 [o,J,.slice C nx.length a,.slice none 0 0,.slice none 0 0,.slice none 0 0,X,W,V,U]) (hn:Sl w0 F C a nx) (hF:∀b,F b->b<w0.heap.size/\b≠B) (G:∀j,(nx.getD j []).length<=60) (hn200:nx.length<=200):
  Rt UA 46 [Tg B].toArray w0 fun v w'=>v=.bool (decide (iw nx nx.length<=600))/\∃ov av yv,Blk w' B 129 [o,J,.slice C nx.length a,ov,av,yv,X,W,V,U]/\
   Fld3 w' w0.heap.size B ov av yv (Cz nx nx.length) (ir nx nx.length) (A1 nx nx.length)/\Chg (fun b=>b=B) w0 w':=by
 have Z:=c.lt;refine dU Tryz.func46 Tryz.ntmps46 rfl rfl (TQ ?_);refine CW.loop (S:=Nat×Value×Value×Value) (fun s=>[(0,Tg B),(11,.slice C nx.length a),(12,Te nx.length),(13,Te s.1)])
  (fun s w=>s.1<=nx.length/\Blk w B 129 [o,J,.slice C nx.length a,s.2.1,s.2.2.1,s.2.2.2,X,W,V,U]/\Fld3 w w0.heap.size B s.2.1 s.2.2.1 s.2.2.2 (Cz nx s.1) (ir nx s.1) (A1 nx s.1)/\Chg (fun b=>b=B) w0 w)
  (fun s=>nx.length -s.1) (0,.slice none 0 0,.slice none 0 0,.slice none 0 0) SL ⟨QK _,c,⟨Own.nil,Own.nil,Own.nil,(fun g t=>by cases t),(fun g t=>by cases t),(fun g t=>by cases t),Z⟩,Chg.refl _ _⟩ ?_
 clear c;rintro⟨n,ov,av,yv⟩ w1 ⟨hi,c,hf,d⟩
 dsimp only at hi c hf d⊢
 have z1:=d.size;obtain⟨oo,oc,rfl⟩:=hf.o.val;have hatn:=iy G n;have L:(Cz nx n).length=iw nx n:=rfl;rw[L]at c
 refine T2 ?_;apply CW.cond rfl<;>intro h
 ·have O:n<nx.length:=by simp only[R_]at h;omega
  clear h;have hnF:∀{w:World},Chg (fun b=>b=B) w0 w->Sl w F C a nx:=fun h=>hn.mono (fun b c=>h.block b (hF b c).1 (hF b c).2) S3
  have hFl:∀{w:World},Chg (fun b=>b=B) w0 w->∀b,F b->b<w.heap.size:=fun h b c=>Qn (hF b c).1 h.size
  obtain⟨ao,ac,rfl⟩:=hf.a.val;have N:=fun g t=>hf.a.lt g t
  have hal:(ir nx n).length=n:=atL_len;have hrl:=G n;refine TL ?_;refine fg (i:=n) rfl rfl rfl rfl rfl (hnF d) O SX (fun u q T=>?_);rw[<-tC O]at T
  obtain⟨Y,rc,rfl,hr⟩:=T.sl;clear T;refine T2 ?_;have y:Ext w1 (drew w1):=Ext.drew w1;have E:=c.ext y;have hKs:∀u,(fun z:World=>∀b,b<w1.heap.size->(Value.slice ao (ir nx n).length ac).ownBlock≠some b->z.heap[b]?=(drew w1).heap[b]?) u->u.heap[B]?=(drew w1).heap[B]?:=fun u h=>h _ SM (fun e=>by have:=N _ e;omega)
  refine aF (fun z:World=>∀b,b<w1.heap.size->(Value.slice ao (ir nx n).length ac).ownBlock≠some b->z.heap[b]?=(drew w1).heap[b]?) [(0,true),(1,true),(2,true),(3,true),(4,true),(5,true),(6,true),(7,true),(8,true),(9,true),(10,false),(11,false),(12,false),(13,false)] 14 mixed SN (fun _ _ _=>rfl) (Us ?_);refine b_ (α:=Int) (F:=di) (bytes:=8) (yv:=((iw nx n:Nat):Int)) rfl rfl rfl rfl SX rfl rfl SX (hf.a.extN y) S_ (by have:=y.size;omega) S0 SP SS SM
   (fun z hz b c f=>hz.block b c (fun e=>f e.symm)) (fun av' w2 q2 ho2 D H=>?_)
  rw[<-iu]at ho2
  have hb2:=E.kept D (fun e=>by have:=N _ e.symm;omega);have Q:(fun z:World=>∀b,b<w1.heap.size->(Value.slice ao (ir nx n).length ac).ownBlock≠some b->z.heap[b]?=(drew w1).heap[b]?) w2:=fun b c f=>D.block b c (fun e=>f e.symm)
  obtain⟨ao',ac',rfl⟩:=ho2.val;refine cD rfl (fS rfl rfl rfl (WL.nil (bf Q (cD rfl (fm rfl rfl rfl (WL.nil (bf Q (HL.nil (bB rfl (f_ hb2 (fun w3 hb3 hg3=>WL.nil (bC ?_))))))))))));obtain⟨hf3,R⟩:=(hf.ext y).setA rfl (d.trans (Chg.of_ext _ y)) ho2 D H hg3;have hr3:Sl w3 F Y rc (nx.getD n []):=hr.mono (fun b c=>(R.block b (hF b c).1 (hF b c).2).trans (d.block b (hF b c).1 (hF b c).2).symm) S3;clear hKs Q y E hb2 D hg3 ho2 H hf N d c hr z1;have hon:Cz nx (n+1)=Cz nx n++CB (nx.getD n []) n:=CA;have hmn:A1 nx (n+1)=A1 nx n++[((max 1 (nx.getD n []).length:Nat):Int)]:=A3;generalize nx.getD n []=row at*
  have hrF:∀{w:World},Chg (fun b=>b=B) w0 w->Sl w F Y rc row:=fun h=>hr3.mono (fun b c=>(h.block b (hF b c).1 (hF b c).2).trans (R.block b (hF b c).1 (hF b c).2).symm) S3
  apply bE;refine TR ?_;refine CW.loop (S:=Nat×Value) (fun s=>[(0,Tg B),(3,Te n),(4,.slice Y row.length rc),(11,.slice C nx.length a),(12,Te nx.length),(13,Te n),(32,.slice Y row.length rc),(33,Te row.length),(34,Te s.1)])
   (fun s w=>s.1<=row.length/\Blk w B 129 [o,J,.slice C nx.length a,s.2,.slice ao' (ir nx (n+1)).length ac',yv,X,W,V,U]/\Fld3 w w0.heap.size B s.2 (.slice ao' (ir nx (n+1)).length ac') yv (Cz nx n++(row.take s.1).map fun x=>(x.1,(n:Int))) (ir nx (n+1)) (A1 nx n)/\Chg (fun b=>b=B) w0 w)
   (fun s=>row.length -s.1) (0,.slice oo (Cz nx n).length oc) SL ⟨QK _,hb3,by simpa using hf3,R⟩ ?_
  clear hb3 hf3;rintro⟨r,ov⟩ w4 ⟨hr0,c,hf,d⟩
  dsimp only at hr0 c hf d⊢
  have z4:=d.size;refine T2 ?_;apply CW.cond rfl<;>intro h
  ·have I:r<row.length:=by simp only[R_]at h;omega
   clear h;have hnx:Cz nx n++(row.take (r+1)).map (fun x:cN=>(x.1,(n:Int)))=(Cz nx n++(row.take r).map (fun x:cN=>(x.1,(n:Int))))++[(row[r].1,(n:Int))]:=by
    rw[PT,On I,Pb,NF];rfl
   have hln:(Cz nx n++(row.take r).map (fun x:cN=>(x.1,(n:Int)))).length=iw nx n+r:=by
    rw[OT,O1,O9,L];omega
   obtain⟨oo,oc,rfl⟩:=hf.o.val;have p:=fun g t=>hf.o.lt g t
   refine T7 ?_;refine fg (i:=r) rfl rfl rfl rfl rfl (hrF d) I SX (fun u q T=>?_);rw[E6 T];clear T;generalize row[r]=ed at*
   refine eF (fun w5 k e5=>?_);refine f_ k (fun l k m=>?_);have e6:Ext w4 l:=MT e5 m e5.size SZ;have z6:=e6.size;have c:=c.ext e6;have hf:=hf.ext e6;have d:=d.trans (Chg.of_ext _ e6);have l6:=k.lt;clear e5 m;have y:Ext l (drew l):=Ext.drew l;have E:=c.ext y;have hb6d:=k.ext y;generalize hOV:Cz nx n++(row.take r).map (fun x:cN=>(x.1,(n:Int)))=OV at*
   have hKs:∀u,(fun z:World=>∀b,b<l.heap.size->(Value.slice oo OV.length oc).ownBlock≠some b->z.heap[b]?=(drew l).heap[b]?) u->u.heap[B]?=(drew l).heap[B]?:=fun u h=>h _ SM (fun e=>by have:=p _ e;omega)
   have hK6:∀u,(fun z:World=>∀b,b<l.heap.size->(Value.slice oo OV.length oc).ownBlock≠some b->z.heap[b]?=(drew l).heap[b]?) u->u.heap[w4.heap.size]?=(drew l).heap[w4.heap.size]?:=fun u h=>h _ SM (fun e=>by have:=(p _ e).2.1;omega)
   refine T1 ?_;refine aF (fun z:World=>∀b,b<l.heap.size->(Value.slice oo OV.length oc).ownBlock≠some b->z.heap[b]?=(drew l).heap[b]?) [(0,true),(1,true),(2,true),(3,true),(4,true),(5,true),(6,true),(7,true),(8,true),(9,false),(10,false),(11,false),(12,false)] 13 mixed SN (fun _ _ _=>rfl) (Us ?_);refine b_ (α:=cN) (F:=di) (bytes:=16) (yv:=(ed.1,(n:Int))) rfl rfl rfl rfl SX rfl rfl SX (hf.o.extN y) (Rd.mkPr (c1:=[Te ed.1]) (c2:=[Te (n:Int)]) (E9 _ _ _) (E9 _ _ _)) (by have:=y.size;omega) S0 SP SS SM
    (fun z hz b c f=>hz.block b c (fun e=>f e.symm)) (fun ov' w7 q2 ho7 A hnb7=>?_)
   rw[<-hnx]at ho7
   have P:=E.kept A (fun e=>by have:=p _ e.symm;omega);have hS7:(fun z:World=>∀b,b<l.heap.size->(Value.slice oo OV.length oc).ownBlock≠some b->z.heap[b]?=(drew l).heap[b]?) w7:=fun b c f=>A.block b c (fun e=>f e.symm)
   obtain⟨oo',oc',rfl⟩:=ho7.val;refine cD rfl (fS rfl rfl rfl (WL.nil (bf hS7 (cD rfl (fm rfl rfl rfl (WL.nil (bf hS7 (HL.nil (bB rfl (f_ P (fun w8 hb8 hg8=>WL.nil (bC ?_))))))))))));obtain⟨hf8,hC8⟩:=(hf.ext y).setO rfl (d.trans (Chg.of_ext _ y)) ho7 A hnb7 hg8;refine Tn ?_;exact EX.back (r+1,_) SL ⟨I,hb8,hf8,hC8⟩ SR
  have hre:r=row.length:=by simp only[R8]at h;omega
  subst hre;rw[PV]at hf
  clear h;have hln:(Cz nx n++row.map (fun x:cN=>(x.1,(n:Int)))).length=iw nx n+row.length:=by
   rw[OT,O1,L]
  obtain⟨oo,oc,rfl⟩:=hf.o.val;have p:=fun g t=>hf.o.lt g t
  apply CW.exit
  repeat (first|apply bJ|apply a_|apply bE)
  refine aB (S:=Option Addr×Nat) (fun _=>[(0,Tg B),(4,.slice Y row.length rc),(11,.slice C nx.length a),(12,Te nx.length),(13,Te n)])
   (fun s w=>Blk w B 129 [o,J,.slice C nx.length a,.slice s.1 (Cz nx (n+1)).length s.2,.slice ao' (ir nx (n+1)).length ac',yv,X,W,V,U]/\Fld3 w w0.heap.size B (.slice s.1 (Cz nx (n+1)).length s.2) (.slice ao' (ir nx (n+1)).length ac') yv (Cz nx (n+1)) (ir nx (n+1)) (A1 nx n)/\Chg (fun b=>b=B) w0 w) ?_ ?_
  ·by_cases h0:row=[]
   ·have K:Cz nx (n+1)=(Cz nx n++row.map (fun x:cN=>(x.1,(n:Int))))++[(-1,(n:Int))]:=by
     rw[hon];unfold CB;rw[Sj h0,h0];simp
    have M:((row.length:Int)==0)=true:=by rw[h0];rfl
    generalize Cz nx n++row.map (fun x:cN=>(x.1,(n:Int)))=OV at*
    refine TR ?_;rw[M];refine TQ ?_;refine eK ?_;refine eH (α:=cN) (F:=di) (bytes:=16) (yv:=(-1,(n:Int))) rfl rfl SX rfl rfl SX hf.o (Rd.mkPr (c1:=[Te (-1)]) (c2:=[Te (n:Int)]) (E9 _ _ _) (E9 _ _ _)) z4 S0 SP SS SM (fun ov' w5 q ho5 hg5 hnb5=>?_);rw[<-K]at ho5
    have hb5:=c.kept hg5 (fun e=>by have:=p _ e.symm;omega);obtain⟨oo',oc',rfl⟩:=ho5.val;refine Uk ?_;refine f_ hb5 (fun l k m=>?_);obtain⟨hf6,hC6⟩:=hf.setO rfl d ho5 hg5 hnb5 m;refine T1 ?_;exact aZ (oo',oc') SL ⟨k,hf6,hC6⟩
   ·have K:Cz nx (n+1)=Cz nx n++row.map (fun x:cN=>(x.1,(n:Int))):=by
     rw[hon];unfold CB;rw[Si h0]
    have M:((row.length:Int)==0)=false:=by
     have:0<row.length:=O3.2 h0;have:(row.length:Int)≠0:=by omega
     simpa using this
    rw[<-K]at hf c
    refine TR ?_;rw[M];refine TD ?_;exact aZ (oo,oc) SL ⟨c,hf,d⟩
  clear c hf p d z4;rintro⟨oo,oc⟩ w5 ⟨c,hf,d⟩
  dsimp only at c hf d
  have z5:=d.size;obtain⟨yo,yc,rfl⟩:=hf.y.val;have hly:=fun g t=>hf.y.lt g t
  have hyl:(A1 nx n).length=n:=manyL_len;refine TQ ?_;refine fL rfl rfl rfl rfl ?_;rw[show max (1:Int) (row.length:Int)=((max 1 row.length:Nat):Int) by omega];refine eH (α:=Int) (F:=di) (bytes:=8) (yv:=((max 1 row.length:Nat):Int)) rfl rfl SX rfl rfl SX hf.y S_ z5 S0 SP SS SM (fun yv' l q ho6 m hnb6=>?_);rw[<-hmn]at ho6
  have k:=c.kept m (fun e=>by have:=hly _ e.symm;omega);obtain⟨yo',yc',rfl⟩:=ho6.val;refine Uk ?_;refine f_ k (fun w7 P A=>?_);obtain⟨hf7,hC7⟩:=hf.setY rfl d ho6 m hnb6 A;refine Tn ?_;exact EX.back (n+1,_,_,_) SL ⟨O,P,hf7,hC7⟩ SR
 have f:n=nx.length:=by simp only[R8]at h;omega
 subst f;have hde:decide (((iw nx nx.length:Nat):Int)<=600)=decide (iw nx nx.length<=600):=by
  by_cases h:iw nx nx.length<=600
  ·rw[R9 h,R9 SM]
  ·rw[R7 h,R7 SM]
 rw[<-hde];refine T6 ?_;exact bj ⟨rfl,_,_,_,c,hf,d⟩
def Fs{u s:Nat}(h:I.results=#[.cell a t,.tmp u,.tmp s])(tmps:Array Value)(P:Program)(w:World){p:Addr}(b:tmps.getD a undef=.pointer (some p))(c:(loadVar t p).run P w=.ok v w):
  (results I tmps).run P w=.ok (.tuple ⟨[v,tmps.getD u undef,tmps.getD s undef]⟩) w:=by
 simp only[MC]at b⊢
 simp[results,h,b,asAddr,c]
def bx{n:Nat}{σ:Sg}{b u s:Nat}{e:TypeId}{k:Nat}{x y:Value}(p:I.results=#[.cell a t,.tmp u,.tmp s])(A:fnd σ a=some (Tg b))(l:fnd σ u=some x)(o:fnd σ s=some y)[q:IsC P t k true](z:Blk w b e r)(m:Aq r=k)(h:c (.tuple ⟨[.agg r.toArray,x,y]⟩) w):
  EX (bodyPost P I fun e w'=>∃v,e=.returned v/\c v w') .ret n σ w:=by
 unfold EX;intro ac d
 refine R3 (Fs p _ _ _ (d.slot a _ A) (v:=.agg r.toArray) ?_) d.defers ⟨_,by rw[d.slot u x l,d.slot s y o],h⟩;rw[Ar]at m
 have f:=Su (P:=P) w ⟨b,0,none⟩ r (fun j u l=>by rw[RT,QJ];exact z.cell l);obtain⟨i,dd,h1,h2,h3,h4⟩:=q.ok;have g:(isAgg t).run P w=.ok true w:=by
  unfold isAgg;rw[Q4,Sy h3 w,<-h4];cases dd<;>rfl
 rw[m]at f
 simp[loadVar,g,sizeOf,typeInfo,h1,h2,f]
structure WorldAt(w:World)(F:Nat->Prop)(v:Value)(A:cZ):Prop where
 ok:∃a1 c1 a2 c2 a3 c3 a4 c4,v=L6 a1 c1 a2 c2 a3 c3 a4 c4 A.1.length A.2.1.length A.2.2.1.length A.2.2.2.length/\Sl w F a1 c1 A.1/\Sl w F a2 c2 A.2.1/\Sl w F a3 c3 A.2.2.1/\Sl w F a4 c4 A.2.2.2
def EN{f:Nat->α}{n:Nat}:(List.range (n+1)).map f=(List.range n).map f++[f n]:=by rw[PL,Pb];rfl
def BU(w:World)(F:Nat->Prop):WorldAt w F (.agg #[.slice none 0 0,.slice none 0 0,.slice none 0 0,.slice none 0 0]) BT:=
 ⟨none,0,none,0,none,0,none,0,rfl,Sl.zero w _,Sl.zero w _,Sl.zero w _,Sl.zero w _⟩
def Gz(w0:World){so fo:Option Addr}{sc fc:Nat}{ns:List cP}{fl:List cO}(hs:Sl w0 (dl w0) so sc ns)(hf:Sl w0 (dl w0) fo fc fl)(tok st:Int):
  Rt UA 21 [Er so sc fo fc ns.length fl.length,Te tok,Te st].toArray w0 fun v w'=>(∃x oo oc,v=.tuple ⟨[x,.slice oo (Gw (ns,fl) tok st).1.2.length oc,Te (Gw (ns,fl) tok st).2]⟩/\WorldAt w' (dl w') x (Gw (ns,fl) tok st).1.1/\Sl w' (dl w') oo oc (Gw (ns,fl) tok st).1.2)/\Ext w0 w':=by
 refine dW Tryz.func21 Tryz.ntmps21 rfl rfl ?_;have T:=Ext.refl w0;refine T9 ?_;refine eJ fun w1 X e1=>?_
 have T:=T.trans e1;skip;refine eF (fun w2 B e2=>?_);have X:=X.ext e2;have T:=T.trans e2;have l1:=X.lt;have l2:=B.lt;have z1:=e1.size;unfold Gw;refine TN ?_;refine eN (bM w2 (hs.up T) (hf.up T) tok st) ?_;rintro _ w3 ⟨mv,nv,rfl,hmv,hnv,e3⟩
 have X:=X.ext e3;have B:=B.ext e3;have T:=T.trans e3;have hnx:=pW (p:=(ns,fl)) (tok:=tok) (st:=st);have hexl:=pU (p:=(ns,fl)) (tok:=tok) (st:=st);generalize pS (ns,fl) tok st=r1 at*
 obtain⟨⟨ml,nx⟩,x1⟩:=r1;dsimp only at hmv hnv hnx hexl⊢
 obtain⟨mo,mc,rfl,hms⟩:=hmv.sl;obtain⟨no,nc,rfl,hns⟩:=hnv.sl;clear hmv hnv;refine Ue ?_;refine eF (fun w4 hb9 e4=>?_);skip;refine f_ hb9 (fun w5 hb9 hg5=>?_);have e5:Ext w3 w5:=MT e4 hg5 e4.size SZ;have X:=X.ext e5;have B:=B.ext e5;have T:=T.trans e5;have hns:=hns.up e5;have z3:=e3.size;have z5:=e5.size;clear e1 e2 e3 e4 e5 hg5 hms;by_cases hx:x1=0
 case neg=>
  have d:(x1 != 0)=true:=by simpa using hx
  rw[Sj hx];refine T2 ?_;rw[d];refine TZ ?_;refine WL.build (parts:=[]) rfl rfl rfl rfl ?_;refine Ue ?_;refine f_ B (fun w6 B hg6=>?_);have hE6:Ext w0 w6:=T.grown hg6 T.size S2;refine T5 ?_;exact bx rfl rfl rfl rfl B rfl ⟨⟨_,none,0,rfl,BU _ _,Sl.zero _ _⟩,hE6⟩
 subst hx;have hN:=hnx rfl;have hst0:=(hexl rfl).1;rw[Si SQ];clear hnx hexl;refine TE ?_;refine eK ?_;skip;refine eJ fun w6 hsb e6=>?_
 have X:=X.ext e6;have B:=B.ext e6;have T:=T.trans e6;have hns6:Sl w6 (dl w5) no nc nx:=hns.at e6;have z6:=e6.size;have l6:=hsb.lt;refine TN ?_;refine eN (dk w6 (hs.up T) (hf.up T)) ?_;rintro _ w7 ⟨lv,rfl,hlo,e7⟩
 have B:=B.ext e7;have hsb:=hsb.ext e7;have T:=T.trans e7;have z7:=e7.size;have hll:=fun g a=>hlo.lt g a
 generalize (Is (ns,fl)).1=sl at*
 obtain⟨lo,lc,rfl⟩:=hlo.val;obtain⟨lo',lc',el,hls⟩:=hlo.sl;obtain⟨rfl,_,rfl⟩:=RS el;refine Uk ?_;refine f_ hsb (fun w8 hsb hg8=>?_);have z8:=hg8.size;have l8:=hsb.lt;have hb68:=B.kept hg8 S6;have hE8:Ext w0 w8:=T.grown hg8 T.size S2;have hk8:∀b,b<w7.heap.size->b≠w5.heap.size->w8.heap[b]?=w7.heap[b]?:=fun b d D=>hg8.block b d (fun e=>D (QV e))
 have hls8:Sl w8 (fun b=>b<w8.heap.size/\b≠w5.heap.size) lo lc sl:=hls.mono (fun b d=>d.elim (fun h=>h.elim) (fun h=>hk8 b (hll b h).2.1 (by have:=(hll b h).1;omega))) (fun b d=>d.elim (fun h=>h.elim) (fun h=>⟨by have:=(hll b h).2.1;omega,by have:=(hll b h).1;omega⟩));have hns8:Sl w8 (dl w5) no nc nx:=hns6.mono (fun b d=>by
  have d:b<w5.heap.size:=d;exact(hk8 b SM SM).trans (e7.block b SM)) S3
 clear hk8 e7 hls hns hns6 hlo hll B T;refine T2 ?_;refine eN (Ip w8 hsb hns8 (fun b d=>by
  have d:b<w5.heap.size:=d;exact⟨by omega,by omega⟩) hN.row hN.n) ?_
 rintro _ n ⟨rfl,ov,av,yv,hsb9,R,hC9⟩
 have z9:=hC9.size;have l9:=hsb9.lt;have hb69:Blk n _ _ _:=(hC9.block _ SM (fun h=>by omega)).trans hb68;have hE9:Ext w0 n:=Chg.ext hE8 hC9 (fun b d=>by subst d;omega);have q1:Sl n (Fz n (fun b=>b=w5.heap.size)) lo lc sl:=Sl.fz (M:=fun b=>b=w5.heap.size) hls8 hC9 (fun b h=>.inl h);have q2:Sl n (Fz n (fun b=>b=w5.heap.size)) no nc nx:=Sl.fz (M:=fun b=>b=w5.heap.size) (hns8.mono S8 (fun b d=>by
  have d:b<w5.heap.size:=d;exact⟨by omega,by omega⟩)) hC9 (fun b h=>.inl h)
 obtain⟨oo,oc,rfl,q3⟩:=R.o.slF (F':=fun b=>w8.heap.size<=b/\b<n.heap.size) S0 (fun g a=>⟨(R.o.lt g a).1,(R.o.lt g a).2.1⟩);obtain⟨ao,ac,rfl,q4⟩:=R.a.slF (F':=fun b=>w8.heap.size<=b/\b<n.heap.size) S0 (fun g a=>⟨(R.a.lt g a).1,(R.a.lt g a).2.1⟩);obtain⟨yo,yc,rfl,q5⟩:=R.y.slF (F':=fun b=>w8.heap.size<=b/\b<n.heap.size) S0 (fun g a=>⟨(R.y.lt g a).1,(R.y.lt g a).2.1⟩);rw[atL_len,manyL_len,show(Cz nx nx.length).length=iw nx nx.length from rfl]at hsb9
 have hmk:∀{w:World} {x1 x2 x3 x4:Value},Chg (fun b=>b=w5.heap.size) n w->Blk w w5.heap.size 129 [.slice lo sl.length lc,.agg [.slice mo ml.length mc,.slice no nx.length nc].toArray,.slice no nx.length nc,.slice oo (iw nx nx.length) oc,.slice ao nx.length ac,.slice yo nx.length yc,x1,x2,x3,x4]->True:=fun _ _=>trivial
 have hrun:∀{w:World} {mv x1 x2 x3 x4:Value},Chg (fun b=>b=w5.heap.size) n w->Blk w w5.heap.size 129 [.slice lo sl.length lc,mv,.slice no nx.length nc,.slice oo (iw nx nx.length) oc,.slice ao nx.length ac,.slice yo nx.length yc,x1,x2,x3,x4]->RunAt w w5.heap.size sl nx:=fun {w} {mv} {x1} {x2} {x3} {x4} hC d=>by
  have hk:∀b,w8.heap.size<=b/\b<n.heap.size->w.heap[b]?=n.heap[b]?:=fun b d=>hC.block b d.2 (fun h=>by omega)
  have hl:∀b,w8.heap.size<=b/\b<n.heap.size->dl w b:=fun b d=>Qn d.2 hC.size
  exact⟨lo,lc,mv,no,nc,oo,oc,ao,ac,yo,yc,x1,x2,x3,x4,d,(q1.fz hC (fun b h=>.inl h)).old',(q2.fz hC (fun b h=>.inl h)).old',q3.mono hk hl,q4.mono hk hl,q5.mono hk hl⟩
 clear hmk R hC9 hsb hb68 hls8 hns8;have hat:=iy hN.row nx.length;have hn200:=hN.n;have hsl:=hN.sl;by_cases h600:iw nx nx.length<=600
 case neg=>
  rw[R7 h600,Sj SM];refine T4 ?_;refine WL.build (parts:=[]) rfl rfl rfl rfl ?_;skip;refine f_ hb69 (fun q B hg6=>?_);have hE6:Ext w0 q:=hE9.grown hg6 hE9.size S2;refine T5 ?_;exact bx rfl rfl rfl rfl B rfl ⟨⟨_,none,0,rfl,BU _ _,Sl.zero _ _⟩,hE6⟩
 rw[R9 h600,Si SM];generalize hNN:iw nx nx.length=NN at*
 refine TS ?_;refine CW.loop (S:=Nat×Value×Value×List Raw) (fun s=>[(6,Tg w1.heap.size),(11,Tg w5.heap.size),(44,Te (NN:Nat)),(45,Te s.1)])
  (fun s w=>s.1<=NN/\Blk w w5.heap.size 129 [.slice lo sl.length lc,.slice mo ml.length mc,.slice no nx.length nc,.slice oo NN oc,.slice ao nx.length ac,.slice yo nx.length yc,.slice none 0 0,s.2.1,s.2.2.1,.slice none 0 0]/\Own w n.heap.size 39 di s.2.1 s.2.2.2/\
   InnR w (fun b=>b=w5.heap.size\/s.2.1.ownBlock=some b\/s.2.2.1.ownBlock=some b\/b<n.heap.size) s.2.2.2 ((List.range s.1).map (BN nx))/\Own w n.heap.size 131 di s.2.2.1 ((List.range s.1).map (Aa sl nx))/\(∀g,s.2.1.ownBlock=some g->s.2.2.1.ownBlock≠some g)/\Chg (fun b=>b=w5.heap.size) n w)
  (fun s=>NN -s.1) (0,.slice none 0 0,.slice none 0 0,[]) SL ⟨QK _,hsb9,Own.nil,InnR.nil,Own.nil,(fun g a=>by cases a),Chg.refl _ _⟩ ?_
 rintro⟨j,nv,lbv,vs⟩ q ⟨hj0,C,hon,inn,hol,hdis,y⟩
 dsimp only at hj0 C hon inn hol hdis y⊢
 have z10:=y.size;have hln:=fun g a=>hon.lt g a
 have G:=fun g a=>hol.lt g a
 have hvl:vs.length=j:=by rw[inn.len];simp
 obtain⟨nvo,nvc,rfl⟩:=hon.val;obtain⟨lbo,lbc,rfl⟩:=hol.val;refine T2 ?_;apply CW.cond rfl<;>intro h
 ·have hj:j<NN:=by simp only[R_]at h;omega
  clear h;have Z:Ext q (drew q):=Ext.drew q;have J:=C.ext Z;have hKs:∀u,(fun z:World=>∀b,b<q.heap.size->(Value.slice nvo vs.length nvc).ownBlock≠some b->z.heap[b]?=(drew q).heap[b]?) u->u.heap[w5.heap.size]?=(drew q).heap[w5.heap.size]?:=fun u h=>h _ SM (fun e=>by have:=hln _ e;omega)
  refine TI ?_;refine aF (fun z:World=>∀b,b<q.heap.size->(Value.slice nvo vs.length nvc).ownBlock≠some b->z.heap[b]?=(drew q).heap[b]?) [(0,true),(1,true),(2,true),(3,true),(4,true),(5,true),(6,true),(7,true),(8,false),(9,false),(10,false),(11,false),(12,false),(13,false)] 14 mixed SN (fun _ _ _=>rfl) ?_;refine Us ?_;refine cD rfl (eN (FG (drew q) ((hrun y C).up Z) hN (by rw[hNN];exact hj)) ?_);rintro rv w11 ⟨hro,H⟩
  have I:=Z.trans H;have z11:=I.size;have hlr:=fun g a=>hro.lt g a
  obtain⟨ro,rc,rfl⟩:=hro.val;refine WL.nil (bf (fun b d _=>H.block b d) ?_);refine b_ (α:=Raw) (F:=di) (bytes:=24) (yv:=(⟨.slice ro (BN nx j).length rc⟩:Raw)) rfl rfl rfl rfl SX rfl rfl SX (hon.extN I) (Rd.mkRaw _ _ _ rfl) SM S0 SP SS SM
   (fun z hz b d D=>(hz.block b SM (fun e=>D e.symm)).trans (H.block b d)) (fun nv' E q12 ho12 i hnb12=>?_)
  have O:=(J.ext H).kept i (fun e=>by have:=hln _ e.symm;omega);have z12:=i.size;have hS12:(fun z:World=>∀b,b<q.heap.size->(Value.slice nvo vs.length nvc).ownBlock≠some b->z.heap[b]?=(drew q).heap[b]?) E:=fun b d D=>(i.block b SM (fun e=>D e.symm)).trans (H.block b d)
  obtain⟨nvo',nvc',rfl⟩:=ho12.val;refine cD rfl (fS rfl rfl rfl (WL.nil (bf hS12 ?_)));refine cD rfl (fm rfl rfl rfl (WL.nil (bf hS12 ?_)));refine cD rfl (fm rfl rfl rfl (WL.nil (bf hS12 (HL.nil ?_))));refine bB rfl (f_ O (fun c r U=>WL.nil (bC ?_)));have z13:=U.size;have hnn:∀g,(Value.slice nvo' (vs++[(⟨.slice ro (BN nx j).length rc⟩:Raw)]).length nvc').ownBlock=some g->g≠w5.heap.size/\n.heap.size<=g:=fun g a=>⟨fun e=>by have:=(ho12.lt g a).1;omega,(ho12.lt g a).1⟩
  have hon13:=ho12.keptN U (fun g a e=>(hnn g a).1 (QV e));have hol13:=((hol.extN I).keptN i (fun g a e=>hdis g e.symm a)).keptN U (fun g a e=>by have:=QV e;have:=G g a;omega);have hdis13:∀g,(Value.slice nvo' (vs++[(⟨.slice ro (BN nx j).length rc⟩:Raw)]).length nvc').ownBlock=some g->(Value.slice lbo ((List.range j).map (Aa sl nx)).length lbc).ownBlock≠some g:=fun g a e=>by
   rcases hnb12 g a with h|h
   ·exact hdis g h e
   ·have:=(G g e).2.1;omega
  have t:Chg (fun b=>b=w5.heap.size) n c:=((y.trans (Chg.of_ext _ I)).then (Chg.of_grown i) (fun b h=>.inr (hln b h).1)).grown U (fun g a=>by cases a;rfl);have V:Rd w11 (Fz w11 (fun b=>b=w5.heap.size\/(Value.slice nvo vs.length nvc).ownBlock=some b\/(Value.slice lbo ((List.range j).map (Aa sl nx)).length lbc).ownBlock=some b\/b<n.heap.size)) (.slice ro (BN nx j).length rc) (BN nx j):=
   hro.rd.mono S8 (fun g a=>a.elim (fun h=>h.elim) (fun a=>⟨(hlr g a).2.1,fun h=>by
    have h1:q.heap.size<=g:=(hlr g a).1;rcases h with h|h|h|h
    ·omega
    ·have:=(hln g h).2.1;omega
    ·have:=(G g h).2.1;omega
    ·omega⟩))
  have inn11:=(inn.to (Chg.of_ext _ I) (fun b h=>.inl h)).push V;have hC1113:Chg (fun b=>b=w5.heap.size\/(Value.slice nvo vs.length nvc).ownBlock=some b\/(Value.slice lbo ((List.range j).map (Aa sl nx)).length lbc).ownBlock=some b\/b<n.heap.size) w11 c:=((Chg.of_grown i).wk (fun b h=>.inr (.inl h))).grown U S7;have inn13:=inn11.to hC1113 (M':=fun b=>b=w5.heap.size\/(Value.slice nvo' (vs++[(⟨.slice ro (BN nx j).length rc⟩:Raw)]).length nvc').ownBlock=some b\/(Value.slice lbo ((List.range j).map (Aa sl nx)).length lbc).ownBlock=some b\/b<n.heap.size) (fun b h=>by
   rcases h with h|h|h|h
   ·exact .inl (.inl h)
   ·exact(hnb12 b h).imp (fun h=>.inr (.inl h)) id
   ·exact .inl (.inr (.inr (.inl h)))
   ·exact .inl (.inr (.inr (.inr h))))
  rw[<-EN]at inn13
  have hln13:=fun g a=>hon13.lt g a
  clear hKs hS12 Z J H I hlr hro O i U hnb12 ho12 V inn11 hC1113 inn hon hol hdis hnn y C hln;apply bE;have Z:Ext c (drew c):=Ext.drew c;have J:=r.ext Z;have hKs:∀u,(fun z:World=>∀b,b<c.heap.size->(Value.slice lbo ((List.range j).map (Aa sl nx)).length lbc).ownBlock≠some b->z.heap[b]?=(drew c).heap[b]?) u->u.heap[w5.heap.size]?=(drew c).heap[w5.heap.size]?:=fun u h=>h _ SM (fun e=>by have:=G _ e;omega)
  have hlbl:((List.range j).map (Aa sl nx)).length=j:=by simp
  skip;refine aF (fun z:World=>∀b,b<c.heap.size->(Value.slice lbo ((List.range j).map (Aa sl nx)).length lbc).ownBlock≠some b->z.heap[b]?=(drew c).heap[b]?) [(0,true),(1,true),(2,true),(3,true),(4,true),(5,true),(6,true),(7,true),(8,false),(9,false),(10,false),(11,false),(12,false),(13,false)] 14 mixed SN (fun _ _ _=>rfl) ?_;refine Us ?_;refine cD rfl (eN (FD (drew c) ((hrun t r).up Z) hN (by rw[hNN];exact hj)) ?_);rintro _ A ⟨rfl,hlt64,Q⟩
  have l:=Z.trans Q;have z14:=l.size;refine WL.nil (bf (fun b d _=>Q.block b d) ?_);refine b_ (α:=Nat) (F:=di) (bytes:=8) (yv:=Aa sl nx j) rfl rfl rfl rfl SX rfl rfl SX (hol13.extN l) ⟨_,rfl,E_ _ _ _ hlt64⟩ SM S0 SP SS SM
   (fun z hz b d D=>(hz.block b SM (fun e=>D e.symm)).trans (Q.block b d)) (fun lb' w15 q15 K o W=>?_)
  rw[<-EN]at K
  have hsb15:=(J.ext Q).kept o (fun e=>by have:=G _ e.symm;omega);have z15:=o.size;have P:(fun z:World=>∀b,b<c.heap.size->(Value.slice lbo ((List.range j).map (Aa sl nx)).length lbc).ownBlock≠some b->z.heap[b]?=(drew c).heap[b]?) w15:=fun b d D=>(o.block b SM (fun e=>D e.symm)).trans (Q.block b d)
  obtain⟨lbo',lbc',rfl⟩:=K.val;refine cD rfl (fS rfl rfl rfl (WL.nil (bf P ?_)));refine cD rfl (fm rfl rfl rfl (WL.nil (bf P ?_)));refine cD rfl (fm rfl rfl rfl (WL.nil (bf P (HL.nil ?_))));refine bB rfl (f_ hsb15 (fun w16 hsb16 L=>WL.nil (bC ?_)));have hol16:=K.keptN L (fun g a e=>by have:=QV e;have:=(K.lt g a).1;omega);have hon16:=((hon13.extN l).keptN o (fun g a e=>hdis13 g a e.symm)).keptN L (fun g a e=>by have:=QV e;have:=hln13 g a;omega);have hC16:Chg (fun b=>b=w5.heap.size) n w16:=((t.trans (Chg.of_ext _ l)).then (Chg.of_grown o) (fun b h=>.inr (G b h).1)).grown L (fun g a=>by cases a;rfl);have Y:Chg (fun b=>b=w5.heap.size\/(Value.slice nvo' (vs++[(⟨.slice ro (BN nx j).length rc⟩:Raw)]).length nvc').ownBlock=some b\/(Value.slice lbo ((List.range j).map (Aa sl nx)).length lbc).ownBlock=some b\/b<n.heap.size) A w16:=((Chg.of_grown o).wk (fun b h=>.inr (.inr (.inl h)))).grown L S7;have inn16:=(inn13.to (Chg.of_ext _ l) (fun b h=>.inl h)).to Y (M':=fun b=>b=w5.heap.size\/(Value.slice nvo' (vs++[(⟨.slice ro (BN nx j).length rc⟩:Raw)]).length nvc').ownBlock=some b\/(Value.slice lbo' ((List.range (j+1)).map (Aa sl nx)).length lbc').ownBlock=some b\/b<n.heap.size) (fun b h=>by
   rcases h with h|h|h|h
   ·exact .inl (.inl h)
   ·exact .inl (.inr (.inl h))
   ·exact(W b h).imp (fun h=>.inr (.inr (.inl h))) id
   ·exact .inl (.inr (.inr (.inr h))))
  have hdis16:∀g,(Value.slice nvo' (vs++[(⟨.slice ro (BN nx j).length rc⟩:Raw)]).length nvc').ownBlock=some g->(Value.slice lbo' ((List.range (j+1)).map (Aa sl nx)).length lbc').ownBlock≠some g:=fun g a e=>by
   rcases W g e with h|h
   ·exact hdis13 g a h
   ·have:=(hln13 g a).2.1;omega
  refine Tn ?_;exact EX.back (j+1,_,_,_) SL ⟨hj,hsb16,hon16,inn16,hol16,hdis16,hC16⟩ SR
 have hje:j=NN:=by simp only[R8]at h;omega
 subst hje;clear h;have hC10':=y;have hR10:=hrun y C;have hb610:Blk q _ _ _:=(y.block _ SM (fun h=>by omega)).trans hb69;have hE10:Ext w0 q:=Chg.ext hE9 y (fun b d=>by subst d;omega);refine TO ?_;refine eN (gP q (m:=0) hR10 hN hN.pos) ?_;rintro sv w11 ⟨hos,H⟩
 have hsb11:=C.ext H;have z11:=H.size;have hlos:=fun g a=>hos.lt g a
 obtain⟨sto,stc,rfl⟩:=hos.val;refine Uk ?_;refine f_ hsb11 (fun E O i=>?_);have z12:=i.size;have N:Chg (fun b=>b=w5.heap.size) q E:=(Chg.of_ext _ H).grown i (fun g a=>by cases a;rfl);have hC12:=y.trans N;have hb612:Blk E _ _ _:=(N.block _ SM (fun h=>by omega)).trans hb610;have hE12:Ext w0 E:=Chg.ext hE10 N (fun b d=>by subst d;omega);have hon12:=(hon.extN H).keptN i (fun g a e=>by have:=QV e;have:=hln g a;omega);have hol12:=(hol.extN H).keptN i (fun g a e=>by have:=QV e;have:=G g a;omega);have hos12:=hos.keptN i (fun g a e=>by have:=QV e;have:=hlos g a;omega);have inn12:=inn.to (N.wk (M':=fun b=>b=w5.heap.size\/(Value.slice nvo vs.length nvc).ownBlock=some b\/(Value.slice lbo ((List.range j).map (Aa sl nx)).length lbc).ownBlock=some b\/b<n.heap.size) (fun b h=>.inl h)) (fun b h=>.inl h);obtain⟨nvo2,nvc2,en,s2⟩:=inn12.sl (F:=Fz E (fun b=>b=w5.heap.size\/b<n.heap.size)) hon12 (fun b d=>⟨d.1,fun h=>d.2 (h.elim .inl fun h=>.inr (.inr (.inr h)))⟩) (fun g a=>⟨(hon12.lt g a).2.1,fun h=>by have:=(hln g a).1;rcases h with h|h<;>omega⟩);obtain⟨rfl,hnlen,rfl⟩:=RS en;obtain⟨lbo2,lbc2,en2,s3⟩:=hol12.slF (F':=Fz E (fun b=>b=w5.heap.size\/b<n.heap.size)) S0 (fun g a=>⟨(hol12.lt g a).2.1,fun h=>by have:=(G g a).1;rcases h with h|h<;>omega⟩);obtain⟨rfl,_,rfl⟩:=RS en2;obtain⟨sto2,stc2,en3,s1⟩:=hos12.slF (F':=Fz E (fun b=>b=w5.heap.size\/b<n.heap.size)) S0 (fun g a=>⟨(hos12.lt g a).2.1,fun h=>by have:=(hlos g a).1;rcases h with h|h<;>omega⟩);obtain⟨rfl,_,rfl⟩:=RS en3;rw[hnlen]at O
 clear hon hol hos inn hdis hC10' hon12 hol12 hos12 inn12 hln G hlos en en2 en3 hR10 C hsb11 H i hE10 hb610 y;refine TQ ?_;refine CW.loop (S:=Nat×Value×List Raw) (fun s=>[(6,Tg w1.heap.size),(11,Tg w5.heap.size),(87,Te sl.length),(88,Te s.1)])
  (fun s w=>s.1<=sl.length/\Blk w w5.heap.size 129 [.slice lo sl.length lc,.slice mo ml.length mc,.slice no nx.length nc,.slice oo j oc,.slice ao nx.length ac,.slice yo nx.length yc,.slice sto (gH nx 0).length stc,.slice nvo ((List.range j).map (BN nx)).length nvc,.slice lbo ((List.range j).map (Aa sl nx)).length lbc,s.2.1]/\Own w E.heap.size 39 di s.2.1 s.2.2/\
   InnR w (fun b=>b=w5.heap.size\/s.2.1.ownBlock=some b\/b<n.heap.size) s.2.2 ((List.range s.1).map fun k:Nat=>p_ nx (k:Int))/\Chg (fun b=>b=w5.heap.size) E w)
  (fun s=>sl.length -s.1) (0,.slice none 0 0,[]) SL ⟨QK _,O,Own.nil,InnR.nil,Chg.refl _ _⟩ ?_
 rintro⟨k,fv,ws⟩ c ⟨hk0,r,hof,inf,t⟩
 dsimp only at hk0 r hof inf t⊢
 have z13:=t.size;have hlf:=fun g a=>hof.lt g a
 have hwl:ws.length=k:=by rw[inf.len];simp
 obtain⟨fvo,fvc,rfl⟩:=hof.val;refine T2 ?_;apply CW.cond rfl<;>intro h
 ·have hk:k<sl.length:=by simp only[R_]at h;omega
  clear h;have Z:Ext c (drew c):=Ext.drew c;have J:=r.ext Z;have hKs:∀u,(fun z:World=>∀b,b<c.heap.size->(Value.slice fvo ws.length fvc).ownBlock≠some b->z.heap[b]?=(drew c).heap[b]?) u->u.heap[w5.heap.size]?=(drew c).heap[w5.heap.size]?:=fun u h=>h _ SM (fun e=>by have:=hlf _ e;omega)
  refine TI ?_;refine aF (fun z:World=>∀b,b<c.heap.size->(Value.slice fvo ws.length fvc).ownBlock≠some b->z.heap[b]?=(drew c).heap[b]?) [(0,true),(1,true),(2,true),(3,true),(4,true),(5,true),(6,true),(7,true),(8,false),(9,false),(10,false),(11,false),(12,false),(13,false)] 14 mixed SN (fun _ _ _=>rfl) ?_;refine Us ?_;refine cD rfl (eN (qi (drew c) (k:=k) ((hrun (hC12.trans t) r).up Z) hN) ?_);rintro rv A ⟨hro,Q⟩
  have l:=Z.trans Q;have z14:=l.size;have hlr:=fun g a=>hro.lt g a
  obtain⟨ro,rc,rfl⟩:=hro.val;refine WL.nil (bf (fun b d _=>Q.block b d) ?_);refine b_ (α:=Raw) (F:=di) (bytes:=24) (yv:=(⟨.slice ro (p_ nx (k:Int)).length rc⟩:Raw)) rfl rfl rfl rfl SX rfl rfl SX (hof.extN l) (Rd.mkRaw _ _ _ rfl) SM S0 SP SS SM
   (fun z hz b d D=>(hz.block b SM (fun e=>D e.symm)).trans (Q.block b d)) (fun fv' w15 q15 K o W=>?_)
  have hsb15:=(J.ext Q).kept o (fun e=>by have:=hlf _ e.symm;omega);have z15:=o.size;have P:(fun z:World=>∀b,b<c.heap.size->(Value.slice fvo ws.length fvc).ownBlock≠some b->z.heap[b]?=(drew c).heap[b]?) w15:=fun b d D=>(o.block b SM (fun e=>D e.symm)).trans (Q.block b d)
  obtain⟨fvo',fvc',rfl⟩:=K.val;refine cD rfl (fS rfl rfl rfl (WL.nil (bf P ?_)));refine cD rfl (fm rfl rfl rfl (WL.nil (bf P ?_)));refine cD rfl (fm rfl rfl rfl (WL.nil (bf P (HL.nil ?_))));refine bB rfl (f_ hsb15 (fun w16 hsb16 L=>WL.nil (bC ?_)));have hof16:=K.keptN L (fun g a e=>by have:=QV e;have:=(K.lt g a).1;omega);have hC16:Chg (fun b=>b=w5.heap.size) E w16:=((t.trans (Chg.of_ext _ l)).then (Chg.of_grown o) (fun b h=>.inr (hlf b h).1)).grown L (fun g a=>by cases a;rfl);have V:Rd A (Fz A (fun b=>b=w5.heap.size\/(Value.slice fvo ws.length fvc).ownBlock=some b\/b<n.heap.size)) (.slice ro (p_ nx (k:Int)).length rc) (p_ nx (k:Int)):=
   hro.rd.mono S8 (fun g a=>a.elim (fun h=>h.elim) (fun a=>⟨(hlr g a).2.1,fun h=>by
    have h1:c.heap.size<=g:=(hlr g a).1;rcases h with h|h|h
    ·omega
    ·have:=(hlf g h).2.1;omega
    ·omega⟩))
  have inf14:=(inf.to (Chg.of_ext _ l) (fun b h=>.inl h)).push V;have Y:Chg (fun b=>b=w5.heap.size\/(Value.slice fvo ws.length fvc).ownBlock=some b\/b<n.heap.size) A w16:=((Chg.of_grown o).wk (fun b h=>.inr (.inl h))).grown L S7;have inf16:=inf14.to Y (M':=fun b=>b=w5.heap.size\/(Value.slice fvo' (ws++[(⟨.slice ro (p_ nx (k:Int)).length rc⟩:Raw)]).length fvc').ownBlock=some b\/b<n.heap.size) (fun b h=>by
   rcases h with h|h|h
   ·exact .inl (.inl h)
   ·exact(W b h).imp (fun h=>.inr (.inl h)) id
   ·exact .inl (.inr (.inr h)))
  rw[<-EN (f:=fun k:Nat=>p_ nx (k:Int))]at inf16
  refine Tn ?_;exact EX.back (k+1,_,_) SL ⟨hk,hsb16,hof16,inf16,hC16⟩ SR
 have hke:k=sl.length:=by simp only[R8]at h;omega
 subst hke;clear h;obtain⟨fvo2,fvc2,en4,s4⟩:=inf.sl (F:=Fz c (fun b=>b=w5.heap.size\/b<n.heap.size)) hof (fun b d=>⟨d.1,fun h=>d.2 (h.elim .inl fun h=>.inr (.inr h))⟩) (fun g a=>⟨(hof.lt g a).2.1,fun h=>by have:=(hlf g a).1;rcases h with h|h<;>omega⟩);obtain⟨rfl,hflen,rfl⟩:=RS en4;rw[hflen]at r
 have hb613:Blk c _ _ _:=(t.block _ SM (fun h=>by omega)).trans hb612;have hE13:Ext w0 c:=Chg.ext hE12 t (fun b d=>by subst d;omega);have Z:Ext c (drew c):=Ext.drew c;have J:=r.ext Z;have hb6d:=hb613.ext Z;have hKs:∀u,(fun z:World=>z.heap[w5.heap.size]?=(drew c).heap[w5.heap.size]?) u->u.heap[w5.heap.size]?=(drew c).heap[w5.heap.size]?:=fun u h=>h
 refine TO ?_;refine aG (fun z:World=>z.heap[w5.heap.size]?=(drew c).heap[w5.heap.size]?) [(0,true),(1,true),(2,true),(3,true),(4,true),(5,true),(6,true),(7,true),(8,false),(9,true),(10,true)] mixed SN rfl ?_;refine Ut ?_;refine cw hKs rfl rfl rfl rfl J rfl ?_;refine Us ?_;refine cD rfl (f_ hb6d (fun A hb14 hg14=>WL.nil (bf ?_ ?_)))
 ·exact hg14.block _ (by have:=Z.size;omega) S6
 refine Uu ?_;have z14:c.heap.size<=A.heap.size:=hg14.size;have hE14:Ext w0 A:=(hE13.trans Z).grown hg14 (by have:=hE13.size;have:=Z.size;omega) S2;have hk13:∀b,b<c.heap.size->b≠w1.heap.size->A.heap[b]?=c.heap[b]?:=fun b d D=>hg14.block b d (fun e=>D (QV e))
 have hfin:∀b,Fz E (fun b=>b=w5.heap.size\/b<n.heap.size) b->A.heap[b]?=E.heap[b]?:=fun b d=>by
  have h1:n.heap.size<=b:=Qi (fun hx=>d.2 (.inr hx));have h2:=d.1;exact(hk13 b SM SM).trans (t.block b d.1 (fun h=>d.2 (.inl h)))
 have hle:∀b,Fz E (fun b=>b=w5.heap.size\/b<n.heap.size) b->dl A b:=fun b d=>(show b<A.heap.size by have:=d.1;omega)
 have hC913:=hC12.trans t;have s5:Sl A (dl A) oo oc (Cz nx nx.length):=q3.mono (fun b d=>(hk13 b (by have:=d.2;omega) (by have:=d.1;omega)).trans (hC913.block b d.2 (fun h=>by have:=d.1;omega))) (fun b d=>(show b<A.heap.size by have:=d.2;omega));refine TV ?_;subst hNN;exact bx rfl rfl rfl rfl hb14 rfl ⟨⟨_,oo,oc,rfl,⟨sto,stc,nvo,nvc,lbo,lbc,fvo,fvc,rfl,s1.mono hfin hle,s2.mono hfin hle,s3.mono hfin hle,s4.mono (fun b d=>hk13 b d.1 (by have:=Qi (fun hx=>d.2 (.inr hx));omega)) (fun b d=>(show b<A.heap.size by have:=d.1;omega))⟩,s5⟩,hE14⟩
def Gx{p:cR}{tok st:Int}(h:(Gw p tok st).2=0):(pS p tok st).2=0/\iw (pS p tok st).1.2 (pS p tok st).1.2.length<=600/\(Gw p tok st).1=(GA (Is p).1 (pS p tok st).1.2,Cz (pS p tok st).1.2 (pS p tok st).1.2.length):=by
 unfold Gw at h⊢
 split at h
 ·rename_i g;exact absurd h g
 rename_i g1;split at h
 ·cases h
 rename_i g2;rw[Si g1,Si g2];exact⟨by simpa using g1,by omega,rfl⟩
def Fj{n k:Nat}(h:k<n):(List.replicate n true).getD k false=true:=by
 rw[Oi,Ov,Sj h];rfl
noncomputable abbrev gD(nx fr:bZ):List Bool:=LT nx (List.replicate nx.length true) fr
def gM{nx:bZ}(a:okG nx){u v:Nat}:Eg (inG nx (List.replicate nx.length true)) u v↔Eg nx u v:=by
 rw[inG_edge];exact⟨fun h=>h.1,fun h=>⟨h,Fj h.lt1,Fj (h.lt a)⟩⟩
def gE{nx fr:bZ}(a:okG nx){n:Nat}(h:n<nx.length):(gD nx fr).getD n false=true↔∃r,r 0=n/\Way8 (Eg nx) (Hc fr) r:=by
 rw[LU h,show Eg (inG nx (List.replicate nx.length true))=Eg nx from funext fun u=>funext fun v=>propext (gM a)]
def bR(w0:World){a1 a4:Option Addr}{c1 c2 k:Nat}{st:List Int}{nx fr:bZ}(h1:Sl w0 (dl w0) a1 c1 st)(h2:Sl w0 (dl w0) C c2 nx)(X:k<=9223372036854775807)(h4:Sl w0 (dl w0) a4 a fr)(hT:oB nx<=8589934592):
  Rt UA 95 [L6 a1 c1 C c2 D B a4 a st.length nx.length k fr.length].toArray w0 fun v w'=>∃x,v=.tuple ⟨[x,Te (lq st nx k fr)]⟩/\Own w' w0.heap.size 4 di x (if lq st nx k fr=0 then gD nx fr else [])/\Ext w0 w':=by
 have U:=h2.len63;refine dU Tryz.func95 Tryz.ntmps95 rfl rfl ?_;have f:=Ext.refl w0;refine T9 ?_;refine eJ fun R o e1=>?_
 have f:=f.trans e1;refine TN ?_;refine eN (Ll R (h1.up f) (h2.up f) X (h4.up f)) ?_;rintro _ p ⟨rfl,O⟩
 have o:=o.ext O;have f:=f.trans O;refine T2 ?_;apply CW.cond rfl<;>intro h
 ·have h:lq st nx k fr≠0:=by simpa using h
  refine Tw ?_;exact bl rfl rfl rfl ⟨_,rfl,by rw[Si h];exact Own.nil,f⟩
 have h:lq st nx k fr=0:=by simpa using h
 obtain⟨l,N,W,E,g,j⟩:=lr h;have F:okG nx:=fun r T=>(g r T).2
 rw[Sj h,h];refine TS ?_;refine fK (α:=Bool) rfl rfl rfl rfl SM SS (fun Q ho3 K=>?_);have e3:Ext p Q:=(MW _ _).grown K Ta S5;generalize z:Value.slice (some ⟨p.heap.size,0,none⟩) nx.length nx.length=sv at*
 have V:∃ao cap,sv=.slice ao nx.length cap:=⟨_,_,z.symm⟩;refine TU ?_;rw[O5];refine CW.loop (S:=Nat×List Bool) (fun s=>[(1,Tg w0.heap.size),(5,sv),(17,Te nx.length),(18,Te s.1)])
  (fun s w=>s.1<=nx.length/\Own w p.heap.size 4 di sv s.2/\s.2.length=nx.length/\(∀c,c<s.1->s.2.getD c false=true)/\Ext p w) (fun s=>nx.length -s.1) (0,List.replicate nx.length false) SL ⟨QK _,ho3,by simp,fun c L=>absurd L SR,e3⟩ ?_
 rintro⟨i,inn⟩ P ⟨hi,t,n,m,y⟩
 dsimp only at hi t n m⊢
 have d:=f.trans y;have Y:=o.ext y;refine T2 ?_;apply CW.cond rfl<;>intro h
 ·have I:i<nx.length:=by simp at h;omega
  refine TI ?_;refine f6 (u:=.bool true) (yv:=true) rfl rfl rfl rfl t (show i<inn.length by omega) SX SX (Rd.mkBool _ _ _) (fun w5 q2 ho5 J=>?_);have M:Ext p w5:=y.grown J y.size (fun b Z=>(t.lt b Z).1);refine Tn ?_;refine EX.back (i+1,inn.set i true) SL ⟨I,ho5,by simpa using n,fun c L=>?_,M⟩ SR;dsimp only at L⊢
  rw[tg SM];by_cases e:i=c
  ·rw[Sj e]
  ·rw[Si e];exact m c SM
 obtain rfl:i=nx.length:=by simp at h;omega
 have q:inn=List.replicate nx.length true:=by
  refine N4 (by simpa using n) fun c h1 h2=>?_
  rw[<-LP h1,OI];exact m c SM
 subst q;obtain⟨io,ic,G,H⟩:=t.oldN.sl;subst G;refine Ub ?_;refine eN (gj P (h2.up d) (h4.up d) H F j SQ l hT) ?_;rintro v w5 ⟨A,M⟩
 refine Tk ?_;exact bl rfl rfl rfl ⟨_,rfl,A.low d.size,d.trans M⟩
def FQ(nx:List (List cN)):List (List Int):=(List.range (iw nx nx.length)).map (BN nx)
def FY(K:Nat)(nx:List (List cN)):List (List Int):=(List.range K).map fun k:Nat=>p_ nx (k:Int)
def FU{nx:List (List cN)}:(FQ nx).length=iw nx nx.length:=by simp[FQ]
def FT{nx:List (List cN)}{j:Nat}(h:j<iw nx nx.length):(FQ nx).getD j []=BN nx j:=by
 unfold FQ;rw[Oi,Ot,Ou h];rfl
def gI{nx:List (List cN)}{m:Nat}(b:m<nx.length):CQ (iw nx nx.length) (gH nx m):=fun x a=>by
 unfold gH at a
 obtain⟨i,hi,rfl⟩:=Pr.1 a;have:=iz (nx:=nx) b (Px.1 hi);omega
def JP{sl:List cT}{nx:List (List cN)}(d:NxOk sl nx){j:Nat}(g:j<iw nx nx.length)(k:¬(CD nx j).1<0):(JO nx j).2.toNat<nx.length:=by
 obtain⟨n,i,hn,hi,f,b,c⟩:=CF d g;rcases c with⟨c,_⟩|⟨_,_,a,e⟩
 ·omega
 have h:=d.ed n hn _ (OG a);unfold JO;rw[b,Nt,show j -iw nx n=i by omega,tr a];omega
def BO{sl:List cT}{nx:List (List cN)}(c:NxOk sl nx){j:Nat}(b:j<iw nx nx.length):CQ (iw nx nx.length) (BN nx j):=by
 unfold BN;split
 ·intro x a
  rw[Py]at a
  subst a;omega
 ·rename_i d
  exact gI (JP c b d)
def BP{sl:List cT}{nx:List (List cN)}(a:NxOk sl nx){j:Nat}:0<(BN nx j).length/\(BN nx j).length<=60:=by
 unfold BN;split
 ·simp
 ·have h1:=Bu (nx:=nx) (n:=(JO nx j).2.toNat)
  have h2:=a.row (JO nx j).2.toNat;unfold gH;rw[O1,O4];unfold Bt at h1⊢
  omega
def FV{sl:List cT}{nx:List (List cN)}(a:NxOk sl nx):∀r∈FQ nx,0<r.length/\r.length<=60/\CQ (iw nx nx.length) r:=fun r b=>by
 unfold FQ at b
 obtain⟨j,c,rfl⟩:=Pr.1 b;exact⟨(BP a).1,(BP a).2,BO a (Px.1 c)⟩
def qa{nx:List (List cN)}{k:Int}:CQ (iw nx nx.length) (p_ nx k):=fun x a=>by
 unfold p_ qb at a
 obtain⟨i,hi,rfl⟩:=Pr.1 a;have:=Px.1 (Po.1 hi).1;omega
def FP{nx:List (List cN)}:∀F∈FY K nx,CQ (iw nx nx.length) F:=fun F hF=>by
 unfold FY at hF
 obtain⟨k,_,rfl⟩:=Pr.1 hF;exact qa
def GB{sl:List cT}{nx:List (List cN)}(b:NxOk sl nx)(c:iw nx nx.length<=600):lq (gH nx 0) (FQ nx) (iw nx nx.length) (FY sl.length nx)=0:=by
 have d:=b.sl;have hF:(FY sl.length nx).length=sl.length:=by simp[FY]
 unfold lq;rw[FU,Si SM,Si,Si,Si]
 ·intro h
  obtain⟨F,hF,a⟩:=NE.1 h;rw[oddB_false.2 (FP F hF)]at a;cases a
 ·intro h
  obtain⟨r,e,a⟩:=NE.1 h;obtain⟨h1,_,h3⟩:=FV b r e;unfold kT at a
  rw[oddB_false.2 h3,Nb]at a
  simp at a
  rw[a]at h1;simp at h1
 ·rintro(h|h)
  ·exact h rfl
  ·rw[oddB_false.2 (gI b.pos)]at h;cases h
def FR{sl:List cT}{nx:List (List cN)}(c:NxOk sl nx)(a:iw nx nx.length<=600):oB (FQ nx)<=8589934592:=by
 have h:=oI (FQ nx) 60 (fun r b=>(FV c r b).2.1);rw[FU]at h
 omega
open Classical in
noncomputable def js(n:Nat)(P:Nat->Prop):List Bool:=(List.range n).map fun i=>decide (P i)
def jv{n:Nat}{P:Nat->Prop}:(js n P).length=n:=by simp[js]
def ju{n i:Nat}{P:Nat->Prop}(h:i<n):(js n P).getD i false=true↔P i:=by
 unfold js;rw[Oi,Ot,Ou h];simp
def jt{n:Nat}{P Q:Nat->Prop}(h:∀i,i<n->(P i↔Q i)):js n P=js n Q:=by
 refine N4 (by rw[jv,jv]) fun i h1 h2=>?_
 have hi:i<n:=by rw[jv]at h1;exact h1
 rw[M2,<-LP h1,<-LP h2,ju hi,ju hi];exact h i hi
def jw{n:Nat}{P:Nat->Prop}(a:l.length=n)(h:∀i,i<n->(l.getD i false=true↔P i)):l=js n P:=by
 refine N4 (by rw[jv];exact a) fun i h1 h2=>?_
 have hi:i<n:=by omega
 rw[M2,<-LP h1,<-LP h2,ju hi];exact h i hi
def qf(nx fr:bZ)(n:Nat):Prop:=∃r,r 0=n/\Way8 (Eg nx) (Hc fr) r
def oN(nx fr:bZ)(A:Nat->Prop)(n:Nat):Prop:=∃r,r 0=n/\Way8 (Eg nx) (Hc fr) r/\∀i,A (r i)
inductive EuP(E:Nat->Nat->Prop)(A B:Nat->Prop):Nat->Prop
 |here {n:Nat}:B n->EuP E A B n
 |step {n m:Nat}:A n->E n m->EuP E A B m->EuP E A B n
def pI(nx fr:bZ)(A B:Nat->Prop):Nat->Prop:=EuP (Eg nx) A fun n=>B n/\qf nx fr n
def pR(nx fr:bZ)(A:Nat->Prop)(n:Nat):Prop:=∃m,Eg nx n m/\A m/\qf nx fr m
def iI(nx fr:bZ)(A B:Nat->Prop)(n:Nat):Prop:=¬(pI nx fr (fun i=>¬B i) (fun i=>¬A i/\¬B i) n\/oN nx fr (fun i=>¬B i) n)
section
variable {nx fr:bZ}{A B:Nat->Prop}
theorem Way8.lt{r:Nat->Nat}(a:okG nx)(h:Way8 (Eg nx) (Hc fr) r)(i:Nat):r i<nx.length:=by
 cases i with
 |zero=>exact(h.1 0).lt1
 |succ i=>exact(h.1 i).lt a
theorem LW(a:okG nx):LT nx (js nx.length A) fr=js nx.length (oN nx fr A):=by
 refine jw LV fun n hn=>?_
 rw[LU hn];constructor
 ·rintro⟨r,b,h1,h2⟩
  have h3:=fun i=>inG_edge.1 (h1 i)
  exact⟨r,b,⟨fun i=>(h3 i).1,h2⟩,fun i=>(ju (h3 i).1.lt1).1 (h3 i).2.1⟩
 ·rintro⟨r,b,h,c⟩
  exact⟨r,b,fun i=>inG_edge.2 ⟨h.1 i,(ju (h.lt a i)).2 (c i),(ju (h.lt a (i+1))).2 (c (i+1))⟩,h.2⟩
theorem gN(a:okG nx):gD nx fr=js nx.length (qf nx fr):=jw LV fun n hn=>gE a hn
end
def mJ(nx:bZ)(lb:List Nat)(fr:bZ)(k n:Int)(ks:List (Nat->Prop)):Nat->Prop:=
 if k=1 then fun _=>True
 else if k=3 then fun i=>lb.getD i 0 >>> n.toNat&&&1=1
 else if k=4 then fun i=>¬ks.getD 0 (fun _=>False) i
 else if k=5 then fun i=>ks.getD 0 (fun _=>False) i/\ks.getD 1 (fun _=>False) i
 else if k=6 then fun i=>ks.getD 0 (fun _=>False) i\/ks.getD 1 (fun _=>False) i
 else if k=7 then pR nx fr (ks.getD 0 (fun _=>False))
 else if k=8 then pI nx fr (fun _=>True) (ks.getD 0 (fun _=>False))
 else if k=9 then oN nx fr (ks.getD 0 (fun _=>False))
 else if k=10 then pI nx fr (ks.getD 0 (fun _=>False)) (ks.getD 1 (fun _=>False))
 else if k=11 then fun i=>¬pR nx fr (fun j=>¬ks.getD 0 (fun _=>False) j) i
 else if k=12 then fun i=>¬oN nx fr (fun j=>¬ks.getD 0 (fun _=>False) j) i
 else if k=13 then fun i=>¬pI nx fr (fun _=>True) (fun j=>¬ks.getD 0 (fun _=>False) j) i
 else if k=14 then iI nx fr (ks.getD 0 (fun _=>False)) (ks.getD 1 (fun _=>False))
 else fun _=>False
mutual
def mH(nx:bZ)(lb:List Nat)(fr:bZ):Ltl->Nat->Prop
 |.mk k n kids=>mJ nx lb fr k n (mI nx lb fr kids)
def mI(nx:bZ)(lb:List Nat)(fr:bZ):List Ltl->List (Nat->Prop)
 |[]=>[]
 |x::r=>mH nx lb fr x::mI nx lb fr r
end
section
variable {nx fr:bZ}{lb:List Nat}{f g:Ltl}
end
section
variable {nx fr:bZ}{lb:List Nat}{f:Ltl}{r:Nat->Nat}
end
section
variable {N:Nat}{nx nx' fr fr':bZ}{lb lb':List Nat}
variable {A A' B B':Nat->Prop}
end
def LabAt(w:World)(b:Nat)(nx:bZ)(lb:List Nat)(fr:bZ):Prop:=
 ∃(a1:Option Addr) (c1 n1:Nat) (a2:Option Addr) (c2:Nat) (a3:Option Addr) (c3:Nat) (a4:Option Addr) (c4:Nat) (ao:Option Addr) (ac:Nat) (a:Option Addr) (bc:Nat),
  Blk w b 197 [.slice a1 n1 c1,.slice a2 nx.length c2,.slice a3 lb.length c3,.slice a4 fr.length c4,.slice ao (js nx.length (qf nx fr)).length ac,.slice a (Kn nx).length bc]/\
  Sl w (dl w) a2 c2 nx/\Sl w (dl w) a3 c3 lb/\Sl w (dl w) a4 c4 fr/\Sl w (dl w) ao ac (js nx.length (qf nx fr))/\Sl w (dl w) a bc (Kn nx)
def LabAt.up{w':World}{b:Nat}{nx fr:bZ}{lb:List Nat}(h:LabAt w b nx lb fr)(a:Ext w w'):LabAt w' b nx lb fr:=by
 obtain⟨a1,c1,n1,a2,c2,a3,c3,a4,c4,ao,ac,f,bc,c,h2,h3,h4,e,d⟩:=h;exact⟨a1,c1,n1,a2,c2,a3,c3,a4,c4,ao,ac,f,bc,c.ext a,h2.up a,h3.up a,h4.up a,e.up a,d.up a⟩
structure WOk(nx:bZ)(fr:bZ):Prop where
 n:nx.length<=600
 g:okG nx
 f:∀F∈fr,CQ nx.length F
 e:oB nx<=8589934592
abbrev z_(b:Nat):Value:=.pointer (some ⟨b,0,none⟩)
def ot(w0:World){b:Nat}{nx fr:bZ}{lb:List Nat}(C:LabAt w0 b nx lb fr)(hn:nx.length<=600){fv:Value}{P:Nat->Prop}
  (hf:∀(w:World) (n:Nat),Ext w0 w->n<nx.length->FnV UA fv [Te (n:Int)] w fun v w'=>∃c:Bool,v=.bool c/\(c=true↔P n)/\Ext w w'):
  Rt UA 96 [z_ b,fv].toArray w0 fun v w'=>Own w' w0.heap.size 4 di v (js nx.length P)/\Ext w0 w':=by
 obtain⟨a1,c1,n1,a2,c2,a3,c3,a4,c4,ao,ac,I,bc,t,h2,h3,h4,H,G⟩:=C;refine dV Tryz.func96 Tryz.ntmps96 rfl rfl (TQ ?_);refine fK (α:=Bool) rfl rfl rfl rfl SM SS (fun z ho3 p=>?_);have E:Ext w0 z:=(MW _ _).grown p Ta S5;generalize l:Value.slice (some ⟨w0.heap.size,0,none⟩) nx.length nx.length=sv at*
 have A:∃ao cap,sv=.slice ao nx.length cap:=⟨_,_,l.symm⟩;refine TU ?_;rw[O5];refine CW.loop (S:=Nat×List Bool) (fun s=>[(1,fv),(5,sv),(15,Te nx.length),(16,Te s.1)])
  (fun s w=>s.1<=nx.length/\Own w w0.heap.size 4 di sv s.2/\s.2.length=nx.length/\(∀c,c<s.1->(s.2.getD c false=true↔P c))/\Ext w0 w) (fun s=>nx.length -s.1) (0,List.replicate nx.length false) SL ⟨QK _,ho3,by simp,fun c q=>absurd q SR,E⟩ ?_
 rintro⟨i,o⟩ y ⟨hi,f,d,a,j⟩
 dsimp only at hi f d a⊢
 refine T2 ?_;apply CW.cond rfl<;>intro h
 ·have g:i<nx.length:=by simp at h;omega
  refine TI ?_;refine eO rfl rfl rfl rfl (hf y i j g) ?_;rintro _ w5 ⟨c,rfl,q,r⟩
  refine f6 (u:=.bool c) (yv:=c) rfl rfl rfl rfl (f.extN r) (show i<o.length by omega) SX SX (Rd.mkBool _ _ _) (fun x F ho6 m=>?_);have D:Ext w0 x:=(j.trans r).grown m (j.trans r).size (fun b t=>(f.lt b t).1);refine Tn ?_;refine EX.back (i+1,o.set i c) SL ⟨g,ho6,by simpa using d,fun k B=>?_,D⟩ SR;dsimp only at B⊢
  rw[tg SM];by_cases e:i=k
  ·subst e;rw[Sj rfl];exact q
  ·rw[Si e];exact a k SM
 obtain rfl:i=nx.length:=by simp at h;omega
 rw[jw d a]at f
 refine TO ?_;exact bj ⟨f,j⟩
def AF(w:World){x:Nat}{ao:Option Addr}(d:Blk w B 80 [.slice ao l.length a])(c:Sl w (dl w) ao a l)(b:x<l.length):
  Rt UA 161 [Te (x:Int),Tg B].toArray w fun v w'=>v=.bool (!l.getD x false)/\Ext w w':=by
 refine dV Tryz.func161 Tryz.ntmps161 rfl rfl (TJ ?_);refine fd rfl rfl rfl rfl rfl c b (LP b).symm SX (fun q=>Tk ?_);exact bj ⟨rfl,Ext.refl _⟩
def Cl{c:Bool}{P:Prop}(h:c=true↔P):(!c)=true↔¬P:=by
 rw[<-h];cases c<;>simp
def AG(w0:World){b:Nat}{nx fr:bZ}{lb:List Nat}(l:LabAt w0 b nx lb fr)(hn:nx.length<=600){ao:Option Addr}{P:Nat->Prop}(k:Sl w0 (dl w0) ao B (js nx.length P)):
  Rt UA 99 [z_ b,.slice ao (js nx.length P).length B].toArray w0 fun v w'=>Own w' w0.heap.size 4 di v (js nx.length fun i=>¬P i)/\Ext w0 w':=by
 refine dV Tryz.func99 Tryz.ntmps99 rfl rfl (T9 ?_);refine eJ fun g a c=>?_
 have j:=a.lt;refine Tu ?_;refine eN (ot g (P:=fun i=>¬P i) (l.up c) hn (fun w n e hn=>FnV.mk (f:=161) (Rt.mono (AF w (a.ext e) (k.up (c.trans e)) (show n<_ by rw[jv];exact hn)) (fun v w' d=>⟨_,d.1,Cl (ju hn),d.2⟩)))) ?_;rintro _ o ⟨h,m⟩
 refine Tk ?_;exact bj ⟨h.low c.size,c.trans m⟩
def Ak(w:World){b2 x:Nat}{ao:Option Addr}{k:List Bool}(h:Blk w B 80 [.slice ao l.length a])(g:Blk w b2 80 [.slice C k.length K])(e:Sl w (dl w) ao a l)(f:Sl w (dl w) C K k)(d:x<l.length)(b:x<k.length):
  Rt UA 162 [Te (x:Int),Tg B,Tg b2].toArray w fun v w'=>v=.bool (l.getD x false&&k.getD x false)/\Ext w w':=by
 refine dW Tryz.func162 Tryz.ntmps162 rfl rfl (TJ ?_);refine fd rfl rfl rfl rfl rfl e d (LP d).symm SX (fun q=>?_);generalize l.getD x false=c;cases c with
 |false=>
  refine TT ?_;exact bj ⟨rfl,Ext.refl _⟩
 |true=>
  refine Uh ?_;refine fd rfl rfl rfl rfl rfl f b (LP b).symm SX (fun i=>Tk ?_);exact bj ⟨rfl,Ext.refl _⟩
def h_{c d:Bool}{P Q:Prop}(h:c=true↔P)(k:d=true↔Q):(c&&d)=true↔P/\Q:=by
 rw[<-h,<-k];cases c<;>cases d<;>simp
def Al(w0:World){b:Nat}{nx fr:bZ}{lb:List Nat}(p:LabAt w0 b nx lb fr)(hn:nx.length<=600){ao:Option Addr}{P Q:Nat->Prop}(o:Sl w0 (dl w0) ao B (js nx.length P))(m:Sl w0 (dl w0) C a (js nx.length Q)):
  Rt UA 100 [z_ b,.slice ao (js nx.length P).length B,.slice C (js nx.length Q).length a].toArray w0 fun v w'=>Own w' w0.heap.size 4 di v (js nx.length fun i=>P i/\Q i)/\Ext w0 w':=by
 refine dW Tryz.func100 Tryz.ntmps100 rfl rfl (T9 ?_);refine eJ fun t d r=>?_
 refine eJ fun k g j=>?_
 have d:=d.ext j;have e:=r.trans j;refine Tu ?_;refine eN (ot k (P:=fun i=>P i/\Q i) (p.up e) hn (fun w n c hn=>FnV.mk (f:=162) (Rt.mono (Ak w (d.ext c) (g.ext c) (o.up (e.trans c)) (m.up (e.trans c)) (show n<_ by rw[jv];exact hn) (show n<_ by rw[jv];exact hn)) (fun v w' h=>⟨_,h.1,h_ (ju hn) (ju hn),h.2⟩)))) ?_;rintro _ s ⟨l,q⟩
 refine Tk ?_;exact bj ⟨l.low e.size,e.trans q⟩
def At(w:World){b b2 x:Nat}{nx fr:bZ}{lb:List Nat}(F:LabAt w b nx lb fr)(p:okG nx){ao:Option Addr}{P:Nat->Prop}(E:Blk w B 135 [z_ b])(D:Blk w b2 80 [.slice ao (js nx.length P).length a])
  (C:Sl w (dl w) ao a (js nx.length P)) (o:x<nx.length):
  Rt UA 163 [Te (x:Int),Tg B,Tg b2].toArray w fun v w'=>∃c:Bool,v=.bool c/\(c=true↔pR nx fr P x)/\Ext w w':=by
 obtain⟨a1,c1,n1,a2,c2,a3,c3,a4,c4,fo,fc,L,bc,J,h2,h3,h4,G,K⟩:=F;have f:=CP p x;rw[LQ o]at f
 have l:∀m:Nat,Eg nx x m↔(m:Int)∈nx[x]:=fun m=>by unfold Eg;rw[LQ o]
 refine dW Tryz.func163 Tryz.ntmps163 rfl rfl (Tv ?_);refine fh h2 o SX (fun u q z=>?_);obtain⟨y,rc,rfl,t⟩:=z.sl;have A:=t.len63;generalize nx[x]=row at*
 refine TR ?_;refine CW.loop (S:=Nat) (fun i=>[(1,Tg B),(2,Tg b2),(14,.slice y row.length rc),(15,Te row.length),(16,Te i)])
  (fun i w'=>w'=w/\i<=row.length/\∀m:Nat,(m:Int)∈row.take i->¬(P m/\qf nx fr m)) (fun i=>row.length -i) 0 SL ⟨rfl,QK _,fun m d=>by simp at d⟩ ?_
 rintro i w' ⟨rfl,hi,g⟩
 refine T2 ?_;apply CW.cond rfl<;>intro h
 ·have e:i<row.length:=by simp at h;omega
  obtain⟨k,r⟩:∃k:Nat,row[i]=(k:Int):=⟨(row[i]).toNat,by have:=f _ (OG e);omega⟩;have j:k<nx.length:=by have:=f _ (OG e);omega
  have n:row.take (i+1)=row.take i++[(k:Int)]:=by rw[PT,On e,r];rfl
  have s:(k:Int)∈row:=r▸OG e;have bP:=ju (P:=P) j;have bF:=ju (P:=qf nx fr) j;refine T7 ?_;refine ff t e r SX (fun q=>?_);refine TJ ?_;refine fd rfl rfl rfl rfl rfl C (show k<_ by rw[jv];exact j) (LP _).symm SX (fun I=>?_);generalize (js nx.length P).getD k false=c at*
  cases c with
  |false=>
   refine Tz ?_;refine EX.back (i+1) SL ⟨rfl,e,fun m d=>?_⟩ SM;rw[n]at d
   rcases Ph.1 d with d|d
   ·exact g m d
   ·have:m=k:=by have:=Py.1 d;omega
    subst this;exact fun h=>by have:=bP.2 h.1;cases this
  |true=>
   refine Uj ?_;refine fd rfl rfl rfl rfl rfl G (show k<_ by rw[jv];exact j) (LP _).symm SX (fun H=>?_);generalize (js nx.length (qf nx fr)).getD k false=c at*
   cases c with
   |false=>
    refine Tz ?_;refine EX.back (i+1) SL ⟨rfl,e,fun m d=>?_⟩ SM;rw[n]at d
    rcases Ph.1 d with d|d
    ·exact g m d
    ·have:m=k:=by have:=Py.1 d;omega
     subst this;exact fun h=>by have:=bF.2 h.2;cases this
   |true=>
    refine T8 ?_;exact bi rfl rfl ⟨_,rfl,⟨fun _=>⟨k,(l k).2 s,bP.1 rfl,bF.1 rfl⟩,fun _=>rfl⟩,Ext.refl _⟩
 ·obtain rfl:i=row.length:=by simp at h;omega
  rw[PV]at g
  refine TO ?_;refine bi rfl rfl ⟨_,rfl,⟨(fun h=>by cases h),fun⟨m,h1,h2⟩=>absurd h2 (g m ((l m).1 h1))⟩,Ext.refl _⟩
def Au(w0:World){b:Nat}{nx fr:bZ}{lb:List Nat}(h:LabAt w0 b nx lb fr)(e:okG nx)(hn:nx.length<=600){ao:Option Addr}{P:Nat->Prop}(l:Sl w0 (dl w0) ao B (js nx.length P)):
  Rt UA 102 [z_ b,.slice ao (js nx.length P).length B].toArray w0 fun v w'=>Own w' w0.heap.size 4 di v (js nx.length (pR nx fr P))/\Ext w0 w':=by
 refine dV Tryz.func102 Tryz.ntmps102 rfl rfl (T9 ?_);refine eJ fun q c o=>?_
 refine eJ fun j g i=>?_
 have c:=c.ext i;have d:=o.trans i;refine TX ?_;refine eN (ot j (P:=pR nx fr P) (h.up d) hn (fun w n a hn=>FnV.mk (f:=163) (At w (h.up (d.trans a)) e (c.ext a) (g.ext a) (l.up (d.trans a)) hn))) ?_;rintro _ p ⟨k,m⟩
 refine Tk ?_;exact bj ⟨k.low d.size,d.trans m⟩
def KW(out:List Bool):Nat:=out.countP fun b=>!b
def KX{out:List Bool}{k:Nat}(c:k<out.length)(h:out.getD k false=false):KW (out.set k true)+1=KW out:=by
 have a:out[k]=false:=by rw[<-LP c];exact h
 unfold KW;rw[NR c,a];have:0<out.countP fun b=>!b:=NP.2 ⟨false,a▸OG _,rfl⟩
 simp only[M8,M9,Sk,M4,Sh];omega
def turnE_mem{nx:bZ}{c k:Nat}:(k:Int)∈(Kn nx).getD c []↔c<nx.length/\Eg nx k c:=by
 by_cases b:c<nx.length
 ·have a:c<(Kn nx).length:=by rw[Ko];exact b
  rw[LQ a,Kr a,Pr];constructor
  ·rintro⟨x,d,e⟩
   obtain rfl:x=k:=by omega
   obtain⟨h1,h2⟩:=Po.1 d;exact⟨b,by unfold Eg;simpa using h2⟩
  ·rintro⟨_,h⟩
   refine⟨k,Po.2 ⟨Px.2 h.lt1,?_⟩,rfl⟩;unfold Eg at h;simpa using h
 ·constructor
  ·intro h
   rw[Oi,Oo (by rw[Ko];omega)]at h
   cases h
  ·exact fun h=>absurd h.1 b
structure EuI(nx:bZ)(A B:Nat->Prop)(out:List Bool)(todo:List Int)(cur:Option (Nat×Nat)):Prop where
 len:out.length=nx.length
 td:∀x∈todo,0<=x/\x<nx.length/\out.getD x.toNat false=true
 snd:∀c,c<nx.length->out.getD c false=true->EuP (Eg nx) A B c
 bas:∀c,c<nx.length->B c->out.getD c false=true
 cls:∀c,c<nx.length->out.getD c false=true->(c:Int)∈todo\/(∀k,Eg nx k c->A k->out.getD k false=true)\/∃j,cur=some (c,j)/\∀k:Nat,(k:Int)∈((Kn nx).getD c []).take j->A k->out.getD k false=true
 cnt:todo.length+KW out<=nx.length
section
variable {nx:bZ}{A B:Nat->Prop}{out:List Bool}{todo:List Int}
theorem EuI.done(a:okG nx)(h:EuI nx A B out [] none):out=js nx.length (EuP (Eg nx) A B):=by
 refine jw h.len fun c d=>⟨h.snd c d,fun f=>?_⟩
 induction f with
 |here g=>exact h.bas _ d g
 |@step n m h1 h2 h3 e=>
  have b:=h2.lt a;rcases h.cls m b (e b)with h4|h4|⟨j,h4,_⟩
  ·cases h4
  ·exact h4 n h2 h1
  ·cases h4
theorem EuI.pop{c:Nat}{r:List Int}(h:EuI nx A B out ((c:Int)::r) none):EuI nx A B out r (some (c,0)):=by
 refine⟨h.len,fun x b=>h.td x (by simp[b]),h.snd,h.bas,fun c' a d=>?_,by have:=h.cnt;simp at this;omega⟩;rcases h.cls c' a d with h4|h4|⟨j,h4,_⟩
 ·rcases Pk.1 h4 with h4|h4
  ·exact .inr (.inr ⟨0,by rw[show c'=c by omega],fun k e=>by simp at e⟩)
  ·exact .inl h4
 ·exact .inr (.inl h4)
 ·cases h4
theorem EuI.rowEnd{c j:Nat}(h:EuI nx A B out todo (some (c,j)))(f:((Kn nx).getD c []).length<=j):EuI nx A B out todo none:=by
 refine⟨h.len,h.td,h.snd,h.bas,fun c' a d=>?_,h.cnt⟩;rcases h.cls c' a d with h4|h4|⟨i,h4,b⟩
 ·exact .inl h4
 ·exact .inr (.inl h4)
 ·obtain⟨rfl,rfl⟩:=QX (QV h4)
  rw[PW f]at b
  exact .inr (.inl fun k e g=>b k (turnE_mem.2 ⟨a,e⟩) g)
theorem EuI.skip{c j k:Nat}(h:EuI nx A B out todo (some (c,j)))(g:j<((Kn nx).getD c []).length)(f:((Kn nx).getD c [])[j]=(k:Int))(i:A k->out.getD k false=true):EuI nx A B out todo (some (c,j+1)):=by
 refine⟨h.len,h.td,h.snd,h.bas,fun c' d e=>?_,h.cnt⟩;rcases h.cls c' d e with h4|h4|⟨m,h4,l⟩
 ·exact .inl h4
 ·exact .inr (.inl h4)
 ·obtain⟨rfl,rfl⟩:=QX (QV h4)
  refine .inr (.inr ⟨j+1,rfl,fun k' a b=>?_⟩);rw[PT,On g,f]at a
  rcases Ph.1 a with a|a
  ·exact l k' a b
  ·have:k'=k:=by have:=Py.1 a;omega
   subst this;exact i b
theorem EuI.mark{c j k:Nat}(u:c<nx.length)(t:out.getD c false=true)(h:EuI nx A B out todo (some (c,j)))(p:j<((Kn nx).getD c []).length)(o:((Kn nx).getD c [])[j]=(k:Int))(w:A k)(s:out.getD k false=false):
  EuI nx A B (out.set k true) (todo++[(k:Int)]) (some (c,j+1))/\k<nx.length:=by
 have m:(k:Int)∈(Kn nx).getD c []:=o▸OG p;obtain⟨_,r⟩:=turnE_mem.1 m;have d:=r.lt1;have g:∀i,(out.set k true).getD i false=if k=i then true else out.getD i false:=fun i=>tg (by rw[h.len];exact d)
 have up:∀i,out.getD i false=true->(out.set k true).getD i false=true:=fun i hi=>by rw[g];split;rfl;exact hi
 refine⟨⟨by simp[h.len],fun x f=>?_,fun i hi a=>?_,fun i hi v=>up i (h.bas i hi v),fun i hi a=>?_,?_⟩,d⟩
 ·rcases Ph.1 f with f|f
  ·obtain⟨h1,h2,h3⟩:=h.td x f
   exact⟨h1,h2,up _ h3⟩
  ·rw[Py]at f;subst f
   exact⟨by omega,by omega,by rw[g];simp⟩
 ·rw[g]at a
  split at a
  ·rename_i e;subst e;exact .step w r (h.snd c u t)
  ·exact h.snd i hi a
 ·rw[g]at a
  split at a
  ·rename_i e;subst e;exact .inl (Pj _ SQ)
  ·rcases h.cls i hi a with h4|h4|⟨z,h4,y⟩
   ·exact .inl (Pi _ h4)
   ·exact .inr (.inl fun q hq l=>up q (h4 q hq l))
   ·obtain⟨rfl,rfl⟩:=QX (QV h4)
    refine .inr (.inr ⟨j+1,rfl,fun k' b n=>?_⟩);rw[PT,On p,o]at b
    rcases Ph.1 b with b|b
    ·exact up _ (y k' b n)
    ·have:k'=k:=by have:=Py.1 b;omega
     subst this;rw[g];simp
 ·have:=KX (out:=out) (by rw[h.len];exact d) s
  have:=h.cnt;rw[OT];simp;omega
end
def Kj(out:List Bool)(i:Nat):List Int:=((List.range i).filter fun c=>out.getD c false).map fun c:Nat=>(c:Int)
def Kl{out:List Bool}{i:Nat}:Kj out (i+1)=Kj out i++if out.getD i false=true then [(i:Int)]else []:=by
 unfold Kj;rw[PL,N6,Pb]
 congr 1
 cases h:out.getD i false with
 |false=>rw[N8 (by rw[h];decide)];rfl
 |true=>rw[N9 (by rw[h])];rfl
def trueL_mem{out:List Bool}{i c:Nat}:(c:Int)∈Kj out i↔c<i/\out.getD c false=true:=by
 unfold Kj;rw[Pr];constructor
 ·rintro⟨x,a,e⟩
  obtain rfl:x=c:=by omega
  obtain⟨h1,h2⟩:=Po.1 a;exact⟨Px.1 h1,h2⟩
 ·rintro⟨h1,h2⟩
  exact⟨c,Po.2 ⟨Px.2 h1,h2⟩,rfl⟩
def Kk{out:List Bool}:∀i,i<=out.length->(Kj out i).length+(out.take i).countP (fun b=>!b)=i
 |0,_=>by simp[Kj]
 |i+1,h=>by
  have hi:i<out.length:=by omega
  have a:=Kk (out:=out) i SM;rw[Kl,OT,PT,On hi,NL,LP hi];cases c:out[i]<;>simp<;>omega
def EuI.start{nx:bZ}{A B:Nat->Prop}:EuI nx A B (js nx.length B) (Kj (js nx.length B) nx.length) none:=by
 refine⟨jv,fun x b=>?_,fun c a h=>.here ((ju a).1 h),fun c a h=>(ju a).2 h,fun c a h=>.inl (trueL_mem.2 ⟨a,h⟩),?_⟩
 ·obtain⟨c,a,rfl⟩:∃c:Nat,c<nx.length/\x=(c:Int):=by
   unfold Kj at b
   obtain⟨c,a,rfl⟩:=Pr.1 b;exact⟨c,Px.1 (Po.1 a).1,rfl⟩
  exact⟨by omega,by omega,(trueL_mem.1 b).2⟩
 ·have:=Kk (out:=js nx.length B) nx.length (by rw[jv];exact Qj _)
  rw[PW (by rw[jv];exact Qj _)]at this
  unfold KW;omega
def As(w0:World){b:Nat}{nx fr:bZ}{lb:List Nat}(hL:LabAt w0 b nx lb fr)(hok:okG nx)(hn:nx.length<=600){ao:Option Addr}{P Q:Nat->Prop}(ha:Sl w0 (dl w0) ao B (js nx.length P))(hb:Sl w0 (dl w0) C a (js nx.length Q)):
  Rt UA 103 [z_ b,.slice ao (js nx.length P).length B,.slice C (js nx.length Q).length a].toArray w0 fun v w'=>Own w' w0.heap.size 4 di v (js nx.length (pI nx fr P Q))/\Ext w0 w':=by
 have hL0:=hL;obtain⟨a1,c1,n1,a2,c2,a3,c3,a4,c4,fo,fc,ro,rc,hlb,h2,h3,h4,h5,h6⟩:=hL;refine dW Tryz.func103 Tryz.ntmps103 rfl rfl (Tv ?_);refine eN (Al w0 hL0 hn hb h5) ?_;rintro _ w1 ⟨d,e1⟩
 rename_i ov;have hov:∃oo oc,ov=.slice oo nx.length oc:=by
  obtain⟨oo,oc,e⟩:=d.val;rw[jv]at e;exact⟨oo,oc,e⟩
 obtain⟨oo,oc,rfl⟩:=hov;refine TR ?_;refine CW.loop (S:=Nat×Value) (fun s=>[(0,z_ b),(1,.slice ao (js nx.length P).length B),(7,.slice oo nx.length oc),(8,s.2),(21,.slice oo nx.length oc),(22,Te nx.length),(23,Te s.1)])
  (fun s w=>s.1<=nx.length/\Own w w0.heap.size 4 di (.slice oo nx.length oc) (js nx.length fun i=>Q i/\qf nx fr i)/\Own w w0.heap.size 3 di s.2 (Kj (js nx.length fun i=>Q i/\qf nx fr i) s.1)/\(∀g,s.2.ownBlock=some g->Value.ownBlock (.slice oo nx.length oc)≠some g)/\Ext w0 w)
  (fun s=>nx.length -s.1) (0,.slice none 0 0) SL ⟨QK _,d,Own.nil,(fun g l=>by cases l),e1⟩ ?_
 ·clear d e1
  rintro⟨i,tv⟩ w2 ⟨hi,d,m,hd,n⟩
  dsimp only at hi d m hd n⊢
  have hle:=Kk (out:=js nx.length fun i=>Q i/\qf nx fr i) i (by rw[jv];exact hi);refine T2 ?_;apply CW.cond rfl<;>intro h
  ·have M:i<nx.length:=by simp at h;omega
   have V:i<(js nx.length fun i=>Q i/\qf nx fr i).length:=by rw[jv];exact M
   have G:=Kl (out:=js nx.length fun i=>Q i/\qf nx fr i) (i:=i);refine TL ?_;refine fj (i:=i) rfl rfl rfl rfl rfl d V SX (fun u q J=>?_);rw[J.bool,<-LP V];clear J;generalize (js nx.length fun i=>Q i/\qf nx fr i).getD i false=c at*
   cases c with
   |false=>
    rw[Si SP,NG]at G
    rw[<-G]at m
    refine TC ?_;exact EX.back (i+1,tv) SL ⟨M,d,m,hd,n⟩ SR
   |true=>
    rw[Sj rfl]at G
    refine T4 ?_;refine eH (α:=Int) (F:=di) (bytes:=8) rfl rfl SX rfl rfl SX m S_ n.size S0 SP SS SM (fun tv' w3 q R Z U=>?_);rw[<-G]at R
    refine Tn ?_;exact EX.back (i+1,tv') SL ⟨M,d.keptN Z (fun g l e=>hd g e.symm l),R,fun g l e=>by
     rcases U g l with h|h
     ·exact hd g h e
     ·have:=(d.lt g e).2.1;omega,n.grown Z n.size (fun g l=>(m.lt g l).1)⟩ SR
  obtain rfl:i=nx.length:=by simp at h;omega
  have hI0:EuI nx P (fun i=>Q i/\qf nx fr i) _ _ none:=EuI.start;generalize Kj (js nx.length fun i=>Q i/\qf nx fr i) nx.length=todo at*
  generalize (js nx.length fun i=>Q i/\qf nx fr i)=out at*
  refine Ub ?_;refine CW.loop (S:=List Bool×Value×List Int) (fun s=>[(0,z_ b),(1,.slice ao (js nx.length P).length B),(7,.slice oo nx.length oc),(8,s.2.1)])
   (fun s w=>EuI nx P (fun i=>Q i/\qf nx fr i) s.1 s.2.2 none/\Own w w0.heap.size 4 di (.slice oo nx.length oc) s.1/\Own w w0.heap.size 3 di s.2.1 s.2.2/\(∀g,s.2.1.ownBlock=some g->Value.ownBlock (.slice oo nx.length oc)≠some g)/\Ext w0 w)
   (fun s=>s.2.2.length+2*KW s.1) (out,tv,todo) SL ⟨hI0,d,m,hd,n⟩ ?_
  clear hI0 d m hd n hle h tv;rintro⟨out,tv,todo⟩ w2 ⟨o,d,m,hd,n⟩
  dsimp only at o d m hd n⊢
  refine TU ?_;apply CW.cond rfl<;>intro h
  ·have E:0<todo.length:=by simpa using h
   obtain⟨x,r,rfl⟩:∃x r,todo=x::r:=by
    cases todo with
    |nil=>simp at E
    |cons x r=>exact⟨x,r,rfl⟩
   obtain⟨hx0,hxn,I⟩:=o.td x SQ;obtain⟨c,rfl⟩:∃c:Nat,x=(c:Int):=⟨x.toNat,by omega⟩;rw[Nt]at I
   have hc:c<nx.length:=by omega
   have hct:c<(Kn nx).length:=by rw[Ko];exact hc
   have hb2:=hlb.ext n;have p:=h6.at n;refine TL ?_;refine fj (i:=0) rfl rfl rfl rfl rfl m SQ SX (fun u q J=>?_);rw[J.int];simp only[OD];refine T2 ?_;refine eZ (α:=Int) 1 rfl rfl rfl rfl rfl m SQ (fun tv2 K hnb=>?_);rw[List.drop_one,List.tail_cons]at K
   refine Tv ?_;refine fg (i:=c) rfl rfl rfl rfl rfl p hct SX (fun u2 q2 N=>?_);obtain⟨po,pc,rfl,hp⟩:=N.sl;have hpl:=hp.len63;have W:(Kn nx)[c]=(Kn nx).getD c []:=(LQ hct).symm;rw[W]at hp hpl⊢
   clear m E J N W p hb2;refine TR ?_;refine CW.loop (S:=Nat×List Bool×Value×List Int) (fun s=>[(0,z_ b),(1,.slice ao (js nx.length P).length B),(7,.slice oo nx.length oc),(8,s.2.2.1),(48,.slice po ((Kn nx).getD c []).length pc),(49,Te ((Kn nx).getD c []).length),(50,Te s.1)])
    (fun s w=>s.1<=((Kn nx).getD c []).length/\EuI nx P (fun i=>Q i/\qf nx fr i) s.2.1 s.2.2.2 (some (c,s.1))/\s.2.1.getD c false=true/\Own w w0.heap.size 4 di (.slice oo nx.length oc) s.2.1/\Own w w0.heap.size 3 di s.2.2.1 s.2.2.2/\(∀g,s.2.2.1.ownBlock=some g->Value.ownBlock (.slice oo nx.length oc)≠some g)/\Ext w0 w/\s.2.2.2.length+2*KW s.2.1+1<=((c:Int)::r).length+2*KW out)
    (fun s=>((Kn nx).getD c []).length -s.1) (0,out,tv2,r) SL ⟨QK _,o.pop,I,d,K,(fun g l=>hd g (hnb▸l)),n,by simp only[OU];omega⟩ ?_
   clear o d K hd I hnb;rintro⟨j,o2,tv3,t2⟩ w3 ⟨hj,o,D,d,m,hd,H,y⟩
   dsimp only at hj o D d m hd H y⊢
   refine T2 ?_;apply CW.cond rfl<;>intro h
   ·have f:j<((Kn nx).getD c []).length:=by simp only[R_]at h;omega
    obtain⟨k,hk⟩:∃k:Nat,((Kn nx).getD c [])[j]=(k:Int):=⟨(((Kn nx).getD c [])[j]).toNat,by
     have:=CP (Kq nx) c _ (OG f);omega⟩
    have L:k<nx.length:=by
     have:=CP (Kq nx) c _ (OG f);rw[Ko]at this;omega
    have hp3:Sl w3 (dl w0) po pc ((Kn nx).getD c []):=hp.mono (fun b hb=>(H.block b hb).trans (n.block b hb).symm) S3;have haa:=ha.up H;have bP:=ju (P:=P) L;have z:k<o2.length:=by rw[o.len];exact L
    refine T7 ?_;refine ff hp3 f hk SX (fun q=>?_);refine T2 ?_;refine fd rfl rfl rfl rfl rfl haa (show k<_ by rw[jv];exact L) (LP _).symm SX (fun q2=>?_);generalize (js nx.length P).getD k false=pk at*
    cases pk with
    |false=>
     refine Tz ?_;exact EX.back (j+1,o2,tv3,t2) SL ⟨f,o.skip f hk (fun h=>by have:=bP.2 h;cases this),D,d,m,hd,H,y⟩ SR
    |true=>
     refine Ue ?_;refine fj (i:=k) rfl rfl rfl rfl rfl d z SX (fun u q3 J=>?_);rw[J.bool,<-LP z];cases t:o2.getD k false with
     |true=>
      refine Tz ?_;exact EX.back (j+1,o2,tv3,t2) SL ⟨f,o.skip f hk (fun _=>t),D,d,m,hd,H,y⟩ SR
     |false=>
      obtain⟨hI4,_⟩:=o.mark hc D f hk (bP.1 rfl) t;have hu4:=KX z t;have hcnt:=hI4.cnt;have hcnt':=o.cnt;refine T4 ?_;refine f6 (u:=.bool true) (yv:=true) rfl rfl rfl rfl d z SX SX (Rd.mkBool _ _ _) (fun w4 q4 ho4 Y=>?_);have e4:Ext w0 w4:=H.grown Y H.size (fun g l=>(d.lt g l).1);have O:=m.keptN Y (fun g l e=>hd g l e.symm);refine T2 ?_;refine eH (α:=Int) (F:=di) (bytes:=8) rfl rfl SX rfl rfl SX O S_ e4.size S0 SP SS SM (fun tv' w5 q5 ht5 X T=>Tn ?_);refine EX.back (j+1,o2.set k true,tv',t2++[(k:Int)]) SL ⟨f,hI4,?_,ho4.keptN X (fun g l e=>hd g e.symm l),ht5,fun g l e=>?_,e4.grown X e4.size (fun g l=>(O.lt g l).1),?_⟩ SR
      ·dsimp only;rw[tg z];split;rfl;exact D
      ·rcases T g l with h|h
       ·exact hd g h e
       ·have:=(ho4.lt g e).2.1;omega
      ·dsimp only;rw[OT];simp only[OU,O2]at y⊢;omega
   ·have f:((Kn nx).getD c []).length<=j:=by simp only[R8]at h;omega
    refine Tt ?_;exact EX.back (o2,tv3,t2) SL ⟨o.rowEnd f,d,m,hd,H⟩ (by dsimp only;simp only[OU]at y⊢;omega)
  ·have E:todo=[]:=N0 (by simpa using h)
   subst E;rw[o.done hok]at d
   refine TO ?_;exact bj ⟨d,n⟩
def Ao(w0:World){b:Nat}{nx fr:bZ}{lb:List Nat}(e:LabAt w0 b nx lb fr)(a:WOk nx fr){ao:Option Addr}{P:Nat->Prop}(d:Sl w0 (dl w0) ao B (js nx.length P)):
  Rt UA 104 [z_ b,.slice ao (js nx.length P).length B].toArray w0 fun v w'=>Own w' w0.heap.size 4 di v (js nx.length (oN nx fr P))/\Ext w0 w':=by
 obtain⟨a1,c1,n1,a2,c2,a3,c3,a4,c4,fo,fc,h,rc,hlb,h2,h3,h4,j,i⟩:=e;refine dV Tryz.func104 Tryz.ntmps104 rfl rfl (T_ ?_);refine eN (gj w0 (inn:=js nx.length P) (n1:=n1) (a1:=a1) (c1:=c1) h2 h4 d a.g a.f jv a.n a.e) ?_;rintro _ g ⟨c,f⟩
 rw[LW a.g]at c
 refine Tk ?_;exact bj ⟨c,f⟩
def Own.asSl{e:TypeId}{xs:List Bool}(h:Own w B e di v xs):∃ao cap,v=.slice ao xs.length cap/\Sl w (dl w) ao cap xs:=h.oldN.sl
def Ai(w0:World){b:Nat}{nx fr:bZ}{lb:List Nat}(E:LabAt w0 b nx lb fr)(Y:WOk nx fr){ao:Option Addr}{P Q:Nat->Prop}(ha:Sl w0 (dl w0) ao B (js nx.length P))(X:Sl w0 (dl w0) C a (js nx.length Q)):
  Rt UA 105 [z_ b,.slice ao (js nx.length P).length B,.slice C (js nx.length Q).length a].toArray w0 fun v w'=>Own w' w0.heap.size 4 di v (js nx.length (iI nx fr P Q))/\Ext w0 w':=by
 have hn:=Y.n;refine dW Tryz.func105 Tryz.ntmps105 rfl rfl (T2 ?_);refine eN (AG w0 E hn X) ?_;rintro _ w1 ⟨m,U⟩
 obtain⟨xo,xc,rfl,J⟩:=m.asSl;refine Ue ?_;refine eN (AG w1 (E.up U) hn (ha.up U)) ?_;rintro _ w2 ⟨I,e2⟩
 obtain⟨yo,yc,rfl,hy⟩:=I.asSl;have G:=U.trans e2;refine Ue ?_;refine eN (AG w2 (E.up G) hn (X.up G)) ?_;rintro _ w3 ⟨H,T⟩
 obtain⟨zo,zc,rfl,hz⟩:=H.asSl;have G:=G.trans T;refine eN (Al w3 (E.up G) hn (hy.up T) hz) ?_;rintro _ w4 ⟨K,e4⟩
 obtain⟨vo,vc,rfl,hv⟩:=K.asSl;have y:=G.trans e4;refine eN (As w4 (E.up y) Y.g hn (J.up (e2.trans (T.trans e4))) hv) ?_;rintro bv w5 ⟨d,e5⟩
 have x:=y.trans e5;have d:=d.low (B':=w0.heap.size) y.size;clear J hy hz hv m I H K U e2 T e4 e5 G y;refine T2 ?_;refine eN (AG w5 (E.up x) hn (X.up x)) ?_;rintro _ w6 ⟨m,e6⟩
 obtain⟨xo,xc,rfl,J⟩:=m.asSl;have t:=x.trans e6;have d:=d.extN e6;have M:=fun g f=>(d.lt g f).2.1
 refine eN (Ao w6 (E.up t) Y J) ?_;rintro gv w7 ⟨f,Z⟩
 have R:=t.trans Z;have d:=d.extN Z;have W:∃go gc,gv=.slice go nx.length gc:=by
  obtain⟨go,gc,e⟩:=f.val;rw[jv]at e;exact⟨go,gc,e⟩
 obtain⟨go,gc,rfl⟩:=W;have z:∀g,bv.ownBlock=some g->Value.ownBlock (.slice go nx.length gc)≠some g:=fun g h1 h2=>by
  have:=M g h1;have:=(f.lt g h2).1;omega
 have f:=f.low (B':=w0.heap.size) t.size;have j:(js nx.length (pI nx fr (fun i=>¬Q i) fun i=>¬P i/\¬Q i)).length=nx.length:=jv;have l:∀c,c<nx.length->((js nx.length (pI nx fr (fun i=>¬Q i) fun i=>¬P i/\¬Q i)).getD c false=true↔pI nx fr (fun i=>¬Q i) (fun i=>¬P i/\¬Q i) c):=fun c D=>ju D
 generalize js nx.length (pI nx fr (fun i=>¬Q i) fun i=>¬P i/\¬Q i)=out at*
 clear M J m e6 Z;refine TR ?_;refine CW.loop (S:=Nat×List Bool) (fun s=>[(0,z_ b),(7,bv),(27,.slice go nx.length gc),(28,Te nx.length),(29,Te s.1)])
  (fun s w=>s.1<=nx.length/\s.2.length=nx.length/\(∀c,c<nx.length->(s.2.getD c false=true↔pI nx fr (fun i=>¬Q i) (fun i=>¬P i/\¬Q i) c\/(c<s.1/\oN nx fr (fun i=>¬Q i) c)))/\Own w w0.heap.size 4 di bv s.2/\Own w w0.heap.size 4 di (.slice go nx.length gc) (js nx.length (oN nx fr fun i=>¬Q i))/\Ext w0 w)
  (fun s=>nx.length -s.1) (0,out) SL ⟨QK _,j,fun c D=>by rw[l c D];exact⟨.inl,fun h=>h.elim id (fun h=>absurd h.1 (Qw _))⟩,d,f,R⟩ ?_
 clear j l d f R t x;rintro⟨i,o⟩ w8 ⟨hi,j,l,d,f,F⟩
 dsimp only at hi j l d f F⊢
 obtain⟨oo,oc,hov⟩:=d.val;refine T2 ?_;apply CW.cond rfl<;>intro h
 ·have p:i<nx.length:=by simp at h;omega
  have N:i<(js nx.length (oN nx fr fun i=>¬Q i)).length:=by rw[jv];exact p
  have n:i<o.length:=by omega
  have bG:=ju (P:=oN nx fr fun i=>¬Q i) p;have bO:=l i p;refine TL ?_;refine fj (i:=i) rfl rfl rfl rfl rfl f N SX (fun u q L=>?_);rw[L.bool,<-LP N];clear L;generalize (js nx.length (oN nx fr fun i=>¬Q i)).getD i false=gb at*
  refine T2 ?_;refine fj (i:=i) rfl rfl rfl rfl rfl d n SX (fun u q2 L=>?_);rw[L.bool,<-LP n];clear L;have fin:∀c:Bool,(c=true↔pI nx fr (fun i=>¬Q i) (fun i=>¬P i/\¬Q i) i\/oN nx fr (fun i=>¬Q i) i)->∀k,k<nx.length->((o.set i c).getD k false=true↔pI nx fr (fun i=>¬Q i) (fun i=>¬P i/\¬Q i) k\/(k<i+1/\oN nx fr (fun i=>¬Q i) k)):=fun c D k hk=>by
   rw[tg n];by_cases e:i=k
   ·subst e;rw[Sj rfl,D]
    exact or_congr Nm ⟨fun h=>⟨Nat.lt_succ_self _,h⟩,fun h=>h.2⟩
   ·rw[Si e,l k hk]
    exact or_congr Nm (RW SM Nm)
  generalize o.getD i false=ob at*
  cases ob with
  |true=>
   refine Ul ?_;refine f6 (u:=.bool true) (yv:=true) rfl rfl rfl rfl d n SX SX (Rd.mkBool _ _ _) (fun w9 q4 ho4 r=>Tn ?_);refine EX.back (i+1,o.set i true) SL ⟨p,by simpa using j,fin true ⟨fun _=>(bO.1 rfl).imp id (fun h=>h.2),fun _=>rfl⟩,ho4,f.keptN r (fun g h1 e=>z g e.symm h1),F.grown r F.size (fun g f=>(d.lt g f).1)⟩ SR
  |false=>
   refine Ue ?_;refine f6 (u:=.bool gb) (yv:=gb) rfl rfl rfl rfl d n SX SX (Rd.mkBool _ _ _) (fun w9 q4 ho4 r=>Tn ?_);refine EX.back (i+1,o.set i gb) SL ⟨p,by simpa using j,fin gb ⟨fun h=>.inr (bG.1 h),fun h=>h.elim (fun h=>by have:=bO.2 (.inl h);cases this) (fun h=>bG.2 h)⟩,ho4,f.keptN r (fun g h1 e=>z g e.symm h1),F.grown r F.size (fun g f=>(d.lt g f).1)⟩ SR
 obtain rfl:i=nx.length:=by simp at h;omega
 have O:o=js nx.length fun c=>pI nx fr (fun i=>¬Q i) (fun i=>¬P i/\¬Q i) c\/oN nx fr (fun i=>¬Q i) c:=jw j fun c D=>by
  rw[l c D];exact or_congr Nm ⟨fun h=>h.2,fun h=>⟨D,h⟩⟩
 subst O;obtain⟨oo,oc,rfl,V⟩:=d.asSl;refine TO ?_;refine eN (AG w8 (E.up F) hn V) ?_;rintro _ w9 ⟨ho9,e9⟩
 refine Tk ?_;exact bj ⟨ho9.low F.size,F.trans e9⟩
def Az{l:List α}(h:l.length=2):∃x y,l=[x,y]:=by
 match l,h with
 |[x,y],_=>exact⟨x,y,rfl⟩
mutual
def CL:Ltl->Prop
 |.mk k n kids=>zL k=kids.length/\0<=n/\n<=63/\CM kids
def CM:List Ltl->Prop
 |[]=>True
 |x::r=>CL x/\CM r
end
def CN:∀{l:List Ltl} {x:Ltl},CM l->x∈l->CL x
 |y::r,x,h,a=>by
  rw[CM]at h
  rcases Pk.1 a with rfl|a
  ·exact h.1
  ·exact CN h.2 a
mutual
theorem kx:∀(t:Ltl) (deep c:Int),(kh t deep c).1=0->CL t
 |.mk k n kids,deep,c,h=>by
  simp only[kh]at h
  split at h
  ·cases h
  split at h
  ·cases h
  split at h
  ·cases h
  rename_i h3;rw[CL];exact⟨by omega,by omega,by omega,kq kids _ _ h⟩
theorem kq:∀(l:List Ltl) (deep c:Int),(kj l deep c).1=0->CM l
 |[],_,_,_=>by rw[CM];trivial
 |x::r,deep,c,h=>by
  simp only[kj]at h
  split at h
  ·rename_i h1;exact absurd h h1
  rename_i h1;rw[CM];exact⟨kx x _ _ (by simpa using h1),kq r _ _ h⟩
end
instance:IsT UA 80 Raw:=IsT.of SN RH rfl
instance:IsZ UA 80 (⟨.slice none 0 0⟩:Raw) 24:=IsZ.of (z:=.slice none 0 0) SN (fun _ _=>⟨rfl,rfl⟩)
def AB(w:World)(x:Nat):Rt UA 97 [Te (x:Int)].toArray w fun v w'=>v=.bool true/\Ext w w':=by
 refine dU Tryz.func97 Tryz.ntmps97 rfl rfl (Tw ?_);exact bj ⟨rfl,Ext.refl _⟩
def LS{l:List Nat}{j:Nat}(h:j<l.length):l.getD j 0=l[j]:=by rw[Oi,On h];rfl
def AC(w:World){b b2 x:Nat}{nx fr:bZ}{lb:List Nat}(l:LabAt w b nx lb fr){k n:Int}(j:Blk w B 135 [z_ b])(i:Blk w b2 35 [Te k,Te n,o])(f:x<lb.length)(hn:0<=n):
  Rt UA 98 [Te (x:Int),Tg B,Tg b2].toArray w fun v w'=>∃c:Bool,v=.bool c/\(c=true↔lb.getD x 0 >>> n.toNat&&&1=1)/\Ext w w':=by
 obtain⟨a1,c1,n1,a2,c2,a3,c3,a4,c4,fo,fc,t,bc,p,h2,h3,h4,s,r⟩:=l;refine dW Tryz.func98 Tryz.ntmps98 rfl rfl (Ud ?_);refine dB rfl rfl rfl rfl rfl S3 h3 f SX (fun u q g=>?_);obtain⟨rfl,d⟩:=g.u64;rw[LS f];generalize lb[x]=a at*
 refine Um ?_;refine dP rfl rfl rfl rfl d hn ?_;have h:a >>> n.toNat<18446744073709551616:=Qm (QE _ _) d;refine dx rfl rfl rfl rfl h (Uf ?_);refine QL.nil fun w' e=>TV ?_
 refine bi rfl rfl ⟨_,rfl,?_,e⟩;generalize a >>> n.toNat&&&1=m;simp;omega
def AD(w:World){x N:Nat}{P Q:Nat->Prop}(l:Blk w B 200 [.slice C ([js N P,js N Q]:List (List Bool)).length a])(k:Sl w (dl w) C a [js N P,js N Q])(f:x<N):
  Rt UA 101 [Te (x:Int),Tg B].toArray w fun v w'=>∃c:Bool,v=.bool c/\(c=true↔P x\/Q x)/\Ext w w':=by
 refine dV Tryz.func101 Tryz.ntmps101 rfl rfl (TJ ?_);refine fg (i:=0) rfl rfl rfl rfl rfl k SQ SX (fun u q e=>?_);simp only[OD]at e
 obtain⟨uo,uc,rfl,j⟩:=e.sl;have d:x<(js N P).length:=by rw[jv];exact f
 have bP:=ju (P:=P) f;have bQ:=ju (P:=Q) f;refine Ue ?_;refine fd rfl rfl rfl rfl rfl j d (LP d).symm SX (fun q=>?_);generalize (js N P).getD x false=c at*
 cases c with
 |true=>
  refine TT ?_;exact bi rfl rfl ⟨_,rfl,⟨fun _=>.inl (bP.1 rfl),fun _=>rfl⟩,Ext.refl _⟩
 |false=>
  refine Uh ?_;refine fg (i:=1) rfl rfl rfl rfl rfl k SQ SX (fun u q e=>?_);simp only[OC,OD]at e
  obtain⟨vo,vc,rfl,g⟩:=e.sl;have b:x<(js N Q).length:=by rw[jv];exact f
  refine Ue ?_;refine fd rfl rfl rfl rfl rfl g b (LP b).symm SX (fun q=>?_);generalize (js N Q).getD x false=c at*
  refine Tk ?_;exact bi rfl rfl ⟨_,rfl,⟨fun h=>.inr (bQ.1 h),fun h=>h.elim (fun h=>by have:=bP.2 h;cases this) bQ.2⟩,Ext.refl _⟩
set_option maxRecDepth 100000 in
def Ab{nx fr:bZ}{lb:List Nat}(hW:WOk nx fr)(hlb:lb.length=nx.length):∀(m:Nat) (t:Ltl),t.nodes<=m->CL t->∀(w0:World) (b:Nat) (ao:Option Addr) (cap:Nat),LabAt w0 b nx lb fr->Sl w0 (dl w0) ao cap t.kids->
  Rt UA 55 [z_ b,AR t.k t.n ao t.kids.length cap].toArray w0 fun v w'=>Own w' w0.heap.size 4 di v (js nx.length (mH nx lb fr t))/\Ext w0 w'
 |0,t,hm=>by have:=t.nodes_pos;omega
 |m+1,.mk k n kids,hm=>by
  intro hC w0 b ao cap E hs
  simp only[Ltl.kids,Ltl.k,Ltl.n]at*
  rw[CL]at hC
  obtain⟨J,hn0,hn1,hCk⟩:=hC;have hn:=hW.n;have hlen:=hs.len63;have hk2:kids.length<=2:=by
   unfold zL at J
   split at J<;>first|omega|(split at J<;>first|omega|(split at J<;>omega))
  refine dV Tryz.func55 Tryz.ntmps55 rfl rfl (T9 ?_);refine eJ fun w1 B e1=>?_
  refine eJ fun w2 G e2=>?_
  have B:=B.ext e2;have hE:=e1.trans e2;have hz1:=e1.size;have hz2:=e2.size;have hl2:=B.lt;have hl3:=G.lt;refine TJ ?_;refine eN (ot w2 (P:=fun _=>True) (E.up hE) hn (fun w x N hx=>FnV.mk (f:=97) (cs:=[]) (Rt.mono (AB w x) (fun v w' hv=>⟨true,hv.1,⟨fun _=>trivial,fun _=>rfl⟩,hv.2⟩)))) ?_;rintro av H ⟨T,e3⟩
  have B:=B.ext e3;have G:=G.ext e3;have hE:=hE.trans e3;have hal:∀g,av.ownBlock=some g->g<H.heap.size:=fun g D=>(T.lt g D).2.1
  have T:=T.low (B':=w0.heap.size) (Qk hz1 hz2);refine T2 ?_;refine eF (fun w4 I e4=>?_);have B:=B.ext e4;have G:=G.ext e4;have hE:=hE.trans e4;have T:=T.extN e4;have hl6:=I.lt;have hz3:=e3.size;refine Ty ?_;refine CW.loop (S:=Nat×Value×List Raw) (fun s=>[(2,Tg w0.heap.size),(3,Tg w1.heap.size),(5,av),(6,Tg H.heap.size),(12,.slice ao kids.length cap),(13,Te kids.length),(14,Te s.1)])
   (fun s w=>s.1<=kids.length/\Blk w H.heap.size 200 [s.2.1]/\Own w w4.heap.size 80 di s.2.1 s.2.2/\InnR w (fun b=>s.2.1.ownBlock=some b\/b=H.heap.size) s.2.2 ((kids.take s.1).map fun x=>js nx.length (mH nx lb fr x))/\Chg (fun b=>b=H.heap.size) w4 w)
   (fun s=>kids.length -s.1) (0,.slice none 0 0,[]) SL ⟨QK _,I,Own.nil,InnR.nil,Chg.refl _ _⟩ ?_
  ·clear I
   rintro⟨i,kv,vs⟩ w5 ⟨hi,I,W,R,K⟩
   dsimp only at hi I W R K⊢
   have hz5:=K.size;have hvl:vs.length=i:=by rw[R.len,O1,O9];omega
   have a:Ext w0 w5:=K.ext hE (fun b hb=>by omega);have B:Blk w5 w0.heap.size 135 [z_ b]:=(K.block _ SM SM).trans B;have G:Blk w5 w1.heap.size 35 [Te k,Te n,.slice ao kids.length cap]:=(K.block _ SM SM).trans G;have hav5:Own w5 w0.heap.size 4 di av (js nx.length fun _=>True):=T.chg K (fun g D e=>by have:=hal g D;omega);refine T2 ?_;apply CW.cond rfl<;>intro h
   ·have Y:i<kids.length:=by simp at h;omega
    refine T7 ?_;refine fh (hs.up a) Y SX (fun u q hu=>?_);have htk:(kids.take (i+1)).map (fun x=>js nx.length (mH nx lb fr x))=(kids.take i).map (fun x=>js nx.length (mH nx lb fr x))++[js nx.length (mH nx lb fr kids[i])]:=by
     rw[PT,On Y,Pb];rfl
    have hnode:(kids[i]).nodes<=m:=by
     have:=Ltl.nodes_kid kids _ (OG Y);simp only[Ltl.nodes]at hm;omega
    have hCx:=CN hCk (OG Y);generalize kids[i]=x at*
    obtain⟨xo,xc,rfl,hx⟩:=hu.ltl;refine eF (fun C hb8 A=>?_);refine f_ hb8 (fun r hb8 hg7=>?_);have O:Ext w5 r:=A.grown hg7 A.size SZ;have B:=B.ext O;have G:=G.ext O;have I:=I.ext O;have hl8:=hb8.lt;have hz7:=O.size;have hkv7:=W.extN O;have M:=fun g D=>W.lt g D
    have hE7:=a.trans O;clear hu A hg7;have hD:Ext r (drew r):=Ext.drew r;have hzd:=hD.size;have hb2d:=B.ext hD;have hb6d:=I.ext hD;have hb8d:=hb8.ext hD;have hK2:∀u,(fun z:World=>z.heap[w0.heap.size]?=(drew r).heap[w0.heap.size]?/\z.heap[H.heap.size]?=(drew r).heap[H.heap.size]?/\z.heap[w5.heap.size]?=(drew r).heap[w5.heap.size]?) u->u.heap[w0.heap.size]?=(drew r).heap[w0.heap.size]?:=fun _ h=>h.1
    have hK6:∀u,(fun z:World=>z.heap[w0.heap.size]?=(drew r).heap[w0.heap.size]?/\z.heap[H.heap.size]?=(drew r).heap[H.heap.size]?/\z.heap[w5.heap.size]?=(drew r).heap[w5.heap.size]?) u->u.heap[H.heap.size]?=(drew r).heap[H.heap.size]?:=fun _ h=>h.2.1
    have hK8:∀u,(fun z:World=>z.heap[w0.heap.size]?=(drew r).heap[w0.heap.size]?/\z.heap[H.heap.size]?=(drew r).heap[H.heap.size]?/\z.heap[w5.heap.size]?=(drew r).heap[w5.heap.size]?) u->u.heap[w5.heap.size]?=(drew r).heap[w5.heap.size]?:=fun _ h=>h.2.2
    refine T1 ?_;refine aF (fun z:World=>z.heap[w0.heap.size]?=(drew r).heap[w0.heap.size]?/\z.heap[H.heap.size]?=(drew r).heap[H.heap.size]?/\z.heap[w5.heap.size]?=(drew r).heap[w5.heap.size]?) [(0,true),(1,true),(2,true),(3,false),(4,false),(5,false)] 6 mixed SN ⟨rfl,rfl,rfl⟩ (Ur ?_);refine cw hK8 rfl rfl rfl rfl hb8d rfl (cD rfl (eN (Ab hW hlb m x hnode hCx (drew r) b xo xc (E.up (hE7.trans hD)) (hx.up (O.trans hD))) ?_));rintro lv w8 ⟨hlv,L⟩
    have hz8:=L.size;refine WL.nil (bf ⟨L.block _ SM,L.block _ SM,L.block _ SM⟩ ?_);obtain⟨lo,lc,hlve⟩:=hlv.val;subst hlve;have hkv8:=(hkv7.extN hD).extN L;refine b_ (α:=Raw) (F:=di) (bytes:=24) (yv:=(⟨.slice lo (js nx.length (mH nx lb fr x)).length lc⟩:Raw)) rfl rfl rfl rfl SX rfl rfl SX hkv8 (Rd.mkRaw _ _ _ rfl) SM S0 SP SS SM
     (fun z hz=>⟨(hz.block _ SM (fun e=>by have:=M _ e.symm;omega)).trans (L.block _ SM),(hz.block _ SM (fun e=>by have:=M _ e.symm;omega)).trans (L.block _ SM),(hz.block _ SM (fun e=>by have:=M _ e.symm;omega)).trans (L.block _ SM)⟩) (fun kv' w9 q9 ho9 hg9 hnb9=>?_)
    obtain⟨ko',kc',rfl⟩:=ho9.val;have hb69:=((hb6d.ext L).kept hg9 (fun e=>by have:=M _ e.symm;omega));have hz9:=hg9.size;refine HL.nil (bB rfl (f_ hb69 (fun w10 hb10 hg10=>WL.nil (bC ?_))));have hlvs:Rd w8 (Fz w8 (fun b=>kv.ownBlock=some b\/b=H.heap.size)) (.slice lo (js nx.length (mH nx lb fr x)).length lc) (js nx.length (mH nx lb fr x)):=
     hlv.rd.mono S8 (fun g D=>D.elim (fun h=>h.elim) (fun D=>⟨(hlv.lt g D).2.1,fun h=>by
      have h1:=(hlv.lt g D).1;rcases h with h|h
      ·have:=M g h;omega
      ·omega⟩))
    have hin8:=(R.to (M':=fun b=>kv.ownBlock=some b\/b=H.heap.size) (Chg.of_ext _ ((O.trans hD).trans L)) (fun _ h=>.inl h)).push hlvs;have hC9:Chg (fun b=>kv.ownBlock=some b\/b=H.heap.size) w8 w10:=((Chg.of_grown hg9).wk (fun _ h=>.inl h)).grown hg10 (fun g D=>by cases D;exact .inr rfl);have X:=hin8.to (M':=fun b=>Value.ownBlock (.slice ko' (vs++[(⟨.slice lo (js nx.length (mH nx lb fr x)).length lc⟩:Raw)]).length kc')=some b\/b=H.heap.size) hC9 (fun g D=>D.elim (fun D=>(hnb9 g D).imp .inl id) (fun D=>.inl (.inr D)));rw[<-htk]at X
    have hC10:Chg (fun b=>b=H.heap.size) w4 w10:=(K.trans (Chg.of_ext _ ((O.trans hD).trans L))).then hC9 (fun g D=>D.elim (fun h=>.inr (M g h).1) .inl);refine Tn ?_;exact EX.back (i+1,_,vs++[_]) SL ⟨Y,hb10,ho9.keptN hg10 (fun g D e=>by
     have:=QV e;rcases hnb9 g D with h|h
     ·have:=M g h;omega
     ·omega),X,hC10⟩ SR
   ·have hie:i=kids.length:=by simp at h;omega
    subst hie;rw[PV]at R
    obtain⟨ko,kc,rfl,c⟩:=R.old W;clear R W hi h K hvl;obtain⟨ao2,ac2,rfl,has⟩:=hav5.asSl;refine T6 ?_;apply CW.cond rfl<;>intro h
    ·obtain rfl:k=1:=by simpa using h
     have d:kids.length=0:=by have:zL 1=0:=rfl;omega
     obtain rfl:kids=[]:=N0 d;refine Th ?_;exact bj ⟨hav5,a⟩
    have n1:k≠1:=by simpa using h
    clear h;refine T2 ?_;apply CW.cond rfl<;>intro h
    ·obtain rfl:k=3:=by simpa using h
     have d:kids.length=0:=by have:zL 3=0:=rfl;omega
     obtain rfl:kids=[]:=N0 d;refine TX ?_;refine eN (ot w5 (P:=fun i=>lb.getD i 0 >>> n.toNat&&&1=1) (E.up a) hn (fun w x N hx=>FnV.mk (f:=98) (AC w (E.up (a.trans N)) (B.ext N) (G.ext N) (by rw[hlb];exact hx) hn0))) ?_;rintro _ C ⟨ho,A⟩
     refine T5 ?_;exact bj ⟨ho.low a.size,a.trans A⟩
    have n3:k≠3:=by simpa using h
    clear h;refine T2 ?_;apply CW.cond rfl<;>intro h
    ·obtain rfl:k=4:=by simpa using h
     have d:kids.length=1:=by have:zL 4=1:=rfl;omega
     obtain⟨x,rfl⟩:=OX.1 d;have c:Sl w5 (dl w5) ko kc [js nx.length (mH nx lb fr x)]:=c;have j:∀z,(fun z:World=>Ext w5 z) z->Ext w5 z:=fun _ h=>h
     refine T9 ?_;refine aG (fun z:World=>Ext w5 z) [(0,true),(1,true),(2,true),(3,true),(4,false),(5,true)] mixed SN (Ext.drew w5) (Ut ?_);refine cj (k:=0) j rfl rfl rfl rfl rfl rfl rfl S3 c SQ SX (fun u0 q0 l=>?_);obtain⟨uo0,uc0,rfl,o⟩:=l.sl;refine cD rfl (eN (AG (drew w5) (E.up (a.trans (Ext.drew w5))) hn (o.up (Ext.drew w5))) ?_);rintro v6 C ⟨ho6,A⟩
     have p:Ext w5 C:=Ext.trans (Ext.drew w5) A;refine WL.nil (bf p (Uu ?_));refine Tp ?_;exact bj ⟨ho6.low (a.trans (Ext.drew w5)).size,a.trans p⟩
    have n4:k≠4:=by simpa using h
    clear h;refine T2 ?_;apply CW.cond rfl<;>intro h
    ·obtain rfl:k=5:=by simpa using h
     have d:kids.length=2:=by have:zL 5=2:=rfl;omega
     obtain⟨x,y,rfl⟩:=Az d;have c:Sl w5 (dl w5) ko kc [js nx.length (mH nx lb fr x),js nx.length (mH nx lb fr y)]:=c;have j:∀z,(fun z:World=>Ext w5 z) z->Ext w5 z:=fun _ h=>h
     refine T9 ?_;refine aG (fun z:World=>Ext w5 z) [(0,true),(1,true),(2,true),(3,true),(4,true),(5,true),(6,true),(7,false),(8,true)] mixed SN (Ext.drew w5) (Ut ?_);refine cj (k:=0) j rfl rfl rfl rfl rfl rfl rfl S3 c SQ SX (fun u0 q0 l=>?_);obtain⟨uo0,uc0,rfl,o⟩:=l.sl;refine Ut ?_;refine cj (k:=1) j rfl rfl rfl rfl rfl rfl rfl S3 c SQ SX (fun u1 q1 U=>?_);obtain⟨uo1,uc1,rfl,V⟩:=U.sl;refine cD rfl (eN (Al (drew w5) (E.up (a.trans (Ext.drew w5))) hn (o.up (Ext.drew w5)) (V.up (Ext.drew w5))) ?_);rintro v6 C ⟨ho6,A⟩
     have p:Ext w5 C:=Ext.trans (Ext.drew w5) A;refine WL.nil (bf p (Uu ?_));refine Tp ?_;exact bj ⟨ho6.low (a.trans (Ext.drew w5)).size,a.trans p⟩
    have n5:k≠5:=by simpa using h
    clear h;refine T2 ?_;apply CW.cond rfl<;>intro h
    ·obtain rfl:k=6:=by simpa using h
     have d:kids.length=2:=by have:zL 6=2:=rfl;omega
     obtain⟨x,y,rfl⟩:=Az d;have c:Sl w5 (dl w5) ko kc [js nx.length (mH nx lb fr x),js nx.length (mH nx lb fr y)]:=c;refine TX ?_;refine eN (ot w5 (P:=fun i=>mH nx lb fr x i\/mH nx lb fr y i) (E.up a) hn (fun w z N hz=>FnV.mk (f:=101) (AD w (I.ext N) (c.up N) hz))) ?_;rintro _ C ⟨ho,A⟩
     refine T5 ?_;exact bj ⟨ho.low a.size,a.trans A⟩
    have n6:k≠6:=by simpa using h
    clear h;refine T2 ?_;apply CW.cond rfl<;>intro h
    ·obtain rfl:k=7:=by simpa using h
     have d:kids.length=1:=by have:zL 7=1:=rfl;omega
     obtain⟨x,rfl⟩:=OX.1 d;have c:Sl w5 (dl w5) ko kc [js nx.length (mH nx lb fr x)]:=c;have j:∀z,(fun z:World=>Ext w5 z) z->Ext w5 z:=fun _ h=>h
     refine T9 ?_;refine aG (fun z:World=>Ext w5 z) [(0,true),(1,true),(2,true),(3,true),(4,false),(5,true)] mixed SN (Ext.drew w5) (Ut ?_);refine cj (k:=0) j rfl rfl rfl rfl rfl rfl rfl S3 c SQ SX (fun u0 q0 l=>?_);obtain⟨uo0,uc0,rfl,o⟩:=l.sl;refine cD rfl (eN (Au (drew w5) (E.up (a.trans (Ext.drew w5))) hW.g hn (o.up (Ext.drew w5))) ?_);rintro v6 C ⟨ho6,A⟩
     have p:Ext w5 C:=Ext.trans (Ext.drew w5) A;refine WL.nil (bf p (Uu ?_));refine Tp ?_;exact bj ⟨ho6.low (a.trans (Ext.drew w5)).size,a.trans p⟩
    have n7:k≠7:=by simpa using h
    clear h;refine T2 ?_;apply CW.cond rfl<;>intro h
    ·obtain rfl:k=8:=by simpa using h
     have d:kids.length=1:=by have:zL 8=1:=rfl;omega
     obtain⟨x,rfl⟩:=OX.1 d;have c:Sl w5 (dl w5) ko kc [js nx.length (mH nx lb fr x)]:=c;have j:∀z,(fun z:World=>Ext w5 z) z->Ext w5 z:=fun _ h=>h
     refine T9 ?_;refine aG (fun z:World=>Ext w5 z) [(0,true),(1,true),(2,true),(3,true),(4,true),(5,false),(6,true)] mixed SN (Ext.drew w5) (Ut ?_);refine cj (k:=0) j rfl rfl rfl rfl rfl rfl rfl S3 c SQ SX (fun u0 q0 l=>?_);obtain⟨uo0,uc0,rfl,o⟩:=l.sl;refine cD rfl (eN (As (drew w5) (E.up (a.trans (Ext.drew w5))) hW.g hn (has.up (Ext.drew w5)) (o.up (Ext.drew w5))) ?_);rintro v6 C ⟨ho6,A⟩
     have p:Ext w5 C:=Ext.trans (Ext.drew w5) A;refine WL.nil (bf p (Uu ?_));refine Tp ?_;exact bj ⟨ho6.low (a.trans (Ext.drew w5)).size,a.trans p⟩
    have n8:k≠8:=by simpa using h
    clear h;refine T2 ?_;apply CW.cond rfl<;>intro h
    ·obtain rfl:k=9:=by simpa using h
     have d:kids.length=1:=by have:zL 9=1:=rfl;omega
     obtain⟨x,rfl⟩:=OX.1 d;have c:Sl w5 (dl w5) ko kc [js nx.length (mH nx lb fr x)]:=c;have j:∀z,(fun z:World=>Ext w5 z) z->Ext w5 z:=fun _ h=>h
     refine T9 ?_;refine aG (fun z:World=>Ext w5 z) [(0,true),(1,true),(2,true),(3,true),(4,false),(5,true)] mixed SN (Ext.drew w5) (Ut ?_);refine cj (k:=0) j rfl rfl rfl rfl rfl rfl rfl S3 c SQ SX (fun u0 q0 l=>?_);obtain⟨uo0,uc0,rfl,o⟩:=l.sl;refine cD rfl (eN (Ao (drew w5) (E.up (a.trans (Ext.drew w5))) hW (o.up (Ext.drew w5))) ?_);rintro v6 C ⟨ho6,A⟩
     have p:Ext w5 C:=Ext.trans (Ext.drew w5) A;refine WL.nil (bf p (Uu ?_));refine Tp ?_;exact bj ⟨ho6.low (a.trans (Ext.drew w5)).size,a.trans p⟩
    have n9:k≠9:=by simpa using h
    clear h;refine T2 ?_;apply CW.cond rfl<;>intro h
    ·obtain rfl:k=10:=by simpa using h
     have d:kids.length=2:=by have:zL 10=2:=rfl;omega
     obtain⟨x,y,rfl⟩:=Az d;have c:Sl w5 (dl w5) ko kc [js nx.length (mH nx lb fr x),js nx.length (mH nx lb fr y)]:=c;have j:∀z,(fun z:World=>Ext w5 z) z->Ext w5 z:=fun _ h=>h
     refine T9 ?_;refine aG (fun z:World=>Ext w5 z) [(0,true),(1,true),(2,true),(3,true),(4,true),(5,true),(6,true),(7,false),(8,true)] mixed SN (Ext.drew w5) (Ut ?_);refine cj (k:=0) j rfl rfl rfl rfl rfl rfl rfl S3 c SQ SX (fun u0 q0 l=>?_);obtain⟨uo0,uc0,rfl,o⟩:=l.sl;refine Ut ?_;refine cj (k:=1) j rfl rfl rfl rfl rfl rfl rfl S3 c SQ SX (fun u1 q1 U=>?_);obtain⟨uo1,uc1,rfl,V⟩:=U.sl;refine cD rfl (eN (As (drew w5) (E.up (a.trans (Ext.drew w5))) hW.g hn (o.up (Ext.drew w5)) (V.up (Ext.drew w5))) ?_);rintro v6 C ⟨ho6,A⟩
     have p:Ext w5 C:=Ext.trans (Ext.drew w5) A;refine WL.nil (bf p (Uu ?_));refine Tp ?_;exact bj ⟨ho6.low (a.trans (Ext.drew w5)).size,a.trans p⟩
    have n10:k≠10:=by simpa using h
    clear h;refine T2 ?_;apply CW.cond rfl<;>intro h
    ·obtain rfl:k=11:=by simpa using h
     have d:kids.length=1:=by have:zL 11=1:=rfl;omega
     obtain⟨x,rfl⟩:=OX.1 d;have c:Sl w5 (dl w5) ko kc [js nx.length (mH nx lb fr x)]:=c;have j:∀z,(fun z:World=>Ext w5 z) z->Ext w5 z:=fun _ h=>h
     refine T9 ?_;refine aG (fun z:World=>Ext w5 z) [(0,true),(1,true),(2,true),(3,true),(4,true),(5,true),(6,false),(7,false),(8,false),(9,true)] mixed SN (Ext.drew w5) (Ut ?_);refine cj (k:=0) j rfl rfl rfl rfl rfl rfl rfl S3 c SQ SX (fun u0 q0 l=>?_);obtain⟨uo0,uc0,rfl,o⟩:=l.sl;refine cD rfl (eN (AG (drew w5) (E.up (a.trans (Ext.drew w5))) hn (o.up (Ext.drew w5))) ?_);rintro v6 C ⟨ho6,A⟩
     have p:Ext w5 C:=Ext.trans (Ext.drew w5) A;refine WL.nil (bf p ?_);obtain⟨do6,dc6,rfl,hd6⟩:=ho6.asSl;refine cD rfl (eN (Au C (E.up (a.trans p)) hW.g hn hd6) ?_);rintro v7 r ⟨ho7,O⟩
     have Q:Ext w5 r:=Ext.trans p O;refine WL.nil (bf Q ?_);obtain⟨do7,dc7,rfl,Z⟩:=ho7.asSl;refine cD rfl (eN (AG r (E.up (a.trans Q)) hn Z) ?_);rintro v8 w8 ⟨ho8,L⟩
     have x8:Ext w5 w8:=Ext.trans Q L;refine WL.nil (bf x8 (Uu ?_));refine Tp ?_;exact bj ⟨ho8.low (a.trans Q).size,a.trans x8⟩
    have n11:k≠11:=by simpa using h
    clear h;refine T2 ?_;apply CW.cond rfl<;>intro h
    ·obtain rfl:k=12:=by simpa using h
     have d:kids.length=1:=by have:zL 12=1:=rfl;omega
     obtain⟨x,rfl⟩:=OX.1 d;have c:Sl w5 (dl w5) ko kc [js nx.length (mH nx lb fr x)]:=c;have j:∀z,(fun z:World=>Ext w5 z) z->Ext w5 z:=fun _ h=>h
     refine T9 ?_;refine aG (fun z:World=>Ext w5 z) [(0,true),(1,true),(2,true),(3,true),(4,true),(5,true),(6,false),(7,false),(8,false),(9,true)] mixed SN (Ext.drew w5) (Ut ?_);refine cj (k:=0) j rfl rfl rfl rfl rfl rfl rfl S3 c SQ SX (fun u0 q0 l=>?_);obtain⟨uo0,uc0,rfl,o⟩:=l.sl;refine cD rfl (eN (AG (drew w5) (E.up (a.trans (Ext.drew w5))) hn (o.up (Ext.drew w5))) ?_);rintro v6 C ⟨ho6,A⟩
     have p:Ext w5 C:=Ext.trans (Ext.drew w5) A;refine WL.nil (bf p ?_);obtain⟨do6,dc6,rfl,hd6⟩:=ho6.asSl;refine cD rfl (eN (Ao C (E.up (a.trans p)) hW hd6) ?_);rintro v7 r ⟨ho7,O⟩
     have Q:Ext w5 r:=Ext.trans p O;refine WL.nil (bf Q ?_);obtain⟨do7,dc7,rfl,Z⟩:=ho7.asSl;refine cD rfl (eN (AG r (E.up (a.trans Q)) hn Z) ?_);rintro v8 w8 ⟨ho8,L⟩
     have x8:Ext w5 w8:=Ext.trans Q L;refine WL.nil (bf x8 (Uu ?_));refine Tp ?_;exact bj ⟨ho8.low (a.trans Q).size,a.trans x8⟩
    have n12:k≠12:=by simpa using h
    clear h;refine T2 ?_;apply CW.cond rfl<;>intro h
    ·obtain rfl:k=13:=by simpa using h
     have d:kids.length=1:=by have:zL 13=1:=rfl;omega
     obtain⟨x,rfl⟩:=OX.1 d;have c:Sl w5 (dl w5) ko kc [js nx.length (mH nx lb fr x)]:=c;have j:∀z,(fun z:World=>Ext w5 z) z->Ext w5 z:=fun _ h=>h
     refine T9 ?_;refine aG (fun z:World=>Ext w5 z) [(0,true),(1,true),(2,true),(3,true),(4,true),(5,true),(6,true),(7,false),(8,false),(9,false),(10,true)] mixed SN (Ext.drew w5) (Ut ?_);refine cj (k:=0) j rfl rfl rfl rfl rfl rfl rfl S3 c SQ SX (fun u0 q0 l=>?_);obtain⟨uo0,uc0,rfl,o⟩:=l.sl;refine cD rfl (eN (AG (drew w5) (E.up (a.trans (Ext.drew w5))) hn (o.up (Ext.drew w5))) ?_);rintro v6 C ⟨ho6,A⟩
     have p:Ext w5 C:=Ext.trans (Ext.drew w5) A;refine WL.nil (bf p ?_);obtain⟨do6,dc6,rfl,hd6⟩:=ho6.asSl;refine cD rfl (eN (As C (E.up (a.trans p)) hW.g hn (has.up p) hd6) ?_);rintro v7 r ⟨ho7,O⟩
     have Q:Ext w5 r:=Ext.trans p O;refine WL.nil (bf Q ?_);obtain⟨do7,dc7,rfl,Z⟩:=ho7.asSl;refine cD rfl (eN (AG r (E.up (a.trans Q)) hn Z) ?_);rintro v8 w8 ⟨ho8,L⟩
     have x8:Ext w5 w8:=Ext.trans Q L;refine WL.nil (bf x8 (Uu ?_));refine Tp ?_;exact bj ⟨ho8.low (a.trans Q).size,a.trans x8⟩
    have n13:k≠13:=by simpa using h
    clear h;refine T2 ?_;apply CW.cond rfl<;>intro h
    ·obtain rfl:k=14:=by simpa using h
     have d:kids.length=2:=by have:zL 14=2:=rfl;omega
     obtain⟨x,y,rfl⟩:=Az d;have c:Sl w5 (dl w5) ko kc [js nx.length (mH nx lb fr x),js nx.length (mH nx lb fr y)]:=c;have j:∀z,(fun z:World=>Ext w5 z) z->Ext w5 z:=fun _ h=>h
     refine T9 ?_;refine aG (fun z:World=>Ext w5 z) [(0,true),(1,true),(2,true),(3,true),(4,true),(5,true),(6,true),(7,false),(8,true)] mixed SN (Ext.drew w5) (Ut ?_);refine cj (k:=0) j rfl rfl rfl rfl rfl rfl rfl S3 c SQ SX (fun u0 q0 l=>?_);obtain⟨uo0,uc0,rfl,o⟩:=l.sl;refine Ut ?_;refine cj (k:=1) j rfl rfl rfl rfl rfl rfl rfl S3 c SQ SX (fun u1 q1 U=>?_);obtain⟨uo1,uc1,rfl,V⟩:=U.sl;refine cD rfl (eN (Ai (drew w5) (E.up (a.trans (Ext.drew w5))) hW (o.up (Ext.drew w5)) (V.up (Ext.drew w5))) ?_);rintro v6 C ⟨ho6,A⟩
     have p:Ext w5 C:=Ext.trans (Ext.drew w5) A;refine WL.nil (bf p (Uu ?_));refine Tp ?_;exact bj ⟨ho6.low (a.trans (Ext.drew w5)).size,a.trans p⟩
    have n14:k≠14:=by simpa using h
    clear h;obtain rfl:k=2:=by
     unfold zL at J
     have h0:0<=(kids.length:Int):=by omega
     split at J
     ·omega
     split at J
     ·omega
     split at J
     ·omega
     omega
    refine TS ?_;refine eN (AG w5 (E.up a) hn has) ?_;rintro _ C ⟨ho,A⟩
    have hfe:(js nx.length fun i=>¬True)=js nx.length (mH nx lb fr (.mk 2 n kids)):=jt (fun i _=>⟨fun h=>absurd trivial h,fun h=>absurd h (fun h=>by cases h)⟩);rw[hfe]at ho
    refine Tk ?_;exact bj ⟨ho.low a.size,a.trans A⟩
def i_(w0:World){a1 a4:Option Addr}{c1 c2:Nat}{st:List Int}{nx fr:bZ}{lb:List Nat}(h1:Sl w0 (dl w0) a1 c1 st)(h2:Sl w0 (dl w0) C c2 nx)(h3:Sl w0 (dl w0) D B lb)(h4:Sl w0 (dl w0) a4 a fr)
  (I:lq st nx lb.length fr=0) (T:oB nx<=8589934592):
  Rt UA 54 [L6 a1 c1 C c2 D B a4 a st.length nx.length lb.length fr.length].toArray w0 fun v w'=>∃b,v=z_ b/\LabAt w' b nx lb fr/\Ext w0 w':=by
 obtain⟨x,H,S,u,l,w⟩:=lr I;have o:okG nx:=fun r P=>(l r P).2
 refine dU Tryz.func54 Tryz.ntmps54 rfl rfl (T9 ?_);refine eJ fun V i J=>?_
 have R:=i.lt;have n:=J.size;refine TN ?_;refine eK ?_;refine eJ fun L d F=>?_
 have i:=i.ext F;have f:=J.trans F;have Q:=d.lt;have O:=F.size;refine TN ?_;refine eN (bR L (h1.up f) (h2.up f) h3.len63 (h4.up f) T) ?_;rintro _ U ⟨fv,rfl,c,p⟩
 rw[Sj I,gN o]at c
 obtain⟨fo,fc,rfl⟩:=c.val;have i:=i.ext p;have d:=d.ext p;have f:=f.trans p;have N:=p.size;refine Uk ?_;refine f_ d (fun G d j=>?_);have c:=c.keptN j (fun g k e=>by have:=(c.lt g k).1;have:=QV e;omega);have i:=i.kept j S6;have f:Ext w0 G:=f.grown j f.size (fun g k=>by cases k;exact n);have M:=j.size;refine TJ ?_;refine eN (eB G (h2.up f)) ?_;rintro _ w5 ⟨tv,vs,rfl,h,E⟩
 have y:kN nx=0:=kO o SM;have t:Km nx=Kn nx:=by unfold Km;rw[Sj y]
 rw[t]at h
 obtain⟨to,tc,q⟩:=h.out.val;have s:=h.len;subst q;have d:=d.ext E;have c:=c.extN E;have f:=f.trans E;refine Uk ?_;refine f_ d (fun K d m=>?_);have c:=c.keptN m (fun g k e=>by have:=(c.lt g k).1;have:=QV e;omega);have h:=h.kept m (fun g k e=>by have:=(h.lt g k).1;have:=QV e;omega);have f:Ext w0 K:=f.grown m f.size (fun g k=>by cases k;exact n);obtain⟨ao,ac,ea,A⟩:=c.asSl;obtain⟨rfl,_,rfl⟩:=RS ea;obtain⟨W,bc,eb,z⟩:=h.old.sl;obtain⟨rfl,_,rfl⟩:=RS eb;rw[s]at d
 refine Tw ?_;exact bj ⟨_,rfl,⟨_,_,_,_,_,_,_,_,_,_,_,_,_,d,h2.up f,h3.up f,h4.up f,A,z⟩,f⟩
def zW(st:List Int)(nx:bZ)(k:Nat)(fr:bZ)(t:Ltl):Int:=if lq st nx k fr≠0 then lq st nx k fr else(kh t 1 0).1
def zX{st:List Int}{nx:bZ}{k:Nat}{fr:bZ}{t:Ltl}(h:zW st nx k fr t=0):lq st nx k fr=0/\(kh t 1 0).1=0:=by
 unfold zW at h
 split at h
 ·rename_i h1;exact absurd h h1
 ·rename_i h1;exact⟨by simpa using h1,h⟩
def Am(w0:World){a1 a4 to:Option Addr}{c1 c2:Nat}{st:List Int}{nx fr:bZ}{lb:List Nat}{t:Ltl}(h1:Sl w0 (dl w0) a1 c1 st)(h2:Sl w0 (dl w0) C c2 nx)(h3:Sl w0 (dl w0) D B lb)(h4:Sl w0 (dl w0) a4 a fr)(j:Sl w0 (dl w0) to K t.kids):
  Rt UA 53 [L6 a1 c1 C c2 D B a4 a st.length nx.length lb.length fr.length,AR t.k t.n to t.kids.length K].toArray w0 fun v w'=>v=Te (zW st nx lb.length fr t)/\Ext w0 w':=by
 refine dV Tryz.func53 Tryz.ntmps53 rfl rfl ?_;refine T9 ?_;refine eJ fun n d l=>?_
 skip;refine eJ fun i c f=>?_
 have d:=d.ext f;have b:=l.trans f;refine TN ?_;refine eN (Ll i (h1.up b) (h2.up b) h3.len63 (h4.up b)) ?_;rintro _ g ⟨rfl,e⟩
 have c:=c.ext e;have b:=b.trans e;unfold zW;refine T2 ?_;apply CW.cond rfl<;>intro h
 ·have h:lq st nx lb.length fr≠0:=by simpa using h
  rw[Sj h];refine Tw ?_;exact bj ⟨rfl,b⟩
 have h:lq st nx lb.length fr=0:=by simpa using h
 rw[Si (by simp[h])];refine Tq ?_;refine eN (mG g (j.up b) S3) ?_;rintro _ m ⟨rfl,k⟩
 refine Tk ?_;exact bj ⟨rfl,b.trans k⟩
def c6(w0:World){a1 a4 to:Option Addr}{c1 c2:Nat}{st:List Int}{nx fr:bZ}{lb:List Nat}{t:Ltl}(h1:Sl w0 (dl w0) a1 c1 st)(h2:Sl w0 (dl w0) C c2 nx)(h3:Sl w0 (dl w0) D B lb)(h4:Sl w0 (dl w0) a4 a fr)(u:Sl w0 (dl w0) to K t.kids)
  (A:oB nx<=8589934592):
  Rt UA 24 [L6 a1 c1 C c2 D B a4 a st.length nx.length lb.length fr.length,AR t.k t.n to t.kids.length K].toArray w0 fun v w'=>∃x,v=.tuple ⟨[x,Te (zW st nx lb.length fr t)]⟩/\
   Own w' w0.heap.size 4 di x (if zW st nx lb.length fr t=0 then js nx.length (mH nx lb fr t)else [])/\Ext w0 w':=by
 refine dV Tryz.func24 Tryz.ntmps24 rfl rfl ?_;refine T9 ?_;refine eJ fun O f N=>?_
 skip;refine eJ fun F k E=>?_
 have f:=f.ext E;have d:=N.trans E;refine TN ?_;refine eN (Am F (h1.up d) (h2.up d) (h3.up d) (h4.up d) (u.up d)) ?_;rintro _ e ⟨rfl,p⟩
 have f:=f.ext p;have k:=k.ext p;have d:=d.trans p;refine T2 ?_;apply CW.cond rfl<;>intro h
 ·have h:zW st nx lb.length fr t≠0:=by simpa using h
  rw[Si h];refine Tw ?_;exact bl rfl rfl rfl ⟨_,rfl,Own.nil,d⟩
 have h:zW st nx lb.length fr t=0:=by simpa using h
 rw[Sj h,h];obtain⟨y,hf⟩:=zX h;obtain⟨j,w,o,m,g,i⟩:=lr y;have n:okG nx:=fun r G=>(g r G).2
 have I:∀z,(fun z:World=>Ext e z) z->Ext e z:=fun _ h=>h
 refine T7 ?_;refine aG (fun z:World=>Ext e z) [(0,true),(2,true),(1,false),(3,false),(4,true),(5,true)] mixed SN (Ext.drew e) ?_;refine Up ?_;have c:=d.trans (Ext.drew e);refine cD rfl (eN (i_ (drew e) (h1.up c) (h2.up c) (h3.up c) (h4.up c) y A) ?_);rintro _ s ⟨b,rfl,J,M⟩
 have l:Ext e s:=Ext.trans (Ext.drew e) M;refine WL.nil (bf l ?_);skip;have c:=d.trans l;refine cD rfl (eN (Ab ⟨j,n,i,A⟩ o t.nodes t Ta (kx t _ _ hf) s b to K J (u.up c)) ?_);rintro _ w5 ⟨H,L⟩
 have q:Ext e w5:=Ext.trans l L;refine WL.nil (bf q ?_);refine Uu ?_;refine TV ?_;exact bl rfl rfl rfl ⟨_,rfl,H.low c.size,d.trans q⟩
section
variable {s l:List Nat}{k n:Int}{ks:List (List Bool)}
end
section
variable {p:cR}
end
abbrev Lf(b:Bool)(so:Option Addr)(sc:Nat)(lo:Option Addr)(a:Nat)(s l:List Int):Value:=.agg [.bool b,.slice so s.length sc,.slice lo l.length a].toArray
abbrev BY(p:cR):List ByteArray:=p.1.map (·.1)
noncomputable abbrev rW(p:cR)(tok st:Int):cY:=(Gw p tok st).1.1
noncomputable abbrev rO(p:cR)(tok st:Int):List cN:=(Gw p tok st).1.2
structure RunsK(p:cR)(tok st:Int):Prop where
 chk:kB (rW p tok st)=0
 ed:oB (rW p tok st).2.1<=8589934592
 of:(rO p tok st).length=(rW p tok st).2.1.length
 row:∀j,((rW p tok st).2.1.getD j []).length<=1048576
 start:(rW p tok st).1.length<=1048576
 n:p.1.length<=20
def Gy{p:cR}{tok st:Int}(h:(Gw p tok st).2=0):RunsK p tok st:=by
 obtain⟨h1,h2,h3⟩:=Gx h;have c:=pW h1;have d:=(pU h1).1;have a:kX p=0:=(It d).1;have b:rW p tok st=GA (Is p).1 (pS p tok st).1.2:=by unfold rW;rw[h3]
 have g:rO p tok st=Cz (pS p tok st).1.2 (pS p tok st).1.2.length:=by unfold rO;rw[h3]
 refine⟨?_,?_,?_,?_,?_,(kY a).n⟩
 ·rw[b]
  have:=GB c h2;have e:(GA (Is p).1 (pS p tok st).1.2).2.2.1.length=iw (pS p tok st).1.2 (pS p tok st).1.2.length:=by
   show((List.range _).map _).length=_;rw[O1,O4]
  unfold kB;rw[e];exact this
 ·rw[b];exact FR c h2
 ·rw[b,g]
  show _=((List.range _).map _).length;rw[O1,O4];rfl
 ·intro j
  rw[b];show((FQ (pS p tok st).1.2).getD j []).length<=_;by_cases f:j<(FQ (pS p tok st).1.2).length
  ·rw[FT (by rw[<-FU];exact f)]
   have:=(BP c (j:=j)).2;omega
  ·rw[Oi,Oo SM];simp
 ·rw[b]
  show(gH (pS p tok st).1.2 0).length<=_;unfold gH Bt;rw[O1,O4];have:=c.row 0;omega
noncomputable def yR(p:cR)(r:cS)(tok st:Int):Int:=
 if(Gw p tok st).2≠0 then(Gw p tok st).2 else if k8 r (BY p)≠0 then k8 r (BY p)else if r.2.1=4 then 0 else if(rP r).2≠0 then(rP r).2 else(AW (Ck (rP r).1)).2
structure JdgR(p:cR)(r:cS)(tok st:Int)(h:Bool)(s l:List Int)(e:Int):Prop where
 bad:e≠0->h=false/\s=[]/\l=[]
 pre:e=0->(Gw p tok st).2=0/\k8 r (BY p)=0
 ctl:e=0->r.2.1=4->s=[]/\l=[]/\(h=true↔∀n∈(rW p tok st).1,mH (rW p tok st).2.1 (rW p tok st).2.2.1 (rW p tok st).2.2.2 r.2.2.2.2.2 n.toNat)
 ltl:e=0->r.2.1≠4->(rP r).2=0/\(kD (rP r).1 1 0).1=0/\LJ (rP r).1/\(AW (Ck (rP r).1)).2=0/\(h=true↔ai (rW p tok st) (rP r).1)/\(h=true->s=[]/\l=[])/\
  (h=false->∃ps pl,PathE (rW p tok st) (AW (Ck (rP r).1)).1 ps pl/\s=(ps.map fun n=>((rO p tok st).getD n.toNat (0,0)).1)/\l=(pl.map fun n=>((rO p tok st).getD n.toNat (0,0)).1))
 good:(Gw p tok st).2=0->k8 r (BY p)=0->r.2.1≠4->(rP r).2=0->(AW (Ck (rP r).1)).2=0->e=0
 goodC:(Gw p tok st).2=0->k8 r (BY p)=0->r.2.1=4->e=0
 err:e≠0->e=yR p r tok st
def rQ{r:cS}(h:(rP r).2=0):(kD (rP r).1 1 0).1=0:=by
 unfold rP at h⊢
 split
 ·rename_i h1
  rw[Sj h1]at h
  unfold nL at h⊢
  split
  ·rename_i h2;rw[Sj h2]at h;exact absurd h h2
  ·rename_i h2
   rw[Si h2]at h
   split
   ·rename_i h3;rw[Sj h3]at h;exact absurd h h3
   ·rename_i h3;simpa using h3
 ·rename_i h1
  rw[Si h1]at h
  split
  ·rename_i h2
   rw[Sj h2]at h
   unfold mR at h⊢
   split
   ·rename_i h3;rw[Sj h3]at h;exact absurd h h3
   ·rename_i h3
    rw[Si h3]at h
    split
    ·rename_i h4;rw[Sj h4]at h;exact absurd h h4
    ·rename_i h4;simpa using h4
  ·rename_i h2
   rw[Si h2]at h
   split
   ·rename_i h3
    rw[Sj h3]at h
    split
    ·rename_i h4;rw[Sj h4]at h;exact absurd h h4
    ·rename_i h4;simpa using h4
   ·rename_i h3
    rw[Si h3]at h;cases h
def yS{p:cR}{r:cS}{tok st e:Int}(c:e≠0)(d:(Gw p tok st).2=0->k8 r (BY p)=0->False)(f:e=yR p r tok st):JdgR p r tok st false [] [] e:=
 ⟨fun _=>⟨rfl,rfl,rfl⟩,fun h=>absurd h c,fun h=>absurd h c,fun h=>absurd h c,fun a b _ _ _=>(d a b).elim,fun a b _=>(d a b).elim,fun _=>f⟩
def k9{r:cS}(h:k8 r f=0)(h4:r.2.1=4):(kh r.2.2.2.2.2 1 0).1=0:=by
 unfold k8 at h
 split at h
 ·cases h
 split at h
 ·rename_i g;exact absurd h g
 rename_i g;have a:DD r f=0:=by simpa using g
 unfold DD at a
 split at a
 ·cases a
 ·unfold DE at a
  rw[Si SM,Si SM,Si SM,Sj h4]at a
  unfold Eo at a
  split at a
  ·rename_i g2;exact absurd a g2
  ·rename_i g2;simpa using g2
def KB(l:List UInt8):ByteArray:=⟨l.toArray⟩
def KE(l:List UInt8):(KB l).data.toList=l:=by simp[KB]
def KD(s:ByteArray):KB s.data.toList=s:=by cases s;simp[KB]
def KC(a b:List UInt8):KB a++KB b=KB (a++b):=by
 apply ByteArray.ext;simp[KB,ByteArray.append]
def KF(l:List UInt8):(KB l).size=l.length:=by simp[KB,ByteArray.size]
abbrev tV(l:List UInt8):Value:=.string (KB l)
section
variable {P:Program}{Q:Exit->Act->World->Prop}{n:Nat}{σ:Sg}{w:World}{L rest:List Oper}{d:Nat}{op:Op}{ty:TypeId}{pos:String}{af:Array Edge}{g:Option (Nat×Bool)}{t yt:TypeId}{x y ix:Operand}
theorem F3{a b:List UInt8}(w:World)(h:a.length+b.length<9223372036854775808):((do eqGuard .add t x y (tV a) (tV b);binOp .add t (tV a) (tV b):Sem Value)).run P w=.ok (tV (a++b)) w:=by
 have h1:((KB a).size:Int)+((KB b).size:Int)<=9223372036854775807:=by rw[KF,KF];omega
 simp[eqGuard,binOp,Op.stringOp,h1,KC,show IntKind.i64.max=9223372036854775807 by decide]
theorem eR{a b:List UInt8}(k:gd L σ ⟨some d,.binOp .add t x y yt,ty,pos,af,g⟩=some true)(hd:Nat.ble (d+1) n=true)(i:ev σ x=some (tV a))(f:ev σ y=some (tV b))(j:a.length+b.length<9223372036854775808)
  (h:WL P L Q rest n ((d,tV (a++b))::σ) w):WL P L Q (⟨some d,.binOp .add t x y yt,ty,pos,af,g⟩::rest) n σ w:=by
 refine WL.run k hd (fun c e=>?_) h;simp only[execOp,e.ev i,e.ev f];rw[Q4,F3 w j];rfl
theorem ce{S:World->Prop}{ord:List (Nat×Bool)}{i:Nat}{a b:List UInt8}(k:Cm L i=some ⟨some d,.binOp .add t x y yt,ty,pos,af,g⟩)(m:gd L σ ⟨some d,.binOp .add t x y yt,ty,pos,af,g⟩=some true)(hd:Nat.ble (d+1) n=true)
  (j:ev σ x=some (tV a)) (f:ev σ y=some (tV b)) (l:a.length+b.length<9223372036854775808) (h:HL P L S Q ord n ((d,tV (a++b))::σ) w):HL P L S Q ((i,true)::ord) n σ w:=by
 refine HL.run k m hd (fun c e w' _=>?_) h;simp only[execOp,e.ev j,e.ev f];rw[Q4,F3 w' l];rfl
class IsAr(P:Program)(t:TypeId)(k:outParam Nat)(e:outParam TypeId):Prop where
 ok:P.underlying t=some (.array k e)
theorem qN{p p':Nat->Option (Nat×Nat)}(h:∀i q,p i=some q->p' i=some q):∀(parts:List (Nat×Value)) (cells out:Array Value),Instr.fill p cells parts=some out->Instr.fill p' cells parts=some out
 |[],cells,out,e=>e
 |(i,v)::r,cells,out,e=>by
  unfold Instr.fill at e⊢
  cases a:p i with
  |none=>rw[a]at e;cases e
  |some q=>
   obtain⟨off,size⟩:=q;rw[a]at e
   rw[h i _ a];dsimp only at e⊢
   split at e
   ·cases e
   ·rename_i b
    rw[Si b];exact qN h r _ out e
def DX:Nat->Nat->List (Nat×Nat)
 |0,_=>[]
 |k+1,o=>(o,1)::DX k (o+1)
theorem DY:∀(k o i:Nat) (q:Nat×Nat),(DX k o)[i]?=some q->q=(o+i,1)
 |0,o,i,q,h=>by simp[DX]at h
 |k+1,o,0,q,h=>by simp[DX]at h;rw[<-h];rfl
 |k+1,o,i+1,q,h=>by
  simp only[DX,Ol]at h
  rw[DY k (o+1) i q h,show o+1+i=o+(i+1) by omega]
theorem eL{parts:List (Nat×Operand)}{vs:List Value}{k:Nat}{e:TypeId}{zs out:List Value}(v:gd L σ ⟨some d,.build t parts.toArray,ty,pos,af,g⟩=some true)(hd:Nat.ble (d+1) n=true)
  (s:pL σ (HV parts)=some vs) [E:IsZC P t zs] [u:IsAr P t k e] [F:IsC P e 1 false] (hf:qF (DX k 0) zs ((parts.map (·.1)).zip vs)=some out)
  (h:WL P L Q rest n ((d,.agg out.toArray)::σ) w):WL P L Q (⟨some d,.build t parts.toArray,ty,pos,af,g⟩::rest) n σ w:=by
 refine WL.run v hd (fun a G=>?_) h;obtain⟨i,z,f,c,b⟩:=E.ok;obtain⟨j,dd,m,l,_,_⟩:=F.ok;have C:=pM G (HV parts) vs s;have B:(parts.toArray.map fun x=>(x.1,a.eval x.2)).toList=(parts.map (·.1)).zip vs:=by
  rw[<-C];clear s hf v h C
  induction parts with
  |nil=>simp[HV]
  |cons p r D=>simpa[HV]using D
 have A:=qN (p':=fun i=>some (i*1,1)) (fun i q hq=>by
  have o:(DX k 0)[i]?=some q:=by simpa using hq
  rw[DY k 0 i q o];simp) _ _ _ (qG (DX k 0) _ _ _ hf)
 simp only[Qv]at A
 simp only[execOp,Instr.build,zeroValue,typeInfo,f,c,b,Sy u.ok,sizeOf,m,l];simp[f,c,b,Sy u.ok,m,l];simp at B
 rw[B,A];rfl
theorem ft{k i:Nat}{e:TypeId}{kd:IntKind}{cells:List Value}{v:Value}(s:gd L σ ⟨some d,.index t x ix,ty,pos,af,g⟩=some true)(hd:Nat.ble (d+1) n=true)
  (q:ev σ x=some (.agg cells.toArray)) (hi:ev σ ix=some (.int kd (i:Int))) [z:IsAr P t k e] [u:IsC P e 1 false] (h1:i<k) (f:Cq cells i=some v)
  (h:WL P L Q rest n ((d,v)::σ) w):WL P L Q (⟨some d,.index t x ix,ty,pos,af,g⟩::rest) n σ w:=by
 obtain⟨j,dd,p,o,m,l⟩:=u.ok;rw[Cr]at f
 have b:(isAgg e).run P w=.ok false w:=by
  unfold isAgg;rw[Q4,Sy m w,<-l];cases dd<;>rfl
 have r:cells.toArray[i]?=some v:=by simpa using f
 refine WL.run s hd (fun a c=>?_) h;simp[execOp,c.ev q,c.ev hi,Instr.index,asIntOf,Sy z.ok,h1,sizeOf,typeInfo,p,o,part,b,f]
end
def yy(w0:World){ao:Option Addr}{cap:Nat}{xs:List ByteArray}(x:ByteArray)(c:Sl w0 (dl w0) ao cap xs):
  Rt UA 158 [.slice ao xs.length cap,.string x].toArray w0 fun v w'=>v=Te (idxOf (fun y=>x.data.toList==y.data.toList) xs)/\w0=w':=by
 have l:=c.len63;refine dV Tryz.func158 Tryz.ntmps158 rfl rfl (TR ?_);refine CW.loop (S:=Nat) (fun k=>[(0,.slice ao xs.length cap),(1,.string x),(7,Te xs.length),(8,Te k)])
  (fun k w=>k<=xs.length/\w0=w/\∀j (h:j<xs.length),j<k->(x.data.toList==xs[j].data.toList)=false) (fun k=>xs.length -k) 0 SL ⟨by omega,rfl,by omega⟩ ?_
 rintro k w ⟨m,rfl,hn⟩
 refine T2 ?_;apply CW.cond rfl<;>intro h
 ·simp at h
  refine TI ?_;refine fh c h SX (fun u q f=>?_);obtain⟨rfl,_⟩:=f.str;refine Tl ?_;refine CW.cond rfl (fun b=>?_) (fun b=>?_)
  ·refine Th ?_
   refine bi rfl rfl ⟨?_,rfl⟩;rw[xT h hn b]
  ·refine Tj ?_
   refine EX.back (k+1) SL ⟨h,rfl,?_⟩ SM;intro j a i
   by_cases e:j=k
   ·subst e;exact b
   ·exact hn j a SM
 ·simp at h
  refine TO ?_;refine bi rfl rfl ⟨?_,rfl⟩;rw[xY (fun j a=>hn j a SM)]
def H9(c:UInt8):ar->List ar
 |[]=>[[]]
 |b::l=>if b=c then []::H9 c l else match H9 c l with
  |[]=>[[b]]
  |x::r=>(b::x)::r
def y0(c:UInt8):List ar->ar
 |[]=>[]
 |[x]=>x
 |x::y::r=>x++c::y0 c (y::r)
def Ia(c:UInt8):∀s,H9 c s≠[]
 |[]=>by simp[H9]
 |b::l=>by
  unfold H9;split
  ·simp
  ·split<;>simp
def Ib{c:UInt8}:∀{a:ar},c∉a->H9 c a=[a]
 |[],_=>rfl
 |b::l,h=>by
  have f:¬b=c:=fun e=>h (by simp[e])
  have d:c∉l:=fun e=>h (by simp[e])
  unfold H9;rw[Si f,Ib d]
def H_{c:UInt8}:∀{a b:ar},c∉a->H9 c (a++c::b)=a::H9 c b
 |[],b,_=>by simp[H9]
 |d::l,b,h=>by
  have g:¬d=c:=fun e=>h (by simp[e])
  have f:c∉l:=fun e=>h (by simp[e])
  simp only[NI];rw[H9,Si g,H_ f]
def y_(c:UInt8):∀s,y0 c (H9 c s)=s
 |[]=>rfl
 |b::l=>by
  have a:=y_ c l;have d:=Ia c l;unfold H9;cases h:H9 c l with
  |nil=>exact absurd h d
  |cons x r=>
   rw[h]at a
   split
   ·rename_i e
    simp only[y0,PA];rw[a,e]
   ·cases r with
    |nil=>simp only[y0]at a⊢;rw[a]
    |cons y r=>simp only[y0,NI]at a⊢;rw[a]
instance:IsF UA 31:=UB Tryz.func31
instance:IsF UA 74:=UB Tryz.func74
instance:IsF UA 33:=UB Tryz.func33
instance:IsF UA 34:=UB Tryz.func34
instance:IsF UA 29:=UB Tryz.func29
instance:IsF UA 67:=UB Tryz.func67
instance:IsF UA 11:=UB Tryz.func11
instance:IsFd UA 53 0 0:=IsFd.of SN
instance:IsFd UA 53 1 1:=IsFd.of SN
def H1(mo:Option Addr)(mc:Nat)(no:Option Addr)(a:Nat)(ml nl:Nat):Value:=.agg [.slice mo ml mc,.slice no nl a].toArray
def JS(nl:List (List cN))(n:Nat):List Int:=(nl.getD n []).map Prod.snd
def tO(nl:List (List cN)):List (List Int):=(List.range nl.length).map (JS nl)
def JU{nl:List (List cN)}{n j:Nat}(hn:n<nl.length)(a:j<nl[n].length):(JS nl n).take (j+1)=(JS nl n).take j++[nl[n][j].2]:=by
 have e:JS nl n=nl[n].map Prod.snd:=by unfold JS;rw[Oi,On hn];rfl
 rw[e,<-List.map_take,<-List.map_take,<-PU a,Pb];rfl
def JT{nl:List (List cN)}{n:Nat}(hn:n<nl.length):(JS nl n).length=nl[n].length:=by
 unfold JS;rw[Oi,On hn,O1];rfl
def E5{x:cN}(h:Rd w F v x):v=.agg [Te x.1,Te x.2].toArray:=by
 obtain⟨c1,c2,rfl,h1,h2⟩:=h.pr;rw[E7 h1,E7 h2];rfl
def tR(w0:World){mo:Option Addr}{mc ml:Nat}{nl:List (List cN)}(hn:Sl w0 (dl w0) C B nl)(hl:nl.length<=200)(hr:∀r∈nl,r.length<=60):
  Rt UA 31 [H1 mo mc C B ml nl.length].toArray w0 fun v w'=>∃vs,OwnN w' w0.heap.size 39 3 v vs (tO nl)/\Ext w0 w':=by
 refine dU Tryz.func31 Tryz.ntmps31 rfl rfl ?_;unfold H1;refine T9 ?_;refine eJ fun d hb1 U=>?_
 refine Ty ?_;refine fK (α:=Raw) rfl rfl rfl rfl SM SS (fun w3 ho3 O=>?_);have R:Ext d w3:=(MW _ _).grown O Ta S5;have Q:OwnN w3 d.heap.size 39 3 (.slice (some ⟨d.heap.size,0,none⟩) nl.length nl.length) _ (List.replicate nl.length ([]:List Int)):=OwnN.made ho3;rw[<-t7 (full:=JS nl)]at Q
 have W:=U.size;clear ho3 O;have hb1x:=hb1.ext R;refine Ty ?_;refine CW.loop (S:=Nat×List Raw) (fun s=>[(3,.slice (some ⟨d.heap.size,0,none⟩) nl.length nl.length),(13,.slice C nl.length B),(14,Te nl.length),(15,Te s.1)])
  (fun s x=>s.1<=nl.length/\OwnN x d.heap.size 39 3 (.slice (some ⟨d.heap.size,0,none⟩) nl.length nl.length) s.2 (tT nl.length (JS nl) s.1 [])/\Ext d x) (fun s=>nl.length -s.1) (0,_) SL ⟨QK _,Q,R⟩ ?_
 rintro⟨i,vs⟩ w4 ⟨hi,k,T⟩
 dsimp only at hi k T⊢
 refine T2 ?_;apply CW.cond rfl<;>intro h
 ·have c:i<nl.length:=by simp at h;omega
  have hr60:=hr _ (OG c);refine TL ?_;refine fg (i:=i) rfl rfl rfl rfl rfl (hn.at (U.trans T)) c SX (fun u q I=>?_);obtain⟨ro,rc,rfl,K⟩:=I.sl;refine TR ?_;refine CW.loop (S:=Nat×List Raw) (fun s=>[(3,.slice (some ⟨d.heap.size,0,none⟩) nl.length nl.length),(4,Te i),(13,.slice C nl.length B),(14,Te nl.length),(15,Te i),(20,.slice ro nl[i].length rc),(21,Te nl[i].length),(22,Te s.1)])
   (fun s z=>s.1<=nl[i].length/\OwnN z d.heap.size 39 3 (.slice (some ⟨d.heap.size,0,none⟩) nl.length nl.length) s.2 (tT nl.length (JS nl) i ((JS nl i).take s.1))/\Ext d z) (fun s=>nl[i].length -s.1) (0,vs) SL ⟨QK _,by rw[P0];exact k,T⟩ ?_
  rintro⟨j,vs⟩ w5 ⟨hj,k,V⟩
  dsimp only at hj k V⊢
  have A:Sl w5 (dl w0) ro rc nl[i]:=K.mono (fun b n=>((U.trans V).block b n).trans ((U.trans T).block b n).symm) S3;refine T2 ?_;apply CW.cond rfl<;>intro h
  ·have E:j<nl[i].length:=by simp at h;omega
   have D:=JU c E;have htl:=JT c;refine T7 ?_;refine fg (i:=j) rfl rfl rfl rfl rfl A E SX (fun u q I=>?_);rw[E5 I];clear I;generalize nl[i][j]=x at*
   refine eF (fun w6 t e6=>?_);refine f_ t (fun H t N=>?_);have e7:Ext w5 H:=e6.grown N e6.size SZ;have hsz:d.heap.size<w5.heap.size:=(k.out.lt _ rfl).2.1;have m:=k.len;rw[tY]at m
   have f:i<vs.length:=by omega
   have Z:=fun g Y=>((k.inn i f (by rw[tY];exact c)).lt g Y).2.1
   have k:=k.ext e7;have e7':=Ext.trans V e7;clear e6 N;apply WL.nil;apply bE;have hd:=Ext.drew H;have l:=k.ext hd;have hb7d:=t.ext hd;have G:=l.inn i f (by rw[tY];exact c);rw[tX c]at G
   obtain⟨oo,oc,X,y⟩:=l.out.slF (F':=fun b=>b=d.heap.size) S0 (fun g Y=>by cases Y;rfl);obtain⟨rfl,_,rfl⟩:=RS X;have hszd:=hd.size;have hsz7:=e7.size;have hl7:=t.lt;have hK:∀z,(fun z:World=>∀b,b=d.heap.size\/b=w5.heap.size->z.heap[b]?=(drew H).heap[b]?) z->z.heap[w5.heap.size]?=(drew H).heap[w5.heap.size]?:=fun z J=>J _ (.inr rfl)
   refine aF (fun z:World=>∀b,b=d.heap.size\/b=w5.heap.size->z.heap[b]?=(drew H).heap[b]?) [(0,true),(1,true),(2,true),(3,true),(4,true),(5,true),(6,true),(7,true),(8,false),(9,false),(10,true)] 11 mixed SN S8 (Uq ?_);rw[<-m]at y⊢
   refine cg (w:=drew H) (F:=fun b=>b=d.heap.size) (fun z J b n=>J b (.inl n)) rfl rfl rfl rfl rfl rfl rfl y f SX (fun u q I=>?_);obtain⟨rfl,_⟩:=I.raw;rw[m];refine Ur ?_;refine b_ (bytes:=8) rfl rfl rfl rfl SX rfl rfl SX G S_ SM S0 SP (by rw[O9];unfold maxLen;omega) (by rw[O9];omega)
    (fun z J b n=>J.block b SM (fun e=>?_)) (fun v' w8 p ho8 o hnb=>?_)
   ·rcases n with rfl|rfl
    ·exact l.dio i f _ e.symm rfl
    ·have:=(k.inn i f (by rw[tY];exact c)).lt _ e.symm
     have:=Z _ e.symm;omega
   rw[<-D]at ho8
   have L:=l.mid f o;refine cH (yv:=(⟨v'⟩:Raw)) rfl rfl rfl rfl rfl rfl L f SX SX (Rd.mkRaw _ _ _ ?_) (fun w9 q ho9 M=>?_)
   ·obtain⟨a,b,rfl⟩:=ho8.val;rfl
   have P:=l.set f ho8 o hnb ho9 M;rw[t6 c]at P
   have e5d:=e7'.trans hd;have e9:Ext d w9:=(e5d.grown o e5d.size (fun b n=>(G.lt b n).1)).grown M (Qk e5d.size o.size) (fun b n=>(l.out.lt b n).1);refine Tn ?_;exact EX.back (j+1,vs.set i ⟨v'⟩) SL ⟨E,P,e9⟩ SR
  ·obtain rfl:j=nl[i].length:=by simp at h;omega
   refine To ?_;refine EX.back (i+1,vs) SL ⟨c,?_,V⟩ SR;rw[<-JT c,PV,tZ]at k
   exact k
 ·obtain rfl:i=nl.length:=by simp at h;omega
  rw[tU]at k
  refine TO ?_;exact bj ⟨_,k.low W,U.trans T⟩
def oZ(m:List Int):Bool:=!m.any fun n=>decide (n>0)
def oY(w:World)(n:Int):Rt UA 67 [Te n].toArray w fun v w'=>v=.bool (decide (n>0))/\Ext w w':=by
 refine dU Tryz.func67 Tryz.ntmps67 rfl rfl (Tw ?_);exact bj ⟨rfl,Ext.refl _⟩
def o5(w:World){mo:Option Addr}{mc:Nat}(b:Sl w (dl w) mo mc m):Rt UA 29 [.slice mo m.length mc].toArray w fun v w'=>v=.bool (oZ m)/\Ext w w':=by
 refine dU Tryz.func29 Tryz.ntmps29 rfl rfl (T2 ?_);refine eN (ma w (fun n=>decide (n>0)) b (fun a d k e=>FnV.mk (cs:=[]) (oY a _))) ?_;rintro _ a ⟨rfl,c⟩
 refine Tk ?_;exact bj ⟨rfl,c⟩
def gX(l:List cN)(t:Int):List Int:=match l.find? (fun x=>x.2==t)with
 |some x=>[x.1]
 |none=>[]
def gT(nl:List (List cN))(ms:List Int)(k:Nat):List Int:=(List.range k).flatMap fun i=>gX (nl.getD (ms.getD i 0).toNat []) (ms.getD (i+1) 0)
def gS(nl:List (List cN))(ms:List Int):List Int:=gT nl ms (ms.length -1)
def gW{nl:List (List cN)}{ms:List Int}{k:Nat}:gT nl ms (k+1)=gT nl ms k++gX (nl.getD (ms.getD k 0).toNat []) (ms.getD (k+1) 0):=by
 unfold gT;rw[PL,Oc];simp
def gY{l:List cN}{t:Int}:(gX l t).length<=1:=by unfold gX;split<;>simp
def gU{nl:List (List cN)}{ms:List Int}:∀k,(gT nl ms k).length<=k
 |0=>by simp[gT]
 |k+1=>by
  have:=gU (nl:=nl) (ms:=ms) k;have:=gY (l:=nl.getD (ms.getD k 0).toNat []) (t:=ms.getD (k+1) 0);rw[gW,OT];omega
def qZ{l:List cN}{t:Int}{j:Nat}(b:j<l.length)(hn:∀i (h:i<l.length),i<j->l[i].2≠t)(a:l[j].2=t):gX l t=[l[j].1]:=by
 have:l.find? (fun x=>x.2==t)=some l[j]:=by
  rw[List.find?_eq_some_iff_getElem];exact⟨by simpa using a,j,b,rfl,fun i hi=>by simpa using hn i SM hi⟩
 unfold gX;rw[this]
def q_{l:List cN}{t:Int}(hn:∀i (h:i<l.length),l[i].2≠t):gX l t=[]:=by
 have:l.find? (fun x=>x.2==t)=none:=by
  rw[List.find?_eq_none];intro x a
  obtain⟨i,hi,rfl⟩:=Pq.1 a;simpa using hn i hi
 unfold gX;rw[this]
def sM{nl:List (List cN)}{n:Nat}(h:n<nl.length):nl.getD n []=nl[n]:=by rw[Oi,On h];rfl
def GC(w0:World){mo no lo:Option Addr}{mc nc ml I:Nat}{nl:List (List cN)}{ms:List Int}(hn:Sl w0 (dl w0) no nc nl)(hm:Sl w0 (dl w0) lo I ms)(P:CQ nl.length ms)(hml:ms.length<=1000):
  Rt UA 74 [H1 mo mc no nc ml nl.length,.slice lo ms.length I].toArray w0 fun v w'=>Own w' w0.heap.size 3 di v (gS nl ms)/\Ext w0 w':=by
 refine dV Tryz.func74 Tryz.ntmps74 rfl rfl ?_;unfold H1;refine T9 ?_;refine eJ fun w1 t Z=>?_
 have N:=Z.size;have hl2:=t.lt;refine TI ?_;refine CW.loop (S:=Nat×Value) (fun s=>[(1,.slice lo ms.length I),(2,Tg w0.heap.size),(5,s.2),(6,Te ((s.1:Int)+1))])
  (fun s w=>(s.1+1<=ms.length\/s.1=0)/\Own w w1.heap.size 3 di s.2 (gT nl ms s.1)/\Ext w1 w) (fun s=>ms.length -s.1) (0,.slice none 0 0) SL ⟨.inr rfl,by simp[gT];exact Own.nil,Ext.refl _⟩ ?_
 rintro⟨i,ov⟩ w2 ⟨hi,c,M⟩
 dsimp only at hi c M⊢
 have t:=t.ext M;have A:=Z.trans M;have hpl:=gU (nl:=nl) (ms:=ms) i;refine TR ?_;apply CW.cond rfl<;>intro h
 ·have C:i+1<ms.length:=by simp at h;omega
  have o:i<ms.length:=by omega
  have ha:=P _ (OG o);obtain⟨a,ea⟩:=Nn ha.1;have E:a<nl.length:=by omega
  have U:ms.getD i 0=(a:Int):=by rw[Oi,On o];exact ea
  have T:ms.getD (i+1) 0=ms[i+1]:=by rw[Oi,On C];rfl
  have d:=gW (nl:=nl) (ms:=ms) (k:=i);rw[U,T,Nt,sM E]at d
  refine Uc ?_;rw[show(i:Int)+1 -1=(i:Int) by omega];refine dA (i:=i) rfl rfl rfl rfl rfl S3 (hm.up A) o ea SX (fun q=>?_);skip;refine dB (i:=a) rfl rfl rfl rfl rfl S3 (hn.up A) E SX (fun u q' J=>?_);obtain⟨ro,rc,rfl,b⟩:=J.sl;refine Un ?_;refine QL.nil (fun w3 Y=>?_);have b:=b.up Y;have c:=c.extN Y;have H:=M.trans Y;have hrl:=b.len63;refine T7 ?_;refine CW.loop (S:=Nat) (fun j=>[(1,.slice lo ms.length I),(2,Tg w0.heap.size),(5,ov),(6,Te ((i:Int)+1)),(23,.slice ro nl[a].length rc),(24,Te nl[a].length),(25,Te j)])
   (fun j w=>j<=nl[a].length/\(∀k (h:k<nl[a].length),k<j->nl[a][k].2≠ms[i+1])/\Ext w3 w) (fun j=>nl[a].length -j) 0 SL ⟨QK _,fun k _ h=>by omega,Ext.refl _⟩ ?_
  rintro j w4 ⟨hj,m,L⟩
  have W:=H.trans L;refine T2 ?_;apply CW.cond rfl<;>intro h
  ·have n:j<nl[a].length:=by simp at h;omega
   have r:=qZ n m;refine T7 ?_;refine fg (i:=j) rfl rfl rfl rfl rfl (b.up L) n SX (fun u q J=>?_);rw[E5 J];clear J;have O:∀k (h:k<nl[a].length),k<j+1->(nl[a][j].2≠ms[i+1])->nl[a][k].2≠ms[i+1]:=fun k h h1 h2=>by
    by_cases e:k=j
    ·subst e;exact h2
    ·exact m k h SM
   generalize nl[a][j]=x at*
   skip;refine eF (fun w5 l X=>?_);skip;refine f_ l (fun w6 l D=>?_);have e6:Ext w4 w6:=X.grown D X.size SZ;have B:=L.trans e6;have c:=c.extN B;have G:=H.trans B;clear X D;refine Ud ?_;refine dA (i:=i+1) (y:=ms[i+1]) rfl rfl rfl rfl rfl S3 (hm.up (Z.trans G)) C rfl SX (fun q=>?_);refine Uf ?_;refine QL.nil (fun w7 K=>?_);have l:=l.ext K;have c:=c.extN K;have z:=G.trans K;refine TV ?_;by_cases f:x.2=ms[i+1]
   ·rw[show(x.2==ms[i+1])=true by simpa using f]
    refine TW ?_;refine eH (α:=Int) (F:=di) (bytes:=8) rfl rfl SX rfl rfl SX c S_ z.size S0 SP SS SM (fun ov' w8 p ho8 R hnb8=>?_);rw[<-r f,<-d]at ho8
    have V:=z.grown R z.size (fun g hg=>(c.lt g hg).1);refine Ua ?_;exact EX.back (i+1,ov') SL ⟨.inl SR,ho8,V⟩ SR
   ·rw[show(x.2==ms[i+1])=false by simpa using f]
    refine Tz ?_;exact EX.back (j+1) SL ⟨n,fun k h h1=>O k h h1 f,(B.trans K)⟩ SM
  ·obtain rfl:j=nl[a].length:=by simp at h;omega
   rw[q_ (fun k h=>m k h h),NG]at d
   refine To ?_;exact EX.back (i+1,ov) SL ⟨.inl SR,by dsimp only;rw[d];exact c.extN L,W⟩ SR
 ·have Q:i=ms.length -1:=by simp at h;omega
  refine TO ?_;refine bi rfl rfl ⟨?_,A⟩;unfold gS;rw[<-Q];exact c.low N
def B3(sl:List cT)(x:cN):Int:=(sl.getD x.1.toNat (0,0,0)).1
def nI(sl:List cT)(nl:List (List cN)):List Int:=nl.flatMap fun r=>r.map (B3 sl)
def nq(p:cR)(nl:List (List cN))(k:Nat):List Int:=((List.range k).filter fun n:Nat=>!decide ((n:Int)∈nI (Iz p) nl)&&(zR p n != 1)).map fun n:Nat=>(n:Int)
def deadL(p:cR)(nl:List (List cN)):List Int:=nq p nl p.1.length
def nt{p:cR}{nl:List (List cN)}{k:Nat}:nq p nl (k+1)=nq p nl k++if(!decide ((k:Int)∈nI (Iz p) nl)&&(zR p k != 1))=true then [(k:Int)]else []:=by
 unfold nq;rw[PL,N6,Pb]
 congr 1
 by_cases h:(!decide ((k:Int)∈nI (Iz p) nl)&&(zR p k != 1))=true
 ·rw[Sj h,N9 (p:=fun n:Nat=>!decide ((n:Int)∈nI (Iz p) nl)&&(zR p n != 1)) h];rfl
 ·rw[Si h,N8 (p:=fun n:Nat=>!decide ((n:Int)∈nI (Iz p) nl)&&(zR p n != 1)) h];rfl
def nr{p:cR}{nl:List (List cN)}{k:Nat}:(nq p nl k).length<=k:=by
 unfold nq;rw[O1];exact Qk (O0 _ _) (by rw[O4];exact Qj _)
def Bl{n:Nat}{l:List Int}(a:0<=x):(Bf n l).set x.toNat true=Bf n (l++[x]):=by
 have:=Bi (n:=n) (l:=l++[x]) (i:=l.length) (k:=x.toNat) SQ ST;rwa[show(l++[x]).take l.length=l by simp,show(l++[x]).take (l.length+1)=l++[x] from PW SQ]at this
def nJ{sl:List cT}{nl:List (List cN)}{n:Nat}(h:n<nl.length):nI sl (nl.take (n+1))=nI sl (nl.take n)++nl[n].map (B3 sl):=by
 unfold nI;rw[<-PU h,Oc];simp
def FI{sl:List cT}{r:List cN}{j:Nat}(h:j<r.length):(r.take (j+1)).map (B3 sl)=(r.take j).map (B3 sl)++[B3 sl r[j]]:=by
 rw[<-PU h,Pb];rfl
def Sl.stepK{ao:Option Addr}{cap:Nat}{xs:List cT}(h:Sl w F ao cap xs){i:Nat}(hi:i<xs.length):∃b off,ao=some ⟨b,off,none⟩/\F b/\Cells w b (off+i*3) [Te xs[i].1]:=by
 obtain⟨b,off,e,f,g,c,d⟩:=h.el i hi;obtain⟨c1,c2,rfl,h1,h2⟩:=Fd d;rw[E7 h1]at c
 exact⟨b,off,e,f,fun j u a=>c j u (by
  rcases j with _|j
  ·simpa using a
  ·simp at a)⟩
def nw(w0:World){so fo mo:Option Addr}{sc fc mc ml:Nat}{ns:List cP}{fl:List cO}{nl:List (List cN)}(hs:Sl w0 (dl w0) so sc ns)(hf:Sl w0 (dl w0) fo fc fl)(hn:Sl w0 (dl w0) C B nl)(hz:(Is (ns,fl)).2=0)
  (hr:∀r∈nl,∀x∈r,0<=x.1/\x.1<(Iz (ns,fl)).length):
  Rt UA 33 [Er so sc fo fc ns.length fl.length,H1 mo mc C B ml nl.length].toArray w0 fun v w'=>Own w' w0.heap.size 3 di v (deadL (ns,fl) nl)/\Ext w0 w':=by
 obtain⟨hc0,hse,hl60⟩:=It hz;have V:=kY hc0;have W:=V.n;dsimp only at W
 refine dV Tryz.func33 Tryz.ntmps33 rfl rfl ?_;unfold H1;refine T9 ?_;refine eJ fun w1 d e1=>?_
 skip;refine eJ fun w2 M e2=>?_
 have d:=d.ext e2;have O:=e1.trans e2;refine TN ?_;refine eN (dk w2 (hs.up O) (hf.up O)) ?_;rintro _ E ⟨x,rfl,J,e3⟩
 rw[hse]at J
 rw[hz];obtain⟨xo,xc,rfl,hxs⟩:=J.oldN.sl;have d:=d.ext e3;have M:=M.ext e3;have O:=O.trans e3;clear J;have hnlm:=hn.len63;refine Ty ?_;refine fK (α:=Bool) rfl rfl rfl rfl SM SS (fun w4 c X=>?_);have e4:Ext E w4:=(MW _ _).grown X Ta S5;generalize hsv:Value.slice (some ⟨E.heap.size,0,none⟩) ns.length ns.length=sv at*
 have R:sv.ownBlock=some E.heap.size:=by rw[<-hsv];rfl
 rw[<-Bj]at c
 have hsz3:=(c.lt _ R).2.1;have Y:=M.ext e4;clear X;refine Ty ?_;refine CW.loop (S:=Nat) (fun i=>[(2,Tg w0.heap.size),(5,.slice xo (Iz (ns,fl)).length xc),(7,sv),(25,.slice C nl.length B),(26,Te nl.length),(27,Te i)])
  (fun i w=>i<=nl.length/\Own w E.heap.size 4 di sv (Bf ns.length (nI (Iz (ns,fl)) (nl.take i)))/\Ext E w) (fun i=>nl.length -i) 0 SL ⟨QK _,c,e4⟩ ?_
 clear Y c;rintro i w5 ⟨hi,c,e5⟩
 have N:=O.trans e5;refine T2 ?_;apply CW.cond rfl<;>intro h
 ·have z:i<nl.length:=by simp at h;omega
  have hri:=hr _ (OG z);have a:=nJ (sl:=Iz (ns,fl)) z;refine T7 ?_;refine fg (i:=i) rfl rfl rfl rfl rfl (hn.at N) z SX (fun u q Q=>?_);obtain⟨ro,rc,rfl,G⟩:=Q.sl;have hrl:=G.len63;refine TR ?_;refine CW.loop (S:=Nat) (fun j=>[(2,Tg w0.heap.size),(5,.slice xo (Iz (ns,fl)).length xc),(7,sv),(25,.slice C nl.length B),(26,Te nl.length),(27,Te i),(31,.slice ro nl[i].length rc),(32,Te nl[i].length),(33,Te j)])
   (fun j w=>j<=nl[i].length/\Own w E.heap.size 4 di sv (Bf ns.length (nI (Iz (ns,fl)) (nl.take i)++(nl[i].take j).map (B3 (Iz (ns,fl)))))/\Ext E w) (fun j=>nl[i].length -j) 0 SL ⟨QK _,by rw[P0,Pf,NG];exact c,e5⟩ ?_
  clear c;rintro j w6 ⟨hj,c,o⟩
  have D:=O.trans o;have I:Sl w6 (dl w0) ro rc nl[i]:=G.mono (fun b hb=>(D.block b hb).trans (N.block b hb).symm) S3;refine T2 ?_;apply CW.cond rfl<;>intro h
  ·have t:j<nl[i].length:=by simp at h;omega
   have hx:=hri _ (OG t);have T:=FI (sl:=Iz (ns,fl)) t;refine T7 ?_;refine fg (i:=j) rfl rfl rfl rfl rfl I t SX (fun u q Q=>?_);rw[E5 Q];clear Q;generalize nl[i][j]=x at*
   obtain⟨xk,xt⟩:=x;dsimp only at hx
   obtain⟨k,rfl⟩:=Nn hx.1;have L:k<(Iz (ns,fl)).length:=by omega
   have hnd:B3 (Iz (ns,fl)) ((k:Int),xt)=(Iz (ns,fl))[k].1:=by unfold B3;dsimp only;rw[Nt,IA L]
   obtain⟨m,hm,hsm⟩:=stepsP_mem.1 (OG L);have U:=Ix _ hsm;dsimp only at hm
   rw[hnd,U]at T
   dsimp only;skip;refine eF (fun w7 H e7=>?_);skip;refine f_ H (fun w8 H A=>?_);have e8:Ext w6 w8:=e7.grown A e7.size SZ;have c:=c.extN e8;have P:=o.trans e8;clear e7 A;obtain⟨nb,off,rfl,hnb,K⟩:=(hxs.up P).stepK L;refine TJ ?_;refine fp (α:=cT) rfl rfl rfl rfl SM SM ?_;refine Ug ?_;refine WL.load (α:=Int) (F:=di) (y:=(Iz (ns,fl))[k].1) rfl rfl rfl (by rw[Nt];exact K) rfl ?_;rw[show Lb Int [Te (Iz (ns,fl))[k].1]=Te (Iz (ns,fl))[k].1 from rfl,U];skip;refine WL.set rfl rfl rfl rfl c SM (by rw[Bh];omega) SX SX (Rd.mkBool _ _ true) (fun w9 q c hg9=>?_);rw[Bl SM,NF,<-T]at c
   have e9:=P.grown hg9 P.size (fun g hg=>by rw[R]at hg;cases hg;exact Qj _);refine Tn ?_;exact EX.back (j+1) SL ⟨t,c,e9⟩ SM
  ·obtain rfl:j=nl[i].length:=by simp at h;omega
   rw[PV,<-a]at c
   refine To ?_;exact EX.back (i+1) SL ⟨z,c,o⟩ SM
 obtain rfl:i=nl.length:=by simp at h;omega
 rw[PV]at c
 have hz0:w0.heap.size<=E.heap.size:=O.size;have d:=d.ext e5;refine T6 ?_;rw[Bh];refine CW.loop (S:=Nat×Value) (fun s=>[(2,Tg w0.heap.size),(12,s.2),(47,sv),(48,Te ns.length),(49,Te s.1)])
  (fun s w=>s.1<=ns.length/\Own w w5.heap.size 3 di s.2 (nq (ns,fl) nl s.1)/\Ext w5 w) (fun s=>ns.length -s.1) (0,.slice none 0 0) SL ⟨QK _,by simp[nq];exact Own.nil,Ext.refl _⟩ ?_
 rintro⟨n,ov⟩ w6 ⟨hn',f,o⟩
 dsimp only at hn' f o⊢
 have d:=d.ext o;have D:=N.trans o;have hdl:=nr (p:=(ns,fl)) (nl:=nl) (k:=n);refine T2 ?_;apply CW.cond rfl<;>intro h
 ·have e:n<ns.length:=by simp at h;omega
  have a:=nt (p:=(ns,fl)) (nl:=nl) (k:=n);have ho6:=c.extN o;have hmg:=Bg (l:=nI (Iz (ns,fl)) nl) e;obtain⟨nb,off,rfl,hnb,K⟩:=(hs.up D).nodeK e;rw[zS e]at a
  refine TL ?_;refine fi (i:=(n:Int)) rfl rfl rfl rfl rfl ho6 SM (by rw[Bh];omega) SX (fun u q Q=>?_);obtain rfl:=Q.bool;rw[show(Bf ns.length (nI (Iz (ns,fl)) nl))[((n:Nat):Int).toNat]'(by rw[Bh,Nt];exact e)=decide ((n:Int)∈nI (Iz (ns,fl)) nl) from hmg];by_cases hd:(n:Int)∈nI (Iz (ns,fl)) nl
  ·rw[R9 hd]at a⊢
   rw[Si SQ,NG]at a
   refine TC ?_;exact EX.back (n+1,ov) SL ⟨e,by dsimp only;rw[a];exact f,o⟩ SR
  ·rw[R7 hd]at a⊢
   refine TJ ?_;refine fp (α:=cP) rfl rfl rfl rfl SM SM ?_;refine Ug ?_;refine WL.load (α:=Int) (F:=di) (y:=ns[n].2) rfl rfl rfl (by rw[Nt];exact K) rfl ?_;rw[show Lb Int [Te ns[n].2]=Te ns[n].2 from rfl];cases Z:(ns[n].2 != 1)
   ·rw[Z,Si SQ,NG]at a
    refine Tl ?_;rw[Z];refine Tz ?_;exact EX.back (n+1,ov) SL ⟨e,by dsimp only;rw[a];exact f,o⟩ SR
   ·rw[Z,Sj SQ]at a
    refine Tl ?_;rw[Z];refine TZ ?_;refine eH (α:=Int) (F:=di) (bytes:=8) rfl rfl SX rfl rfl SX f S_ o.size S0 SP SS SM (fun ov' w8 p ho8 A hnb8=>?_);rw[<-a]at ho8
    have e8:=o.grown A o.size (fun g hg=>(f.lt g hg).1);refine Tn ?_;exact EX.back (n+1,ov') SL ⟨e,ho8,e8⟩ SR
 ·obtain rfl:n=ns.length:=by simp at h;omega
  refine TO ?_;exact bj ⟨f.low (Qk hz0 e5.size),D⟩
def mN{d:List Int}{k:Nat}(h:k<d.length):mM d (k:Int)=d[k]:=by unfold mM;rw[Nt,s_ h]
def LB(d:List Int)(l:List Int)(j:Nat)(h:j<l.length):Lz d (l.take (j+1))=if DV d (Lz d (l.take j)) l[j]then l[j]else Lz d (l.take j):=by
 unfold Lz;rw[PZ h,Of];rfl
def Ly(d:List Int)(a:Int)(l:List Int)(j:Nat)(h:j<l.length):Lx d a (l.take (j+1))=if BK d a (Lx d a (l.take j)) l[j]then l[j]else Lx d a (l.take j):=by
 unfold Lx;rw[PZ h,Of];rfl
def LA(d:List Int)(l:List Int):Lz d l= -1\/Lz d l∈l:=by
 have key:∀(l:List Int) (a:Int),l.foldl (fun at' n=>if DV d at' n then n else at') a=a\/l.foldl (fun at' n=>if DV d at' n then n else at') a∈l:=by
  intro l
  induction l with
  |nil=>intro a;exact .inl rfl
  |cons x l b=>
   intro a
   rcases b (if DV d a x then x else a)with h|h
   ·rw[Og,h]
    split
    ·exact .inr SQ
    ·exact .inl rfl
   ·exact .inr (Pl _ h)
 exact key l (-1)
def gi(w0:World){ao fo lo:Option Addr}{cap fc:Nat}{f:List Int}{to:List Bool}(hs:Sl w0 (dl w0) ao cap g)(hf:Sl w0 (dl w0) fo fc f)(ht:Sl w0 (dl w0) lo B to):
  Rt UA 73 [.slice ao g.length cap,.slice fo f.length fc,.slice lo to.length B].toArray w0 fun r w'=>∃v,r=.tuple ⟨[v,.bool (Lp g f to).2.1,Te (Lp g f to).2.2]⟩/\Own w' w0.heap.size 3 di v (Lp g f to).1/\Ext w0 w':=by
 have hgl:=hs.len63;have hfl:=hf.len63;have htl:=ht.len63;refine dW Tryz.func73 Tryz.ntmps73 rfl rfl (T2 ?_);refine eN (ly w0 hs) ?_;rintro v w1 ⟨rfl,N⟩
 refine T2 ?_;apply CW.cond rfl<;>intro h
 ·have Z:kN g≠0:=by simpa using h
  refine Tw ?_;exact bm rfl rfl rfl rfl ⟨.slice none 0 0,by rw[Lp,Sj Z],by rw[Lp,Sj Z];exact Own.nil,N⟩
 have Z:kN g=0:=by simpa using h
 obtain⟨hg,hg2⟩:=kP Z;refine TL ?_;refine eN (Cy w1 (hs.up N) (hf.up N)) ?_;rintro v w2 ⟨rfl,A⟩
 have A:=N.trans A;refine fX rfl rfl rfl ?_;have o:Cx g.length f=true\/to.length≠g.length->Lp g f to=([],false,1):=fun h=>by rw[Lp,Si (by simp[Z]),Sj h]
 (refine fJ rfl rfl (fun h=>?_) (fun h=>?_))
 ·refine TA ?_
  exact bm rfl rfl rfl rfl ⟨.slice none 0 0,by rw[o (.inl h)],by rw[o (.inl h)];exact Own.nil,A⟩
 refine TB ?_;apply CW.cond rfl<;>intro h1
 ·have h1:to.length≠g.length:=by simp at h1;omega
  refine Tw ?_;exact bm rfl rfl rfl rfl ⟨.slice none 0 0,by rw[o (.inr h1)],by rw[o (.inr h1)];exact Own.nil,A⟩
 have U:to.length=g.length:=by simp at h1;omega
 have L:CQ g.length f:=oddB_false.1 h;have eW:Lp g f to=if Lz (qu g to) f<0 then([],false,0)else(Lu g (qu g to) g.length (Lz (qu g to) f),true,0):=by
  rw[Lp,Si (by simp[Z]),Si (by simp[h,U])]
 clear o;have hI:=qw U;refine TL ?_;refine eN (qC w2 (hs.up A) (ht.up A) S3 hg SM U) ?_;rintro dv w3 ⟨hod,y⟩
 have y:=A.trans y;obtain⟨dO,dc,rfl,hd⟩:=hod.oldN.sl;generalize X:qu g to=d at*
 have hdl:d.length=g.length:=hI.len;refine TR ?_;refine CW.loop (S:=Nat) (fun j=>[(0,.slice ao g.length cap),(10,.slice dO d.length dc),(11,Te (Lz d (f.take j))),(36,.slice fo f.length fc),(37,Te f.length),(38,Te j)])
  (fun j w=>j<=f.length/\Ext w3 w) (fun j=>f.length -j) 0 SL ⟨by omega,Ext.refl _⟩ ?_
 rintro j w ⟨hj,R⟩
 refine T2 ?_;apply CW.cond rfl<;>intro i
 ·simp at i
  have T:=L _ (OG i);obtain⟨n,en⟩:=Nn T.1;have m:n<d.length:=by omega
  have l:=LB d f j i;rw[en]at l
  have hpin:=LA d (f.take j);generalize hp:Lz d (f.take j)=p at*
  have D:p= -1\/∃a:Nat,p=(a:Int)/\a<d.length:=by
   rcases hpin with h|h
   ·exact .inl h
   ·have:=L _ (Pw h)
    obtain⟨a,ea⟩:=Nn this.1;exact .inr ⟨a,ea,by omega⟩
  have t:=hd.up R;refine T7 ?_;refine ff ((hf.at y).mono (fun b hb=>R.block b (Qn hb y.size)) fun _ h=>h) i en SX (fun q=>?_);refine Ue ?_;apply WL.nil;apply bE;refine aA [(0,.slice ao g.length cap),(10,.slice dO d.length dc),(11,Te p),(13,Te n),(36,.slice fo f.length fc),(37,Te f.length),(38,Te j),(77,.bool (DV d p n))] ?_ ?_
  ·refine Ud ?_
   refine dA rfl rfl rfl rfl rfl S3 t m rfl SX (fun q=>Uf ?_)
   (refine dJ rfl rfl (fun h=>?_) (fun h=>?_))
   rotate_left
   ·have e:DV d p n=false:=by unfold DV;rw[mN m];simp at h;simp;omega
    refine Un ?_;refine QL.nil (fun K c=>?_);rw[e];exact aY SL c
   have h0:0<=d[n]:=by simpa using h
   refine Uf ?_
   (refine dJ rfl rfl (fun h=>?_) (fun h=>?_))
   ·have e:DV d p n=true:=by unfold DV;rw[mN m];simp at h;simp[h,h0]
    refine Un ?_;refine QL.nil (fun K c=>?_);rw[e];exact aY SL c
   have hp0:¬p<0:=by simpa using h
   obtain⟨a,rfl,k⟩:∃a:Nat,p=(a:Int)/\a<d.length:=by
    rcases D with h|h
    ·omega
    ·exact h
   have eP:DV d a n=(decide (d[n]<d[a])||(decide (d[n]=d[a])&&decide ((n:Int)<a))):=by
    unfold DV;rw[mN m,mN k];simp[h0,hp0]
   refine Uf ?_;refine dA rfl rfl rfl rfl rfl S3 t m rfl SX (fun q=>Uf ?_);refine dA rfl rfl rfl rfl rfl S3 t k rfl SX (fun q=>Uf ?_)
   (refine dJ rfl rfl (fun h=>?_) (fun h=>?_))
   ·have h3:d[n]<d[a]:=by simpa using h
    refine Un ?_;refine QL.nil (fun K c=>?_);rw[eP];simp only[h3,Sc,Nf];exact aY SL c
   have h3:¬d[n]<d[a]:=by simpa using h
   refine Uf ?_;refine dA rfl rfl rfl rfl rfl S3 t m rfl SX (fun q=>Uf ?_);refine dA rfl rfl rfl rfl rfl S3 t k rfl SX (fun q=>Uf ?_)
   (refine dJ rfl rfl (fun h=>?_) (fun h=>?_))
   ·have h4:d[n]=d[a]:=by simpa using h
    refine Uf ?_;refine QL.nil (fun K c=>?_);rw[eP];simp only[h4,Sc,Nd,Np,Sb,M5];exact aY SL c
   ·have h4:¬d[n]=d[a]:=by simpa using h
    refine Un ?_;refine QL.nil (fun K c=>?_);rw[eP];simp only[h3,h4,Sb,M3,M5];exact aY SL c
  ·rintro K c
   apply CW.cond rfl<;>intro h2
   ·rw[Sj h2]at l
    refine Tn ?_;refine EX.back (j+1) ?_ ⟨i,R.trans c⟩ SM;rw[l];exact SL
   ·rw[Si (by simp[h2])]at l
    refine Tj ?_;refine EX.back (j+1) ?_ ⟨i,R.trans c⟩ SM;rw[l];exact SL
 simp at i
 have:j=f.length:=by omega
 subst this;rw[PV];have hps:=DW (d:=d) f (fun x T=>(L x T).1);generalize hp:Lz d f=p at*
 refine TO ?_;apply CW.cond rfl<;>intro h2
 ·have h2:p<0:=by simpa using h2
  rw[Sj h2]at eW
  refine Tw ?_;exact bm rfl rfl rfl rfl ⟨.slice none 0 0,by rw[eW],by rw[eW];exact Own.nil,y.trans R⟩
 have h2:¬p<0:=by simpa using h2
 rw[Si h2]at eW
 have hpf:p∈f/\0<=mM d p:=by
  rcases hps with h|h
  ·omega
  ·exact h
 have D:=L p hpf.1;rw[eW];dsimp only;refine TL ?_;refine WL.lit (F:=di) (ys:=[p]) rfl rfl rfl rfl rfl (.cons S_ .nil) (by show 1*1<=16777216;decide) S0 (fun K ho4 hg4=>?_);have c:Ext w3 K:=R.grown hg4 R.size S5;refine TI ?_;refine CW.loop (S:=Int×List Int×Value) (fun s=>[(0,.slice ao g.length cap),(10,.slice dO d.length dc),(11,Te s.1),(14,s.2.2)])
  (fun s w=>(0<=s.1/\s.1<g.length)/\0<=mM d s.1/\(s.2.1.length:Int)+mM d s.1<=g.length/\(∃pre fu,s.2.1=pre++[s.1]/\Lu g d g.length p=pre++Lu g d fu s.1/\mM d s.1<=(fu:Nat))/\Own w w3.heap.size 3 di s.2.2 s.2.1/\Ext w3 w) (fun s=>(mM d s.1).toNat) (p,[p],_) SL ⟨D,hpf.2,?_,⟨[],g.length,rfl,rfl,?_⟩,ho4.low R.size,c⟩ ?_
 ·obtain⟨pn,rfl⟩:=Nn D.1
  have E:pn<d.length:=by omega
  have:=hI.le pn E;rw[mN E];simp;omega
 ·obtain⟨pn,rfl⟩:=Nn D.1
  have E:pn<d.length:=by omega
  have:=hI.le pn E;rw[mN E];omega
 rintro⟨a,out,ov⟩ w5 ⟨Y,h0,hm,⟨pre,fu,G,W,hfu⟩,V,I⟩
 dsimp only at Y h0 hm G V hfu W
 obtain⟨an,rfl⟩:=Nn Y.1;have k:an<d.length:=by omega
 rw[mN k]at h0 hm hfu
 refine TP ?_;refine ff (hd.up I) k rfl SX (fun q=>?_);refine Tl ?_;apply CW.cond rfl<;>intro h3
 ·have h3:0<d[an]:=by simpa using h3
  have H:an<g.length:=by omega
  have z:=LF (a:=(an:Int)) (by rw[X];exact hI) hg Y (by rw[X,mN k];exact h3);rw[X,Nt,mN k]at z
  have erow:g.getD an []=g[an]:=by rw[Oi,On H];rfl
  rw[erow]at z
  have Q:=y.trans I;refine TI ?_;refine fh (hs.at Q) H SX (fun u q hu=>?_);obtain⟨ro,rc,rfl,O⟩:=hu.sl;have hrl:=O.len63;generalize hrw:g[an]=row at*
  have hrok:CQ g.length row:=by rw[<-hrw];exact hg _ (OG H)
  refine TR ?_;refine CW.loop (S:=Nat) (fun j=>[(0,.slice ao g.length cap),(10,.slice dO d.length dc),(11,Te an),(14,ov),(15,Te (Lx d an (row.take j))),(92,.slice ro row.length rc),(93,Te row.length),(94,Te j)])
   (fun j w=>j<=row.length/\Ext w5 w) (fun j=>row.length -j) 0 SL ⟨by omega,Ext.refl _⟩ ?_
  rintro j w6 ⟨hj,C⟩
  refine T2 ?_;apply CW.cond rfl<;>intro i
  ·simp at i
   have T:=hrok _ (OG i);obtain⟨n,en⟩:=Nn T.1;have m:n<d.length:=by omega
   have l:=Ly d an row j i;rw[en]at l
   generalize hp:Lx d an (row.take j)=nx at*
   have t:=hd.up (I.trans C);have hdr:=hI.le an k;refine T7 ?_;refine ff (O.mono (fun b hb=>C.block b (Qn hb Q.size)) fun _ h=>h) i en SX (fun q=>?_);refine Ue ?_;apply WL.nil;apply bE;refine aA [(0,.slice ao g.length cap),(10,.slice dO d.length dc),(11,Te an),(14,ov),(15,Te nx),(17,Te n),(92,.slice ro row.length rc),(93,Te row.length),(94,Te j),(116,.bool (BK d an nx n))] ?_ ?_
   ·refine Ud ?_
    refine dA rfl rfl rfl rfl rfl S3 t m rfl SX (fun q=>Uf ?_);refine dA rfl rfl rfl rfl rfl S3 t k rfl SX (fun q=>Un ?_);have eP:BK d an nx n=(decide (d[n]=d[an] -1)&&(decide (nx<0)||decide ((n:Int)<nx))):=by
     unfold BK;rw[mN m,mN k]
    (refine dJ rfl rfl (fun h=>?_) (fun h=>?_))
    rotate_left
    ·have h:¬d[n]=d[an] -1:=by simpa using h
     refine Un ?_;refine QL.nil (fun K c=>?_);rw[eP];simp only[h,Sb,M3];exact aY SL c
    have h4:d[n]=d[an] -1:=by simpa using h
    refine Uf ?_
    (refine dJ rfl rfl (fun h=>?_) (fun h=>?_))
    ·have h5:nx<0:=by simpa using h
     refine Un ?_;refine QL.nil (fun K c=>?_);rw[eP];simp only[h4,h5,Sc,Nd,Nf];exact aY SL c
    ·have h5:¬nx<0:=by simpa using h
     refine Uf ?_;refine QL.nil (fun K c=>?_);rw[eP];simp only[h4,h5,Sc,Sb,Nd,M5];exact aY SL c
   ·rintro w7 M
    apply CW.cond rfl<;>intro h2
    ·rw[Sj h2]at l
     refine Tn ?_;refine EX.back (j+1) ?_ ⟨i,C.trans M⟩ SM;rw[l];exact SL
    ·rw[Si (by simp[h2])]at l
     refine Tj ?_;refine EX.back (j+1) ?_ ⟨i,C.trans M⟩ SM;rw[l];exact SL
  simp at i
  have:j=row.length:=by omega
  subst this;rw[PV];generalize T:Lx d an row=x at*
  have J:=I.trans C;have P:=V.extN C;refine TO ?_;refine eH (F:=di) (yv:=x) rfl rfl SX rfl rfl SX P S_ J.size S0 SP SS SM (fun v' w7 p ho7 hg7 hnb=>?_);have M:Ext w3 w7:=J.grown hg7 J.size (fun b hb=>(P.lt b hb).1);refine TK ?_;refine EX.back (x,out++[x],v') SL ⟨z.2.2,by dsimp only;rw[z.2.1];omega,by dsimp only;rw[z.2.1,OT];simp;omega,⟨out,fu -1,rfl,?_,?_⟩,ho7,M⟩ ?_
  ·cases fu with
   |zero=>omega
   |succ fu=>
    rw[W,Lu,Sj (by rw[mN k];exact h3),Nt,erow,T,G];simp
  ·dsimp only;rw[z.2.1];omega
  ·dsimp only;rw[z.2.1,mN k];omega
 ·have h3:¬0<d[an]:=by simpa using h3
  refine TO ?_;refine bm rfl rfl rfl rfl ⟨ov,rfl,?_,y.trans I⟩;have e:Lu g d fu an=[(an:Int)]:=by
   cases fu with
   |zero=>rfl
   |succ fu=>rw[Lu,Si (by rw[mN k];exact h3)]
  rw[W,e,<-G];exact V.low y.size
structure Short(g:List (List Int))(f:List Int)(to:List Bool)(l:List Int)(is:Bool):Prop where
 len:is=decide (0<l.length)
 come:is=true↔∃n,n<g.length/\Rch g f n/\to.getD n false=true
 inR:∀i (hi:i<l.length),0<=l[i]/\l[i]<g.length
 last:∀i (hi:i<l.length),to.getD l[i].toNat false=decide (i=l.length -1)
 edge:∀i (hi:i<l.length) (hp:0<i),l[i]∈g.getD (l[i -1]'SM).toNat []
 again:∀i (hi:i<l.length),(Lp g [l[i]] to).1=l.drop i
 first:∀h:0<l.length,l[0]∈f
def Lt{f:List Int}{to:List Bool}(h:(Lp g f to).2.2=0):okG g/\CQ g.length f/\g.length<=20000/\to.length=g.length/\Short g f to (Lp g f to).1 (Lp g f to).2.1:=by
 have j:kN g=0/\¬(Cx g.length f=true\/to.length≠g.length):=by
  unfold Lp at h
  split at h
  ·rename_i h1;exact absurd h h1
  ·rename_i h1
   split at h
   ·cases h
   ·rename_i h2;exact⟨by simpa using h1,h2⟩
 obtain⟨z,hn⟩:=j;obtain⟨v,C⟩:=kP z;have m:to.length=g.length:=Nh fun h=>hn (.inr h)
 have b:CQ g.length f:=oddB_false.1 (by cases e:Cx g.length f;rfl;exact absurd (.inl e) hn);refine⟨v,b,C,m,?_⟩;have n:=qw m;have eW:∀t,CQ g.length t->Lp g t to=if Lz (qu g to) t<0 then([],false,0)else(Lu g (qu g to) g.length (Lz (qu g to) t),true,0):=by
  intro t w
  rw[Lp,Si (by simp[z]),Si (by simp[oddB_false.2 w,m])]
 have u:=DW (d:=qu g to) f (fun x a=>(b x a).1);have o:=EZ n v b;rw[eW f b];rcases u with⟨h1,h2⟩|⟨h1,h2⟩
 ·rw[Sj SM]
  refine⟨by simp,?_,fun i hi=>absurd hi SQ,fun i hi=>absurd hi SQ,fun i hi=>absurd hi SQ,fun i hi=>absurd hi SQ,fun h=>absurd h SQ⟩;rw[o];constructor
  ·intro e;cases e
  ·rintro⟨x,a,A⟩;have:=h2 x a;omega
 ·have q:=b _ h1
  generalize D:Lz (qu g to) f=p at*
  rw[Si SM];have r:∀x,0<=x/\x<(g.length:Int)->mM (qu g to) x<=(g.length:Nat):=by
   intro x a
   obtain⟨k,rfl⟩:=Nn a.1;have s:k<(qu g to).length:=by rw[n.len];omega
   have:=n.le k s;unfold mM;rw[Nt,s_ s];omega
  have c:=LC n v g.length p q h2 (r p q);dsimp only;generalize Lu g (qu g to) g.length p=l at c
  have y:=c.len;refine⟨(R9 SM).symm,?_,c.inR,?_,c.edge,?_,?_⟩
  ·rw[o]
   exact⟨fun _=>⟨p,h1,h2⟩,fun _=>rfl⟩
  ·intro i hi
   have a1:=c.at' i hi;have a2:=c.inR i hi;have s:l[i].toNat<(qu g to).length:=by rw[n.len];omega
   have B:=n.zero _ s;have hd:mM (qu g to) l[i]=(qu g to)[l[i].toNat]:=by unfold mM;rw[s_ s]
   rw[M2,<-B,<-hd,a1];simp;omega
  ·intro i hi
   have a1:=c.at' i hi;have a2:=c.inR i hi;have e:Lz (qu g to) [l[i]]=l[i]:=by
    have:=DW (d:=qu g to) [l[i]] (fun x a=>by simp at a;subst a;exact a2.1);rcases this with⟨_,h4⟩|⟨h4,_⟩
    ·have:=h4 l[i] SQ;omega
    ·simpa using h4
   rw[eW [l[i]] (fun x a=>by simp at a;subst a;exact a2),e,Si SM];exact c.go i hi _ (r _ a2)
  ·intro A
   have:=c.hd;rw[On A]at this
   rw[QV this];exact h1
def Lq{f:List Int}{to:List Bool}(h:(Lp g f to).2.2≠0):(Lp g f to).1=[]/\(Lp g f to).2.1=false:=by
 unfold Lp at h⊢
 split
 ·exact⟨rfl,rfl⟩
 ·split
  ·exact⟨rfl,rfl⟩
  ·rename_i h1 h2
   rw[Si h1,Si h2]at h
   split at h<;>exact absurd rfl h
def Lv{g:List (List Int)}{d:List Int}:∀(f:Nat) (a:Int),(Lu g d f a).length<=f+1
 |0,a=>by simp[Lu]
 |f+1,a=>by
  rw[Lu];split
  ·have:=Lv (g:=g) (d:=d) f (Lx d a (g.getD a.toNat []))
   rw[OU];omega
  ·simp
def Ls{f:List Int}{to:List Bool}:(Lp g f to).1.length<=g.length+1:=by
 unfold Lp;split
 ·simp
 ·split
  ·simp
  ·split
   ·simp
   ·exact Lv _ _
def Lr{f:List Int}{to:List Bool}:CQ g.length (Lp g f to).1:=by
 by_cases h:(Lp g f to).2.2=0
 ·have hS:=(Lt h).2.2.2.2
  intro x a
  obtain⟨i,hi,rfl⟩:=Pq.1 a;exact hS.inR i hi
 ·rw[(Lq h).1]
  intro x a;cases a
def CX(n:Nat)(k:Nat):List Bool:=(List.replicate n false).set k true
def IV(nl:List (List cN))(k:Nat):List Int:=(Lp (tO nl) [0] (CX nl.length k)).1
def rt(nl:List (List cN))(is:List Bool):Int×List Int:=
 if idxOf (fun y=>true==y) is<0 then(-1,[])else(idxOf (fun y=>true==y) is,gS nl (IV nl (idxOf (fun y=>true==y) is).toNat))
def tP{nl:List (List cN)}:(tO nl).length=nl.length:=by simp[tO]
def HG{p:α->Bool}{l:List α}(h:0<=idxOf p l):(idxOf p l).toNat<l.length:=by
 unfold idxOf at h⊢
 cases e:l.findIdx? p with
 |none=>rw[e]at h;exact absurd h SP
 |some i=>
  have:=(Ob.1 e).1;simpa using this
def Hh(w0:World){mo:Option Addr}{mc ml:Nat}{nl:List (List cN)}{is:List Bool}(hn:Sl w0 (dl w0) C B nl)(hi:Sl w0 (dl w0) D a is)(S:is.length=nl.length)(u:nl.length<=200)(hr:∀r∈nl,r.length<=60):
  Rt UA 34 [H1 mo mc C B ml nl.length,.slice D is.length a].toArray w0 fun v w'=>∃x,v=.tuple ⟨[Te (rt nl is).1,x]⟩/\Own w' w0.heap.size 3 di x (rt nl is).2/\Ext w0 w':=by
 refine dV Tryz.func34 Tryz.ntmps34 rfl rfl ?_;have o:=fun w (Q:Ext w0 w)=>tR w (mo:=mo) (mc:=mc) (ml:=ml) (hn.up Q) u hr
 have hal:=fun w (Q:Ext w0 w)=>@GC w mo C
 unfold H1 at o⊢
 refine T9 ?_;refine eJ fun Z b V=>?_
 refine T2 ?_;refine eN (yu Z true (hi.up V)) ?_;rintro _ P ⟨rfl,U⟩
 have b:=b.ext U;have z:=V.trans U;have hl1:=b.lt;unfold rt;by_cases c:idxOf (fun y=>true==y) is<0
 ·rw[Sj c]
  refine T2 ?_;rw[R9 c];refine TA ?_;exact bl rfl rfl rfl ⟨_,rfl,Own.nil,z⟩
 rw[Si c];have i:=HG (p:=fun y=>true==y) (l:=is) SM;obtain⟨k,hk⟩:=Nn (show 0<=idxOf (fun y=>true==y) is by omega);rw[hk]at c i⊢
 rw[Nt]at i⊢
 rw[S]at i
 refine TE ?_;rw[R7 c];rw[S];skip;refine fK (α:=Bool) rfl rfl rfl rfl SM SS (fun Y R s=>?_);have E:Ext P Y:=(MW _ _).grown s Ta S5;have b:=b.ext E;have hE3:=z.trans E;refine T2 ?_;refine WL.set rfl rfl rfl rfl R SM ST SX SX (Rd.mkBool _ _ true) (fun n q ho4 j=>?_);have e4:Ext P n:=E.grown j E.size SZ;have hz2:=z.size;have t:=z.trans e4;have hl2:=b.lt;have b:=b.kept j (fun e=>by have:=QV e;dsimp only at this;omega);rw[Nt]at ho4
 obtain⟨to,tc,hv,d⟩:=ho4.slF (F':=dl n) S0 (fun g hg=>(ho4.lt g hg).2.1);obtain⟨rfl,_,rfl⟩:=RS hv;have G:((List.replicate nl.length false).set k true).length=nl.length:=by simp
 change Sl n (dl n) _ _ (CX nl.length k)at d
 have I:(CX nl.length k).length=nl.length:=G;clear R ho4 s j;refine TN ?_;refine eN (o n t) ?_;rintro gv w5 ⟨vs,hN,O⟩
 have b:=b.ext O;have N:=t.trans O;have d:=d.up O;obtain⟨go,gc,rfl,K⟩:=hN.old.sl;skip;refine fH [(0:Int)] rfl rfl rfl rfl rfl (.cons S_ .nil) SP (fun v6 X A r6 _=>?_);obtain⟨fo,fc,rfl,L⟩:=r6.sl;have b:=b.ext A;have M:=N.trans A;refine Ue ?_;have h:=gi X (K.up A) L (d.up A);rw[I]at h
 refine eN h ?_;rintro _ W ⟨wv,rfl,H,T⟩
 have b:=b.ext T;have m:=M.trans T;have J:CQ nl.length (IV nl k):=by have:=Lr (g:=tO nl) (f:=[0]) (to:=CX nl.length k);rwa[tP]at this
 have hwl:(IV nl k).length<=nl.length+1:=by have:=Ls (g:=tO nl) (f:=[0]) (to:=CX nl.length k);rwa[tP]at this
 obtain⟨wo,wc,rfl,F⟩:=H.oldN.sl;refine TN ?_;refine eN (GC W (mo:=mo) (mc:=mc) (ml:=ml) (hn.up m) F J (by show(IV nl k).length<=1000;omega)) ?_;rintro _ w8 ⟨ho8,e8⟩
 refine Tk ?_;exact bl rfl rfl rfl ⟨_,rfl,ho8.low m.size,m.trans e8⟩
instance:IsFd UA 57 0 0:=IsFd.of SN
instance:IsFd UA 57 1 1:=IsFd.of SN
instance:IsFd UA 57 2 2:=IsFd.of SN
instance:IsFd UA 57 3 3:=IsFd.of SN
instance:IsFd UA 57 4 4:=IsFd.of SN
def G5(ml:List (List Int))(k:Nat):List Int:=((List.range k).filter fun i=>oZ (ml.getD i [])).map fun i:Nat=>(i:Int)
def o9(ml:List (List Int)):List Int:=G5 ml ml.length
def IG(ml:List (List Int))(nl:List (List cN))(i:Nat):Bool:=decide ((nl.getD i []).length=0)&&!oZ (ml.getD i [])
def IH(ml:List (List Int))(nl:List (List cN)):List Bool:=(List.range ml.length).map (IG ml nl)
noncomputable def BI(ml:List (List Int))(nl:List (List cN)):List Bool:=(EP (Kn (tO nl)) (o9 ml)).map fun b=>!b
structure LFinding where
 dead:List Int
 still:Int
 never:Int
 toStill:List Int
 toNever:List Int
noncomputable def ri(p:cR)(ml:List (List Int))(nl:List (List cN)):LFinding:=
 ⟨deadL p nl,(rt nl (IH ml nl)).1,(rt nl (BI ml nl)).1,(rt nl (IH ml nl)).2,(rt nl (BI ml nl)).2⟩
noncomputable def AH(p:cR)(tok st:Int):LFinding×Int:=
 if(pS p tok st).2≠0 then(⟨[],0,0,[],[]⟩,(pS p tok st).2)else(ri p (pS p tok st).1.1 (pS p tok st).1.2,0)
def G7{ml:List (List Int)}{k:Nat}:G5 ml (k+1)=G5 ml k++if oZ (ml.getD k [])=true then [(k:Int)]else []:=by
 unfold G5;rw[PL,N6,Pb]
 congr 1
 by_cases h:oZ (ml.getD k [])=true
 ·rw[Sj h,N9 (p:=fun i=>oZ (ml.getD i [])) h];rfl
 ·rw[Si h,N8 (p:=fun i=>oZ (ml.getD i [])) h];rfl
def G6{ml:List (List Int)}{k:Nat}:(G5 ml k).length<=k:=by
 unfold G5;rw[O1];exact Qk (O0 _ _) (by rw[O4];exact Qj _)
def pi{ml:List (List Int)}{k:Nat}:CQ k (G5 ml k):=by
 intro x a
 unfold G5 at a
 rw[Pr]at a
 obtain⟨i,hi,rfl⟩:=a;have:=Px.1 (Po.1 hi).1;omega
def tQ{p:cR}{ml:List (List Int)}{nl:List (List cN)}(d:SpOk p ml nl)(g:nl.length=ml.length):okG (tO nl):=by
 intro r b x a
 unfold tO at b
 rw[Pr]at b
 obtain⟨i,hi,rfl⟩:=b;have c:=Px.1 hi;unfold JS at a
 rw[Pr]at a
 obtain⟨e,f,rfl⟩:=a;obtain⟨_,h1,h2,_⟩:=d.ed i c e f;rw[tP];omega
def jW{p:cR}(a:(Iz p).length<=60):(jO p m).length<=60:=by
 unfold jO;split
 ·unfold jR jS
  rw[O1];exact Qk (O0 _ _) (by rw[O4];exact a)
 ·simp
def H5{p:cR}{ml:List (List Int)}{nl:List (List cN)}(a:SpOk p ml nl)(c:(Iz p).length<=60):∀r∈nl,r.length<=60:=by
 intro r b
 obtain⟨i,hi,rfl⟩:=Pq.1 b;have h:=a.can i hi;rw[sM hi]at h
 have:=R5 List.length h;rw[O1]at this
 rw[this];exact jW c
def jV{p:cR}{k:Int}(h:k∈jO p m):0<=k/\k<(Iz p).length:=by
 unfold jO at h
 split at h
 ·unfold jR jS at h
  rw[Pr]at h
  obtain⟨i,hi,rfl⟩:=h;have:=Px.1 (Po.1 hi).1;omega
 ·cases h
def H6{p:cR}{ml:List (List Int)}{nl:List (List cN)}(b:SpOk p ml nl):∀r∈nl,∀x∈r,0<=x.1/\x.1<(Iz p).length:=by
 intro r c x a
 obtain⟨i,hi,rfl⟩:=Pq.1 c;have h:=b.can i hi;rw[sM hi]at h
 exact jV (by rw[<-h];exact Pr.2 ⟨x,a,rfl⟩)
def GK{g:bZ}{n:Nat}(h:∀r∈g,r.length<=n):oB g<=g.length*n:=by
 unfold oB
 induction g with
 |nil=>simp
 |cons r g a=>
  have:=a (fun r b=>h r (by simp[b]));have:=h r SQ;rw[Pd,PS,OU,P5];omega
def Kz{g:bZ}(h:g.length<=200):oB (Kn g)<=200*201:=by
 have h1:=GK (g:=Kn g) (n:=201) (fun r a=>by
  obtain⟨i,hi,rfl⟩:=Pq.1 a;have e:(Kn g)[i]=Ka g g.length 0 i:=Kt hi;rw[e];have:=Kc g g.length 0 i;omega)
 rw[Ko]at h1
 have:=Qu 201 h;omega
def Eh(n:Nat)(f:Nat->Bool)(i:Nat):List Bool:=(List.range n).map fun k=>decide (k<i)&&f k
def Ej{n i:Nat}{f:Nat->Bool}:(Eh n f i).length=n:=by simp[Eh]
def El{n:Nat}{f:Nat->Bool}:Eh n f 0=List.replicate n false:=by
 unfold Eh;refine N4 SQ fun i h1 h2=>by simp
def Ek{n i:Nat}{f:Nat->Bool}:(Eh n f i).set i (f i)=Eh n f (i+1):=by
 unfold Eh;refine N4 SQ fun k h1 h2=>?_
 rw[OJ];simp only[OF,OH];split
 ·rename_i e;subst e;simp
 ·rename_i e
  by_cases h:k<i
  ·simp[h,show k<i+1 by omega]
  ·simp[h,show¬k<i+1 by omega]
def Ei{n:Nat}{f:Nat->Bool}:Eh n f n=(List.range n).map f:=by
 unfold Eh;refine N4 SQ fun k h1 h2=>?_
 simp at h1
 simp[h1]
def BJ{ml:List (List Int)}{nl:List (List cN)}(a:nl.length=ml.length):BI ml nl=(List.range ml.length).map fun k=>!(EP (Kn (tO nl)) (o9 ml)).getD k false:=by
 unfold BI;have h:(EP (Kn (tO nl)) (o9 ml)).length=ml.length:=by rw[ES,Ko,tP,a]
 refine N4 (by simp[h]) fun k h1 h2=>?_
 rw[O1]at h1
 simp[OF,Oi,On h1]
def qP(dv sv nv:Value)(s n:Int):Value:=.agg [dv,.int .i64 s,.int .i64 n,sv,nv].toArray
set_option maxRecDepth 100000 in
def c7(w0:World){so fo:Option Addr}{sc fc:Nat}{ns:List cP}{fl:List cO}(hs:Sl w0 (dl w0) so sc ns)(hf:Sl w0 (dl w0) fo fc fl)(tok st:Int):
  Rt UA 11 [Er so sc fo fc ns.length fl.length,Te tok,Te st].toArray w0 fun v w'=>∃dv sv nv,v=.tuple ⟨[qP dv sv nv (AH (ns,fl) tok st).1.still (AH (ns,fl) tok st).1.never,Te (AH (ns,fl) tok st).2]⟩/\
   Own w' 0 3 di dv (AH (ns,fl) tok st).1.dead/\Own w' 0 3 di sv (AH (ns,fl) tok st).1.toStill/\Own w' 0 3 di nv (AH (ns,fl) tok st).1.toNever/\Ext w0 w':=by
 refine dW Tryz.func11 Tryz.ntmps11 rfl rfl ?_;refine T9 ?_;refine eJ fun w1 C e1=>?_
 skip;refine eF (fun w2 m e2=>?_);have C:=C.ext e2;have hE:=e1.trans e2;refine TN ?_;refine eN (bM w2 (hs.up hE) (hf.up hE) tok st) ?_;rintro _ w3 ⟨mv,nv,rfl,hmv,O,e3⟩
 obtain⟨mo,mc,rfl,hm⟩:=hmv.sl;obtain⟨no,nc,rfl,hn⟩:=O.sl;have C:=C.ext e3;have m:=m.ext e3;have hE:=hE.trans e3;have hlaw:=pU (p:=(ns,fl)) (tok:=tok) (st:=st);unfold AH;generalize pS (ns,fl) tok st=r at*
 obtain⟨⟨ml,nl⟩,er⟩:=r;dsimp only at hm hn hlaw⊢
 clear hmv O;refine Ue ?_;refine eF (fun w4 x e4=>?_);skip;refine f_ x (fun w5 x hg5=>?_);have e5:Ext w3 w5:=e4.grown hg5 e4.size SZ;have C:=C.ext e5;have m:=m.ext e5;have hE5:=hE.trans e5;have hm:=hm.up e5;have hn:=hn.up e5;have hl6:=m.lt;have hl8:=x.lt;have hs1:=e1.size;have hs2:=e2.size;have hs3:=e3.size;clear e4 hg5;by_cases her:er=0
 case neg=>
  rw[Sj her];have b1:(er != 0)=true:=by simpa using her
  refine T2 ?_;rw[b1];refine TZ ?_;refine WL.build (parts:=[]) rfl rfl rfl rfl ?_;refine Ue ?_;refine f_ m (fun w6 m hg6=>?_);refine T5 ?_;exact bu rfl rfl rfl m rfl ⟨_,_,_,rfl,Own.nil,Own.nil,Own.nil,hE5.grown hg6 hE5.size (fun g n=>by cases n;exact hs1)⟩
 subst her;rw[Si SQ];obtain⟨hz,hsr,hsp,hnl,hml0,_,h200⟩:=hlaw rfl;obtain⟨hc0,hse,hl60⟩:=It hz;have hst:=hsr.st;have hrow:=H5 hsp hl60;have hstp:=H6 hsp;have hgok:=tQ hsp hnl;clear hlaw;refine TS ?_;have mkS:∀i:Nat,eg (fun v γ w=>Own w w5.heap.size 4 di v (List.replicate ml.length false)/\∃b,v.ownBlock=some b/\γ b=i):=fun i v γ γ' w w' h e hγ=>by
  obtain⟨ho,b,hb,n⟩:=h;exact⟨ho.extN e,b,hb,by rw[hγ b (ho.lt b hb).2.1];exact n⟩
 refine aH 6 mixed SN ?_;refine Uz ?_;refine ML.fc (fun v γ w=>Own w w5.heap.size 4 di v (List.replicate ml.length false)/\∃b,v.ownBlock=some b/\γ b=1) rfl rfl rfl (mkS 1) (fun γ w T=>fK (α:=Bool) rfl rfl rfl rfl SM SS (fun w2 ho Q=>WL.nil (bd rfl ((Ext.refl w).grown Q Ta S5) ⟨ho.low ((Ext.drew w5).trans T).size,_,rfl,by simp[jL]⟩))) ?_;refine Uz ?_;refine ML.fc (fun v γ w=>Own w w5.heap.size 4 di v (List.replicate ml.length false)/\∃b,v.ownBlock=some b/\γ b=3) rfl rfl rfl (mkS 3) (fun γ w T=>fK (α:=Bool) rfl rfl rfl rfl SM SS (fun w2 ho Q=>WL.nil (bd rfl ((Ext.refl w).grown Q Ta S5) ⟨ho.low ((Ext.drew w5).trans T).size,_,rfl,by simp[jL]⟩))) ?_;refine ML.fc (fun v γ w=>Own w w5.heap.size 4 di v (List.replicate ml.length false)/\∃b,v.ownBlock=some b/\γ b=1) rfl rfl rfl (mkS 1) (fun γ w T v37 g37=>fX rfl rfl rfl (WL.nil (bd rfl Tc (by
  obtain⟨ho,b,hb,n⟩:=g37;exact⟨ho,b,hb,by unfold jL;rw[Sj (ho.lt b hb).2.1];exact n⟩)))) ?_
 refine ML.fc (fun v γ w=>Own w w5.heap.size 4 di v (List.replicate ml.length false)/\∃b,v.ownBlock=some b/\γ b=3) rfl rfl rfl (mkS 3) (fun γ w T=>by
  intro v39 g39 v11 g11 v37 g37
  change WL _ _ _ _ _ _ _
  refine fX rfl rfl rfl ?_;refine WL.nil (bd rfl Tc ?_);obtain⟨ho,b,hb,n⟩:=g11;exact⟨ho,b,hb,by unfold jL;rw[Sj (ho.lt b hb).2.1];exact n⟩) ?_
 refine ML.nil fun γ w6 hw6 nv g12 sv g11 v39 g39 v37 g37=>?_
 change WL _ _ _ _ _ _ _
 refine WL.nil (bC ?_);clear g37 g39;obtain⟨j,sb,I,m1⟩:=g11;obtain⟨l,nb,hnb,m2⟩:=g12;have hsn:sb≠nb:=fun e=>by rw[e]at m1;omega
 have e6:Ext w5 w6:=(Ext.drew w5).trans hw6;clear m1 m2 mkS hw6;refine TJ ?_;have hl5:∀g,g<w5.heap.size->g≠sb/\g≠nb:=fun g n=>⟨by have:=(j.lt sb I).1;omega,by have:=(l.lt nb hnb).1;omega⟩
 have hsb6:=(j.lt sb I).2.1;have hnb6:=(l.lt nb hnb).2.1;have hsb5:=(j.lt sb I).1;have hnb5:=(l.lt nb hnb).1;have hmlm:=hm.len63;rw[<-El (f:=IG ml nl)]at j
 have hb8x:=x.ext e6;refine Ty ?_;refine CW.loop (S:=Nat×Value) (fun s=>[(3,Tg w0.heap.size),(6,Tg w1.heap.size),(8,Tg w3.heap.size),(11,sv),(12,nv),(13,s.2),(41,.slice mo ml.length mc),(42,Te ml.length),(43,Te s.1)])
  (fun s w=>s.1<=ml.length/\Own w w5.heap.size 4 di sv (Eh ml.length (IG ml nl) s.1)/\Own w w5.heap.size 4 di nv (List.replicate ml.length false)/\Own w w6.heap.size 3 di s.2 (G5 ml s.1)/\Ext w5 w/\w6.heap.size<=w.heap.size) (fun s=>ml.length -s.1) (0,.slice none 0 0) SL ⟨QK _,j,l,by simp[G5];exact Own.nil,e6,Qj _⟩ ?_
 clear j l hb8x;rintro⟨i,ev⟩ w7 ⟨hi,j,l,z,e7,hz7⟩
 dsimp only at hi j l z e7 hz7⊢
 have hb8x:=x.ext e7;have hel:=G6 (ml:=ml) (k:=i);refine T2 ?_;apply CW.cond rfl<;>intro h
 ·have P:i<ml.length:=by simp at h;omega
  have hin:i<nl.length:=by omega
  have hnx:=G7 (ml:=ml) (k:=i);rw[sP P]at hnx
  have hsa:IG ml nl i=(decide (nl[i].length=0)&&!oZ ml[i]):=by unfold IG;rw[sM hin,sP P]
  refine TL ?_;refine fg (i:=i) rfl rfl rfl rfl rfl (hm.at e7) P SX (fun u q hu=>?_);obtain⟨ua,uc,rfl,hus⟩:=hu.sl;clear hu;have husA:∀{w},Ext w5 w->Sl w (dl w) ua uc ml[i]:=fun T=>hus.mono (fun b hb=>(T.block b hb).trans (e7.block b hb).symm) (fun b hb=>Qn hb T.size)
  refine Ue ?_;apply WL.nil;apply bE;refine aB (S:=Unit) (fun _=>[(3,Tg w0.heap.size),(6,Tg w1.heap.size),(8,Tg w3.heap.size),(11,sv),(12,nv),(13,ev),(14,Te i),(15,.slice ua ml[i].length uc),(41,.slice mo ml.length mc),(42,Te ml.length),(43,Te i)])
   (fun _ w=>Own w w5.heap.size 4 di sv (Eh ml.length (IG ml nl) (i+1))/\Own w w5.heap.size 4 di nv (List.replicate ml.length false)/\Own w w6.heap.size 3 di ev (G5 ml i)/\Ext w5 w/\w7.heap.size<=w.heap.size) ?_ ?_
  ·have fin:∀{w8 N:World} (_:Ext w7 w8),Own N w5.heap.size 4 di sv (Eh ml.length (IG ml nl) (i+1))->w8.grownBy N sv.ownBlock->Own N w5.heap.size 4 di sv (Eh ml.length (IG ml nl) (i+1))/\Own N w5.heap.size 4 di nv (List.replicate ml.length false)/\Own N w6.heap.size 3 di ev (G5 ml i)/\Ext w5 N/\w7.heap.size<=N.heap.size:=by
    intro w8 N Y ho9 K
    have hm9:Ext w5 N:=(e7.trans Y).grown K (e7.trans Y).size (fun g n=>by rw[I]at n;cases n;exact hsb5);refine⟨ho9,(l.extN Y).keptN K (fun g n e=>by rw[I]at e;rw[hnb]at n;cases n;cases e;exact hsn rfl),(z.extN Y).keptN K (fun g n e=>by rw[I]at e;cases e;have:=(z.lt _ n).1;omega),hm9,Qk Y.size K.size⟩
   refine TY ?_;refine fg (i:=i) rfl rfl rfl rfl rfl (hn.up e7) hin SX (fun u q hu=>?_);obtain⟨va,vc,rfl,hvs⟩:=hu.sl;clear hu hvs;by_cases h0:nl[i].length=0
   ·have b0:((nl[i].length:Int)==0)=true:=by rw[RZ];omega
    rw[R9 h0]at hsa
    refine Ui ?_;rw[b0];refine Ue ?_;refine eN (o5 w7 (husA e7)) ?_;rintro _ w8 ⟨rfl,Y⟩
    refine Ue ?_;refine WL.set rfl rfl rfl rfl (j.extN Y) SM (by rw[Ej];omega) SX SX (Rd.mkBool _ _ _) (fun N q ho9 K=>?_);rw[show(!oZ ml[i])=IG ml nl i by rw[hsa];rfl,Nt,Ek]at ho9
    refine T1 ?_;exact aZ () SL (fin Y ho9 K)
   ·have b0:((nl[i].length:Int)==0)=false:=by rw[RY];omega
    rw[R7 h0]at hsa
    refine Ui ?_;rw[b0];refine Ul ?_;refine WL.set rfl rfl rfl rfl j SM (by rw[Ej];omega) SX SX (Rd.mkBool _ _ _) (fun N q ho9 K=>?_);rw[show false=IG ml nl i by rw[hsa];rfl,Nt,Ek]at ho9
    refine T1 ?_;exact aZ () SL (fin Tc ho9 K)
  ·clear j l z hb8x
   rintro _ w8 ⟨j,l,z,Y,hz8⟩
   refine TP ?_;refine eN (o5 w8 (husA Y)) ?_;rintro _ N ⟨rfl,X⟩
   have e9':=Y.trans X;cases hem:oZ ml[i]
   ·rw[hem,Si SP,NG]at hnx
    refine Tz ?_;exact EX.back (i+1,ev) SL ⟨P,j.extN X,l.extN X,by dsimp only;rw[hnx];exact z.extN X,e9',by have:=X.size;omega⟩ SR
   ·rw[hem,Sj rfl]at hnx
    refine T4 ?_;refine eH (α:=Int) (F:=di) (bytes:=8) rfl rfl SX rfl rfl SX (z.extN X) S_ (by have:=X.size;omega) S0 SP SS SM (fun ev' w10 p ho10 V hnb10=>?_);rw[<-hnx]at ho10
    have hlo:=(z.extN X).lt;have e10:=e9'.grown V e9'.size (fun g n=>by have:=(hlo g n).1;have:=e6.size;omega);have hz9:=X.size;have hz10:=V.size;refine Tn ?_;exact EX.back (i+1,ev') SL ⟨P,(j.extN X).keptN V (fun g n e=>by rw[I]at n;cases n;have:=(hlo _ e.symm).1;omega),(l.extN X).keptN V (fun g n e=>by rw[hnb]at n;cases n;have:=(hlo _ e.symm).1;omega),ho10,e10,by omega⟩ SR
 obtain rfl:i=ml.length:=by simp at h;omega
 rw[Ei]at j
 change Own w7 w5.heap.size 4 di sv (IH ml nl)at j
 change Own w7 w6.heap.size 3 di ev (o9 ml)at z
 have hgl:(tO nl).length=ml.length:=by rw[tP,hnl]
 have Q:=tR w7 (mo:=mo) (mc:=mc) (ml:=ml.length) (hn.up e7) SM hrow;unfold H1 at Q
 refine Ub ?_;refine eN Q ?_;rintro gv w8 ⟨vs,hN,Y⟩
 obtain⟨go,gc,rfl,hgs⟩:=hN.old.sl;clear hN;skip;refine eN (eB w8 hgs) ?_;rintro _ N ⟨tv,vs2,rfl,hN2,X⟩
 have hchk:kN (tO nl)=0:=kO hgok SM;unfold Km at hN2
 rw[Sj hchk]at hN2
 rw[hchk];obtain⟨to,tc,rfl,hts⟩:=hN2.old.sl;clear hN2;have e89:=Y.trans X;obtain⟨eo,ec,rfl,hes⟩:=(z.extN e89).oldN.sl;have htl:(Kn (tO nl)).length=ml.length:=by rw[Ko,hgl]
 have hte:=Kz (g:=tO nl) SM;have hol:CQ (Kn (tO nl)).length (o9 ml):=by rw[htl];exact pi
 have H:=dR N hts hes (by have:(o9 ml).length<=ml.length:=G6;omega);rw[Fg (Kq _) hol SM]at H
 refine T2 ?_;refine eN H ?_;rintro _ w10 ⟨ov,rfl,J,e10⟩
 dsimp only at J⊢
 have e7x:=e89.trans e10;have j:=j.extN e7x;have l:=l.extN e7x;have e10':=e7.trans e7x;have hrl:(EP (Kn (tO nl)) (o9 ml)).length=ml.length:=by rw[ES,htl]
 have hz10:=e7x.size;have hz79:=e89.size;clear hes hts hgs z H Q hte hol Y X e89;rw[<-El (f:=fun k=>!(EP (Kn (tO nl)) (o9 ml)).getD k false)]at l
 have hnvl:=l.val;obtain⟨no',nc',O⟩:=hnvl;rw[Ej]at O
 rw[O];refine TR ?_;rw[<-O];have U:=BJ (ml:=ml) (nl:=nl) hnl;generalize EP (Kn (tO nl)) (o9 ml)=okl at*
 refine CW.loop (S:=Nat) (fun i=>[(3,Tg w0.heap.size),(6,Tg w1.heap.size),(8,Tg w3.heap.size),(11,sv),(12,nv),(18,ov),(83,Te ml.length),(84,Te i)])
  (fun i w=>i<=ml.length/\Own w w5.heap.size 4 di sv (IH ml nl)/\Own w w5.heap.size 4 di nv (Eh ml.length (fun k=>!okl.getD k false) i)/\Own w N.heap.size 4 di ov okl/\Ext w5 w) (fun i=>ml.length -i) 0 SL ⟨QK _,j,l,J,e10'⟩ ?_
 clear j l J;rintro i w11 ⟨hi,j,l,J,D⟩
 refine T2 ?_;apply CW.cond rfl<;>intro h
 ·have P:i<ml.length:=by simp at h;omega
  refine TI ?_;refine fi (i:=(i:Int)) rfl rfl rfl rfl rfl J SM SM SX (fun u q hu=>?_);obtain rfl:=hu.bool;have hget:okl[((i:Nat):Int).toNat]'(by rw[Nt];omega)=okl.getD i false:=by
   rw[Oi,On SM];rfl
  rw[hget];refine Ue ?_;refine WL.set rfl rfl rfl rfl l SM (by rw[Ej];omega) SX SX (Rd.mkBool _ _ _) (fun o q hno12 hg12=>?_);rw[Nt,Ek]at hno12
  have A:=D.grown hg12 D.size (fun g n=>by rw[hnb]at n;cases n;exact hnb5);refine Tn ?_;exact EX.back (i+1) SL ⟨P,j.keptN hg12 (fun g n e=>by rw[hnb]at e;rw[I]at n;cases n;cases e;exact hsn rfl),hno12,J.keptN hg12 (fun g n e=>by rw[hnb]at e;cases e;have:=(J.lt _ n).1;omega),A⟩ SM
 obtain rfl:i=ml.length:=by simp at h;omega
 rw[Ei,<-U]at l
 clear J U O;have C:=C.ext D;have x:=x.ext D;have hE11:=hE5.trans D;have hn:=hn.up D;have m:=m.ext D;have R:=nw w11 (mo:=mo) (mc:=mc) (ml:=ml.length) (hs.up hE11) (hf.up hE11) hn hz hstp;unfold H1 at R
 refine Ub ?_;refine eN R ?_;rintro dv o ⟨hod,A⟩
 have C:=C.ext A;have x:=x.ext A;have m:=m.ext A;have hE12:=hE11.trans A;have hn:=hn.up A;have j:=j.extN A;have l:=l.extN A;obtain⟨do',dc,rfl⟩:=hod.val;clear R;skip;refine eK ?_;skip;refine eF (fun w13 d e13=>?_);skip;refine f_ d (fun w14 d hg14=>?_);have e14:Ext o w14:=e13.grown hg14 e13.size SZ;have hl21:=d.lt;have x:=x.ext e14;have m:=m.ext e14;have hz14:=e14.size;have hz12:=hE12.size;clear e13 hg14;have d:Blk w14 o.heap.size 57 [.slice do' (deadL (ns,fl) nl).length dc,Te 0,Te 0,.slice none 0 0,.slice none 0 0]:=d;have hstl:(IH ml nl).length=nl.length:=by unfold IH;rw[O1,O4,hnl]
 have hnvl:(BI ml nl).length=nl.length:=by rw[BJ hnl,O1,O4,hnl]
 obtain⟨so',sc',rfl⟩:=j.val;obtain⟨no',nc',rfl⟩:=l.val;have hss:Sl o (dl o) so' sc' (IH ml nl):=by
  obtain⟨a,c,e,h⟩:=j.oldN.sl;obtain⟨rfl,_,rfl⟩:=RS e;exact h
 have hns:Sl o (dl o) no' nc' (BI ml nl):=by
  obtain⟨a,c,e,h⟩:=l.oldN.sl;obtain⟨rfl,_,rfl⟩:=RS e;exact h
 have hf1:=fun w (T:Ext o w)=>Hh w (mo:=mo) (mc:=mc) (ml:=ml.length) (hn.up T) (hss.up T) hstl SM hrow
 have hf2:=fun w (T:Ext o w)=>Hh w (mo:=mo) (mc:=mc) (ml:=ml.length) (hn.up T) (hns.up T) hnvl SM hrow
 unfold H1 at hf1 hf2
 unfold ri;clear j l hss hns hn;have hb8l:=(x.lt);have h8ne:w3.heap.size≠o.heap.size:=by have:=D.size;have:=A.size;omega
 have W:w1.heap.size≠o.heap.size:=by have:=D.size;have:=A.size;omega
 refine TN ?_;refine eN (hf1 w14 e14) ?_;rintro _ w15 ⟨sx,rfl,t,e15⟩
 obtain⟨sxo,sxc,rfl⟩:=t.val;have x:=x.ext e15;have m:=m.ext e15;have d:=d.ext e15;have hz15:=e15.size;have e15x:=e14.trans e15;refine Uh ?_;refine f_ d (fun w16 d G=>?_);refine Ug ?_;refine f_ d (fun w17 d E=>?_);have Z:∀{v:Value} {xs:List Int} {w:World},Own w w14.heap.size 3 di v xs->∀g,v.ownBlock=some g->¬(some g=some o.heap.size):=fun h g n e=>by have:=(h.lt g n).1;cases e;omega
 have t:=(t.keptN G (fun g n e=>Z t g n e));have t:=(t.keptN E (fun g n e=>Z t g n e));have x:=(x.kept G (fun e=>h8ne (QV e))).kept E (fun e=>h8ne (QV e));have m:=(m.kept G (fun e=>W (QV e))).kept E (fun e=>W (QV e));have e16:Ext o w16:=(e15x.grown G e15x.size SZ);have e17:Ext o w17:=(e16.grown E e16.size SZ);have d:Blk w17 o.heap.size 57 [.slice do' (deadL (ns,fl) nl).length dc,Te (rt nl (IH ml nl)).1,Te 0,.slice sxo (rt nl (IH ml nl)).2.length sxc,.slice none 0 0]:=d;refine TN ?_;refine eN (hf2 w17 e17) ?_;rintro _ w18 ⟨nx,rfl,y,e18⟩
 obtain⟨nxo,nxc,rfl⟩:=y.val;have m:=m.ext e18;have d:=d.ext e18;have e18x:=e17.trans e18;have t:=t.extN e18;have hz17:=e17.size;refine Uh ?_;refine f_ d (fun w19 d M=>?_);refine Ug ?_;refine f_ d (fun w20 d L=>?_);have y:=y.low (show w14.heap.size<=w17.heap.size by have:=G.size;have:=E.size;omega);have t:=(t.keptN M (fun g n e=>Z t g n e));have t:=(t.keptN L (fun g n e=>Z t g n e));have y:=(y.keptN M (fun g n e=>Z y g n e));have y:=(y.keptN L (fun g n e=>Z y g n e));have m:=(m.kept M (fun e=>W (QV e))).kept L (fun e=>W (QV e));have e19:Ext o w19:=(e18x.grown M e18x.size SZ);have e20:Ext o w20:=(e19.grown L e19.size SZ);have d:Blk w20 o.heap.size 57 [.slice do' (deadL (ns,fl) nl).length dc,Te (rt nl (IH ml nl)).1,Te (rt nl (BI ml nl)).1,.slice sxo (rt nl (IH ml nl)).2.length sxc,.slice nxo (rt nl (BI ml nl)).2.length nxc]:=d;have hod:=hod.extN e20;have hE20:=hE12.trans e20;clear G E M L e17 e18 e18x e15 e15x hf1 hf2;refine TN ?_;refine f_ m (fun w21 m hg21=>?_);have m6:∀{v:Value} {xs:List Int} {B:Nat},w1.heap.size<B->Own w20 B 3 di v xs->Own w21 B 3 di v xs:=fun hB h=>h.keptN hg21 (fun g n e=>by cases e;have:=(h.lt _ n).1;omega)
 have hod:=m6 (by have:=D.size;omega) hod;have t:=m6 SM t;have y:=m6 SM y;refine Tk ?_;exact bu rfl rfl rfl m rfl ⟨_,_,_,rfl,hod.low (QK _),t.low (QK _),y.low (QK _),hE20.grown hg21 hE20.size (fun g n=>by cases n;exact hs1)⟩
section
variable {p:cR}{ml:List (List Int)}{nl:List (List cN)}
end
abbrev I5:ar:=[109,97,114,107,105,110,103,115,32]
abbrev I0:ar:=[32,101,100,103,101,115,32]
abbrev I8:ar:=[115,111,117,110,100]
abbrev IZ:ar:=[100,101,97,100]
abbrev I9:ar:=[115,116,105,108,108]
abbrev I6:ar:=[110,101,118,101,114]
abbrev I1:ar:=[32,101,114,114,111,114,32]
abbrev I3:ar:=[32,104,111,108,100,115]
abbrev IX:ar:=[32,98,114,111,107,101,110]
def H3(p:cR)(n:Int):ar:=32::(p.1.getD n.toNat (⟨#[]⟩,0)).1.data.toList
def LZ(p:cR)(wd:ar)(l:List Int):ar:=wd++l.flatMap (H3 p)
noncomputable def Cc(p:cR)(l:List Int):List Int:=l.map fun k=>((Is p).1.getD k.toNat (0,0,0)).1
noncomputable def qS(p:cR)(f:LFinding):List ar:=if f.dead.length=0/\f.still<0/\f.never<0 then [LZ p I8 []]else []
noncomputable def qT(p:cR)(f:LFinding):List ar:=if 0<f.dead.length then [LZ p IZ f.dead]else []
noncomputable def qU(p:cR)(f:LFinding):List ar:=if 0<=f.still then [LZ p I9 (Cc p f.toStill)]else []
noncomputable def qV(p:cR)(f:LFinding):List ar:=if 0<=f.never then [LZ p I6 (Cc p f.toNever)]else []
noncomputable def qW(p:cR)(f:LFinding):List ar:=qS p f++qT p f++qU p f++qV p f
def uq(m e:Int):ar:=I5++Lib.itoa m++I0++Lib.itoa e
def Bx(s:ByteArray):ar:=if Bz s=true then s.data.toList else [63]
def Jz(h:Bool)(e x:Int):ar:=if e≠0 then I1++Lib.itoa x else if h=true then I3 else IX
def eC(p:cR)(r:cS)(tok st:Int)(v:ar):Prop:=∃h s l e x,JdgR p r tok st h s l e/\v=Bx r.1++Jz h e x
def KQ(l:List ar):ar:=l.flatMap fun x=>x++[10]
def ox(nl:List (List cN)):Nat:=(nl.map List.length).sum
noncomputable def um(p:cR)(tok st:Int):ar:=uq ((pS p tok st).1.1.length:Nat) (ox (pS p tok st).1.2:Nat)
def ew(p:cR)(rs:List cS)(tok st:Int)(T:ar):Prop:=
 ∃(vs:List ar),vs.length=rs.length/\(∀i (h:i<rs.length),eC p rs[i] tok st (vs.getD i []))/\T=KQ (um p tok st::qW p (AH p tok st).1++vs)
def KU:∀{l:List ar},l≠[]->KQ l=y0 10 l++[10]
 |[],h=>absurd rfl h
 |[x],_=>by simp[KQ,y0]
 |x::y::r,_=>by
  have a:=KU (l:=y::r) SQ;have e:KQ (x::y::r)=x++[10]++KQ (y::r):=by simp[KQ]
  rw[e,a];simp[y0]
def Ic:∀(l:List ar),l≠[]->(∀w∈l,(10:UInt8)∉w)->H9 10 (y0 10 l)=l
 |[],h,_=>absurd rfl h
 |[x],_,h=>by simp only[y0];exact Ib (h x SQ)
 |x::y::r,_,h=>by
  simp only[y0];rw[H_ (h x SQ),Ic (y::r) SQ (fun w a=>h w (by simp[a]))]
def tz{l:ar}(h:l≠[]):l.getLast?=some (l.getLast h):=by
 cases l with
 |nil=>exact absurd rfl h
 |cons a r=>rfl
def IS(a p:ar):Lib.hasSuffix (a++p) p=true:=by
 unfold Lib.hasSuffix;rw[OS];exact List.suffix_append a p
def IT{l p:ar}(h:∀c,p.getLast?=some c->l.getLast?≠some c)(b:p≠[]):Lib.hasSuffix l p=false:=by
 rw[M1];intro a
 unfold Lib.hasSuffix at a
 rw[OS]at a
 obtain⟨t,rfl⟩:=a;refine h (p.getLast b) (tz b) ?_;rw[OM,tz b];rfl
def J9{l:List ar}(h:l≠[]):Lib.trimSuffix (KQ l) [10]=y0 10 l:=by
 rw[KU h];unfold Lib.trimSuffix;rw[Sj (IS _ _)];simp
def ny:∀(u:Nat),∀c∈Lib.decDigits u,48<=c.toNat/\c.toNat<=57:=by
 intro u
 induction u using Nat.strongRecOn with
 |_ u b=>
  intro c a
  rw[Lib.decDigits]at a
  split at a
  ·rename_i h
   rw[Py]at a
   subst a;rw[RR (by show 48+u<256;omega)];omega
  ·rename_i h
   rcases Ph.1 a with a|a
   ·exact b (u / 10) SM c a
   ·rw[Py]at a
    subst a;rw[RR (by show 48+u % 10<256;omega)];omega
def nz(u:Nat):Lib.decDigits u≠[]:=by
 rw[Lib.decDigits];split<;>simp
def yM{c:UInt8}(h:c∈Lib.itoa x):c=45\/(48<=c.toNat/\c.toNat<=57):=by
 unfold Lib.itoa at h
 split at h
 ·rcases Pk.1 h with h|h
  ·exact .inl h
  ·exact .inr (ny _ _ h)
 ·exact .inr (ny _ _ h)
def yN:(10:UInt8)∉Lib.itoa x:=fun h=>by
 rcases yM h with h|⟨h,_⟩
 ·exact absurd h SP
 ·exact absurd h SP
def yK{a:ar}{c:UInt8}(h:(a++Lib.itoa x).getLast?=some c):c.toNat<=57:=by
 have hn:Lib.itoa x≠[]:=by
  unfold Lib.itoa;split
  ·simp
  ·exact nz _
 rw[OM,tz hn]at h
 have h:(Lib.itoa x).getLast hn=c:=by simpa using h
 rcases yM (h▸ON hn)with rfl|h
 ·decide
 ·exact h.2
def JB{h:Bool}{e:Int}{a:ar}:Lib.hasSuffix (a++Jz h e x) I3=(decide (e=0)&&h):=by
 unfold Jz;by_cases b:e=0
 ·rw[Si (by simp[b])]
  cases h with
  |true=>rw[Sj rfl,IS];simp[b]
  |false=>
   rw[Si SQ,M0];exact IT (fun c d=>by rw[OM];cases d;simp) SQ
 ·rw[Sj b]
  simp only[b,Sb,M3];refine IT (fun c d f=>?_) SQ;rw[<-NF]at f
  have:=yK f;cases d
  exact absurd this SP
def JA{h:Bool}{e:Int}{a:ar}:Lib.hasSuffix (a++Jz h e x) IX=(decide (e=0)&&!h):=by
 unfold Jz;by_cases b:e=0
 ·rw[Si (by simp[b])]
  cases h with
  |false=>rw[Si SQ,IS];simp[b]
  |true=>
   rw[Sj rfl,M9,M0];exact IT (fun c d=>by rw[OM];cases d;simp) SQ
 ·rw[Sj b]
  simp only[b,Sb,M3];refine IT (fun c d f=>?_) SQ;rw[<-NF]at f
  have:=yK f;cases d
  exact absurd this SP
def yT{p:cR}{r:cS}{tok st:Int}{h d:Bool}{s l k:List Int}{e:Int}(a:JdgR p r tok st h s l e)(b:JdgR p r tok st d m k x)(n:e=0):x=0/\h=d:=by
 subst n;obtain⟨h1,h2⟩:=a.pre rfl;by_cases h4:r.2.1=4
 ·have c:=b.goodC h1 h2 h4
  subst c;refine⟨rfl,?_⟩;rw[M2,(a.ctl rfl h4).2.2,(b.ctl rfl h4).2.2]
 ·obtain⟨j,_,_,i,g,_⟩:=a.ltl rfl h4
  have c:=b.good h1 h2 h4 j i;subst c;obtain⟨_,_,_,_,f,_⟩:=b.ltl rfl h4;refine⟨rfl,?_⟩;rw[M2,g,f]
def Ld{p:cR}{r:cS}{tok st:Int}{v:ar}(f:eC p r tok st v){h:Bool}{s l:List Int}{e:Int}(c:JdgR p r tok st h s l e):
  Lib.hasSuffix v I3=(decide (e=0)&&h)/\Lib.hasSuffix v IX=(decide (e=0)&&!h):=by
 obtain⟨d,i,j,g,x,a,rfl⟩:=f;rw[JB,JA];by_cases b:e=0
 ·obtain⟨rfl,rfl⟩:=yT c a b
  simp[b]
 ·have:g≠0:=fun d=>b (yT a c d).1
  simp[b,this]
def JN{s:ByteArray}(h:Bz s=true):(10:UInt8)∉s.data.toList/\s.data.toList.length<=8:=by
 unfold Bz BA at h
 simp only[MZ,M7,R8]at h
 obtain⟨⟨⟨⟨⟨_,c⟩,_⟩,_⟩,_⟩,b⟩:=h;refine⟨fun a=>?_,by omega⟩;have:=NB.1 b _ a;exact absurd this SP
def By(s:ByteArray):(10:UInt8)∉Bx s/\(Bx s).length<=8:=by
 unfold Bx;split
 ·rename_i h;exact JN h
 ·exact⟨by decide,by decide⟩
def JC{h:Bool}{e:Int}:(10:UInt8)∉Jz h e x:=by
 unfold Jz;split
 ·intro a
  rcases Ph.1 a with a|a
  ·exact absurd a SP
  ·exact yN a
 ·split<;>decide
def Le{p:cR}{r:cS}{tok st:Int}{v:ar}(b:eC p r tok st v):(10:UInt8)∉v:=by
 obtain⟨h,s,l,e,x,_,rfl⟩:=b;intro a
 rcases Ph.1 a with a|a
 ·exact(By _).1 a
 ·exact JC a
def B4{p:cR}(h:OkPr p){i:Nat}(hi:i<p.1.length):Bz (p.1.getD i (⟨#[]⟩,0)).1=true:=by
 have:=h.nodes i hi;unfold B1 at this
 split at this
 ·cases this
 ·rename_i hn
  simp only[Na,M7,So,Bool.not_eq_false]at hn
  exact hn.1.1
def H4{p:cR}(h:OkPr p)(n:Int):(10:UInt8)∉H3 p n/\(H3 p n).length<=9:=by
 unfold H3;by_cases hi:n.toNat<p.1.length
 ·have:=JN (B4 h hi)
  refine⟨fun a=>?_,by simpa using this.2⟩;rcases Pk.1 a with a|a
  ·exact absurd a SP
  ·exact this.1 a
 ·rw[Oi,Oo SM]
  exact⟨by decide,by decide⟩
def L2{p:cR}(h:OkPr p){wd:ar}(b:(10:UInt8)∉wd)(l:List Int):(10:UInt8)∉LZ p wd l:=by
 unfold LZ;intro a
 rcases Ph.1 a with a|a
 ·exact b a
 ·obtain⟨n,_,hn⟩:=Pp.1 a
  exact(H4 h n).1 hn
def L0{p:cR}(h:OkPr p)(wd:ar):∀(l:List Int),(LZ p wd l).length<=wd.length+9*l.length:=by
 intro l
 unfold LZ
 induction l with
 |nil=>simp
 |cons n l a=>
  simp only[Od,OT,OU]at a⊢
  have:=(H4 h n).2;omega
def JK{p:cR}(h:OkPr p)(f:LFinding):∀x∈qW p f,(10:UInt8)∉x:=by
 intro x a
 unfold qW qS qT qU qV at a
 rcases Ph.1 a with a|a
 ·rcases Ph.1 a with a|a
  ·rcases Ph.1 a with a|a
   ·split at a
    ·rw[Py.1 a];exact L2 h SP _
    ·cases a
   ·split at a
    ·rw[Py.1 a];exact L2 h SP _
    ·cases a
  ·split at a
   ·rw[Py.1 a];exact L2 h SP _
   ·cases a
 ·split at a
  ·rw[Py.1 a];exact L2 h SP _
  ·cases a
def rh{p:cR}(f:LFinding):1<=(qW p f).length:=by
 unfold qW qS qT qU qV;by_cases h1:0<f.dead.length
 ·rw[Sj h1];simp;omega
 by_cases h2:0<=f.still
 ·rw[Sj h2];simp;omega
 by_cases h3:0<=f.never
 ·rw[Sj h3];simp;omega
 rw[Sj ⟨by omega,by omega,by omega⟩];simp
def ur(m e:Int):(10:UInt8)∉uq m e:=by
 unfold uq;intro a
 rcases Ph.1 a with a|a
 ·rcases Ph.1 a with a|a
  ·rcases Ph.1 a with a|a
   ·exact absurd a SP
   ·exact yN a
  ·exact absurd a SP
 ·exact yN a
def Jy{p:cR}{rs:List cS}{tok st:Int}{T:ar}(d:OkPr p)(h:ew p rs tok st T):
  2+rs.length<=(H9 10 (Lib.trimSuffix T [10])).length/\Lib.hasPrefix ((H9 10 (Lib.trimSuffix T [10])).getD 0 []) I5=true/\
  ∀i (h:i<rs.length),eC p rs[i] tok st ((H9 10 (Lib.trimSuffix T [10])).getD ((H9 10 (Lib.trimSuffix T [10])).length -rs.length+i) []):=by
 obtain⟨vs,f,c,rfl⟩:=h;have b:um p tok st::qW p (AH p tok st).1++vs≠[]:=by simp
 rw[J9 b,Ic _ b (fun x a=>?_)]
 ·have h1:=rh (p:=p) (AH p tok st).1
  refine⟨by simp;omega,?_,fun i hi=>?_⟩
  ·show Lib.hasPrefix (um p tok st) I5=true
   unfold um uq Lib.hasPrefix;rw[List.isPrefixOf_iff_prefix,NF,NF];exact List.prefix_append _ _
  ·have e:(um p tok st::qW p (AH p tok st).1++vs).length -rs.length+i=(um p tok st::qW p (AH p tok st).1).length+i:=by
    rw[OT];omega
   rw[e,Oi,Ok SM,<-Oi,show(um p tok st::qW p (AH p tok st).1).length+i -(um p tok st::qW p (AH p tok st).1).length=i by omega];exact c i hi
 ·rcases Ph.1 a with a|a
  ·rcases Pk.1 a with rfl|a
   ·exact ur _ _
   ·exact JK d _ _ a
  ·obtain⟨i,hi,rfl⟩:=List.getElem_of_mem a
   have:=c i SM;rw[Oi,On hi]at this
   exact Le this
def nu{p:cR}{nl:List (List cN)}:∀x∈deadL p nl,0<=x/\x<p.1.length:=by
 intro x a
 unfold deadL nq at a
 obtain⟨n,hn,rfl⟩:=Pr.1 a;have:=Px.1 (Po.1 hn).1;omega
def gZ{p:cR}{nl:List (List cN)}{ms:List Int}{N:Nat}(h:∀r∈nl,∀x∈r,0<=x.1/\x.1<(N:Int)):∀x∈gS nl ms,0<=x/\x<(N:Int):=by
 intro x b
 unfold gS gT at b
 obtain⟨i,_,hi⟩:=Pp.1 b;unfold gX at hi
 cases hf:(nl.getD (ms.getD i 0).toNat []).find? (fun x=>x.2==ms.getD (i+1) 0)with
 |none=>rw[hf]at hi;cases hi
 |some y=>
  rw[hf]at hi
  rw[Py.1 hi];have a:=List.mem_of_find?_eq_some hf;by_cases c:(ms.getD i 0).toNat<nl.length
  ·rw[Oi,On c]at a
   exact h _ (OG c) _ a
  ·rw[Oi,Oo SM]at a
   cases a
def ru{nl:List (List cN)}{is:List Bool}{N:Nat}(h:∀r∈nl,∀x∈r,0<=x.1/\x.1<(N:Int)):(∀x∈(rt nl is).2,0<=x/\x<(N:Int))/\(rt nl is).2.length<=nl.length:=by
 unfold rt;split
 ·exact⟨(fun x a=>by cases a),QK _⟩
 ·refine⟨gZ (p:=([],[])) h,?_⟩
  have b:(IV nl (idxOf (fun y=>true==y) is).toNat).length<=nl.length+1:=by
   have:=Ls (g:=tO nl) (f:=[0]) (to:=CX nl.length (idxOf (fun y=>true==y) is).toNat);rwa[tP]at this
  have:=gU (nl:=nl) (ms:=IV nl (idxOf (fun y=>true==y) is).toNat) ((IV nl (idxOf (fun y=>true==y) is).toNat).length -1);show(gT _ _ _).length<=_;omega
structure LookB(p:cR)(f:LFinding):Prop where
 dead:∀x∈f.dead,0<=x/\x<p.1.length
 deadL:f.dead.length<=20
 still:∀x∈f.toStill,0<=x/\x<(Is p).1.length
 stillL:f.toStill.length<=200
 never:∀x∈f.toNever,0<=x/\x<(Is p).1.length
 neverL:f.toNever.length<=200
def AJ{p:cR}{tok st:Int}(h:(pS p tok st).2=0):LookB p (AH p tok st).1:=by
 obtain⟨i,b,c,l,_,_,g⟩:=pU h;obtain⟨m,d,f⟩:=It i;have hn:=(kY m).n;have e:=H6 c;unfold AH;rw[Si (by rw[h];simp)];dsimp only[ri];have h1:=ru (nl:=(pS p tok st).1.2) (is:=IH (pS p tok st).1.1 (pS p tok st).1.2) e;have h2:=ru (nl:=(pS p tok st).1.2) (is:=BI (pS p tok st).1.1 (pS p tok st).1.2) e;have h3:=nr (p:=p) (nl:=(pS p tok st).1.2) (k:=p.1.length);have a:(Is p).1=Iz p:=by rw[d]
 have j:=b.st;exact⟨nu,by show(nq p _ p.1.length).length<=20;omega,by rw[a];exact h1.1,by show(rt _ _).2.length<=200;omega,by rw[a];exact h2.1,by show(rt _ _).2.length<=200;omega⟩
def smE(e:Int):Prop:=0<=e/\e<=99
def smE.z:smE 0:=⟨by decide,by decide⟩
def smE.n(k:Nat)(h:Nat.ble k 99=true):smE (k:Int):=by
 have:=Qg h;unfold smE;omega
mutual
theorem kL:∀(t:Ltl) (d c:Int),smE (kD t d c).1
 |.mk k n kids,d,c=>by
  simp only[kD];split
  ·exact smE.n 2 rfl
  split
  ·exact smE.n 5 rfl
  split
  ·exact smE.n 1 rfl
  exact kH kids _ _
theorem kH:∀(l:List Ltl) (d c:Int),smE (kE l d c).1
 |[],d,c=>by simp only[kE];exact smE.z
 |x::r,d,c=>by
  simp only[kE];split
  ·exact kL x d c
  ·exact kH r _ _
end
mutual
theorem kA:∀(t:Ltl) (d c:Int),smE (kh t d c).1
 |.mk k n kids,d,c=>by
  simp only[kh];split
  ·exact smE.n 2 rfl
  split
  ·exact smE.n 5 rfl
  split
  ·exact smE.n 1 rfl
  exact kt kids _ _
theorem kt:∀(l:List Ltl) (d c:Int),smE (kj l d c).1
 |[],d,c=>by simp only[kj];exact smE.z
 |x::r,d,c=>by
  simp only[kj];split
  ·exact kA x d c
  ·exact kt r _ _
end
def kW(x:cQ):smE (kU x):=by
 unfold kU
 repeat' split
 all_goals first|exact smE.z|exact smE.n 1 rfl|exact smE.n 2 rfl|exact smE.n 4 rfl
def lk(x:cW):smE (lh x):=by
 unfold lh
 repeat' split
 all_goals first|exact smE.z|exact smE.n 1 rfl|exact smE.n 2 rfl|exact smE.n 4 rfl
def k_(r:cS)(a:List ByteArray):smE (k8 r a):=by
 have b:smE (DE r a):=by
  unfold DE;split
  ·exact kW _
  split
  ·exact lk _
  split
  ·unfold Ep
   repeat' split
   ·exact kL _ _ _
   ·first|exact smE.n 1 rfl|exact smE.n 2 rfl|exact smE.n 4 rfl
   ·exact smE.z
  split
  ·unfold Eo
   repeat' split
   ·exact kA _ _ _
   ·first|exact smE.n 1 rfl|exact smE.n 2 rfl|exact smE.n 4 rfl
   ·exact smE.z
  ·exact smE.z
 have h1:smE (DD r a):=by
  unfold DD;split
  ·first|exact smE.n 1 rfl|exact smE.n 2 rfl|exact smE.n 4 rfl
  ·exact b
 unfold k8;split
 ·first|exact smE.n 1 rfl|exact smE.n 2 rfl|exact smE.n 4 rfl
 split
 ·exact h1
 split
 ·first|exact smE.n 1 rfl|exact smE.n 2 rfl|exact smE.n 4 rfl
 ·exact smE.z
def rR(r:cS):smE (rP r).2:=by
 unfold rP;split
 ·unfold nL
  split
  ·exact kW _
  split
  ·exact kL _ _ _
  ·exact smE.z
 split
 ·unfold mR
  split
  ·exact lk _
  split
  ·exact kL _ _ _
  ·exact smE.z
 split
 ·split
  ·exact kL _ _ _
  ·exact smE.z
 ·first|exact smE.n 1 rfl|exact smE.n 2 rfl|exact smE.n 4 rfl
def AZ(t:Ltl):smE (AW t).2:=by
 unfold AW;split
 ·unfold DZ
  split
  ·exact kL _ _ _
  ·unfold J1
   repeat' split
   all_goals first|exact kL _ _ _|exact smE.z|first|exact smE.n 1 rfl|exact smE.n 2 rfl|exact smE.n 4 rfl
 split
 ·first|exact smE.n 1 rfl|exact smE.n 2 rfl|exact smE.n 4 rfl
 ·exact smE.z
def yU{p:cR}{r:cS}{tok st:Int}(h:(pS p tok st).2=0){b:Bool}{s l:List Int}{e:Int}(c:JdgR p r tok st b s l e):smE e:=by
 by_cases a:e=0
 ·rw[a];exact smE.z
 rw[c.err a];unfold yR;split
 ·unfold Gw
  rw[Si (by rw[h];simp)];split
  ·first|exact smE.n 1 rfl|exact smE.n 2 rfl|exact smE.n 4 rfl
  ·exact smE.z
 split
 ·exact k_ _ _
 split
 ·exact smE.z
 split
 ·exact rR _
 ·exact AZ _
open Go.Shelf
def AI:List (Nat×Nat)->Nat->Nat
 |[],_=>0
 |(a,b)::r,x=>match Nat.beq a x with|true=>b|false=>AI r x
def Hi:List (Nat×Nat):=
 (138,81)::
 (143,82)::
 (145,83)::
 (146,15)::
 (166,77)::
 (169,40)::
 (195,146)::
 (197,147)::
 (217,222)::
 (218,148)::
 (219,149)::
 (220,150)::
 (221,41)::
 (224,224)::
 (225,223)::
 (240,144)::
 (260,221)::
 (266,269)::
 (267,225)::
 (268,80)::
 (276,216)::
 (314,270)::
 []
def Hw:List (Nat×Nat):=
 (0,0)::
 (3,3)::
 (4,4)::
 (5,5)::
 (9,9)::
 (20,20)::
 (21,21)::
 (31,66)::
 (37,110)::
 (46,275)::
 (51,315)::
 (59,182)::
 (70,109)::
 (72,112)::
 (75,171)::
 (76,172)::
 (80,121)::
 (105,246)::
 (119,325)::
 (127,175)::
 (138,327)::
 (139,328)::
 (146,329)::
 (164,288)::
 []
def Hk:List (Nat×Nat):=
 (1,0)::
 (3,2)::
 (4,3)::
 []
def shR:Ren:=⟨fun x=>AI Hi x,fun x=>AI Hw x,fun x=>AI Hk x⟩
set_option maxRecDepth 100000 in
def Hp:Lays.n146 UA shR where
 mixed:=by kernel_rfl
 f138:=(Tryz.func81).trans (R5 some SN)
 f143:=(Tryz.func82).trans (R5 some SN)
 f146:=(Tryz.func15).trans (R5 some SN)
 f195:=(Tryz.func146).trans (R5 some SN)
 f197:=(Tryz.func147).trans (R5 some SN)
 f217:=(Tryz.func222).trans (R5 some SN)
 f218:=(Tryz.func148).trans (R5 some SN)
 f219:=(Tryz.func149).trans (R5 some SN)
 f221:=(Tryz.func41).trans (R5 some SN)
 f224:=(Tryz.func224).trans (R5 some SN)
 f225:=(Tryz.func223).trans (R5 some SN)
 f260:=(Tryz.func221).trans (R5 some SN)
 f266:=(Tryz.func269).trans (R5 some SN)
 f267:=(Tryz.func225).trans (R5 some SN)
 f268:=(Tryz.func80).trans (R5 some SN)
 f314:=(Tryz.func270).trans (R5 some SN)
 t0:=by kernel_rfl
 a0:=fun w=>rfl
 z0:=fun w=>rfl
 v0:=fun w=>rfl
 t3:=Rw
 a3:=Q8
 z3:=Rg
 v3:=RM
 t4:=RC
 a4:=Q9
 z4:=Ri
 v4:=RO
 t5:=RD
 a5:=Q_
 z5:=Rj
 v5:=RP
 t9:=RI
 a9:=Ra
 z9:=Rk
 v9:=RQ
 t21:=Tryz.underlying21
 a21:=Tryz.isAgg21
 z21:=Tryz.sizeOf21
 v21:=Tryz.zeroValue21
 t31:=RF
 a31:=Tryz.isAgg66
 z31:=Tryz.sizeOf66
 v31:=Tryz.zeroValue66
 t46:=Ru
 a46:=Tryz.isAgg275
 z46:=Rf
 v46:=RK
 t51:=Ry
 a51:=Tryz.isAgg315
 z51:=Rh
 v51:=RN
 t105:=Tryz.underlying246
 a105:=Tryz.isAgg246
 z105:=Tryz.sizeOf246
 v105:=Tryz.zeroValue246
 t119:=Tryz.underlying325
 a119:=Tryz.isAgg325
 z119:=Tryz.sizeOf325
 t138:=Tryz.underlying327
 a138:=Tryz.isAgg327
 z138:=Tryz.sizeOf327
 v138:=Tryz.zeroValue327
 t139:=Tryz.underlying328
 a139:=Tryz.isAgg328
 z139:=Tryz.sizeOf328
 v139:=Tryz.zeroValue328
 t146:=Tryz.underlying329
 a146:=Tryz.isAgg329
 z146:=Tryz.sizeOf329
 v146:=Tryz.zeroValue329
 g1:=by kernel_rfl
 g3:=by kernel_rfl
 g4:=by kernel_rfl
set_option maxRecDepth 100000 in
def Hq:Lays.n166 UA shR where
 mixed:=by kernel_rfl
 f166:=(Tryz.func77).trans (R5 some SN)
 f240:=(Tryz.func144).trans (R5 some SN)
 f276:=(Tryz.func216).trans (R5 some SN)
 t0:=by kernel_rfl
 a0:=fun w=>rfl
 z0:=fun w=>rfl
 v0:=fun w=>rfl
 t3:=Rw
 a3:=Q8
 z3:=Rg
 v3:=RM
 t4:=RC
 a4:=Q9
 z4:=Ri
 v4:=RO
 t9:=RI
 a9:=Ra
 z9:=Rk
 v9:=RQ
 t20:=Tryz.underlying20
 a20:=Tryz.isAgg20
 z20:=Tryz.sizeOf20
 v20:=Tryz.zeroValue20
 t37:=Rl
 a37:=Tryz.isAgg110
 z37:=Re
 v37:=RJ
 t70:=Tryz.underlying109
 a70:=Tryz.isAgg109
 z70:=Tryz.sizeOf109
 v70:=Tryz.zeroValue109
 t72:=Tryz.underlying112
 a72:=Tryz.isAgg112
 z72:=Tryz.sizeOf112
 v72:=Tryz.zeroValue112
 t75:=Tryz.underlying171
 a75:=Tryz.isAgg171
 z75:=Tryz.sizeOf171
 v75:=Tryz.zeroValue171
 t164:=Tryz.underlying288
 a164:=Tryz.isAgg288
 z164:=Tryz.sizeOf288
 v164:=Tryz.zeroValue288
set_option maxRecDepth 100000 in
def Hr:Lays.n169 UA shR where
 mixed:=by kernel_rfl
 f169:=(Tryz.func40).trans (R5 some SN)
 t0:=by kernel_rfl
 a0:=fun w=>rfl
 z0:=fun w=>rfl
 v0:=fun w=>rfl
 t3:=Rw
 a3:=Q8
 z3:=Rg
 v3:=RM
 t9:=RI
 a9:=Ra
 z9:=Rk
 v9:=RQ
 t37:=Rl
 a37:=Tryz.isAgg110
 z37:=Re
 v37:=RJ
 t70:=Tryz.underlying109
 a70:=Tryz.isAgg109
 z70:=Tryz.sizeOf109
 v70:=Tryz.zeroValue109
 t72:=Tryz.underlying112
 a72:=Tryz.isAgg112
 z72:=Tryz.sizeOf112
 v72:=Tryz.zeroValue112
 t127:=Tryz.underlying175
 a127:=Tryz.isAgg175
 z127:=Tryz.sizeOf175
 v127:=Tryz.zeroValue175
def Hz:Builder.Extra UA shR where
 sizeBuilder:=by kernel_rfl
 liesBuilder:=by kernel_rfl
 t5:=RD
 a5:=Q_
 z5:=Rj
 v5:=RP
 infoByte:=by kernel_rfl
 cellsByte:=by kernel_rfl
 sizeByte:=by kernel_rfl
 neB5:=Sq SN
def Hm:(Tryz.prog.info? (shR.t 9)).map (fun i=>(i.zero,i.size,i.bytes))=some (some (.string ByteArray.empty),1,16):=by kernel_rfl
def MaxH(w:World):Prop:=∃m,w.cell? ⟨0,0,none⟩=some (.int .i64 m)
def Be(h:w.ShapedOpen UA):MaxH w:=
 Go.Proofs.cell_of_shapedOpen_int (zero:=#[Te 0]) (t:=3) h (Sq SN) SN rfl SN SN Rw
def ym(c:UInt8):∀l:ar,(c∉l/\Lib.index l [c]= -1)\/∃a b,l=a++c::b/\c∉a/\Lib.index l [c]=(a.length:Int)
 |[]=>.inl ⟨by simp,by simp[Lib.index]⟩
 |d::l=>by
  by_cases h:d=c
  ·subst h
   exact .inr ⟨[],l,rfl,by simp,by simp[Lib.index,List.isPrefixOf]⟩
  ·have f:List.isPrefixOf [c] (d::l)=false:=by
    have:(c==d)=false:=by simpa using fun e:c=d=>h e.symm
    simp[List.isPrefixOf,this]
   rcases ym c l with⟨h1,h2⟩|⟨a,b,rfl,h1,h2⟩
   ·refine .inl ⟨by simp[h1,QN h],?_⟩
    unfold Lib.index;rw[f,h2];rfl
   ·refine .inr ⟨d::a,b,rfl,by simp[h1,QN h],?_⟩
    unfold Lib.index;have hn:((a.length:Int)== -1)=false:=by
     rw[RY];omega
    rw[f,h2,hn];simp
def H8(c:UInt8):∀(n:Nat) (s:ar),s.length<=n->∀k,Lib.count s [c]<=k->Lib.splitK [c] 0 k s=H9 c s:=by
 intro n
 induction n with
 |zero=>
  intro s d k g
  have:s=[]:=OY.1 SM;subst this;cases k with
  |zero=>rfl
  |succ k=>simp[Lib.splitK,Lib.index,H9]
 |succ n f=>
  intro s d k g
  rcases ym c s with⟨h1,h2⟩|⟨a,b,rfl,h1,h2⟩
  ·rw[Ib h1]
   cases k with
   |zero=>rfl
   |succ k=>unfold Lib.splitK;rw[h2];rfl
  ·have h:=Lib.count_hit (sub:=[c]) SQ h2
   have hd:(a++c::b).drop (a.length+[c].length)=b:=by simp
   rw[hd]at h
   rw[H_ h1];cases k with
   |zero=>omega
   |succ k=>
    unfold Lib.splitK;have hn:((a.length:Int)== -1)=false:=by
     rw[RY];omega
    rw[h2,hn];simp only[Nt,M4,Sh];rw[hd,f b (by simp at d;omega) k SM];simp
section
variable {α β:Type}[Rep α][Rep β]{w w':World}{B B':Nat}{e e':TypeId}{F F':Nat->Prop}{v v':Value}{xs:List α}{ys:List β}
end
def MaxH.ext{w':World}(h:MaxH w)(c:Ext w w'):MaxH w':=by
 obtain⟨m,b⟩:=h;refine⟨m,?_⟩;have a:0<w.heap.size:=by
  apply Nh;intro hn
  simp[World.cell?,MF (Qi hn)]at b
 rw[c.cell (p:=⟨0,0,none⟩) a];exact b
end Go.Proofs.YtfpjecjadlgdcaaGreatDoor
