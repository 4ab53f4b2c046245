import Derived.Test.YtfpjecjadlgdcaaGreatDoorPtReportTells4
set_option linter.unusedVariables false
set_option linter.unusedSimpArgs false
set_option linter.defProp false
namespace Go.Proofs.YtfpjecjadlgdcaaGreatDoor
set_option maxHeartbeats 4000000
variable{P:Program}{α:Type}{B a K E:Nat}{C D:Option Addr}{m:List Int}{F:Nat→Prop}{w:World}{v o:Value}{g:List (List Int)}{x:Int}{l:List Bool}{r:List Value}{t:TypeId}{Q:Exit→Act→World→Prop}{e:Nat→Nat→Prop}{p:Nat→Nat}{s:List Nat}{L:List Oper}{c:Value→World→Prop}{y:Array Bool}{S:World→Prop}{b:Value→(Nat→Nat)→World→Prop}{j:Array Edge}{u:List (Nat×Bool)}{I:Func}
open Go.RowKit
def Ft{u s:Nat}(h:I.results=#[.cell a t,.tmp u,.tmp s])(tmps:Array Value)(P:Program)(w:World){p:Addr}(b:tmps.getD a undef=.pointer (some p))(c:(loadVar t p).run P w=.ok v w):
  (results I tmps).run P w=.ok (.tuple ⟨[v,tmps.getD u undef,tmps.getD s undef]⟩) w:=by
 simp only[MC]at b⊢
 simp[results,h,b,asAddr,c]
def bA{n:Nat}{σ:Sg}{b u s:Nat}{e:TypeId}{k:Nat}{x y:Value}(p:I.results=#[.cell a t,.tmp u,.tmp s])(A:fnd σ a=some (Tg b))(l:fnd σ u=some x)(o:fnd σ s=some y)[q:IsC P t k true](z:Blk w b e r)(m:Aq r=k)(h:c (.tuple ⟨[.agg r.toArray,x,y]⟩) w):
  EX (bodyPost P I fun e w'=>∃v,e=.returned v/\c v w') .ret n σ w:=by
 unfold EX;intro ac d
 refine R3 (Ft p _ _ _ (d.slot a _ A) (v:=.agg r.toArray) ?_) d.defers ⟨_,by rw[d.slot u x l,d.slot s y o],h⟩;rw[Ar]at m
 have f:=Su (P:=P) w ⟨b,0,none⟩ r (fun j u l=>by rw[RT,QJ];exact z.cell l);obtain⟨i,dd,h1,h2,h3,h4⟩:=q.ok;have g:(isAgg t).run P w=.ok true w:=by
  unfold isAgg;rw[Q4,Sy h3 w,<-h4];cases dd<;>rfl
 rw[m]at f
 simp[loadVar,g,sizeOf,typeInfo,h1,h2,f]
def bV(W:cY)(A:cM)(s l:List Int)(is:Bool)(err:Int):Prop:=
 (err≠0/\is=false/\s=[]/\l=[]/\(kB W=0->ke A=0->False))\/(err=0/\kB W=0/\ke A=0/\((is=false/\s=[]/\l=[]/\¬aR W A)\/(is=true/\aR W A/\PathE W A s l)))
def pY(sb mb:Nat)(lv nv:Value):Nat->Prop:=fun b=>b=sb\/b=mb\/lv.ownBlock=some b\/nv.ownBlock=some b
structure FndI(w8 w:World)(B:Nat)(e:EA)(sb mb:Nat)(lv nv fv:Value)(fr:List Int)(vs:List Raw)(ps:List dw)(nx:List (List Int)):Prop where
 em:Em w B e sb mb lv nv fv ps
 run:RunE (rz e.W e.A) (BL e.W e.A) (Ik e.W e.A) ps fr nx
 hn:Own w w8.heap.size 39 di nv vs
 inn:InnR w (pY sb mb lv nv) vs nx
 hf:∃fo fc,fv=.slice fo fr.length fc/\Sl w (Fz w (pY sb mb lv nv)) fo fc fr
 chg:Chg (fun b=>b=sb\/b=mb) w8 w
 lvn:∀g,lv.ownBlock=some g->w8.heap.size<=g
 dis:∀g,nv.ownBlock=some g->lv.ownBlock≠some g
 rows:∀r∈nx,r.length<=1099511627776
def qR(w:World)(b c:Nat){part:List Int}{p:Int}{k:Nat}(h:Blk w b 39 [.slice C part.length B])(e:Blk w c 3 [Te p])(d:Sl w (dl w) C B part)(a:k<part.length):
  Rt UA 127 [Te (k:Int),Tg b,Tg c].toArray w fun v w'=>v=.bool (decide (part.getD k 0=p))/\Ext w w':=by
 refine dW Tryz.func127 Tryz.ntmps127 rfl rfl ?_;refine Ud ?_;refine dA rfl rfl rfl rfl rfl S3 d a rfl SX (fun q=>?_);refine Um ?_;refine QL.nil (fun g f=>?_);refine TV ?_;refine bi rfl rfl ⟨?_,f⟩;rw[LR a];rfl
def re(w0:World){W:cY}{A:cM}{o3 o4:Option Addr}{c1 c2:Nat}(h1:Sl w0 (dl w0) C c1 W.1)(h2:Sl w0 (dl w0) D c2 W.2.1)(h3:Sl w0 (dl w0) o3 K W.2.2.1)(h4:Sl w0 (dl w0) o4 E W.2.2.2)(ha:AutoAt w0 (dl w0) o A)
  (sW:∀j,(W.2.1.getD j []).length<=1048576) (sA:∀j,(A.2.1.getD j []).length<=1048576) (tW:W.1.length<=1048576) (tA:A.1.length<=1048576):
  Rt UA 62 [L6 C c1 D c2 o3 K o4 E W.1.length W.2.1.length W.2.2.1.length W.2.2.2.length,o].toArray w0 fun v w'=>(∃s l is err so sc lo lc,v=.tuple ⟨[DO so sc lo lc s l,.bool is,Te err]⟩/\Sl w' (dl w') so sc s/\Sl w' (dl w') lo lc l/\bV W A s l is err)/\Ext w0 w':=by
 obtain⟨k1,d1,k2,d2,k3,d3,k4,d4,k5,d5,rfl,g1,g2,g3,g4,g5⟩:=ha.ok;refine dV Tryz.func62 Tryz.ntmps62 rfl rfl ?_;have H:=Ext.refl w0;refine T9 ?_;refine eJ fun w1 Q e1=>?_
 have H:=H.trans e1;refine eJ fun w2 V e2=>?_
 have Q:=Q.ext e2;have H:=H.trans e2;refine eF (fun w3 T e3=>?_);have Q:=Q.ext e3;have V:=V.ext e3;have H:=H.trans e3;have y1:=e1.size;have y2:=e2.size;have y3:=T.lt;have l2:=Q.lt;have l3:=V.lt;refine TN ?_;refine eN (Ll w3 (h1.up H) (h2.up H) h3.len63 (h4.up H)) ?_;rintro _ w4 ⟨rfl,e4⟩
 have Q:=Q.ext e4;have V:=V.ext e4;have T:=T.ext e4;have H:=H.trans e4;have y4:=e4.size;have nilS:=fun(w:World)=>Sl.zero (α:=Int) w (dl w)
 refine T2 ?_;apply CW.cond rfl<;>intro h
 ·have h:kB W≠0:=by simpa using h
  refine T9 ?_;refine WL.build (parts:=[]) rfl rfl rfl rfl ?_;refine Ue ?_;refine f_ T (fun w5 hb5 hg5=>?_);have hE5:Ext w0 w5:=H.grown hg5 H.size S2;refine T5 ?_;exact bA rfl rfl rfl rfl hb5 rfl ⟨⟨[],[],false,_,_,_,_,_,rfl,nilS _,nilS _,.inl ⟨h,rfl,rfl,rfl,fun h'=>absurd h' h⟩⟩,hE5⟩
 have hW:kB W=0:=by simpa using h
 clear h;refine Tq ?_;refine eN (gq w4 (A:=A) ⟨k1,d1,k2,d2,k3,d3,k4,d4,k5,d5,rfl,g1.up H,g2.up H,g3.up H,g4.up H,g5.up H⟩) ?_;rintro _ w5 ⟨rfl,e5⟩
 have Q:=Q.ext e5;have V:=V.ext e5;have T:=T.ext e5;have H:=H.trans e5;have y5:=e5.size;refine T2 ?_;apply CW.cond rfl<;>intro h
 ·have h:ke A≠0:=by simpa using h
  refine T9 ?_;refine WL.build (parts:=[]) rfl rfl rfl rfl ?_;refine Ue ?_;refine f_ T (fun w6 hb5 hg5=>?_);have hE5:Ext w0 w6:=H.grown hg5 H.size S2;refine T5 ?_;exact bA rfl rfl rfl rfl hb5 rfl ⟨⟨[],[],false,_,_,_,_,_,rfl,nilS _,nilS _,.inl ⟨h,rfl,rfl,rfl,fun _ h'=>absurd h' h⟩⟩,hE5⟩
 have hA:ke A=0:=by simpa using h
 clear h;have okA:=kg hA;obtain⟨w600,w80,wlb,wst,wnx,wfr⟩:=lr hW;refine Tq ?_;refine fP (k:=226) rfl rfl (fun hnum=>?_);have e6:Ext w5 (w5.alloc (.map #[] 0)):=Ext.alloc w5 _;generalize w5.alloc (.map #[] 0)=w6 at*
 refine eK ?_;refine eJ fun w7 hsb e7=>?_
 have lm:=hnum.lt;have Q:=(Q.ext e6).ext e7;have V:=(V.ext e6).ext e7;have T:=(T.ext e6).ext e7;have hnum:=hnum.ext e7;have hE7:=(H.trans e6).trans e7;have y6:=e6.size;have y7:=hsb.lt;obtain⟨e,heW,heA,hein,hecells⟩:∃e:EA,e.W=W/\e.A=A/\EIn w5 (dl w5) e/\∀mb lv nv fv,oq e mb lv nv fv=[.slice C W.1.length c1,.slice D W.2.1.length c2,.slice o3 W.2.2.1.length K,.slice o4 W.2.2.2.length E,.slice k1 A.1.length d1,.slice k2 A.2.1.length d2,.slice k3 A.2.2.1.length d3,.slice k4 A.2.2.2.1.length d4,.slice k5 A.2.2.2.2.length d5,.map (some mb),lv,nv,fv]:=
  ⟨⟨C,c1,D,c2,o3,K,o4,E,k1,d1,k2,d2,k3,d3,k4,d4,k5,d5,W,A⟩,rfl,rfl,⟨h1.up H,h2.up H,h3.up H,h4.up H,g1.up H,g2.up H,g3.up H,g4.up H,g5.up H⟩,fun _ _ _ _=>rfl⟩
 subst heW heA;have hEm7:Em w7 w5.heap.size e w6.heap.size w5.heap.size (.slice none 0 0) (.slice none 0 0) (.slice none 0 0) []:=
  ⟨by rw[hecells];exact hsb,hnum,Own.nil,hein.to (fun b t=>(e6.trans e7).block b t) (fun b h=>h),⟨y6,Qj _⟩,by omega,(fun g i=>by cases i),List.Pairwise.nil,(fun p hp=>by cases hp),⟨w600,okA.n,wlb,okA.mu,okA.no⟩⟩
 have hG1:=h1.up H;have hG2:=h2.up H;have hK1:=g1.up H;have hK2:=g2.up H;have lb4:=T.lt;clear hecells hein hsb hnum h1 h2 h3 h4 g1 g2 g3 g4 g5 ha;have e57:=e6.trans e7;clear e6 e7;have hb25:w0.heap.size<w5.heap.size/\w1.heap.size<w5.heap.size/\w2.heap.size<w5.heap.size:=by omega
 generalize hBn:w5.heap.size=B at*
 generalize hsbn:w6.heap.size=sb at*
 have hB7:B<=w7.heap.size:=by omega
 have N:∀b,b<B->w7.heap[b]?=w5.heap[b]?:=fun b t=>e57.block b SM
 refine TJ ?_;refine eN (mD w7 hEm7 hB7 (hG1.mono (w':=w7) (fun b t=>N b (by rw[<-hBn];exact t)) (fun b t=>by rw[<-hBn];exact t)) (hK1.mono (w':=w7) (fun b t=>N b (by rw[<-hBn];exact t)) (fun b t=>by rw[<-hBn];exact t)) wst okA.st tW tA) ?_;rintro fv w8 ⟨lv,d⟩
 obtain⟨fo,fc,rfl⟩:=d.own.val
 change CrI w7 w8 B e sb B (.slice none 0 0) lv (.slice fo (EI (rz e.W e.A) (Ik e.W e.A) [] []).2.length fc) (.slice none 0 0) (.slice none 0 0) (EI (rz e.W e.A) (Ik e.W e.A) [] []).1 (EI (rz e.W e.A) (Ik e.W e.A) [] []).2 at d
 have z8:=d.chg.size;have O:=d.em.blk;have hlt8:=fun g i=>d.em.lo.lt g i
 have hof8:=fun g i=>d.own.lt g i
 have hnl8:=d.em.nl;have hlv8:∀g,lv.ownBlock=some g->w7.heap.size<=g:=fun g i=>(d.new g i).resolve_left (fun h=>by cases h)
 have hC8:Chg (fun b=>b=sb\/b=B) w7 w8:=d.chg.wk (fun b h=>by
  rcases h with h|h|h
  ·exact .inl h
  ·exact .inr h
  ·cases h)
 refine Uk ?_;refine f_ O (fun w9 hblk9 L=>?_);have z9:=L.size;have hC9:Chg (fun b=>b=sb\/b=B) w7 w9:=hC8.grown L S7;have hPW:du e.W:=kC hW;have hold9:∀{w:World},Chg (fun b=>b=sb\/b=B) w7 w->∀b,b<B->w.heap[b]?=w5.heap[b]?:=fun {w} hC b t=>(hC.block b SM SM).trans (N b t)
 have hstart:=RunE.init (fit:=rz e.W e.A) (next:=BL e.W e.A) (start:=Ik e.W e.A);have hI0:FndI w7 w9 B e sb B lv (.slice none 0 0) (.slice fo (EI (rz e.W e.A) (Ik e.W e.A) [] []).2.length fc) (EI (rz e.W e.A) (Ik e.W e.A) [] []).2 [] (EI (rz e.W e.A) (Ik e.W e.A) [] []).1 []:=by
  refine⟨⟨hblk9,d.em.num.kept L S6,d.em.lo.keptN L (fun g i e=>(hnl8 g i).1 (QV e)),d.em.inn.to (fun b t=>L.block b SM S6) S3,d.em.ge,d.em.ne,hnl8,d.em.nd,d.em.ins,d.em.ok⟩,hstart,Own.nil,InnR.nil,?_,hC9,hlv8,(fun g i=>by cases i),(fun r hr=>by cases hr)⟩;have ho9:=d.own.keptN L (fun g i e=>by have:=(hof8 g i).1;have:=QV e;omega);obtain⟨fo',fc',e,hsl⟩:=ho9.slF (F':=Fz w9 (pY sb B lv (.slice none 0 0))) S0 (fun g i=>⟨(ho9.lt g i).2.1,fun h=>by
   have h1:=(hof8 g i).1;rcases h with h|h|h|h
   ·omega
   ·omega
   ·exact d.dis g i h
   ·cases h⟩)
  exact⟨fo',fc',e,hsl⟩
 generalize hfrn:(EI (rz e.W e.A) (Ik e.W e.A) [] []).2=fr at*
 generalize (EI (rz e.W e.A) (Ik e.W e.A) [] []).1=ps0 at*
 clear d O hlt8 hof8 hnl8 hlv8 hC8 hblk9 L hC9 hstart;have z79:w7.heap.size<=w9.heap.size:=by omega
 clear z8 z9 w8;refine TI ?_;refine CW.loop (S:=Nat×Value×Value×List Raw×List dw×List (List Int)) (fun s=>[(2,Tg w0.heap.size),(3,Tg w1.heap.size),(4,Tg w2.heap.size),(9,Tg sb),(10,Te s.1)])
  (fun s w=>FndI w7 w B e sb B s.2.1 s.2.2.1 (.slice fo fr.length fc) fr s.2.2.2.1 s.2.2.2.2.1 s.2.2.2.2.2/\s.2.2.2.2.2.length=s.1) (fun s=>1228801 -s.1) (0,lv,.slice none 0 0,[],ps0,[]) SL ⟨hI0,rfl⟩ ?_
 clear hI0 hEm7;rintro⟨n,lv,nv,vs,ps,nx⟩ w ⟨G,hnl⟩
 dsimp only at G hnl⊢
 have R:=G.em.blk;have hpl:=G.em.len;have hle:=G.run.le;have hcw:=hold9 G.chg;have hb2w:Blk w _ _ _:=((hcw _ hb25.1).trans (N _ hb25.1).symm).trans Q;have hb3w:Blk w _ _ _:=((hcw _ hb25.2.1).trans (N _ hb25.2.1).symm).trans V;have hb4w:Blk w _ _ _:=((hcw _ hb25.2.2).trans (N _ hb25.2.2).symm).trans T;have zw:=G.chg.size;obtain⟨lo,lc,rfl⟩:=G.em.lo.val;obtain⟨no,nc,rfl⟩:=G.hn.val;refine TQ ?_;apply CW.cond rfl<;>intro h
 ·have hn':n<ps.length:=by simp at h;omega
  clear h;have hpn:ps.getD n (0,0)=ps[n]:=by rw[Oi,On hn'];rfl
  have Y:=G.em.ins _ (OG hn');obtain⟨x,hx⟩:=Nn Y.1.1;obtain⟨y,hy⟩:=Nn Y.2.1;have hxl:x<e.W.2.1.length:=by have:=Y.1.2;omega
  have hyl:y<e.A.2.1.length:=by have:=Y.2.2;omega
  have hrX:e.W.2.1.getD x []=e.W.2.1[x]:=LQ hxl;have hrY:e.A.2.1.getD y []=e.A.2.1[y]:=LQ hyl;have hnext:BL e.W e.A (ps.getD nx.length (0,0))=Dz e.W.2.1[x] e.A.2.1[y]:=by
   rw[hnl,hpn];unfold BL;rw[hx,hy,Nt,Nt,hrX,hrY]
  have X:=G.run.step SM;rw[hnext]at X
  have hsX:=sW x;rw[hrX]at hsX
  have hsY:=sA y;rw[hrY]at hsY
  have hokX:CQ e.W.2.1.length e.W.2.1[x]:=(wnx _ (OG hxl)).2;have hokY:CQ e.A.2.1.length e.A.2.1[y]:=okA.nx _ (OG hyl);have hD:Ext w (drew w):=Ext.drew w;have zd:(drew w).heap.size=w.heap.size:=rfl;have hblkd:=R.ext hD;have hb2d:=hb2w.ext hD;have hb3d:=hb3w.ext hD;obtain⟨lo',lc',el,hlsl⟩:=(G.em.lo.extN hD).oldN.sl;obtain⟨rfl,_,rfl⟩:=RS el;obtain⟨lb,off,rfl,hFb,hc1,hc2⟩:=hlsl.pairAt n hn';rw[hx]at hc1
  rw[hy]at hc2
  have hG2d:=hG2.mono (w':=drew w) (fun b t=>(hD.block b (by have h':b<w5.heap.size:=t;omega)).trans (hcw b (by rw[<-hBn];exact t))) (F':=fun b=>b<B) (fun b t=>by rw[<-hBn];exact t);have hK2d:=hK2.mono (w':=drew w) (fun b t=>(hD.block b (by have h':b<w5.heap.size:=t;omega)).trans (hcw b (by rw[<-hBn];exact t))) (F':=fun b=>b<B) (fun b t=>by rw[<-hBn];exact t);have hKs:∀u,(fun z:World=>z=drew w) u->u.heap[sb]?=(drew w).heap[sb]?:=fun u hu=>by rw[hu]
  have hKb2:∀u,(fun z:World=>z=drew w) u->u.heap[w0.heap.size]?=(drew w).heap[w0.heap.size]?:=fun u hu=>by rw[hu]
  have hKb3:∀u,(fun z:World=>z=drew w) u->u.heap[w1.heap.size]?=(drew w).heap[w1.heap.size]?:=fun u hu=>by rw[hu]
  have hKK:∀(F:Nat->Prop) z,(fun x:World=>x=drew w) z->∀b,F b->z.heap[b]?=(drew w).heap[b]?:=fun F z hz b _=>by rw[hz]
  have hSE:∀z,(fun x:World=>x=drew w) z->Ext (drew w) z:=fun z hz=>by rw[hz];exact Ext.refl _
  refine T7 ?_;refine aI 30 35 (fun z:World=>∃l',Blk z sb 223 (oq e B l' (.slice no vs.length nc) (.slice fo fr.length fc))) (fun z:World=>z=drew w)
   (JQ 1 [(0,true),(1,true),(2,true),(3,true),(4,true)]++(JQ 2 [(5,true),(6,true),(7,true),(8,true),(9,true),(10,true),(11,true),(12,true),(13,true),(14,true),(15,true),(16,true),(17,true),(18,true),(19,true),(20,true),(21,true),(22,true),(23,true),(24,true),(25,true),(26,true),(27,true),(28,true),(29,true)]++[(30,0),(31,0),(32,0),(33,1),(34,1),(35,3)])) mixed SN ⟨_,hblkd⟩ rfl ?_
  refine HP.weak [(0,true),(1,true),(2,true),(3,true),(4,true)] rfl ?_;refine Ut ?_;refine cy (v:=.slice no vs.length nc) (fun z hz=>by obtain⟨l',t⟩:=hz;exact⟨_,_,t,rfl⟩) rfl rfl rfl rfl ?_;refine Uu ?_;refine bh ?_;refine HP.early [(5,true),(6,true),(7,true),(8,true),(9,true),(10,true),(11,true),(12,true),(13,true),(14,true),(15,true),(16,true),(17,true),(18,true),(19,true),(20,true),(21,true),(22,true),(23,true),(24,true),(25,true),(26,true),(27,true),(28,true),(29,true)] rfl ?_;refine Ut ?_;refine cm (α:=dw) rfl rfl rfl rfl rfl SM SM ?_;refine Uq ?_;refine HL.load (α:=Int) (F:=di) hSE rfl rfl rfl rfl (by have:=hFb;exact this) S0 hc1 rfl ?_;refine cg (k:=x) (F:=fun b=>b<B) (hKK _) rfl rfl rfl rfl rfl rfl rfl hG2d hxl SX (fun u q hu=>?_);obtain⟨ro,rc,rfl,hrow⟩:=hu.sl;clear hu;refine Ut ?_;refine cm (α:=dw) rfl rfl rfl rfl rfl SM SM ?_;refine Uq ?_;refine HL.load (α:=Int) (F:=di) hSE rfl rfl rfl rfl (by have:=hFb;exact this) S0 hc2 rfl ?_;refine cg (k:=y) (F:=fun b=>b<B) (hKK _) rfl rfl rfl rfl rfl rfl rfl hK2d hyl SX (fun u q hu=>?_);obtain⟨so,sc,rfl,hsow⟩:=hu.sl;clear hu;refine Uu ?_;refine bh ?_;refine HP.mut rfl (eN (mD (drew w) (G.em.ext SM hD) SM hrow hsow hokX hokY hsX hsY) ?_);rintro rv w8 ⟨lv',d⟩
  obtain⟨uo,uc,rfl⟩:=d.own.val;rw[show ry e=rz e.W e.A from rfl]at d⊢
  have hput:=EJ (fit:=rz e.W e.A) (Dz e.W.2.1[x] e.A.2.1[y]) ps [] G.em.nd;have hplen:=hput.len;rw[DB]at hplen
  have hmulX:=Qs hsX hsY;generalize hP:EI (rz e.W e.A) (Dz e.W.2.1[x] e.A.2.1[y]) ps []=pq at*
  have O:=d.em.blk;have z8:=d.chg.size;have lsb:=R.lt;have I:=fun g i=>G.hn.lt g i
  have hllt:=fun g i=>G.em.lo.lt g i
  have hlu:=fun g i=>d.own.lt g i
  have hlc:=fun g i=>d.em.lo.lt g i
  have hnle:=d.em.nl;have hvl:=G.inn.len;refine WL.nil (bg (ph:=true) ⟨_,O⟩ (fun h=>by cases h) ?_);have hn8:Own w8 w7.heap.size 39 di (.slice no vs.length nc) vs:=(G.hn.extN hD).chg d.chg (fun b t hs=>by
   have hx:=I b t;rcases hs with h|h|h
   ·omega
   ·omega
   ·exact G.dis b t h)
  refine HP.app1 (α:=Raw) (F:=di) (bytes:=24) (yv:=(⟨.slice uo pq.2.length uc⟩:Raw)) rfl rfl rfl rfl SX rfl rfl SX hn8 (Rd.mkRaw _ _ _ rfl) SM S0 SP SS SM
   (fun z hz=>⟨_,O.kept hz (fun e=>by have:=I sb e.symm;omega)⟩) (fun nv' w9 q9 ho9 L hnb9=>?_)
  obtain⟨no',nc',rfl⟩:=ho9.val;have hblk9:=O.kept L (fun e=>by have:=I sb e.symm;omega);have z9:=L.size;refine HP.weak (r:=[(35,3)]) [(33,true),(34,true)] rfl ?_;refine Uv ?_;refine bh ?_;refine HP.last rfl (f_ hblk9 (fun w10 hblk10 Z=>WL.nil (bC ?_)));have z10:=Z.size;have hlv':∀g,lv'.ownBlock=some g->w7.heap.size<=g:=fun g i=>(d.new g i).elim (G.lvn g) (fun h=>by omega)
  have hdis8:∀g,(Value.slice no vs.length nc).ownBlock=some g->lv'.ownBlock≠some g:=fun g i hl=>(d.new g hl).elim (G.dis g i) (fun h=>by have:=(I g i).2.1;omega)
  have hM68:∀b,pY sb B lv' (.slice no vs.length nc) b->pY sb B (.slice (some ⟨lb,off,none⟩) ps.length lc) (.slice no vs.length nc) b\/w.heap.size<=b:=fun b h=>by
   rcases h with h|h|h|h
   ·exact .inl (.inl h)
   ·exact .inl (.inr (.inl h))
   ·exact(d.new b h).imp (fun h=>.inr (.inr (.inl h))) id
   ·exact .inl (.inr (.inr (.inr h)))
  have hC68:Chg (pY sb B (.slice (some ⟨lb,off,none⟩) ps.length lc) (.slice no vs.length nc)) w w8:=(Chg.of_ext _ hD).trans (d.chg.wk (fun b h=>by
   rcases h with h|h|h
   ·exact .inl h
   ·exact .inr (.inl h)
   ·exact .inr (.inr (.inl h))))
  have hC810:Chg (pY sb B lv' (.slice no vs.length nc)) w8 w10:=((Chg.of_grown L).wk (fun b h=>.inr (.inr (.inr h)))).grown Z S7;have hM810:∀b,pY sb B lv' (.slice no' (vs++[(⟨.slice uo pq.2.length uc⟩:Raw)]).length nc') b->pY sb B lv' (.slice no vs.length nc) b\/w8.heap.size<=b:=fun b h=>by
   rcases h with h|h|h|h
   ·exact .inl (.inl h)
   ·exact .inl (.inr (.inl h))
   ·exact .inl (.inr (.inr (.inl h)))
   ·exact(hnb9 b h).imp (fun h=>.inr (.inr (.inr h))) id
  have hrow8:Rd w8 (Fz w8 (pY sb B lv' (.slice no vs.length nc))) (.slice uo pq.2.length uc) pq.2:=
   d.own.rd.mono S8 (fun g i=>i.elim (fun h=>h.elim) (fun i=>⟨(hlu g i).2.1,fun h=>by
    have h1:=(hlu g i).1;rcases h with h|h|h|h
    ·omega
    ·omega
    ·exact d.dis g i h
    ·have:=(I g h).2.1;omega⟩))
  have hin10:=((G.inn.to hC68 hM68).push hrow8).to hC810 hM810;obtain⟨fo',fc',ef,hfs⟩:=G.hf;obtain⟨rfl,_,rfl⟩:=RS ef;have hfs10:=(hfs.fz hC68 hM68).fz hC810 hM810;have hC10:Chg (fun b=>b=sb\/b=B) w7 w10:=(G.chg.then hC68 (fun b h=>by
   rcases h with h|h|h|h
   ·exact .inl (.inl h)
   ·exact .inl (.inr h)
   ·exact .inr (G.lvn b h)
   ·exact .inr (I b h).1)).then hC810 (fun b h=>by
   rcases h with h|h|h|h
   ·exact .inl (.inl h)
   ·exact .inl (.inr h)
   ·exact .inr (hlv' b h)
   ·exact .inr (I b h).1)
  have hne10:=d.em.ne;refine Tn ?_;refine EX.back (n+1,lv',.slice no' (vs++[(⟨.slice uo pq.2.length uc⟩:Raw)]).length nc',vs++[(⟨.slice uo pq.2.length uc⟩:Raw)],pq.1,nx++[pq.2]) SL
   ⟨⟨⟨hblk10,(d.em.num.kept L (fun e=>by have:=I B e.symm;omega)).kept Z S6,(d.em.lo.keptN L (fun g i e=>hdis8 g e.symm i)).keptN Z (fun g i e=>(hnle g i).1 (QV e)),
     d.em.inn.to (fun b t=>(Z.block b SM S6).trans (L.block b SM (fun e=>by have:=I b e.symm;omega))) S3,d.em.ge,hne10,hnle,d.em.nd,d.em.ins,d.em.ok⟩,X,ho9.keptN Z (fun g i e=>by
      have:=QV e;rcases hnb9 g i with h|h
      ·have:=(I g h).1;omega
      ·omega),hin10,⟨fo,fc,rfl,hfs10⟩,hC10,hlv',fun g i hl=>?_,fun r hr=>?_⟩,by dsimp only;rw[OT,hnl];rfl⟩ SR
  ·rcases hnb9 g i with h|h
   ·exact hdis8 g h hl
   ·have:=(hlc g hl).2.1;omega
  ·rcases Ph.1 hr with hr|hr
   ·exact G.rows r hr
   ·rw[Py]at hr;subst hr;simp at hplen;omega
 have U:nx.length=ps.length:=by simp at h;omega
 clear h;have i:=G.run.okG U;have hfl:=G.run.okF U;have hN:nx.length<=1228800:=by omega
 obtain⟨no',nc',en,hns⟩:=G.inn.old G.hn;obtain⟨rfl,hvl,rfl⟩:=RS en;obtain⟨fo',fc',ef,hfs⟩:=G.hf;obtain⟨rfl,_,rfl⟩:=RS ef;have hfs:=hfs.old';obtain⟨lo',lc',el,hls⟩:=G.em.lo.oldN.sl;obtain⟨rfl,_,rfl⟩:=RS el;have hem:=G.em;have X:=G.run;have hrows:=G.rows;have Y:=G.em.ins;rw[hvl]at R hem
 have hE0w:Ext w0 w:=Chg.ext hE7 G.chg (fun b t=>by rcases t with h|h<;>omega);have hE0:∀{x:World},Ext w x->Ext w0 x:=fun {x} hx=>hE0w.trans hx
 clear G;refine T6 ?_;refine eN (d9 w hns S3 i SM) ?_;rintro pv w10 ⟨part,hpo,hPt,e10⟩
 obtain⟨po,pc,rfl,hps⟩:=hpo.oldN.sl;have hppl:=hPt.len;refine eF (fun w11 M e11=>?_);refine f_ M (fun w12 M hg12=>?_);have e12:Ext w10 w12:=e11.grown hg12 e11.size SZ;have x12:=e10.trans e12;clear e11 hg12;refine T2 ?_;refine eN (pG w12 (hem.ext SM x12) (by have:=x12.size;omega) wfr okA.fr w80 okA.f) ?_;rintro _ w13 ⟨so,sc,rfl,hss,e13⟩
 have x13:=x12.trans e13;have hsx:Hg e.W e.A ps=He (If e.W e.A) ps:=by unfold Hg He If;rw[Pb,Pe,Pe];rfl
 have hslen:∀S∈Hg e.W e.A ps,S.length=nx.length:=fun S hS=>by
  rw[hsx]at hS
  obtain⟨f,_,rfl⟩:=Pr.1 hS;rw[O1,U]
 have hsn:(Hg e.W e.A ps).length<=160:=by unfold Hg;rw[OT,O1,O1];have:=okA.f;omega
 generalize hsets:Hg e.W e.A ps=sets at*
 have M:=M.ext e13;refine TJ ?_;refine eN (oP w13 (R.ext x13) U.symm (hns.up x13) (hps.up (e12.trans e13)) hss i hPt hN hslen) ?_;rintro _ w14 ⟨p,rfl,hp,e14⟩
 have x14:=x13.trans e14;have M:=M.ext e14;refine eF (fun w15 hb13 e15=>?_);refine f_ hb13 (fun w16 hb13 hg16=>?_);have e16:Ext w14 w16:=e15.grown hg16 e15.size SZ;have x16:=x14.trans e16;clear e15 hg16;have M:=M.ext e16;have hpway:=EL (Ss:=If e.W e.A) X U hPt;rw[<-hsx]at hpway
 refine TJ ?_;apply CW.cond rfl<;>intro h
 ·have h:p<0:=by simpa using h
  have hno:¬aR e.W e.A:=fun hr=>by
   obtain⟨c,h1,h2,h3⟩:=hpway.1 hr;rcases hp with⟨_,hp⟩|⟨hp,_⟩
   ·exact hp c h1 h2 h3
   ·omega
  refine T9 ?_;refine WL.build (parts:=[]) rfl rfl rfl rfl ?_;refine f_ (hb4w.ext x16) (fun J hb17 hg17=>?_);have hE17:Ext w0 J:=(hE0 x16).grown hg17 (hE0 x16).size S2;refine T5 ?_;exact bA rfl rfl rfl rfl hb17 rfl ⟨⟨[],[],false,_,_,_,_,_,rfl,nilS _,nilS _,.inr ⟨rfl,hW,hA,.inl ⟨rfl,rfl,rfl,hno⟩⟩⟩,hE17⟩
 have h:¬p<0:=by simpa using h
 obtain⟨hp0,hpN,hgood⟩:0<=p/\p<nx.length/\bY nx part sets p:=hp.resolve_left (fun h'=>by omega);have hyes:aR e.W e.A:=hpway.2 ⟨p,hp0,hpN,hgood⟩;clear hp h hpway;obtain⟨u,hu,hup,_⟩:=id hgood.1;obtain⟨a,haf,hrc⟩:=X.reach U u hu;have hD:Ext w16 (drew w16):=Ext.drew w16;have xd:=x16.trans hD;have hblkd:=R.ext xd;have hb11d:=M.ext hD;have hb13d:=hb13.ext hD;have hSE:∀z,(fun z:World=>Ext (drew w16) z) z->Ext (drew w16) z:=fun _ h=>h
 refine T7 ?_;refine aG (fun z:World=>Ext (drew w16) z) [(0,true),(1,true),(2,true),(3,true),(4,true),(5,true),(6,true),(7,false),(8,true)] mixed SN Tc ?_;refine Up ?_;have hpd:=((hps.up (e12.trans e13)).up (e14.trans e16)).up hD;refine cD rfl (eN (pP (drew w16) (fr:=fr) (part:=part) (only:= -1) (to:=fun k=>decide (part.getD k 0=p)) hblkd (hns.up xd) (hfs.up xd) hpd i hfl hppl hN (fun z hz k hk=>FnV.mk (cs:=[_,_]) (qR z _ _ (hb11d.ext hz) (hb13d.ext hz) (hpd.up hz) SM))) ?_);rintro stv J ⟨st,hso,P,e17⟩
 have P:WyOK nx fr (fun k=>decide (part.getD k 0=p)) (gB part (-1)) st:=by
  rcases P with⟨_,P⟩|P
  ·exact absurd P (LD haf hrc (R9 hup))
  ·exact P
 refine WL.nil (bf e17 ?_);refine Uu ?_;have x17:=xd.trans e17;have hb1117:=hb11d.ext e17;have hp17:=hpd.up e17;have hstn:=P.ne;have hstl:=P.len;obtain⟨sto,stc,rfl,hsts⟩:=hso.oldN.sl;have hlast:0<=st.getD (st.length -1) 0/\st.getD (st.length -1) 0<nx.length:=by
  rw[Oi,On SM];exact P.rg _ (OG _)
 obtain⟨m,hm⟩:=Nn hlast.1;have hml:m<nx.length:=by omega
 have hmp:part.getD m 0=p:=by have:=P.en;rw[hm]at this;simpa using this
 have hlel:st[st.length -1]'SM=(m:Int):=by rw[<-hm,Oi,On SM];rfl
 have hgd2:bY nx part sets (part.getD m 0):=by rw[hmp];exact hgood
 have hD2:Ext J (drew J):=Ext.drew J;have hblk2:=R.ext (x17.trans hD2);have hb112:=hb1117.ext hD2;have hsts2:=hsts.up hD2;have hSE:∀z,(fun z:World=>Ext (drew J) z) z->Ext (drew J) z:=fun _ h=>h
 have hKK:∀(F:Nat->Prop) (hF:∀b,F b->b<(drew J).heap.size) z,(fun z:World=>Ext (drew J) z) z->∀b,F b->z.heap[b]?=(drew J).heap[b]?:=fun F hF z hz b t=>hz.block b (hF b t)
 refine T7 ?_;refine aG (fun z:World=>Ext (drew J) z) [(0,true),(1,true),(2,true),(3,true),(4,true),(5,true),(6,true),(7,true),(8,true),(9,false),(10,true)] mixed SN Tc ?_;refine Us ?_;rw[show((st.length:Nat):Int) -1=((st.length -1:Nat):Int) by omega];refine cg (w:=drew J) (F:=dl (drew J)) (k:=st.length -1) (hKK _ S3) rfl rfl rfl rfl rfl rfl rfl hsts2 SM SX (fun u q hu=>?_);obtain rfl:=hu.int;rw[hlel];refine Ut ?_;refine cD rfl (eN (pD (drew J) hblk2 (hns.up (x17.trans hD2)) (hp17.up hD2) (((hss.up e14).up e16).up ((hD.trans e17).trans hD2)) i hPt hN hslen hsn hrows hml hgd2) ?_);rintro lov w18 ⟨lo2,hlo,hRO,e18⟩
 refine WL.nil (bf e18 ?_);refine Uu ?_;have x18:=(x17.trans hD2).trans e18;have e1718:=hD2.trans e18;have hlol:=hRO.len;have hlsl:sets.length+1<=161:=by omega
 have hlmul:=Qs hlsl hN;obtain⟨loo,loc,rfl,hlos⟩:=hlo.oldN.sl;have hso18:=hso.extN e1718;have hblk18:=R.ext x18;have hls18:=hls.up x18;rw[U]at hlmul hlol
 have hokst:CQ ps.length (st.take (st.length -1)):=fun y hy=>by rw[<-U];exact P.rg y (Pw hy)
 have hoklo:CQ ps.length lo2:=fun y hy=>by rw[<-U];exact hRO.rg y hy
 have hb418:=hb4w.ext x18;refine TF ?_;refine eX (α:=Int) (st.length -1) SM rfl rfl rfl rfl hso18 SM (fun v19 ho19 hob19=>?_);obtain⟨cuo,cuc,rfl,hcus⟩:=ho19.oldN.sl;refine eN (pH w18 hblk18 hls18 hcus hokst (by rw[O9];omega)) ?_;rintro sv w19 ⟨hsv,e19⟩
 obtain⟨svo,svc,rfl,hsvs⟩:=hsv.slF (F':=fun b=>w18.heap.size<=b/\b<w19.heap.size) S0 (fun g i=>⟨(hsv.lt g i).1,(hsv.lt g i).2.1⟩);refine Ue ?_;refine eN (pH w19 (hblk18.ext e19) (hls18.up e19) (hlos.up e19) hoklo SM) ?_;rintro lv2 w20 ⟨hlv2,e20⟩
 obtain⟨lvo,lvc,rfl,hlvs⟩:=hlv2.slF (F':=fun b=>w19.heap.size<=b/\b<w20.heap.size) S0 (fun g i=>⟨(hlv2.lt g i).1,(hlv2.lt g i).2.1⟩);have x20:=(x18.trans e19).trans e20;refine eK ?_;refine f_ (hb418.ext (e19.trans e20)) (fun w21 hb21 hg21=>?_);have hE21:Ext w0 w21:=(hE0 x20).grown hg21 (hE0 x20).size S2;have hRO':RoOK nx (st.getD (st.length -1) 0).toNat (He (If e.W e.A) ps) lo2:=by rw[hm,Nt,<-hsx];exact hRO
 have hpath:=DP X U Y hPW (CK okA) P hRO' SM SM;have q18:=x18.size;have q19:=e19.size;have q20:=e20.size;have r1:=hsvs.mono (w':=w21) (fun b t=>(hg21.block b SM S6).trans (e20.block b t.2)) (F':=dl w21) (fun b t=>by have:=hg21.size;exact(show b<w21.heap.size by omega));have r2:=hlvs.mono (w':=w21) (fun b t=>hg21.block b t.2 S6) (F':=dl w21) (fun b t=>by have:=hg21.size;exact(show b<w21.heap.size by omega));refine Tk ?_;exact bA rfl rfl rfl rfl hb21 rfl ⟨⟨_,_,true,0,_,_,_,_,rfl,r1,r2,.inr ⟨rfl,hW,hA,.inr ⟨rfl,hyes,hpath⟩⟩⟩,hE21⟩

section
variable {fr:List (List Int)}{q:Nat->dw}
end







instance:IsZC UA 144 [.slice none 0 0,.slice none 0 0,.slice none 0 0,.slice none 0 0,.slice none 0 0]:=IsZC.of (z:=.agg #[.slice none 0 0,.slice none 0 0,.slice none 0 0,.slice none 0 0,.slice none 0 0]) SN rfl


def Dt(f:Nat->Bool):Nat->Nat
 |0=>0
 |c+1=>if f c=true then Dt f c|||(1 <<< c)else Dt f c
def jl(c j:Nat):(1 <<< c).testBit j=decide (j=c):=by
 rw[Qz,Nat.testBit_two_pow];exact R6.2 ⟨fun h=>h.symm,fun h=>h.symm⟩
def Du{f:Nat->Bool}:∀{c j:Nat},(Dt f c).testBit j=(decide (j<c)&&f j)
 |0,j=>by simp[Dt]
 |c+1,j=>by
  rw[Dt];by_cases hf:f c=true
  ·rw[Sj hf,Nat.testBit_or,Du,jl]
   by_cases e:j=c
   ·subst e;simp[hf]
   ·have:decide (j<c+1)=decide (j<c):=R6.2 SM
    rw[this,R7 e,Nb]
  ·rw[Si hf,Du]
   by_cases e:j=c
   ·subst e;simp[hf]
   ·have:decide (j<c+1)=decide (j<c):=R6.2 SM
    rw[this]
def Dv{f:Nat->Bool}:∀{c:Nat},Dt f c<2 ^ c
 |0=>by simp[Dt]
 |c+1=>by
  have h:=Dv (f:=f) (c:=c);rw[Dt];have h2:2 ^ c<=2 ^ (c+1):=QB SM SM;split
  ·exact QA (Qn h h2) (by rw[Qz];exact QC SM SM)
  ·omega
abbrev df:=List Int×List Ltl
def sE(k n:Int)(t:Ltl)(m:df):df:=if k=3 then(if n∈m.1 then m.1 else m.1++[n],m.2)else if k=7\/k=8\/k=9 then(m.1,if m.2.any (GD t)=true then m.2 else m.2++[t])else m
mutual
def sa:Ltl->df->df
 |.mk k n kids,m=>sr kids (sE k n (.mk k n kids) m)
def sr:List Ltl->df->df
 |[],m=>m
 |x::r,m=>sr r (sa x m)
end
mutual
def Cov(m:df):Ltl->Prop
 |.mk k n kids=>(k=3->n∈m.1)/\((k=7\/k=8\/k=9)->.mk k n kids∈m.2)/\Covs m kids
def Covs(m:df):List Ltl->Prop
 |[]=>True
 |x::r=>Cov m x/\Covs m r
end
def Les(m c:df):Prop:=(∀x∈m.1,x∈c.1)/\∀x∈m.2,x∈c.2
def Les.refl(m:df):Les m m:=⟨fun _ h=>h,fun _ h=>h⟩
def Les.trans{a b c:df}(h:Les a b)(k:Les b c):Les a c:=⟨fun x d=>k.1 x (h.1 x d),fun x d=>k.2 x (h.2 x d)⟩
mutual
theorem Cov.les{m d:df}(h:Les m d):∀t,Cov m t->Cov d t
 |.mk k n kids,c=>by
  simp only[Cov]at c⊢
  exact⟨fun e=>h.1 _ (c.1 e),fun e=>h.2 _ (c.2.1 e),Covs.les h kids c.2.2⟩
theorem Covs.les{m d:df}(h:Les m d):∀l,Covs m l->Covs d l
 |[],_=>trivial
 |x::r,c=>by
  simp only[Covs]at c⊢
  exact⟨Cov.les h x c.1,Covs.les h r c.2⟩
end
def sG(k n:Int)(t:Ltl)(m:df):Les m (sE k n t m):=by
 unfold sE;split
 ·refine⟨fun x c=>?_,fun _ h=>h⟩
  dsimp only;split
  ·exact c
  ·exact Pi _ c
 ·split
  ·refine⟨fun _ h=>h,fun x c=>?_⟩
   dsimp only;split
   ·exact c
   ·exact Pi _ c
  ·exact Les.refl m
mutual
theorem si:∀(t:Ltl) (m:df),Les m (sa t m)
 |.mk k n kids,m=>by
  simp only[sa];exact(sG k n _ m).trans (sy kids _)
theorem sy:∀(l:List Ltl) (m:df),Les m (sr l m)
 |[],m=>Les.refl m
 |x::r,m=>by
  simp only[sr];exact(si x m).trans (sy r _)
end
def sF(k n:Int)(kids:List Ltl)(m:df):(k=3->n∈(sE k n (.mk k n kids) m).1)/\((k=7\/k=8\/k=9)->.mk k n kids∈(sE k n (.mk k n kids) m).2):=by
 unfold sE;refine⟨fun h=>?_,fun h=>?_⟩
 ·rw[Sj h]
  dsimp only;split
  ·assumption
  ·exact Pj _ SQ
 ·rw[Si SM,Sj h]
  dsimp only;split
  ·rename_i c
   rw[NE]at c
   obtain⟨x,d,c⟩:=c;rw[(GE _ _).1 c];exact d
  ·exact Pj _ SQ
mutual
theorem se:∀(t:Ltl) (m:df),Cov (sa t m) t
 |.mk k n kids,m=>by
  simp only[Cov,sa];have h:=sF k n kids m;have c:=sy kids (sE k n (.mk k n kids) m);exact⟨fun e=>c.1 _ (h.1 e),fun e=>c.2 _ (h.2 e),su kids _⟩
theorem su:∀(l:List Ltl) (m:df),Covs (sr l m) l
 |[],m=>trivial
 |x::r,m=>by
  simp only[Covs,sr];exact⟨Cov.les (sy r _) x (se x m),su r _⟩
end
structure OkM(m:df):Prop where
 na:m.1.Nodup
 ra:∀x∈m.1,0<=x/\x<=63
 wp:∀g∈m.2,LJ g/\(g.k=7\/g.k=8\/g.k=9)/\ui g 10=false/\ui g 11=false
def OkM.nil:OkM ([],[]):=⟨List.Pairwise.nil,(fun x c=>by cases c),(fun x c=>by cases c)⟩
def sH{k n:Int}{kids:List Ltl}{m:df}(c:OkM m)(h:LJ (.mk k n kids))(o:ui (.mk k n kids) 10=false)(h1:ui (.mk k n kids) 11=false):OkM (sE k n (.mk k n kids) m):=by
 unfold sE;simp only[LJ]at h
 split
 ·refine⟨?_,fun x d=>?_,c.wp⟩
  ·dsimp only
   split
   ·exact c.na
   ·rename_i hn
    rw[PB];exact⟨c.na,PK _ _,fun a l b i e=>hn (by rw[Py]at i;rw[<-i,<-e];exact l)⟩
  ·dsimp only at d
   split at d
   ·exact c.ra x d
   ·rcases Ph.1 d with d|d
    ·exact c.ra x d
    ·rw[Py]at d;subst d;exact⟨h.2.1,h.2.2.1⟩
 ·split
  ·rename_i j
   refine⟨c.na,c.ra,fun g f=>?_⟩;dsimp only at f
   split at f
   ·exact c.wp g f
   ·rcases Ph.1 f with f|f
    ·exact c.wp g f
    ·rw[Py]at f;subst f
     exact⟨by simp only[LJ];exact h,j,o,h1⟩
  ·exact c
mutual
theorem sk:∀(t:Ltl) (m:df),OkM m->LJ t->ui t 10=false->ui t 11=false->OkM (sa t m)
 |.mk k n kids,m,e,c,d,h1=>by
  have h:=sH e c d h1;simp only[sa];simp only[LJ]at c
  simp only[ui,M_]at d h1
  exact sB kids _ h c.2.2.2.2 d.2 h1.2
theorem sB:∀(l:List Ltl) (m:df),OkM m->LK l->uj l 10=false->uj l 11=false->OkM (sr l m)
 |[],m,e,_,_,_=>e
 |x::r,m,e,c,d,h1=>by
  simp only[sr];simp only[LK]at c
  simp only[uj,M_]at d h1
  exact sB r _ (sk x m e c.1 d.1 h1.1) c.2 d.2 h1.2
end
def aN(m c:df):Prop:=∀g∈m.2,Cov c g
mutual
theorem sd:∀(t:Ltl) (m d:df),Les (sa t m) d->aN m d->aN (sa t m) d
 |.mk k n kids,m,d,f,e=>by
  have h1:=Cov.les f _ (se (.mk k n kids) m);simp only[sa]at f⊢
  refine ss kids _ d f fun g c=>?_
  unfold sE at c
  split at c
  ·exact e g c
  ·split at c
   ·dsimp only at c
    split at c
    ·exact e g c
    ·rcases Ph.1 c with c|c
     ·exact e g c
     ·rw[Py]at c;subst c;exact h1
   ·exact e g c
theorem ss:∀(l:List Ltl) (m d:df),Les (sr l m) d->aN m d->aN (sr l m) d
 |[],m,d,_,e=>e
 |x::r,m,d,f,e=>by
  simp only[sr]at f⊢
  exact ss r _ d f (sd x m d ((sy r _).trans f) e)
end
def DF(m:df)(t:Ltl):Int:=idxOf (GD t) m.2
def iD(m:df)(n:Int):Int:=idxOf (fun y=>n==y) m.1
def lG(m:df)(s:Nat)(t:Ltl):Bool:=if t.k=3 then s.testBit (iD m t.n).toNat else s.testBit (m.1.length+(DF m t).toNat)
mutual
def ut(m:df)(s:Nat):Ltl->Bool
 |.mk k n kids=>
  if k=1 then true else if k=2 then false
  else if k=4 then !((uu m s kids).getD 0 false)
  else if k=5 then(uu m s kids).getD 0 false&&(uu m s kids).getD 1 false
  else if k=6 then(uu m s kids).getD 0 false||(uu m s kids).getD 1 false
  else if k=8 then(uu m s kids).getD 1 false||((uu m s kids).getD 0 false&&lG m s (.mk k n kids))
  else if k=9 then(uu m s kids).getD 1 false&&((uu m s kids).getD 0 false||lG m s (.mk k n kids))
  else lG m s (.mk k n kids)
def uu(m:df)(s:Nat):List Ltl->List Bool
 |[]=>[]
 |x::r=>ut m s x::uu m s r
end
def ij(g:Ltl):Ltl:=if g.k=7 then g.kids.getD 0 (.mk 0 0 [])else g
def BS:Ltl:=.mk 0 0 []
def zk(m:df)(s:Nat):Nat:=Dt (fun i=>ut m s (ij (m.2.getD i BS))) m.2.length
def jj(at':List Int)(s:Nat)(is:Bool):Nat->Nat
 |0=>0
 |c+1=>if s.testBit c=is then jj at' s is c|||(1 <<< (at'.getD c 0).toNat)else jj at' s is c
def jm(m:df)(s:Nat)(is:Bool):Nat:=jj m.1 s is m.1.length
def pZ(m:df)(g:Ltl)(s:Nat):Bool:=if g.k=8 then !(ut m s g)||ut m s (g.kids.getD 1 BS)else ut m s g||!(ut m s (g.kids.getD 1 BS))
def bitP_bit{at':List Int}{s:Nat}{is:Bool}{a:Nat}:∀{c:Nat},(jj at' s is c).testBit a=true↔∃i,i<c/\s.testBit i=is/\(at'.getD i 0).toNat=a
 |0=>by simp[jj]
 |c+1=>by
  rw[jj];by_cases h:s.testBit c=is
  ·rw[Sj h,Nat.testBit_or,Na,bitP_bit,jl,R_]
   constructor
   ·rintro(⟨i,h1,h2⟩|h1)
    ·exact⟨i,by omega,h2⟩
    ·exact⟨c,by omega,h,h1.symm⟩
   ·rintro⟨i,h1,h2,h3⟩
    by_cases e:i=c
    ·subst e;exact .inr h3.symm
    ·exact .inl ⟨i,by omega,h2,h3⟩
  ·rw[Si h,bitP_bit]
   constructor
   ·rintro⟨i,h1,h2⟩;exact⟨i,by omega,h2⟩
   ·rintro⟨i,h1,h2,h3⟩
    by_cases e:i=c
    ·subst e;exact absurd h2 h
    ·exact⟨i,by omega,h2,h3⟩
def jk{at':List Int}{s:Nat}{is:Bool}(h:∀x∈at',x<=63):∀{c:Nat},c<=at'.length->jj at' s is c<2 ^ 64
 |0,_=>by simp[jj]
 |c+1,d=>by
  have h1:=jk (s:=s) (is:=is) h (c:=c) SM;rw[jj];split
  ·refine QA h1 ?_
   rw[Qz];have:=h (at'.getD c 0) (by rw[Oi,On SM];exact OG _);exact QC SM SM
  ·exact h1
def xU{p:α->Bool}{l:List α}{x:α}(d:x∈l)(c:p x=true)(f:∀y,p y=true->y=x):∃i,∃h:i<l.length,idxOf p l=(i:Int)/\l[i]=x:=by
 unfold idxOf;cases e:l.findIdx? p with
 |none=>
  rw[Oa]at e
  rw[e x d]at c;cases c
 |some i=>
  obtain⟨h1,h2,_⟩:=Ob.1 e;exact⟨i,h1,rfl,f _ h2⟩
def DG{m:df}{t:Ltl}(h:t∈m.2):∃i,∃h:i<m.2.length,DF m t=(i:Int)/\m.2[i]=t:=
 xU h (GG t) (fun y c=>((GE _ _).1 c).symm)
def iE{m:df}{n:Int}(h:n∈m.1):∃i,∃h:i<m.1.length,iD m n=(i:Int)/\m.1[i]=n:=
 xU h SQ (fun y c=>by simpa using Eq.symm (by simpa using c))
section
variable {m:df}{s:Nat}{n:Int}{a b:Ltl}
theorem ho1:ut m s (.mk 1 n [])=true:=by simp[ut]
theorem ho2:ut m s (.mk 2 n [])=false:=by simp[ut]
theorem ho3:ut m s (.mk 3 n [])=s.testBit (iD m n).toNat:=by simp[ut,lG,Ltl.k,Ltl.n]
theorem ho4:ut m s (.mk 4 n [a])=!ut m s a:=by simp[ut,uu]
theorem ho5:ut m s (.mk 5 n [a,b])=(ut m s a&&ut m s b):=by simp[ut,uu]
theorem ho6:ut m s (.mk 6 n [a,b])=(ut m s a||ut m s b):=by simp[ut,uu]
theorem ho7:ut m s (.mk 7 n [a])=s.testBit (m.1.length+(DF m (.mk 7 n [a])).toNat):=by simp[ut,lG,Ltl.k]
theorem ho8:ut m s (.mk 8 n [a,b])=(ut m s b||(ut m s a&&s.testBit (m.1.length+(DF m (.mk 8 n [a,b])).toNat))):=by simp[ut,uu,lG,Ltl.k]
theorem ho9:ut m s (.mk 9 n [a,b])=(ut m s b&&(ut m s a||s.testBit (m.1.length+(DF m (.mk 9 n [a,b])).toNat))):=by simp[ut,uu,lG,Ltl.k]
end
def HE{x:Nat}:x >>> a&&&1=1↔x.testBit a=true:=by
 rw[Nat.testBit_eq_decide_div_mod_eq,R_,Nat.and_one_is_mod,QD]
structure OkF(m:df)(t:Ltl):Prop where
 wf:LJ t
 h10:ui t 10=false
 h11:ui t 11=false
 cov:Cov m t
def OkF.un{m:df}{k n:Int}{a:Ltl}(h:OkF m (.mk k n [a])):OkF m a:=by
 obtain⟨h1,h2,h3,h4⟩:=h;simp only[LJ,LK]at h1
 simp only[ui,uj,M_]at h2 h3
 simp only[Cov,Covs]at h4
 exact⟨h1.2.2.2.2.1,h2.2.1,h3.2.1,h4.2.2.1⟩
def OkF.b1{m:df}{k n:Int}{a b:Ltl}(h:OkF m (.mk k n [a,b])):OkF m a:=by
 obtain⟨h1,h2,h3,h4⟩:=h;simp only[LJ,LK]at h1
 simp only[ui,uj,M_]at h2 h3
 simp only[Cov,Covs]at h4
 exact⟨h1.2.2.2.2.1,h2.2.1,h3.2.1,h4.2.2.1⟩
def OkF.b2{m:df}{k n:Int}{a b:Ltl}(h:OkF m (.mk k n [a,b])):OkF m b:=by
 obtain⟨h1,h2,h3,h4⟩:=h;simp only[LJ,LK]at h1
 simp only[ui,uj,M_]at h2 h3
 simp only[Cov,Covs]at h4
 exact⟨h1.2.2.2.2.2.1,h2.2.2.1,h3.2.2.1,h4.2.2.2.1⟩
structure OkT(m:df):Prop where
 ok:OkM m
 clo:aN m m
def DK{g:Ltl}(c:LJ g)(d:g.k=7\/g.k=8\/g.k=9):(∃a,g=.mk 7 0 [a])\/∃k a b,(k=8\/k=9)/\g=.mk k 0 [a,b]:=by
 obtain⟨k,n,kids⟩:=g;simp only[Ltl.k]at d
 simp only[LJ]at c
 obtain⟨h1,_,_,h4,_⟩:=c;have hn:n=0:=h4 SM;subst hn;rcases d with rfl|rfl|rfl
 ·have:kids.length=1:=by simp[zN]at h1;omega
  obtain⟨a,rfl⟩:=OX.1 this;exact .inl ⟨a,rfl⟩
 ·have:kids.length=2:=by simp[zN]at h1;omega
  match kids,this with
  |[a,b],_=>exact .inr ⟨8,a,b,.inl rfl,rfl⟩
 ·have:kids.length=2:=by simp[zN]at h1;omega
  match kids,this with
  |[a,b],_=>exact .inr ⟨9,a,b,.inr rfl,rfl⟩
def OkT.part{m:df}(h:OkT m){g:Ltl}(a:g∈m.2):OkF m g:=⟨(h.ok.wp g a).1,(h.ok.wp g a).2.2.1,(h.ok.wp g a).2.2.2,h.clo g a⟩
def OkT.arg{m:df}(h:OkT m){g:Ltl}(c:g∈m.2):OkF m (ij g):=by
 have h1:=h.part c;rcases DK h1.wf (h.ok.wp g c).2.1 with⟨a,rfl⟩|⟨k,a,b,d,rfl⟩
 ·exact h1.un
 ·unfold ij
  rw[Si (by simp only[Ltl.k];omega)];exact h1
abbrev Cs(m:df):Nat:=m.1.length+m.2.length
def Ja(m:df)(f:Ltl):cM:=
 (((List.range (2 ^ Cs m)).filter fun s=>ut m s f).map fun s:Nat=>(s:Int),
  (List.range (2 ^ Cs m)).map fun s=>((List.range (2 ^ Cs m)).filter fun t=>decide (zk m t=s >>> m.1.length)).map fun t:Nat=>(t:Int),
  (List.range (2 ^ Cs m)).map fun s=>jm m s true,(List.range (2 ^ Cs m)).map fun s=>jm m s false,
  (m.2.filter fun g=>decide (g.k≠7)).map fun g=>((List.range (2 ^ Cs m)).filter fun s=>pZ m g s).map fun s:Nat=>(s:Int))
section
variable {m:df}{L:Nat->Nat}
theorem tB{l:List Ltl}{j:Nat}(h:j<l.length):l.getD j BS=l[j]:=by rw[Oi,On h];rfl
theorem zl{s j:Nat}:(zk m s).testBit j=(decide (j<m.2.length)&&ut m s (ij (m.2.getD j BS))):=Du
theorem DH{s t:Nat}(h:zk m t=s >>> m.1.length){g:Ltl}(c:g∈m.2):s.testBit (m.1.length+(DF m g).toNat)=ut m t (ij g):=by
 obtain⟨j,b,e,a⟩:=DG c;rw[e,Nt,<-QI,<-h,zl,R9 b,Nd,tB b,a]
theorem JM{H A B:Nat->Prop}(c:∀i,H i↔B i\/(A i/\H (i+1)))(hf:∀i,∃j,i<=j/\(¬H j\/B j))(i:Nat):H i↔Til A B i:=by
 constructor
 ·intro h
  refine Nh fun hn=>?_
  have:∀d,H (i+d)/\¬Til A B (i+d):=fun d=>by
   induction d with
   |zero=>exact⟨h,hn⟩
   |succ d b=>
    obtain⟨h1,h2⟩:=b;have h3:¬B (i+d):=fun e=>h2 (Til.step.2 (.inl e))
    have h4:=((c _).1 h1).resolve_left h3;exact⟨h4.2,fun k=>h2 (Til.step.2 (.inr ⟨h4.1,k⟩))⟩
  obtain⟨j,l,a⟩:=hf i;have h1:=this (j -i);rw[show i+(j -i)=j by omega]at h1
  rcases a with a|a
  ·exact a h1.1
  ·exact h1.2 (Til.step.2 (.inl a))
 ·rintro⟨j,f,e,g⟩
  have:∀d,d<=j -i->H (j -d):=fun d=>by
   induction d with
   |zero=>intro _;exact(c _).2 (.inl e)
   |succ d b=>
    intro hd
    refine(c _).2 (.inr ⟨g _ SM SM,?_⟩);rw[show j -(d+1)+1=j -d by omega];exact b SM
  have h1:=this (j -i) Ta;rwa[show j -(j -i)=i by omega]at h1
theorem Gp(w:OkT m){r:Nat->Nat}(c:∀i,zk m (r (i+1))=r i >>> m.1.length)(p:∀i,∀n∈m.1,(r i).testBit (iD m n).toNat=(L i).testBit n.toNat)
  (d:∀g∈m.2,g.k≠7->∀i,∃j,i<=j/\pZ m g (r j)=true):∀t,OkF m t->∀i,ut m (r i) t=true↔GS L t i:=by
 intro t s
 refine LN (M:=fun t=>OkF m t->∀i,ut m (r i) t=true↔GS L t i) ?_ ?_ ?_ ?_ ?_ t s.wf s
 ·intro _ i;rw[ho1,GT];simp
 ·intro _ i;rw[ho2,GW];simp
 ·intro n _ _ hf i
  have e:=hf.cov;simp only[Cov]at e
  rw[ho3,GX,HE,p i n (e.1 trivial)]
 ·intro k a q _ u hf i
  have l:=u hf.un;have e:=hf.cov;simp only[Cov]at e
  rcases q with rfl|rfl|rfl|rfl
  ·rw[ho4,GY,<-l i];simp
  ·have f:=e.2.1 (.inl rfl)
   rw[ho7,G1,<-l (i+1),DH (c i) f];exact Nm
  ·have:=hf.h10;simp[ui]at this
  ·have:=hf.h11;simp[ui]at this
 ·intro k a b q _ _ iha ihb hf i
  have l:=iha hf.b1;have o:=ihb hf.b2;have e:=hf.cov;simp only[Cov]at e
  rcases q with rfl|rfl|rfl|rfl
  ·rw[ho5,GZ,<-l i,<-o i];simp
  ·rw[ho6,G0,<-l i,<-o i];simp
  ·have f:=e.2.1 (.inr (.inl rfl))
   rw[sem8];refine JM (H:=fun i=>ut m (r i) (.mk 8 0 [a,b])=true) (fun i=>?_) (fun i=>?_) i
   ·rw[ho8,DH (c i) f,Na,MZ,l i,o i]
    exact Nm
   ·obtain⟨j,h1,h2⟩:=d _ f (by simp[Ltl.k]) i
    refine⟨j,h1,?_⟩;unfold pZ at h2
    rw[Sj (by rfl),Na]at h2
    rcases h2 with h2|h2
    ·exact .inl (by simpa using h2)
    ·exact .inr ((o j).1 h2)
  ·have f:=e.2.1 (.inr (.inr rfl))
   rw[G2];have v:=JM (H:=fun i=>¬ut m (r i) (.mk 9 0 [a,b])=true) (A:=fun j=>¬GS L a j) (B:=fun j=>¬GS L b j) (fun i=>?_) (fun i=>?_) i
   ·rw[<-v];exact Nl.symm
   ·rw[ho9,DH (c i) f,MZ,Na,l i,o i,Nj,So]
    exact Nm
   ·obtain⟨j,h1,h2⟩:=d _ f (by simp[Ltl.k]) i
    refine⟨j,h1,?_⟩;unfold pZ at h2
    rw[Si (by simp[Ltl.k]),Na]at h2
    rcases h2 with h2|h2
    ·exact .inl (fun h=>h h2)
    ·refine .inr fun h=>?_
     have h2:(!ut m (r j) b)=true:=h2;have h3:ut m (r j) b=false:=by simpa using h2
     rw[(o j).2 h]at h3
     cases h3
theorem rA(i:OkM m){s x:Nat}:(x&&&jm m s true=jm m s true/\x&&&jm m s false=0)↔∀j,j<m.1.length->x.testBit (m.1.getD j 0).toNat=s.testBit j:=by
 have g:∀y,x&&&y=y↔∀a,y.testBit a=true->x.testBit a=true:=fun y=>by
  constructor
  ·intro h a b
   have:=R5 (fun z=>z.testBit a) h;simp only[QH,b,Bool.and_true]at this
   exact this
  ·intro h
   refine Qd fun a=>?_
   rw[QH];cases e:y.testBit a
   ·simp
   ·rw[h a e];rfl
 have f:∀y,x&&&y=0↔∀a,y.testBit a=true->x.testBit a=false:=fun y=>by
  constructor
  ·intro h a b
   have:=R5 (fun z=>z.testBit a) h;simp only[QH,b,Bool.and_true,QM]at this
   exact this
  ·intro h
   refine Qd fun a=>?_
   rw[QH,QM];cases e:y.testBit a
   ·simp
   ·rw[h a e];rfl
 rw[g,f];unfold jm;constructor
 ·rintro⟨h1,h2⟩ j d
  cases c:s.testBit j
  ·exact h2 _ (bitP_bit.2 ⟨j,d,c,rfl⟩)
  ·exact h1 _ (bitP_bit.2 ⟨j,d,c,rfl⟩)
 ·intro h
  refine⟨fun a b=>?_,fun a b=>?_⟩
  ·obtain⟨j,d,c,rfl⟩:=bitP_bit.1 b
   rw[h j d,c]
  ·obtain⟨j,d,c,rfl⟩:=bitP_bit.1 b
   rw[h j d,c]
theorem iF{n:Int}(h:n∈m.1):(iD m n).toNat<m.1.length/\m.1.getD (iD m n).toNat 0=n:=by
 obtain⟨j,a,e,hn⟩:=iE h;rw[e,Nt];exact⟨a,by rw[Oi,On a];exact hn⟩
open Classical in
noncomputable def HJ(L:Nat->Nat)(m:df)(i:Nat):Nat:=
 Dt (fun j=>if j<m.1.length then(L i).testBit (m.1.getD j 0).toNat else decide (GS L (ij (m.2.getD (j -m.1.length) BS)) (i+1))) (Cs m)
theorem HK{i j:Nat}(h:j<m.1.length):(HJ L m i).testBit j=(L i).testBit (m.1.getD j 0).toNat:=by
 unfold HJ;rw[Du,R9 (show j<Cs m by unfold Cs;omega),Sj h,Nd]
theorem HM{i j:Nat}(h:j<m.2.length):(HJ L m i).testBit (m.1.length+j)=true↔GS L (ij (m.2.getD j BS)) (i+1):=by
 unfold HJ;rw[Du,R9 (show m.1.length+j<Cs m by unfold Cs;omega),Si SM,Nd,P8];exact @Sa _ (Classical.propDecidable _)
theorem HN{i:Nat}{g:Ltl}(c:g∈m.2):(HJ L m i).testBit (m.1.length+(DF m g).toNat)=true↔GS L (ij g) (i+1):=by
 obtain⟨j,b,e,a⟩:=DG c;rw[e,Nt,HM b,tB b,a]
theorem HQ(o:OkT m):∀t,OkF m t->∀i,ut m (HJ L m i) t=true↔GS L t i:=by
 intro t h
 refine LN (M:=fun t=>OkF m t->∀i,ut m (HJ L m i) t=true↔GS L t i) ?_ ?_ ?_ ?_ ?_ t h.wf h
 ·intro _ i;rw[ho1,GT];simp
 ·intro _ i;rw[ho2,GW];simp
 ·intro n _ _ hf i
  have c:=hf.cov;simp only[Cov]at c
  obtain⟨h1,h2⟩:=iF (c.1 trivial);rw[ho3,GX,HE,HK h1,h2]
 ·intro k a g _ l hf i
  have d:=l hf.un;have c:=hf.cov;simp only[Cov]at c
  rcases g with rfl|rfl|rfl|rfl
  ·rw[ho4,GY,<-d i];simp
  ·have e:=c.2.1 (.inl rfl)
   rw[ho7,G1,HN e];exact Nm
  ·have:=hf.h10;simp[ui]at this
  ·have:=hf.h11;simp[ui]at this
 ·intro k a b g _ _ iha ihb hf i
  have d:=iha hf.b1;have f:=ihb hf.b2;have c:=hf.cov;simp only[Cov]at c
  rcases g with rfl|rfl|rfl|rfl
  ·rw[ho5,GZ,<-d i,<-f i];simp
  ·rw[ho6,G0,<-d i,<-f i];simp
  ·have e:=c.2.1 (.inr (.inl rfl))
   rw[ho8,Na,MZ,HN e,d i,f i,sem8,Til.step];have:GS L (ij (.mk 8 0 [a,b])) (i+1)↔Til (GS L a) (GS L b) (i+1):=sem8;rw[this]
  ·have e:=c.2.1 (.inr (.inr rfl))
   rw[ho9,MZ,Na,HN e,d i,f i,G2,Til.step];have:GS L (ij (.mk 9 0 [a,b])) (i+1)↔¬Til (fun j=>¬GS L a j) (fun j=>¬GS L b j) (i+1):=G2;rw[this,So,Nj,Nl,Nl]
theorem HR(b:OkT m)(i:Nat):zk m (HJ L m (i+1))=HJ L m i >>> m.1.length:=by
 refine Qd fun j=>?_
 rw[zl,QI];by_cases a:j<m.2.length
 ·rw[R9 a,Nd,M2,HM a]
  exact HQ b _ (b.arg (by rw[tB a];exact OG a)) (i+1)
 ·rw[R7 a,M3]
  unfold HJ;rw[Du,R7 (show¬m.1.length+j<Cs m by unfold Cs;omega),M3]
theorem HO(d:OkT m){g:Ltl}(l:g∈m.2)(p:g.k≠7)(i:Nat):∃j,i<=j/\pZ m g (HJ L m j)=true:=by
 have hf:=d.part l;rcases DK hf.wf (d.ok.wp g l).2.1 with⟨a,rfl⟩|⟨k,a,b,f,rfl⟩
 ·exact absurd rfl p
 have n:=fun j=>HQ (L:=L) d b hf.b2 j
 have c:=fun j=>HQ (L:=L) d _ hf j
 rcases f with rfl|rfl
 ·by_cases h:ut m (HJ L m i) (.mk 8 0 [a,b])=true
  ·obtain⟨j,h1,h2,_⟩:=sem8.1 ((c i).1 h)
   refine⟨j,h1,?_⟩;unfold pZ;rw[Sj (by rfl),Na];exact .inr ((n j).2 h2)
  ·refine⟨i,Qj _,?_⟩
   unfold pZ;rw[Sj (by rfl),Na];exact .inl (by simpa using h)
 ·by_cases h:ut m (HJ L m i) (.mk 9 0 [a,b])=true
  ·refine⟨i,Qj _,?_⟩
   unfold pZ;rw[Si (by simp[Ltl.k]),Na];exact .inl h
  ·have o:¬GS L (.mk 9 0 [a,b]) i:=fun h2=>h ((c i).2 h2)
   rw[G2,Nl]at o
   obtain⟨j,h1,h2,_⟩:=o;refine⟨j,h1,?_⟩;unfold pZ;rw[Si (by simp[Ltl.k]),Na];refine .inr ?_;show(!ut m (HJ L m j) b)=true;cases e:ut m (HJ L m j) b
   ·rfl
   ·exact absurd ((n j).1 e) h2
theorem rangeN_mem{N:Nat}{p:Nat->Bool}{x:Nat}:(x:Int)∈((List.range N).filter p).map (fun s:Nat=>(s:Int))↔x<N/\p x=true:=by
 rw[Pr];constructor
 ·rintro⟨y,a,e⟩
  rw[Po,Px]at a
  have:y=x:=by omega
  subst this;exact a
 ·intro h;exact⟨x,Po.2 ⟨Px.2 h.1,h.2⟩,rfl⟩
theorem A9{N:Nat}{f:Nat->Nat}{x:Nat}(h:x<N):((List.range N).map f).getD x 0=f x:=by
 rw[Oi,Ot,Ou h];rfl
theorem A5{N:Nat}{f:Nat->List Int}{x:Nat}(h:x<N):((List.range N).map f).getD x []=f x:=by
 rw[Oi,Ot,Ou h];rfl
theorem Jk{f:Ltl}{x:Nat}(h:x<2 ^ Cs m):(Ja m f).2.1.getD x []=((List.range (2 ^ Cs m)).filter fun t=>decide (zk m t=x >>> m.1.length)).map fun t:Nat=>(t:Int):=A5 (f:=fun s=>((List.range (2 ^ Cs m)).filter fun t=>decide (zk m t=s >>> m.1.length)).map fun t:Nat=>(t:Int)) h
theorem Ji{f:Ltl}{x:Nat}(h:x<2 ^ Cs m):(Ja m f).2.2.1.getD x 0=jm m x true:=A9 (f:=fun s=>jm m s true) h
theorem Jj{f:Ltl}{x:Nat}(h:x<2 ^ Cs m):(Ja m f).2.2.2.1.getD x 0=jm m x false:=A9 (f:=fun s=>jm m s false) h
theorem Jh(d:OkT m){f:Ltl}(hf:OkF m f):aa (Ja m f) L↔GS L f 0:=by
 constructor
 ·rintro⟨r,e⟩
  have o:=rangeN_mem.1 e.first;have a:∀i,r i<2 ^ Cs m:=fun i=>by
   induction i with
   |zero=>exact o.1
   |succ i p=>
    have h1:=e.step i;rw[Jk p]at h1
    exact(rangeN_mem.1 h1).1
  have b:∀i,zk m (r (i+1))=r i >>> m.1.length:=fun i=>by
   have h1:=e.step i;rw[Jk (a i)]at h1
   exact Sq (rangeN_mem.1 h1).2
  have l:∀i,∀n∈m.1,(r i).testBit (iD m n).toNat=(L i).testBit n.toNat:=fun i n hn=>by
   have h1:=e.fits i;unfold rx at h1
   rw[MZ,R_,R_,Ji (a i),Jj (a i)]at h1
   obtain⟨h2,h3⟩:=iF hn;have h4:=(rA d.ok).1 h1 _ h2;rw[h3]at h4
   exact h4.symm
  have c:∀g∈m.2,g.k≠7->∀i,∃j,i<=j/\pZ m g (r j)=true:=fun g k q i=>by
   obtain⟨j,h1,h2⟩:=e.fair _ (Pr.2 ⟨g,Po.2 ⟨k,R9 q⟩,rfl⟩) i;exact⟨j,h1,(rangeN_mem.1 h2).2⟩
  exact(Gp d b l c f hf 0).1 o.2
 ·intro h
  have a:∀i,HJ L m i<2 ^ Cs m:=fun i=>Dv
  refine⟨HJ L m,rangeN_mem.2 ⟨a 0,(HQ d f hf 0).2 h⟩,fun i=>?_,fun i=>?_,fun F hF i=>?_⟩
  ·unfold rx
   rw[MZ,R_,R_,Ji (a i),Jj (a i)];exact(rA d.ok).2 fun j s=>(HK s).symm
  ·rw[Jk (a i)]
   exact rangeN_mem.2 ⟨a (i+1),R9 (HR d i)⟩
  ·obtain⟨g,k,rfl⟩:=Pr.1 hF
   rw[Po]at k
   obtain⟨j,h1,h2⟩:=HO (L:=L) d k.1 (Sq k.2) i;exact⟨j,h1,rangeN_mem.2 ⟨a j,h2⟩⟩
end
def Ew:∀(m:Nat) (a b:Ltl),a.nodes<=m->∀(w:World) (F:Nat->Prop) (ao D:Option Addr) (ac bc:Nat),Sl w F ao ac a.kids->Sl w F D bc b.kids->(∀b,F b->b<w.heap.size)->
  Rt UA 246 [AR a.k a.n ao a.kids.length ac,AR b.k b.n D b.kids.length bc].toArray w fun v w'=>v=.bool (GD a b)/\Ext w w':=by
 intro m
 induction m with
 |zero=>intro a b h;have:=a.nodes_pos;omega
 |succ m L=>
  rintro⟨k,n,xs⟩ ⟨k',x,ys⟩ V w F ao D ac bc G f hF
  simp only[Ltl.k,Ltl.n,Ltl.kids,Ltl.nodes]at*
  have M:=G.len63;refine dV Tryz.func246 Tryz.ntmps246 rfl rfl (T9 ?_);refine eJ fun K hf C=>?_
  refine eJ fun J Q d=>?_
  have hf:=hf.ext d;have d:=C.trans d;have hS:GD (.mk k n xs) (.mk k' x ys)=(k==k'&&n==x&&GH xs ys):=by simp[GD]
  rw[hS];refine TJ ?_;cases h1:(k != k')with
  |true=>
   refine TA ?_;refine bi rfl rfl ⟨?_,d⟩;simp at h1;simp[h1]
  |false=>
  have h1:k=k':=by simpa using h1
  refine Uh ?_;cases h2:(n != x)with
  |true=>
   refine TA ?_;refine bi rfl rfl ⟨?_,d⟩;simp at h2;simp[h2]
  |false=>
  have h2:n=x:=by simpa using h2
  refine TH ?_;cases h3:((xs.length:Int) != (ys.length:Int))with
  |true=>
   refine TA ?_;refine bi rfl rfl ⟨?_,d⟩;have h3:xs.length≠ys.length:=by simp at h3;omega
   have:GH xs ys=false:=by
    rw[M1,Ne,GI];exact fun e=>h3 (by rw[e])
   rw[this];simp
  |false=>
  have h3:xs.length=ys.length:=by simp at h3;omega
  refine TS ?_;refine CW.loop (S:=Nat) (fun i=>[(2,Tg w.heap.size),(3,Tg K.heap.size),(29,Te xs.length),(30,Te i)])
   (fun i w'=>i<=xs.length/\Ext J w'/\∀j (h:j<xs.length) (H:j<ys.length),j<i->GD xs[j] ys[j]=true) (fun i=>xs.length -i) 0 SL ⟨by omega,Ext.refl _,by omega⟩ ?_
  rintro i I ⟨hi,g,l⟩
  have R:=hf.ext g;have P:=Q.ext g;have c:=d.trans g;refine T2 ?_;apply CW.cond rfl<;>intro h
  ·have h:i<xs.length:=by simpa using h
   have H:i<ys.length:=by omega
   refine Uc ?_;refine dB rfl rfl rfl rfl rfl (fun b f=>Qn (hF b f) c.size) (G.up0 c hF) h SX (fun u q N=>Um ?_);refine dB rfl rfl rfl rfl rfl (fun b f=>Qn (hF b f) c.size) (f.up0 c hF) H SX (fun T U y=>?_);obtain⟨uo,uc,rfl,A⟩:=Rd.ltl N;obtain⟨uo',uc',rfl,t⟩:=Rd.ltl y;have r:∀b,F b->b<I.heap.size:=fun b f=>Qn (hF b f) c.size
   have o:(xs[i]).nodes<=m:=by have:=Ltl.nodes_kid xs xs[i] (OG h);omega
   refine QL.call (v:=.bool (GD xs[i] ys[i])) rfl rfl rfl (fun E s=>L xs[i] ys[i] o E F uo uo' uc uc' (A.up0 s r) (t.up0 s r) (fun b f=>Qn (r b f) s.size)) (Uf ?_);refine QL.nil (fun E s=>?_);cases z:GD xs[i] ys[i]with
   |true=>
    refine Tz ?_;refine EX.back (i+1) SL ⟨h,g.trans s,fun j B p O=>?_⟩ SM;by_cases e:j=i
    ·subst e;exact z
    ·exact l j B p SM
   |false=>
    refine T8 ?_;refine bi rfl rfl ⟨?_,c.trans s⟩;have:GH xs ys=false:=by
     rw[M1,Ne,GI];intro e
     subst e;rw[GG]at z
     cases z
    rw[this];simp
  ·have h:¬i<xs.length:=by simpa using h
   refine TO ?_;refine bi rfl rfl ⟨?_,c⟩;have:GH xs ys=true:=by
    rw[GI];exact N4 h3 (fun j B p=>(GE _ _).1 (l j B p SM))
   rw[this];simp[h1,h2]
def zP{k n:Int}{kids:List Ltl}(h:LJ (.mk k n kids)):kids.length<=2:=by
 simp only[LJ]at h
 have h1:=h.1;unfold zN at h1
 split at h1
 ·omega
 ·split at h1
  ·omega
  ·split at h1<;>omega
def LO{k n:Int}{kids:List Ltl}(h:LJ (.mk k n kids)){i:Nat}(hi:i<kids.length):LJ kids[i]:=by
 simp only[LJ]at h
 exact LL kids i hi h.2.2.2.2
def Cd{k n:Int}{kids:List Ltl}{m:Nat}(h:(Ltl.mk k n kids).nodes<=m+1){i:Nat}(hi:i<kids.length):(kids[i]).nodes<=m:=by
 have:=Ltl.nodes_kid kids kids[i] (OG hi);simp only[Ltl.nodes]at h
 omega

def D5:∀(m:Nat) (t:Ltl),t.nodes<=m->LJ t->∀(w:World) (F:Nat->Prop) (ao:Option Addr) (cap:Nat),Sl w F ao cap t.kids->(∀b,F b->b<w.heap.size)->
  Rt UA 191 [AR t.k t.n ao t.kids.length cap].toArray w fun v w'=>Rd w' (Nw w w') v (D1 t)/\Ext w w':=by
 intro m
 induction m with
 |zero=>intro t h;have:=t.nodes_pos;omega
 |succ m ih=>
  rintro⟨k,n,kids⟩ hm V w F ao cap hs hF
  simp only[Ltl.k,Ltl.n,Ltl.kids]at*
  have hkl:=zP V;refine dU Tryz.func191 Tryz.ntmps191 rfl rfl (T9 ?_);refine eJ fun O hf hE1=>?_
  refine eF (fun p hr hE2=>?_);have hf:=hf.ext hE2;have G:=hE1.trans hE2;have hz1:w.heap.size<=O.heap.size:=hE1.size;have N:=hf.lt;have hlr:=hr.lt;refine TJ ?_;refine eK ?_;refine eF (fun w3 ho hE3=>?_);refine f_ ho (fun B ho4 hg4=>?_);have e4:Ext p B:=hE3.grown hg4 hE3.size SZ;have hf4:=hf.ext e4;have hr4:=hr.ext e4;have hE4:=G.trans e4;have hlo:=ho4.lt;have hsz:=G.size;clear hf hr ho hg4 hE3 e4 G;refine Ty ?_;refine CW.loop (S:=Nat×Value) (fun x=>[(1,Tg w.heap.size),(2,Tg O.heap.size),(3,Tg p.heap.size),(12,.slice ao kids.length cap),(13,Te kids.length),(14,Te x.1)])
   (fun x w'=>x.1<=kids.length/\Ext w w'/\B.heap.size<=w'.heap.size/\Blk w' w.heap.size 32 [Te k,Te n,.slice ao kids.length cap]/\Blk w' O.heap.size 32 [Te 0,Te 0,.slice none 0 0]/\
    Blk w' p.heap.size 32 [Te k,Te n,x.2]/\Grow B.heap.size 32 w' x.2 (D2 (kids.take x.1))) (fun x=>kids.length -x.1) (0,.slice none 0 0) SL ⟨by simp,hE4,Qj _,hf4,hr4,ho4,by simpa[D2]using Grow.nil⟩ ?_
  rintro⟨i,kv⟩ w5 ⟨hi,o,P,hf5,D,ho5,E⟩
  dsimp only at hi o P hf5 D ho5 E⊢
  clear hf4 hr4 ho4;refine T2 ?_;apply CW.cond rfl<;>intro h
  ·have h:i<kids.length:=by simpa using h
   refine T7 ?_;refine fh (hs.up0 o hF) h SX (fun u q hu=>?_);obtain⟨uo,uc,rfl,hku⟩:=Rd.ltl hu;refine eF (fun J K hE6=>?_);refine f_ K (fun f hx7 hg7=>?_);have d:Ext w5 f:=hE6.grown hg7 hE6.size SZ;have y:=o.trans d;have ed:=Ext.drew f;have hd:=y.trans ed;have ho7:=(ho5.ext d).ext ed;have hxd:=hx7.ext ed;have hG7:=(E.ext d).ext ed;have hlx:=hx7.lt;have T:=d.size;have hKo:∀x,(fun x:World=>x.heap[p.heap.size]?=(drew f).heap[p.heap.size]?/\x.heap[w5.heap.size]?=(drew f).heap[w5.heap.size]?) x->x.heap[p.heap.size]?=(drew f).heap[p.heap.size]?:=fun _ h=>h.1
   have hKx:∀x,(fun x:World=>x.heap[p.heap.size]?=(drew f).heap[p.heap.size]?/\x.heap[w5.heap.size]?=(drew f).heap[w5.heap.size]?) x->x.heap[w5.heap.size]?=(drew f).heap[w5.heap.size]?:=fun _ h=>h.2
   refine T1 ?_;refine aF (fun x:World=>x.heap[p.heap.size]?=(drew f).heap[p.heap.size]?/\x.heap[w5.heap.size]?=(drew f).heap[w5.heap.size]?) [(0,true),(1,true),(2,true),(3,false),(4,false),(5,false),(6,true)] 7 mixed SN ⟨rfl,rfl⟩ (Ur ?_);refine cu hKx rfl rfl rfl rfl hxd rfl ?_;have hFd:∀b,F b->b<(drew f).heap.size:=fun b a=>Qn (hF b a) hd.size
   have hku':Sl (drew f) F uo uc (kids[i]).kids:=hku.up0 (d.trans ed) (fun b a=>Qn (hF b a) o.size);refine cD rfl (eN (ih kids[i] (Cd hm h) (LO V h) (drew f) F uo uc hku' hFd) ?_);rintro v I ⟨L,H⟩
   have ho8:=ho7.ext H;have hG8:=hG7.ext H;have hsz8:f.heap.size<=I.heap.size:=H.size;refine WL.nil (bf ⟨H.block _ ho7.lt,H.block _ hlx⟩ ?_);have hgl:=hG7.lt;obtain⟨F',l,hO,hsub⟩:=hG8.open (Fu:=Nw (drew f) I) (fun b a=>⟨Qk P (Qk T a.1),a.2⟩) (fun g hg a=>by have:=(hgl g hg).2;have:=a.1;omega);have M:(D2 (kids.take i)).length=i:=by rw[D3,O1,O9];omega
   have A:=E.lt;refine b_ (bytes:=40) (F:=F') rfl rfl rfl rfl SX rfl rfl SX hO (L.wk hsub) SM (fun b a=>(l b a).2) SP (by rw[M];unfold maxLen;omega) (by rw[M];omega)
    (fun w' hg'=>⟨(hg'.block _ ho8.lt (fun e=>?_)).trans (H.block _ ho7.lt),(hg'.block _ SM (fun e=>?_)).trans (H.block _ hlx)⟩) (fun cV R q2 hO9 C hnb=>?_)
   ·have:=(A _ e.symm).1;omega
   ·have:=(A _ e.symm).2;omega
   have hG9:Grow B.heap.size 32 R cV (D2 (kids.take i)++[D1 kids[i]]):=⟨F',fun b a=>⟨(l b a).1,Qn (l b a).2 C.size⟩,hO9⟩;rw[show D2 (kids.take i)++[D1 kids[i]]=D2 (kids.take (i+1)) by rw[D3,D3,PZ h,Pb];rfl]at hG9
   obtain⟨co,cc,rfl,_⟩:=hG9.sl;have Z:∀r,r<B.heap.size->some r≠kv.ownBlock:=fun r hr e=>by have:=(A _ e.symm).1;omega
   have ho9:=ho8.kept C (Z _ SM);have hf9:=((((hf5.ext d).ext ed).ext H)).kept C (Z _ SM);have hr9:=((((D.ext d).ext ed).ext H)).kept C (Z _ SM);have hE8:=hd.trans H;have hE9:Ext w R:=hE8.grown C hE8.size (fun g hg=>by have:=(A g hg).1;omega);refine Uv ?_;refine bB rfl (f_ ho9 (fun w10 ho10 j=>WL.nil (bC ?_)));have hE10:Ext w w10:=hE9.grown j hE9.size S2;have hsz9:=C.size;have hsz10:=j.size;refine Tn ?_;exact EX.back (i+1,.slice co (D2 (kids.take (i+1))).length cc) SL ⟨h,hE10,by omega,hf9.kept j S6,hr9.kept j S6,ho10,hG9.kept j SM⟩ SR
  ·have h:¬i<kids.length:=by simpa using h
   have hik:i=kids.length:=by omega
   subst hik;rw[PV]at E
   obtain⟨co,cc,rfl,X⟩:=E.sl;have M:(D2 kids).length=kids.length:=by rw[D3,O1]
   have hout:Rd w5 (fun b=>B.heap.size<=b/\b<w5.heap.size) (AR k n co (D2 kids).length cc) (Ltl.mk k n (D2 kids)):=Rd.mkLtl X;have hN:D1 (.mk k n kids)=if k=10 then Ltl.mk 8 0 [.mk 1 0 [],(D2 kids).getD 0 (.mk 0 0 [])]else if k=11 then .mk 9 0 [.mk 2 0 [],(D2 kids).getD 0 (.mk 0 0 [])]else .mk k n (D2 kids):=by simp only[D1]
   rw[hN];have Q:k=10\/k=11->0<(D2 kids).length:=by
    intro hc
    rw[M];have h:=V;simp only[LJ]at h
    have h1:=h.1;unfold zN at h1
    rw[Si SM,Sj SM]at h1
    omega
   have fin:∀(I R:World) (F':Nat->Prop) (v:Value) (t':Ltl),Rd I F' v t'->(∀b,F' b->B.heap.size<=b/\b<I.heap.size)->I.grownBy R (some O.heap.size)->Rd R (Nw w R) v t':=by
    intro I R F' v t' L l hg
    exact(L.kept hg (fun b a=>⟨(l b a).2,fun e=>by have:=QV e;have:=(l b a).1;omega⟩)).wk (fun b a=>⟨by have:=(l b a).1;omega,Qn (l b a).2 hg.size⟩)
   refine T6 ?_;cases h10:(k==10)with
   |true=>
    have h10:k=10:=by simpa using h10
    have h0:=Q (.inl h10);rw[Sj h10];have c:=Ext.drew w5;have ho6:=ho5.ext c;have hz5:w5.heap.size=(drew w5).heap.size:=rfl;have hK:∀x,(fun x:World=>SO O.heap.size (drew w5) x) x->x.heap[p.heap.size]?=(drew w5).heap[p.heap.size]?:=fun x K=>K.2 _ SM ho6.lt
    refine TZ ?_;refine aG (fun x:World=>SO O.heap.size (drew w5) x) [(1,true),(2,true),(3,true),(4,true),(0,false),(5,false),(6,false)] mixed SN (SO.refl _ _) (Ur ?_);refine cg (w:=drew w5) (F:=fun b=>B.heap.size<=b/\b<w5.heap.size) (k:=0) (fun x K b a=>K.2 b (by have:=a.1;omega) a.2) rfl rfl rfl rfl rfl rfl rfl (X.up0 c (fun b a=>a.2)) h0 SX (fun u q hu=>cD rfl (eN (Ex (drew w5) di 1) ?_));rintro lf J ⟨N,z⟩
    refine WL.nil (bf ((SO.refl _ _).ext z) ?_);have U:w5.heap.size<=J.heap.size:=z.size;have W:Rd J (fun b=>B.heap.size<=b/\b<w5.heap.size) u (D2 kids)[0]:=hu.up0 z (fun b a=>a.2);refine cD rfl (eN (Ey J (F:=fun b=>B.heap.size<=b/\b<w5.heap.size) (fun b a=>Qn a.2 U) 8 (N.wk fun _ h=>h.elim) W) ?_);rintro v f ⟨L,d⟩
    obtain⟨vo,vc,rfl,hkv⟩:=Rd.ltl L;refine WL.nil (bf (((SO.refl _ _).ext z).ext d) ?_);have T:=d.size;refine cD rfl (f_ (((D.ext c).ext z).ext d) (fun I Y s=>WL.nil (bf ((((SO.refl _ _).ext z).ext d).st s) (HL.nil ?_))));have y:=((o.trans c).trans z).trans d;have hgd:(D2 kids).getD 0 (.mk 0 0 [])=(D2 kids)[0]:=by simp[Oi,h0]
    refine Tp ?_;refine bp rfl rfl Y rfl ⟨?_,y.grown s y.size S2⟩;rw[hgd];refine fin _ _ _ _ _ L (fun b a=>?_) s;rcases a with a|a
    ·exact⟨a.1,by have:=a.2;omega⟩
    ·exact⟨by have:=a.1;omega,a.2⟩
   |false=>
   have h10:k≠10:=by simpa using h10
   rw[Si h10];refine Tr ?_;cases h11:(k==11)with
   |true=>
    have h11:k=11:=by simpa using h11
    have h0:=Q (.inr h11);rw[Sj h11];have c:=Ext.drew w5;have ho6:=ho5.ext c;have hz5:w5.heap.size=(drew w5).heap.size:=rfl;have hK:∀x,(fun x:World=>SO O.heap.size (drew w5) x) x->x.heap[p.heap.size]?=(drew w5).heap[p.heap.size]?:=fun x K=>K.2 _ SM ho6.lt
    refine TZ ?_;refine aG (fun x:World=>SO O.heap.size (drew w5) x) [(1,true),(2,true),(3,true),(4,true),(0,false),(5,false),(6,false)] mixed SN (SO.refl _ _) (Ur ?_);refine cg (w:=drew w5) (F:=fun b=>B.heap.size<=b/\b<w5.heap.size) (k:=0) (fun x K b a=>K.2 b (by have:=a.1;omega) a.2) rfl rfl rfl rfl rfl rfl rfl (X.up0 c (fun b a=>a.2)) h0 SX (fun u q hu=>cD rfl (eN (Ex (drew w5) di 2) ?_));rintro lf J ⟨N,z⟩
    refine WL.nil (bf ((SO.refl _ _).ext z) ?_);have U:w5.heap.size<=J.heap.size:=z.size;have W:Rd J (fun b=>B.heap.size<=b/\b<w5.heap.size) u (D2 kids)[0]:=hu.up0 z (fun b a=>a.2);refine cD rfl (eN (Ey J (F:=fun b=>B.heap.size<=b/\b<w5.heap.size) (fun b a=>Qn a.2 U) 9 (N.wk fun _ h=>h.elim) W) ?_);rintro v f ⟨L,d⟩
    obtain⟨vo,vc,rfl,hkv⟩:=Rd.ltl L;refine WL.nil (bf (((SO.refl _ _).ext z).ext d) ?_);have T:=d.size;refine cD rfl (f_ (((D.ext c).ext z).ext d) (fun I Y s=>WL.nil (bf ((((SO.refl _ _).ext z).ext d).st s) (HL.nil ?_))));have y:=((o.trans c).trans z).trans d;have hgd:(D2 kids).getD 0 (.mk 0 0 [])=(D2 kids)[0]:=by simp[Oi,h0]
    refine Tp ?_;refine bp rfl rfl Y rfl ⟨?_,y.grown s y.size S2⟩;rw[hgd];refine fin _ _ _ _ _ L (fun b a=>?_) s;rcases a with a|a
    ·exact⟨a.1,by have:=a.2;omega⟩
    ·exact⟨by have:=a.1;omega,a.2⟩
   |false=>
    have h11:k≠11:=by simpa using h11
    rw[Si h11];refine T3 ?_;refine f_ D (fun J hr6 hg6=>?_);refine Tm ?_;exact bp rfl rfl hr6 rfl ⟨fin _ _ _ _ _ hout (fun b a=>a) hg6,o.grown hg6 o.size S2⟩
def J1(t:Ltl):Ltl×Int:=if(kD t 1 0).1≠0 then(.mk 0 0 [],(kD t 1 0).1)else(t,0)
def J2(w:World){t:Ltl}(h:Rd w F v t)(hF:∀b,F b->b<w.heap.size):
  Rt UA 190 [v].toArray w fun u w'=>∃x,u=.tuple ⟨[x,Te (J1 t).2]⟩/\Rd w' F x (J1 t).1/\Ext w w':=by
 obtain⟨ao,cap,rfl,s⟩:=Rd.ltl h;refine dU Tryz.func190 Tryz.ntmps190 rfl rfl (T9 ?_);refine eJ fun p hf j=>?_
 refine eF (fun o r i=>?_);have hf:=hf.ext i;have a:=j.trans i;refine TN ?_;refine eN (AP o (s.up0 a hF) (fun b A=>Qn (hF b A) a.size)) ?_;rintro _ n ⟨rfl,l⟩
 have z:=hf.ext l;have f:=r.ext l;have g:=a.trans l;have q:=j.size;have fin:∀k,n.grownBy k (some p.heap.size)->Ext w k:=fun k y=>g.grown y g.size S2
 refine T2 ?_;unfold J1;apply CW.cond rfl<;>intro e
 ·have e:(kD t 1 0).1≠0:=by simpa using e
  rw[Sj e];refine T9 ?_;refine WL.build (parts:=[]) rfl rfl rfl rfl (Ue ?_);refine f_ f (fun m d c=>?_);refine T5 ?_;exact bu rfl rfl rfl d rfl ⟨_,rfl,Rd.mkLtl (kids:=[]) (Sl.zero _ _),fin _ c⟩
 ·have e:(kD t 1 0).1=0:=by simpa using e
  rw[Si (by simp[e])];refine Tq ?_;refine f_ f (fun m d c=>?_);refine Tk ?_;exact bu rfl rfl rfl d rfl ⟨_,rfl,Rd.up0 h (fin _ c) hF,fin _ c⟩
def DZ(t:Ltl):Ltl×Int:=if(kD t 1 0).1≠0 then(.mk 0 0 [],(kD t 1 0).1)else J1 (D1 t)
def dq(w:World){t:Ltl}{ao:Option Addr}{cap:Nat}(C:Sl w F ao cap t.kids)(hF:∀b,F b->b<w.heap.size):
  Rt UA 112 [AR t.k t.n ao t.kids.length cap].toArray w fun u w'=>∃x,u=.tuple ⟨[x,Te (DZ t).2]⟩/\Rd w' (Nw w w') x (DZ t).1/\Ext w w':=by
 refine dU Tryz.func112 Tryz.ntmps112 rfl rfl (T9 ?_);refine eJ fun O hf l=>?_
 refine eF (fun z B g=>?_);have hf:=hf.ext g;have d:=l.trans g;have q:∀b,F b->b<z.heap.size:=fun b a=>Qn (hF b a) d.size
 refine TN ?_;refine eN (AP z (C.up0 d hF) q) ?_;rintro _ D ⟨rfl,m⟩
 have M:=hf.ext m;have j:=B.ext m;have c:=d.trans m;have I:=l.size;have H:=g.size;have K:=B.lt;have G:=m.size;refine T2 ?_;unfold DZ;apply CW.cond rfl<;>intro h
 ·have h:(kD t 1 0).1≠0:=by simpa using h
  rw[Sj h];refine T9 ?_;refine WL.build (parts:=[]) rfl rfl rfl rfl (Ue ?_);refine f_ j (fun y o p=>?_);refine T5 ?_;exact bu rfl rfl rfl o rfl ⟨_,rfl,Rd.mkLtl (kids:=[]) (Sl.zero _ _),c.grown p c.size S2⟩
 ·have h:(kD t 1 0).1=0:=by simpa using h
  rw[Si (by simp[h])];refine Tq ?_;refine eN (D5 t.nodes t Ta (kM t 1 0 h) D F ao cap (C.up0 c hF) (fun b a=>Qn (hF b a) c.size)) ?_;rintro v y ⟨J,s⟩
  refine eN (J2 y J (fun b a=>a.2)) ?_;rintro _ w5 ⟨x,rfl,A,r⟩
  obtain⟨xo,xc,rfl,L⟩:=Rd.ltl A;have k:=(c.trans s).trans r;have E:=s.size;have i:=r.size;refine Ue ?_;refine f_ ((j.ext s).ext r) (fun N n f=>?_);refine Tk ?_;exact bu rfl rfl rfl n rfl ⟨_,rfl,((A.kept f (fun b a=>⟨Qn a.2 i,fun e=>by have:=QV e;have:=a.1;omega⟩)).wk (fun b a=>⟨by have:=a.1;omega,Qn a.2 (Qk i f.size)⟩)),k.grown f k.size S2⟩
open Go.Shelf
def HZ:Ren:=⟨fun x=>if Nat.beq x 125=true then 195 else if Nat.beq x 128=true then 256 else if Nat.beq x 129=true then 257 else if Nat.beq x 189=true then 114 else if Nat.beq x 215=true then 279 else if Nat.beq x 216=true then 253 else if Nat.beq x 257=true then 194 else if Nat.beq x 294=true then 247 else if Nat.beq x 295=true then 248 else if Nat.beq x 296=true then 249 else if Nat.beq x 297=true then 250 else if Nat.beq x 298=true then 251 else if Nat.beq x 299=true then 252 else if Nat.beq x 300=true then 254 else if Nat.beq x 301=true then 255 else if Nat.beq x 328=true then 274 else if Nat.beq x 329=true then 275 else if Nat.beq x 330=true then 276 else if Nat.beq x 331=true then 277 else if Nat.beq x 332=true then 278 else if Nat.beq x 343=true then 283 else 0,fun x=>if Nat.beq x 0=true then 0 else if Nat.beq x 3=true then 3 else if Nat.beq x 4=true then 4 else if Nat.beq x 5=true then 5 else if Nat.beq x 9=true then 9 else if Nat.beq x 28=true then 39 else if Nat.beq x 46=true then 275 else if Nat.beq x 51=true then 315 else if Nat.beq x 53=true then 131 else if Nat.beq x 131=true then 232 else if Nat.beq x 182=true then 307 else if Nat.beq x 183=true then 308 else if Nat.beq x 218=true then 332 else if Nat.beq x 222=true then 206 else if Nat.beq x 228=true then 338 else if Nat.beq x 229=true then 339 else 0,fun x=>x⟩
set_option maxRecDepth 100000 in
def HY:Lays.n189 UA HZ where
 mixed:=by kernel_rfl
 f125:=(Tryz.func195).trans SN
 f128:=(Tryz.func256).trans SN
 f129:=(Tryz.func257).trans SN
 f189:=(Tryz.func114).trans SN
 f215:=(Tryz.func279).trans SN
 f216:=(Tryz.func253).trans SN
 f257:=(Tryz.func194).trans SN
 f294:=(Tryz.func247).trans SN
 f295:=(Tryz.func248).trans SN
 f296:=(Tryz.func249).trans SN
 f297:=(Tryz.func250).trans SN
 f298:=(Tryz.func251).trans SN
 f299:=(Tryz.func252).trans SN
 f300:=(Tryz.func254).trans SN
 f301:=(Tryz.func255).trans SN
 f328:=(Tryz.func274).trans SN
 f329:=(Tryz.func275).trans SN
 f330:=(Tryz.func276).trans SN
 f331:=(Tryz.func277).trans SN
 f332:=(Tryz.func278).trans SN
 f343:=(Tryz.func283).trans SN
 t0:=Tryz.underlying0
 a0:=Tryz.isAgg0
 z0:=Tryz.sizeOf0
 v0:=Tryz.zeroValue0
 t3:=Rw
 a3:=Q8
 z3:=Rg
 v3:=RM
 t4:=RC
 a4:=Q9
 z4:=Ri
 v4:=RO
 t5:=RD
 a5:=Q_
 z5:=Rj
 v5:=RP
 t9:=RI
 a9:=Ra
 z9:=Rk
 v9:=RQ
 t28:=RB
 a28:=Tryz.isAgg39
 z28:=Tryz.sizeOf39
 v28:=Tryz.zeroValue39
 t46:=Ru
 a46:=Tryz.isAgg275
 z46:=Rf
 v46:=RK
 t51:=Ry
 a51:=Tryz.isAgg315
 z51:=Rh
 v51:=RN
 t53:=Rm
 a53:=Tryz.isAgg131
 z53:=Tryz.sizeOf131
 v53:=Tryz.zeroValue131
 t131:=Tryz.underlying232
 a131:=Tryz.isAgg232
 z131:=Tryz.sizeOf232
 v131:=Tryz.zeroValue232
 t182:=Tryz.underlying307
 a182:=Tryz.isAgg307
 z182:=Tryz.sizeOf307
 v182:=Tryz.zeroValue307
 t183:=Tryz.underlying308
 a183:=Tryz.isAgg308
 z183:=Tryz.sizeOf308
 v183:=Tryz.zeroValue308
 t218:=Tryz.underlying332
 a218:=Tryz.isAgg332
 z218:=Tryz.sizeOf332
 v218:=Tryz.zeroValue332
 t222:=Tryz.underlying206
 a222:=Tryz.isAgg206
 z222:=Tryz.sizeOf206
 v222:=Tryz.zeroValue206
 t228:=Tryz.underlying338
 a228:=Tryz.isAgg338
 z228:=Tryz.sizeOf338
 v228:=Tryz.zeroValue338
 t229:=Tryz.underlying339
 a229:=Tryz.isAgg339
 z229:=Tryz.sizeOf339
 v229:=Tryz.zeroValue339
def pX(w:World)(os:Array Obj):Ext w (Sort.grow w os):=⟨rfl,rfl,rfl,by simp[Sort.grow],fun k a=>by simp[Sort.grow,MD a]⟩
def HW(xs:List Int):List Int:=xs.mergeSort fun x y=>decide (x<=y)
def sortI_mem{xs:List Int}:x∈HW xs↔x∈xs:=List.mem_mergeSort
def HX{xs:List Int}:(HW xs).length=xs.length:=List.length_mergeSort xs
def H0(w:World){xs:List Int}(a:Own w B 3 di v xs)(o:xs.length<4611686018427387904):
  Rt UA 114 [v].toArray w fun u w'=>u=.tuple #[]/\Own w' B 3 di v (HW xs)/\w.grownBy w' v.ownBlock:=by
 have H:w.grownBy w v.ownBlock:=⟨rfl,rfl,rfl,Qj _,fun _ _ _=>rfl⟩;rcases a with⟨rfl,rfl⟩|⟨g,off,cap,cur,rfl,a⟩
 ·refine Ng (Any.slices_Sort_int_none HY none 0 w) ?_
  rintro e w' ⟨rfl,rfl⟩
  exact⟨_,rfl,rfl,by rw[show HW []=[] by simp[HW]];exact Own.nil,H⟩
 ·have s:sz Int=1:=rfl
  have q:=a.fit;have L:=a.le;have G:=a.mx;have r:=oS a.el;rw[s,Qv]at q r
  have b:∀j (d:j<xs.length),cur[off+j]?=some (Te xs[j]):=fun j d=>by
   have h1:((cur.toList.drop off).take xs.length)[j]?=(xs.map fun x=>Te x)[j]?:=by rw[r]
   rw[Oy d,Om,Ot,On d]at h1
   simpa using h1
  have M:Sort.Holds (Value.int .i64) w g off xs.toArray:=fun j d=>by
   have p:j<xs.length:=by simpa using d
   constructor
   ·have:xs.toArray[j]! =xs[j]:=by simp[p]
    rw[this];simp[World.cell?,a.blk,b j p]
   ·simp[World.frozen?,a.blk]
  have z:=HX (xs:=xs);refine Ng (Any.slices_Sort_int HY g off cap xs w M (MH.1 a.blk).1 o) ?_;rintro e w' ⟨rfl,n,os,rfl⟩
  generalize m:(xs.mergeSort fun x y=>decide (x<=y))=ys at*
  have l:ys.length=xs.length:=by rw[<-m];exact z
  rw[show HW xs=ys from m];have f:(Sort.putRow (Value.int .i64) (Sort.ahead w n) g off ys.toArray).heap[g]?=some (.cells (Sort.putCells (Value.int .i64) off ys.toArray cur) 3 (0,0)):=by
   show(w.heap.modify g _)[g]?=_;rw[MJ,Sj rfl,a.blk];rfl
  have c:∀k,k≠g->(Sort.putRow (Value.int .i64) (Sort.ahead w n) g off ys.toArray).heap[k]?=w.heap[k]?:=fun k J=>by
   show(w.heap.modify g _)[k]?=_;rw[MJ,Si (fun e=>J e.symm)]
  have A:(Sort.putRow (Value.int .i64) (Sort.ahead w n) g off ys.toArray).heap.size=w.heap.size:=by
   show(w.heap.modify g _).size=_;rw[MR]
  have E:(Sort.putRow (Value.int .i64) (Sort.ahead w n) g off ys.toArray).os=w.os:=rfl;have t:(Sort.putRow (Value.int .i64) (Sort.ahead w n) g off ys.toArray).tape=w.tape:=rfl;have D:(Sort.putRow (Value.int .i64) (Sort.ahead w n) g off ys.toArray).output=w.output:=rfl;generalize Sort.putRow (Value.int .i64) (Sort.ahead w n) g off ys.toArray=i at*
  have h:Ext i (Sort.grow i os):=pX i os;generalize Sort.grow i os=K at*
  have C:(Sort.putCells (Value.int .i64) off ys.toArray cur).size=cur.size:=by simp[Sort.putCells]
  have ho1:Own i B 3 di (.slice (some ⟨g,off,none⟩) xs.length cap) ys:=by
   refine .inr ⟨g,off,cap,_,by rw[l],⟨f,a.ge,a.nF,by omega,G,by rw[C,s];omega,?_⟩⟩;have N:(((Sort.putCells (Value.int .i64) off ys.toArray cur).toList.drop off).take (ys.length*sz Int))=ys.map fun x=>Te x:=by
    rw[s,Qv];refine N5 fun j=>?_
    by_cases d:j<xs.length
    ·rw[Oy SM,Om,MO,Sort.putCells,MI,b j d,Ot,On SM]
     simp[show j<ys.length by omega,show off+j<off+ys.length by omega]
    ·rw[Oo ST,Oo ST]
   rw[N];exact oT _ _ _
  have I:w.grownBy K (some g):=⟨h.os.trans E,h.tape.trans t,h.output.trans D,Qk SM h.size,fun k J F=>(h.block k SM).trans (c k (fun e=>F (by rw[e])))⟩;exact⟨_,rfl,rfl,ho1.extN h,I⟩
def Jc(f:Ltl):df:=(HW (sa f ([],[])).1,(sa f ([],[])).2)
def nilA5:cM:=([],[],[],[],[])
def AW(t:Ltl):cM×Int:=if(DZ t).2≠0 then(nilA5,(DZ t).2)else if Cs (Jc (DZ t).1)>10 then(nilA5,2)else(Ja (Jc (DZ t).1) (DZ t).1,0)
def D0{t:Ltl}(h:(DZ t).2=0):LJ t/\(DZ t).1=D1 t/\LJ (D1 t)/\(D1 t).nodes<=60:=by
 unfold DZ at h⊢
 split at h
 ·rename_i h1;exact absurd h h1
 rename_i h1;rw[Si h1];unfold J1 at h⊢
 split at h
 ·rename_i h2;exact absurd h h2
 rename_i h2;rw[Si h2];have h1:=(ls t).1 (by simpa using h1);have h2:=(ls (D1 t)).1 (by simpa using h2);exact⟨h1.1,rfl,h2.1,h2.2.1⟩
def Je(f:Ltl):Les (sa f ([],[])) (Jc f):=⟨fun x a=>sortI_mem.2 a,fun x a=>a⟩
def Jg{f:Ltl}(b:LJ f)(c:ui f 10=false)(h1:ui f 11=false):OkM (Jc f):=by
 have h:=sk f ([],[]) OkM.nil b c h1;exact⟨(List.mergeSort_perm _ _).nodup_iff.2 h.na,fun x a=>h.ra x (sortI_mem.1 a),h.wp⟩
def Jf{f:Ltl}(b:LJ f)(c:ui f 10=false)(h1:ui f 11=false):OkT (Jc f)/\OkF (Jc f) f:=by
 have d:=Cov.les (Je f) f (se f ([],[]));exact⟨⟨Jg b c h1,fun g a=>sd f ([],[]) (Jc f) (Je f) (fun g a=>by cases a) g a⟩,b,c,h1,d⟩
def Jd(f:Ltl):(Jc f).1.length=(sa f ([],[])).1.length/\(Jc f).2=(sa f ([],[])).2:=⟨HX,rfl⟩
def Jb{m:df}{f:Ltl}(h:Cs m<=10):OkA (Ja m f):=by
 have i:2 ^ Cs m<=2 ^ 10:=QB SM h;have b:(Ja m f).2.1.length=2 ^ Cs m:=by show(List.map _ _).length=_;rw[O1,O4]
 have c:∀(p:Nat->Bool),CQ (2 ^ Cs m) (((List.range (2 ^ Cs m)).filter p).map fun s:Nat=>(s:Int)):=fun p x e=>by
  obtain⟨y,d,rfl⟩:=Pr.1 e;rw[Po,Px]at d
  have:=d.1;constructor
  ·omega
  ·exact_mod_cast this
 refine⟨by rw[b];omega,?_,?_,?_,?_,fun r a=>?_,fun r a=>?_⟩
 ·show(List.map _ (List.filter _ _)).length<=80
  rw[O1];have:=O0 (fun g:Ltl=>decide (g.k≠7)) m.2;unfold Cs at h;omega
 ·rw[b];show(List.map _ _).length=_;rw[O1,O4]
 ·rw[b];show(List.map _ _).length=_;rw[O1,O4]
 ·rw[b];exact c _
 ·rw[b]
  obtain⟨s,_,rfl⟩:=Pr.1 a;exact c _
 ·rw[b]
  obtain⟨s,_,rfl⟩:=Pr.1 a;exact c _
def AX{t:Ltl}{L:Nat->Nat}(h:(AW t).2=0):OkA (AW t).1/\(aa (AW t).1 L↔GS L t 0)/\LJ t:=by
 unfold AW at h⊢
 split at h
 ·rename_i h1;exact absurd h h1
 rename_i h1;rw[Si h1];split at h
 ·exact absurd h SP
 rename_i h2;rw[Si h2];obtain⟨b,c,a,_⟩:=D0 (by simpa using h1:(DZ t).2=0);rw[c]at h2⊢
 have hh:=D4 t b;obtain⟨d,hF⟩:=Jf a hh.1 hh.2;refine⟨Jb SM,?_,b⟩;show aa (Ja (Jc (D1 t)) (D1 t)) L↔GS L t 0;rw[Jh d hF,D6 t b 0]
def IU{n:Nat}(h:∀r∈g,r.length<=n):oB g<=g.length*n:=by
 induction g with
 |nil=>simp[oB]
 |cons a r b=>
  have h1:=b (fun x c=>h x (Pl _ c));have h2:=h a (Pm ..);unfold oB at*
  simp only[Pd,PS,OU,P5];omega
def GO{p:Nat->Bool}{N:Nat}:(((List.range N).filter p).map fun s:Nat=>(s:Int)).length<=N:=by
 rw[O1];exact Qk (O0 _ _) (by rw[O4];exact Qj _)
def AY(t:Ltl):oB (AW t).1.2.1+(AW t).1.1.length<=8589934592/\(∀j,((AW t).1.2.1.getD j []).length<=1048576)/\(AW t).1.1.length<=1048576:=by
 have c:oB nilA5.2.1+nilA5.1.length<=8589934592/\(∀j,(nilA5.2.1.getD j []).length<=1048576)/\nilA5.1.length<=1048576:=by
  refine⟨by decide,fun j=>?_,by decide⟩;show(([]:List (List Int)).getD j []).length<=_;simp
 unfold AW;split
 ·exact c
 ·split
  ·exact c
  ·rename_i h10
   generalize Jc (DZ t).1=m at*
   generalize (DZ t).1=f;have b:2 ^ Cs m<=2 ^ 10:=QB SM SM;have a:∀r∈(Ja m f).2.1,r.length<=1024:=fun r d=>by
    obtain⟨s,_,rfl⟩:=Pr.1 d;exact Qk GO b
   have e:(Ja m f).2.1.length<=1024:=by
    show((List.range (2 ^ Cs m)).map _).length<=1024;rw[O1,O4];exact b
   have h1:(Ja m f).1.length<=1024:=Qk GO b;have h2:=IU a;have h3:(Ja m f).2.1.length*1024<=1024*1024:=Qu _ e;dsimp only;refine⟨by omega,fun j=>?_,by omega⟩;rw[Oi];cases g:(Ja m f).2.1[j]? with
   |none=>simp
   |some r=>exact Qk (a r (Pu g)) SP


instance:IsF UA 244:=UB Tryz.func244
def yq(w0:World){ao:Option Addr}{cap:Nat}{xs:List Ltl}{fv:Value}(p:Ltl->Bool)(f:Sl w0 (dl w0) ao cap xs)
  (hf:∀w,Ext w0 w->∀i (h:i<xs.length) u,Rd w (dl w0) u xs[i]->FnV UA fv [u] w fun v w'=>v=.bool (p xs[i])/\Ext w w'):
  Rt UA 244 [.slice ao xs.length cap,fv].toArray w0 fun v w'=>v=Te (idxOf p xs)/\Ext w0 w':=by
 have m:=f.len63;refine dV Tryz.func244 Tryz.ntmps244 rfl rfl (TR ?_);refine CW.loop (S:=Nat) (fun k=>[(0,.slice ao xs.length cap),(1,fv),(7,Te xs.length),(8,Te k)])
  (fun k w=>k<=xs.length/\Ext w0 w/\∀j (h:j<xs.length),j<k->p xs[j]=false) (fun k=>xs.length -k) 0 SL ⟨by omega,Ext.refl _,by omega⟩ ?_
 rintro k w ⟨n,b,hn⟩
 refine T2 ?_;apply CW.cond rfl<;>intro h
 ·simp at h
  refine TI ?_;refine fh (f.at b) h SX (fun u q g=>?_);refine eO rfl rfl rfl rfl (hf w b k h u g) ?_;rintro v w' ⟨rfl,a⟩
  refine T1 ?_;refine CW.cond rfl (fun d=>?_) (fun d=>?_)
  ·refine Th ?_
   refine bi rfl rfl ⟨?_,b.trans a⟩;rw[xT h hn d]
  ·refine Tj ?_
   refine EX.back (k+1) SL ⟨h,b.trans a,?_⟩ SM;intro j c l
   by_cases e:j=k
   ·subst e;exact d
   ·exact hn j c SM
 ·simp at h
  refine TO ?_;refine bi rfl rfl ⟨?_,b⟩;rw[xY (fun j c=>hn j c SM)]
def jn(a b:Nat)(f:a<4611686018427387904)(e:b<4611686018427387904):bits .and .i64 (a:Int) (b:Int)=((a&&&b:Nat):Int):=by
 have c:a&&&b<=a:=Nat.and_le_left;have h1:(BitVec.ofInt 64 (a:Int)).toNat=a:=by
  rw[MX,MY];exact Qq SM
 have h2:(BitVec.ofInt 64 (b:Int)).toNat=b:=by
  rw[MX,MY];exact Qq SM
 show IntKind.i64.wrap ((BitVec.ofInt 64 (a:Int)&&&BitVec.ofInt 64 (b:Int)).toNat:Int)=_;rw[BitVec.toNat_and,h1,h2,Ms SM SM]
def jp(a b:Nat)(f:a<4611686018427387904)(e:b<4611686018427387904):bits .or .i64 (a:Int) (b:Int)=((a|||b:Nat):Int):=by
 have c:a|||b<2 ^ 62:=QA SM SM;have h1:(BitVec.ofInt 64 (a:Int)).toNat=a:=by
  rw[MX,MY];exact Qq SM
 have h2:(BitVec.ofInt 64 (b:Int)).toNat=b:=by
  rw[MX,MY];exact Qq SM
 show IntKind.i64.wrap ((BitVec.ofInt 64 (a:Int)|||BitVec.ofInt 64 (b:Int)).toNat:Int)=_;rw[BitVec.toNat_or,h1,h2,Ms SM SM]
def jq(a b:Nat)(e:a<18446744073709551616)(c:b<18446744073709551616):bits .or .u64 (a:Int) (b:Int)=((a|||b:Nat):Int):=bits_or_u64_nat a b e c
def HC{s:Nat}(a:s<62):IntKind.i64.wrap (1*2 ^ min ((s:Int)).toNat IntKind.i64.bits)=((1 <<< s:Nat):Int):=by
 have h1:min s (IntKind.bits .i64)=s:=by show min s 64=s;omega
 have h2:2 ^ s<2 ^ 62:=QC SM a;simp only[Nt,h1,Ns];have h3:((2:Int) ^ s)=((2 ^ s:Nat):Int):=by norm_cast
 rw[h3,Qz];generalize 2 ^ s=x at*
 rw[Ms SM SM]
def HD{s:Nat}(a:s<64):IntKind.u64.wrap (1*2 ^ min ((s:Int)).toNat IntKind.u64.bits)=((1 <<< s:Nat):Int):=by
 have h1:min s (IntKind.bits .u64)=s:=by show min s 64=s;omega
 have h2:2 ^ s<2 ^ 64:=QC SM a;simp only[Nt,h1,Ns];have h3:((2:Int) ^ s)=((2 ^ s:Nat):Int):=by norm_cast
 rw[h3,Qz,IntKind.wrap_u64];generalize 2 ^ s=x at*
 omega
def Gt(P:Program)(w:World)(a s:Nat)(b:s<=62)(t:TypeId):(binOp .shr t (Te (a:Int)) (Te (s:Int))).run P w=.ok (Te ((a >>> s:Nat):Int)) w:=by
 rw[binOp_shr,shift_shr_i64 (h₀:=by omega) (h₁:=by omega),Nt,QD];have:((a:Int) / 2 ^ s)=((a / 2 ^ s:Nat):Int):=by norm_cast
 rw[this];rfl
section
variable {P:Program}{Q:Exit->Act->World->Prop}{n:Nat}{σ:Sg}{w wc:World}{L rest:List Oper}{ord:List (Nat×Bool)}{S:World->Prop}{i d:Nat}{ty:TypeId}{pos:String}{af:Array Edge}{g:Option (Nat×Bool)}{t yt:TypeId}{x y:Operand}
theorem f7{a s:Nat}(j:gd L σ ⟨some d,.binOp .shr t x y yt,ty,pos,af,g⟩=some true)(hd:Nat.ble (d+1) n=true)(e:ev σ x=some (Te (a:Int)))(c:ev σ y=some (Te (s:Int)))(f:s<=62)
  (h:WL P L Q rest n ((d,Te ((a >>> s:Nat):Int))::σ) w):WL P L Q (⟨some d,.binOp .shr t x y yt,ty,pos,af,g⟩::rest) n σ w:=by
 refine WL.run j hd (fun k b=>?_) h;have:=Gt P w a s f t;simp[execOp,b.ev e,b.ev c,pw (op:=.shr) rfl,this]
theorem cI{a s:Nat}(k:Cm L i=some ⟨some d,.binOp .shr t x y yt,ty,pos,af,g⟩)(l:gd L σ ⟨some d,.binOp .shr t x y yt,ty,pos,af,g⟩=some true)(hd:Nat.ble (d+1) n=true)(f:ev σ x=some (Te (a:Int)))(e:ev σ y=some (Te (s:Int)))(j:s<=62)
  (h:HL P L S Q ord n ((d,Te ((a >>> s:Nat):Int))::σ) wc):HL P L S Q ((i,true)::ord) n σ wc:=by
 refine HL.run k l hd (fun m b c _=>?_) h;have:=Gt P c a s j t;simp[execOp,b.ev f,b.ev e,pw (op:=.shr) rfl,this]
end
instance:IsFd UA 212 0 0:=IsFd.of SN
instance:IsFd UA 212 1 1:=IsFd.of SN
instance:IsZC UA 212 [.slice none 0 0,.slice none 0 0]:=IsZC.of (z:=.agg #[.slice none 0 0,.slice none 0 0]) SN rfl
instance:IsBd UA 212 [(0,1),(1,1)]:=IsBd.of SN
structure MkA(w:World)(sb:Nat)(m:df):Prop where
 ok:∃ao ac po pc,Blk w sb 212 [.slice ao m.1.length ac,.slice po m.2.length pc]/\Sl w (dl w) ao ac m.1/\Sl w (dl w) po pc m.2
def MkA.ext{w':World}{m:df}(h:MkA w B m)(a:Ext w w'):MkA w' B m:=by
 obtain⟨ao,ac,b,c,h1,h2,h3⟩:=h.ok;exact⟨ao,ac,b,c,h1.ext a,h2.up a,h3.up a⟩
def DC(w:World)(b:Nat){t g:Ltl}{ao:Option Addr}(e:Blk w b 32 [Te t.k,Te t.n,.slice ao t.kids.length B])(f:Sl w (dl w) ao B t.kids)(h:Sl w (dl w) C a g.kids):
  Rt UA 245 [AR g.k g.n C g.kids.length a,Tg b].toArray w fun v w'=>v=.bool (GD t g)/\Ext w w':=by
 refine dV Tryz.func245 Tryz.ntmps245 rfl rfl ?_;refine T9 ?_;refine eJ fun d i c=>?_
 have e:=e.ext c;refine TN ?_;refine eN (Ew _ t g Ta d (dl d) ao C B a (f.up c) (h.up c) S3) ?_;rintro _ k ⟨rfl,j⟩
 refine Tk ?_;exact bj ⟨rfl,c.trans j⟩
def DJ(w:World){m:df}{t:Ltl}(o:MkA w B m)(k:Sl w (dl w) C a t.kids):
  Rt UA 193 [Tg B,AR t.k t.n C t.kids.length a].toArray w fun v w'=>v=Te (DF m t)/\Ext w w':=by
 refine dV Tryz.func193 Tryz.ntmps193 rfl rfl (T9 ?_);refine eJ fun h d e=>?_
 obtain⟨ao,ac,q,r,g,h1,h2⟩:=(o.ext e).ok;refine TQ ?_;refine eN (yq h (GD t) h2 (fun f c i hi u j=>?_)) ?_
 ·obtain⟨go,gc,rfl,l⟩:=Rd.ltl j
  exact FnV.mk (cs:=[_]) (DC f _ (d.ext c) (k.up (e.trans c)) (l.mono S8 (fun b n=>Qn n c.size)))
 rintro _ f ⟨rfl,p⟩
 refine Tk ?_;exact bj ⟨rfl,e.trans p⟩
def lH{s i:Nat}:((((s >>> i&&&1:Nat):Int))==1)=s.testBit i:=by
 rw[M2,<-HE];simp only[RZ];omega
def lI(w0:World){m:df}{t:Ltl}{s:Nat}(p:MkA w0 B m)(u:Sl w0 (dl w0) C a t.kids)(D:s<1048576)(E:m.1.length<=20/\m.2.length<=20)(h3:t.k=3->t.n∈m.1)(r:t.k≠3->t∈m.2):
  Rt UA 196 [Tg B,AR t.k t.n C t.kids.length a,Te (s:Int)].toArray w0 fun v w'=>v=.bool (lG m s t)/\Ext w0 w':=by
 refine dW Tryz.func196 Tryz.ntmps196 rfl rfl (T9 ?_);refine eJ fun b n j=>?_
 obtain⟨ao,ac,x,A,f,h1,h2⟩:=(p.ext j).ok;have d:∀i:Nat,s >>> i<4611686018427387904:=fun i=>by have:=QE s i;omega
 have c:=Ext.drew b;have w:∀z,(fun z:World=>Ext (drew b) z) z->Ext (drew b) z:=fun _ h=>h
 have l:=f.ext c;have o:=n.ext c;refine TJ ?_;apply CW.cond rfl<;>intro h
 ·have h:t.k=3:=by simpa using h
  obtain⟨i,hi,e,_⟩:=iE (h3 h);have k:lG m s t=s.testBit i:=by unfold lG;rw[Sj h,e,Nt]
  rw[k];refine T9 ?_;refine aG (fun z:World=>Ext (drew b) z) [(0,true),(1,true),(2,true),(3,true),(4,true),(5,true),(6,true),(7,false),(8,true),(9,true),(10,true),(11,true)] mixed SN Tc (Ut ?_);refine cD rfl (eN (yx (drew b) t.n (h1.up c)) ?_);rintro _ q ⟨rfl,g⟩
  refine WL.nil (bf g ?_);rw[show idxOf (fun y=>t.n==y) m.1=(i:Int) from e];refine cI rfl rfl rfl rfl rfl SM (Uu ?_);rw[show bits .and .i64 ((s >>> i:Nat):Int) 1=((s >>> i&&&1:Nat):Int) from jn _ 1 (d i) SM,lH];refine Tp ?_;exact bj ⟨rfl,(j.trans c).trans g⟩
 ·have h:t.k≠3:=by simpa using h
  obtain⟨i,hi,e,_⟩:=DG (r h);have k:lG m s t=s.testBit (m.1.length+i):=by unfold lG;rw[Si h,e,Nt]
  rw[k];refine T7 ?_;refine aG (fun z:World=>Ext (drew b) z) [(0,true),(1,true),(2,true),(3,true),(4,true),(5,true),(6,true),(7,true),(8,false),(9,true),(10,true),(11,true),(12,true),(13,true)] mixed SN Tc (Up ?_);refine cD rfl (eN (DJ (drew b) (t:=t) ((p.ext j).ext c) (u.up (j.trans c))) ?_);rintro _ q ⟨rfl,g⟩
  refine WL.nil (bf g ?_);rw[e];refine Ur ?_;rw[show((m.1.length:Nat):Int)+(i:Int)=((m.1.length+i:Nat):Int) by omega];refine cI rfl rfl rfl rfl rfl SM (Uu ?_);rw[show bits .and .i64 ((s >>> (m.1.length+i):Nat):Int) 1=((s >>> (m.1.length+i)&&&1:Nat):Int) from jn _ 1 (d _) SM,lH];refine TV ?_;exact bj ⟨rfl,(j.trans c).trans g⟩
def LM:∀t,LJ t->t=.mk 1 0 []\/t=.mk 2 0 []\/(∃n,t=.mk 3 n [])\/(∃k a,(k=4\/k=7\/k=10\/k=11)/\t=.mk k 0 [a])\/∃k a b,(k=5\/k=6\/k=8\/k=9)/\t=.mk k 0 [a,b]:=
 LN (M:=fun t=>t=.mk 1 0 []\/t=.mk 2 0 []\/(∃n,t=.mk 3 n [])\/(∃k a,(k=4\/k=7\/k=10\/k=11)/\t=.mk k 0 [a])\/∃k a b,(k=5\/k=6\/k=8\/k=9)/\t=.mk k 0 [a,b])
  (.inl rfl) (.inr (.inl rfl)) (fun n _ _=>.inr (.inr (.inl ⟨n,rfl⟩))) (fun k a c _ _=>.inr (.inr (.inr (.inl ⟨k,a,c,rfl⟩)))) (fun k a b c _ _ _ _=>.inr (.inr (.inr (.inr ⟨k,a,b,c,rfl⟩))))
def JL:∀(d:Nat) (t:Ltl),t.nodes<=d->∀(w0:World) {sb:Nat} {m:df} {s:Nat} {ko:Option Addr} {kc:Nat},MkA w0 sb m->OkF m t->Sl w0 (dl w0) ko kc t.kids->s<1048576->(m.1.length<=20/\m.2.length<=20)->
  Rt UA 116 [Tg sb,AR t.k t.n ko t.kids.length kc,Te (s:Int)].toArray w0 fun v w'=>v=.bool (ut m s t)/\Ext w0 w':=by
 intro d
 induction d with
 |zero=>intro t h;have:=t.nodes_pos;omega
 |succ d D=>
  intro t hd w0 sb m s ko kc A hF y w x
  have J:=hF.cov;rcases LM t hF.wf with rfl|rfl|⟨n,rfl⟩|⟨k,a,G,rfl⟩|⟨k,a,b,G,rfl⟩
  ·refine dW Q6 Rb rfl rfl ?_
   rw[ho1];refine T9 ?_;refine eJ fun p c e=>?_
   refine T_ ?_;exact bj ⟨rfl,e⟩
  ·refine dW Q6 Rb rfl rfl ?_
   rw[ho2];refine T9 ?_;refine eJ fun p c e=>?_
   refine T_ ?_;exact bj ⟨rfl,e⟩
  ·simp only[Cov]at J
   have h3:=ho3 (m:=m) (s:=s) (n:=n);refine dW Q6 Rb rfl rfl ?_;refine T9 ?_;refine eJ fun p c e=>?_
   refine T_ ?_;refine eN (lI p (t:=.mk 3 n []) (A.ext e) (y.up e) w x (fun _=>J.1 trivial) (fun h=>absurd rfl h)) ?_;rintro _ C ⟨rfl,f⟩
   refine Tk ?_;exact bi rfl rfl ⟨by rw[h3];rfl,e.trans f⟩
  ·have H:=hF.un
   have z:a.nodes<=d:=by simp only[Ltl.nodes,Ltl.nodesL]at hd;omega
   rcases G with rfl|rfl|rfl|rfl
   ·refine dW Q6 Rb rfl rfl ?_
    rw[ho4];refine T9 ?_;refine eJ fun p c e=>?_
    refine TX ?_;refine fg (i:=0) rfl rfl rfl rfl rfl (y.up e) (by simp[Ltl.kids]) SX (fun u q o=>?_);obtain⟨uo,uc,rfl,g⟩:=Rd.ltl (t:=a) o;refine Ue ?_;refine eN (D a z p (A.ext e) H g w x) ?_;rintro _ C ⟨rfl,f⟩
    refine T5 ?_;exact bj ⟨rfl,e.trans f⟩
   ·simp only[Cov]at J
    have N:=ho7 (m:=m) (s:=s) (n:=0) (a:=a);refine dW Q6 Rb rfl rfl ?_;refine T9 ?_;refine eJ fun p c e=>?_
    refine T_ ?_;refine eN (lI p (t:=.mk 7 0 [a]) (A.ext e) (y.up e) w x (fun h=>by cases h) (fun _=>J.2.1 SQ)) ?_;rintro _ C ⟨rfl,f⟩
    refine Tk ?_;exact bi rfl rfl ⟨by rw[N];rfl,e.trans f⟩
   ·have:=hF.h10;simp[ui]at this
   ·have:=hF.h11;simp[ui]at this
  ·have H:=hF.b1
   have K:=hF.b2;have z:a.nodes<=d:=by simp only[Ltl.nodes,Ltl.nodesL]at hd;omega
   have E:b.nodes<=d:=by simp only[Ltl.nodes,Ltl.nodesL]at hd;omega
   rcases G with rfl|rfl|rfl|rfl
   ·refine dW Q6 Rb rfl rfl ?_
    rw[ho5];refine T9 ?_;refine eJ fun p c e=>?_
    refine TX ?_;refine fg (i:=0) rfl rfl rfl rfl rfl (y.up e) (by simp[Ltl.kids]) SX (fun u q o=>?_);obtain⟨uo,uc,rfl,g⟩:=Rd.ltl (t:=a) o;refine Ue ?_;refine eN (D a z p (A.ext e) H g w x) ?_;rintro _ C ⟨rfl,f⟩
    have c:=c.ext f;cases ut m s a
    ·refine TT ?_
     exact bj ⟨rfl,e.trans f⟩
    ·refine Uh ?_
     refine fg (i:=1) rfl rfl rfl rfl rfl (y.up (e.trans f)) (by simp[Ltl.kids]) SX (fun u q o=>?_);obtain⟨vo,vc,rfl,r⟩:=Rd.ltl (t:=b) o;refine Ue ?_;refine eN (D b E C (A.ext (e.trans f)) K r w x) ?_;rintro _ I ⟨rfl,F⟩
     refine T5 ?_;exact bj ⟨rfl,(e.trans f).trans F⟩
   ·refine dW Q6 Rb rfl rfl ?_
    rw[ho6];refine T9 ?_;refine eJ fun p c e=>?_
    refine TX ?_;refine fg (i:=0) rfl rfl rfl rfl rfl (y.up e) (by simp[Ltl.kids]) SX (fun u q o=>?_);obtain⟨uo,uc,rfl,g⟩:=Rd.ltl (t:=a) o;refine Ue ?_;refine eN (D a z p (A.ext e) H g w x) ?_;rintro _ C ⟨rfl,f⟩
    have c:=c.ext f;cases ut m s a
    ·refine Uh ?_
     refine fg (i:=1) rfl rfl rfl rfl rfl (y.up (e.trans f)) (by simp[Ltl.kids]) SX (fun u q o=>?_);obtain⟨vo,vc,rfl,r⟩:=Rd.ltl (t:=b) o;refine Ue ?_;refine eN (D b E C (A.ext (e.trans f)) K r w x) ?_;rintro _ I ⟨rfl,F⟩
     refine T5 ?_;exact bj ⟨rfl,(e.trans f).trans F⟩
    ·refine TT ?_
     exact bj ⟨rfl,e.trans f⟩
   ·have B:=hF.cov
    simp only[Cov]at B
    refine dW Q6 Rb rfl rfl ?_;rw[ho8];refine T9 ?_;refine eJ fun p c e=>?_
    refine TX ?_;refine fg (i:=1) rfl rfl rfl rfl rfl (y.up e) (by simp[Ltl.kids]) SX (fun u q o=>?_);obtain⟨uo,uc,rfl,r⟩:=Rd.ltl (t:=b) o;refine Ue ?_;refine eN (D b E p (A.ext e) K r w x) ?_;rintro _ C ⟨rfl,f⟩
    have c:=c.ext f;have l:=e.trans f;cases ut m s b
    ·refine Uh ?_
     refine fg (i:=0) rfl rfl rfl rfl rfl (y.up l) (by simp[Ltl.kids]) SX (fun u q o=>?_);obtain⟨vo,vc,rfl,g⟩:=Rd.ltl (t:=a) o;refine Ue ?_;refine eN (D a z C (A.ext l) H g w x) ?_;rintro _ I ⟨rfl,F⟩
     have c:=c.ext F;have j:=l.trans F;cases ut m s a
     ·refine TT ?_
      exact bj ⟨rfl,j⟩
     ·refine Uk ?_
      refine eN (lI I (t:=.mk 8 0 [a,b]) (A.ext j) (y.up j) w x (fun h=>by cases h) (fun _=>B.2.1 SQ)) ?_;rintro _ M ⟨rfl,L⟩
      refine T5 ?_;exact bj ⟨rfl,j.trans L⟩
    ·refine TT ?_
     exact bj ⟨rfl,l⟩
   ·have B:=hF.cov
    simp only[Cov]at B
    refine dW Q6 Rb rfl rfl ?_;rw[ho9];refine T9 ?_;refine eJ fun p c e=>?_
    refine TX ?_;refine fg (i:=1) rfl rfl rfl rfl rfl (y.up e) (by simp[Ltl.kids]) SX (fun u q o=>?_);obtain⟨uo,uc,rfl,r⟩:=Rd.ltl (t:=b) o;refine Ue ?_;refine eN (D b E p (A.ext e) K r w x) ?_;rintro _ C ⟨rfl,f⟩
    have c:=c.ext f;have l:=e.trans f;cases ut m s b
    ·refine TT ?_
     exact bj ⟨rfl,l⟩
    ·refine Uh ?_
     refine fg (i:=0) rfl rfl rfl rfl rfl (y.up l) (by simp[Ltl.kids]) SX (fun u q o=>?_);obtain⟨vo,vc,rfl,g⟩:=Rd.ltl (t:=a) o;refine Ue ?_;refine eN (D a z C (A.ext l) H g w x) ?_;rintro _ I ⟨rfl,F⟩
     have c:=c.ext F;have j:=l.trans F;cases ut m s a
     ·refine Uk ?_
      refine eN (lI I (t:=.mk 9 0 [a,b]) (A.ext j) (y.up j) w x (fun h=>by cases h) (fun _=>B.2.1 SQ)) ?_;rintro _ M ⟨rfl,L⟩
      refine T5 ?_;exact bj ⟨rfl,j.trans L⟩
     ·refine TT ?_
      exact bj ⟨rfl,j⟩
def Dr(w:World){m:df}{s:Nat}(b:MkA w B m)(e:m.1.length<=20):Rt UA 118 [Tg B,Te (s:Int)].toArray w fun v w'=>v=Te ((s >>> m.1.length:Nat):Int)/\w=w':=by
 obtain⟨ao,ac,c,d,a,h1,h2⟩:=b.ok;refine dV Tryz.func118 Tryz.ntmps118 rfl rfl (TQ ?_);refine f7 rfl rfl rfl rfl SM (Tk ?_);exact bj ⟨rfl,rfl⟩
def ik{n:Int}{a:Ltl}:ij (.mk 7 n [a])=a:=rfl
def im{k n:Int}{l:List Ltl}(h:k=8\/k=9):ij (.mk k n l)=.mk k n l:=by
 unfold ij;rw[Si (by simp only[Ltl.k];omega)]
def zm(w0:World){m:df}{s:Nat}(R:MkA w0 B m)(Q:OkT m)(X:s<1048576)(Y:m.1.length<=20/\m.2.length<=20):
  Rt UA 115 [Tg B,Te (s:Int)].toArray w0 fun v w'=>v=Te ((zk m s:Nat):Int)/\Ext w0 w':=by
 obtain⟨ao,ac,po,pc,Z,h1,h2⟩:=R.ok;have hpl:=h2.len63;refine dV Tryz.func115 Tryz.ntmps115 rfl rfl (TQ ?_);refine CW.loop (S:=Nat) (fun i=>[(0,Tg B),(1,Te (s:Int)),(5,Te ((Dt (fun i=>ut m s (ij (m.2.getD i BS))) i:Nat):Int)),(12,.slice po m.2.length pc),(13,Te m.2.length),(14,Te i)])
  (fun i w=>i<=m.2.length/\Ext w0 w) (fun i=>m.2.length -i) 0 SL ⟨QK _,Ext.refl _⟩ ?_
 rintro i w ⟨hi,I⟩
 have hpk:=Dv (f:=fun i=>ut m s (ij (m.2.getD i BS))) (c:=i);have x:2 ^ i<=2 ^ 20:=QB SM SM;refine T2 ?_;apply CW.cond rfl<;>intro h
 ·have j:i<m.2.length:=by simp at h;omega
  have F:m.2[i]∈m.2:=OG j;have P:m.2.getD i BS=m.2[i]:=tB j;have hF:=Q.arg F;have N:=DK (Q.part F).wf (Q.ok.wp _ F).2.1;have d:Dt (fun i=>ut m s (ij (m.2.getD i BS))) (i+1)=if ut m s (ij m.2[i])=true then Dt (fun i=>ut m s (ij (m.2.getD i BS))) i|||(1 <<< i)else Dt (fun i=>ut m s (ij (m.2.getD i BS))) i:=by
   rw[Dt,P]
  have T:2 ^ i<4611686018427387904:=Qm x SP;generalize Dt (fun i=>ut m s (ij (m.2.getD i BS))) i=acc at*
  have y:=jp acc (1 <<< i) SM (by rw[Qz];exact T);refine TL ?_;refine fh (h2.up I) j SX (fun u q M=>?_);generalize m.2[i]=g at*
  obtain⟨go,gc,rfl,C⟩:=Rd.ltl M;refine eF (fun w1 l e1=>?_);have z1:=l.lt;refine Ue ?_;refine f_ l (fun W l E=>?_);have K:Ext w W:=e1.grown E e1.size SZ;refine TN ?_;refine eF (fun w3 o V=>?_);have l:=l.ext V;refine f_ o (fun L o D=>?_);have J:Ext W L:=V.grown D V.size SZ;have z2:=E.size;have n:=(I.trans K).trans J;have A:=C.up (K.trans J);have l:=l.kept D S6;rcases N with⟨a,rfl⟩|⟨k,a,b,hk,rfl⟩
  ·rw[ik]at hF d
   refine TW ?_;refine fg (i:=0) rfl rfl rfl rfl rfl (C.mono (w':=L) (fun b r=>(K.trans J).block b r) (F':=dl w) S3) (by simp[Ltl.kids]) SX (fun u q M=>?_);obtain⟨uo,uc,rfl,O⟩:=Rd.ltl (t:=a) M;refine f_ o (fun w5 o p=>?_);have U:Ext w0 w5:=n.grown p n.size (fun g F=>by cases F;have:=I.size;omega);have z4:=(K.trans J).size;have z5:=p.size;have z:Sl w5 (dl w5) uo uc a.kids:=O.mono (fun b r=>p.block b (by have G:b<w.heap.size:=r;omega) (fun e=>by have:=QV e;have G:b<w.heap.size:=r;omega)) (fun b r=>by have G:b<w.heap.size:=r;exact(show b<w5.heap.size by omega));refine TN ?_;refine eN (JL _ a Ta w5 (R.ext U) hF z X Y) ?_;rintro _ w6 ⟨rfl,H⟩
   cases hh:ut m s a
   ·rw[hh,Si SP]at d
    refine Tz ?_;refine EX.back (i+1) ?_ ⟨j,U.trans H⟩ SM;rw[d];exact SL
   ·rw[hh,Sj rfl]at d
    refine TF ?_;rw[HC (show i<62 by omega),y];refine EX.back (i+1) ?_ ⟨j,U.trans H⟩ SM;rw[d];exact SL
  ·rw[im hk]at hF d
   have h7:(k==7)=false:=by
    rw[RY];omega
   refine TJ ?_;refine CW.cond rfl (fun h=>by rw[show((Ltl.mk k 0 [a,b]).k==7)=false from h7]at h;cases h) (fun _=>TE ?_);refine eN (JL _ (.mk k 0 [a,b]) Ta L (R.ext n) hF A X Y) ?_;rintro _ w6 ⟨rfl,H⟩
   cases hh:ut m s (.mk k 0 [a,b])
   ·rw[hh,Si SP]at d
    refine Tz ?_;refine EX.back (i+1) ?_ ⟨j,n.trans H⟩ SM;rw[d];exact SL
   ·rw[hh,Sj rfl]at d
    refine TF ?_;rw[HC (show i<62 by omega),y];refine EX.back (i+1) ?_ ⟨j,n.trans H⟩ SM;rw[d];exact SL
 ·obtain rfl:i=m.2.length:=by simp at h;omega
  refine TO ?_;exact bj ⟨rfl,I⟩
def JD{s i:Nat}(a:s<1048576)(is:Bool):((((bits .and .i64 ((s >>> i:Nat):Int) 1:Int)==1))==is)=(s.testBit i==is):=by
 rw[show bits .and .i64 ((s >>> i:Nat):Int) 1=((s >>> i&&&1:Nat):Int) from jn _ 1 (by have:=QE s i;omega) SM,lH]
def jo(w0:World){m:df}{s:Nat}(is:Bool)(u:MkA w0 B m)(l:OkM m)(r:s<1048576)(C:m.1.length<=20):
  Rt UA 119 [Tg B,Te (s:Int),.bool is].toArray w0 fun v w'=>v=.int .u64 ((jm m s is:Nat):Int)/\Ext w0 w':=by
 obtain⟨ao,ac,z,A,n,h1,h2⟩:=u.ok;refine dW Tryz.func119 Tryz.ntmps119 rfl rfl (TQ ?_);refine CW.loop (S:=Nat) (fun i=>[(1,Te (s:Int)),(2,.bool is),(7,.int .u64 ((jj m.1 s is i:Nat):Int)),(13,.slice ao m.1.length ac),(14,Te m.1.length),(15,Te i)])
  (fun i w=>i<=m.1.length/\Ext w0 w) (fun i=>m.1.length -i) 0 SL ⟨QK _,Ext.refl _⟩ ?_
 rintro i w ⟨hi,f⟩
 have t:=jk (s:=s) (is:=is) (fun x p=>(l.ra x p).2) hi;refine T2 ?_;apply CW.cond rfl<;>intro h
 ·have c:i<m.1.length:=by simp at h;omega
  have j:=l.ra _ (OG c);have k:m.1.getD i 0=m.1[i]:=by rw[Oi,On c];rfl
  have b:jj m.1 s is (i+1)=if s.testBit i=is then jj m.1 s is i|||(1 <<< (m.1.getD i 0).toNat)else jj m.1 s is i:=rfl
  rw[k]at b
  generalize jj m.1 s is i=acc at*
  obtain⟨a,o⟩:=Nn j.1;have d:a<64:=by omega
  rw[o,Nt]at b
  have y:2 ^ a<2 ^ 64:=QC SM d;have g:=jq acc (1 <<< a) SM (by rw[Qz];omega);refine TL ?_;refine ff (h1.up f) c o SX (fun q=>?_);refine T2 ?_;refine f7 rfl rfl rfl rfl SM (TB ?_);rw[JD r];by_cases e:s.testBit i=is
  ·rw[Sj e]at b
   rw[show(s.testBit i==is)=true by rw[e];simp];refine TF ?_;rw[HD d,g];refine EX.back (i+1) ?_ ⟨c,f⟩ SM;rw[b];exact SL
  ·rw[Si e]at b
   rw[show(s.testBit i==is)=false by rw[RY];exact e];refine Tz ?_;refine EX.back (i+1) ?_ ⟨c,f⟩ SM;rw[b];exact SL
 ·obtain rfl:i=m.1.length:=by simp at h;omega
  refine TO ?_;exact bj ⟨rfl,f⟩
def JJ(w0:World){m:df}{s:Nat}{k:Int}{a b:Ltl}(l:MkA w0 B m)(hF:OkF m (.mk k 0 [a,b]))(y:k=8\/k=9)(f:Sl w0 (dl w0) C K [a,b])(h:s<1048576)(j:m.1.length<=20/\m.2.length<=20):
  Rt UA 120 [Tg B,AR k 0 C 2 K,Te (s:Int)].toArray w0 fun v w'=>v=.bool (pZ m (.mk k 0 [a,b]) s)/\Ext w0 w':=by
 have r:pZ m (.mk k 0 [a,b]) s=if k=8 then !(ut m s (.mk k 0 [a,b]))||ut m s b else ut m s (.mk k 0 [a,b])||!(ut m s b):=rfl
 rw[r];rcases y with rfl|rfl
 ·rw[Sj rfl]
  refine dW Tryz.func120 Tryz.ntmps120 rfl rfl ?_;refine T9 ?_;refine eJ fun o d c=>?_
  refine TW ?_;refine eN (JL _ (.mk 8 0 [a,b]) Ta o (l.ext c) hF (f.up c) h j) ?_;rintro _ n ⟨rfl,e⟩
  have d:=d.ext e;cases ut m s (.mk 8 0 [a,b])
  ·refine TT ?_
   exact bj ⟨rfl,c.trans e⟩
  ·refine Uh ?_
   refine fg (i:=1) rfl rfl rfl rfl rfl (f.up (c.trans e)) SQ SX (fun u q p=>?_);obtain⟨vo,vc,rfl,g⟩:=Rd.ltl (t:=b) p;refine Ue ?_;refine eN (JL _ b Ta n (l.ext (c.trans e)) hF.b2 g h j) ?_;rintro _ x ⟨rfl,w⟩
   refine T5 ?_;exact bj ⟨rfl,(c.trans e).trans w⟩
 ·rw[Si SP]
  refine dW Tryz.func120 Tryz.ntmps120 rfl rfl ?_;refine T9 ?_;refine eJ fun o d c=>?_
  refine T_ ?_;refine eN (JL _ (.mk 9 0 [a,b]) Ta o (l.ext c) hF (f.up c) h j) ?_;rintro _ n ⟨rfl,e⟩
  have d:=d.ext e;cases ut m s (.mk 9 0 [a,b])
  ·refine Uh ?_
   refine fg (i:=1) rfl rfl rfl rfl rfl (f.up (c.trans e)) SQ SX (fun u q p=>?_);obtain⟨vo,vc,rfl,g⟩:=Rd.ltl (t:=b) p;refine Ue ?_;refine eN (JL _ b Ta n (l.ext (c.trans e)) hF.b2 g h j) ?_;rintro _ x ⟨rfl,w⟩
   refine Tk ?_;exact bj ⟨rfl,(c.trans e).trans w⟩
  ·refine TT ?_
   exact bj ⟨rfl,c.trans e⟩
def De(L:List Oper)(c:Nat)(B:Array Bool->Bool):List (Nat×Nat)->Array Bool->Bool
 |[],a=>B a
 |(i,k)::r,a=>match k with
  |0=>decide (Region.ready .any L.toArray a=[i])&&De L c B r (a.setIfInBounds i true)
  |1=>(Region.ready .any L.toArray a).contains i&&Region.free .any L.toArray a i&&decide (i≠c)&&decide (i≠L.length)&&De L c B r (a.setIfInBounds i true)
  |2=>(Region.ready .any L.toArray a).contains i&&Region.free .any L.toArray a i&&decide (i≠c)&&decide (i≠L.length)&&ja L c i&&De L c B r (a.setIfInBounds i true)
  |_=>false
def Mq{P:Program}{L:List Oper}{c n0:Nat}{Sw Ss:World->Prop}{Q Q':Act->World->Prop}{Bc:Array Bool->Bool}(F:Region.noSelect L.toArray=true)
  (m:∀(ph:Bool) (b:Array Bool) (a:Act) (w:World),Bc b=true->Cls L b->b.getD c false=ph->SG c L.length Sw Ss b w->Q' a w->L9 P L.toArray (fun e a w=>e=.normal/\Q a w) (SG c L.length Sw Ss) n0 b a w):
  ∀(ord:List (Nat×Nat)) (ph:Bool) (b:Array Bool) (a:Act) (w:World),De L c Bc ord b=true->Cls L b->(b.getD c false=ph)->SG c L.length Sw Ss b w->Mn P L c L.length Sw Ss Q' ph ord a w->
   L9 P L.toArray (fun e a w=>e=.normal/\Q a w) (SG c L.length Sw Ss) (ord.length+n0) b a w
 |[],ph,b,a,w,y,u,p,hS,h=>by
  rw[O2,QJ];exact m ph b a w y u p hS h
 |(i,0)::r,ph,b,a,w,y,u,p,hS,⟨o,B,h⟩=>by
  simp only[De,MZ,R_]at y
  obtain⟨K,J⟩:=y;have g:i∈Region.ready .any L.toArray b:=by rw[K];simp
  have I:=u.put g;have H:i<L.length:=(Oq.1 B).1;have d:(b.setIfInBounds i true).getD c false=(ph||Nat.beq i c):=by
   cases e:Nat.beq i c with
   |true=>
    obtain rfl:=Qc e;have:=u.size;simp[MC,show i<b.size by omega]
   |false=>
    have f:i≠c:=fun h=>by subst h;rw[P_]at e;cases e
    rw[tk f,p,Nb]
  rw[OU,P7];refine⟨fun S=>(by rw[S]at g;cases g),fun j G=>?_⟩;rw[K,Py]at G
  subst G;have s:L.toArray[j]?=some o:=by simpa using B
  unfold wpOp;simp only[s];split
  ·rename_i D
   rw[Sj D]at h
   refine .inl (Mr (fun x a w f hf=>absurd hf.1 f) (QP (fun T w' M=>⟨fun _=>⟨M.1,fun C=>M.2.1 (d▸C)⟩,Mq F m r _ _ _ _ J I d (fun _=>⟨M.1,fun C=>M.2.1 (d▸C)⟩) M.2.2⟩) h))
  ·rename_i D
   rw[Si D]at h
   exact⟨fun _=>⟨h.1,fun C=>h.2.1 (d▸C)⟩,Mq F m r _ _ _ _ J I d (fun _=>⟨h.1,fun C=>h.2.1 (d▸C)⟩) h.2.2⟩
 |(i,1)::r,ph,b,a,w,y,u,p,hS,⟨o,v,B,N,h⟩=>by
  simp only[De,MZ,R_]at y
  obtain⟨⟨⟨⟨h1,h2⟩,f⟩,q⟩,h3⟩:=y;have g:i∈Region.ready .any L.toArray b:=by simpa using h1
  have s:L.toArray[i]?=some o:=by simpa using B
  have d:(b.setIfInBounds i true).getD c false=ph:=by rw[tk f];exact p
  have H:i<L.length:=(Oq.1 B).1;have E:b.getD i false=false:=by
   have:=(Sm.1 g).1;have O:=u.size;rw[tm SM]at this
   simpa using this
  have A:∀l:Array Bool,Cls L l->l.getD L.length false=false:=fun l t=>by
   have:=t.size;simp[MC,MF (show l.size<=L.length by omega)]
  rw[OU,P7];exact L_ s (Q1 F) (fun _ _ _ h=>by cases h.1) (fun l=>Cls L l/\l.getD i false=false) (fun l j t z G=>⟨t.1.put G,by rw[tk z];exact t.2⟩) (fun l w=>dZ f q l w) (r.length+n0) b a w ⟨u,E⟩ (Q0 s h2) g
   (Mx N fun w ⟨l,t,D⟩=>(D (A l t.1)).1) hS (Mq F m r ph _ _ _ h3 (u.put g) d ((dZ f q _ _).2 hS) h)
 |(i,2)::r,ph,b,a,w,y,u,p,hS,⟨o,v,B,N,h⟩=>by
  simp only[De,MZ,R_]at y
  obtain⟨⟨⟨⟨⟨h1,h2⟩,f⟩,q⟩,R⟩,h3⟩:=y;have g:i∈Region.ready .any L.toArray b:=by simpa using h1
  have s:L.toArray[i]?=some o:=by simpa using B
  have d:(b.setIfInBounds i true).getD c false=ph:=by rw[tk f];exact p
  have H:i<L.length:=(Oq.1 B).1;have E:b.getD i false=false:=by
   have:=(Sm.1 g).1;have O:=u.size;rw[tm SM]at this
   simpa using this
  have A:∀l:Array Bool,Cls L l->l.getD L.length false=false:=fun l t=>by
   have:=t.size;simp[MC,MF (show l.size<=L.length by omega)]
  rw[OU,P7];exact L_ s (Q1 F) (fun _ _ _ h=>by cases h.1) (fun l=>Cls L l/\l.getD i false=false) (fun l j t z G=>⟨t.1.put G,by rw[tk z];exact t.2⟩) (fun l w=>dZ f q l w) (r.length+n0) b a w ⟨u,E⟩ (Q0 s h2) g
   (Mx N fun w ⟨l,t,D⟩=>(D (A l t.1)).2 (jb R t.1 t.2)) hS (Mq F m r ph _ _ _ h3 (u.put g) d ((dZ f q _ _).2 hS) h)
 |(i,k+3)::r,ph,b,a,w,y,u,p,hS,_=>by simp[De]at y
def C5(P:Program)(ops:List Oper)(o:Oper)(a:Act)(w:World)(K:Act->World->Prop):Prop:=
 if Region.wanted o (yielded ops.toArray a.tmps)=true then o.wp P a w K (fun e _ _=>e=.normal)else K (a.put o.dst undef) w
def Dw(L:List Oper)(i c:Nat)(a:Array Bool):Bool:=
 (decide (Region.ready .any L.toArray a=[i,c])||decide (Region.ready .any L.toArray a=[c,i]))&&decide (Region.ready .any L.toArray (a.setIfInBounds i true)=[c])&&decide (Region.ready .any L.toArray (a.setIfInBounds c true)=[i])&&
  (Region.ready .any L.toArray ((a.setIfInBounds i true).setIfInBounds c true)).isEmpty&&(Region.ready .any L.toArray ((a.setIfInBounds c true).setIfInBounds i true)).isEmpty&&decide (i≠c)
def Dx(P:Program)(L:List Oper)(i c:Nat)(Sw Ss:World->Prop)(Q:Act->World->Prop)(a:Act)(w:World):Prop:=
 ∃oi oc,L[i]?=some oi/\L[c]?=some oc/\C5 P L oi a w (fun d w'=>Sw w'/\Ss w'/\C5 P L oc d w' (fun b w''=>Sw w''/\Q b w''))/\C5 P L oc a w (fun d w'=>Sw w'/\True/\C5 P L oi d w' (fun b w''=>Sw w''/\Q b w''))
def C7{i:Nat}{o:Oper}{Q:Act->World->Prop}{K K':Act->World->Prop}{a:Act}(j:L[i]?=some o)(h:C5 P L o a w K)(g:∀a w,K a w->K' a w):wpOp P L.toArray (fun e a w=>e=.normal/\Q a w) i K' a w:=by
 have d:L.toArray[i]?=some o:=by simpa using j
 unfold C5 at h
 unfold wpOp;simp only[d];split
 ·rename_i b
  rw[Sj b]at h
  exact .inl (Mr (fun x a w f hf=>absurd hf f) (QP g h))
 ·rename_i b
  rw[Si b]at h
  exact g _ _ h
def Dy{i c:Nat}{Ss:World->Prop}{Q:Act->World->Prop}(b:Array Bool)(a:Act)(w:World)(x:Dw L i c b=true)(E:Cls L b)(h:Dx P L i c S Ss Q a w):
  L9 P L.toArray (fun e a w=>e=.normal/\Q a w) (SG c L.length S Ss) 2 b a w:=by
 unfold Dw at x
 simp only[MZ,Na,R_,OR]at x
 obtain⟨⟨⟨⟨⟨h1,h2⟩,h3⟩,h4⟩,F⟩,u⟩:=x;obtain⟨oi,oc,m,f,k1,k2⟩:=h;have q:i∈Region.ready .any L.toArray b:=by rcases h1 with h1|h1<;>rw[h1]<;>simp
 have D:c∈Region.ready .any L.toArray b:=by rcases h1 with h1|h1<;>rw[h1]<;>simp
 have z:=E.size;have C:c<L.length:=(Oq.1 f).1;have d:(b.setIfInBounds c true).getD c false=true:=by simp[MC,show c<b.size by omega]
 have last:∀(l:Array Bool) (j:Nat) (o:Oper) (g:Act) (w':World),L[j]?=some o->Region.ready .any L.toArray l=[j]->Region.ready .any L.toArray (l.setIfInBounds j true)=[]->(l.setIfInBounds j true).getD c false=true->C5 P L o g w' (fun r w''=>S w''/\Q r w'')->
   L9 P L.toArray (fun e a w=>e=.normal/\Q a w) (SG c L.length S Ss) 1 l g w':=fun l j o g w' A y t B ho1=>by
  refine⟨fun s=>(by rw[y]at s;cases s),fun G p=>?_⟩;rw[y,Py]at p
  subst p;exact C7 A ho1 fun r w'' hq=>⟨fun _=>⟨hq.1,fun k=>by rw[B]at k;cases k⟩,t,rfl,hq.2⟩
 refine⟨fun s=>(by rw[s]at q;cases q),fun j p=>?_⟩;have v:j=i\/j=c:=by rcases h1 with h1|h1<;>rw[h1]at p<;>simp at p<;>omega
 rcases v with rfl|rfl
 ·refine C7 m k1 fun g w' hq=>⟨fun _=>⟨hq.1,fun _=>hq.2.1⟩,last _ c oc g w' f h2 h4 ?_ hq.2.2⟩
  simp[MC,show c<b.size by omega]
 ·refine C7 f k2 fun g w' hq=>⟨fun _=>⟨hq.1,fun k=>by rw[d]at k;cases k⟩,last _ i oi g w' m h3 F ?_ hq.2.2⟩
  rw[tk u];exact d
section
variable {P:Program}{Q:Exit->Act->World->Prop}{n:Nat}{σ:Sg}{w:World}{L:List Oper}{i c:Nat}{Sw Ss:World->Prop}
def dp(P:Program)(L:List Oper)(i c:Nat)(Sw Ss:World->Prop)(Q:Exit->Act->World->Prop):Exit->Act->World->Prop:=fun x a w=>x=.normal/\Dx P L i c Sw Ss (fun a w=>Q .normal a w) a w
theorem aJ{id:Nat}(i c:Nat)(Sw Ss:World->Prop)(ord:List (Nat×Nat))(l:P.follows .mixedOrders=true)(d:(Region.noSelect L.toArray&&decide (ord.length+2=L.length)&&De L c (Dw L i c) ord (Array.replicate L.length false))=true)(g:Sw (drew w))(hS:Ss (drew w))
  (h:HP P L c L.length Sw Ss (dp P L i c Sw Ss Q) false ord n σ (drew w)):CW P (.region id L.toArray true) Q n σ w:=by
 unfold CW;unfold HP at h;intro a s
 simp only[MZ,R_]at d
 obtain⟨⟨j,m⟩,d⟩:=d;have f:∀k,(Array.replicate L.length false).getD k false=false:=fun k=>by
  simp[MC,MK];split<;>rfl
 have h1:=Mq (n0:=2) (Bc:=Dw L i c) (Q:=fun a w=>Q .normal a w) j (fun ph b a w r q _ _ hq=>Dy b a w r q hq.2) ord false (Array.replicate L.length false) a (Go.Proofs.YtfpjecjadlgdcaaGreatDoor.drew w) d ⟨by simp,fun k o e=>by rw[f k]at e;cases e⟩ (f c) (fun _=>⟨g,fun _=>hS⟩) (h a s);rw[m]at h1
 have h2:(Code.region id L.toArray true).wp P (fun x a w=>x=.normal/\Q .normal a w) a w:=SJ l (by simpa using Mc _ _ _ _ h1);exact SI h2 (fun x t w' ⟨p,hq⟩=>by subst p;exact hq)
theorem C6{o:Oper}{K:Act->World->Prop}{a:Act}(h:wpList P L.toArray (fun x a w=>x=.normal/\K a w) [o] a w):C5 P L o a w K:=by
 simp only[wpList]at h
 unfold C5;split
 ·rename_i b
  rw[Sj b]at h
  rcases h with h2|⟨_,f⟩
  ·refine QP (fun j w' g=>g.2) (Mr (fun x a w d hf=>absurd hf.1 d) h2)
  ·obtain⟨_,_,e⟩:=f
   exact absurd e.1 SQ
 ·rename_i b
  rw[Si b]at h
  exact h.2
def eA(P:Program)(L:List Oper)(Sw S1:World->Prop)(o:Oper)(Q:Exit->Act->World->Prop):Exit->Act->World->Prop:=fun x a w=>x=.normal/\Sw w/\S1 w/\C5 P L o a w (fun a w=>Sw w/\Q .normal a w)
def bL(Sw:World->Prop)(Q:Exit->Act->World->Prop):Exit->Act->World->Prop:=fun x a w=>x=.normal/\Sw w/\Q .normal a w
theorem EX.pair{oi oc:Oper}(hi:Cm L i=some oi)(b:Cm L c=some oc)(h1:WL P L (eA P L Sw Ss oc Q) [oi] n σ w)(h2:WL P L (eA P L Sw (fun _=>True) oi Q) [oc] n σ w):EX (dp P L i c Sw Ss Q) .normal n σ w:=by
 unfold EX;unfold WL at h1 h2
 intro a d
 rw[Cn]at hi b
 exact⟨rfl,oi,oc,hi,b,C6 (h1 a d),C6 (h2 a d)⟩
theorem bD{S1:World->Prop}{o:Oper}(b:Sw w)(d:S1 w)(h:WL P L (bL Sw Q) [o] n σ w):EX (eA P L Sw S1 o Q) .normal n σ w:=by
 unfold EX;unfold WL at h
 exact fun a e=>⟨rfl,b,d,C6 (h a e)⟩
theorem a8(b:Sw w)(h:EX Q .normal n σ w):EX (bL Sw Q) .normal n σ w:=by
 unfold EX at*
 exact fun a d=>⟨rfl,b,h a d⟩
theorem HP.app1f{α:Type}[Rep α]{x0:α}{bytes:Nat}{F:Nat->Prop}{e i z d d1:Nat}{ty ty1:TypeId}{pos pos1:String}{af af1:Array Edge}{g g1:Option (Nat×Bool)}{t et:TypeId}{x y:Operand}{rest:List (Nat×Nat)}{v u:Value}{xs:List α}{yv:α}{B:Nat}{wc:World}
  (ho1:Cm L z=some ⟨some d1,.buildSlice t 1 [(0,y)].toArray,ty1,pos1,af1,g1⟩) (O:Cm L i=some ⟨some d,.call ⟨.builtin .append,#[x,.tmp d1],#[t,t]⟩,ty,pos,af,g⟩)
  (G:Nat.beq z c=false) (E:Nat.beq i c=false)
  (H:gd L σ ⟨some d1,.buildSlice t 1 [(0,y)].toArray,ty1,pos1,af1,g1⟩=some true) (J:Nat.ble (d1+1) n=true)
  (I:∀u,gd L ((d1,.slice u 1 1)::σ) ⟨some d,.call ⟨.builtin .append,#[x,.tmp d1],#[t,t]⟩,ty,pos,af,g⟩=some true) (hd:Nat.ble (d+1) n=true)
  (K:ev σ y=some u) (M:∀u,ev ((d1,.slice u 1 1)::σ) x=some v) [V:IsS P t et] [U:IsT P et α] [T:IsZ P et x0 bytes] (o:Own wc B et F v xs) (N:Rd wc F u yv) (S:B<=wc.heap.size) (hF:∀b,F b->b<wc.heap.size)
  (A:sz α<=16777216) (R:xs.length+1<=maxLen) (q:(xs.length+1)*bytes<=140737488355328) (hS:∀w',wc.grownBy w' v.ownBlock->Sw w'/\Ss w')
  (h:∀m w' p,Own w' B et F m (xs++[yv])->wc.grownBy w' v.ownBlock->(∀g,m.ownBlock=some g->v.ownBlock=some g\/wc.heap.size<=g)->HP P L c e Sw Ss Q false rest n ((d,m)::(d1,.slice p 1 1)::σ) w'):
  HP P L c e Sw Ss Q false ((z,0)::(i,0)::rest) n σ wc:=by
 refine HP.mut ho1 ?_;rw[G];refine WL.lit (vs:=[u]) (ys:=[yv]) H J rfl (by simp[HV,pL,K]) rfl ⟨N,trivial⟩ (by simpa using A) hF (fun s ho1 a=>?_);have f:wc.heap.size<=s.heap.size:=a.size;have l:Own s B et F v xs:=o.kept a (fun _ _ h=>by cases h) fun b q=>⟨hF b q,fun h=>by cases h⟩
 have g2:wc.grownBy s v.ownBlock:=⟨a.os,a.tape,a.output,a.size,fun k r _=>a.block k r (fun h=>by cases h)⟩;refine WL.nil (bg (ph:=false||false) (hS _ g2).1 (fun _=>(hS _ g2).2) (HP.mut O ?_));rw[E];refine WL.app (ys:=[yv]) (I _) hd (M _) rK l ho1.src (Qk S f) (fun b q=>Qn (hF b q) f) (by simpa using R) (by simpa using q) (fun m w' C j hnb=>?_);have g3:wc.grownBy w' v.ownBlock:=⟨j.os.trans a.os,j.tape.trans a.tape,j.output.trans a.output,Qk f j.size,fun k r D=>(j.block k (Qn r f) D).trans (a.block k r (fun h=>by cases h))⟩;exact WL.nil (bg (ph:=false||false||false) (hS _ g3).1 (fun _=>(hS _ g3).2) (h m w' _ C g3 (fun g I=>(hnb g I).imp id (fun h=>Qk f h))))
end
section
variable {P:Program}{Q:Exit->Act->World->Prop}{n:Nat}{σ:Sg}{w:World}{L rest:List Oper}{α:Type}[Rep α]{F:Nat->Prop}{e:TypeId}{ty:TypeId}{pos:String}{af:Array Edge}{g:Option (Nat×Bool)}
theorem gf{x y:Operand}{u:Value}{B b off cap:Nat}{xs:List α}{yv:α}{i:Nat}(z:gd L σ ⟨none,.store e x y,ty,pos,af,g⟩=some true)
  (q:ev σ x=some (.pointer (some ⟨b,off+i*sz α,none⟩))) (p:ev σ y=some u) [D:IsT P e α] (c:Own w B e F (.slice (some ⟨b,off,none⟩) xs.length cap) xs) (h1:i<xs.length) (r:Rd w F u yv)
  (h:∀w',Own w' B e F (.slice (some ⟨b,off,none⟩) xs.length cap) (xs.set i yv)->w.grownBy w' (some b)->WL P L Q rest n σ w'):WL P L Q (⟨none,.store e x y,ty,pos,af,g⟩::rest) n σ w:=by
 rcases c with⟨m,d⟩|⟨E,off',cap',cur,m,t⟩
 ·subst d;simp at h1
 ·obtain⟨j,_,f⟩:=RS m
  cases j;subst f
  obtain⟨w',s,k,l⟩:=Gq (P:=P) (v:=u) (i:=i) t h1 r;refine fY z (fun a o=>?_) (h w' k l);have C:=o.ev q;have A:=o.ev p;simp[execOp,C,A,Instr.storeAt,Instr.sureAddr,s]
end
def sh(k n:Int)(t:Ltl)(m:df):(sE k n t m).1.length+(sE k n t m).2.length<=m.1.length+m.2.length+1:=by
 unfold sE;split
 ·dsimp only;split<;>simp;omega
 ·split
  ·dsimp only;split<;>simp;omega
  ·omega
mutual
theorem sf:∀(t:Ltl) (m:df),(sa t m).1.length+(sa t m).2.length<=m.1.length+m.2.length+t.nodes
 |.mk k n kids,m=>by
  simp only[sa,Ltl.nodes];have h1:=sh k n (.mk k n kids) m;have h2:=sw kids (sE k n (.mk k n kids) m);omega
theorem sw:∀(l:List Ltl) (m:df),(sr l m).1.length+(sr l m).2.length<=m.1.length+m.2.length+Ltl.nodesL l
 |[],m=>by simp[sr]
 |x::r,m=>by
  simp only[sr,Ltl.nodesL];have h1:=sf x m;have h2:=sw r (sa x m);omega
end
def sD{kids:List Ltl}{m:df}{i:Nat}(h:i<kids.length):sr (kids.take (i+1)) m=sa kids[i] (sr (kids.take i) m):=by
 have:∀(l:List Ltl) (m:df) (x:Ltl),sr (l++[x]) m=sa x (sr l m):=by
  intro l
  induction l with
  |nil=>intro m x;simp[sr]
  |cons y r a=>intro m x;simp only[NI,sr];exact a _ x
 rw[PZ h,this]
def sj(k n:Int)(kids:List Ltl)(m:df):sa (.mk k n kids) m=sr kids (sE k n (.mk k n kids) m):=by simp only[sa]
structure MkO(w:World)(B:Nat)(F:Nat->Prop)(sb:Nat)(av pv:Value)(m:df):Prop where
 blk:Blk w sb 212 [av,pv]
 a:Own w B 3 di av m.1
 p:Own w B 32 F pv m.2
 ge:B<=sb
 na:∀g,av.ownBlock=some g->g≠sb
 np:∀g,pv.ownBlock=some g->g≠sb
 nap:∀g,av.ownBlock=some g->pv.ownBlock≠some g
 hF:∀b,F b->b<B
def Br(sb:Nat)(av pv:Value):Nat->Prop:=fun b=>b=sb\/av.ownBlock=some b\/pv.ownBlock=some b
def MkO.ext{w':World}{m:df}(h:MkO w B F a v o m)(f:B<=w.heap.size)(c:Ext w w'):MkO w' B F a v o m:=
 ⟨h.blk.ext c,h.a.extN c,h.p.ext c (fun b d=>Qn (h.hF b d) f),h.ge,h.na,h.np,h.nap,h.hF⟩
def MkO.lo{m:df}(h:MkO w B F a v o m):∀b,Br a v o b->B<=b/\b<w.heap.size:=fun b d=>by
 rcases d with c|c|c
 ·have:=h.ge;have:=h.blk.lt;omega
 ·exact⟨(h.a.lt b c).1,(h.a.lt b c).2.1⟩
 ·exact⟨(h.p.lt b c).1,(h.p.lt b c).2.1⟩
def MkO.rd{m:df}(h:MkO w B F a v o m)(j:B<=w.heap.size):MkA w a m:=by
 obtain⟨ao,ac,rfl,h1⟩:=h.a.oldN.sl;obtain⟨c,d,rfl,h2⟩:=h.p.slF (F':=dl w) (fun b i=>Qn (h.hF b i) j) (fun g f=>(h.p.lt g f).2.1);exact⟨ao,ac,c,d,h.blk,h1,h2⟩
def Hd{l:List Ltl}{x y:Ltl}:(l++[x]).set l.length y=l++[y]:=by
 rw[List.set_append_right _ _ Ta];simp
def sI:∀(d:Nat) (t:Ltl),t.nodes<=d->LJ t->∀(w:World) {B sb:Nat} {F:Nat->Prop} {av pv:Value} {m:df} {ko:Option Addr} {kc:Nat},MkO w B F sb av pv m->B<=w.heap.size->Sl w F ko kc t.kids->m.1.length+m.2.length+t.nodes<=1000->
  Rt UA 113 [Tg sb,AR t.k t.n ko t.kids.length kc].toArray w fun v w'=>∃av' pv',MkO w' B F sb av' pv' (sa t m)/\Chg (Br sb av pv) w w'/\(∀g,av'.ownBlock=some g->av.ownBlock=some g\/w.heap.size<=g)/\∀g,pv'.ownBlock=some g->pv.ownBlock=some g\/w.heap.size<=g:=by
 intro d
 induction d with
 |zero=>intro t h;have:=t.nodes_pos;omega
 |succ d ih=>
  rintro⟨k,n,kids⟩ hd hwf w B sb F av pv m ko kc hM hB hk hsz
  simp only[Ltl.k,Ltl.n,Ltl.kids]at hk⊢
  have hkl:=zP hwf;have hlo:=hM.lo;have hF:=hM.hF;refine dV Tryz.func113 Tryz.ntmps113 rfl rfl ?_;rw[sj];have hlen1:=sh k n (.mk k n kids) m;refine T9 ?_;refine eJ fun H hb3 e1=>?_
  have l3:=hb3.lt;have y1:=e1.size;have Y:=hM.ext hB e1;apply WL.nil;apply bE;refine aB (S:=Value×Value) (fun s=>[(0,Tg sb),(3,Tg w.heap.size)])
   (fun s w'=>MkO w' B F sb s.1 s.2 (sE k n (.mk k n kids) m)/\Chg (Br sb av pv) H w'/\(∀g,s.1.ownBlock=some g->av.ownBlock=some g\/H.heap.size<=g)/\∀g,s.2.ownBlock=some g->pv.ownBlock=some g\/H.heap.size<=g) ?_ ?_
  ·have skip:∀(A:World) (e2:Ext H A),sE k n (.mk k n kids) m=m->MkO A B F sb av pv (sE k n (.mk k n kids) m)/\Chg (Br sb av pv) H A/\(∀g,av.ownBlock=some g->av.ownBlock=some g\/H.heap.size<=g)/\∀g,pv.ownBlock=some g->pv.ownBlock=some g\/H.heap.size<=g:=fun A e2 W=>by
    rw[W];exact⟨Y.ext SM e2,Chg.of_ext _ e2,fun g f=>.inl f,fun g f=>.inl f⟩
   by_cases h3:k=3
   ·have W:sE k n (.mk k n kids) m=(if n∈m.1 then m.1 else m.1++[n],m.2):=by unfold sE;rw[Sj h3]
    subst h3;obtain⟨ao,ac,hav,h1⟩:=Y.a.oldN.sl;subst hav;have hD:=Ext.drew H;have hSE:∀z,(fun z:World=>Ext (drew H) z) z->Ext (drew H) z:=fun _ h=>h
    have hblkd:=Y.blk.ext hD;have hb3d:=hb3.ext hD;refine TX ?_;refine aG (fun z:World=>Ext (drew H) z) [(0,true),(1,true),(2,true),(3,true),(4,true),(5,true),(6,false),(7,true)] mixed SN Tc ?_;refine Ut ?_;refine cD rfl (eN (mg (drew H) n (h1.up hD)) ?_);rintro _ A ⟨rfl,e2⟩
    refine WL.nil (bf e2 ?_);have G:Ext H A:=hD.trans e2;cases hc:m.1.contains n with
    |true=>
     have hin:n∈m.1:=by simpa using hc
     rw[Sj hin]at W
     refine Uu ?_;refine T3 ?_;exact aZ (.slice ao m.1.length ac,pv) SL (skip A G W)
    |false=>
     have hin:n∉m.1:=by simpa using hc
     rw[Si hin]at W
     refine Uu ?_;have a:=Y.ext SM G;have J:=a.blk;have V:=hb3.ext G;have z12:=G.size;have lsb:=J.lt;have y:=Ext.drew A;have O:=J.ext y;have Z:=V.ext y;have hna:=a.na;have hnap:=a.nap;have E:=a.lo;have hK5:∀u,(fun x:World=>x.heap[w.heap.size]?=(drew A).heap[w.heap.size]?/\x.heap[sb]?=(drew A).heap[sb]?) u->u.heap[w.heap.size]?=(drew A).heap[w.heap.size]?:=fun _ h=>h.1
     have hKs:∀u,(fun x:World=>x.heap[w.heap.size]?=(drew A).heap[w.heap.size]?/\x.heap[sb]?=(drew A).heap[sb]?) u->u.heap[sb]?=(drew A).heap[sb]?:=fun _ h=>h.2
     have K:∀g,(Value.slice ao m.1.length ac).ownBlock=some g->g≠w.heap.size:=fun g f=>by have:=(hlo g (.inr (.inl f))).2;omega
     refine T4 ?_;refine aF (fun x:World=>x.heap[w.heap.size]?=(drew A).heap[w.heap.size]?/\x.heap[sb]?=(drew A).heap[sb]?) [(0,true),(1,true),(2,true),(3,true),(4,true),(5,true),(6,true),(7,false),(8,false),(9,false),(10,false)] 11 mixed SN ⟨rfl,rfl⟩ ?_;refine Us ?_;refine b_ (α:=Int) (F:=di) (bytes:=8) (yv:=n) rfl rfl rfl rfl SX rfl rfl SX (a.a.extN y) S_ (by have:=y.size;omega) S0 SP SS SM
      (fun z hz=>⟨hz.block _ (by have:=y.size;omega) (fun e=>K _ e.symm rfl),hz.block _ (by have:=y.size;omega) (fun e=>hna _ e.symm rfl)⟩) (fun cl w5 q5 ho5 C D=>?_)
     obtain⟨lo',lc',rfl⟩:=ho5.val;have R:=O.kept C (fun e=>hna _ e.symm rfl);have T:w5.heap[w.heap.size]?=(drew A).heap[w.heap.size]?/\w5.heap[sb]?=(drew A).heap[sb]?:=⟨C.block _ (by have:=y.size;omega) (fun e=>K _ e.symm rfl),C.block _ (by have:=y.size;omega) (fun e=>hna _ e.symm rfl)⟩;refine cD rfl (fS rfl rfl rfl (WL.nil (bf T ?_)));refine cD rfl (fm rfl rfl rfl (WL.nil (bf T (HL.nil ?_))));refine bB rfl (f_ R (fun w6 I p=>WL.nil (bC ?_)));have hC6:Chg (Br sb (.slice ao m.1.length ac) pv) H w6:=(((Chg.of_ext (Br sb (.slice ao m.1.length ac) pv) (G.trans y)).grown C (fun g f=>.inr (.inl f)))).grown p S7;have hp6:Own w6 B 32 F pv m.2:=((a.p.ext y (fun b j=>by have:=hF b j;omega)).kept C (fun g f e=>hnap g e.symm f) (fun b j=>⟨by have:=hF b j;have:=y.size;omega,fun e=>by have:=(E b (.inr (.inl e.symm))).1;have:=hF b j;omega⟩)).kept p (fun g f e=>a.np g f (QV e)) (fun b j=>⟨by have:=hF b j;have:=y.size;have:=C.size;omega,fun e=>by have:=QV e;have:=hF b j;have:=a.ge;omega⟩);have z5:=C.size;have zd:=y.size;have hns:∀g,(Value.slice lo' (m.1++[n]).length lc').ownBlock=some g->g≠sb:=fun g f=>(D g f).elim (hna g) (fun h=>by omega)
     refine TK ?_;refine aZ (.slice lo' (m.1++[n]).length lc',pv) SL ?_;rw[W];refine⟨⟨I,ho5.keptN p (fun g f e=>hns g f (QV e)),hp6,a.ge,hns,a.np,fun g f hg2=>?_,hF⟩,hC6,fun g f=>(D g f).imp id (fun h=>by omega),fun g f=>.inl f⟩;rcases D g f with h|h
     ·exact hnap g h hg2
     ·have:=(E g (.inr (.inr hg2))).2;omega
   by_cases h7:k=7\/k=8\/k=9
   ·have W:sE k n (.mk k n kids) m=(m.1,if m.2.any (GD (.mk k n kids))=true then m.2 else m.2++[.mk k n kids]):=by unfold sE;rw[Si h3,Sj h7]
    have b3:(k==3)=false:=by rw[RY];exact h3
    have hkk:(k==7)=true\/((k==7)=false/\(k==8)=true)\/((k==7)=false/\(k==8)=false/\(k==9)=true):=by
     simp only[RZ,RY];omega
    refine Ty ?_;rw[b3];apply aw;rfl;refine az [(0,Tg sb),(3,Tg w.heap.size),(29,.bool true)] ?_ ?_
    ·refine T2 ?_
     rcases hkk with h|⟨h,h2⟩|⟨h,h2,h3⟩
     ·rw[h]
      refine T0 ?_;exact aX SL
     ·rw[h]
      refine Tr ?_;rw[h2];refine T0 ?_;exact aX SL
     ·rw[h]
      refine Tr ?_;rw[h2];refine Tr ?_;rw[h3];exact aX SL
    have hpart:=DJ H (t:=.mk k n kids) (Y.rd SM) (hk.mono (w':=H) (fun b j=>e1.block b (by have:=hF b j;omega)) (fun b j=>by have:=hF b j;exact(show b<H.heap.size by omega)));refine TZ ?_;refine eN hpart ?_;rintro _ A ⟨rfl,G⟩
    have a:=Y.ext SM G;have hany:=xR (GD (.mk k n kids)) m.2;by_cases ha:m.2.any (GD (.mk k n kids))=true
    ·rw[Sj ha]at W
     rw[ha,R_]at hany
     have hlt:decide (DF m (.mk k n kids)<0)=false:=R7 (by unfold DF;omega);refine Tl ?_;rw[hlt];refine TD ?_;exact aZ (av,pv) SL (skip A G W)
    ·rw[Si ha]at W
     rw[M6]at ha
     rw[ha,R8]at hany
     have hlt:decide (DF m (.mk k n kids)<0)=true:=R9 (by unfold DF;omega);refine Tl ?_;rw[hlt];have J:=a.blk;have V:=hb3.ext G;have z12:=G.size;have lsb:=J.lt;have y:=Ext.drew A;have zd:(drew A).heap.size=A.heap.size:=rfl;have O:=J.ext y;have Z:=V.ext y;have E:=a.lo;obtain⟨po,pc,rfl⟩:=a.p.val;have hpd:=a.p.ext y (fun b j=>by have:=hF b j;omega);have K:∀g,(Value.slice po m.2.length pc).ownBlock=some g->g≠w.heap.size:=fun g f=>by have:=(hlo g (.inr (.inr f))).2;omega
     have hKs:∀u,(fun x:World=>x.heap[sb]?=(drew A).heap[sb]?/\x.heap[w.heap.size]?=(drew A).heap[w.heap.size]?) u->u.heap[sb]?=(drew A).heap[sb]?:=fun _ h=>h.1
     have hK3:∀u,(fun x:World=>x.heap[w.heap.size]?=(drew A).heap[w.heap.size]?) u->u.heap[w.heap.size]?=(drew A).heap[w.heap.size]?:=fun _ h=>h
     refine TZ ?_;refine aJ 9 12 (fun x:World=>x.heap[w.heap.size]?=(drew A).heap[w.heap.size]?) (fun x:World=>x.heap[sb]?=(drew A).heap[sb]?/\x.heap[w.heap.size]?=(drew A).heap[w.heap.size]?)
      (JQ 1 [(0,true),(1,true),(2,true),(4,true)]++(JQ 2 [(3,true),(5,true)]++((6,0)::(7,0)::(JQ 1 [(8,true),(10,true),(11,true)]++[])))) mixed SN rfl ⟨rfl,rfl⟩ ?_
     refine HP.weak [(0,true),(1,true),(2,true),(4,true)] rfl ?_;refine Ut ?_;refine cw hK3 rfl rfl rfl rfl Z rfl ?_;refine Uu ?_;refine bh ?_;refine HP.early [(3,true),(5,true)] rfl ?_;refine Uv ?_;refine bh ?_;refine HP.app1f (α:=Ltl) (F:=F) (bytes:=40) (yv:=(.mk 0 0 []:Ltl)) rfl rfl rfl rfl rfl rfl SX rfl rfl SX hpd (Rd.mkLtl (kids:=[]) (Sl.zero _ _)) SM (fun b j=>by have:=hF b j;omega) SP SS SM
      (fun z hz=>⟨hz.block _ SM (fun e=>K _ e.symm rfl),hz.block _ SM (fun e=>a.np _ e.symm rfl),hz.block _ SM (fun e=>K _ e.symm rfl)⟩) (fun cl w5 q5 ho5 C D=>?_)
     have z5:=C.size;obtain⟨g5,off,c5,rfl⟩:∃g5 off c5,cl=.slice (some ⟨g5,off,none⟩) (m.2++[(.mk 0 0 []:Ltl)]).length c5:=by
      rcases ho5 with⟨_,h⟩|⟨g,o,c,cur,h,_⟩
      ·simp at h
      ·exact⟨g,o,c,h⟩
     have hlt5:=(ho5.lt g5 rfl);have M:g5≠sb:=fun e=>(D g5 rfl).elim (fun h=>a.np g5 h e) (fun h=>by omega)
     have U:g5≠w.heap.size:=fun e=>(D g5 rfl).elim (fun h=>K g5 h e) (fun h=>by omega)
     have R:=O.kept C (fun e=>a.np _ e.symm rfl);have T:w5.heap[w.heap.size]?=(drew A).heap[w.heap.size]?:=C.block _ SM (fun e=>K _ e.symm rfl);have hS5s:w5.heap[sb]?=(drew A).heap[sb]?:=C.block _ SM (fun e=>a.np _ e.symm rfl);have hkF:∀{z:World},(∀b,F b->z.heap[b]?=w.heap[b]?)->Rd z F (AR k n ko kids.length kc) (Ltl.mk k n kids):=fun {z} hz=>Rd.mkLtl (hk.mono hz S3)
     have hF5:∀b,F b->w5.heap[b]?=w.heap[b]?:=fun b j=>by
      have h1:=hF b j;exact(C.block b SM (fun e=>by have:=(E b (.inr (.inr e.symm))).1;omega)).trans (((e1.trans G).trans y).block b SM)
     have hB5:B<=g5:=hlt5.1;refine HP.weak [(8,true),(10,true),(11,true)] rfl ?_;refine cm (α:=Ltl) rfl rfl rfl rfl rfl SM ST ?_;rw[Nt];refine Uv ?_;refine bh ?_;refine HP.nil ?_;have done:∀{z:World},Blk z sb 212 [av,.slice (some ⟨g5,off,none⟩) (m.2++[(.mk 0 0 []:Ltl)]).length c5]->Own z B 32 F (.slice (some ⟨g5,off,none⟩) (m.2++[(.mk 0 0 []:Ltl)]).length c5) ((m.2++[(.mk 0 0 []:Ltl)]).set m.2.length (.mk k n kids))->Own z B 3 di av m.1->Chg (Br sb av (.slice po m.2.length pc)) H z->
       MkO z B F sb av (.slice (some ⟨g5,off,none⟩) (m.2++[(.mk 0 0 []:Ltl)]).length c5) (sE k n (.mk k n kids) m)/\Chg (Br sb av (.slice po m.2.length pc)) H z/\(∀g,av.ownBlock=some g->av.ownBlock=some g\/H.heap.size<=g)/\∀g,(Value.slice (some ⟨g5,off,none⟩) (m.2++[(.mk 0 0 []:Ltl)]).length c5).ownBlock=some g->(Value.slice po m.2.length pc).ownBlock=some g\/H.heap.size<=g:=by
      intro z hbz hoz haz hcz
      rw[W];rw[Hd]at hoz
      refine⟨⟨hbz,haz,?_,a.ge,a.na,fun g f=>by cases f;exact M,fun g f hg2=>?_,hF⟩,hcz,fun g f=>.inl f,fun g f=>(D g f).imp id (fun h=>by omega)⟩
      ·rw[show(m.2++[(.mk 0 0 []:Ltl)]).length=(m.2++[(.mk k n kids:Ltl)]).length by simp]at*
       exact hoz
      ·rcases D g hg2 with h|h
       ·exact a.nap g f h
       ·have:=(E g (.inr (.inl f))).2;omega
     have ha5:Own w5 B 3 di av m.1:=(a.a.extN y).keptN C (fun g f e=>a.nap g f e.symm);have hC5:Chg (Br sb av (.slice po m.2.length pc)) H w5:=(Chg.of_ext (Br sb av (.slice po m.2.length pc)) (G.trans y)).grown C (fun g f=>.inr (.inr f));have hag5:∀g,av.ownBlock=some g->g≠g5:=fun g f e=>by
      subst e;rcases D g rfl with h|h
      ·exact a.nap g f h
      ·have:=(E g (.inr (.inl f))).2;omega
     have hgM:Br sb av (.slice po m.2.length pc) g5\/H.heap.size<=g5:=(D g5 rfl).imp (fun h=>.inr (.inr h)) (fun h=>by omega);refine EX.pair rfl rfl ?_ ?_
     ·refine gf (α:=Ltl) (i:=m.2.length) (yv:=(.mk k n kids:Ltl)) rfl rfl rfl ho5 SQ (hkF hF5) (fun w6 ho6 p=>WL.nil (bD ?_ ⟨?_,?_⟩ ?_))
      ·exact(p.block _ SM (fun e=>U (QV e).symm)).trans T
      ·exact(p.block _ SM (fun e=>M (QV e).symm)).trans hS5s
      ·exact(p.block _ SM (fun e=>U (QV e).symm)).trans T
      ·have I:=R.kept p (fun e=>M (QV e).symm)
       refine f_ I (fun w7 hblk7 N=>WL.nil (a8 ?_ ?_))
       ·have z6:=p.size
        exact(N.block _ SM (fun e=>by have:=QV e;have:=hM.blk.lt;omega)).trans ((p.block _ SM (fun e=>U (QV e).symm)).trans T)
       ·refine TK ?_
        refine aZ (av,_) SL (done hblk7 (ho6.kept N (fun g f e=>by cases f;exact M (QV e)) (fun b j=>⟨by have:=hF b j;have:=p.size;omega,fun e=>by have:=QV e;have:=hF b j;have:=a.ge;omega⟩)) ((ha5.keptN p (fun g f e=>hag5 g f (QV e))).keptN N (fun g f e=>a.na g f (QV e))) ?_);exact(hC5.then (Chg.of_grown p) (fun b j=>by cases j;exact hgM)).grown N S7
     ·refine f_ R (fun w6 I p=>WL.nil (bD ?_ trivial ?_))
      ·exact(p.block _ SM (fun e=>by have:=QV e;have:=(E sb (.inl rfl)).2;have:=hM.blk.lt;omega)).trans T
      ·have z6:=p.size
       have ho6:=ho5.kept p (fun g f e=>by cases f;exact M (QV e)) (fun b j=>⟨by have:=hF b j;omega,fun e=>by have:=QV e;have:=hF b j;have:=a.ge;omega⟩);refine gf (α:=Ltl) (i:=m.2.length) (yv:=(.mk k n kids:Ltl)) rfl rfl rfl ho6 SQ (hkF (fun b j=>(p.block b (by have:=hF b j;omega) (fun e=>by have:=QV e;have:=hF b j;have:=a.ge;omega)).trans (hF5 b j))) (fun w7 ho7 N=>WL.nil (a8 ?_ ?_))
       ·exact(N.block _ SM (fun e=>U (QV e).symm)).trans ((p.block _ SM (fun e=>by have:=QV e;have:=hM.blk.lt;omega)).trans T)
       ·refine TK ?_
        refine aZ (av,_) SL (done (I.kept N (fun e=>M (QV e).symm)) ho7 ((ha5.keptN p (fun g f e=>a.na g f (QV e))).keptN N (fun g f e=>hag5 g f (QV e))) ?_);exact(hC5.grown p S7).then (Chg.of_grown N) (fun b j=>by cases j;exact hgM)
   ·have W:sE k n (.mk k n kids) m=m:=by unfold sE;rw[Si h3,Si h7]
    have b3:(k==3)=false:=by rw[RY];exact h3
    have b7:(k==7)=false:=by rw[RY];omega
    have b8:(k==8)=false:=by rw[RY];omega
    have b9:(k==9)=false:=by rw[RY];omega
    refine Ty ?_;rw[b3];refine Tr ?_;rw[b7];refine Tr ?_;rw[b8];refine Tr ?_;rw[b9];refine TD ?_;exact aZ (av,pv) SL (skip H Tc W)
  ·rintro⟨av1,pv1⟩ A ⟨a,hC2,na2,np2⟩
   dsimp only at a hC2 na2 np2⊢
   have z2:=hC2.size;have V:Blk A w.heap.size 32 [Te k,Te n,.slice ko kids.length kc]:=(hC2.block _ l3 (fun j=>by have:=(hlo _ j).2;omega)).trans hb3;have E:=a.lo;have hk2:Sl A F ko kc kids:=hk.mono (fun b j=>(hC2.block b (by have:=hF b j;omega) (fun hs=>by have:=(hlo b hs).1;have:=hF b j;omega)).trans (e1.block b (by have:=hF b j;omega))) S3;have hmk:(sE k n (.mk k n kids) m).1.length+(sE k n (.mk k n kids) m).2.length+Ltl.nodesL kids<=1000:=by
    simp only[Ltl.nodes]at hsz;omega
   generalize sE k n (.mk k n kids) m=m1 at*
   refine Ty ?_;refine CW.loop (S:=Nat×Value×Value) (fun s=>[(0,Tg sb),(49,.slice ko kids.length kc),(50,Te kids.length),(51,Te s.1)])
    (fun s w'=>s.1<=kids.length/\MkO w' B F sb s.2.1 s.2.2 (sr (kids.take s.1) m1)/\Chg (Br sb av1 pv1) A w'/\(∀g,s.2.1.ownBlock=some g->av1.ownBlock=some g\/A.heap.size<=g)/\∀g,s.2.2.ownBlock=some g->pv1.ownBlock=some g\/A.heap.size<=g) (fun s=>kids.length -s.1) (0,av1,pv1) SL
    ⟨QK _,by simpa[sr]using a,Chg.refl _ _,fun g f=>.inl f,fun g f=>.inl f⟩ ?_
   rintro⟨i,cv,qv⟩ w3 ⟨hi,hM3,hC3,na3,np3⟩
   dsimp only at hi hM3 hC3 na3 np3⊢
   have z3:=hC3.size;have hlo3:=hM3.lo;have hk3:Sl w3 F ko kc kids:=hk2.mono (fun b j=>hC3.block b (by have:=hF b j;omega) (fun hs=>by have:=(E b hs).1;have:=hF b j;omega)) S3;refine T2 ?_;apply CW.cond rfl<;>intro h
   ·have X:i<kids.length:=by simp at h;omega
    have hwk:=LO hwf X;have hnk:=Cd hd X;have hlen3:=sw (kids.take i) m1;have htk:=sD (m:=m1) X;have hnn:Ltl.nodesL (kids.take i)+kids[i].nodes<=Ltl.nodesL kids:=by
     have:∀(l:List Ltl) (i:Nat) (h:i<l.length),Ltl.nodesL (l.take i)+l[i].nodes<=Ltl.nodesL l:=by
      intro l
      induction l with
      |nil=>intro i h;simp at h
      |cons x r ih2=>
       intro i h
       cases i with
       |zero=>simp[Ltl.nodesL]
       |succ i=>
        have:=ih2 i (by simpa using h);simp only[PY,Ltl.nodesL,OC];omega
     exact this kids i X
    refine T7 ?_;refine fh hk3 X SX (fun u q hu=>?_);obtain⟨uo,uc,rfl,hku⟩:=Rd.ltl hu;generalize kids[i]=x at*
    refine eF (fun w4 hb5 e4=>?_);refine f_ hb5 (fun w5 hb5 C=>?_);have e5:Ext w3 w5:=e4.grown C e4.size SZ;have z5:=e5.size;refine TN ?_;refine eN (ih x hnk hwk w5 (hM3.ext SM e5) SM (hku.mono (fun b j=>e5.block b (by have:=hF b j;omega)) S3) SM) ?_;rintro _ w6 ⟨cv',qv',hM6,hC6,na6,np6⟩
    rw[<-htk]at hM6
    refine Tn ?_;refine EX.back (i+1,cv',qv') SL ⟨X,hM6,(hC3.trans (Chg.of_ext _ e5)).then hC6 (fun b j=>?_),fun g f=>?_,fun g f=>?_⟩ SR
    ·rcases j with h|h|h
     ·exact .inl (.inl h)
     ·exact(na3 b h).imp (fun h=>.inr (.inl h)) id
     ·exact(np3 b h).imp (fun h=>.inr (.inr h)) id
    ·exact(na6 g f).elim (na3 g) (fun h=>.inr SM)
    ·exact(np6 g f).elim (np3 g) (fun h=>.inr SM)
   ·obtain rfl:i=kids.length:=by simp at h;omega
    rw[PV]at hM3
    refine Tt ?_;refine a7 rfl ⟨cv,qv,hM3,((Chg.of_ext _ e1).trans hC2).then hC3 (fun b j=>?_),fun g f=>?_,fun g f=>?_⟩
    ·rcases j with h|h|h
     ·exact .inl (.inl h)
     ·exact(na2 b h).imp (fun h=>.inr (.inl h)) (fun h=>by omega)
     ·exact(np2 b h).imp (fun h=>.inr (.inr h)) (fun h=>by omega)
    ·exact(na3 g f).elim (fun h=>(na2 g h).imp id (fun h=>by omega)) (fun h=>.inr SM)
    ·exact(np3 g f).elim (fun h=>(np2 g h).imp id (fun h=>by omega)) (fun h=>.inr SM)
structure MkF(w:World)(F:Nat->Prop)(sb:Nat)(m:df):Prop where
 ok:∃ao ac po pc,Blk w sb 212 [.slice ao m.1.length ac,.slice po m.2.length pc]/\Sl w F ao ac m.1/\Sl w F po pc m.2
 sb:F sb
def MkF.to{w':World}{m:df}(h:MkF w F B m)(a:∀b,F b->w'.heap[b]?=w.heap[b]?):MkF w' F B m:=by
 obtain⟨ao,ac,d,e,h1,h2,h3⟩:=h.ok;exact⟨⟨ao,ac,d,e,(a B h.sb).trans h1,h2.mono a S3,h3.mono a S3⟩,h.sb⟩
def MkF.rd{m:df}(h:MkF w F B m)(hF:∀b,F b->b<w.heap.size):MkA w B m:=by
 obtain⟨ao,ac,a,d,h1,h2,h3⟩:=h.ok;exact⟨ao,ac,a,d,h1,h2.mono S8 hF,h3.mono S8 hF⟩
structure OutA(w:World)(B b7:Nat)(c:Nat->Value)(xs:List Int)(vs:List Raw)(mu no:List Nat)(us:List Raw):Prop where
 blk:Blk w b7 144 [c 0,c 1,c 2,c 3,c 4]
 o0:Own w B 3 di (c 0) xs
 o1:Own w B 39 di (c 1) vs
 o2:Own w B 131 di (c 2) mu
 o3:Own w B 131 di (c 3) no
 o4:Own w B 39 di (c 4) us
 dj:∀i j,i<5->j<5->i≠j->∀g,(c i).ownBlock=some g->(c j).ownBlock≠some g
 lb:b7<B
def oM(b2 b7:Nat)(c:Nat->Value):Nat->Prop:=fun b=>b=b2\/b=b7\/∃i,i<5/\(c i).ownBlock=some b
def La(c:Nat->Value)(i:Nat)(v:Value):Nat->Value:=fun j=>if j=i then v else c j
section
variable {w w' w'':World}{B b2 b7:Nat}{c:Nat->Value}{xs:List Int}{vs us:List Raw}{mu no:List Nat}{i:Nat}{v':Value}
theorem OutA.lt(h:OutA w B b7 c xs vs mu no us):∀j,j<5->∀g,(c j).ownBlock=some g->B<=g/\g<w.heap.size:=fun j b g a=>by
 match j,b with
 |0,_=>exact⟨(h.o0.lt g a).1,(h.o0.lt g a).2.1⟩
 |1,_=>exact⟨(h.o1.lt g a).1,(h.o1.lt g a).2.1⟩
 |2,_=>exact⟨(h.o2.lt g a).1,(h.o2.lt g a).2.1⟩
 |3,_=>exact⟨(h.o3.lt g a).1,(h.o3.lt g a).2.1⟩
 |4,_=>exact⟨(h.o4.lt g a).1,(h.o4.lt g a).2.1⟩
theorem OutA.ext(h:OutA w B b7 c xs vs mu no us)(a:Ext w w'):OutA w' B b7 c xs vs mu no us:=
 ⟨h.blk.ext a,h.o0.extN a,h.o1.extN a,h.o2.extN a,h.o3.extN a,h.o4.extN a,h.dj,h.lb⟩
theorem OutA.step(h:OutA w B b7 c xs vs mu no us)(hi:i<5)(q:w.grownBy w' (c i).ownBlock)(p:w'.grownBy w'' (some b7))(m:∀g,v'.ownBlock=some g->(c i).ownBlock=some g\/w.heap.size<=g)(y:B<=w.heap.size):
  (∀j,j<5->j≠i->∀{α:Type} [Rep α] {e:TypeId} {ys:List α},Own w B e di (c j) ys->Own w'' B e di (c j) ys)/\(∀{α:Type} [Rep α] {e:TypeId} {ys:List α},Own w' B e di v' ys->Own w'' B e di v' ys)/\
   (∀j k,j<5->k<5->j≠k->∀g,(La c i v' j).ownBlock=some g->(La c i v' k).ownBlock≠some g)/\Chg (oM b2 b7 c) w w''/\(∀b,oM b2 b7 (La c i v') b->oM b2 b7 c b\/w.heap.size<=b)/\Chg (fun b=>b=b7\/B<=b) w w'':=by
 have o:=h.lt;have hlb:=h.lb;have x:=q.size;refine⟨fun j n l α _ e ys s=>(s.keptN q (fun g d r=>h.dj j i n hi l g d r.symm)).keptN p (fun g d r=>by have:=(o j n g d).1;have:=QV r;omega),
  fun s=>s.keptN p (fun g d r=>by have:=(s.lt g d).1;have:=QV r;omega),fun j k n t l g d a=>?_,((Chg.of_grown q).wk (fun b f=>.inr (.inr ⟨i,hi,f⟩))).grown p (fun g d=>by cases d;exact .inr (.inl rfl)),fun b f=>?_,?_⟩
 ·unfold La at d a
  by_cases v:j=i
  ·subst v
   rw[Sj rfl]at d
   rw[Si (fun e=>l e.symm)]at a
   rcases m g d with h1|h1
   ·exact h.dj j k n t l g h1 a
   ·have:=(o k t g a).2;omega
  ·rw[Si v]at d
   by_cases u:k=i
   ·subst u
    rw[Sj rfl]at a
    rcases m g a with h1|h1
    ·exact h.dj j k n t l g d h1
    ·have:=(o j n g d).2;omega
   ·rw[Si u]at a
    exact h.dj j k n t l g d a
 ·rcases f with f|f|⟨j,n,f⟩
  ·exact .inl (.inl f)
  ·exact .inl (.inr (.inl f))
  ·unfold La at f
   by_cases e:j=i
   ·subst e
    rw[Sj rfl]at f
    exact(m b f).imp (fun h=>.inr (.inr ⟨j,n,h⟩)) id
   ·rw[Si e]at f
    exact .inl (.inr (.inr ⟨j,n,f⟩))
 ·exact((Chg.of_grown q).wk (fun b f=>.inr (o i hi b f).1)).grown p S7
end
def jF(m:df)(K i:Nat):List (List Int):=(List.range K).map fun k=>((List.range i).filter fun t=>decide (zk m t=k)).map fun t:Nat=>(t:Int)
def jH{m:df}{i:Nat}:(jF m K i).length=K:=by unfold jF;rw[O1,O4]
def jG{m:df}{i k:Nat}(h:k<(jF m K i).length):(jF m K i)[k]=((List.range i).filter fun t=>decide (zk m t=k)).map fun t:Nat=>(t:Int):=by
 simp only[jF,OF,OH]
def jJ{m:df}{i k:Nat}(h:k<(jF m K i).length):(jF m K i)[k].length<=i:=by
 rw[jG,O1];exact Qk (O0 _ _) (by rw[O4];exact Qj _)
def jK{m:df}:jF m K 0=List.replicate K []:=by
 unfold jF;refine N4 SQ fun i h1 h2=>?_
 simp
def jI{m:df}{i:Nat}(h:zk m i<(jF m K i).length):(jF m K i).set (zk m i) ((jF m K i)[zk m i]++[(i:Int)])=jF m K (i+1):=by
 refine N4 (by rw[O7,jH,jH]) fun j h1 h2=>?_
 rw[OJ,jG h2,PL,N6,Pb];by_cases e:zk m i=j
 ·subst e
  rw[Sj rfl,jG];simp
 ·rw[Si e,jG]
  simp[e]
def GP(p:Nat->Bool)(i:Nat):List Int:=((List.range i).filter p).map fun s:Nat=>(s:Int)
def GR{p:Nat->Bool}{i:Nat}:GP p (i+1)=if p i=true then GP p i++[(i:Int)]else GP p i:=by
 unfold GP;rw[PL,N6,Pb,N7,N_];cases p i<;>simp
def GQ{p:Nat->Bool}{i:Nat}:(GP p i).length<=i:=by
 unfold GP;rw[O1];exact Qk (O0 _ _) (by rw[O4];exact Qj _)
def rngM_next{f:Nat->α}{i:Nat}:(List.range (i+1)).map f=(List.range i).map f++[f i]:=by rw[PL,Pb];rfl
def E4(w:World)(F:Nat->Prop)(x:Nat)(h:x<18446744073709551616):Rd w F (.int .u64 (x:Int)) x:=⟨_,rfl,E_ _ _ x h⟩
def BR(w:World):AutoAt w (dl w) (.agg #[.slice none 0 0,.slice none 0 0,.slice none 0 0,.slice none 0 0,.slice none 0 0]) nilA5:=
 ⟨none,0,none,0,none,0,none,0,none,0,rfl,Sl.zero w _,Sl.zero w _,Sl.zero w _,Sl.zero w _,Sl.zero w _⟩
def db(w0:World){t:Ltl}(hk:Sl w0 (dl w0) C B t.kids):
  Rt UA 61 [AR t.k t.n C t.kids.length B].toArray w0 fun v w'=>(∃rv,v=.tuple ⟨[rv,Te (AW t).2]⟩/\AutoAt w' (dl w') rv (AW t).1)/\Ext w0 w':=by
 refine dU Tryz.func61 Tryz.ntmps61 rfl rfl ?_;have hE:=Ext.refl w0;refine T9 ?_;refine eJ fun n O e1=>?_
 have hE:=hE.trans e1;have l1:=O.lt;refine eF (fun w2 hb2 W=>?_);have O:=O.ext W;have hE:=hE.trans W;have l2:=hb2.lt;have y2:=W.size;refine TN ?_;refine eN (dq w2 (hk.up hE) S3) ?_;rintro _ w3 ⟨x,rfl,hx,e3⟩
 unfold AW;have hpl:=D0 (t:=t);have hhas:=D4 t;generalize (DZ t).2=err at*
 generalize (DZ t).1=f at*
 obtain⟨fo,fc,rfl,hfk⟩:=Rd.ltl hx;have O:=O.ext e3;have hb2:=hb2.ext e3;have hE:=hE.trans e3;have y3:=e3.size;refine Ue ?_;refine f_ O (fun w4 O hg4=>?_);have y4:=hg4.size;have hE4:Ext w0 w4:=hE.grown hg4 hE.size S2;have hb24:=hb2.kept hg4 S6;have hfk4:Sl w4 (Nw w2 w3) fo fc f.kids:=hfk.mono (fun b d=>hg4.block b d.2 (fun e=>by have:=QV e;have:=d.1;omega)) S3;clear hfk hx hg4 hb2 e1 W e3 hE;refine T2 ?_;apply CW.cond rfl<;>intro h
 ·have h:err≠0:=by simpa using h
  rw[Sj h];refine T9 ?_;refine WL.build (parts:=[]) rfl rfl rfl rfl (Ue ?_);refine f_ hb24 (fun w5 hb5 hg5=>?_);have hE5:Ext w0 w5:=hE4.grown hg5 hE4.size S2;refine T5 ?_;exact bu rfl rfl rfl hb5 rfl ⟨⟨_,rfl,BR _⟩,hE5⟩
 have h:err=0:=by simpa using h
 obtain⟨hw,rfl,hwp,hn60⟩:=hpl h;have hhas:=hhas hw;rw[Si (by simp[h])];clear h hpl;generalize D1 t=f at*
 obtain⟨hT,hF⟩:=Jf hwp hhas.1 hhas.2;have hga:=sf f ([],[]);have hmlen:=Jd f;refine Tq ?_;refine WL.build (parts:=[]) rfl rfl rfl rfl (eJ fun w5 hsb e5=>?_)
 have l5:=hsb.lt;have y5:=e5.size;have hM5:MkO w5 w4.heap.size (Nw w2 w3) w4.heap.size (.slice none 0 0) (.slice none 0 0) ([],[]):=
  ⟨hsb,Own.nil,Own.nil,Qj _,(fun g I=>by cases I),(fun g I=>by cases I),(fun g I=>by cases I),fun b d=>by have:=d.2;omega⟩
 have hb15:=O.ext e5;have hb25:=hb24.ext e5;have hE5:=hE4.trans e5;refine TN ?_;refine eN (sI _ f Ta hwp w5 hM5 y5 (hfk4.mono (fun b d=>e5.block b (by have:=d.2;omega)) S3) ST) ?_;rintro _ w6 ⟨av,pv,M,hC6,na6,np6⟩
 have y6:=hC6.size;have hlo6:=M.lo;have hC6':Chg (fun b=>b=w4.heap.size) w5 w6:=hC6.wk (fun b d=>by
  rcases d with h|h|h
  ·exact h
  ·cases h
  ·cases h)
 have hblk6:=M.blk;refine Tv ?_;refine eN (H0 w6 M.a (by simp at hga;omega)) ?_;rintro _ w7 ⟨rfl,hso,hg7⟩
 have y7:=hg7.size;have hsbE:w4.heap.size<w5.heap.size:=l5;have hM7:MkO w7 w4.heap.size (Nw w2 w3) w4.heap.size av pv (Jc f):=
  ⟨M.blk.kept hg7 (fun e=>M.na _ e.symm rfl),hso,M.p.kept hg7 (fun g I e=>M.nap g e.symm I) (fun b d=>⟨by have:=d.2;omega,fun e=>by have:=(hlo6 b (.inr (.inl e.symm))).1;have:=d.2;omega⟩),M.ge,M.na,M.np,M.nap,M.hF⟩
 have hold:∀b,b<w4.heap.size->w7.heap[b]?=w4.heap[b]?:=fun b d=>(hg7.block b SM (fun e=>by have:=(hlo6 b (.inr (.inl e.symm))).1;omega)).trans ((hC6'.block b SM SM).trans (e5.block b d))
 have hb17:Blk w7 _ _ _:=(hold _ SM).trans O;have hb27:Blk w7 _ _ _:=(hold _ SM).trans hb24;have hE7:Ext w0 w7:=by
  have h1:Ext w4 w7:=⟨hg7.os.trans (hC6.os.trans e5.os),hg7.tape.trans (hC6.tape.trans e5.tape),hg7.output.trans (hC6.output.trans e5.output),by omega,hold⟩;exact hE4.trans h1
 have hfk7:Sl w7 (Nw w2 w3) fo fc f.kids:=hfk4.mono (fun b d=>hold b (by have:=d.2;omega)) S3;clear M hC6 na6 np6 hC6' hblk6 hso hg7 hM5 hsb hb15 hb25 hfk4 hb24 O e5 hE5 hlo6;obtain⟨ao,ac,rfl⟩:=hM7.a.val;obtain⟨po,pc,rfl⟩:=hM7.p.val;have hblk7:=hM7.blk;have hml:(Jc f).1.length+(Jc f).2.length<=60:=by rw[hmlen.1,hmlen.2];simp at hga;omega
 refine Uc ?_;refine QL.nil (fun w8 e8=>?_);have hE8:=hE7.trans e8;have hb18:=hb17.ext e8;have hb28:=hb27.ext e8;have y8:=e8.size;have hM8:=hM7.ext SM e8;have hfk8:=hfk7.mono (w':=w8) (fun b d=>e8.block b (by have:=d.2;omega)) (F':=fun b=>b<w8.heap.size) (fun b d=>by have:=d.2;omega);rw[show(((Jc f).1.length:Nat):Int)+(((Jc f).2.length:Nat):Int)=((Cs (Jc f):Nat):Int) by unfold Cs;omega];refine T2 ?_;apply CW.cond rfl<;>intro h
 ·have h:Cs (Jc f)>10:=by exact_mod_cast Sq h
  rw[Sj h];refine T9 ?_;refine WL.build (parts:=[]) rfl rfl rfl rfl (f_ hb28 (fun w9 hb9 hg9=>?_));have hE9:Ext w0 w9:=hE8.grown hg9 hE8.size S2;refine T5 ?_;exact bu rfl rfl rfl hb9 rfl ⟨⟨_,rfl,BR _⟩,hE9⟩
 have h10:¬Cs (Jc f)>10:=by exact_mod_cast Sp h
 rw[Si h10];clear h;have hlo8:=hM8.lo;have hMk8:MkF w8 (fun b=>b<w8.heap.size) w4.heap.size (Jc f):=by
  obtain⟨po',pc',ep,hps⟩:=hM8.p.slF (F':=fun b=>b<w8.heap.size) (fun b d=>by have:=d.2;omega) (fun g I=>(hM8.p.lt g I).2.1);obtain⟨ao',ac',ea,has⟩:=hM8.a.slF (F':=fun b=>b<w8.heap.size) (fun b d=>d.elim) (fun g I=>(hM8.a.lt g I).2.1);obtain⟨rfl,_,rfl⟩:=RS ep;obtain⟨rfl,_,rfl⟩:=RS ea;exact⟨⟨ao,ac,po,pc,hM8.blk,has,hps⟩,by omega⟩
 have hmk:=hMk8;clear hM7 hM8 hblk7 hE7 hb17 hb27 hfk7 hold hlo8 hmlen hga e8;generalize Jc f=m at*
 generalize hsbn:w4.heap.size=sb at*
 have Y:m.1.length<=20/\m.2.length<=20:=by unfold Cs at h10;omega
 have hpN:(1 <<< Cs m)=2 ^ Cs m:=Qz _;have hp10:2 ^ Cs m<=2 ^ 10:=QB SM SM;have hpK:(1 <<< m.2.length)=2 ^ m.2.length:=Qz _;have hpK10:2 ^ m.2.length<=2 ^ 10:=QB SM (by unfold Cs at h10;omega);refine Tq ?_;refine eF (fun w9 hb7 e9=>?_);have l9:=hb7.lt;have hb19:=hb18.ext e9;have hb29:=hb28.ext e9;have hmk9:=hmk.to (w':=w9) (fun b d=>e9.block b d);have hfk9:=hfk8.mono (w':=w9) (fun b d=>e9.block b d) (F':=fun b=>b<w8.heap.size) S3;have hE9:=hE8.trans e9;obtain⟨ao',ac',po',pc',hblk9,has9,hps9⟩:=hmk9.ok;generalize hb7n:w8.heap.size=b7 at*
 refine TQ ?_;rw[HC (show m.2.length<62 by omega)];generalize 1 <<< m.2.length=K at*
 refine fK (α:=Raw) rfl rfl rfl rfl SM SS (fun w10 ho10 hg10=>?_);have e10:Ext w9 w10:=(MW _ _).grown hg10 Ta S5;generalize hbv:Value.slice (some ⟨w9.heap.size,0,none⟩) (K) (K)=bv at*
 have hN10:OwnN w10 w9.heap.size 39 3 bv _ (List.replicate (K) ([]:List Int)):=OwnN.made ho10;rw[<-jK (m:=m)]at hN10
 clear ho10 hg10;refine TI ?_;rw[HC (show Cs m<62 by omega)];generalize 1 <<< Cs m=N at*
 refine CW.loop (S:=Nat×List Raw) (fun s=>[(1,Tg w0.heap.size),(2,Tg n.heap.size),(5,Tg sb),(6,Te ((Cs m:Nat):Int)),(7,Tg b7),(8,bv),(57,Te (N:Int)),(58,Te s.1)])
  (fun s w=>s.1<=N/\OwnN w w9.heap.size 39 3 bv s.2 (jF m (K) s.1)/\Ext w9 w) (fun s=>N -s.1) (0,_) SL ⟨QK _,hN10,e10⟩ ?_
 clear hN10 e10;rintro⟨i,vs⟩ w ⟨hi,hN,e⟩
 dsimp only at hi hN e⊢
 have hvl:=hN.len;rw[jH]at hvl
 refine T2 ?_;apply CW.cond rfl<;>intro h
 ·have J:i<N:=by have h:=Sq h;omega
  clear h;refine TI ?_;refine WL.call (rfl) rfl rfl (zm w ((hmk9.rd (fun b d=>by omega)).ext e) hT (by rw[hpN]at J;omega) Y) ?_;rintro _ w11 ⟨rfl,e11⟩
  have hN11:=hN.ext e11;have e911:=e.trans e11;have hkl:zk m i<K:=by rw[hpK];exact Dv
  have hkv:zk m i<vs.length:=by omega
  have hkb:zk m i<(jF m (K) i).length:=by rw[jH];exact hkl
  have hin:=hN11.inn (zk m i) hkv hkb;have hrow:=jJ (m:=m) hkb;have A:=jI (m:=m) hkb;generalize zk m i=k at*
  refine T2 ?_;refine fj rfl rfl rfl rfl rfl hN11.out hkv SX (fun u q hu=>?_);obtain⟨rfl,_⟩:=hu.raw;refine Ue ?_;refine eH (F:=di) (yv:=(i:Int)) rfl rfl SX rfl rfl SX hin S_ e911.size S0 SP SS SM (fun v' w12 p ho12 hg12 hnb=>?_);have hmid:=hN11.mid hkv hg12;refine f6 (u:=v') (yv:=⟨v'⟩) rfl rfl rfl rfl hmid hkv SX SX (Rd.mkRaw _ _ _ ?_) (fun w13 q ho13 hg13=>?_)
  ·obtain⟨a,b,rfl⟩:=ho12.val;rfl
  have hN13:=hN11.set hkv ho12 hg12 hnb ho13 hg13;rw[A]at hN13
  have e13:Ext w9 w13:=(e911.grown hg12 e911.size (fun b d=>(hin.lt b d).1)).grown hg13 (Qk e911.size hg12.size) (fun b d=>(hN11.out.lt b d).1);refine Tn ?_;exact EX.back (i+1,vs.set k ⟨v'⟩) SL ⟨J,hN13,e13⟩ SR
 obtain rfl:N=i:=by have h:=Sp h;omega
 clear h hi;have hlN:=hN.lt;obtain⟨bo,bc,rfl,hby⟩:=hN.sl;have yw:=e.size;have hbyL:=hby.mono (w':=w) S8 (F':=fun b=>w9.heap.size<=b/\b<w.heap.size) (fun b d=>hlN b d);have hmkL:=hmk9.to (w':=w) (fun b d=>e.block b SM);have hfkL:=hfk9.mono (w':=w) (fun b d=>e.block b SM) (F':=fun b=>b<b7) S3;have hb7L:=hb7.ext e;have hb1L:=hb19.ext e;have hb2L:=hb29.ext e;have hEL:=hE9.trans e;have hNlt:N<=1024:=by rw[hpN];exact hp10
 clear hN hvl hby hlN hb7 hb19 hb29 hmk9 hfk9 e9 hE9 hE8 hb18 hb28 hmk hfk8 hblk9 has9 hps9 e;generalize hwLn:w.heap.size=wn at*
 have r:∀{z:World},Chg (fun b=>b=b7\/wn<=b) w z->∀b,b<wn->b≠b7->z.heap[b]?=w.heap[b]?:=fun {z} V b d hne=>V.block b SM SM
 have hMA:∀{z:World},Chg (fun b=>b=b7\/wn<=b) w z->MkA z sb m/\Sl z (dl z) fo fc f.kids/\Blk z w0.heap.size 32 [Te f.k,Te f.n,.slice fo f.kids.length fc]/\Sl z (fun b=>w9.heap.size<=b/\b<wn) bo bc (jF m K N):=fun {z} V=>by
  have hz:=V.size;exact⟨(hmkL.to (fun b d=>r V b SM SM)).rd (fun b d=>by omega),hfkL.mono (fun b d=>r V b SM SM) (fun b d=>by exact(show b<z.heap.size by omega)),(r V _ SM SM).trans hb1L,hbyL.mono (fun b d=>r V b d.2 SM) S3⟩
 refine T6 ?_;rw[HC (show Cs m<62 by omega),show(1 <<< Cs m:Nat)=N by rw[Qz,hpN]];refine CW.loop (S:=Nat×(Nat->Value)×List Raw) (fun s=>[(1,Tg w0.heap.size),(2,Tg n.heap.size),(5,Tg sb),(6,Te ((Cs m:Nat):Int)),(7,Tg b7),(8,.slice bo (jF m K N).length bc),(76,Te (N:Int)),(77,Te s.1)])
  (fun s z=>s.1<=N/\OutA z wn b7 s.2.1 (GP (fun x=>ut m x f) s.1) s.2.2 ((List.range s.1).map fun x=>jm m x true) ((List.range s.1).map fun x=>jm m x false) []/\InnR z (oM n.heap.size b7 s.2.1) s.2.2 ((List.range s.1).map fun x=>GP (fun t=>decide (zk m t=x >>> m.1.length)) N)/\Chg (fun b=>b=b7\/wn<=b) w z)
  (fun s=>N -s.1) (0,(fun _=>.slice none 0 0),[]) SL ⟨QK _,⟨hb7L,Own.nil,Own.nil,Own.nil,Own.nil,Own.nil,(fun i j _ _ _ g I=>by cases I),by omega⟩,InnR.nil,Chg.refl _ _⟩ ?_
 rintro⟨i,c,vs⟩ z ⟨hi,Z,hR,V⟩
 dsimp only at hi Z hR V⊢
 obtain⟨kMA,kfk,kb1,kby⟩:=hMA V;have hz:=V.size;have hlt:=Z.lt;have hRl:=hR.len;rw[O1,O4]at hRl
 refine T2 ?_;apply CW.cond rfl<;>intro h
 ·have J:i<N:=by have h:=Sq h;omega
  clear h;have hs20:i<1048576:=by omega
  apply CW.skip;apply bE;apply CW.seq;apply CW.block;apply CW.seq;apply CW.region;refine Ue ?_;apply WL.nil;apply bE;refine aB (S:=Nat->Value) (fun c'=>[(1,Tg w0.heap.size),(2,Tg n.heap.size),(5,Tg sb),(6,Te ((Cs m:Nat):Int)),(7,Tg b7),(8,.slice bo (jF m K N).length bc),(11,Te (i:Int)),(76,Te (N:Int)),(77,Te (i:Int))])
   (fun c' z'=>OutA z' wn b7 c' (GP (fun x=>ut m x f) (i+1)) vs ((List.range i).map fun x=>jm m x true) ((List.range i).map fun x=>jm m x false) []/\InnR z' (oM n.heap.size b7 c') vs ((List.range i).map fun x=>GP (fun t=>decide (zk m t=x >>> m.1.length)) N)/\Chg (fun b=>b=b7\/wn<=b) w z') ?_ ?_
  ·refine TZ ?_
   refine eN (JL _ f Ta z kMA hF kfk hs20 Y) ?_;rintro _ z1 ⟨rfl,e1⟩
   have P:=Z.ext e1;have hR1:=hR.to (Chg.of_ext (oM n.heap.size b7 c) e1) (fun b d=>.inl d);have hC1:=V.trans (Chg.of_ext _ e1);have A:=GR (p:=fun x=>ut m x f) (i:=i);have hxl:=GQ (p:=fun x=>ut m x f) (i:=i);have hz1:=e1.size;cases hh:ut m i f with
   |false=>
    simp only[hh]at A
    rw[Si SP]at A
    refine Ua ?_;exact aZ c SL ⟨by rw[A];exact P,hR1,hC1⟩
   |true=>
    simp only[hh]at A
    rw[Sj trivial]at A
    have hblk1:=P.blk;have hlt1:=P.lt;refine TW ?_;refine eH (F:=di) (yv:=(i:Int)) rfl rfl SX rfl rfl SX P.o0 S_ SM S0 SP SS SM (fun v' z2 p ho2 hg2 hnb=>?_);obtain⟨so,sc,rfl⟩:=ho2.val;have hblk2:=hblk1.kept hg2 (fun e=>by have:=(hlt1 0 SM b7 e.symm).1;have:=Z.lb;omega);refine Ug ?_;refine f_ hblk2 (fun z3 L hg3=>?_);obtain⟨kk,kn,kd,B,km,kw⟩:=P.step (b2:=n.heap.size) (i:=0) (by omega) hg2 hg3 hnb SM;have ho3:=kn ho2;rw[<-A]at ho3
    refine T1 ?_;refine aZ (La c 0 _) SL ⟨⟨L,?_,kk 1 SM SM P.o1,kk 2 SM SM P.o2,kk 3 SM SM P.o3,kk 4 SM SM P.o4,kd,Z.lb⟩,hR1.to B km,hC1.then kw (fun b d=>.inl d)⟩;rw[show(GP (fun x=>ut m x f) i++[(i:Int)]).length=(GP (fun x=>ut m x f) (i+1)).length by rw[A]]at*
    exact ho3
  rintro c1 z1 ⟨P,hR1,hC1⟩
  have hs20':i<2 ^ 20:=by omega
  have hD:Ext z1 (drew z1):=Ext.drew z1;have hzd:=hD.size;have hz1:=hC1.size;have E:=P.ext hD;have hRd:=hR1.to (Chg.of_ext (oM n.heap.size b7 c1) hD) (fun b d=>.inl d);have U:=hC1.trans (Chg.of_ext _ hD);have o:=E.blk;have hltd:=E.lt;have lb:=E.lb;obtain⟨kMA,kfk,kb1,kby⟩:=hMA U;have howe:i >>> m.1.length<K:=by
   rw[hpK,QD,Qb (Nat.two_pow_pos _),<-Nat.pow_add];rw[hpN]at J
   unfold Cs at J
   rw[P4];exact J
  have hkb:i >>> m.1.length<(jF m K N).length:=by rw[jH];exact howe
  have hrowN:(jF m K N)[i >>> m.1.length]=GP (fun t=>decide (zk m t=i >>> m.1.length)) N:=jG hkb;have hrowl:=GQ (p:=fun t=>decide (zk m t=i >>> m.1.length)) (i:=N);refine T9 ?_;refine aF (fun x:World=>∀b,b<wn->x.heap[b]?=(drew z1).heap[b]?) [(0,true),(1,true),(2,true),(3,true),(4,true),(5,false),(6,true),(7,true),(8,false),(9,false),(10,false),(11,false)] 12 mixed SN S8 (Uq ?_);refine cz (fun u h=>h b7 lb) rfl rfl rfl rfl o rfl (Uq ?_);refine cD rfl (eN (Dr _ kMA Y.1) ?_);rintro _ _ ⟨rfl,rfl⟩
  refine WL.nil (bf S8 (cg (k:=i >>> m.1.length) (fun u h b d=>h b d.2) rfl rfl rfl rfl rfl rfl rfl kby hkb SX (fun u q hu=>?_)));rw[hrowN]at hu
  obtain⟨ro,rc,rfl,hrow⟩:=hu.sl;refine cD rfl (eN (lP (drew z1) (hrow.mono S8 (fun b d=>by have:=d.2;exact(show b<(drew z1).heap.size by omega))) SM) ?_);rintro rv z2 ⟨hrv,W⟩
  have hz2:=W.size;refine WL.nil (bf (fun b d=>W.block b SM) ?_);obtain⟨ro',rc',rfl⟩:=hrv.val;have H:=E.ext W;have hR2:=hRd.to (Chg.of_ext (oM n.heap.size b7 c1) W) (fun b d=>.inl d);have hC2:=U.trans (Chg.of_ext _ W);have hlt2:=H.lt;have hlo1:=H.o1.lt;refine b_ (α:=Raw) (F:=di) (bytes:=24) (yv:=(⟨.slice ro' (GP (fun t=>decide (zk m t=i >>> m.1.length)) N).length rc'⟩:Raw)) rfl rfl rfl rfl SX rfl rfl SX H.o1 (Rd.mkRaw _ _ _ rfl) SM S0 SP SS SM
   (fun u hu b d=>(hu.block b SM (fun e=>by have:=(hlo1 b e.symm).1;omega)).trans (W.block b SM)) (fun v' z3 p ho3 hg3 hnb=>?_)
  obtain⟨so,sc,rfl⟩:=ho3.val;have L:=H.blk.kept hg3 (fun e=>by have:=(hlo1 b7 e.symm).1;omega);have hz3:z2.heap.size<=z3.heap.size:=hg3.size;refine cD rfl (fm rfl rfl rfl (WL.nil (bf (fun b d=>(hg3.block b SM (fun e=>by have:=(hlo1 b e.symm).1;omega)).trans (W.block b SM)) (HL.nil (bB rfl (f_ L (fun z4 hblk4 hg4=>WL.nil (bC ?_))))))));obtain⟨kk,kn,kd,B,km,kw⟩:=H.step (b2:=n.heap.size) (i:=1) (by omega) hg3 hg4 hnb SM;have hrvR:Rd z2 (Fz z2 (oM n.heap.size b7 c1)) _ _:=hrv.rd.mono S8 (fun g I=>I.elim (fun h=>h.elim) (fun I=>⟨(hrv.lt g I).2.1,fun h=>by
   have h1:=(hrv.lt g I).1;rcases h with h|h|⟨j,hj,h⟩
   ·omega
   ·omega
   ·have:=(hltd j hj g h).2;omega⟩))
  have hR4:=(hR2.push hrvR).to B km;rw[<-rngM_next]at hR4
  have hA4:OutA z4 wn b7 (La c1 1 _) _ _ _ _ _:=⟨hblk4,kk 0 SM SM H.o0,kn ho3,kk 2 SM SM H.o2,kk 3 SM SM H.o3,kk 4 SM SM H.o4,kd,lb⟩;have hC4:=hC2.then kw (fun b d=>.inl d);generalize hc2:La c1 1 _=c2 at hA4 hR4
  clear kk kn kd B km kw hrvR hblk4 hg4 L hlt2 hlo1 hg3 hnb ho3 H hR2 hC2 W hrv hrow o hltd kMA kfk kb1 kby E hRd U hD P hR1 hC1;apply bE;have hD:Ext z4 (drew z4):=Ext.drew z4;have hzd:=hD.size;have hzi:=hC4.size;have E:=hA4.ext hD;have U:=hC4.trans (Chg.of_ext _ hD);have o:=E.blk;have lb:=E.lb;obtain⟨kMA,kfk,kb1,kby⟩:=hMA U;refine T9 ?_;refine aF (fun x:World=>∀b,b<wn->x.heap[b]?=(drew z4).heap[b]?) [(0,true),(1,true),(2,true),(3,true),(4,false),(5,false),(6,false),(7,false)] 8 mixed SN S8 (Uq ?_);refine cz (fun u h=>h b7 lb) rfl rfl rfl rfl o rfl (Uq ?_);refine cD rfl (eN (jo _ true kMA hT.ok hs20 Y.1) ?_);rintro _ zc ⟨rfl,ec⟩
  have hzc:=ec.size;refine WL.nil (bf (fun b d=>ec.block b SM) ?_);have l:=E.ext ec;have hRc:=hR4.to (Chg.of_ext (oM n.heap.size b7 c2) (hD.trans ec)) (fun b d=>.inl d);have hCc:=U.trans (Chg.of_ext _ ec);have G:=l.o2.lt;refine b_ (α:=Nat) (F:=di) (bytes:=8) (yv:=jm m i true) rfl rfl rfl rfl SX rfl rfl SX l.o2 (E4 _ _ _ (jk (fun x hx=>(hT.ok.ra x hx).2) Ta)) SM S0 SP (by unfold maxLen;rw[O1,O4];omega) (by rw[O1,O4];omega)
   (fun u hu b d=>(hu.block b SM (fun e=>by have:=(G b e.symm).1;omega)).trans (ec.block b SM)) (fun v' zA p hoA R hnb=>?_)
  obtain⟨so,sc,rfl⟩:=hoA.val;have T:=l.blk.kept R (fun e=>by have:=(G b7 e.symm).1;omega);have hzA:zc.heap.size<=zA.heap.size:=R.size;refine cD rfl (fm rfl rfl rfl (WL.nil (bf (fun b d=>(R.block b SM (fun e=>by have:=(G b e.symm).1;omega)).trans (ec.block b SM)) (HL.nil (bB rfl (f_ T (fun z5 D hgB=>WL.nil (bC ?_))))))));obtain⟨kk,kn,kd,B,km,kw⟩:=l.step (b2:=n.heap.size) (i:=2) (by omega) R hgB hnb SM;have hR5:=hRc.to B km;have Q:=hoA;rw[show((List.range i).map fun x=>jm m x true)++[jm m i true]=(List.range (i+1)).map fun x=>jm m x true from rngM_next.symm]at Q D kd km hR5 kn
  have hA5:OutA z5 wn b7 (La c2 2 _) _ _ _ _ _:=⟨D,kk 0 SM SM l.o0,kk 1 SM SM l.o1,kn Q,kk 3 SM SM l.o3,kk 4 SM SM l.o4,kd,lb⟩;have hC5:=hCc.then kw (fun b d=>.inl d);generalize hcv5:La c2 2 _=c3 at hA5 hR5
  clear kk kn kd B km kw R hgB hnb hoA Q l hRc hCc ec o kMA kfk kb1 kby E U hD hA4 hR4 hC4 T D G;apply bE;have hD:Ext z5 (drew z5):=Ext.drew z5;have hzd:=hD.size;have hzi:=hC5.size;have E:=hA5.ext hD;have U:=hC5.trans (Chg.of_ext _ hD);have o:=E.blk;have lb:=E.lb;obtain⟨kMA,kfk,kb1,kby⟩:=hMA U;refine aF (fun x:World=>∀b,b<wn->x.heap[b]?=(drew z5).heap[b]?) [(0,true),(1,true),(2,true),(3,true),(4,false),(5,false),(6,false),(7,false)] 8 mixed SN S8 (Uq ?_);refine cz (fun u h=>h b7 lb) rfl rfl rfl rfl o rfl (Uq ?_);refine cD rfl (eN (jo _ false kMA hT.ok hs20 Y.1) ?_);rintro _ zc ⟨rfl,ec⟩
  have hzc:=ec.size;refine WL.nil (bf (fun b d=>ec.block b SM) ?_);have l:=E.ext ec;have hRc:=hR5.to (Chg.of_ext (oM n.heap.size b7 c3) (hD.trans ec)) (fun b d=>.inl d);have hCc:=U.trans (Chg.of_ext _ ec);have G:=l.o3.lt;refine b_ (α:=Nat) (F:=di) (bytes:=8) (yv:=jm m i false) rfl rfl rfl rfl SX rfl rfl SX l.o3 (E4 _ _ _ (jk (fun x hx=>(hT.ok.ra x hx).2) Ta)) SM S0 SP (by unfold maxLen;rw[O1,O4];omega) (by rw[O1,O4];omega)
   (fun u hu b d=>(hu.block b SM (fun e=>by have:=(G b e.symm).1;omega)).trans (ec.block b SM)) (fun v' zA p hoA R hnb=>?_)
  obtain⟨so,sc,rfl⟩:=hoA.val;have T:=l.blk.kept R (fun e=>by have:=(G b7 e.symm).1;omega);have hzA:zc.heap.size<=zA.heap.size:=R.size;refine cD rfl (fm rfl rfl rfl (WL.nil (bf (fun b d=>(R.block b SM (fun e=>by have:=(G b e.symm).1;omega)).trans (ec.block b SM)) (HL.nil (bB rfl (f_ T (fun z6 D hgB=>WL.nil (bC ?_))))))));obtain⟨kk,kn,kd,B,km,kw⟩:=l.step (b2:=n.heap.size) (i:=3) (by omega) R hgB hnb SM;have hR6:=hRc.to B km;have Q:=hoA;rw[show((List.range i).map fun x=>jm m x false)++[jm m i false]=(List.range (i+1)).map fun x=>jm m x false from rngM_next.symm]at Q D kd km hR6 kn
  have hA6:OutA z6 wn b7 (La c3 3 _) _ _ _ _ _:=⟨D,kk 0 SM SM l.o0,kk 1 SM SM l.o1,kk 2 SM SM l.o2,kn Q,kk 4 SM SM l.o4,kd,lb⟩;have hC6:=hCc.then kw (fun b d=>.inl d);generalize hcv6:La c3 3 _=c4 at hA6 hR6
  clear kk kn kd B km kw R hgB hnb hoA Q l hRc hCc ec o kMA kfk kb1 kby E U hD hA5 hR5 hC5 T D G;refine Tn ?_;exact EX.back (i+1,c4,_) SL ⟨J,hA6,hR6,hC6⟩ SR
 obtain rfl:N=i:=by have h:=Sp h;omega
 clear h hi hRl;obtain⟨mao,mac,mpo,mpc,hblkw,hasw,hpsw⟩:=hmkL.ok;have hblkz:Blk z _ _ _:=(r V sb SM SM).trans hblkw;refine T6 ?_;refine CW.loop (S:=Nat×(Nat->Value)×List Raw) (fun s=>[(2,Tg n.heap.size),(5,Tg sb),(6,Te ((Cs m:Nat):Int)),(7,Tg b7),(122,.slice mpo m.2.length mpc),(123,Te m.2.length),(124,Te s.1)])
  (fun s z=>s.1<=m.2.length/\OutA z wn b7 s.2.1 (GP (fun x=>ut m x f) N) vs ((List.range N).map fun x=>jm m x true) ((List.range N).map fun x=>jm m x false) s.2.2/\InnR z (oM n.heap.size b7 s.2.1) vs ((List.range N).map fun x=>GP (fun t=>decide (zk m t=x >>> m.1.length)) N)/\
   InnR z (oM n.heap.size b7 s.2.1) s.2.2 (((m.2.take s.1).filter fun g=>decide (g.k≠7)).map fun g=>GP (pZ m g) N)/\Chg (fun b=>b=b7\/wn<=b) w z)
  (fun s=>m.2.length -s.1) (0,c,[]) SL ⟨QK _,Z,hR,InnR.nil,V⟩ ?_
 clear hblkz Z hR V kMA kfk kb1 kby hlt hz c z;rintro⟨i,c,us⟩ z ⟨hi,Z,hR,hU,V⟩
 dsimp only at hi Z hR hU V⊢
 have hz:=V.size;have hlt:=Z.lt;have hUl:=hU.len;have hfl:((m.2.take i).filter fun g=>decide (g.k≠7)).length<=i:=Qk (O0 _ _) (by rw[O9];omega);rw[O1]at hUl
 refine T2 ?_;apply CW.cond rfl<;>intro h
 ·have J:i<m.2.length:=by have h:=Sq h;omega
  clear h;have hpsz:Sl z (fun b=>b<b7) mpo mpc m.2:=hpsw.mono (fun b d=>r V b (by have d:b<b7:=d;omega) (by have d:b<b7:=d;omega)) S3;have htk:(m.2.take (i+1))=m.2.take i++[m.2[i]]:=by rw[PT,On J];rfl
  have hmem:m.2[i]∈m.2:=OG J;refine T7 ?_;refine fg (i:=i) rfl rfl rfl rfl rfl hpsz J SX (fun u q hu=>?_);generalize m.2[i]=g at*
  obtain⟨go,gc,rfl,hgk⟩:=Rd.ltl hu;clear hu hpsz;refine eF (fun z1 hg1 e1=>?_);refine f_ hg1 (fun z2 hg2 hgg2=>?_);have W:Ext z z2:=MT e1 hgg2 e1.size SZ;have hz2:=W.size;have H:=Z.ext W;have hR2:=hR.to (Chg.of_ext (oM n.heap.size b7 c) W) (fun b d=>.inl d);have hU2:=hU.to (Chg.of_ext (oM n.heap.size b7 c) W) (fun b d=>.inl d);have hC2:=V.trans (Chg.of_ext _ W);have lg:=hg2.lt;have hgk2:=hgk.mono (w':=z2) (F':=fun b=>b<b7) (fun b d=>W.block b (by have d:b<b7:=d;omega)) S3;have hOg:=hT.part hmem;clear hg1 e1 hgg2 Z hR hU V hgk;refine TJ ?_;apply CW.cond rfl<;>intro h
  ·have h:g.k=7:=by simpa using h
   refine To ?_;refine EX.back (i+1,c,us) SL ⟨J,H,hR2,?_,hC2⟩ SR;rw[htk,N6,show([g].filter fun g=>decide (g.k≠7))=[] by simp[h],NG];exact hU2
  have hk7:g.k≠7:=by simpa using h
  have htk2:((m.2.take (i+1)).filter fun g=>decide (g.k≠7))=((m.2.take i).filter fun g=>decide (g.k≠7))++[g]:=by rw[htk,N6,show([g].filter fun g=>decide (g.k≠7))=[g] by simp[hk7]]
  clear h htk;obtain⟨a,rfl⟩|⟨k,a,b,hk,rfl⟩:=DK (hT.ok.wp g hmem).1 (hT.ok.wp g hmem).2.1
  ·exact absurd rfl hk7
  clear hk7;generalize hgd:Ltl.mk k 0 [a,b]=g at*
  refine TI ?_;rw[HC (show Cs m<62 by omega),show(1 <<< Cs m:Nat)=N by rw[Qz,hpN]];refine CW.loop (S:=Nat×Value) (fun s=>[(2,Tg n.heap.size),(5,Tg sb),(6,Te ((Cs m:Nat):Int)),(7,Tg b7),(13,Tg z.heap.size),(14,s.2),(122,.slice mpo m.2.length mpc),(123,Te m.2.length),(124,Te i),(132,Te (N:Int)),(133,Te s.1)])
   (fun s y=>s.1<=N/\Own y z2.heap.size 3 di s.2 (GP (pZ m g) s.1)/\Ext z2 y) (fun s=>N -s.1) (0,.slice none 0 0) SL ⟨QK _,Own.nil,Ext.refl _⟩ ?_
  rintro⟨j,sv⟩ y ⟨hj,hs,ey⟩
  dsimp only at hj hs ey⊢
  have hy:=ey.size;have hsl:=GQ (p:=pZ m g) (i:=j);refine T2 ?_;apply CW.cond rfl<;>intro h
  ·have hj':j<N:=by have h:=Sq h;omega
   clear h;have hgy:=hg2.ext ey;obtain⟨kMA,kfk,kb1,kby⟩:=hMA (hC2.trans (Chg.of_ext _ ey));have hgky:=hgk2.mono (w':=y) (F':=dl y) (fun b d=>ey.block b (by have d:b<b7:=d;omega)) (fun b d=>(show b<y.heap.size by have d:b<b7:=d;omega));have A:=GR (p:=pZ m g) (i:=j);subst hgd;refine TE ?_;refine eN (JJ _ (k:=k) (a:=a) (b:=b) kMA hOg hk hgky (show j<1048576 by omega) Y) ?_;rintro v y1 ⟨hv,e1⟩
   have hs1:=hs.extN e1;have hey:=ey.trans e1;have hy1:=hey.size;generalize pZ m (.mk k 0 [a,b]) j=bb at hv A
   subst hv;cases bb with
   |false=>
    rw[Si SP]at A
    refine Tz ?_;exact EX.back (j+1,sv) SL ⟨hj',by rw[A];exact hs1,hey⟩ SR
   |true=>
    rw[Sj rfl]at A
    refine T4 ?_;refine eH (F:=di) (yv:=(j:Int)) rfl rfl SX rfl rfl SX hs1 S_ SM S0 SP SS SM (fun v' y2 p ho2 hgr2 hnb=>?_);rw[<-A]at ho2
    refine Tn ?_;exact EX.back (j+1,v') SL ⟨hj',ho2,hey.grown hgr2 hey.size (fun g I=>(hs1.lt g I).1)⟩ SR
  obtain rfl:N=j:=by have h:=Sp h;omega
  clear h hj;have X:=H.ext ey;have hRy:=hR2.to (Chg.of_ext (oM n.heap.size b7 c) ey) (fun b d=>.inl d);have hUy:=hU2.to (Chg.of_ext (oM n.heap.size b7 c) ey) (fun b d=>.inl d);have hCy:=hC2.trans (Chg.of_ext _ ey);have hblky:=X.blk;have hlty:=X.lt;have lb:=X.lb;have hlo4:=X.o4.lt;obtain⟨ro,rc,rfl⟩:=hs.val;clear H hR2 hU2 hC2 hg2;refine T6 ?_;refine eH (α:=Raw) (F:=di) (yv:=(⟨.slice ro (GP (pZ m g) N).length rc⟩:Raw)) rfl rfl SX rfl rfl SX X.o4 (Rd.mkRaw _ _ _ rfl) SM S0 SP SS SM (fun v' y2 p ho2 hgr2 hnb=>?_);obtain⟨so,sc,rfl⟩:=ho2.val;have hblk2:=hblky.kept hgr2 (fun e=>by have:=(hlo4 b7 e.symm).1;omega);refine Ug ?_;refine f_ hblk2 (fun y3 L hgr3=>?_);obtain⟨kk,kn,kd,B,km,kw⟩:=X.step (b2:=n.heap.size) (i:=4) (by omega) hgr2 hgr3 hnb SM;have hrvR:Rd y (Fz y (oM n.heap.size b7 c)) _ _:=hs.rd.mono S8 (fun g I=>I.elim (fun h=>h.elim) (fun I=>⟨(hs.lt g I).2.1,fun h=>by
   have h1:=(hs.lt g I).1;rcases h with h|h|⟨j,hj,h⟩
   ·omega
   ·omega
   ·have:=(hlt j hj g h).2;omega⟩))
  have hU3:=(hUy.push hrvR).to B km;rw[show((m.2.take i).filter fun g=>decide (g.k≠7)).map (fun g=>GP (pZ m g) N)++[GP (pZ m g) N]=((m.2.take (i+1)).filter fun g=>decide (g.k≠7)).map (fun g=>GP (pZ m g) N) by rw[htk2,Pb];rfl]at hU3
  have hA3:OutA y3 wn b7 (La c 4 _) _ _ _ _ _:=⟨L,kk 0 SM SM X.o0,kk 1 SM SM X.o1,kk 2 SM SM X.o2,kk 3 SM SM X.o3,kn ho2,kd,lb⟩;refine Tn ?_;exact EX.back (i+1,_,_) SL ⟨J,hA3,hRy.to B km,hU3,hCy.then kw (fun b d=>.inl d)⟩ SR
 obtain rfl:i=m.2.length:=by have h:=Sp h;omega
 rw[PV]at hU
 clear h hi;have hblkz:=Z.blk;have lb:=Z.lb;have hb2z:Blk z _ _ _:=(r V n.heap.size SM SM).trans hb2L;have hE:Ext w0 z:=Chg.ext hEL V (fun b d=>by omega);have hFF:∀b,Fz z (oM n.heap.size b7 c) b->b<z.heap.size/\b≠n.heap.size:=fun b d=>⟨d.1,fun e=>d.2 (.inl e)⟩
 have hFo:∀j,j<5->∀g,(c j).ownBlock=some g->g<z.heap.size/\g≠n.heap.size:=fun j hj g I=>⟨(hlt j hj g I).2,by have:=(hlt j hj g I).1;omega⟩
 obtain⟨a1,d1,e1,s1⟩:=Z.o0.slF (F':=fun b=>b<z.heap.size/\b≠n.heap.size) S0 (hFo 0 SM);obtain⟨a2,d2,W,s2⟩:=hR.sl (F:=fun b=>b<z.heap.size/\b≠n.heap.size) Z.o1 hFF (hFo 1 SM);obtain⟨a3,d3,e3,s3⟩:=Z.o2.slF (F':=fun b=>b<z.heap.size/\b≠n.heap.size) S0 (hFo 2 SM);obtain⟨a4,d4,e4,s4⟩:=Z.o3.slF (F':=fun b=>b<z.heap.size/\b≠n.heap.size) S0 (hFo 3 SM);obtain⟨a5,d5,e5,s5⟩:=hU.sl (F:=fun b=>b<z.heap.size/\b≠n.heap.size) Z.o4 hFF (hFo 4 SM);rw[e1,W,e3,e4,e5]at hblkz
 clear Z hR hU;refine Ub ?_;refine f_ hb2z (fun z1 O hg1=>?_);have hz1:=hg1.size;have hk1:∀b,b<z.heap.size/\b≠n.heap.size->z1.heap[b]?=z.heap[b]?:=fun b d=>hg1.block b d.1 (fun e=>d.2 (QV e))
 have hk2:∀b,b<z.heap.size/\b≠n.heap.size->dl z1 b:=fun b d=>(show b<z1.heap.size by omega)
 have hE1:Ext w0 z1:=hE.grown hg1 hE.size S2;refine Tk ?_;have hT5:Ja m f=(GP (fun x=>ut m x f) N,(List.range N).map fun x=>GP (fun t=>decide (zk m t=x >>> m.1.length)) N,(List.range N).map fun x=>jm m x true,(List.range N).map fun x=>jm m x false,(m.2.filter fun g=>decide (g.k≠7)).map fun g=>GP (pZ m g) N):=by rw[hpN];rfl
 refine bu rfl rfl rfl O rfl ⟨⟨_,rfl,?_⟩,hE1⟩;show AutoAt z1 (dl z1) _ (Ja m f);rw[hT5];exact⟨a1,d1,a2,d2,a3,d3,a4,d4,a5,d5,rfl,s1.mono hk1 hk2,s2.mono hk1 hk2,s3.mono hk1 hk2,s4.mono hk1 hk2,s5.mono hk1 hk2⟩

def Sl.notB{ao:Option Addr}{cap b:Nat}{xs:List Int}{e:TypeId}(h:Sl w F ao cap xs)(m:Blk w b e r)(l:∀(k:Nat) (x:Int),r[k]?≠some (Value.int IntKind.i64 x)):Sl w (fun c=>F c/\c≠b) ao cap xs:=by
 refine⟨h.le,h.mx,h.nil,fun i hi=>?_⟩;obtain⟨c,off,n,hf,f,d,g⟩:=h.el i hi;have a:f=[Value.int IntKind.i64 xs[i]]:=g;refine⟨c,off,n,⟨hf,fun j=>?_⟩,f,d,a⟩;subst a;have h1:=d 0 _ rfl;rw[j,R4 w b _ r.toArray e (0,0) m]at h1
 exact l _ _ (by simpa using h1)
def ai(W:cY)(f:Ltl):Prop:=∀ρ,WWay W ρ->GS (fun i=>W.2.2.1.getD (ρ i) 0) f 0
def Ck(f:Ltl):Ltl:=.mk 4 0 [f]
def sem_not{L:Nat->Nat}{f:Ltl}{i:Nat}:GS L (Ck f) i↔¬GS L f i:=by simp[Ck,GS,G4,G3]
def pN{W:cY}{f:Ltl}(d:du W)(h:(AW (Ck f)).2=0):aR W (AW (Ck f)).1↔¬ai W f:=by
 have b:=fun L=>(AX (L:=L) h).2.1
 have okA:=(AX (L:=fun _=>0) h).1;constructor
 ·rintro⟨r,c⟩ a
  obtain⟨h1,h2⟩:=pQ d (CJ okA) c;exact sem_not.1 ((b _).1 h2) (a _ h1)
 ·intro hn
  unfold ai at hn
  rw[Nk]at hn
  obtain⟨ρ,hρ⟩:=hn;rw[Classical.not_imp]at hρ
  exact pO hρ.1 ((b _).2 (sem_not.2 hρ.2))
structure JudE(W:cY)(f:Ltl)(s l:List Int)(is:Bool)(err:Int):Prop where
 bad:err≠0->is=false/\s=[]/\l=[]
 good:kB W=0->(kD f 1 0).1=0->(AW (Ck f)).2=0->err=0
 ok:err=0->kB W=0/\(kD f 1 0).1=0/\LJ f/\(AW (Ck f)).2=0/\(is=true↔ai W f)/\(is=true->s=[]/\l=[])/\(is=false->PathE W (AW (Ck f)).1 s l)
 err:kB W=0->(kD f 1 0).1=0->err≠0->err=(AW (Ck f)).2
def zh{W:cY}{f:Ltl}{s l:List Int}{is:Bool}{err:Int}(hf:(kD f 1 0).1=0)(h:(AW (Ck f)).2=0)(hF:bV W (AW (Ck f)).1 s l is err):JudE W f s l (!is&&decide (err=0)) err:=by
 have d:=(AX (L:=fun _=>0) h).2.2;have g:LJ f:=by
  have:=d;unfold Ck at this
  simp only[LJ,LK]at this
  exact this.2.2.2.2.1
 have okA:=(AX (L:=fun _=>0) h).1;rcases hF with⟨i,rfl,rfl,rfl,c⟩|⟨rfl,a,n,⟨rfl,rfl,rfl,e⟩|⟨rfl,j,hP⟩⟩
 ·exact⟨fun _=>⟨by simp[i],rfl,rfl⟩,fun a _ _=>(c a (kf okA)).elim,fun m=>absurd m i,fun a _ _=>(c a (kf okA)).elim⟩
 ·exact⟨fun h=>absurd rfl h,fun _ _ _=>rfl,fun _=>⟨a,hf,g,h,⟨fun _=>Nl.1 (fun hn=>e ((pN (kC a) h).2 hn)),fun _=>by simp⟩,fun _=>⟨rfl,rfl⟩,fun b=>by simp at b⟩,fun _ _ h=>absurd rfl h⟩
 ·exact⟨fun h=>absurd rfl h,fun _ _ _=>rfl,fun _=>⟨a,hf,g,h,⟨fun b=>by simp at b,fun k=>absurd k ((pN (kC a) h).1 j)⟩,fun b=>by simp at b,fun _=>hP⟩,fun _ _ h=>absurd rfl h⟩
def zg{W:cY}{f:Ltl}{err:Int}(h:err≠0)(e:kB W=0->(kD f 1 0).1=0->(AW (Ck f)).2=0->False)(d:kB W=0->(kD f 1 0).1=0->err=(AW (Ck f)).2):JudE W f [] [] false err:=
 ⟨fun _=>⟨rfl,rfl,rfl⟩,fun a b c=>(e a b c).elim,fun g=>absurd g h,fun a b _=>d a b⟩
def yQ(w0:World){W:cY}{f:Ltl}{o3 o4:Option Addr}{c1 c2:Nat}(h1:Sl w0 (dl w0) C c1 W.1)(h2:Sl w0 (dl w0) D c2 W.2.1)(h3:Sl w0 (dl w0) o3 B W.2.2.1)(h4:Sl w0 (dl w0) o4 a W.2.2.2)(hf:RL w0 o f)
  (sW:∀j,(W.2.1.getD j []).length<=1048576) (tW:W.1.length<=1048576):
  Rt UA 26 [L6 C c1 D c2 o3 B o4 a W.1.length W.2.1.length W.2.2.1.length W.2.2.2.length,o].toArray w0 fun v w'=>(∃s l is err so sc lo lc,v=.tuple ⟨[DO so sc lo lc s l,.bool is,Te err]⟩/\Sl w' (dl w') so sc s/\Sl w' (dl w') lo lc l/\JudE W f s l is err)/\Ext w0 w':=by
 have hm3:=h3.len63;obtain⟨ko,kc,rfl,hk⟩:=Rd.ltl hf;refine dV Tryz.func26 Tryz.ntmps26 rfl rfl ?_;have d:=Ext.refl w0;refine T9 ?_;refine eJ fun w1 g e1=>?_
 have d:=d.trans e1;skip;refine eJ fun w2 i e2=>?_
 have g:=g.ext e2;have d:=d.trans e2;skip;refine eF (fun w3 c e3=>?_);have g:=g.ext e3;have i:=i.ext e3;have l2:=d.size;have d:=d.trans e3;have l4:=c.lt;refine TN ?_;refine eN (Ll w3 (h1.up d) (h2.up d) hm3 (h4.up d)) ?_;rintro _ w4 ⟨rfl,X⟩
 have g:=g.ext X;have i:=i.ext X;have c:=c.ext X;have d:=d.trans X;clear e1 e2 e3;refine T2 ?_;apply CW.cond rfl<;>intro h
 ·have h:kB W≠0:=by simpa using h
  refine T9 ?_;refine WL.build (parts:=[]) rfl rfl rfl rfl ?_;refine Ue ?_;refine f_ c (fun w5 hb5 hg5=>?_);have hE5:Ext w0 w5:=d.grown hg5 d.size S2;refine T5 ?_;exact bA rfl rfl rfl rfl hb5 rfl ⟨⟨[],[],false,_,_,_,_,_,rfl,Sl.zero w5 _,Sl.zero w5 _,zg h (fun r _ _=>h r) (fun r _=>absurd r h)⟩,hE5⟩
 have hW:kB W=0:=by simpa using h
 clear h;refine Tq ?_;refine eN (AP w4 (hk.up d) S3) ?_;rintro _ w5 ⟨rfl,V⟩
 have g:=g.ext V;have i:=i.ext V;have c:=c.ext V;have d:=d.trans V;refine T2 ?_;apply CW.cond rfl<;>intro h
 ·have h:(kD f 1 0).1≠0:=by simpa using h
  refine T9 ?_;refine WL.build (parts:=[]) rfl rfl rfl rfl ?_;refine Ue ?_;refine f_ c (fun I hb6 hg6=>?_);have hE6:Ext w0 I:=d.grown hg6 d.size S2;refine T5 ?_;exact bA rfl rfl rfl rfl hb6 rfl ⟨⟨[],[],false,_,_,_,_,_,rfl,Sl.zero I _,Sl.zero I _,zg h (fun _ r _=>h r) (fun _ r=>absurd r h)⟩,hE6⟩
 have hcf:(kD f 1 0).1=0:=by simpa using h
 clear h;refine Tq ?_;refine fH [f] rfl rfl rfl rfl rfl ⟨RL.ext hf d,trivial⟩ (by show 1*3<=16777216;decide) (fun u I e6 hu _=>?_);obtain⟨fo,fc,rfl,N⟩:=hu.sl;skip;refine WL.build (parts:=[(0,_),(2,_)]) rfl rfl rfl rfl ?_;skip;refine eN (db I (t:=Ck f) N) ?_;rintro _ w7 ⟨⟨rv,rfl,hr⟩,e7⟩
 have p:=e6.trans e7;have g:=g.ext p;have i:=i.ext p;have c:=c.ext p;have d:=d.trans p;have J:=AY (Ck f);have O:=fun s l is err=>zh (W:=W) (s:=s) (l:=l) (is:=is) (err:=err) hcf
 have K:=fun err h=>zg (W:=W) (f:=f) (err:=err) h
 obtain⟨q1,f1,q2,f2,q3,f3,q4,f4,q5,f5,rfl,p1,p2,p3,p4,p5⟩:=hr.ok;generalize (AW (Ck f)).2=e at*
 generalize (AW (Ck f)).1=A at*
 clear hr;refine Ue ?_;refine eF (fun w8 Q e8=>?_);skip;refine f_ Q (fun Z Q L=>?_);have w:Ext w7 Z:=e8.grown L e8.size SZ;have g:=g.ext w;have c:=c.ext w;have d:=d.trans w;have hA:AutoAt Z (dl Z) _ A:=⟨q1,f1,q2,f2,q3,f3,q4,f4,q5,f5,rfl,p1.up w,p2.up w,p3.up w,p4.up w,p5.up w⟩;clear X V e6 e7 p e8 w L p1 p2 p3 p4 p5 N hu i;refine T2 ?_;apply CW.cond rfl<;>intro h
 ·have h:e≠0:=by simpa using h
  refine T9 ?_;refine WL.build (parts:=[]) rfl rfl rfl rfl ?_;refine Ue ?_;refine f_ c (fun m S M=>?_);have U:Ext w0 m:=d.grown M d.size S2;refine T5 ?_;exact bA rfl rfl rfl rfl S rfl ⟨⟨[],[],false,_,_,_,_,_,rfl,Sl.zero m _,Sl.zero m _,K _ h (fun _ _ r=>h r) S8⟩,U⟩
 have he:e=0:=by simpa using h
 clear h;refine Tq ?_;refine eN (re Z (W:=W) (A:=A) (h1.up d) (h2.up d) (h3.up d) (h4.up d) hA sW J.2.1 tW J.2.2) ?_;rintro _ m ⟨⟨s,l,is,err,so,sc,lo,lc,rfl,hs,hl,hF⟩,Y⟩
 have c:=c.ext Y;have d:=d.trans Y;refine Ue ?_;refine eF (fun w11 F H=>?_);skip;refine f_ F (fun q F E=>?_);have y:Ext m q:=H.grown E H.size SZ;have c:=c.ext y;have d:=d.trans y;have hs:=hs.up y;have hl:=hl.up y;have hJ:=O s l is err he hF;clear H E O K hF;have z4:w2.heap.size<q.heap.size:=c.lt;cases is<;>by_cases h0:err=0
 all_goals
  first
   |rw[show decide (err=0)=true by simpa using h0]at hJ
   |rw[show decide (err=0)=false by simpa using h0]at hJ
  first
   |have P:(err==0)=true:=by simpa using h0
   |have P:(err==0)=false:=by simpa using h0
  refine TW ?_
  try rw[P]
  skip;refine f_ c (fun G R n=>?_);have T:Ext w0 G:=d.grown n d.size S2;have z:∀{ao:Option Addr} {cap:Nat} {xs:List Int},Sl q (dl q) ao cap xs->Sl G (dl G) ao cap xs:=fun h=>(h.notB c (fun k x=>by
   match k with
   |0=>simp
   |1=>simp
   |k+2=>simp)).mono (fun b hb=>n.block b hb.1 (fun e=>hb.2 (QV e))) (fun b hb=>Qn hb.1 n.size)
  refine Tk ?_;exact bA rfl rfl rfl rfl R rfl ⟨⟨s,l,_,err,_,_,_,_,rfl,z hs,z hl,hJ⟩,T⟩
def Gu(P:Program)(w:World)(a:Int)(s:Nat)(b:s<=62)(t:TypeId):(binOp .shr t (Te a) (Te (s:Int))).run P w=.ok (Te (a / 2 ^ s)) w:=by
 rw[binOp_shr,shift_shr_i64 (h₀:=by omega) (h₁:=by omega),Nt];rfl
section
variable {P:Program}{Q:Exit->Act->World->Prop}{n:Nat}{σ:Sg}{w:World}{L rest:List Oper}{d:Nat}{ty:TypeId}{pos:String}{af:Array Edge}{g:Option (Nat×Bool)}{t yt:TypeId}{x y:Operand}
theorem f8{a:Int}{s:Nat}(i:gd L σ ⟨some d,.binOp .shr t x y yt,ty,pos,af,g⟩=some true)(hd:Nat.ble (d+1) n=true)(e:ev σ x=some (Te a))(c:ev σ y=some (Te (s:Int)))(f:s<=62)
  (h:WL P L Q rest n ((d,Te (a / 2 ^ s))::σ) w):WL P L Q (⟨some d,.binOp .shr t x y yt,ty,pos,af,g⟩::rest) n σ w:=by
 refine WL.run i hd (fun j b=>?_) h;have:=Gu P w a s f t;simp[execOp,b.ev e,b.ev c,pw (op:=.shr) rfl,this]
end
abbrev cT:=Int×Int×Int
def Iu(kind n:Int)(ins:List Int)(o:Nat):List cT:=
 if kind=4\/kind=2\/kind=3 then ins.map fun f=>(n,f,(2:Int) ^ o -1)
 else if kind=5 then ins.flatMap fun f=>(List.range o).map fun k:Nat=>(n,f,(2:Int) ^ k)
 else if kind=6 then [(n,-1,(2:Int) ^ o -1)]
 else if kind=7 then(List.range (2 ^ o -1)).map fun k:Nat=>(n,-1,(k:Int)+1)
 else []
def zR(p:cR)(n:Nat):Int:=(p.1.getD n (⟨#[]⟩,0)).2
def IC(p:cR)(n:Nat):List cT:=Iu (zR p n) (n:Int) (yA p.2 (n:Int)) (Dj p.2 (n:Int)).length
def ID(p:cR)(k:Nat):List cT:=(List.range k).flatMap (IC p)
abbrev Iz(p:cR):List cT:=ID p p.1.length
noncomputable def Is(p:cR):List cT×Int:=if kX p≠0 then([],kX p)else if(Iz p).length>60 then([],2)else(Iz p,0)
def IF{p:cR}{k:Nat}:ID p (k+1)=ID p k++IC p k:=by
 unfold ID;rw[PL,Oc];simp
def Ef(o:Nat):(1:Int)<=2 ^ o:=by
 have:=Qx (n:=o)
 exact_mod_cast this
def Ed{o m:Nat}(h:o<=m):(2:Int) ^ o<=2 ^ m:=by
 have:=QB (n:=2) SM h
 exact_mod_cast this
def Ee{o m:Nat}(h:o<m):(2:Int) ^ o<2 ^ m:=by
 have:=QC (a:=2) SM h
 exact_mod_cast this
section
variable {kind n:Int}{ins:List Int}{o:Nat}
theorem Ix:∀s∈Iu kind n ins o,s.1=n:=by
 intro s a
 unfold Iu at a
 split at a
 ·obtain⟨f,_,rfl⟩:=Pr.1 a;rfl
 split at a
 ·obtain⟨f,_,a⟩:=Pp.1 a
  obtain⟨k,_,rfl⟩:=Pr.1 a;rfl
 split at a
 ·rw[Py]at a;subst a;rfl
 split at a
 ·obtain⟨k,_,rfl⟩:=Pr.1 a;rfl
 ·cases a
theorem Iv:∀s∈Iu kind n ins o,s.2.1= -1\/s.2.1∈ins:=by
 intro s a
 unfold Iu at a
 split at a
 ·obtain⟨f,h,rfl⟩:=Pr.1 a;exact .inr h
 split at a
 ·obtain⟨f,h,a⟩:=Pp.1 a
  obtain⟨k,_,rfl⟩:=Pr.1 a;exact .inr h
 split at a
 ·rw[Py]at a;subst a;exact .inl rfl
 split at a
 ·obtain⟨k,_,rfl⟩:=Pr.1 a;exact .inl rfl
 ·cases a
theorem Iy:∀s∈Iu kind n ins o,0<=s.2.2/\s.2.2<2 ^ o:=by
 intro s a
 have c:=Ef o;unfold Iu at a
 split at a
 ·obtain⟨f,h,rfl⟩:=Pr.1 a;dsimp only;omega
 split at a
 ·obtain⟨f,h,a⟩:=Pp.1 a
  obtain⟨k,b,rfl⟩:=Pr.1 a;have:=Ee (Px.1 b);have:=Ef k;dsimp only;omega
 split at a
 ·rw[Py]at a;subst a;dsimp only;omega
 split at a
 ·obtain⟨k,b,rfl⟩:=Pr.1 a
  have b:=Px.1 b;have:((2 ^ o:Nat):Int)=(2:Int) ^ o:=by push_cast;rfl
  dsimp only;omega
 ·cases a
theorem Iw(h:ins.length<=30)(d:o<=30)(e:kind=7->o<=4):(Iu kind n ins o).length<=900:=by
 unfold Iu;split
 ·rw[O1];omega
 split
 ·rw[List.length_flatMap]
  have:∀l:List Int,(l.map fun f:Int=>((List.range o).map fun k:Nat=>((n,f,(2:Int) ^ k):cT)).length).sum=l.length*o:=fun l=>by
   induction l with
   |nil=>simp
   |cons a l c=>rw[Pd,PS,c,O1,O4,OU,P5];omega
  rw[this];exact Qs h d
 split
 ·simp
 split
 ·rename_i b
  have:=e b;rw[O1,O4];have:2 ^ o<=2 ^ 4:=QB SM this;omega
 ·simp
end
def yB{fl:List cO}{n:Int}:(yA fl n).Nodup:=by
 unfold yA yC;rw[List.Nodup,PJ];exact(PD.filter _).imp fun a e=>a SM
def CU{p:cR}(h:OkPr p){n:Nat}(hn:n<p.1.length)(a:zR p n=7):(Dj p.2 (n:Int)).length<=4:=by
 have:=h.count n hn;unfold zR at a
 rw[a]at this
 unfold mA at this
 simp at this
 omega
def IE{p:cR}(h:OkPr p):∀k,k<=p.1.length->(ID p k).length<=900*k
 |0,_=>by simp[ID]
 |k+1,c=>by
  have b:=IE h k SM;rw[IF,OT];have h1:(yA p.2 (k:Int)).length<=p.2.length:=yD;have h2:(Dj p.2 (k:Int)).length<=p.2.length:=Dm;have:=h.f;have:=Iw (kind:=zR p k) (n:=(k:Int)) (ins:=yA p.2 (k:Int)) (o:=(Dj p.2 (k:Int)).length) SM SM (fun a=>CU h SM a);unfold IC;omega
def stepsP_mem{p:cR}{k:Nat}{s:cT}:s∈ID p k↔∃n,n<k/\s∈IC p n:=by
 unfold ID;rw[Pp];exact exists_congr fun n=>by rw[Px]
def iZ(p:cR):List Int:=p.2.map fun f=>if zR p f.1.toNat=1 then 1 else 0
def JV(n:Int):Bool:=decide (n<0)||decide (n>9)
noncomputable def kQ(p:cR)(m:List Int):Int:=if(Is p).2≠0 then(Is p).2 else if m.length≠p.2.length\/m.any JV=true then 1 else 0
def lY(fl:List cO)(n:Int)(s:List Bool×List Int)(i:Nat):List Bool×List Int:=
 if(fl.getD i (0,0)).2=n/\s.1.getD i false=false then(s.1.set i true,s.2++[(i:Int)])else s
def lS(fl:List cO)(but:Int):Nat->List Bool->List Int->List Bool
 |0,out,_=>out
 |_+1,out,[]=>out
 |f+1,out,x::r=>
  if(fl.getD x.toNat (0,0)).1=but then lS fl but f out r
  else lS fl but f ((List.range fl.length).foldl (lY fl (fl.getD x.toNat (0,0)).1) (out,r)).1 ((List.range fl.length).foldl (lY fl (fl.getD x.toNat (0,0)).1) (out,r)).2
def lW(fl:List cO)(flow:Nat)(but:Int):List Bool:=lS fl but fl.length ((List.replicate fl.length false).set flow true) [(flow:Int)]
def qj(l:List Bool):Nat:=l.countP fun b=>!b
def qm{k:Nat}(a:k<l.length)(h:l.getD k false=false):qj (l.set k true)+1=qj l:=by
 unfold qj;rw[Oi,On a]at h
 have h:l[k]=false:=h;rw[NR a,h];have:0<l.countP fun b=>!b:=NP.2 ⟨l[k],OG a,by simp[h]⟩
 simp;omega
def ql{n:Nat}:qj (List.replicate n false)=n:=by simp[qj,NQ]
def qk:qj l<=l.length:=NO
structure ComeI(fl:List cO)(out:List Bool)(todo:List Int):Prop where
 len:out.length=fl.length
 ok:∀x∈todo,0<=x/\x<fl.length
def lZ{fl:List cO}{n:Int}{out:List Bool}{i:Nat}(hi:i<fl.length)(h:ComeI fl out m):
  ComeI fl (lY fl n (out,m) i).1 (lY fl n (out,m) i).2/\(lY fl n (out,m) i).2.length+qj (lY fl n (out,m) i).1=m.length+qj out:=by
 unfold lY;split
 ·rename_i b
  have:=qm (l:=out) (k:=i) (by rw[h.len];exact hi) b.2;refine⟨⟨by simpa using h.len,fun x a=>?_⟩,by simp only[OT,OU,O2];omega⟩;rcases Ph.1 a with a|a
  ·exact h.ok x a
  ·rw[Py]at a;omega
 ·exact⟨h,rfl⟩
def lU{fl:List cO}{but:Int}{f:Nat}{out:List Bool}:lS fl but f out []=out:=by cases f<;>rfl
def lT{fl:List cO}{but:Int}:∀(f:Nat) (out:List Bool) (b:List Int),out.length=fl.length->(lS fl but f out b).length=fl.length
 |0,out,_,h=>h
 |_+1,out,[],h=>h
 |f+1,out,x::r,h=>by
  unfold lS;split
  ·exact lT f _ _ h
  ·refine lT f _ _ ?_
   have:∀(l:List Nat) (s:List Bool×List Int),s.1.length=fl.length->(l.foldl (lY fl (fl.getD x.toNat (0,0)).1) s).1.length=fl.length:=by
    intro l
    induction l with
    |nil=>intro s h;exact h
    |cons a l c=>
     intro s h
     refine c _ ?_;unfold lY;split
     ·simpa using h
     ·exact h
   exact this _ _ h
def lX{fl:List cO}{flow:Nat}{but:Int}:(lW fl flow but).length=fl.length:=lT _ _ _ SQ
def iR(p:cR)(m:List Int)(node f:Int):Bool:=(List.range p.2.length).any fun i=>(lW p.2 f.toNat node).getD i false&&decide (m.getD i 0>0)&&decide ((p.2.getD i (0,0)).2≠node)
def za(p:cR)(m:List Int)(node:Int):Bool:=
 if(yA p.2 node).any (fun f=>!decide (m.getD f.toNat 0>0)&&iR p m node f)=true then false else(yA p.2 node).any fun f=>decide (m.getD f.toNat 0>0)
def o7(p:cR)(m:List Int)(s:cT):Bool:=
 if 0<=s.2.1 then decide (m.getD s.2.1.toNat 0>0)else if zR p s.1.toNat=7 then za p m s.1 else !(yA p.2 s.1).any fun f=>m.getD f.toNat 0==0
def jS(p:cR)(m:List Int)(k:Nat):List Int:=((List.range k).filter fun i=>o7 p m ((Iz p).getD i (0,0,0))).map fun i:Nat=>(i:Int)
abbrev jR(p:cR)(m:List Int):List Int:=jS p m (Iz p).length
def jT{p:cR}{k:Nat}:jS p m (k+1)=jS p m k++(if o7 p m ((Iz p).getD k (0,0,0))=true then [(k:Int)]else []):=by
 unfold jS;rw[PL,N6,Pb]
 congr 1
 by_cases h:o7 p m ((Iz p).getD k (0,0,0))=true
 ·rw[Sj h,N9 (p:=fun i=>o7 p m ((Iz p).getD i (0,0,0))) h];rfl
 ·rw[Si h,N8 (p:=fun i=>o7 p m ((Iz p).getD i (0,0,0))) h];rfl
def Ju(m:List Int)(s:cT)(f:Int):Int:=if s.2.1=f\/s.2.1<0/\m.getD f.toNat 0>0 then m.getD f.toNat 0 -1 else m.getD f.toNat 0
def Jm(s:cT):List Int->List Int->List Int
 |m,[]=>m
 |m,f::r=>Jm s (m.set f.toNat (Ju m s f)) r
def jg(n:Int)(k:Nat):Int:=(n / 2 ^ k) % 2
def EC(n:Int):Nat->List Int->List Int->Option (List Int)
 |_,m,[]=>some m
 |k,m,f::r=>if jg n k=1 then(if m.getD f.toNat 0+1>9 then none else EC n (k+1) (m.set f.toNat (m.getD f.toNat 0+1)) r)else EC n (k+1) m r
def rn(p:cR)(m:List Int)(s:cT):Option (List Int):=
 if zR p s.1.toNat=3 then some (m.map fun _=>0)else EC s.2.2 0 (Jm s m (yA p.2 s.1)) (Dj p.2 s.1)
noncomputable def rk(p:cR)(m:List Int)(k:Int):List Int×Int:=
 if kQ p m≠0 then([],kQ p m)else if k<0\/k>=(Iz p).length then([],1)
 else if o7 p m ((Iz p).getD k.toNat (0,0,0))=false then([],9)
 else((rn p m ((Iz p).getD k.toNat (0,0,0))).getD [],if(rn p m ((Iz p).getD k.toNat (0,0,0))).isSome then 0 else 7)
noncomputable def jO(p:cR)(m:List Int):List Int:=if kQ p m=0 then jR p m else []
def yr(w0:World){ao:Option Addr}{cap:Nat}{xs:List (ByteArray×Int)}{fv:Value}(p:(ByteArray×Int)->Bool)(f:Sl w0 (dl w0) ao cap xs)
  (hf:∀w,Ext w0 w->∀i (h:i<xs.length) u,Rd w (dl w0) u xs[i]->FnV UA fv [u] w fun v w'=>v=.bool (p xs[i])/\Ext w w'):
  Rt UA 152 [.slice ao xs.length cap,fv].toArray w0 fun v w'=>v=Te (idxOf p xs)/\Ext w0 w':=by
 have m:=f.len63;refine dV Tryz.func152 Tryz.ntmps152 rfl rfl (TR ?_);refine CW.loop (S:=Nat) (fun k=>[(0,.slice ao xs.length cap),(1,fv),(7,Te xs.length),(8,Te k)])
  (fun k w=>k<=xs.length/\Ext w0 w/\∀j (h:j<xs.length),j<k->p xs[j]=false) (fun k=>xs.length -k) 0 SL ⟨by omega,Ext.refl _,by omega⟩ ?_
 rintro k w ⟨n,b,hn⟩
 refine T2 ?_;apply CW.cond rfl<;>intro h
 ·simp at h
  refine TI ?_;refine fh (f.at b) h SX (fun u q g=>?_);refine eO rfl rfl rfl rfl (hf w b k h u g) ?_;rintro v w' ⟨rfl,a⟩
  refine T1 ?_;refine CW.cond rfl (fun d=>?_) (fun d=>?_)
  ·refine Th ?_
   refine bi rfl rfl ⟨?_,b.trans a⟩;rw[xT h hn d]
  ·refine Tj ?_
   refine EX.back (k+1) SL ⟨h,b.trans a,?_⟩ SM;intro j c l
   by_cases e:j=k
   ·subst e;exact d
   ·exact hn j c SM
 ·simp at h
  refine TO ?_;refine bi rfl rfl ⟨?_,b⟩;rw[xY (fun j c=>hn j c SM)]
def me(w0:World){ao:Option Addr}{cap:Nat}{xs:List (ByteArray×Int)}{fv:Value}(p:(ByteArray×Int)->Bool)(a:Sl w0 (dl w0) ao cap xs)
  (hf:∀w,Ext w0 w->∀i (h:i<xs.length) u,Rd w (dl w0) u xs[i]->FnV UA fv [u] w fun v w'=>v=.bool (p xs[i])/\Ext w w'):
  Rt UA 213 [.slice ao xs.length cap,fv].toArray w0 fun v w'=>v=.bool (xs.any p)/\Ext w0 w':=by
 refine dV Tryz.func213 Tryz.ntmps213 rfl rfl (T2 ?_);refine eN (yr w0 p a hf) ?_;rintro v w' ⟨rfl,b⟩
 refine Tk ?_;refine bi rfl rfl ⟨?_,b⟩;rw[<-xR]
class IsStr(P:Program)(t:TypeId):Prop where
 ok:P.underlying t=some .string
instance:IsStr UA 9:=⟨RI⟩
section
variable {P:Program}{Q:Exit->Act->World->Prop}{n:Nat}{σ:Sg}{w:World}{L rest:List Oper}{d:Nat}{op:Op}{ty:TypeId}{pos:String}{af:Array Edge}{g:Option (Nat×Bool)}{t:TypeId}{x ix:Operand}
theorem fD{s:ByteArray}(e:gd L σ ⟨some d,.call ⟨.builtin .len,#[x],#[t]⟩,ty,pos,af,g⟩=some true)(hd:Nat.ble (d+1) n=true)
  (b:ev σ x=some (.string s)) [c:IsStr P t] (h:WL P L Q rest n ((d,Te (s.size:Int))::σ) w):WL P L Q (⟨some d,.call ⟨.builtin .len,#[x],#[t]⟩,ty,pos,af,g⟩::rest) n σ w:=by
 refine WL.run e hd (fun a f=>?_) h;simp[execOp,resolve,invoke,builtin,f.ev b,Builtin.len_,Sy c.ok,goInt]
theorem eM{s:ByteArray}{i:Nat}{kd:IntKind}(j:gd L σ ⟨some d,.index t x ix,ty,pos,af,g⟩=some true)(hd:Nat.ble (d+1) n=true)
  (c:ev σ x=some (.string s)) (hi:ev σ ix=some (.int kd (i:Int))) [f:IsStr P t] (h1:i<s.size) (h:WL P L Q rest n ((d,.int .u8 ((s[i]).toNat:Int))::σ) w):WL P L Q (⟨some d,.index t x ix,ty,pos,af,g⟩::rest) n σ w:=by
 refine WL.run j hd (fun a b=>?_) h;have e:s[i]?=some s[i]:=by simp[h1]
 simp[execOp,b.ev c,b.ev hi,Instr.index,asIntOf,Sy f.ok,e]
end
abbrev Er(so:Option Addr)(sc:Nat)(fo:Option Addr)(fc:Nat)(n m:Nat):Value:=.agg [.slice so n sc,.slice fo m fc].toArray
def Rd.proc{x:cR}(h:Rd w F v x):∃so sc fo fc,v=Er so sc fo fc x.1.length x.2.length/\Sl w F so sc x.1/\Sl w F fo fc x.2:=by
 obtain⟨c1,c2,rfl,h1,h2⟩:=h.pr;obtain⟨so,sc,rfl,k1⟩:=Fe h1;obtain⟨lo,a,rfl,k2⟩:=Fe h2;exact⟨so,sc,lo,a,rfl,k1,k2⟩
def Rd.flow{x:cO}(h:Rd w F v x):v=.agg [Te x.1,Te x.2].toArray:=by
 obtain⟨c1,c2,rfl,h1,h2⟩:=h.pr;rw[E7 h1,E7 h2];rfl
def Rd.node{x:cP}(h:Rd w F v x):v=.agg [.string x.1,Te x.2].toArray:=by
 obtain⟨c1,c2,rfl,h1,h2⟩:=h.pr;rw[E7 h2,h1.1];rfl
def sN{l:List cO}{j:Nat}(h:j<l.length):l.getD j (0,0)=l[j]:=by rw[Oi,On h];rfl
def sT{l:List cP}{j:Nat}(h:j<l.length):l.getD j (⟨#[]⟩,0)=l[j]:=by rw[Oi,On h];rfl
def HS(s:ByteArray):s.data.toList.length=s.size:=by simp
def dg(w0:World)(s:ByteArray):Rt UA 51 [.string s].toArray w0 fun v w'=>v=.bool (Bz s)/\Ext w0 w':=by
 refine dU Tryz.func51 Tryz.ntmps51 rfl rfl ?_;unfold Bz BA;refine T2 ?_;by_cases h1:(s.data.toList==[])=true
 ·rw[show(s.data.toList==(ByteArray.mk #[]).data.toList)=true from h1]
  refine TA ?_;refine bi rfl rfl ⟨?_,Ext.refl _⟩;rfl
 have h1:(s.data.toList==[])=false:=by simpa using h1
 rw[show(s.data.toList==(ByteArray.mk #[]).data.toList)=false from h1]
 try rw[h1]
 refine Ue ?_;refine fD rfl rfl rfl ?_;rw[<-HS];refine Ue ?_;by_cases h2:decide ((s.data.toList.length:Int)>8)=true
 ·rw[h2]
  refine TA ?_;exact bj ⟨rfl,Ext.refl _⟩
 have h2:decide ((s.data.toList.length:Int)>8)=false:=by simpa using h2
 rw[h2];refine Ue ?_;by_cases h3:(s.data.toList==[116,114,117,101])=true
 ·rw[show(s.data.toList==(ByteArray.mk #[116,114,117,101]).data.toList)=true from h3]
  try rw[h3]
  refine TA ?_;exact bj ⟨rfl,Ext.refl _⟩
 have h3:(s.data.toList==[116,114,117,101])=false:=by simpa using h3
 rw[show(s.data.toList==(ByteArray.mk #[116,114,117,101]).data.toList)=false from h3]
 try rw[h3]
 refine Ue ?_;by_cases h4:(s.data.toList==[102,97,108,115,101])=true
 ·rw[show(s.data.toList==(ByteArray.mk #[102,97,108,115,101]).data.toList)=true from h4]
  try rw[h4]
  refine TA ?_;exact bj ⟨rfl,Ext.refl _⟩
 have h4:(s.data.toList==[102,97,108,115,101])=false:=by simpa using h4
 rw[show(s.data.toList==(ByteArray.mk #[102,97,108,115,101]).data.toList)=false from h4]
 try rw[h4]
 refine Tl ?_;by_cases g:(s.data.toList==[115,105,108,101,110,116])=true
 ·rw[show(s.data.toList==(ByteArray.mk #[115,105,108,101,110,116]).data.toList)=true from g]
  try rw[g]
  refine TA ?_;exact bj ⟨rfl,Ext.refl _⟩
 have g:(s.data.toList==[115,105,108,101,110,116])=false:=by simpa using g
 rw[show(s.data.toList==(ByteArray.mk #[115,105,108,101,110,116]).data.toList)=false from g]
 try rw[g]
 simp only[M8,Nd];have o:s.size<=8:=by have:=HS s;simp at h2;omega
 refine T4 ?_;refine fD rfl rfl rfl (TR ?_);refine CW.loop (S:=Nat) (fun i=>[(0,.string s),(24,Te s.size),(25,Te i)])
  (fun i w=>i<=s.size/\w=w0/\∀j (h:j<s.size),j<i->AL s[j]=true) (fun i=>s.size -i) 0 SL ⟨by omega,rfl,by omega⟩ ?_
 rintro i w ⟨hi,rfl,hn⟩
 have c:∀j (h:j<s.size),s.data.toList[j]'(by rw[HS];exact h)=s[j]:=fun j h=>by simp;rfl
 refine T2 ?_;apply CW.cond rfl<;>intro h
 ·have a:i<s.size:=by simp at h;omega
  have d:AL s[i]=false->s.data.toList.all AL=false:=fun n=>by
   rw[List.all_eq_false];exact⟨_,OG (by rw[HS];exact a),by rw[c i a,n];simp⟩
  refine TI ?_;refine eM rfl rfl rfl rfl a (Ue ?_);by_cases b:decide (((s[i].toNat:Nat):Int)<97)=true
  ·rw[b]
   refine T8 ?_;refine bi rfl rfl ⟨?_,Ext.refl _⟩;rw[d (by unfold AL;rw[b];rfl)]
  have b:decide (((s[i].toNat:Nat):Int)<97)=false:=by simpa using b
  rw[b];refine Ue ?_;refine eM rfl rfl rfl rfl a (Tl ?_);apply CW.cond rfl<;>intro k
  ·refine Th ?_
   refine bi rfl rfl ⟨?_,Ext.refl _⟩;rw[d (by unfold AL;rw[b,k];rfl)]
  ·refine Tj ?_
   refine EX.back (i+1) SL ⟨a,rfl,fun j f m=>?_⟩ SM;by_cases e:j=i
   ·subst e;unfold AL;rw[b,k];rfl
   ·exact hn j f SM
 ·have a:i=s.size:=by simp at h;omega
  subst a;refine TO ?_;refine bi rfl rfl ⟨?_,Ext.refl _⟩;rw[NB.2];intro x l
  obtain⟨j,f,rfl⟩:=Pq.1 l;rw[HS]at f
  rw[c j f];exact hn j f f
def mB(w0:World)(k:Int)(i o:Nat):Rt UA 138 [Te k,Te (i:Int),Te (o:Int)].toArray w0 fun v w'=>v=.bool (mA k i o)/\w0=w':=by
 refine dW Tryz.func138 Tryz.ntmps138 rfl rfl ?_;have d:∀(a:Nat) (b:Nat),(((a:Int))==(b:Int))=decide (a=b):=fun a b=>by rw[M2];simp;omega
 have c:∀(a:Nat),decide ((a:Int)>0)=decide (0<a):=fun a=>by rw[M2];simp
 unfold mA;refine TI ?_;by_cases h1:k=1
 ·subst h1
  refine Ua ?_;by_cases hi:i=0
  ·subst hi
   refine T5 ?_;refine bi rfl rfl ⟨?_,rfl⟩;rw[show((o:Int)==1)=decide (o=1) from d o 1];simp
  ·have:((i:Int)==0)=false:=by simpa using hi
   rw[this];refine TT ?_;refine bi rfl rfl ⟨?_,rfl⟩;simp[hi]
 have b1:(k==1)=false:=by simpa using h1
 rw[Si h1,b1];refine T4 ?_;by_cases h2:k=2
 ·subst h2
  refine Ua ?_;by_cases hi:0<i
  ·rw[c i,R9 hi]
   refine T5 ?_;refine bi rfl rfl ⟨?_,rfl⟩;rw[show((o:Int)==0)=decide (o=0) from d o 0];simp
  ·rw[c i,R7 hi]
   refine TT ?_;refine bi rfl rfl ⟨?_,rfl⟩;simp
 have b2:(k==2)=false:=by simpa using h2
 rw[b2];refine Tr ?_;by_cases h3:k=3
 ·subst h3
  refine Ua ?_;by_cases hi:0<i
  ·rw[c i,R9 hi]
   refine T5 ?_;refine bi rfl rfl ⟨?_,rfl⟩;rw[show((o:Int)==0)=decide (o=0) from d o 0];simp
  ·rw[c i,R7 hi]
   refine TT ?_;refine bi rfl rfl ⟨?_,rfl⟩;simp
 have p:(k==3)=false:=by simpa using h3
 rw[Si SM,p];refine T4 ?_;by_cases h4:k=4
 ·subst h4
  refine Ua ?_;by_cases hi:0<i
  ·rw[c i,R9 hi]
   refine T5 ?_;refine bi rfl rfl ⟨?_,rfl⟩;rw[show((o:Int)==1)=decide (o=1) from d o 1];simp
  ·rw[c i,R7 hi]
   refine TT ?_;refine bi rfl rfl ⟨?_,rfl⟩;simp
 have n:(k==4)=false:=by simpa using h4
 rw[Si h4,n];refine T4 ?_;by_cases e:k=7
 ·subst e
  refine Ua ?_;apply CW.cond rfl<;>intro f
  ·refine Th ?_
   refine bi rfl rfl ⟨?_,rfl⟩;simp at f
   simp;omega
  simp at f
  refine TS ?_;by_cases hi:0<i
  ·rw[c i,R9 hi]
   refine T5 ?_;refine bi rfl rfl ⟨?_,rfl⟩;rw[c o];simp;omega
  ·rw[c i,R7 hi]
   refine TT ?_;refine bi rfl rfl ⟨?_,rfl⟩;simp
 have j:(k==7)=false:=by simpa using e
 rw[Si e,j];refine T4 ?_;by_cases h:k=5
 ·subst h
  refine Ua ?_;by_cases hi:0<i
  ·rw[c i,R9 hi]
   refine T5 ?_;refine bi rfl rfl ⟨?_,rfl⟩;rw[c o];simp
  ·rw[c i,R7 hi]
   refine TT ?_;refine bi rfl rfl ⟨?_,rfl⟩;simp
 have m:(k==5)=false:=by simpa using h
 rw[m];refine Tr ?_;by_cases g:k=6
 ·subst g
  refine Ua ?_;by_cases hi:0<i
  ·rw[c i,R9 hi]
   refine T5 ?_;refine bi rfl rfl ⟨?_,rfl⟩;rw[c o];simp
  ·rw[c i,R7 hi]
   refine TT ?_;refine bi rfl rfl ⟨?_,rfl⟩;simp
 have l:(k==6)=false:=by simpa using g
 rw[Si SM,l];refine Ua ?_;exact bj ⟨rfl,rfl⟩
def yF(w0:World){so fo:Option Addr}{sc fc k:Nat}{fl:List cO}(hf:Sl w0 (dl w0) fo fc fl)(n:Int)(H:fl.length<=1000):
  Rt UA 139 [Er so sc fo fc k fl.length,Te n].toArray w0 fun v w'=>Own w' w0.heap.size 3 di v (yA fl n)/\Ext w0 w':=by
 refine dV Tryz.func139 Tryz.ntmps139 rfl rfl (T9 ?_);refine eJ fun g C t=>?_
 refine Ty ?_;refine CW.loop (S:=Nat×Value) (fun s=>[(1,Te n),(2,Tg w0.heap.size),(5,s.2),(9,.slice fo fl.length fc),(10,Te fl.length),(11,Te s.1)])
  (fun s w=>s.1<=fl.length/\Own w g.heap.size 3 di s.2 (yC fl n s.1)/\Ext g w) (fun s=>fl.length -s.1) (0,.slice none 0 0) SL ⟨QK _,Own.nil,Ext.refl _⟩ ?_
 rintro⟨i,ov⟩ y ⟨hi,d,r⟩
 dsimp only at hi d⊢
 have m:=t.trans r;have B:=yD (fl:=fl) (n:=n) (k:=i);have a:=yE (fl:=fl) (n:=n) (k:=i);refine T2 ?_;apply CW.cond rfl<;>intro h
 ·have c:i<fl.length:=by simp at h;omega
  rw[sN c]at a
  refine TL ?_;refine fh (hf.at m) c SX (fun u q A=>?_);obtain rfl:=A.flow;refine eF (fun G f o=>?_);refine Ue ?_;refine f_ f (fun x f l=>?_);have e:Ext y x:=o.grown l o.size SZ;have d:=d.extN e;have e:=r.trans e;refine TJ ?_;apply CW.cond rfl<;>intro h2
  ·rw[Sj h2]at a
   refine TP ?_;refine eH (F:=di) (yv:=(i:Int)) rfl rfl SX rfl rfl SX d S_ e.size S0 SP SS SM (fun z w5 p ho5 j hnb=>?_);rw[<-a]at ho5
   have E:Ext g w5:=e.grown j e.size (fun b D=>(d.lt b D).1);refine Tn ?_;exact EX.back (i+1,z) SL ⟨c,ho5,E⟩ SR
  ·rw[Si (by rw[h2];simp),NG]at a
   refine Tj ?_;exact EX.back (i+1,ov) SL ⟨c,by dsimp only;rw[a];exact d,e⟩ SR
 ·obtain rfl:i=fl.length:=by simp at h;omega
  refine TO ?_;exact bj ⟨d.low t.size,m⟩
def Do(w0:World){so fo:Option Addr}{sc fc k:Nat}{fl:List cO}(hf:Sl w0 (dl w0) fo fc fl)(n:Int)(H:fl.length<=1000):
  Rt UA 140 [Er so sc fo fc k fl.length,Te n].toArray w0 fun v w'=>Own w' w0.heap.size 3 di v (Dj fl n)/\Ext w0 w':=by
 refine dV Tryz.func140 Tryz.ntmps140 rfl rfl (T9 ?_);refine eJ fun g C t=>?_
 refine Ty ?_;refine CW.loop (S:=Nat×Value) (fun s=>[(1,Te n),(2,Tg w0.heap.size),(5,s.2),(9,.slice fo fl.length fc),(10,Te fl.length),(11,Te s.1)])
  (fun s w=>s.1<=fl.length/\Own w g.heap.size 3 di s.2 (Dl fl n s.1)/\Ext g w) (fun s=>fl.length -s.1) (0,.slice none 0 0) SL ⟨QK _,Own.nil,Ext.refl _⟩ ?_
 rintro⟨i,ov⟩ y ⟨hi,d,r⟩
 dsimp only at hi d⊢
 have m:=t.trans r;have B:=Dm (fl:=fl) (n:=n) (k:=i);have a:=Dn (fl:=fl) (n:=n) (k:=i);refine T2 ?_;apply CW.cond rfl<;>intro h
 ·have c:i<fl.length:=by simp at h;omega
  rw[sN c]at a
  refine TL ?_;refine fh (hf.at m) c SX (fun u q A=>?_);obtain rfl:=A.flow;refine eF (fun G f o=>?_);refine Ue ?_;refine f_ f (fun x f l=>?_);have e:Ext y x:=o.grown l o.size SZ;have d:=d.extN e;have e:=r.trans e;refine TJ ?_;apply CW.cond rfl<;>intro h2
  ·rw[Sj h2]at a
   refine TP ?_;refine eH (F:=di) (yv:=(i:Int)) rfl rfl SX rfl rfl SX d S_ e.size S0 SP SS SM (fun z w5 p ho5 j hnb=>?_);rw[<-a]at ho5
   have E:Ext g w5:=e.grown j e.size (fun b D=>(d.lt b D).1);refine Tn ?_;exact EX.back (i+1,z) SL ⟨c,ho5,E⟩ SR
  ·rw[Si (by rw[h2];simp),NG]at a
   refine Tj ?_;exact EX.back (i+1,ov) SL ⟨c,by dsimp only;rw[a];exact d,e⟩ SR
 ·obtain rfl:i=fl.length:=by simp at h;omega
  refine TO ?_;exact bj ⟨d.low t.size,m⟩
end Go.Proofs.YtfpjecjadlgdcaaGreatDoor
