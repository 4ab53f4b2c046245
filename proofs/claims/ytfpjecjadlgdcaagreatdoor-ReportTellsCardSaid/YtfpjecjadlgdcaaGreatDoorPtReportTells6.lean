import Derived.Test.YtfpjecjadlgdcaaGreatDoorPtReportTells5
set_option linter.unusedVariables false
set_option linter.unusedSimpArgs false
set_option linter.defProp false
namespace Go.Proofs.YtfpjecjadlgdcaaGreatDoor
set_option maxHeartbeats 4000000
variable{P:Program}{α:Type}{B a K:Nat}{C:Option Addr}{m:List Int}{F:Nat→Prop}{w:World}{v o:Value}{g:List (List Int)}{x:Int}{l:List Bool}{r:List Value}{t:TypeId}{Q:Exit→Act→World→Prop}{e:Nat→Nat→Prop}{s:List Nat}{L:List Oper}{c:Value→World→Prop}{f:List ByteArray}{y:Array Bool}{b:Value→(Nat→Nat)→World→Prop}{j:Array Edge}{u:List (Nat×Bool)}
open Go.RowKit
def B5(w:World)(m:cP)(b:Nat){x:cP}(a:Blk w b 123 [.string x.1,Te x.2]):
  Rt UA 214 [.agg [.string m.1,Te m.2].toArray,Tg b].toArray w fun v w'=>v=.bool (Bw m.1 x.1)/\Ext w w':=by
 refine dV Tryz.func214 Tryz.ntmps214 rfl rfl ?_;refine T9 ?_;refine eJ fun e d c=>?_
 have a:=a.ext c;refine T_ ?_;exact bj ⟨rfl,c⟩
def Ce(w0:World){so fo:Option Addr}{sc fc k:Nat}{ns:List cP}(p:Sl w0 (dl w0) so sc ns):
  Rt UA 137 [Er so sc fo fc ns.length k].toArray w0 fun v w'=>v=Te (B6 ns)/\Ext w0 w':=by
 have N:=p.len63;have G:=p.le;refine dU Tryz.func137 Tryz.ntmps137 rfl rfl ?_;refine T9 ?_;refine eJ fun E a L=>?_
 have I:=a.lt;refine Ty ?_;refine CW.loop (S:=Nat) (fun i=>[(1,Tg w0.heap.size),(6,.slice so ns.length sc),(7,Te ns.length),(8,Te i)])
  (fun i w=>i<=ns.length/\Ext E w/\∀j,j<i->B1 ns j=0) (fun i=>ns.length -i) 0 SL ⟨by omega,Ext.refl _,by omega⟩ ?_
 rintro i w ⟨hi,e,g⟩
 have f:=L.trans e;have a:=a.ext e;refine T2 ?_;apply CW.cond rfl<;>intro h
 ·have d:i<ns.length:=by simp at h;omega
  have l:=sT d;refine TL ?_;refine fh (p.at f) d SX (fun u q s=>?_);obtain rfl:=s.node;skip;refine eF (fun M c C=>?_);have H:=c.lt;refine Ue ?_;refine f_ c (fun B c x=>?_);have A:Ext w B:=C.grown x C.size SZ;have a:=a.ext A;have f:=f.trans A;refine TJ ?_;refine eN (dg B ns[i].1) ?_;rintro _ D ⟨rfl,r⟩
  have a:=a.ext r;have c:=c.ext r;have f:=f.trans r;have z:=A.trans r;have b:(!Bz ns[i].1||decide (ns[i].2<1)||decide (ns[i].2>7))=true->B6 ns=1:=fun K=>by
   have:B1 ns i=1:=by unfold B1;rw[l,Sj K]
   rw[B8 d g (by rw[this];decide),this]
  refine Ue ?_;by_cases c1:Bz ns[i].1=true
  ·rw[c1]at b⊢
   refine Uh ?_;by_cases c2:decide (ns[i].2<1)=true
   ·rw[c2]
    refine T8 ?_;refine bi rfl rfl ⟨?_,f⟩;rw[b (by rw[c2];rfl)]
   have c2:decide (ns[i].2<1)=false:=by simpa using c2
   rw[c2];refine TH ?_;by_cases c3:decide (ns[i].2>7)=true
   ·rw[c3]
    refine T8 ?_;refine bi rfl rfl ⟨?_,f⟩;rw[b (by rw[c2,c3];rfl)]
   have c3:decide (ns[i].2>7)=false:=by simpa using c3
   rw[c3];refine T_ ?_;refine eV (α:=cP) i rfl rfl rfl rfl rfl SM ?_;refine Uj ?_;have n:=(p.up f).take (k:=i) SM;have t:(ns.take i).length=i:=by rw[O9];omega
   have o:=me D (fv:=.func (.func 214) [].toArray [Tg w.heap.size].toArray) (fun m=>Bw m.1 ns[i].1) n (fun w5 F j J u s=>by
    obtain rfl:=s.node;exact FnV.mk (cs:=[_]) (B5 w5 _ _ (c.ext F)))
   rw[t]at o
   refine eN o ?_;rintro _ w5 ⟨rfl,y⟩
   have a:=a.ext y;refine T1 ?_;apply CW.cond rfl<;>intro h2
   ·refine Th ?_
    refine bi rfl rfl ⟨?_,f.trans y⟩;have:B1 ns i=4:=by unfold B1;rw[l,Si (by rw[show Bz ns[i].1=true from c1,c2,c3];simp),Sj h2]
    rw[B8 d g (by rw[this];decide),this]
   ·refine Tj ?_
    refine EX.back (i+1) SL ⟨d,(e.trans z).trans y,fun j J=>?_⟩ SM;by_cases ej:j=i
    ·subst ej
     unfold B1;rw[l,Si (by rw[show Bz ns[j].1=true from c1,c2,c3];simp),Si (by rw[h2];simp)]
    ·exact g j SM
  ·have c1:Bz ns[i].1=false:=by simpa using c1
   rw[c1]at b⊢
   refine T8 ?_;refine bi rfl rfl ⟨?_,f⟩;rw[b rfl]
 ·obtain rfl:i=ns.length:=by simp at h;omega
  refine TO ?_;refine bi rfl rfl ⟨?_,f⟩;rw[B9 g]
def rE(n:Nat)(fl:List cO)(i:Nat):bZ:=rC n (fl.take i)
def rG{n:Nat}{fl:List cO}{i:Nat}:(rE n fl i).length=n:=by simp[rE,rC]
def rI{n:Nat}{fl:List cO}:rE n fl 0=List.replicate n []:=by
 refine N4 (by simp[rE,rC]) fun k h1 h2=>?_
 simp[rE,rC]
def rF{n:Nat}{fl:List cO}{i k:Nat}(h:k<n):(rE n fl i)[k]'(by rw[rG];exact h)=((fl.take i).filter fun f=>f.1==(k:Int)).map (·.2):=by simp[rE,rC]
def rH{n:Nat}{fl:List cO}{i:Nat}{b:Int}(hi:i<fl.length)(hf:fl[i]=((a:Int),b))(d:a<n):
  (rE n fl i).set a ((((fl.take i).filter fun f=>f.1==(a:Int)).map (·.2))++[b])=rE n fl (i+1):=by
 refine N4 (by simp[rG]) fun k h1 h2=>?_
 have c:k<n:=by rw[rG]at h2;exact h2
 rw[OJ,rF c,rF c,<-PU hi,hf,N6,Pb];by_cases e:a=k
 ·subst e;rw[Sj rfl];simp
 ·rw[Si e]
  have:((a:Int)==(k:Int))=false:=by simpa using fun h:(a:Int)=k=>e SM
  simp[N7,this]
def rD{n:Nat}{fl:List cO}:oB (rC n fl)<=n*fl.length:=by
 unfold oB rC;rw[Pe];have:∀m:List Nat,(m.map (List.length∘fun k:Nat=>(fl.filter fun f=>f.1==(k:Int)).map (·.2))).sum<=m.length*fl.length:=fun m=>by
  induction m with
  |nil=>simp
  |cons a m b=>
   simp only[Pd,PS,OU,P5,Qy];have:(List.length∘fun k:Nat=>(fl.filter fun f=>f.1==(k:Int)).map (·.2)) a<=fl.length:=by
    show((fl.filter fun f=>f.1==(a:Int)).map (·.2)).length<=_;rw[O1];exact O0 _ _
   omega
 have:=this (List.range n);rwa[O4]at this
def In{ns:List cP}{k:Nat}:Il ns (k+1)=Il ns k++if((ns.getD k (⟨#[]⟩,0)).2==1)=true then [k]else []:=by
 unfold Il;rw[PL,N6]
 congr 1
 by_cases e:((ns.getD k (⟨#[]⟩,0)).2==1)=true
 ·rw[Sj e];simp only[N7,e,N_];rfl
 ·rw[Si e];simp only[N7,e,N_];rfl
def Ae(l:List Nat):Int:=(l.getLast?.map fun n:Nat=>(n:Int)).getD (-1)
def Im{ns:List cP}{k:Nat}:(Il ns k).length<=k:=by
 unfold Il;exact Qk (O0 _ _) SQ
def k7{ns:List cP}{fl:List cO}{s:Nat}(h:Il ns ns.length=[s]):kZ (ns,fl)=if(EP (rC ns.length fl) [(s:Int)]).contains false=true then 6 else 0:=by
 have c:(rC ns.length fl).length=ns.length:=by simp[rC]
 have b:(∃n,n<ns.length/\¬Rch (rC ns.length fl) (((Il ns ns.length).getLast?.map fun n:Nat=>(n:Int)).toList) n)↔(EP (rC ns.length fl) [(s:Int)]).contains false=true:=by
  rw[h,NK,Pq];show(∃n,n<ns.length/\¬Rch (rC ns.length fl) [(s:Int)] n)↔_;constructor
  ·rintro⟨n,hn,e⟩
   have a:n<(EP (rC ns.length fl) [(s:Int)]).length:=by rw[ES,c];exact hn
   refine⟨n,a,?_⟩;rw[<-M6,ER a];exact e
  ·rintro⟨n,hn,f⟩
   have a:n<ns.length:=by rw[ES,c]at hn;exact hn
   exact⟨n,a,fun e=>by rw[(ER hn).2 e]at f;cases f⟩
 unfold kZ;by_cases d:(EP (rC ns.length fl) [(s:Int)]).contains false=true
 ·rw[Sj d];exact Sj (b.2 d)
 ·rw[Si d];exact Si (fun h=>d (b.1 h))
def aM(w0:World){so fo:Option Addr}{sc fc:Nat}{ns:List cP}{fl:List cO}(hs:Sl w0 (dl w0) so sc ns)(hf:Sl w0 (dl w0) fo fc fl):
  Rt UA 75 [Er so sc fo fc ns.length fl.length].toArray w0 fun v w'=>v=Te (kX (ns,fl))/\Ext w0 w':=by
 have hms:=hs.len63;have hmf:=hf.len63;refine dU Tryz.func75 Tryz.ntmps75 rfl rfl ?_;have L:=Ext.refl w0;refine T9 ?_;refine eJ fun w1 P e1=>?_
 have L:=L.trans e1;unfold kX;dsimp only;refine Ty ?_
 (refine fJ rfl rfl (fun h=>?_) (fun h=>?_))
 ·refine TA ?_
  refine bi rfl rfl ⟨?_,L⟩;rw[Sj (.inl (by simp at h;omega))]
 have c1:ns.length<=20:=by simp at h;omega
 clear h;refine TH ?_;apply CW.cond rfl<;>intro h
 ·refine Tw ?_
  refine bi rfl rfl ⟨?_,L⟩;rw[Sj (.inr (by simp at h;omega))]
 have c2:fl.length<=30:=by simp at h;omega
 clear h;rw[Si SM];refine Tq ?_;refine eN (Ce w1 (hs.up L)) ?_;rintro _ m ⟨rfl,e2⟩
 have P:=P.ext e2;have L:=L.trans e2;refine T2 ?_;apply CW.cond rfl<;>intro h
 ·have h:B6 ns≠0:=by simpa using h
  refine Tw ?_;refine bi rfl rfl ⟨?_,L⟩;rw[Sj h]
 have h:B6 ns=0:=by simpa using h
 rw[Si (by simp[h])];clear h e1 e2;have z2:=L.size;refine TS ?_;refine fK (α:=Raw) rfl rfl rfl rfl SM SS (fun w3 ho3 hg3=>?_);have e3:Ext m w3:=(MW _ _).grown hg3 Ta S5;have hN3:OwnN w3 m.heap.size 39 3 (.slice (some ⟨m.heap.size,0,none⟩) ns.length ns.length) _ (List.replicate ns.length ([]:List Int)):=OwnN.made ho3;rw[<-rI (fl:=fl)]at hN3
 have hb13:=P.ext e3;clear ho3 hg3;refine Ty ?_;refine CW.loop (S:=Nat×List Raw) (fun s=>[(1,Tg w0.heap.size),(4,.slice (some ⟨m.heap.size,0,none⟩) ns.length ns.length),(35,.slice fo fl.length fc),(36,Te fl.length),(37,Te s.1)])
  (fun s w=>s.1<=fl.length/\(∀f∈fl.take s.1,rB ns.length f=false)/\OwnN w m.heap.size 39 3 (.slice (some ⟨m.heap.size,0,none⟩) ns.length ns.length) s.2 (rE ns.length fl s.1)/\Ext m w) (fun s=>fl.length -s.1) (0,_) SL ⟨QK _,(fun f hf=>by simp at hf),hN3,e3⟩ ?_
 rintro⟨i,vs⟩ X ⟨hi,E,K,e4⟩
 dsimp only at hi E K⊢
 have hE4:=L.trans e4;have hN4:=K;have hsz:m.heap.size<X.heap.size:=(K.out.lt _ rfl).2.1;refine T2 ?_;apply CW.cond rfl<;>intro h
 ·have d:i<fl.length:=by simp at h;omega
  have y:rB ns.length fl[i]=true->(if fl.any (rB ns.length)=true then(1:Int)else if(Il ns ns.length).length≠1 then 1 else if(List.range ns.length).any (iO (ns,fl))=true then 1 else kZ (ns,fl))=1:=fun Q=>by
   rw[Sj (NE.2 ⟨_,OG d,Q⟩)]
  refine T7 ?_;refine fh (hf.at hE4) d SX (fun u q Y=>?_);obtain rfl:=Y.flow;refine eF (fun w5 O W=>?_);refine f_ O (fun M O hg6=>?_);have H:Ext X M:=W.grown hg6 W.size SZ;have K:=K.ext H;have l:=hE4.trans H;have e26:=e4.trans H;refine TJ ?_;by_cases d1:decide (fl[i].1<0)=true
  ·rw[d1]
   refine T8 ?_;refine bi rfl rfl ⟨?_,l⟩;rw[y (by unfold rB;rw[d1];rfl)]
  have d1:decide (fl[i].1<0)=false:=by simpa using d1
  rw[d1];refine Ui ?_;by_cases d2:decide (fl[i].1>=(ns.length:Int))=true
  ·rw[d2]
   refine T8 ?_;refine bi rfl rfl ⟨?_,l⟩;rw[y (by unfold rB;rw[d1,d2];rfl)]
  have d2:decide (fl[i].1>=(ns.length:Int))=false:=by simpa using d2
  rw[d2];refine Uh ?_;by_cases d3:decide (fl[i].2<0)=true
  ·rw[d3]
   refine T8 ?_;refine bi rfl rfl ⟨?_,l⟩;rw[y (by unfold rB;rw[d1,d2,d3];rfl)]
  have d3:decide (fl[i].2<0)=false:=by simpa using d3
  rw[d3];refine TH ?_;apply CW.cond rfl<;>intro d4
  ·refine Th ?_
   refine bi rfl rfl ⟨?_,l⟩;rw[y (by unfold rB;rw[d1,d2,d3,d4];rfl)]
  have hgd:rB ns.length fl[i]=false:=by unfold rB;rw[d1,d2,d3,d4];rfl
  simp at d1 d2 d3 d4
  obtain⟨a,ea⟩:=Nn d1;have R:a<ns.length:=by omega
  have hfi:fl[i]=((a:Int),fl[i].2):=by rw[<-ea]
  have c:=rH d hfi R;have t:=K.len;rw[rG]at t
  have o:a<vs.length:=by omega
  have hd:=Ext.drew M;have G:=K.ext hd;have hb6d:=O.ext hd;have hin:=G.inn a o (by rw[rG];exact R);rw[rF R]at hin
  have hrl:(((fl.take i).filter fun f=>f.1==(a:Int)).map (·.2)).length<=30:=by
   rw[O1];exact Qk (O0 _ _) (by rw[O9];omega)
  obtain⟨oo,oc,hov,T⟩:=G.out.slF (F':=fun b=>b=m.heap.size) S0 (fun g hg=>by cases hg;rfl);obtain⟨rfl,_,rfl⟩:=RS hov;rw[<-t]at T
  have hsz6:=H.size;have hszd:=hd.size;have hl6:=O.lt;rw[ea]at hb6d
  refine T7 ?_;have hK:∀z,(fun z:World=>∀b,b=m.heap.size\/b=X.heap.size->z.heap[b]?=(drew M).heap[b]?) z->z.heap[X.heap.size]?=(drew M).heap[X.heap.size]?:=fun z hz=>hz _ (.inr rfl)
  refine aF (fun z:World=>∀b,b=m.heap.size\/b=X.heap.size->z.heap[b]?=(drew M).heap[b]?) [(0,true),(1,true),(2,true),(3,true),(4,true),(5,true),(6,true),(7,true),(8,true),(9,true),(10,false),(11,false),(12,true)] 13 mixed SN S8 (Us ?_);rw[<-t];refine cg (w:=drew M) (F:=fun b=>b=m.heap.size) (fun z hz b Q=>hz b (.inl Q)) rfl rfl rfl rfl rfl rfl rfl T o SX (fun u q Y=>?_);obtain⟨rfl,_⟩:=Y.raw;rw[t];refine Ur ?_;refine b_ (bytes:=8) rfl rfl rfl rfl SX rfl rfl SX hin S_ SM S0 SP SS SM
   (fun z hz b Q=>hz.block b SM (fun e=>?_)) (fun v' w7 p ho7 D hnb=>?_)
  ·rcases Q with rfl|rfl
   ·exact G.dio a o _ e.symm rfl
   ·exact absurd ((hN4.inn a o (by rw[rG];exact R)).lt _ e.symm).2.1 (Ql _)
  rw[hfi]at ho7
  have hmid:=G.mid o D;refine cH (yv:=(⟨v'⟩:Raw)) rfl rfl rfl rfl rfl rfl hmid o SX SX (Rd.mkRaw _ _ _ ?_) (fun I q ho8 N=>?_)
  ·obtain⟨a,b,rfl⟩:=ho7.val;rfl
  have hN8:=G.set o ho7 D hnb ho8 N;rw[c]at hN8
  have e26d:=e26.trans hd;have e8:Ext m I:=(e26d.grown D e26d.size (fun b Q=>(hin.lt b Q).1)).grown N (Qk e26d.size D.size) (fun b Q=>(G.out.lt b Q).1);refine Tn ?_;refine EX.back (i+1,vs.set a ⟨v'⟩) SL ⟨d,fun f hf'=>?_,hN8,e8⟩ SR;dsimp only at hf'
  rw[<-PU d]at hf'
  rcases Ph.1 hf' with h1|h1
  ·exact E f h1
  ·rw[Py]at h1;subst h1;exact hgd
 obtain rfl:i=fl.length:=by simp at h;omega
 rw[PV]at E
 have A:fl.any (rB ns.length)=false:=ND.2 (fun f hf=>by simp[E f hf]);have hfok:∀f∈fl,0<=f.1/\f.1<ns.length/\0<=f.2/\f.2<ns.length:=fun f hf=>by
  have:=E f hf;unfold rB at this
  simp at this
  omega
 rw[Si (by rw[A];simp)];have hgG:rE ns.length fl fl.length=rC ns.length fl:=by unfold rE;rw[PV]
 rw[hgG]at K
 have C:(rC ns.length fl).length=ns.length:=by simp[rC]
 have hgok:okG (rC ns.length fl):=by
  intro r hr x hx
  rw[C];obtain⟨k,_,rfl⟩:=Pr.1 hr;obtain⟨f,hf,rfl⟩:=Pr.1 hx;exact(hfok f (Po.1 hf).1).2.2
 have hge:=rD (n:=ns.length) (fl:=fl);have hge2:ns.length*fl.length<=20*30:=Qs c1 c2;obtain⟨go,gc,hgv,hg⟩:=K.old.sl;rw[C]at hgv
 obtain⟨rfl,_,rfl⟩:=RS hgv;have hb14:=P.ext e4;clear h hi E K hN4 hN3 A hgv;refine T6 ?_;refine CW.loop (S:=Nat) (fun i=>[(1,Tg w0.heap.size),(4,.slice (some ⟨m.heap.size,0,none⟩) ns.length ns.length),(7,Te (Ae (Il ns i))),(8,Te ((Il ns i).length:Int)),(78,.slice so ns.length sc),(79,Te ns.length),(80,Te i)])
  (fun i w=>i<=ns.length/\Ext X w) (fun i=>ns.length -i) 0 SL ⟨by omega,Ext.refl _⟩ ?_
 rintro i w5 ⟨hi,W⟩
 have hE5:=hE4.trans W;have c:=In (ns:=ns) (k:=i);have hsl:=Im (ns:=ns) (k:=i);refine T2 ?_;apply CW.cond rfl<;>intro h
 ·have d:i<ns.length:=by simp at h;omega
  rw[sT d]at c
  refine TL ?_;refine fh (hs.at hE5) d SX (fun u q Y=>?_);obtain rfl:=Y.node;refine eF (fun M U H=>?_);refine Ue ?_;refine f_ U (fun w7 U D=>?_);have V:Ext w5 w7:=H.grown D H.size SZ;refine TJ ?_;apply CW.cond rfl<;>intro h2
  ·rw[Sj h2]at c
   have hn1:((Il ns i).length:Int)+1=((Il ns (i+1)).length:Int):=by rw[c];simp
   have hn2:(i:Int)=Ae (Il ns (i+1)):=by rw[c];simp[Ae]
   refine TC ?_;refine EX.back (i+1) ⟨rfl,rfl,?_,?_,rfl,rfl,rfl,trivial⟩ ⟨d,W.trans V⟩ SM
   ·rw[<-hn2];rfl
   ·rw[<-hn1];rfl
  ·rw[Si (by rw[h2];simp),NG]at c
   refine Tj ?_;refine EX.back (i+1) ?_ ⟨d,W.trans V⟩ SM;rw[c];exact SL
 obtain rfl:i=ns.length:=by simp at h;omega
 have hb15:=hb14.ext W;clear h hi c;refine TO ?_;apply CW.cond rfl<;>intro h
 ·have h:(Il ns ns.length).length≠1:=by simp at h;omega
  refine Tw ?_;refine bi rfl rfl ⟨?_,hE5⟩;rw[Sj h]
 have h1:(Il ns ns.length).length=1:=by simp at h;omega
 rw[Si SM];obtain⟨s,Z⟩:=OX.1 h1;have hsn:s<ns.length:=by
  have:s∈Il ns ns.length:=by rw[Z];simp
  unfold Il at this
  exact Px.1 (Po.1 this).1
 rw[k7 Z,Z];rw[show Ae [s]=(s:Int) from rfl];clear h;refine TS ?_;refine CW.loop (S:=Nat) (fun i=>[(1,Tg w0.heap.size),(4,.slice (some ⟨m.heap.size,0,none⟩) ns.length ns.length),(7,Te (s:Int)),(95,.slice so ns.length sc),(96,Te ns.length),(97,Te i)])
  (fun i w=>i<=ns.length/\Ext w5 w/\∀j,j<i->iO (ns,fl) j=false) (fun i=>ns.length -i) 0 SL ⟨by omega,Ext.refl _,by omega⟩ ?_
 rintro i M ⟨hi,H,hno⟩
 have l:=hE5.trans H;have hb16:=hb15.ext H;refine T2 ?_;apply CW.cond rfl<;>intro h
 ·have d:i<ns.length:=by simp at h;omega
  have hnd:=sT d;refine TL ?_;refine fh (hs.at l) d SX (fun u q Y=>?_);obtain rfl:=Y.node;refine eF (fun w7 J V=>?_);refine Ue ?_;refine f_ J (fun I J N=>?_);have e8:Ext M I:=V.grown N V.size SZ;have hb18:=hb16.ext e8;have hE8:=l.trans e8;have hd:=Ext.drew I;have hSE:∀x,(fun x=>Ext I x) x->Ext I x:=fun _ h=>h
  have hb12d:=J;refine T2 ?_;refine aG (fun x=>Ext I x) [(0,true),(1,true),(2,true),(3,true),(6,true),(7,true),(4,false),(5,true),(8,false),(9,true),(10,false),(11,true)] mixed SN (Ext.drew I) (Up ?_);refine cD rfl (eN (yF (drew I) (hf.up (hE8.trans hd)) (i:Int) SM) ?_);rintro iv w9 ⟨hoi,e9⟩
  have hT9:=hd.trans e9;obtain⟨iao,ica,rfl⟩:=hoi.val;refine WL.nil (bf hT9 (Up ?_));refine cD rfl (eN (Do w9 (hf.up (hE8.trans hT9)) (i:Int) SM) ?_);rintro ov w10 ⟨hoo,e10⟩
  have B:=hT9.trans e10;obtain⟨oao,oca,rfl⟩:=hoo.val;refine WL.nil (bf B (Up ?_));refine cD rfl (eN (mB w10 ns[i].2 (yA fl (i:Int)).length (Dj fl (i:Int)).length) ?_);rintro _ _ ⟨rfl,rfl⟩
  refine WL.nil (bf B ?_);have hbc:iO (ns,fl) i=!mA ns[i].2 (yA fl (i:Int)).length (Dj fl (i:Int)).length:=by unfold iO;rw[hnd]
  refine Uu ?_;refine TV ?_;apply CW.cond rfl<;>intro h2
  ·refine Th ?_
   refine bi rfl rfl ⟨?_,hE8.trans B⟩;rw[Sj (NE.2 ⟨i,Px.2 d,by rw[hbc];exact h2⟩)]
  ·refine Tj ?_
   refine EX.back (i+1) SL ⟨d,(H.trans e8).trans B,fun j hj=>?_⟩ SM;by_cases e:j=i
   ·subst e;rw[hbc];exact h2
   ·exact hno j SM
 obtain rfl:i=ns.length:=by simp at h;omega
 have A:(List.range ns.length).any (iO (ns,fl))=false:=ND.2 (fun j hj=>by simp[hno j (Px.1 hj)]);rw[Si (by rw[A];simp)];clear h hi hno;have hg6:=hg.up (W.trans H);refine TO ?_;refine fH [(s:Int)] rfl rfl rfl rfl rfl (.cons S_ .nil) (by show 1*1<=16777216;decide) (fun v7 w7 V r7 _=>?_);obtain⟨lo,lc,rfl,hls⟩:=r7.sl;have hsok:CQ (rC ns.length fl).length [(s:Int)]:=fun x hx=>by rw[Py]at hx;subst hx;rw[C];omega
 have hrF:=Fg hgok hsok SM;rw[<-C];have hRR:=dR w7 (hg6.up V) hls (by simp only[O8];omega);rw[hrF,C]at hRR
 rw[C];refine eN hRR ?_;rintro _ I ⟨rv,rfl,hor,e8⟩
 obtain⟨ro,rc,rfl,hrs⟩:=hor.oldN.sl;refine T2 ?_;refine eN (mf I false hrs) ?_;rintro _ w9 ⟨rfl,e9⟩
 have hE9:=((l.trans V).trans e8).trans e9;refine T1 ?_;apply CW.cond rfl<;>intro h2
 ·refine Tw ?_
  refine bi rfl rfl ⟨?_,hE9⟩;rw[Sj h2]
 ·refine Tx ?_
  refine bi rfl rfl ⟨?_,hE9⟩;rw[Si (by rw[h2];simp)]
noncomputable def Aw(p:cR)(n:Int):Int:=if kX p≠0 then kX p else if n<0\/n>=p.1.length then 1 else 0
def Ay(w0:World){so fo:Option Addr}{sc fc:Nat}{ns:List cP}{fl:List cO}(f:Sl w0 (dl w0) so sc ns)(hf:Sl w0 (dl w0) fo fc fl)(n:Int){fv:Value}(sel:List Int)
  (d:fl.length<=30->∀w,Ext w0 w->FnV UA fv [Er so sc fo fc ns.length fl.length,Te n] w fun v w'=>Own w' w.heap.size 3 di v sel/\Ext w w'):
  Rt UA 215 [Er so sc fo fc ns.length fl.length,Te n,fv].toArray w0 fun v w'=>∃x,v=.tuple ⟨[x,Te (Aw (ns,fl) n)]⟩/\Own w' w0.heap.size 3 di x (if Aw (ns,fl) n=0 then sel else [])/\Ext w0 w':=by
 have l:=f.len63;refine dW Tryz.func215 Tryz.ntmps215 rfl rfl ?_;have a:=Ext.refl w0;refine T9 ?_;refine eJ fun j b o=>?_
 have a:=a.trans o;unfold Aw;dsimp only;refine TN ?_;refine eN (aM j (f.up a) (hf.up a)) ?_;rintro _ i ⟨rfl,g⟩
 have b:=b.ext g;have a:=a.trans g;refine T2 ?_;apply CW.cond rfl<;>intro h
 ·have h:kX (ns,fl)≠0:=by simpa using h
  refine Tw ?_;refine bl rfl rfl rfl ⟨_,by rw[Sj h],?_,a⟩;rw[Sj h,Si h];exact Own.nil
 have h:kX (ns,fl)=0:=by simpa using h
 have c:=kY h;rw[Si (by simp[h])];clear h;refine TL ?_
 (refine fJ rfl rfl (fun h=>?_) (fun h=>?_))
 ·refine TA ?_
  have e:(if n<0\/n>=(ns.length:Int)then(1:Int)else 0)=1:=Sj (.inl (by simpa using h));exact bl rfl rfl rfl ⟨_,by rw[e],by rw[e,Si SP];exact Own.nil,a⟩
 have h1:¬n<0:=by simpa using h
 clear h;refine TH ?_;apply CW.cond rfl<;>intro h
 ·have h:n>=ns.length:=by simpa using h
  refine Tw ?_;have e:(if n<0\/n>=(ns.length:Int)then(1:Int)else 0)=1:=Sj (.inr h);exact bl rfl rfl rfl ⟨_,by rw[e],by rw[e,Si SP];exact Own.nil,a⟩
 have h2:¬n>=ns.length:=by simpa using h
 rw[Si SM,Sj rfl];clear h;refine TE ?_;refine eO rfl rfl rfl rfl (d c.f i a) ?_;rintro x p ⟨k,m⟩
 refine Tk ?_;exact bl rfl rfl rfl ⟨_,rfl,k.low a.size,a.trans m⟩
def cK(w0:World){so fo:Option Addr}{sc fc:Nat}{ns:List cP}{fl:List cO}(d:Sl w0 (dl w0) so sc ns)(hf:Sl w0 (dl w0) fo fc fl)(n:Int):
  Rt UA 142 [Er so sc fo fc ns.length fl.length,Te n].toArray w0 fun v w'=>∃x,v=.tuple ⟨[x,Te (Aw (ns,fl) n)]⟩/\Own w' w0.heap.size 3 di x (if Aw (ns,fl) n=0 then yA fl n else [])/\Ext w0 w':=by
 refine dV Tryz.func142 Tryz.ntmps142 rfl rfl (T9 ?_);refine eJ fun b i a=>?_
 refine TN ?_;refine eN (Ay b (d.up a) (hf.up a) n (yA fl n) (fun h w c=>FnV.mk (cs:=[]) (yF w (hf.up (a.trans c)) n SM))) ?_;rintro _ g ⟨x,rfl,e,f⟩
 refine Tk ?_;exact bl rfl rfl rfl ⟨x,rfl,e.low a.size,a.trans f⟩
def dm(w0:World){so fo:Option Addr}{sc fc:Nat}{ns:List cP}{fl:List cO}(d:Sl w0 (dl w0) so sc ns)(hf:Sl w0 (dl w0) fo fc fl)(n:Int):
  Rt UA 143 [Er so sc fo fc ns.length fl.length,Te n].toArray w0 fun v w'=>∃x,v=.tuple ⟨[x,Te (Aw (ns,fl) n)]⟩/\Own w' w0.heap.size 3 di x (if Aw (ns,fl) n=0 then Dj fl n else [])/\Ext w0 w':=by
 refine dV Tryz.func143 Tryz.ntmps143 rfl rfl (T9 ?_);refine eJ fun b i a=>?_
 refine TN ?_;refine eN (Ay b (d.up a) (hf.up a) n (Dj fl n) (fun h w c=>FnV.mk (cs:=[]) (Do w (hf.up (a.trans c)) n SM))) ?_;rintro _ g ⟨x,rfl,e,f⟩
 refine Tk ?_;exact bl rfl rfl rfl ⟨x,rfl,e.low a.size,a.trans f⟩
def straightP:cR:=([(⟨#[97]⟩,1),(⟨#[98]⟩,4),(⟨#[99]⟩,2)],[(0,1),(1,2)])
def E2(w:World)(F:Nat->Prop)(s:ByteArray)(k:Int)(h:s.size<=maxLen):Rd w F (.agg [.string s,Te k].toArray) ((s,k):cP):=Rd.mkPr (c1:=[.string s]) (c2:=[Te k]) ⟨rfl,h⟩ (E9 _ _ _)
def E1(w:World)(F:Nat->Prop)(a b:Int):Rd w F (.agg [Te a,Te b].toArray) ((a,b):cO):=Rd.mkPr (c1:=[Te a]) (c2:=[Te b]) (E9 _ _ _) (E9 _ _ _)
def IN(w0:World):Rt UA 14 [].toArray w0 fun v w'=>(∃so sc fo fc,v=Er so sc fo fc 3 2/\Sl w' (dl w') so sc straightP.1/\Sl w' (dl w') fo fc straightP.2)/\Ext w0 w':=by
 refine dT Tryz.func14 Tryz.ntmps14 rfl (T9 ?_);refine eF (fun r d n=>?_);have j:w0.heap.size+1<=r.heap.size:=d.lt;generalize w:w0.heap.size+1=c at j
 refine T2 ?_;refine eK ?_;refine eK ?_;refine eK ?_;refine fF c SM straightP.1 rfl rfl rfl rfl rfl (.cons (E2 _ _ _ _ SP) (.cons (E2 _ _ _ _ SP) (.cons (E2 _ _ _ _ SP) .nil))) SP (fun z y p i=>?_);have x:=p.size;refine eK ?_;refine eK ?_;refine fF c SM straightP.2 rfl rfl rfl rfl rfl (.cons (E1 _ _ _ _) (.cons (E1 _ _ _ _) .nil)) SP (fun v3 h o u=>?_);have i:=i.upF o;have l:=d.ext (p.trans o);have f:=n.trans (p.trans o);obtain⟨a1,c1,rfl,t⟩:=i.sl;obtain⟨a2,c2,rfl,s⟩:=u.sl;refine eK ?_;refine f_ l (fun g k a=>?_);have m:Ext w0 g:=f.grown a f.size SZ;have hF:∀b,bX c h b->g.heap[b]?=h.heap[b]?:=fun b d=>a.block b d.2 (fun e=>by cases e;have:=d.1;omega)
 have q:∀b,bX c h b->dl g b:=fun b d=>Qn d.2 a.size
 refine Tm ?_;exact bp rfl rfl k rfl ⟨⟨a1,c1,a2,c2,rfl,t.mono hF q,s.mono hF q⟩,m⟩
def IK:kX straightP=0:=by
 have a:Il straightP.1 straightP.1.length=[0]:=by decide
 have b:okG (rC straightP.1.length straightP.2):=(kP (by decide:kN (rC straightP.1.length straightP.2)=0)).1;have hR:kZ straightP=0:=by
  have:=k7 (ns:=straightP.1) (fl:=straightP.2) a;rw[ET b (by intro x c;simp at c;subst c;decide) 20 SP]at this
  rw[show kZ straightP=kZ (straightP.1,straightP.2) from rfl,this];decide
 unfold kX;rw[hR,Si SP,Si SP,Si SP,Si SP,Si SP]
def HB{s:Nat}(a:s<62):IntKind.i64.wrap (1*2 ^ min ((s:Int)).toNat IntKind.i64.bits)=(2:Int) ^ s:=by
 have h1:min s (IntKind.bits .i64)=s:=by show min s 64=s;omega
 have h2:=Ee (show s<62 by omega);have h3:=Ef s;simp only[Nt,h1,Ns];rw[Ms SM SM]
def Cells.tl'{b o:Nat}{x:Value}(h:Cells w b o (x::r)):Cells w b (o+1) r:=fun j u a=>by
 have:=h (j+1) u (by simpa using a);rwa[show o+(j+1)=o+1+j by omega]at this
def Sl.nodeK{ao:Option Addr}{cap:Nat}{xs:List cP}(h:Sl w F ao cap xs){i:Nat}(hi:i<xs.length):∃b off,ao=some ⟨b,off,none⟩/\F b/\Cells w b (off+i*2+1) [Te xs[i].2]:=by
 obtain⟨b,off,e,f,g,c,d⟩:=h.el i hi;obtain⟨c1,c2,rfl,h1,h2⟩:=Fd d;have a:=h1.1;subst a;rw[E7 h2]at c
 exact⟨b,off,e,f,c.tl'⟩
def E3(w:World)(F:Nat->Prop)(a b c:Int):Rd w F (.agg [Te a,Te b,Te c].toArray) ((a,b,c):cT):=Rd.mkPr (c1:=[Te a]) (c2:=[Te b,Te c]) (E9 _ _ _) (E8 (E9 _ _ _) (E9 _ _ _))
def Jr{β:Type}(f:α->β){l:List α}{i:Nat}(h:i<l.length):(l.take (i+1)).map f=(l.take i).map f++[f l[i]]:=by
 rw[<-PU h,Pb];rfl
instance:Flat cT:=⟨fun h=>h⟩
theorem CI(w0:World){so fo:Option Addr}{sc fc:Nat}{ns:List cP}{fl:List cO}(hs:Sl w0 (dl w0) so sc ns)(hf:Sl w0 (dl w0) fo fc fl)(P:kX (ns,fl)=0){n:Nat}(hn:n<ns.length):
  Rt UA 76 [Er so sc fo fc ns.length fl.length,Te (n:Int)].toArray w0 fun v w'=>Own w' w0.heap.size 163 di v (IC (ns,fl) n)∧Ext w0 w':=by
 have V:=kY P;have X:=V.f;dsimp only at X
 have J:Aw (ns,fl) (n:Int)=0:=by
  unfold Aw;rw[Si (by simp[P]),Si SR]
 have K:zR (ns,fl) n=ns[n].2:=by unfold zR;rw[sT hn]
 have h7:ns[n].2=7→(Dj fl (n:Int)).length≤4:=fun h=>CU V hn (by rw[K];exact h)
 have hil:(yA fl (n:Int)).length≤fl.length:=yD;have hol:(Dj fl (n:Int)).length≤fl.length:=Dm;have C:IC (ns,fl) n=Iu ns[n].2 (n:Int) (yA fl (n:Int)) (Dj fl (n:Int)).length:=by unfold IC;rw[K]
 rw[C];refine dV Tryz.func76 Tryz.ntmps76 rfl rfl ?_;have g:=Ext.refl w0;refine T9 ?_;refine eJ fun w1 A e1=>?_
 have g:=g.trans e1;refine TN ?_;refine eN (cK w1 (hs.up g) (hf.up g) (n:Int)) ?_;rintro _ w2 ⟨x,rfl,H,e2⟩
 rw[J,Sj rfl]at H
 have A:=A.ext e2;have g:=g.trans e2;obtain⟨xo,xc,rfl,u⟩:=H.oldN.sl;refine TN ?_;refine eN (dm w2 (hs.up g) (hf.up g) (n:Int)) ?_;rintro _ r ⟨y,rfl,G,e3⟩
 rw[J,Sj rfl]at G
 have A:=A.ext e3;have g:=g.trans e3;have u:=u.up e3;obtain⟨yo,yc,rfl,hys⟩:=G.oldN.sl;clear H G e1 e2 e3 J C P K;generalize yA fl (n:Int)=ins at*
 generalize (Dj fl (n:Int)).length=o at*
 have z3:=g.size;refine Ty ?_;rw[HB (show o<62 by omega)];obtain⟨t,z⟩:∃t,t=(2:Int) ^ o:=⟨_,rfl⟩;have hp1:=Ef o;have hp2:=Ed (show o≤30 by omega);have hp3:(2:Int) ^ 30=1073741824:=by decide
 rw[←z]at hp1 hp2⊢
 rw[Ms (show -9223372036854775808≤t -1 by omega) SM];obtain⟨nb,off,rfl,hnb,W⟩:=(hs.at g).nodeK hn;skip;refine fp (α:=cP) rfl rfl rfl rfl SM SM ?_;refine Ug ?_;refine WL.load (α:=Int) (F:=di) (y:=ns[n].2) rfl rfl rfl (by rw[Nt];exact W) rfl ?_;rw[show Lb Int [Te ns[n].2]=Te ns[n].2 from rfl];generalize ns[n].2=k at*
 clear W hnb;skip;apply WL.nil;apply bE;apply CW.block;refine az [(1,Te (n:Int)),(5,.slice xo ins.length xc),(7,.slice yo o yc),(9,Te (t -1)),(10,.slice none 0 0),(38,Te k),(39,.bool (decide (k=4∨k=2∨k=3)))] ?_ ?_
 ·refine T2 ?_
  by_cases h4:k=4
  ·subst h4
   refine T0 ?_;exact aX SL
  have b4:(k==4)=false:=by simpa using h4
  rw[b4];refine Tr ?_;by_cases h2:k=2
  ·subst h2
   refine T0 ?_;exact aX SL
  have b2:(k==2)=false:=by simpa using h2
  rw[b2];refine Tr ?_;rw[show decide (k=4∨k=2∨k=3)=(k==3) by rw[M2];simp[h4,h2]];exact aX SL
 by_cases hd:k=4∨k=2∨k=3
 ·have d:Iu k (n:Int) ins o=ins.map fun f=>((n:Int),f,t -1):=by unfold Iu;rw[Sj hd,z]
  rw[d,R9 hd];refine TQ ?_;refine CW.loop (S:=Nat×Value) (fun s=>[(1,Te (n:Int)),(9,Te (t -1)),(10,s.2),(43,.slice xo ins.length xc),(44,Te ins.length),(45,Te s.1)])
   (fun s w=>s.1≤ins.length∧Own w r.heap.size 163 di s.2 ((ins.take s.1).map fun f=>(((n:Int),f,t -1):cT))∧Ext r w) (fun s=>ins.length -s.1) (0,.slice none 0 0) SL ⟨QK _,Own.nil,Ext.refl _⟩ ?_
  rintro⟨i,ov⟩ w4 ⟨hi,c,m⟩
  dsimp only at hi c⊢
  refine T2 ?_;apply CW.cond rfl<;>intro h
  ·have e:i<ins.length:=by simp at h;omega
   have I:=Jr (fun f=>(((n:Int),f,t -1):cT)) e;refine T7 ?_;refine ff (u.up m) e rfl SX (fun q=>?_);refine T2 ?_;refine eK ?_;refine eH (F:=di) (yv:=(((n:Int),ins[i],t -1):cT)) rfl rfl SX rfl rfl SX c (E3 _ _ _ _ _) m.size S0 SP (by rw[O1,O9];unfold maxLen;omega) (by rw[O1,O9];omega) (fun U w5 p ho5 M hnb=>?_);rw[←I]at ho5
   have E:Ext r w5:=m.grown M m.size (fun b R=>(c.lt b R).1);refine Tn ?_;exact EX.back (i+1,U) SL ⟨e,ho5,E⟩ SR
  ·obtain rfl:i=ins.length:=by simp at h;omega
   rw[PV]at c
   refine Ua ?_;exact bj ⟨c.low z3,g.trans m⟩
 rw[R7 hd];refine Tr ?_;by_cases Y:k=5
 ·subst Y
  have d:Iu 5 (n:Int) ins o=ins.flatMap fun f=>(List.range o).map fun k:Nat=>((n:Int),f,(2:Int) ^ k):=by unfold Iu;rw[Si hd,Sj rfl]
  rw[d];have O:∀l:List Int,(l.flatMap fun f=>(List.range o).map fun k:Nat=>(((n:Int),f,(2:Int) ^ k):cT)).length=l.length*o:=fun l=>by
   induction l with
   |nil=>simp
   |cons a l ih=>rw[Od,OT,ih];simp[P5];omega
  refine TQ ?_;refine CW.loop (S:=Nat×Value) (fun s=>[(1,Te (n:Int)),(7,.slice yo o yc),(10,s.2),(59,.slice xo ins.length xc),(60,Te ins.length),(61,Te s.1)])
   (fun s w=>s.1≤ins.length∧Own w r.heap.size 163 di s.2 ((ins.take s.1).flatMap fun f=>(List.range o).map fun k:Nat=>(((n:Int),f,(2:Int) ^ k):cT))∧Ext r w) (fun s=>ins.length -s.1) (0,.slice none 0 0) SL ⟨QK _,Own.nil,Ext.refl _⟩ ?_
  rintro⟨i,ov⟩ w4 ⟨hi,c,m⟩
  dsimp only at hi c⊢
  refine T2 ?_;apply CW.cond rfl<;>intro h
  ·have e:i<ins.length:=by simp at h;omega
   have D:=O (ins.take i);rw[O9,Qp hi]at D
   have hmul:i*o≤30*30:=Qs SM SM;generalize Q:((ins.take i).flatMap fun f=>(List.range o).map fun k:Nat=>(((n:Int),f,(2:Int) ^ k):cT))=base at c D
   refine T7 ?_;refine ff (u.up m) e rfl SX (fun q=>?_);refine TR ?_;refine CW.loop (S:=Nat×Value) (fun s=>[(1,Te (n:Int)),(7,.slice yo o yc),(10,s.2),(14,Te ins[i]),(59,.slice xo ins.length xc),(60,Te ins.length),(61,Te i),(66,Te o),(67,Te s.1)])
    (fun s w=>s.1≤o∧Own w r.heap.size 163 di s.2 (base++(List.range s.1).map fun k:Nat=>(((n:Int),ins[i],(2:Int) ^ k):cT))∧Ext r w) (fun s=>o -s.1) (0,ov) SL ⟨QK _,by simpa using c,m⟩ ?_
   rintro⟨j,ov⟩ w5 ⟨hj,c,E⟩
   dsimp only at hj c⊢
   refine T2 ?_;apply CW.cond rfl<;>intro h
   ·have hj':j<o:=by simp at h;omega
    refine TI ?_;rw[HB (show j<62 by omega)];refine eK ?_;refine eH (F:=di) (yv:=(((n:Int),ins[i],(2:Int) ^ j):cT)) rfl rfl SX rfl rfl SX c (E3 _ _ _ _ _) E.size S0 SP (by rw[OT,O1,O4];unfold maxLen;omega) (by rw[OT,O1,O4];omega) (fun U w6 p ho6 L hnb=>?_);have e6:Ext r w6:=E.grown L E.size (fun b R=>(c.lt b R).1);refine Tn ?_;refine EX.back (j+1,U) SL ⟨hj',?_,e6⟩ SR;dsimp only;rw[PL,Pb,←NF];exact ho6
   ·obtain rfl:j=o:=by simp at h;omega
    refine To ?_;refine EX.back (i+1,ov) SL ⟨e,?_,E⟩ SR;dsimp only;rw[←PU e,Oc,Q];simpa using c
  ·obtain rfl:i=ins.length:=by simp at h;omega
   rw[PV]at c
   refine Ua ?_;exact bj ⟨c.low z3,g.trans m⟩
 have b5:(k==5)=false:=by simpa using Y
 rw[b5];refine Tr ?_;by_cases Z:k=6
 ·subst Z
  have d:Iu 6 (n:Int) ins o=[((n:Int),-1,t -1)]:=by unfold Iu;rw[Si hd,Si Y,Sj rfl,z]
  rw[d];refine TZ ?_;refine eK ?_;refine eH (F:=di) (B:=r.heap.size) (xs:=[]) (yv:=(((n:Int),-1,t -1):cT)) rfl rfl SX rfl rfl SX Own.nil (E3 _ _ _ _ _) Ta S0 SP (by simp[maxLen]) SQ (fun U w6 p ho6 L hnb=>?_);have e6:Ext r w6:=(Ext.refl _).grown L Ta (fun b R=>by cases R);refine Tx ?_;exact bj ⟨ho6.low z3,g.trans e6⟩
 have b6:(k==6)=false:=by simpa using Z
 rw[b6];refine Tr ?_;by_cases T:k=7
 ·subst T
  have ho4:=h7 rfl;have d:Iu 7 (n:Int) ins o=(List.range (2 ^ o -1)).map fun k:Nat=>((n:Int),-1,(k:Int)+1):=by unfold Iu;rw[Si hd,Si Y,Si Z,Sj rfl]
  rw[d];have hpn:t=((2 ^ o:Nat):Int):=by rw[z];push_cast;rfl
  have hN1:=Qx (n:=o);have hN2:2 ^ o≤2 ^ 4:=QB SM ho4;obtain⟨N,hN⟩:∃N,N=2 ^ o:=⟨_,rfl⟩;rw[←hN]at hpn hN1 hN2⊢
  have hN3:N≤16:=by have:2 ^ 4=16:=by decide
                    omega
  refine TQ ?_;refine CW.loop (S:=Nat×Value) (fun s=>[(1,Te (n:Int)),(9,Te (t -1)),(10,s.2),(16,Te ((s.1:Int)+1))])
   (fun s w=>s.1≤N -1∧Own w r.heap.size 163 di s.2 ((List.range s.1).map fun k:Nat=>(((n:Int),-1,(k:Int)+1):cT))∧Ext r w) (fun s=>N -s.1) (0,.slice none 0 0) SL ⟨QK _,Own.nil,Ext.refl _⟩ ?_
  rintro⟨i,ov⟩ w4 ⟨hi,c,m⟩
  dsimp only at hi c⊢
  refine T2 ?_;apply CW.cond rfl<;>intro h
  ·have e:i<N -1:=by simp at h;omega
   refine TL ?_;refine eK ?_;refine eH (F:=di) (yv:=(((n:Int),-1,(i:Int)+1):cT)) rfl rfl SX rfl rfl SX c (E3 _ _ _ _ _) m.size S0 SP (by rw[O1,O4];unfold maxLen;omega) (by rw[O1,O4];omega) (fun U w5 p ho5 M hnb=>?_);have E:Ext r w5:=m.grown M m.size (fun b R=>(c.lt b R).1);refine Tn ?_;refine EX.back (i+1,U) SL ⟨by dsimp only;omega,?_,E⟩ SR;dsimp only;rw[PL,Pb];exact ho5
  ·obtain rfl:i=N -1:=by simp at h;omega
   refine Ua ?_;exact bj ⟨c.low z3,g.trans m⟩
 have b7:(k==7)=false:=by simpa using T
 rw[b7];have d:Iu k (n:Int) ins o=[]:=by unfold Iu;rw[Si hd,Si Y,Si Z,Si T]
 rw[d];refine Ua ?_;exact bj ⟨Own.nil,g⟩
def dk(w0:World){so fo:Option Addr}{sc fc:Nat}{ns:List cP}{fl:List cO}(p:Sl w0 (dl w0) so sc ns)(hf:Sl w0 (dl w0) fo fc fl):
  Rt UA 35 [Er so sc fo fc ns.length fl.length].toArray w0 fun v w'=>∃x,v=.tuple ⟨[x,Te (Is (ns,fl)).2]⟩/\Own w' w0.heap.size 163 di x (Is (ns,fl)).1/\Ext w0 w':=by
 have D:=p.len63;refine dU Tryz.func35 Tryz.ntmps35 rfl rfl ?_;have c:=Ext.refl w0;refine T9 ?_;refine eJ fun B j I=>?_
 have c:=c.trans I;unfold Is;refine TN ?_;refine eN (aM B (p.up c) (hf.up c)) ?_;rintro _ n ⟨rfl,y⟩
 have j:=j.ext y;have c:=c.trans y;refine T2 ?_;apply CW.cond rfl<;>intro h
 ·have h:kX (ns,fl)≠0:=by simpa using h
  refine Tw ?_;refine bl rfl rfl rfl ⟨_,by rw[Sj h],?_,c⟩;rw[Sj h];exact Own.nil
 have g:kX (ns,fl)=0:=by simpa using h
 have d:=kY g;have m:=d.n;dsimp only at m
 rw[Si (by simp[g])];have z:=c.size;refine TS ?_;refine CW.loop (S:=Nat×Value) (fun s=>[(1,Tg w0.heap.size),(5,s.2),(14,Te ns.length),(15,Te s.1)])
  (fun s w=>s.1<=ns.length/\Own w n.heap.size 163 di s.2 (ID (ns,fl) s.1)/\Ext n w) (fun s=>ns.length -s.1) (0,.slice none 0 0) SL ⟨QK _,Own.nil,Ext.refl _⟩ ?_
 rintro⟨i,ov⟩ A ⟨hi,k,t⟩
 dsimp only at hi k⊢
 have E:=j.ext t;have a:=c.trans t;have u:=IE d i hi;refine T2 ?_;apply CW.cond rfl<;>intro h
 ·have f:i<ns.length:=by simp at h;omega
  have e:=IE d (i+1) f;rw[IF,OT]at e
  refine TE ?_;refine eN (CI A (p.up a) (hf.up a) g f) ?_;rintro sv J ⟨q,l⟩
  have k:=k.extN l;have l:=t.trans l;obtain⟨so',sc',rfl,o⟩:=q.oldN.sl;refine WL.app (F:=di) rfl rfl rfl rfl k o.srcN l.size S0 SS SM (fun C w5 ho5 r _=>?_);rw[<-IF]at ho5
  have H:Ext n w5:=l.grown r l.size (fun b G=>(k.lt b G).1);refine Tn ?_;exact EX.back (i+1,C) SL ⟨f,ho5,H⟩ SR
 obtain rfl:i=ns.length:=by simp at h;omega
 refine T6 ?_;apply CW.cond rfl<;>intro h
 ·have h:(Iz (ns,fl)).length>60:=by simp at h;show(ID (ns,fl) ns.length).length>60;omega
  refine Tw ?_;refine bl rfl rfl rfl ⟨_,by rw[Sj h],?_,a⟩;rw[Sj h];exact Own.nil
 ·have h:¬(Iz (ns,fl)).length>60:=by simp at h;show¬(ID (ns,fl) ns.length).length>60;omega
  refine Tx ?_;refine bl rfl rfl rfl ⟨_,by rw[Si h],?_,a⟩;rw[Si h];exact k.low z
def Ij(s:cT):Value:=.agg [.int .i64 s.1,.int .i64 s.2.1,.int .i64 s.2.2].toArray
def Rd.step{x:cT}(h:Rd w F v x):v=Ij x:=by
 obtain⟨c1,c2,rfl,h1,h2⟩:=h.pr;obtain⟨c3,c4,rfl,h3,h4⟩:=Fd h2;rw[E7 h1,E7 h3,E7 h4];rfl
section
variable {Q:Exit->Act->World->Prop}{n:Nat}{σ:Sg}{w:World}{L rest:List Oper}{d:Nat}{ty:TypeId}{pos:String}{af:Array Edge}{g:Option (Nat×Bool)}{yt:TypeId}{x y:Operand}
end
def Cells.tl{b o:Nat}{x:Value}(h:Cells w b o (x::r)):Cells w b (o+1) r:=fun j u a=>by
 have:=h (j+1) u (by simpa using a);rwa[show o+(j+1)=o+1+j by omega]at this
def Sl.pair{ao:Option Addr}{cap:Nat}{xs:List (Int×Int)}(h:Sl w F ao cap xs){i:Nat}(hi:i<xs.length):∃b off,ao=some ⟨b,off,none⟩/\F b/\Cells w b (off+i*2) [Te xs[i].1]/\Cells w b (off+i*2+1) [Te xs[i].2]:=by
 obtain⟨b,off,e,f,g,a,d⟩:=h.el i hi;obtain⟨c1,c2,rfl,h1,h2⟩:=Fd d;rw[E7 h1,E7 h2]at a
 exact⟨b,off,e,f,fun j u c=>a j u (by cases j with|zero=>simpa using c|succ j=>simp at c),a.tl⟩
def Ax{p:cR}(h:kX p=0){n:Nat}(hn:n<p.1.length):Aw p (n:Int)=0:=by
 unfold Aw;rw[Si (by simp[h]),Si SM]
section
variable {P:Program}{Q:Exit->Act->World->Prop}{n:Nat}{σ:Sg}{w:World}{L rest:List Oper}{d:Nat}{ty:TypeId}{pos:String}{af:Array Edge}{g:Option (Nat×Bool)}{t e:TypeId}{α:Type}[Rep α]
end
section
variable {P:Program}{Q:Exit->Act->World->Prop}{n:Nat}{σ:Sg}{w:World}{L rest:List Oper}{d:Nat}{ty:TypeId}{pos:String}{af:Array Edge}{g:Option (Nat×Bool)}{t yt:TypeId}{x y:Operand}
end
def IP:Is straightP=([(1,0,1),(2,1,0)],0):=by
 have h:Iz straightP=[(1,0,1),(2,1,0)]:=by decide
 unfold Is;rw[Si (by simp[IK]),h];rfl
def It{p:cR}(h:(Is p).2=0):kX p=0/\(Is p).1=Iz p/\(Iz p).length<=60:=by
 unfold Is at h⊢
 split at h
 ·rename_i h1;exact absurd h h1
 ·split at h
  ·simp at h
  ·rename_i h1 h2
   rw[Si h1,Si h2];exact⟨by simpa using h1,rfl,by omega⟩
def qH(f:Nat->Int)(F i:Nat):List Int:=(List.range F).map fun j=>if j<i then f j else 0
def qI{f:Nat->Int}{F i:Nat}:(qH f F i).length=F:=by simp[qH]
def qL{f:Nat->Int}{F:Nat}:qH f F 0=List.replicate F 0:=by
 unfold qH;apply N4 SQ;intro j h1 h2;simp
def qJ{f:Nat->Int}{F i:Nat}(hi:i<F):(qH f F i).set i (f i)=qH f F (i+1):=by
 unfold qH;apply N4 SQ;intro j h1 h2
 rw[OJ];simp only[OF,OH];by_cases e:i=j
 ·subst e;rw[Sj rfl,Sj SM]
 ·rw[Si e]
  by_cases h:j<i
  ·rw[Sj h,Sj SM]
  ·rw[Si h,Si SM]
def qK{f:Nat->Int}{F i:Nat}(a:f i=0):qH f F i=qH f F (i+1):=by
 unfold qH;apply N4 SQ;intro j h1 h2
 simp only[OF,OH];by_cases e:i=j
 ·subst e;rw[Si SM,Sj SM,a]
 ·by_cases h:j<i
  ·rw[Sj h,Sj SM]
  ·rw[Si h,Si SM]
def Rd.pairI{x:Int×Int}(h:Rd w F v x):v=.agg [Te x.1,Te x.2].toArray:=by
 obtain⟨c1,c2,rfl,h1,h2⟩:=h.pr;rw[E7 h1,E7 h2];rfl
def zS{ns:List cP}{fl:List cO}{n:Nat}(h:n<ns.length):zR (ns,fl) n=ns[n].2:=by unfold zR;rw[sT h]
def CT{ns:List cP}{fl:List cO}(h:OkPr (ns,fl)){i:Nat}(hi:i<fl.length):∃a b:Nat,fl[i].1=(a:Int)/\fl[i].2=(b:Int)/\a<ns.length/\b<ns.length:=by
 have:=h.flows _ (OG hi);dsimp only at this
 exact⟨fl[i].1.toNat,fl[i].2.toNat,by omega,by omega,by omega,by omega⟩
def aq(w0:World){so fo:Option Addr}{sc fc:Nat}{ns:List cP}{fl:List cO}(B:Sl w0 (dl w0) so sc ns)(hf:Sl w0 (dl w0) fo fc fl):
  Rt UA 63 [Er so sc fo fc ns.length fl.length].toArray w0 fun v w'=>∃x,v=.tuple ⟨[x,Te (Is (ns,fl)).2]⟩/\Own w' w0.heap.size 3 di x (if(Is (ns,fl)).2=0 then iZ (ns,fl)else [])/\Ext w0 w':=by
 have Y:=B.len63;have Z:=hf.len63;refine dU Tryz.func63 Tryz.ntmps63 rfl rfl ?_;have e:=Ext.refl w0;refine T9 ?_;refine eJ fun W c e1=>?_
 have e:=e.trans e1;refine TN ?_;refine eN (dk W (B.up e) (hf.up e)) ?_;rintro _ m ⟨x,rfl,C,R⟩
 have c:=c.ext R;have e:=e.trans R;by_cases n:(Is (ns,fl)).2=0
 case neg=>
  have A:((Is (ns,fl)).2 != 0)=true:=by simpa using n
  refine T2 ?_;rw[A];refine TA ?_;refine bl rfl rfl rfl ⟨_,rfl,?_,e⟩;rw[Si n];exact Own.nil
 obtain⟨H,_,_⟩:=It n;rw[Sj n,n];have f:=kY H;have o:=f.n;have s:=f.f;dsimp only at o s
 clear C;refine TS ?_;refine fK (α:=Int) rfl rfl rfl rfl SM SS (fun K ho3 r=>?_);have hE3:Ext w0 K:=e.grown r e.size S5;have Q:Ext m K:=(MW _ _).grown r Ta S5;have I:=c;have c:=c.ext Q;have hlt:=(ho3.lt _ rfl).2.1;generalize X:Value.slice (some ⟨m.heap.size,0,none⟩) fl.length fl.length=sv at*
 refine Ty ?_;refine CW.loop (S:=Nat) (fun i=>[(1,Tg w0.heap.size),(6,sv),(22,.slice fo fl.length fc),(23,Te fl.length),(24,Te i)])
  (fun i w=>i<=fl.length/\Own w m.heap.size 3 di sv (qH (fun j=>if zR (ns,fl) (fl.getD j (0,0)).1.toNat=1 then 1 else 0) fl.length i)/\Ext m w) (fun i=>fl.length -i) 0 SL ⟨by omega,by rw[qL];exact ho3,Q⟩ ?_
 rintro i V ⟨hi,g,z⟩
 have c:=I.ext z;have k:=e.trans z;refine T2 ?_;apply CW.cond rfl<;>intro h
 ·have d:i<fl.length:=by simp at h;omega
  obtain⟨a,b,ea,eb,O,N⟩:=CT f d;refine TL ?_;refine fh (hf.up k) d SX (fun u q L=>?_);rw[L.pairI,ea,eb];clear L;skip;refine eF (fun w5 t P=>?_);refine Ue ?_;refine f_ t (fun U t G=>?_);have l:Ext V U:=P.grown G P.size SZ;have c:=c.ext l;have J:=k.trans l;have g:=g.extN l;obtain⟨nb,off,rfl,hnb,D⟩:=(B.at J).nodeK O;have p:zR (ns,fl) (fl.getD i (0,0)).1.toNat=ns[a].2:=by rw[sN d,ea,Nt,zS O]
  refine TJ ?_;refine fp (α:=cP) rfl rfl rfl rfl SM SM ?_;refine Ug ?_;refine WL.load (α:=Int) (F:=di) (y:=ns[a].2) rfl rfl rfl (by rw[Nt];exact D) rfl ?_;rw[show Lb Int [Te ns[a].2]=Te ns[a].2 from rfl];refine Tl ?_;apply CW.cond rfl<;>intro h
  ·have h:ns[a].2=1:=by simpa using h
   refine TP ?_;refine f6 (u:=Te 1) (yv:=(1:Int)) rfl rfl rfl rfl g (by rw[qI];exact d) SX SX S_ (fun T q ho7 E=>?_);have e7:Ext m T:=(z.trans l).grown E (z.trans l).size (fun b N=>(g.lt b N).1);refine Tn ?_;refine EX.back (i+1) SL ⟨d,?_,e7⟩ SM;rw[<-qJ d,p,Sj h];exact ho7
  ·have h:¬ns[a].2=1:=by simpa using h
   refine Tj ?_;refine EX.back (i+1) SL ⟨d,?_,z.trans l⟩ SM;rw[<-qK (by rw[p,Si h])];exact g
 ·obtain rfl:i=fl.length:=by simp at h;omega
  have:qH (fun j=>if zR (ns,fl) (fl.getD j (0,0)).1.toNat=1 then 1 else 0) fl.length fl.length=iZ (ns,fl):=by
   unfold qH iZ;apply N4 SQ;intro j h1 h2
   have M:j<fl.length:=by simpa using h1
   simp only[OF,OH,Sj M];rw[sN M]
  rw[this]at g
  refine TO ?_;exact bl rfl rfl rfl ⟨_,rfl,g.low e.size,k⟩
def J0(w:World)(n:Int):Rt UA 262 [Te n].toArray w fun v w'=>v=.bool (JV n)/\Ext w w':=by
 refine dU Tryz.func262 Tryz.ntmps262 rfl rfl (T2 ?_);by_cases h:n<0
 ·rw[R9 h]
  refine TT ?_;exact bi rfl rfl ⟨by unfold JV;rw[R9 h];rfl,Ext.refl _⟩
 ·rw[R7 h]
  refine Tk ?_;exact bi rfl rfl ⟨by unfold JV;rw[R7 h];rfl,Ext.refl _⟩
def ka(w0:World){so fo mo:Option Addr}{sc fc mc:Nat}{ns:List cP}{fl:List cO}(s:Sl w0 (dl w0) so sc ns)(hf:Sl w0 (dl w0) fo fc fl)(l:Sl w0 (dl w0) mo mc m):
  Rt UA 210 [Er so sc fo fc ns.length fl.length,.slice mo m.length mc].toArray w0 fun v w'=>∃x,v=.tuple ⟨[x,Te (kQ (ns,fl) m)]⟩/\Own w' w0.heap.size 163 di x (if kQ (ns,fl) m=0 then Iz (ns,fl)else [])/\Ext w0 w':=by
 have u:=hf.len63;have t:=l.len63;refine dV Tryz.func210 Tryz.ntmps210 rfl rfl ?_;have a:=Ext.refl w0;refine T9 ?_;refine eJ fun r f p=>?_
 have a:=a.trans p;refine TN ?_;refine eN (dk r (s.up a) (hf.up a)) ?_;rintro _ q ⟨x,rfl,c,o⟩
 have f:=f.ext o;have a:=a.trans o;unfold kQ;by_cases d:(Is (ns,fl)).2=0
 case neg=>
  have g:((Is (ns,fl)).2 != 0)=true:=by simpa using d
  refine T2 ?_;rw[g];refine TA ?_;refine bl rfl rfl rfl ⟨_,by rw[Sj d],?_,a⟩;rw[Sj d,Si d];exact Own.nil
 obtain⟨y,i,_⟩:=It d;rw[Si (by simp[d]),d];rw[i]at c
 refine TS ?_;by_cases k:m.length=fl.length
 ·have e:((m.length:Int) != (fl.length:Int))=false:=by simp[k]
  rw[e];refine Ue ?_;refine eN (ma q JV (l.up a) (fun w A j B=>FnV.mk (cs:=[]) (J0 w _))) ?_;rintro _ z ⟨rfl,n⟩
  have c:=c.extN n;have a:=a.trans n;refine Tl ?_;apply CW.cond rfl<;>intro h
  ·have h:m.any JV=true:=by simpa using h
   refine Tw ?_;have b:(if m.length≠fl.length\/m.any JV=true then(1:Int)else 0)=1:=Sj (.inr h);dsimp only;rw[b];exact bl rfl rfl rfl ⟨_,rfl,by rw[Si SP];exact Own.nil,a⟩
  ·have h:¬(m.length≠fl.length\/m.any JV=true):=by
    have h:m.any JV=false:=by simpa using h
    rw[h];simp[k]
   refine Tx ?_;have b:(if m.length≠fl.length\/m.any JV=true then(1:Int)else 0)=0:=Si h;dsimp only;rw[b];exact bl rfl rfl rfl ⟨_,rfl,by rw[Sj rfl];exact c.low p.size,a⟩
 ·have e:((m.length:Int) != (fl.length:Int))=true:=by rw[R2];omega
  rw[e];refine TA ?_;have b:(if m.length≠fl.length\/m.any JV=true then(1:Int)else 0)=1:=Sj (.inl k);dsimp only;rw[b];exact bl rfl rfl rfl ⟨_,rfl,by rw[Si SP];exact Own.nil,a⟩
def sL{j:Nat}(h:j<l.length):l.getD j false=l[j]:=by rw[Oi,On h];rfl
def l_(w0:World){so fo:Option Addr}{sc fc:Nat}{ns:List cP}{fl:List cO}(hs:Sl w0 (dl w0) so sc ns)(hf:Sl w0 (dl w0) fo fc fl)(X:OkPr (ns,fl)){flow:Nat}(hfl:flow<fl.length)(but:Int):
  Rt UA 280 [Er so sc fo fc ns.length fl.length,Te (flow:Int),Te but].toArray w0 fun v w'=>Own w' w0.heap.size 4 di v (lW fl flow but)/\Ext w0 w':=by
 have hf30:=X.f;dsimp only at hf30
 refine dW Tryz.func280 Tryz.ntmps280 rfl rfl ?_;have hE:=Ext.refl w0;refine T9 ?_;refine eJ fun o hb1 e1=>?_
 have hE:=hE.trans e1;have z1:=e1.size;refine Ty ?_;refine fK (α:=Bool) rfl rfl rfl rfl SM SS (fun w2 ho2 hg2=>?_);have e2:Ext o w2:=(MW _ _).grown hg2 Ta S5;have hlt:=(ho2.lt _ rfl).2.1;generalize hsv:Value.slice (some ⟨o.heap.size,0,none⟩) fl.length fl.length=sv at*
 have M:sv.ownBlock=some o.heap.size:=by rw[<-hsv];rfl
 refine T2 ?_;refine f6 (u:=.bool true) (yv:=true) rfl rfl rfl rfl ho2 (by simpa using hfl) SX SX (Rd.mkBool _ _ _) (fun w3 q ho3 hg3=>?_);have e3:Ext o w3:=e2.grown hg3 e2.size (fun b K=>(ho2.lt b K).1);have hlt3:o.heap.size<w3.heap.size:=(ho3.lt _ M).2.1;refine T2 ?_;refine WL.lit (F:=di) (ys:=[(flow:Int)]) rfl rfl rfl rfl rfl (.cons S_ .nil) (by show 1*1<=16777216;decide) S0 (fun w4 ho4 hg4=>?_);have e4:Ext o w4:=e3.grown hg4 e3.size S5;have ho3:=ho3.keptN hg4 (fun g _ h=>by cases h);have hne4:∀b,Value.ownBlock (.slice (some ⟨w3.heap.size,0,none⟩) 1 1)=some b->b≠o.heap.size:=fun b K=>by
  have e:some w3.heap.size=some b:=K
  injection e with e;omega
 have ho4:=ho4.low e3.size;generalize Value.slice (some ⟨w3.heap.size,0,none⟩) 1 1=tv at*
 have hI:ComeI fl ((List.replicate fl.length false).set flow true) [(flow:Int)]:=⟨by simp,fun x hx=>by rw[Py]at hx;omega⟩;have hm0:[(flow:Int)].length+qj ((List.replicate fl.length false).set flow true)<=fl.length:=by
  have:=qm (l:=List.replicate fl.length false) (k:=flow) (by simpa using hfl) (by rw[Oi,Ov];split<;>rfl);rw[ql]at this
  simp only[OU,O2];omega
 clear e2 e3 hg2 hg3 hg4 ho2;refine TI ?_;refine CW.loop (S:=Nat×List Bool×List Int×Value) (fun s=>[(2,Te but),(3,Tg w0.heap.size),(7,sv),(8,s.2.2.2)])
  (fun s w=>lS fl but s.1 s.2.1 s.2.2.1=lW fl flow but/\ComeI fl s.2.1 s.2.2.1/\s.2.2.1.length+qj s.2.1<=s.1/\s.1<=fl.length/\Own w o.heap.size 4 di sv s.2.1/\Own w o.heap.size 3 di s.2.2.2 s.2.2.1/\(∀b,s.2.2.2.ownBlock=some b->b≠o.heap.size)/\Ext o w) (fun s=>s.1)
  (fl.length,(List.replicate fl.length false).set flow true,[(flow:Int)],tv) SL ⟨rfl,hI,hm0,Qj _,ho3,ho4,hne4,e4⟩ ?_
 rintro⟨f,out,N,tv⟩ w5 ⟨m,hI,R,hfF,C,I,hne,e5⟩
 dsimp only at m hI R hfF C I hne e5⊢
 have hE5:=hE.trans e5;have hb5:=hb1.ext e5;refine TU ?_;apply CW.cond rfl<;>intro h0
 ·simp at h0
  match N,h0 with
  |x::r,_=>
  have hx:=hI.ok x SQ;obtain⟨k,rfl⟩:=Nn hx.1;have hk:k<fl.length:=by omega
  obtain⟨a,b,ea,eb,ha,K⟩:=CT X hk
  match f,R with
  |0,R=>simp at R
  |f+1,R=>
  have R:r.length+qj out<=f:=by simp at R;omega
  have hI':ComeI fl out r:=⟨hI.len,fun y hy=>hI.ok y (by simp[hy])⟩;unfold lS at m
  rw[Nt,sN hk,ea]at m
  obtain⟨to,tc,rfl,hts⟩:=I.oldN.sl;obtain⟨fb,off,rfl,hfb,hc1,_⟩:=(hf.up hE5).pair hk;refine Uc ?_;refine dz (i:=0) rfl rfl rfl rfl rfl S3 hts SM SQ SX (fun u q hu=>?_);obtain rfl:=hu.int;simp only[Int.toNat_zero,OD];refine dE (α:=cO) rfl rfl rfl rfl SM SM (Um ?_);refine QL.load (α:=Int) (F:=di) (y:=fl[k].1) rfl rfl rfl hfb S0 (by rw[Nt];exact hc1) rfl ?_;rw[show Lb Int [Te fl[k].1]=Te fl[k].1 from rfl,ea];refine Uf ?_;refine QL.nil (fun w6 W=>?_);have C:=C.extN W;have I:=I.extN W;have W:=e5.trans W;have hE6:=hE.trans W;have hb6:=hb1.ext W;clear hts;refine TL ?_;refine eZ (α:=Int) 1 rfl rfl rfl rfl rfl I SQ (fun nv2 H hnb=>?_);simp only[NY,NZ]at H
  have Q:∀b,nv2.ownBlock=some b->b≠o.heap.size:=fun b K=>hne b (by rw[<-hnb];exact K)
  refine T2 ?_;apply CW.cond rfl<;>intro h2
  ·have h2:(a:Int)=but:=by simpa using h2
   rw[Sj h2]at m
   refine Tt ?_;exact EX.back (f,out,r,nv2) SL ⟨m,hI',R,by omega,C,H,Q,W⟩ SR
  have h2:¬(a:Int)=but:=by simpa using h2
  rw[Si h2]at m
  refine TS ?_;refine CW.loop (S:=Nat×List Bool×List Int×Value) (fun s=>[(2,Te but),(3,Tg w0.heap.size),(7,sv),(8,s.2.2.2),(9,Te (a:Int)),(38,.slice (some ⟨fb,off,none⟩) fl.length fc),(39,Te fl.length),(40,Te s.1)])
   (fun s w=>s.1<=fl.length/\(s.2.1,s.2.2.1)=(List.range s.1).foldl (lY fl (a:Int)) (out,r)/\ComeI fl s.2.1 s.2.2.1/\s.2.2.1.length+qj s.2.1=r.length+qj out/\Own w o.heap.size 4 di sv s.2.1/\Own w o.heap.size 3 di s.2.2.2 s.2.2.1/\(∀b,s.2.2.2.ownBlock=some b->b≠o.heap.size)/\Ext o w) (fun s=>fl.length -s.1)
   (0,out,r,nv2) SL ⟨QK _,rfl,hI',rfl,C,H,Q,W⟩ ?_
  rintro⟨j,out2,todo2,tv3⟩ w7 ⟨hj,B,D,L,J,G,d,e7⟩
  dsimp only at hj B D L J G d e7⊢
  have hE7:=hE.trans e7;refine T2 ?_;apply CW.cond rfl<;>intro h1
  ·have z:j<fl.length:=by simp at h1;omega
   obtain⟨a2,b2,ea2,eb2,ha2,hb2⟩:=CT X z;have A:=lZ (n:=(a:Int)) z D;have c:lY fl (a:Int) (out2,todo2) j=(List.range (j+1)).foldl (lY fl (a:Int)) (out,r):=by
    rw[PL,Of,<-B];rfl
   have Z:j<out2.length:=by rw[D.len];exact z
   have hcs:lY fl (a:Int) (out2,todo2) j=if(b2:Int)=(a:Int)/\out2[j]=false then(out2.set j true,todo2++[(j:Int)])else(out2,todo2):=by
    unfold lY;rw[sN z,eb2,sL Z]
   rw[hcs]at A c
   have hlen3:todo2.length<=60:=by have:=qk (l:=out);have:=hI.len;omega
   refine TL ?_;refine fh (hf.up hE7) z SX (fun u q hu=>?_);rw[hu.pairI,ea2,eb2];clear hu;refine eF (fun w8 hb8 e8=>?_);refine Ue ?_;refine f_ hb8 (fun w9 hb9 hg9=>?_);have V:Ext w7 w9:=e8.grown hg9 e8.size SZ;have t:=J.extN V;have E:=G.extN V;have V:=e7.trans V;refine TJ ?_;by_cases h3:(b2:Int)=(a:Int)
   ·rw[show((b2:Int)==(a:Int))=true by simpa using h3]
    refine Ue ?_;refine fj rfl rfl rfl rfl rfl t Z SX (fun u q hu=>?_);obtain rfl:=hu.bool;refine Tl ?_;by_cases h4:out2[j]=false
    ·rw[Sj ⟨h3,h4⟩]at A c
     dsimp only at A
     rw[h4];refine TZ ?_;refine f6 (u:=.bool true) (yv:=true) rfl rfl rfl rfl t Z SX SX (Rd.mkBool _ _ _) (fun w10 q P U=>?_);have e10:Ext o w10:=V.grown U V.size (fun b K=>(t.lt b K).1);have O:=E.keptN U (fun g hg=>by rw[M];simpa using d g hg);refine T2 ?_;refine eH (F:=di) (yv:=(j:Int)) rfl rfl SX rfl rfl SX O S_ e10.size S0 SP SS SM (fun v' w11 p ho11 T Y=>?_);have e11:Ext o w11:=e10.grown T e10.size (fun b K=>(O.lt b K).1);have hd11:=P.keptN T (fun g hg e=>by rw[M]at hg;cases hg;exact d _ e.symm rfl);refine Tn ?_;refine EX.back (j+1,out2.set j true,todo2++[(j:Int)],v') SL ⟨z,c,A.1,by rw[A.2];exact L,hd11,ho11,?_,e11⟩ SR;intro b hb'
     rcases Y b hb' with h|h
     ·exact d b h
     ·have:=(P.lt _ M).2.1;omega
    ·rw[Si (fun h=>h4 h.2)]at A c
     have h4:out2[j]=true:=by simpa using h4
     rw[h4];refine Tz ?_;exact EX.back (j+1,out2,todo2,tv3) SL ⟨z,c,D,L,t,E,d,V⟩ SR
   ·rw[Si (fun h=>h3 h.1)]at A c
    rw[show((b2:Int)==(a:Int))=false by simpa using h3];refine Tz ?_;exact EX.back (j+1,out2,todo2,tv3) SL ⟨z,c,D,L,t,E,d,V⟩ SR
  ·obtain rfl:j=fl.length:=by simp at h1;omega
   rw[<-B]at m
   refine Tt ?_;exact EX.back (f,out2,todo2,tv3) SL ⟨m,D,by dsimp only;omega,by dsimp only;omega,J,G,d,e7⟩ SR
 ·have hnil:N=[]:=by
   simpa using h0
  subst hnil;rw[lU]at m
  subst m;refine TO ?_;exact bj ⟨C.low z1,hE5⟩
def ib(p:α->Bool){l:List α}{i:Nat}(h:i<l.length):(l.take (i+1)).any p=((l.take i).any p||p l[i]):=by
 rw[<-PU h,NC];simp
def tn{l:List Int}{j:Nat}(h:j<l.length):l.getD j 0=l[j]:=by rw[Oi,On h];rfl
def zb{p:cR}{m:List Int}{n f:Int}(h:f∈yA p.2 n)(h1:¬m.getD f.toNat 0>0)(h2:iR p m n f=true):za p m n=false:=by
 unfold za;rw[Sj];exact NE.2 ⟨f,h,by rw[R7 h1,h2];rfl⟩
def ze{p:cR}{m:List Int}{n:Int}(h:∀f∈yA p.2 n,¬m.getD f.toNat 0>0->iR p m n f=false):za p m n=(yA p.2 n).any fun f=>decide (m.getD f.toNat 0>0):=by
 unfold za;rw[Si];rw[NE];rintro⟨f,hf,a⟩
 rw[MZ]at a
 have h1:¬m.getD f.toNat 0>0:=by simpa using a.1
 rw[h f hf h1]at a
 simp at a
def iL(fl:List cO)(m:List Int)(c:List Bool)(n:Int)(i:Nat):Bool:=c.getD i false&&decide (m.getD i 0>0)&&decide ((fl.getD i (0,0)).2≠n)
def iS{p:cR}{n:Int}{f:Nat}:iR p m n (f:Int)=(List.range p.2.length).any (iL p.2 m (lW p.2 f n) n):=rfl
def zf(w0:World){so fo mo:Option Addr}{sc fc mc:Nat}{ns:List cP}{fl:List cO}(hs:Sl w0 (dl w0) so sc ns)(hf:Sl w0 (dl w0) fo fc fl)(hm:Sl w0 (dl w0) mo mc m)(W:kX (ns,fl)=0)(hml:m.length=fl.length){n:Nat}(hn:n<ns.length):
  Rt UA 263 [Er so sc fo fc ns.length fl.length,.slice mo m.length mc,Te (n:Int)].toArray w0 fun v w'=>v=.bool (za (ns,fl) m (n:Int))/\Ext w0 w':=by
 have N:=kY W;have V:=N.f;dsimp only at V
 have P:Aw (ns,fl) (n:Int)=0:=Ax W hn;refine dW Tryz.func263 Tryz.ntmps263 rfl rfl ?_;have J:=Ext.refl w0;refine T9 ?_;refine eJ fun w1 g e1=>?_
 have J:=J.trans e1;refine TN ?_;refine eN (cK w1 (hs.up J) (hf.up J) (n:Int)) ?_;rintro _ w2 ⟨x,rfl,E,e2⟩
 rw[P,Sj rfl]at E
 have g:=g.ext e2;have J:=J.trans e2;obtain⟨xo,xc,rfl,Y⟩:=E.oldN.sl;have U:=fun x (hx:x∈yA fl (n:Int))=>insP_mem.1 hx
 have T:=fun f=>@zb (ns,fl) m (n:Int) f
 have Q:=@ze (ns,fl) m (n:Int);have hil:(yA fl (n:Int)).length<=fl.length:=yD;dsimp only at T Q
 rw[P];clear E e1;generalize yA fl (n:Int)=ins at*
 refine TR ?_;refine CW.loop (S:=Nat×Bool) (fun s=>[(1,.slice mo m.length mc),(2,Te (n:Int)),(3,Tg w0.heap.size),(9,.bool s.2),(20,.slice xo ins.length xc),(21,Te ins.length),(22,Te s.1)])
  (fun s w=>s.1<=ins.length/\s.2=((ins.take s.1).any fun f=>decide (m.getD f.toNat 0>0))/\(∀j (h:j<ins.length),j<s.1->¬m.getD ins[j].toNat 0>0->iR (ns,fl) m (n:Int) ins[j]=false)/\Ext w2 w) (fun s=>ins.length -s.1)
  (0,false) SL ⟨QK _,rfl,(fun j _ h=>absurd h (Qw _)),Ext.refl _⟩ ?_
 rintro⟨i,b⟩ w3 ⟨hi,X,l,M⟩
 dsimp only at hi X l M⊢
 have g:=g.ext M;have z:=J.trans M;refine T2 ?_;apply CW.cond rfl<;>intro h
 ·have u:i<ins.length:=by simp at h;omega
  have C:=OG u;obtain⟨f,ef,o,_⟩:=U _ C;have A:f<m.length:=by rw[hml];exact o
  have d:=ib (fun f:Int=>decide (m.getD f.toNat 0>0)) u;rw[ef,Nt,tn A]at d
  refine T7 ?_;refine ff (Y.up M) u ef SX (fun q=>?_);refine T2 ?_;refine ff (hm.up z) A rfl SX (fun q=>?_);refine Tl ?_;apply CW.cond rfl<;>intro h
  ·rw[h,Nc]at d
   have hp:m.getD ins[i].toNat 0>0:=by rw[ef,Nt,tn A];simpa using h
   refine Ua ?_;refine EX.back (i+1,true) SL ⟨u,d.symm,fun j G o hn=>?_,M⟩ SR;dsimp only at o
   by_cases e:j=i
   ·subst e;exact absurd hp hn
   ·exact l j G SM hn
  rw[h,Nb,<-X]at d
  have Z:¬m.getD ins[i].toNat 0>0:=by rw[ef,Nt,tn A];simpa using h
  have B:=iS (p:=(ns,fl)) (m:=m) (n:=(n:Int)) (f:=f);rw[<-ef]at B
  dsimp only at B
  refine TE ?_;refine eN (l_ w3 (hs.up z) (hf.up z) N o (n:Int)) ?_;rintro v w4 ⟨O,e4⟩
  have g:=g.ext e4;have hE4:=z.trans e4;have hcl:=lX (fl:=fl) (flow:=f) (but:=(n:Int));generalize lW fl f (n:Int)=c at*
  obtain⟨co,cc,rfl,hcs⟩:=O.oldN.sl;clear O;refine TR ?_;refine CW.loop (S:=Nat) (fun j=>[(1,.slice mo m.length mc),(2,Te (n:Int)),(3,Tg w0.heap.size),(9,.bool b),(20,.slice xo ins.length xc),(21,Te ins.length),(22,Te i),(34,.slice co c.length cc),(35,Te c.length),(36,Te j)])
   (fun j w=>j<=c.length/\(∀k,k<j->iL fl m c (n:Int) k=false)/\Ext w4 w) (fun j=>c.length -j) 0 SL ⟨QK _,(fun k h=>absurd h (Qw _)),Ext.refl _⟩ ?_
  rintro j w5 ⟨G,D,K⟩
  have g:=g.ext K;have I:=hE4.trans K;refine T2 ?_;apply CW.cond rfl<;>intro h2
  ·have t:j<c.length:=by simp at h2;omega
   have r:j<fl.length:=by omega
   have R:j<m.length:=by omega
   have a:iL fl m c (n:Int) j=(c[j]&&decide (m[j]>0)&&decide (fl[j].2≠(n:Int))):=by unfold iL;rw[sL t,tn R,sN r]
   have H:iL fl m c (n:Int) j=false->∀k,k<j+1->iL fl m c (n:Int) k=false:=fun h k hk=>by
    by_cases e:k=j
    ·subst e;exact h
    ·exact D k SM
   refine TL ?_;refine fd rfl rfl rfl rfl rfl (hcs.up K) t rfl SX (fun q=>?_);refine T2 ?_;by_cases h3:c[j]=true
   ·rw[h3]at a⊢
    rw[Nd]at a
    refine Ue ?_;refine ff (hm.up I) R rfl SX (fun q=>?_);refine Ue ?_;by_cases h4:m[j]>0
    ·rw[R9 h4]at a⊢
     rw[Nd]at a
     obtain⟨fb,off,rfl,hfb,_,hc2⟩:=(hf.up I).pair r;refine Uh ?_;refine fp (α:=cO) rfl rfl rfl rfl SM SM ?_;refine Ug ?_;refine WL.load (α:=Int) (F:=di) (y:=fl[j].2) rfl rfl rfl (by rw[Nt];exact hc2) rfl ?_;rw[show Lb Int [Te fl[j].2]=Te fl[j].2 from rfl];refine Tl ?_;apply CW.cond rfl<;>intro L
     ·have L:fl[j].2≠(n:Int):=by simpa using L
      rw[R9 L]at a
      have hbt:iR (ns,fl) m (n:Int) ins[i]=true:=by
       rw[B];exact NE.2 ⟨j,Px.2 r,a⟩
      refine Th ?_;refine bi rfl rfl ⟨?_,I⟩;rw[T _ C Z hbt]
     ·have L:¬fl[j].2≠(n:Int):=by simpa using L
      rw[R7 L]at a
      refine Tj ?_;exact EX.back (j+1) SL ⟨t,H a,K⟩ SM
    ·rw[R7 h4]at a⊢
     rw[M3]at a
     refine Tz ?_;exact EX.back (j+1) SL ⟨t,H a,K⟩ SM
   ·have h3:c[j]=false:=by simpa using h3
    rw[h3]at a⊢
    rw[M3,M3]at a
    refine Tz ?_;exact EX.back (j+1) SL ⟨t,H a,K⟩ SM
  ·obtain rfl:j=c.length:=by simp at h2;omega
   have hbf:iR (ns,fl) m (n:Int) ins[i]=false:=by
    rw[B];exact ND.2 (fun k hk=>by rw[D k (by rw[hcl];exact Px.1 hk)];simp)
   refine To ?_;refine EX.back (i+1,b) SL ⟨u,d.symm,fun j G o hn=>?_,(M.trans e4).trans K⟩ SR;dsimp only at o
   by_cases e:j=i
   ·subst e;exact hbf
   ·exact l j G SM hn
 ·obtain rfl:i=ins.length:=by simp at h;omega
  rw[PV]at X
  have:=Q (fun f hf hn=>by
   obtain⟨j,G,rfl⟩:=Pq.1 hf;exact l j G G hn)
  refine TO ?_;exact bi rfl rfl ⟨by rw[this,<-X],z⟩
def o6(w:World)(b:Nat){mo:Option Addr}{mc:Nat}(d:Blk w b 39 [.slice mo m.length mc])(c:Sl w (dl w) mo mc m){f:Nat}(a:f<m.length):
  Rt UA 264 [Te (f:Int),Tg b].toArray w fun v w'=>v=.bool (m.getD f 0==0)/\Ext w w':=by
 refine dV Tryz.func264 Tryz.ntmps264 rfl rfl (TJ ?_);refine ff c a rfl SX (fun q=>?_);refine Tk ?_;exact bi rfl rfl ⟨by rw[tn a],Ext.refl _⟩
def o8(w0:World){so fo mo:Option Addr}{sc fc mc:Nat}{ns:List cP}{fl:List cO}(u:Sl w0 (dl w0) so sc ns)(hf:Sl w0 (dl w0) fo fc fl)(B:Sl w0 (dl w0) mo mc m)(i:kX (ns,fl)=0)(e:m.length=fl.length){s:cT}{n:Nat}(hn:n<ns.length)(d:s∈IC (ns,fl) n):
  Rt UA 211 [Er so sc fo fc ns.length fl.length,.slice mo m.length mc,Ij s].toArray w0 fun v w'=>v=.bool (o7 (ns,fl) m s)/\Ext w0 w':=by
 have z:=kY i;have p:=z.f;dsimp only at p
 have J:=Ix _ d;have I:=Iv _ d;have l:Aw (ns,fl) (n:Int)=0:=Ax i hn;clear d;obtain⟨T,H,S⟩:=s;dsimp only at J I
 subst J;unfold Ij o7;dsimp only;refine dW Tryz.func211 Tryz.ntmps211 rfl rfl ?_;have a:=Ext.refl w0;refine T9 ?_;refine eJ fun R c P=>?_
 have a:=a.trans P;skip;refine eJ fun Q b L=>?_
 have c:=c.ext L;have a:=a.trans L;skip;refine eJ fun G N D=>?_
 have c:=c.ext D;have b:=b.ext D;have a:=a.trans D;refine TJ ?_;apply CW.cond rfl<;>intro h
 ·have h:H>=0:=by simpa using h
  rcases I with rfl|C
  ·omega
  obtain⟨f,rfl,g,_⟩:=insP_mem.1 C;have o:f<m.length:=by rw[e];exact g
  rw[Sj h,Nt,tn o];refine TY ?_;refine ff (B.up a) o rfl SX (fun q=>?_);refine T5 ?_;exact bj ⟨rfl,a⟩
 have h:¬0<=H:=by simpa using h
 rw[Si h,Nt,zS hn];obtain⟨U,off,rfl,hnb,A⟩:=(u.at a).nodeK hn;refine T3 ?_;refine fp (α:=cP) rfl rfl rfl rfl SM SM ?_;refine Ug ?_;refine WL.load (α:=Int) (F:=di) (y:=ns[n].2) rfl rfl rfl (by rw[Nt];exact A) rfl ?_;rw[show Lb Int [Te ns[n].2]=Te ns[n].2 from rfl];refine Tl ?_;apply CW.cond rfl<;>intro h
 ·have h:ns[n].2=7:=by simpa using h
  rw[Sj h];refine T3 ?_;refine eN (zf G (u.up a) (hf.up a) (B.up a) i e hn) ?_;rintro _ E ⟨rfl,r⟩
  refine T5 ?_;exact bj ⟨rfl,a.trans r⟩
 have h:¬ns[n].2=7:=by simpa using h
 rw[Si h];refine T3 ?_;refine eN (cK G (u.up a) (hf.up a) (n:Int)) ?_;rintro _ E ⟨x,rfl,k,r⟩
 rw[l,Sj rfl]at k
 rw[l];have b:=b.ext r;have a:=a.trans r;obtain⟨xo,xc,rfl,t⟩:=k.oldN.sl;refine Tu ?_;refine eN (ma E (fun f=>m.getD f.toNat 0==0) t (fun w K j M=>?_)) ?_
 ·obtain⟨f,ef,g,_⟩:=insP_mem.1 (OG M)
  rw[ef,Nt];exact FnV.mk (cs:=[_]) (o6 w _ (b.ext K) (B.up (a.trans K)) (by rw[e];exact g))
 rintro _ w5 ⟨rfl,O⟩
 refine Tk ?_;exact bj ⟨rfl,a.trans O⟩
def IA{p:cR}{i:Nat}(h:i<(Iz p).length):(Iz p).getD i (0,0,0)=(Iz p)[i]:=by rw[Oi,On h];rfl
def kR{p:cR}(h:kQ p m=0):kX p=0/\m.length=p.2.length/\m.any JV=false/\(Iz p).length<=60:=by
 unfold kQ at h
 split at h
 ·rename_i h1;exact absurd h h1
 ·rename_i h1
  split at h
  ·cases h
  ·rename_i h2
   have:=It (p:=p) (by simpa using h1);refine⟨this.1,Nh fun e=>h2 (.inl e),?_,this.2.2⟩;by_cases e:m.any JV=true
   ·exact absurd (.inr e) h2
   ·simpa using e
def bK(w0:World){so fo mo:Option Addr}{sc fc mc:Nat}{ns:List cP}{fl:List cO}(E:Sl w0 (dl w0) so sc ns)(hf:Sl w0 (dl w0) fo fc fl)(G:Sl w0 (dl w0) mo mc m):
  Rt UA 132 [Er so sc fo fc ns.length fl.length,.slice mo m.length mc].toArray w0 fun v w'=>∃x,v=.tuple ⟨[x,Te (kQ (ns,fl) m)]⟩/\Own w' w0.heap.size 3 di x (if kQ (ns,fl) m=0 then jR (ns,fl) m else [])/\Ext w0 w':=by
 refine dV Tryz.func132 Tryz.ntmps132 rfl rfl ?_;have e:=Ext.refl w0;refine T9 ?_;refine eJ fun W c e1=>?_
 have e:=e.trans e1;refine TN ?_;refine eN (ka W (E.up e) (hf.up e) (G.up e)) ?_;rintro _ D ⟨x,rfl,l,Q⟩
 have c:=c.ext Q;have e:=e.trans Q;by_cases r:kQ (ns,fl) m=0
 case neg=>
  have I:(kQ (ns,fl) m != 0)=true:=by simpa using r
  refine T2 ?_;rw[I];refine TA ?_;refine bl rfl rfl rfl ⟨_,rfl,?_,e⟩;rw[Si r];exact Own.nil
 obtain⟨M,y,_,O⟩:=kR r;rw[Sj r]at l
 rw[Sj r,r];dsimp only at y
 obtain⟨xo,xc,rfl,J⟩:=l.oldN.sl;clear l;have z:∀k,k<=(Iz (ns,fl)).length->(jS (ns,fl) m k).length<=60:=fun k hk=>by
  unfold jS;rw[O1];have:=O0 (fun i=>o7 (ns,fl) m ((Iz (ns,fl)).getD i (0,0,0))) (List.range k);rw[O4]at this
  omega
 have R:=e.size;refine TE ?_;refine CW.loop (S:=Nat×Value) (fun s=>[(1,.slice mo m.length mc),(2,Tg w0.heap.size),(8,s.2),(20,.slice xo (Iz (ns,fl)).length xc),(21,Te (Iz (ns,fl)).length),(22,Te s.1)])
  (fun s w=>s.1<=(Iz (ns,fl)).length/\Own w D.heap.size 3 di s.2 (jS (ns,fl) m s.1)/\Ext D w) (fun s=>(Iz (ns,fl)).length -s.1) (0,.slice none 0 0) SL ⟨QK _,Own.nil,Ext.refl _⟩ ?_
 rintro⟨i,ov⟩ V ⟨hi,f,C⟩
 dsimp only at hi f C⊢
 have c:=c.ext C;have B:=e.trans C;refine T2 ?_;apply CW.cond rfl<;>intro h
 ·have d:i<(Iz (ns,fl)).length:=by simp at h;omega
  obtain⟨n,hn,t⟩:=stepsP_mem.1 (OG d);have a:=jT (p:=(ns,fl)) (m:=m) (k:=i);rw[IA d]at a
  have Y:=z i hi;refine TL ?_;refine fh (J.up C) d SX (fun u q N=>?_);rw[N.step];have A:=fun w E hf G=>o8 w (so:=so) (fo:=fo) (mo:=mo) (sc:=sc) (fc:=fc) (mc:=mc) E hf G M y hn t
  clear N t;generalize (Iz (ns,fl))[i]=s at*
  unfold Ij at A⊢
  skip;refine eF (fun w4 g P=>?_);refine Ue ?_;refine f_ g (fun w5 g L=>?_);have H:Ext V w5:=P.grown L P.size SZ;have c:=c.ext H;have o:=B.trans H;have f:=f.extN H;refine TN ?_;refine eN (A w5 (E.up o) (hf.up o) (G.up o)) ?_;rintro _ U ⟨rfl,j⟩
  have f:=f.extN j;have j:Ext D U:=(C.trans H).trans j;have z6:=j.size;refine T1 ?_;apply CW.cond rfl<;>intro h
  ·rw[Sj h]at a
   refine TP ?_;refine eH (F:=di) (yv:=(i:Int)) rfl rfl SX rfl rfl SX f S_ j.size S0 SP SS SM (fun X T p ho7 K hnb=>?_);have e7:Ext D T:=j.grown K j.size (fun b Z=>(f.lt b Z).1);rw[<-a]at ho7
   refine Tn ?_;exact EX.back (i+1,X) SL ⟨d,ho7,e7⟩ SR
  ·rw[Si (by simp[h]),NG]at a
   refine Tj ?_;exact EX.back (i+1,ov) SL ⟨d,by dsimp only;rw[a];exact f,j⟩ SR
 ·obtain rfl:i=(Iz (ns,fl)).length:=by simp at h;omega
  refine TO ?_;exact bl rfl rfl rfl ⟨_,rfl,f.low R,B⟩
def oU(w:World)(F:Nat->Prop):∀k:Nat,Elems w F (List.replicate k (Te 0)) (List.replicate k (0:Int))
 |0=>Elems.nil
 |k+1=>by
  rw[PN,PN];exact(oU w F k).append (Elems.one (E9 w F 0))
section
variable {P:Program}{Q:Exit->Act->World->Prop}{n:Nat}{σ:Sg}{w:World}{L rest:List Oper}{d:Nat}{ty:TypeId}{pos:String}{af:Array Edge}{g:Option (Nat×Bool)}{t e:TypeId}{bytes:Nat}
theorem fZ{op:Op}{v:Value}{w':World}(f:gd L σ ⟨none,op,ty,pos,af,g⟩=some true)
  (c:∀a,Fr n σ a->(execOp a.eval ⟨none,op,ty,pos,af,g⟩).run P w=.ok (.value v) w') (h:WL P L Q rest n σ w'):WL P L Q (⟨none,op,ty,pos,af,g⟩::rest) n σ w:=by
 unfold WL at*
 intro a b
 refine SE fun K i=>?_
 rw[sJ b f,Sj rfl];unfold Oper.wp;rw[c a b];exact i _ _ (h _ (b.put (d:=none) (v:=v) rfl))
theorem F4{v:Value}{xs:List Int}{B:Nat}(w:World)[q:IsS P t e][E:IsT P e Int][x:IsZ P e (0:Int) bytes](j:Own w B e di v xs):
  ∃w',(Builtin.clear_ #[t] ty #[v]).run P w=.ok (.tuple #[]) w'/\Own w' B e di v (xs.map fun _=>(0:Int))/\w.grownBy w' v.ownBlock:=by
 rcases j with⟨rfl,rfl⟩|⟨b,off,cap,cur,rfl,c⟩
 ·refine⟨w,by simp[Builtin.clear_,Sy q.ok],Own.nil,?_⟩
  exact⟨rfl,rfl,rfl,Qj _,fun k _ _=>rfl⟩
 ·by_cases u:xs=[]
  ·subst u
   refine⟨w,by simp[Builtin.clear_,Sy q.ok],.inr ⟨b,off,cap,cur,rfl,c⟩,?_⟩;exact⟨rfl,rfl,rfl,Qj _,fun k _ _=>rfl⟩
  obtain⟨i,z,h1,h2,h3,h4⟩:=x.ok;have o:z.cells.toList=[Te 0]:=h4 w di;have p:z.cells=#[Te 0]:=by apply MA;exact o
  have s:0<xs.length:=O3.2 u;obtain⟨k,r⟩:∃k,xs.length=k+1:=⟨xs.length -1,by omega⟩;have f:sz Int=1:=rfl;have l:=c.fit;have A:=c.le;rw[f,Qv]at l
  have a:=Sx P b off e (List.replicate xs.length (Te 0)) 0 cur w c.blk ST (fun v y=>by rw[List.eq_of_mem_replicate y];rfl);simp only[P9]at a
  have h:(Builtin.zeroCells z.cells xs.length).toList=List.replicate xs.length (Te 0):=by
   rw[p];simp[Builtin.zeroCells];apply N4
   ·simp
   ·intro i h1 h2
    simp[Nat.mod_one]
  refine⟨w.setRow b (cur.toList.take off++List.replicate xs.length (Te 0)++cur.toList.drop (off+xs.length)).toArray,?_,.inr ⟨b,off,cap,(cur.toList.take off++List.replicate xs.length (Te 0)++cur.toList.drop (off+xs.length)).toArray,by rw[O1],⟨Sz w b cur _ e _ c.blk,c.ge,c.nF,by simpa using c.le,c.mx,?_,?_⟩⟩,⟨rfl,rfl,rfl,by simp,fun k _ r=>SA w b k _ (fun e=>r (by rw[e];rfl))⟩⟩
  ·rw[O5]at a
   rw[r]at a h⊢
   have m:(zeroValue e).run P w=.ok z w:=by simp[zeroValue,typeInfo,h1,h2]
   simp only[NF]at a
   simp[Builtin.clear_,Sy q.ok,m,h,a]
  ·simp only[PQ,OT,O9,OW,MP,O5]
   rw[f];omega
  ·rw[O1,f,Qv,List.map_const']
   have D:((((cur.toList.take off++List.replicate xs.length (Te 0)++cur.toList.drop (off+xs.length)).toArray.toList).drop off).take xs.length)=List.replicate xs.length (Te 0):=by
    have C:(cur.toList.take off).length=off:=by rw[O9,MP];omega
    simp only[NF];rw[NS,C,QF,NZ,NW SM,PA,List.take_append];simp
   rw[D];exact oU _ _ _
theorem eT{x:Operand}{v:Value}{xs:List Int}{B:Nat}(k:gd L σ ⟨none,.call ⟨.builtin .clear,#[x],#[t]⟩,ty,pos,af,g⟩=some true)
  (f:ev σ x=some v) [p:IsS P t e] [o:IsT P e Int] [m:IsZ P e (0:Int) bytes] (b:Own w B e di v xs)
  (h:∀w',Own w' B e di v (xs.map fun _=>(0:Int))->w.grownBy w' v.ownBlock->WL P L Q rest n σ w'):
  WL P L Q (⟨none,.call ⟨.builtin .clear,#[x],#[t]⟩,ty,pos,af,g⟩::rest) n σ w:=by
 obtain⟨w',i,j,c⟩:=F4 (P:=P) (t:=t) (ty:=ty) w b;refine fZ (v:=.tuple #[]) k (fun a l=>?_) (h w' j c);simp[execOp,resolve,invoke,builtin,l.ev f,i]
end
def ji{a:Int}{k:Nat}(c:0<=a)(h1:a<4611686018427387904):bits BinOp.and IntKind.i64 (a / 2 ^ k) 1=jg a k:=by
 have h:(1:Int)<=2 ^ k:=Ef k;have b:0<=a / 2 ^ k:=Int.ediv_nonneg c SM;have f:a / 2 ^ k<=a:=Int.ediv_le_self _ c;obtain⟨q,hq⟩:=Nn b;have:=Go.Proofs.and_one q SM;unfold jg;rw[hq,this];omega
def Jx{s:cT}{o:List Int}{f:Nat}(hf:f<o.length)(h:¬(s.2.1=(f:Int)\/s.2.1<0/\o[f]>0)):o.set f (Ju o s (f:Int))=o:=by
 unfold Ju;rw[Nt,tn hf,Si h,PP]
def JW(b:Nat)(o:List Int):Prop:=∀k (h:k<o.length),-(b:Int)<=o[k]/\o[k]<=9
def JY{b:Nat}{o:List Int}{k:Nat}{v:Int}(h:JW b o)(f:b<=B)(c: -(B:Int)<=v)(h1:v<=9):JW B (o.set k v):=fun j a=>by
 rw[O7]at a
 rw[OJ];split
 ·exact⟨c,h1⟩
 ·have:=h j a;omega
def rr(w0:World){so fo mo:Option Addr}{sc fc mc:Nat}{ns:List cP}{fl:List cO}(hs:Sl w0 (dl w0) so sc ns)(hf:Sl w0 (dl w0) fo fc fl)(hm:Sl w0 (dl w0) mo mc m)(hc0:kX (ns,fl)=0)(hml:m.length=fl.length)(hmt:JW 0 m){s:cT}{n:Nat}(hn:n<ns.length)(W:s∈IC (ns,fl) n):
  Rt UA 212 [Er so sc fo fc ns.length fl.length,.slice mo m.length mc,Ij s].toArray w0 fun v w'=>∃x,v=.tuple ⟨[x,Te (if(rn (ns,fl) m s).isSome then 0 else 7)]⟩/\Own w' w0.heap.size 3 di x ((rn (ns,fl) m s).getD [])/\Ext w0 w':=by
 have hok:=kY hc0;have hf30:=hok.f;dsimp only at hf30
 have q1:=Ix _ W;have q2:=Iv _ W;have q3:=Iy _ W;have X:Aw (ns,fl) (n:Int)=0:=Ax hc0 hn;have hol:(Dj fl (n:Int)).length<=fl.length:=Dm;have hil:(yA fl (n:Int)).length<=fl.length:=yD;clear W;obtain⟨s1,O,s3⟩:=s;dsimp only at q1 q2 q3
 subst q1;have hp30:=Ed (show(Dj fl (n:Int)).length<=30 by omega);have hp31:(2:Int) ^ 30=1073741824:=by decide
 have hs30:s3<4611686018427387904:=by omega
 unfold Ij rn;dsimp only;rw[Nt,zS hn];refine dW Tryz.func212 Tryz.ntmps212 rfl rfl ?_;have E:=Ext.refl w0;refine T9 ?_;refine eJ fun w1 z e1=>?_
 have E:=E.trans e1;refine eJ fun U A e2=>?_
 have z:=z.ext e2;have E:=E.trans e2;refine T2 ?_;have hd3:=z;have hd5:=A;refine eN (lP U (hm.up E) SM) ?_;rintro ov w3 ⟨c,e3⟩
 have z:=z.ext e3;have A:=A.ext e3;have z2:=E.size;have E:=E.trans e3;obtain⟨nb,off,rfl,hnb,hnc⟩:=(hs.at E).nodeK hn;refine TJ ?_;refine fp (α:=cP) rfl rfl rfl rfl SM SM (Ug ?_);refine WL.load (α:=Int) (F:=di) (y:=ns[n].2) rfl rfl rfl (by rw[Nt];exact hnc) rfl ?_;rw[show Lb Int [Te ns[n].2]=Te ns[n].2 from rfl];refine Tl ?_;apply CW.cond rfl<;>intro h
 ·have h:ns[n].2=3:=by simpa using h
  rw[Sj h];refine TP ?_;refine eT rfl rfl c (fun w4 ho4 hg4=>?_);have T:Ext U w4:=e3.grown hg4 e3.size (fun b hb=>(c.lt b hb).1);refine Tw ?_;exact bl rfl rfl rfl ⟨_,rfl,ho4.low z2,Ext.trans (Ext.trans e1 e2) T⟩
 have h:¬ns[n].2=3:=by simpa using h
 rw[Si h];have e12:=Ext.trans e1 e2;clear hnc hnb e1;refine T3 ?_;have hc3:=z;have hc5:=A;have hgo:∀g,ov.ownBlock=some g->g<w3.heap.size:=fun g hg=>(c.lt g hg).2.1
 refine eN (cK w3 (hs.up E) (hf.up E) (n:Int)) ?_;rintro _ w4 ⟨x,rfl,p,T⟩
 rw[X,Sj rfl]at p
 have z:=z.ext T;have A:=A.ext T;have z34:=T.size;have c:=c.extN T;have T:=e3.trans T;obtain⟨xo,xc,rfl,_⟩:=p.oldN.sl;have hins:=fun x (hx:x∈yA fl (n:Int))=>insP_mem.1 hx
 rw[X];generalize hinsL:yA fl (n:Int)=ins at*
 obtain⟨s,H⟩:∃s:cT,s=((n:Int),O,s3):=⟨_,rfl⟩;have hs21:s.2.1=O:=by rw[H]
 rw[<-H];have hTk:Jm s m (ins.drop 0)=Jm s m ins:=by rw[NZ]
 refine TR ?_;refine CW.loop (S:=Nat×List Int) (fun t=>[(3,Tg w0.heap.size),(5,Tg w1.heap.size),(8,ov),(36,.slice xo ins.length xc),(37,Te ins.length),(38,Te t.1)])
  (fun t w=>t.1<=ins.length/\t.2.length=m.length/\JW t.1 t.2/\Jm s t.2 (ins.drop t.1)=Jm s m ins/\Own w U.heap.size 3 di ov t.2/\Own w w3.heap.size 3 di (.slice xo ins.length xc) ins/\Ext U w/\w3.heap.size<=w.heap.size) (fun t=>ins.length -t.1)
  (0,m) SL ⟨QK _,rfl,hmt,hTk,c,p,T,z34⟩ ?_
 rintro⟨i,o⟩ w5 ⟨hi,r,l,hT,c,p,N,z5⟩
 dsimp only at hi r l hT c N⊢
 have hE5:=Ext.trans e12 N;have z:=hd3.ext N;have A:=hd5.ext N;obtain⟨_,_,exo,hxs⟩:=p.oldN.sl;obtain⟨rfl,_,rfl⟩:=RS exo;refine T2 ?_;apply CW.cond rfl<;>intro h
 ·have C:i<ins.length:=by simp at h;omega
  obtain⟨f,ef,hlt,_⟩:=hins _ (OG C);have a:f<o.length:=by omega
  have hbd:=l f a;rw[NV C,Jm,ef,Nt]at hT
  have hno:¬(O=(f:Int)\/O<0/\o[f]>0)->Jm s o (ins.drop (i+1))=Jm s m ins:=fun h=>by
   rw[<-hT,Jx a (by rw[hs21];exact h)]
  have Y:(O=(f:Int)\/O<0/\o[f]>0)->Jm s (o.set f (o[f] -1)) (ins.drop (i+1))=Jm s m ins:=fun h=>by
   rw[<-hT];unfold Ju;rw[Nt,tn a,hs21,Sj h]
  have Z:JW (i+1) o:=fun j hj=>by have:=l j hj;omega
  refine T7 ?_;refine ff hxs C ef SX (fun q=>?_);refine TJ ?_;by_cases h1:O=(f:Int)
  ·rw[show(O==(f:Int))=true by simpa using h1]
   refine TA ?_;refine fj rfl rfl rfl rfl rfl c a SX (fun u q V=>?_);obtain rfl:=V.int;refine Ul ?_;refine f6 (u:=Te (o[f] -1)) (yv:=o[f] -1) rfl rfl rfl rfl c a SX SX S_ (fun w6 q ho6 D=>?_);have M:Ext U w6:=N.grown D N.size (fun b hb=>(c.lt b hb).1);have I:=p.keptN D (fun g hg e=>by have:=(p.lt g hg).1;have:=hgo g e.symm;omega);refine Tn ?_;exact EX.back (i+1,o.set f (o[f] -1)) SL ⟨C,by simpa using r,JY l SM SM SM,Y (.inl h1),ho6,I,M,Qk z5 D.size⟩ SR
  ·rw[show(O==(f:Int))=false by simpa using h1]
   by_cases h2:O<0
   ·refine Uh ?_
    rw[R9 h2];refine Ue ?_;refine fj rfl rfl rfl rfl rfl c a SX (fun u q V=>?_);obtain rfl:=V.int;refine Tl ?_;apply CW.cond rfl<;>intro h3
    ·have h3:o[f]>0:=by simpa using h3
     refine TP ?_;refine fj rfl rfl rfl rfl rfl c a SX (fun u q V=>?_);obtain rfl:=V.int;refine Ul ?_;refine f6 (u:=Te (o[f] -1)) (yv:=o[f] -1) rfl rfl rfl rfl c a SX SX S_ (fun w6 q ho6 D=>?_);have M:Ext U w6:=N.grown D N.size (fun b hb=>(c.lt b hb).1);have I:=p.keptN D (fun g hg e=>by have:=(p.lt g hg).1;have:=hgo g e.symm;omega);refine Tn ?_;exact EX.back (i+1,o.set f (o[f] -1)) SL ⟨C,by simpa using r,JY l SM SM SM,Y (.inr ⟨h2,h3⟩),ho6,I,M,Qk z5 D.size⟩ SR
    ·have h3:¬o[f]>0:=by simpa using h3
     refine Tj ?_;exact EX.back (i+1,o) SL ⟨C,r,Z,hno (fun h=>h.elim h1 (fun h=>h3 h.2)),c,p,N,z5⟩ SR
   ·refine Uh ?_
    rw[R7 h2];refine Tz ?_;exact EX.back (i+1,o) SL ⟨C,r,Z,hno (fun h=>h.elim h1 (fun h=>h2 h.1)),c,p,N,z5⟩ SR
 obtain rfl:i=ins.length:=by simp at h;omega
 rw[NX,Jm]at hT
 rw[<-hT];clear hT exo hxs p;refine Ub ?_;refine eN (dm w5 (hs.up hE5) (hf.up hE5) (n:Int)) ?_;rintro _ w6 ⟨x,rfl,B,M⟩
 rw[X,Sj rfl]at B
 rw[X];have c:=c.extN M;have M:=N.trans M;obtain⟨yo,yc,rfl,_⟩:=B.oldN.sl;have houts:=fun x (hx:x∈Dj fl (n:Int))=>outsP_mem.1 hx
 generalize Dj fl (n:Int)=outs at*
 have z:=hd3.ext M;have A:=hd5.ext M;generalize hR:EC s3 0 o outs=R;have hRk:EC s3 0 o (outs.drop 0)=R:=by rw[NZ];exact hR
 have G:JW 30 o:=fun j hj=>by have:=l j hj;omega
 refine TR ?_;refine CW.loop (S:=Nat×List Int) (fun t=>[(5,Tg w1.heap.size),(8,ov),(72,.slice yo outs.length yc),(73,Te outs.length),(74,Te t.1)])
  (fun t w=>t.1<=outs.length/\t.2.length=m.length/\JW 30 t.2/\EC s3 t.1 t.2 (outs.drop t.1)=R/\Own w U.heap.size 3 di ov t.2/\Own w w5.heap.size 3 di (.slice yo outs.length yc) outs/\Ext U w) (fun t=>outs.length -t.1)
  (0,o) SL ⟨QK _,r,G,hRk,c,B,M⟩ ?_
 clear hR hRk G c B M l r A z hE5;rintro⟨k,o2⟩ w7 ⟨hk,J,l,hR,c,B,e7⟩
 dsimp only at hk J l hR c e7⊢
 have hE7:=Ext.trans e12 e7;have A:=hd5.ext e7;obtain⟨_,_,eyo,hys⟩:=B.oldN.sl;obtain⟨rfl,_,rfl⟩:=RS eyo;refine T2 ?_;apply CW.cond rfl<;>intro h
 ·have K:k<outs.length:=by simp at h;omega
  obtain⟨f,ef,hlt,_⟩:=houts _ (OG K);have a:f<o2.length:=by omega
  have hbd:=l f a;have hbit:=ji (k:=k) q3.1 hs30;rw[NV K,EC,ef,Nt,tn a]at hR
  refine TL ?_;refine ff hys K ef SX (fun q=>?_);refine TJ ?_;refine f8 (s:=k) rfl rfl rfl rfl SM (Tl ?_);rw[hbit];apply CW.cond rfl<;>intro h1
  ·have h1:jg s3 k=1:=by simpa using h1
   rw[Sj h1]at hR
   refine TP ?_;refine fj rfl rfl rfl rfl rfl c a SX (fun u q V=>?_);obtain rfl:=V.int;refine Uj ?_;refine f6 (u:=Te (o2[f]+1)) (yv:=o2[f]+1) rfl rfl rfl rfl c a SX SX S_ (fun w8 q ho8 hg8=>?_);have e8:Ext U w8:=e7.grown hg8 e7.size (fun b hb=>(c.lt b hb).1);have hoy8:=B.keptN hg8 (fun g hg e=>by have:=(B.lt g hg).1;have:=hgo g e.symm;omega);have hE8:=Ext.trans e12 e8;have hfo8:f<(o2.set f (o2[f]+1)).length:=by simpa using a
   refine T2 ?_;refine fj rfl rfl rfl rfl rfl ho8 hfo8 SX (fun u q V=>?_);obtain rfl:=V.int;rw[OK];refine Tl ?_;apply CW.cond rfl<;>intro h2
   ·have h2:o2[f]+1>9:=by simpa using h2
    rw[Sj h2]at hR
    subst hR;refine Th ?_;exact bl rfl rfl rfl ⟨_,rfl,Own.nil,hE8⟩
   ·have h2:¬o2[f]+1>9:=by simpa using h2
    rw[Si h2]at hR
    refine Tj ?_;exact EX.back (k+1,o2.set f (o2[f]+1)) SL ⟨K,by simpa using J,JY l SM SM SM,hR,ho8,hoy8,e8⟩ SR
  ·have h1:¬jg s3 k=1:=by simpa using h1
   rw[Si h1]at hR
   refine Tj ?_;exact EX.back (k+1,o2) SL ⟨K,J,l,hR,c,B,e7⟩ SR
 ·obtain rfl:k=outs.length:=by simp at h;omega
  rw[NX,EC]at hR
  subst hR;refine TO ?_;exact bl rfl rfl rfl ⟨_,rfl,c.low z2,hE7⟩
def JX(h:m.any JV=false):JW 0 m:=fun k a=>by
 have:=ND.1 h _ (OG a);unfold JV at this
 simp at this
 omega
def bT(w0:World){so fo mo:Option Addr}{sc fc mc:Nat}{ns:List cP}{fl:List cO}(l:Sl w0 (dl w0) so sc ns)(hf:Sl w0 (dl w0) fo fc fl)(p:Sl w0 (dl w0) mo mc m)(k:Int):
  Rt UA 133 [Er so sc fo fc ns.length fl.length,.slice mo m.length mc,Te k].toArray w0 fun v w'=>∃x,v=.tuple ⟨[x,Te (rk (ns,fl) m k).2]⟩/\Own w' w0.heap.size 3 di x (rk (ns,fl) m k).1/\Ext w0 w':=by
 refine dW Tryz.func133 Tryz.ntmps133 rfl rfl ?_;have a:=Ext.refl w0;refine T9 ?_;refine eJ fun Q f S=>?_
 have a:=a.trans S;refine TN ?_;refine eN (ka Q (l.up a) (hf.up a) (p.up a)) ?_;rintro _ T ⟨x,rfl,c,O⟩
 have f:=f.ext O;have a:=a.trans O;unfold rk;by_cases r:kQ (ns,fl) m=0
 case neg=>
  have F:(kQ (ns,fl) m != 0)=true:=by simpa using r
  rw[Sj r];refine TI ?_;rw[F];refine T8 ?_;exact bl rfl rfl rfl ⟨_,rfl,Own.nil,a⟩
 obtain⟨C,o,t,N⟩:=kR r;have H:=JX t;rw[Sj r]at c
 rw[Si (by simp[r]),r];dsimp only at o
 obtain⟨xo,xc,rfl,d⟩:=c.oldN.sl;clear c;refine TE ?_;by_cases z:k<0\/k>=(Iz (ns,fl)).length
 ·rw[Sj z]
  by_cases K:k<0
  ·rw[R9 K]
   refine T8 ?_;exact bl rfl rfl rfl ⟨_,rfl,Own.nil,a⟩
  ·rw[R7 K]
   refine TB ?_;rw[R9 (show k>=((Iz (ns,fl)).length:Int) from z.resolve_left K)];refine T8 ?_;exact bl rfl rfl rfl ⟨_,rfl,Own.nil,a⟩
 rw[Si z];have J:¬k<0:=fun h=>z (.inl h)
 have I:¬k>=((Iz (ns,fl)).length:Int):=fun h=>z (.inr h)
 rw[R7 J];refine TB ?_;rw[R7 I];obtain⟨i,rfl⟩:=Nn (show 0<=k by omega);have e:i<(Iz (ns,fl)).length:=by omega
 obtain⟨n,hn,y⟩:=stepsP_mem.1 (OG e);rw[Nt,IA e];have B:=fun w l hf p=>o8 w (so:=so) (fo:=fo) (mo:=mo) (sc:=sc) (fc:=fc) (mc:=mc) l hf p C o hn y
 have A:=fun w l hf p=>rr w (so:=so) (fo:=fo) (mo:=mo) (sc:=sc) (fc:=fc) (mc:=mc) l hf p C o H hn y
 obtain⟨s,b⟩:∃s,s=(Iz (ns,fl))[i]:=⟨_,rfl⟩;rw[<-b]at B A⊢
 refine Ud ?_;refine dB rfl rfl rfl rfl rfl S3 d e SX (fun u q E=>?_);rw[E.step,<-b];refine QL.call rfl rfl rfl (fun w G=>B w (l.up (a.trans G)) (hf.up (a.trans G)) (p.up (a.trans G))) ?_;refine Uf ?_;refine QL.nil (fun j M=>?_);have f:=f.ext M;have a:=a.trans M;have d:=d.up M;clear E;refine TV ?_;apply CW.cond rfl<;>intro h
 ·have h:o7 (ns,fl) m s=false:=by simpa using h
  rw[Sj h];refine Th ?_;exact bl rfl rfl rfl ⟨_,rfl,Own.nil,a⟩
 have h:¬o7 (ns,fl) m s=false:=by simpa using h
 rw[Si h];have hd:=Ext.drew j;have L:∀x,(fun x=>Ext j x) x->Ext j x:=fun _ h=>h
 have g:=a.trans hd;refine T3 ?_;refine aG (fun x=>Ext j x) [(0,true),(1,true),(2,true),(3,true),(4,true),(5,true),(6,false),(7,true),(8,true),(9,true),(10,true)] mixed SN (Ext.drew j) ?_;refine Up ?_;refine cj (α:=cT) (k:=i) L rfl rfl rfl rfl rfl rfl rfl S3 d e SX (fun u q E=>?_);rw[E.step,<-b];skip;refine cD rfl (eN (A (drew j) (l.up g) (hf.up g) (p.up g)) ?_);rintro _ P ⟨x,rfl,c,R⟩
 have D:Ext j P:=hd.trans R;refine WL.nil (bf D ?_);refine Uu ?_;refine TV ?_;exact bl rfl rfl rfl ⟨_,rfl,c.low g.size,a.trans D⟩

section
variable {w w':World}{B:Nat}{mv lv:Value}{vs:List Raw}{xs:List (List Int)}{ks:List Int}
end
def jP{p:cR}:(jO p m).length<=60:=by
 unfold jO;split
 ·rename_i h
  obtain⟨_,_,_,a⟩:=kR h;unfold jR jS;rw[O1];have:=O0 (fun i=>o7 p m ((Iz p).getD i (0,0,0))) (List.range (Iz p).length);rw[O4]at this
  omega
 ·simp
def tq{l:List Int}{i j:Nat}{v:Int}(h:i<l.length):(l.set i v).getD j 0=if i=j then v else l.getD j 0:=by
 simp only[Oi,Ow];split
 ·subst_vars;simp[h]
 ·rfl
def yg(N:Nat)(l:List Int):Prop:=∀x∈l,0<=x/\x<N
def yh{fl:List cO}{n:Int}:yg fl.length (yA fl n):=fun x a=>by
 obtain⟨j,rfl,h,_⟩:=insP_mem.1 a;omega
def yi{fl:List cO}{n:Int}:yg fl.length (Dj fl n):=fun x a=>by
 obtain⟨j,rfl,h,_⟩:=outsP_mem.1 a;omega
def Dk{fl:List cO}{n:Int}:(Dj fl n).Nodup:=by
 unfold Dj Dl;rw[List.Nodup,PJ];exact(PD.filter _).imp fun a e=>a SM
section
variable {s:cT}
theorem Jo:∀(l:List Int) (m:List Int),(Jm s m l).length=m.length
 |[],m=>rfl
 |f::r,m=>by rw[Jm,Jo r,O7]
theorem Jv{m a:List Int}{f:Int}(h:m.getD f.toNat 0=a.getD f.toNat 0):Ju m s f=Ju a s f:=by unfold Ju;rw[h]
theorem Jn:∀(l:List Int) (m:List Int),yg m.length l->l.Nodup->∀j:Nat,(Jm s m l).getD j 0=if(j:Int)∈l then Ju m s (j:Int)else m.getD j 0
 |[],m,_,_,j=>by simp[Jm]
 |f::r,m,b,hd,j=>by
  rw[PC]at hd
  have hf:=b f SQ;have c:=Jn r (m.set f.toNat (Ju m s f)) (fun x d=>by rw[O7];exact b x (by simp[d])) hd.2 j;rw[Jm,c,tq SM];by_cases e:f.toNat=j
  ·have ej:(j:Int)=f:=by omega
   rw[Sj e,ej,Si hd.1,Sj SQ]
  ·have ej:¬(j:Int)=f:=by omega
   rw[Si e];by_cases a:(j:Int)∈r
   ·rw[Sj a,Sj (by simp[a])]
    exact Jv (by rw[Nt,tq SM,Si e])
   ·rw[Si a,Si (by simp[a,ej])]
end
def EE{n:Int}:∀(l:List Int) (k:Nat) (m a:List Int),EC n k m l=some a->a.length=m.length
 |[],k,m,a,h=>by rw[EC]at h;injection h with h;rw[h]
 |f::r,k,m,a,h=>by
  rw[EC]at h
  split at h
  ·split at h
   ·cases h
   ·rw[EE r _ _ _ h,O7]
  ·exact EE r _ _ _ h
def jd(n:Int):Nat->List Int->Int->Int
 |_,[],_=>0
 |k,f::r,j=>if f=j then jg n k else jd n (k+1) r j
def jf{n:Int}:∀(l:List Int) (k:Nat) (j:Int),j∉l->jd n k l j=0
 |[],k,j,_=>rfl
 |f::r,k,j,h=>by
  rw[jd,Si (fun e=>h (by simp[e])),jf r _ j (fun a=>h (by simp[a]))]
def jh(n:Int)(k:Nat):jg n k=0\/jg n k=1:=by unfold jg;omega
def ED{n:Int}:∀(l:List Int) (k:Nat) (m:List Int),yg m.length l->l.Nodup->
  ((∀x∈l,m.getD x.toNat 0+jd n k l x<=9\/jd n k l x=0)->∃d,EC n k m l=some d/\∀j:Nat,d.getD j 0=m.getD j 0+jd n k l (j:Int))/\
  (∀d,EC n k m l=some d->∀x∈l,m.getD x.toNat 0+jd n k l x<=9\/jd n k l x=0)
 |[],k,m,_,_=>⟨fun _=>⟨m,rfl,fun j=>by simp[jd]⟩,fun _ _ x a=>by cases a⟩
 |f::r,k,m,u,hd=>by
  rw[PC]at hd
  have hf:=u f SQ;have o:yg m.length r:=fun x a=>u x (by simp[a])
  have i:jd n k (f::r) f=jg n k:=by rw[jd,Sj rfl]
  have c:∀x,x≠f->jd n k (f::r) x=jd n (k+1) r x:=fun x h=>by rw[jd,Si (fun e=>h e.symm)]
  have b:∀x∈r,x≠f:=fun x a e=>hd.1 (e▸a)
  rcases jh n k with p|p
  ·have q:=ED (n:=n) r (k+1) m o hd.2
   have t:EC n k m (f::r)=EC n (k+1) m r:=by rw[EC,Si SM]
   rw[t];refine⟨fun h=>?_,fun d h x a=>?_⟩
   ·obtain⟨d,h1,h2⟩:=q.1 (fun x a=>by have:=h x (by simp[a]);rwa[c x (b x a)]at this)
    refine⟨d,h1,fun j=>?_⟩;rw[h2 j];by_cases e:(j:Int)=f
    ·rw[e,i,p,jf r _ f hd.1]
    ·rw[c _ e]
   ·rcases Pk.1 a with rfl|a
    ·right;rw[i,p]
    ·rw[c x (b x a)];exact q.2 d h x a
  ·have g:∀x:Int,0<=x->x≠f->(m.set f.toNat (m.getD f.toNat 0+1)).getD x.toNat 0=m.getD x.toNat 0:=fun x w h=>by
    rw[tq SM,Si SM]
   have q:=ED (n:=n) r (k+1) (m.set f.toNat (m.getD f.toNat 0+1)) (fun x a=>by rw[O7];exact o x a) hd.2;have t:EC n k m (f::r)=if m.getD f.toNat 0+1>9 then none else EC n (k+1) (m.set f.toNat (m.getD f.toNat 0+1)) r:=by rw[EC,Sj p]
   rw[t];refine⟨fun h=>?_,fun d h x a=>?_⟩
   ·have v:¬m.getD f.toNat 0+1>9:=by
     have:=h f SQ;rw[i,p]at this
     omega
    rw[Si v];obtain⟨d,h1,h2⟩:=q.1 (fun x a=>by
     have:=h x (by simp[a]);rw[c x (b x a)]at this
     rwa[g x (o x a).1 (b x a)])
    refine⟨d,h1,fun j=>?_⟩;rw[h2 j];by_cases e:(j:Int)=f
    ·rw[tq SM,Sj SM,e,i,p,jf r _ f hd.1]
     have:f.toNat=j:=by omega
     rw[this];omega
    ·have:=g (j:Int) SM e
     rw[Nt]at this
     rw[c _ e,this]
   ·split at h
    ·cases h
    ·rename_i v
     rcases Pk.1 a with rfl|a
     ·left;rw[i,p];omega
     ·rw[c x (b x a)]
      have:=q.2 d h x a;rwa[g x (o x a).1 (b x a)]at this
def de(p:cR)(m:List Int):Prop:=m.length=p.2.length/\∀j:Nat,0<=m.getD j 0/\m.getD j 0<=9
def Ba{p:cR}(b:(Is p).2=0)(h:de p m):kQ p m=0:=by
 unfold kQ;rw[Si (by simp[b]),Si];rintro(e|e)
 ·exact e h.1
 ·obtain⟨x,c,a⟩:=NE.1 e
  obtain⟨j,d,rfl⟩:=Pq.1 c;have:=h.2 j;rw[tn d]at this
  unfold JV at a
  simp at a
  omega
def lu{p:cR}(h:kQ p m=0):de p m:=by
 obtain⟨_,h1,h2,_⟩:=kR h;have h3:=JX h2;refine⟨h1,fun j=>?_⟩;by_cases a:j<m.length
 ·rw[tn a];have:=h3 j a;omega
 ·rw[Oi,Oo SM]
  exact⟨No _,by decide⟩
def i6{p:cR}:de p (iZ p):=by
 refine⟨by simp[iZ],fun j=>?_⟩;by_cases a:j<(iZ p).length
 ·rw[tn a]
  have e:(iZ p)[j]=if zR p (p.2[j]'(by simpa[iZ]using a)).1.toNat=1 then 1 else 0:=by simp[iZ]
  rw[e];split<;>omega
 ·rw[Oi,Oo SM]
  exact⟨No _,by decide⟩
def eh(p:cR)(m:List Int)(k:Int)(a:List Int):Prop:=
 0<=k/\k<(Iz p).length/\o7 p m ((Iz p).getD k.toNat (0,0,0))=true/\rn p m ((Iz p).getD k.toNat (0,0,0))=some a
def rm{p:cR}{k:Int}(h:(rk p m k).2=0):kQ p m=0/\eh p m k (rk p m k).1:=by
 unfold rk at h⊢
 split at h
 ·rename_i h1;exact absurd h h1
 ·rename_i h1
  split at h
  ·cases h
  ·rename_i h2
   split at h
   ·cases h
   ·rename_i h3
    rw[Si h1,Si h2,Si h3];refine⟨by simpa using h1,by omega,by omega,by simpa using h3,?_⟩;dsimp only at h⊢
    cases e:rn p m ((Iz p).getD k.toNat (0,0,0))with
    |none=>rw[e]at h;cases h
    |some r=>rfl
def Jw{s:cT}{f:Int}(c:0<=m.getD f.toNat 0)(b:m.getD f.toNat 0<=9)(a:s.2.1=f->m.getD f.toNat 0>0):0<=Ju m s f/\Ju m s f<=9:=by
 unfold Ju;split
 ·rename_i h
  rcases h with h|h
  ·have:=a h;omega
  ·omega
 ·exact⟨c,b⟩
def je{n:Int}:∀(l:List Int) (k:Nat) (j:Int),0<=jd n k l j/\jd n k l j<=1
 |[],k,j=>⟨No _,(by decide:(0:Int)<=1)⟩
 |f::r,k,j=>by
  rw[jd];split
  ·have:=jh n k;omega
  ·exact je r _ j
def rq{p:cR}{g:List Int}{s:cT}(c:de p m)(b:o7 p m s=true)(h:rn p m s=some g):de p g:=by
 unfold rn at h
 split at h
 ·injection h with h
  subst h;refine⟨by simpa using c.1,fun j=>?_⟩;by_cases d:j<m.length
  ·rw[tn (by simpa using d),OF];omega
  ·rw[Oi,Oo (by simpa using d)]
   exact⟨No _,by decide⟩
 ·have k:yg m.length (yA p.2 s.1):=by rw[c.1];exact yh
  have q:=Jn (s:=s) (yA p.2 s.1) m k yB;have f:(Jm s m (yA p.2 s.1)).length=m.length:=Jo _ _;have i:yg (Jm s m (yA p.2 s.1)).length (Dj p.2 s.1):=by rw[f,c.1];exact yi
  have hP:=ED (n:=s.2.2) (Dj p.2 s.1) 0 _ i Dk;have l:=hP.2 g h;obtain⟨t,h1,h2⟩:=hP.1 l;rw[h]at h1
  injection h1 with h1
  subst h1;have r:∀j:Nat,0<=(Jm s m (yA p.2 s.1)).getD j 0/\(Jm s m (yA p.2 s.1)).getD j 0<=9:=fun j=>by
   rw[q j];have a:=c.2 j;split
   ·refine Jw (by rw[Nt];exact a.1) (by rw[Nt];exact a.2) (fun e=>?_)
    unfold o7 at b
    rw[Sj SM,e]at b
    simpa using b
   ·exact a
  refine⟨by rw[EE _ _ _ _ h,f];exact c.1,fun j=>?_⟩;rw[h2 j];have h3:=r j;have h4:=je (n:=s.2.2) (Dj p.2 s.1) 0 (j:Int);by_cases d:(j:Int)∈Dj p.2 s.1
  ·have o:=l _ d
   rw[Nt]at o
   omega
  ·have o:=jf (n:=s.2.2) (Dj p.2 s.1) 0 (j:Int) d
   omega
def IL:rk straightP [1,0] 0=([0,1],0):=by
 have a:(Is straightP).2=0:=by rw[IP]
 have c:Iz straightP=[(1,0,1),(2,1,0)]:=by decide
 have b:kQ straightP [1,0]=0:=Ba a ⟨rfl,fun j=>by
  rcases j with _|_|j
  ·decide
  ·decide
  ·exact⟨No _,(by decide:(0:Int)<=9)⟩⟩
 unfold rk;rw[Si (by simp[b]),c,Si SP,Si SP];decide
def sP{l:List (List Int)}{j:Nat}(h:j<l.length):l.getD j []=l[j]:=by rw[Oi,On h];rfl

abbrev cN:=Int×Int
abbrev Sr:=List (List Int)×List (Int×Int)×(Int×Int)
def J4(tok:Int)(m:List Int):Bool:=m.any fun n=>decide (n>tok)
def D7(m:List Int):List (List Int)->Nat
 |[]=>0
 |x::r=>if x=m then 0 else D7 m r+1
def EF(tok st:Int)(s:Sr)(m:List Int)(fr:Int×Int):Sr×Int×Int:=
 if J4 tok m=true then((s.1,s.2.1,fr),0,7)
 else if m∈s.1 then((s.1,s.2.1,fr),(D7 m s.1:Int),0)
 else if(s.1.length:Int)=st then((s.1,s.2.1,fr),0,8)
 else((s.1++[m],s.2.1++[fr],fr),(s.1.length:Int),0)
noncomputable def oE(p:cR)(tok st n:Int)(m:List Int):List Int->Sr->List cN->Sr×List cN×Int
 |[],s,out=>(s,out,0)
 |k::r,s,out=>
  if(rk p m k).2≠0 then((s.1,s.2.1,(n,k)),[],(rk p m k).2)
  else if(EF tok st s (rk p m k).1 (n,k)).2.2≠0 then((EF tok st s (rk p m k).1 (n,k)).1,[],(EF tok st s (rk p m k).1 (n,k)).2.2)
  else oE p tok st n m r (EF tok st s (rk p m k).1 (n,k)).1 (out++[(k,(EF tok st s (rk p m k).1 (n,k)).2.1)])
noncomputable def oC(p:cR)(tok st:Int)(n:Nat)(s:Sr):Sr×List cN×Int:=oE p tok st (n:Int) (s.1.getD n []) (jO p (s.1.getD n [])) s []
noncomputable def FW(p:cR)(tok st:Int):Nat->Nat->Sr->List (List cN)->Sr×List (List cN)×Int
 |0,n,s,nx=>(s,nx,0)
 |f+1,n,s,nx=>
  if n<s.1.length then
   (if(oC p tok st n s).2.2≠0 then((oC p tok st n s).1,nx,(oC p tok st n s).2.2)else FW p tok st f (n+1) (oC p tok st n s).1 (nx++[(oC p tok st n s).2.1]))
  else(s,nx,0)
def FO(tok st:Int):Int:=if tok<1\/tok>9\/st<1\/st>200 then 1 else 0
noncomputable def runB(p:cR)(tok st:Int):Sr×List (List cN)×Int:=
 if(EF tok st ([],[],(0,0)) (iZ p) (-1,-1)).2.2≠0 then((EF tok st ([],[],(0,0)) (iZ p) (-1,-1)).1,[],(EF tok st ([],[],(0,0)) (iZ p) (-1,-1)).2.2)
 else FW p tok st 201 0 (EF tok st ([],[],(0,0)) (iZ p) (-1,-1)).1 []
noncomputable def FZ(p:cR)(tok st:Int):Int:=if(Is p).2≠0 then(Is p).2 else FO tok st
noncomputable def pS(p:cR)(tok st:Int):(List (List Int)×List (List cN))×Int:=
 if FZ p tok st≠0 then(([],[]),FZ p tok st)
 else if(runB p tok st).2.2≠0 then(([],[]),(runB p tok st).2.2)else(((runB p tok st).1.1,(runB p tok st).2.1),0)
def zD(m:List Int):List Int:=(List.range 30).map fun i=>m.getD i 0
def zF(m:List Int):(zD m).length=30:=by simp[zD]
def zE{a b:List Int}(d:a.length<=30)(h:a.length=b.length)(c:zD a=zD b):a=b:=by
 refine N4 h fun i h1 h2=>?_
 have hi:i<30:=by omega
 have h3:(zD a)[i]'(by rw[zF];exact hi)=(zD b)[i]'(by rw[zF];exact hi):=by simp only[c]
 simp only[zD,OF,OH,Oi,On h1,On h2,Option.getD_some]at h3
 exact h3
def D8{m:List Int}:∀{l:List (List Int)} {j:Nat} (b:j<l.length),l.Nodup->l[j]=m->D7 m l=j
 |x::r,0,_,_,h=>by
  unfold D7;rw[Sj (by simpa using h)]
 |x::r,j+1,b,hd,h=>by
  rw[PC]at hd
  unfold D7;have a:m∈r:=by
   rw[<-h,OC];exact OG _
  rw[Si (fun e=>hd.1 (by rw[e];exact a)),D8 (j:=j) (by simpa using b) hd.2 (by simpa using h)]
def pT{p:cR}{a b:Int}(h:(pS p a b).2=0):(Is p).2=0/\1<=a/\1<=b/\b<=200/\(runB p a b).2.2=0/\pS p a b=(((runB p a b).1.1,(runB p a b).2.1),0):=by
 unfold pS at h⊢
 by_cases g1:FZ p a b=0
 case neg=>rw[Sj g1]at h;exact absurd h g1
 rw[Si (by simp[g1])]at h⊢
 by_cases g2:(runB p a b).2.2=0
 case neg=>rw[Sj g2]at h;exact absurd h g2
 rw[Si (by simp[g2])];unfold FZ at g1
 by_cases g3:(Is p).2=0
 case neg=>rw[Sj g3]at g1;exact absurd g1 g3
 rw[Si (by simp[g3])]at g1
 unfold FO at g1
 split at g1
 ·cases g1
 ·rename_i g4
  exact⟨g3,by omega,by omega,by omega,g2,rfl⟩
def straight_sp:(pS straightP 1 2).2=8/\pS straightP 9 200=(([[1,0],[0,1],[0,0]],[[(0,1)],[(1,2)],[]]),0)/\pS straightP 1 9=(([[1,0],[0,1],[0,0]],[[(0,1)],[(1,2)],[]]),0):=by
 have d:(Is straightP).2=0:=by rw[IP]
 have k:Iz straightP=[(1,0,1),(2,1,0)]:=by decide
 have ok:∀a b:Int,0<=a->a<=9->0<=b->b<=9->kQ straightP [a,b]=0:=fun a b n a9 m l=>Ba d ⟨rfl,fun j=>by
  rcases j with _|_|j
  ·exact⟨n,a9⟩
  ·exact⟨m,l⟩
  ·exact⟨No _,(by decide:(0:Int)<=9)⟩⟩
 have f:=ok 1 0 SP SP SP SP;have c:=ok 0 1 SP SP SP SP;have e:=ok 0 0 SP SP SP SP;have i:rk straightP [1,0] 0=([0,1],0):=IL;have h:rk straightP [0,1] 1=([0,0],0):=by
  unfold rk;rw[Si (by simp[c]),k,Si SP,Si SP];decide
 have c0:jO straightP [1,0]=[0]:=by unfold jO;rw[Sj f];decide
 have c1:jO straightP [0,1]=[1]:=by unfold jO;rw[Sj c];decide
 have c2:jO straightP [0,0]=[]:=by unfold jO;rw[Sj e];decide
 have g:iZ straightP=[1,0]:=by decide
 refine⟨?_,?_,?_⟩
 ·simp[pS,FZ,d,FO,runB,g,EF,J4,FW,oC,oE,c0,c1,c2,i,h,D7]
 ·simp[pS,FZ,d,FO,runB,g,EF,J4,FW,oC,oE,c0,c1,c2,i,h,D7]
 ·simp[pS,FZ,d,FO,runB,g,EF,J4,FW,oC,oE,c0,c1,c2,i,h,D7]
def D9{m:List Int}:∀{l:List (List Int)},m∈l->D7 m l<l.length/\l.getD (D7 m l) []=m
 |x::r,h=>by
  unfold D7;by_cases e:x=m
  ·rw[Sj e];exact⟨by simp,by simpa using e⟩
  ·rw[Si e]
   rcases Pk.1 h with h|h
   ·exact absurd h.symm e
   ·obtain⟨h1,h2⟩:=D9 h
    exact⟨by simp;omega,by simpa using h2⟩
def EdgeOk(p:cR)(m:List Int)(l:List (List Int))(e:cN):Prop:=(rk p m e.1).2=0/\0<=e.2/\e.2<l.length/\l.getD e.2.toNat []=(rk p m e.1).1
def EdgeOk.more{p:cR}{l t:List (List Int)}{e:cN}(h:EdgeOk p m l e):EdgeOk p m (l++t) e:=by
 obtain⟨h1,h2,h3,h4⟩:=h;refine⟨h1,h2,by rw[OT];omega,?_⟩;rw[<-h4,Oi,Oi,Oj SM]
structure SrOk(p:cR)(tok st:Int)(l:List (List Int)):Prop where
 nd:l.Nodup
 ok:∀m∈l,de p m
 le:∀m∈l,∀x∈m,x<=tok
 st:(l.length:Int)<=st
def EH{p:cR}{tok st:Int}{s:Sr}{fr:Int×Int}(h:SrOk p tok st s.1)(k:de p m)(d:(EF tok st s m fr).2.2=0):
  SrOk p tok st (EF tok st s m fr).1.1/\(∃t,(EF tok st s m fr).1.1=s.1++t/\∀i:Nat,s.1.length<=i->i<(s.1++t).length->(EF tok st s m fr).2.1=(i:Int))/\
   0<=(EF tok st s m fr).2.1/\(EF tok st s m fr).2.1<(EF tok st s m fr).1.1.length/\(EF tok st s m fr).1.1.getD (EF tok st s m fr).2.1.toNat []=m:=by
 unfold EF at d⊢
 by_cases g1:J4 tok m=true
 ·rw[Sj g1]at d;cases d
 rw[Si g1]at d⊢
 by_cases g3:m∈s.1
 ·rw[Sj g3]
  obtain⟨h1,h2⟩:=D9 g3;exact⟨h,⟨[],by simp,fun i h1 h2=>by simp at h2;omega⟩,by dsimp only;omega,by dsimp only;omega,by simpa using h2⟩
 rw[Si g3]at d⊢
 by_cases g4:(s.1.length:Int)=st
 ·rw[Sj g4]at d;cases d
 rw[Si g4];have j:=h.st;refine⟨⟨?_,?_,?_,?_⟩,⟨[m],rfl,fun i h1 h2=>by simp at h2;dsimp only;omega⟩,by dsimp only;omega,by simp;omega,by simp⟩
 ·rw[PB]
  refine⟨h.nd,PK _ _,?_⟩;intro a l b g e
  rw[Py]at g
  subst g;subst e;exact g3 l
 ·intro x c
  rcases Ph.1 c with c|c
  ·exact h.ok x c
  ·rw[Py]at c;subst c;exact k
 ·intro x c
  rcases Ph.1 c with c|c
  ·exact h.le x c
  ·rw[Py]at c;subst c
   intro n hn
   unfold J4 at g1
   rw[NE]at g1
   have:¬n>tok:=fun f=>g1 ⟨n,hn,by simpa using f⟩
   omega
 ·simp;omega
def rl{p:cR}{k:Int}(h:(rk p m k).2=0):de p (rk p m k).1:=by
 obtain⟨h1,_,_,h3,h4⟩:=rm h;exact rq (lu h1) h3 h4
def oG{p:cR}{tok st n:Int}{m:List Int}:∀(l:List Int) (s:Sr) (out:List cN),SrOk p tok st s.1->(∀e∈out,EdgeOk p m s.1 e)->(oE p tok st n m l s out).2.2=0->
  SrOk p tok st (oE p tok st n m l s out).1.1/\(oE p tok st n m l s out).2.1.map Prod.fst=out.map Prod.fst++l/\(∀e∈(oE p tok st n m l s out).2.1,EdgeOk p m (oE p tok st n m l s out).1.1 e)/\
   (∃u,(oE p tok st n m l s out).2.1=out++u)/\∃t,(oE p tok st n m l s out).1.1=s.1++t/\∀i:Nat,s.1.length<=i->i<(s.1++t).length->∃e∈(oE p tok st n m l s out).2.1,e.2=(i:Int)
 |[],s,out,o,z,a=>⟨o,by simp[oE],z,⟨[],by simp[oE]⟩,[],by simp[oE],fun i h1 h2=>by simp at h2;omega⟩
 |k::r,s,out,o,z,a=>by
  rw[oE]at a⊢
  by_cases g:(rk p m k).2=0
  case neg=>rw[Sj g]at a;exact absurd a g
  rw[Si (by simp[g])]at a⊢
  by_cases g1:(EF tok st s (rk p m k).1 (n,k)).2.2=0
  case neg=>rw[Sj g1]at a;exact absurd a g1
  rw[Si (by simp[g1])]at a⊢
  obtain⟨j,⟨t,c,f⟩,x,w,v⟩:=EH o (rl g) g1;generalize EF tok st s (rk p m k).1 (n,k)=q at*
  obtain⟨d,b,C⟩:=q;dsimp only at*
  have y:∀e∈out++[(k,b)],EdgeOk p m d.1 e:=by
   intro e h
   rcases Ph.1 h with h|h
   ·rw[c];exact(z e h).more
   ·rw[Py]at h;subst h
    exact⟨g,x,w,v⟩
  obtain⟨a1,a2,a3,⟨u,a4⟩,A,a5,B⟩:=oG r d (out++[(k,b)]) j y a;refine⟨a1,by rw[a2];simp,a3,⟨(k,b)::u,by rw[a4];simp⟩,t++A,by rw[a5,c];simp,fun i h1 h2=>?_⟩;by_cases hi:i<d.1.length
  ·refine⟨(k,b),by rw[a4];simp,?_⟩
   exact f i h1 (by rw[<-c];exact hi)
  ·exact B i SM (by rw[c];simpa using h2)
structure SpOk(p:cR)(l:List (List Int))(nx:List (List cN)):Prop where
 le:nx.length<=l.length
 can:∀j,j<nx.length->(nx.getD j []).map Prod.fst=jO p (l.getD j [])
 ed:∀j,j<nx.length->∀e∈nx.getD j [],EdgeOk p (l.getD j []) l e
 fr:∀i:Nat,1<=i->i<l.length->∃j,j<i/\j<nx.length/\∃e∈nx.getD j [],e.2=(i:Int)
def sR{l t:List α}{j:Nat}{d:α}(h:j<l.length):(l++t).getD j d=l.getD j d:=by rw[Oi,Oi,Oj h]
def sQ{l:List α}{x d:α}:(l++[x]).getD l.length d=x:=by rw[Oi,Ok Ta];simp
def FX{p:cR}{tok st:Int}:∀(f n:Nat) (s:Sr) (nx:List (List cN)),f+n=201->st<=200->nx.length=n->SrOk p tok st s.1->SpOk p s.1 nx->(FW p tok st f n s nx).2.2=0->
  SrOk p tok st (FW p tok st f n s nx).1.1/\SpOk p (FW p tok st f n s nx).1.1 (FW p tok st f n s nx).2.1/\(FW p tok st f n s nx).2.1.length=(FW p tok st f n s nx).1.1.length/\∃t,(FW p tok st f n s nx).1.1=s.1++t
 |0,n,s,nx,hf,c,hn,g,a,b=>by have:=a.le;have:=g.st;omega
 |f+1,n,s,nx,hf,c,hn,g,a,b=>by
  rw[FW]at b⊢
  by_cases d:n<s.1.length
  case neg=>
   rw[Si d]at b⊢
   exact⟨g,a,by have:=a.le;dsimp only;omega,[],by simp⟩
  rw[Sj d]at b⊢
  by_cases g1:(oC p tok st n s).2.2=0
  case neg=>rw[Sj g1]at b;exact absurd b g1
  rw[Si (by simp[g1])]at b⊢
  obtain⟨a1,a2,a3,_,t,a5,w⟩:=oG (p:=p) (tok:=tok) (st:=st) (n:=(n:Int)) (m:=s.1.getD n []) (jO p (s.1.getD n [])) s [] g (fun e h=>by cases h) g1
  change SrOk p tok st (oC p tok st n s).1.1 at a1
  change (oC p tok st n s).2.1.map Prod.fst=_ at a2
  change∀e∈(oC p tok st n s).2.1,EdgeOk p _ (oC p tok st n s).1.1 e at a3
  change (oC p tok st n s).1.1=_ at a5
  change∀i:Nat,_->_->∃e∈(oC p tok st n s).2.1,_ at w
  generalize oC p tok st n s=q at*
  obtain⟨u,v,er⟩:=q;dsimp only at*
  have o:SpOk p u.1 (nx++[v]):=by
   have B:=a.le;refine⟨by rw[a5];simp;omega,fun j r=>?_,fun j r=>?_,fun i h1 h2=>?_⟩
   ·simp at r
    by_cases e:j<nx.length
    ·rw[sR e,a5,sR SM];exact a.can j e
    ·obtain rfl:j=nx.length:=by omega
     rw[sQ,a2,a5,sR SM,hn];simp
   ·simp at r
    by_cases e:j<nx.length
    ·rw[sR e,a5,sR SM];exact fun x h=>(a.ed j e x h).more
    ·obtain rfl:j=nx.length:=by omega
     rw[sQ,a5,sR SM,hn,<-a5];exact a3
   ·by_cases e:i<s.1.length
    ·obtain⟨j,A,z,x,l,k⟩:=a.fr i h1 e
     exact⟨j,A,by simp;omega,x,by rw[sR z];exact l,k⟩
    ·obtain⟨x,l,k⟩:=w i SM (by rw[<-a5];exact h2)
     exact⟨nx.length,by omega,by simp,x,by rw[sQ];exact l,k⟩
  obtain⟨b1,b2,D,y,C⟩:=FX f (n+1) u (nx++[v]) SM c (by simp[hn]) a1 o b;exact⟨b1,b2,D,t++y,by rw[C,a5];simp⟩
def pU{p:cR}{tok st:Int}(h:(pS p tok st).2=0):
  (Is p).2=0/\SrOk p tok st (pS p tok st).1.1/\SpOk p (pS p tok st).1.1 (pS p tok st).1.2/\(pS p tok st).1.2.length=(pS p tok st).1.1.length/\0<(pS p tok st).1.1.length/\(pS p tok st).1.1.getD 0 []=iZ p/\st<=200:=by
 obtain⟨f,h1,h2,h3,a,g⟩:=pT h;rw[g];dsimp only;unfold runB at a⊢
 by_cases g1:(EF tok st ([],[],(0,0)) (iZ p) (-1,-1)).2.2=0
 case neg=>rw[Sj g1]at a;exact absurd a g1
 rw[Si (by simp[g1])]at a⊢
 have b:SrOk p tok st ([]:List (List Int)):=⟨List.Pairwise.nil,fun m h=>(by cases h),fun m h=>(by cases h),by simp;omega⟩;obtain⟨a1,⟨t,a2,a2i⟩,a3,a4,a5⟩:=EH (s:=([],[],(0,0))) b (i6 (p:=p)) g1;have hd:(EF tok st ([],[],(0,0)) (iZ p) (-1,-1)).1.1=[iZ p]:=by
  unfold EF at g1⊢
  by_cases d:J4 tok (iZ p)=true
  ·rw[Sj d]at g1;cases g1
  rw[Si d,Si SQ]at g1⊢
  by_cases c:(([]:List (List Int)).length:Int)=st
  ·rw[Sj c]at g1;cases g1
  rw[Si c];rfl
 generalize EF tok st ([],[],(0,0)) (iZ p) (-1,-1)=q at*
 obtain⟨b1,b2,k,l,e⟩:=FX 201 0 q.1 [] rfl h3 rfl a1 ⟨by simp,fun j h=>absurd h SQ,fun j h=>absurd h SQ,fun i h1 h2=>by rw[hd]at h2;simp at h2;omega⟩ a;refine⟨f,b1,b2,k,by rw[e,hd];simp,by rw[e,hd];simp,h3⟩
abbrev cZ:=List Int×List (List Int)×List Nat×List (List Int)
def CB(l:List cN)(n:Nat):List cN:=if l=[]then [(-1,(n:Int))]else l.map fun x=>(x.1,(n:Int))
def Cz(nx:List (List cN))(k:Nat):List cN:=(List.range k).flatMap fun n=>CB (nx.getD n []) n
def Bt(nx:List (List cN))(n:Nat):Nat:=max 1 (nx.getD n []).length
def iw(nx:List (List cN))(n:Nat):Nat:=(Cz nx n).length
def rY{l t:List α}{j:Nat}{d:α}(h:j<l.length):(l++t).getD j d=l.getD j d:=by simp[Oi,Oj h]
def r_{l t:List α}{i:Nat}{d:α}:(l++t).getD (l.length+i) d=t.getD i d:=by simp[Oi,Ok]
def rZ{β:Type}{f:α->β}{l:List α}{i:Nat}{d:α}{e:β}(h:i<l.length):(l.map f).getD i e=f (l.getD i d):=by simp[Oi,On h]
section
variable {nx:List (List cN)}
theorem CC{l:List cN}{n:Nat}:(CB l n).length=max 1 l.length:=by
 unfold CB;split
 ·rename_i h;subst h;rfl
 ·rename_i h
  have:0<l.length:=O3.2 h;rw[O1];omega
theorem CA{k:Nat}:Cz nx (k+1)=Cz nx k++CB (nx.getD k []) k:=by
 unfold Cz;rw[PL,Oc];simp
theorem iC:iw nx 0=0:=rfl
theorem iB{n:Nat}:iw nx (n+1)=iw nx n+Bt nx n:=by unfold iw Bt;rw[CA,OT,CC]
theorem iA{a b:Nat}(h:a<=b):iw nx a<=iw nx b:=by
 induction b with
 |zero=>rw[show a=0 by omega];exact Qj _
 |succ b c=>
  by_cases e:a=b+1
  ·rw[e];exact Qj _
  ·rw[iB];exact Qk (c SM) (Nat.le_add_right _ _)
theorem Bu{n:Nat}:1<=Bt nx n:=Nat.le_max_left _ _
theorem iz{n K i:Nat}(hn:n<K)(hi:i<Bt nx n):iw nx n+i<iw nx K:=by
 have h1:=iA (nx:=nx) (show n+1<=K by omega);rw[iB]at h1
 omega
theorem CG{n i:Nat}:∀{K:Nat},n<K->i<Bt nx n->(Cz nx K).getD (iw nx n+i) (0,0)=(CB (nx.getD n []) n).getD i (0,0)
 |0,h,_=>absurd h SM
 |K+1,hn,hi=>by
  by_cases e:n=K
  ·subst e
   rw[CA];exact r_
  ·have a:=iz (nx:=nx) (show n<K by omega) hi
   have b:=CG (K:=K) (show n<K by omega) hi;rw[<-b,CA];exact rY a
theorem CH{j:Nat}:∀{K:Nat},j<iw nx K->∃n i,n<K/\i<Bt nx n/\j=iw nx n+i
 |0,h=>absurd h (by rw[iC];omega)
 |K+1,h=>by
  rw[iB]at h
  by_cases e:j<iw nx K
  ·obtain⟨n,i,h1,h2,h3⟩:=CH e
   exact⟨n,i,by omega,h2,h3⟩
  ·exact⟨K,j -iw nx K,by omega,by omega,by omega⟩
def CD(nx:List (List cN))(j:Nat):cN:=(Cz nx nx.length).getD j (0,0)
theorem CE{n i:Nat}(hn:n<nx.length)(hi:i<Bt nx n):CD nx (iw nx n+i)=(if nx.getD n []=[]then(-1,(n:Int))else(((nx.getD n []).getD i (0,0)).1,(n:Int))):=by
 unfold CD;rw[CG hn hi];unfold CB;by_cases h:nx.getD n []=[]
 ·rw[Sj h,Sj h]
  unfold Bt at hi
  rw[h]at hi
  have:i=0:=by simp at hi;omega
  subst this;rfl
 ·rw[Si h,Si h]
  unfold Bt at hi
  have:0<(nx.getD n []).length:=O3.2 h;have a:i<(nx.getD n []).length:=by omega
  exact rZ (d:=(0,0)) a
end
def ir(nx:List (List cN))(k:Nat):List Int:=(List.range k).map fun n=>((iw nx n:Nat):Int)
def A1(nx:List (List cN))(k:Nat):List Int:=(List.range k).map fun n=>((Bt nx n:Nat):Int)
def gH(nx:List (List cN))(m:Nat):List Int:=(List.range (Bt nx m)).map fun i:Nat=>((iw nx m+i:Nat):Int)
def JO(nx:List (List cN))(j:Nat):cN:=(nx.getD (CD nx j).2.toNat []).getD (j -iw nx (CD nx j).2.toNat) (0,0)
def BN(nx:List (List cN))(j:Nat):List Int:=if(CD nx j).1<0 then [(j:Int)]else gH nx (JO nx j).2.toNat
def Aa(sl:List cT)(nx:List (List cN))(j:Nat):Nat:=if(CD nx j).1<0 then 9223372036854775808 else 2 ^ (sl.getD (CD nx j).1.toNat (0,0,0)).1.toNat
def jQ(nx:List (List cN))(j:Nat)(k:Int):Bool:=(nx.getD (CD nx j).2.toNat []).any fun y=>y.1==k
def x_(nx:List (List cN))(k:Int)(j:Nat):Bool:=!jQ nx j k||(CD nx j).1==k
def qb(nx:List (List cN))(k:Int)(n:Nat):List Int:=((List.range n).filter (x_ nx k)).map fun j:Nat=>(j:Int)
def p_(nx:List (List cN))(k:Int):List Int:=qb nx k (iw nx nx.length)
def GA(sl:List cT)(nx:List (List cN)):cZ:=(gH nx 0,(List.range (iw nx nx.length)).map (BN nx),(List.range (iw nx nx.length)).map (Aa sl nx),(List.range sl.length).map fun k:Nat=>p_ nx (k:Int))
def BT:cZ:=([],[],[],[])
noncomputable def Gw(p:cR)(tok st:Int):(cZ×List cN)×Int:=
 if(pS p tok st).2≠0 then((BT,[]),(pS p tok st).2)else if 600<iw (pS p tok st).1.2 (pS p tok st).1.2.length then((BT,[]),2)
 else((GA (Is p).1 (pS p tok st).1.2,Cz (pS p tok st).1.2 (pS p tok st).1.2.length),0)
def qe{nx:List (List cN)}{k:Int}{n:Nat}:qb nx k (n+1)=qb nx k n++if x_ nx k n=true then [(n:Int)]else []:=by
 unfold qb;rw[PL,N6,Pb]
 congr 1
 rw[N7];split<;>simp
def qd{nx:List (List cN)}{k:Int}{n:Nat}:(qb nx k n).length<=n:=by
 unfold qb;rw[O1];exact Qk (O0 _ _) SQ
structure NxOk(sl:List cT)(nx:List (List cN)):Prop where
 ed:∀j,j<nx.length->∀e∈nx.getD j [],0<=e.1/\e.1<sl.length/\0<=e.2/\e.2<nx.length
 row:∀j,(nx.getD j []).length<=60
 n:nx.length<=200
 pos:0<nx.length
 node:∀s∈sl,0<=s.1/\s.1<62
 sl:sl.length<=60
def jU{p:cR}{k:Int}(h:k∈jO p m):0<=k/\k<(Iz p).length:=by
 unfold jO at h
 split at h
 ·unfold jR jS at h
  obtain⟨i,hi,rfl⟩:=Pr.1 h;have:=Px.1 (Po.1 hi).1;omega
 ·cases h
def IB{p:cR}:∀s∈Iz p,0<=s.1/\s.1<p.1.length:=fun s a=>by
 obtain⟨n,hn,a⟩:=stepsP_mem.1 a;have:=Ix s a;rw[this];omega
def pW{p:cR}{tok st:Int}(h:(pS p tok st).2=0):NxOk (Is p).1 (pS p tok st).1.2:=by
 obtain⟨l,hS,d,o,q,_,k⟩:=pU h;obtain⟨n,f,c⟩:=It l;have m:=hS.st;have b:∀j,j<(pS p tok st).1.2.length->((pS p tok st).1.2.getD j []).length=(jO p ((pS p tok st).1.1.getD j [])).length:=fun j a=>by
  rw[<-d.can j a,O1]
 refine⟨fun j a e i=>?_,fun j=>?_,by omega,by omega,fun s g=>?_,by rw[f];exact c⟩
 ·have h1:=d.ed j a e i
  have h2:e.1∈jO p ((pS p tok st).1.1.getD j []):=by rw[<-d.can j a];exact Pr.2 ⟨e,i,rfl⟩
  have h3:=jU h2;rw[f];exact⟨h3.1,h3.2,h1.2.1,by have:=h1.2.2.1;omega⟩
 ·by_cases a:j<(pS p tok st).1.2.length
  ·rw[b j a]
   unfold jO;split
   ·unfold jR jS
    rw[O1];exact Qk (O0 _ _) (by simp;exact c)
   ·simp
  ·rw[Oi,Oo SM];simp
 ·rw[f]at g
  have h1:=IB s g;have h2:=(kY n).n;omega
class IsA(P:Program)(t:TypeId)(k:outParam Nat)(e:outParam TypeId):Prop where
 ok:P.underlying t=some (.array k e)
section
variable {P:Program}{Q:Exit->Act->World->Prop}{n:Nat}{σ:Sg}{w:World}{L rest:List Oper}{d:Nat}{ty:TypeId}{pos:String}{af:Array Edge}{g:Option (Nat×Bool)}{t e:TypeId}{x y:Operand}{b o:Nat}{cells:List Value}
theorem fq{ix:Operand}{i k:Nat}{kd:IntKind}{l:TypeId}(p:gd L σ ⟨some d,.indexAddr t x ix,ty,pos,af,g⟩=some true)(hd:Nat.ble (d+1) n=true)(m:ev σ x=some (.pointer (some ⟨b,o,none⟩)))(hi:ev σ ix=some (.int kd (i:Int)))
  [r:IsA P t k l] [q:IsC P l 1 false] (h1:i<k) (h:WL P L Q rest n ((d,.pointer (some ⟨b,o+i,none⟩))::σ) w):WL P L Q (⟨some d,.indexAddr t x ix,ty,pos,af,g⟩::rest) n σ w:=by
 obtain⟨inf,dd,j,f,_,_⟩:=q.ok;refine WL.run p hd (fun a c=>?_) h;simp[execOp,c.ev m,c.ev hi,Instr.indexAt,asIntOf,Sy r.ok,Instr.sureAddr,h1,sizeOf,typeInfo,j,f,RT]
theorem f9{v:Value}(s:gd L σ ⟨none,.store t x y,ty,pos,af,g⟩=some true)(p:ev σ x=some (.pointer (some ⟨b,o,none⟩)))(m:ev σ y=some v)[u:IsC P t 1 false](k:Blk w b e cells)
  (r:o<cells.length) (q:jZ v=[v]) (h1:v.oneCell'=true)
  (h:∀w',Blk w' b e (cells.set o v)->w.grownBy w' (some b)->WL P L Q rest n σ w'):WL P L Q (⟨none,.store t x y,ty,pos,af,g⟩::rest) n σ w:=by
 obtain⟨i,dd,j,f,_,_⟩:=u.ok;have c:=Sx P b o e [v] 0 cells.toArray w k ST (by simpa using h1);simp only[P9]at c
 have z:cells.take o++[v]++cells.drop (o+[v].length)=cells.set o v:=by
  rw[PO,Sj r];simp
 refine fY s (fun a l=>?_) (h _ (by
  have:=Sz w b cells.toArray (cells.set o v).toArray e (0,0) k;exact this) (ud w b _))
 simp only[execOp,l.ev p,l.ev m,Instr.storeAt,Q4,Instr.sureAddr,Q5,Q2,storeVar,sizeOf,typeInfo,Sv,j,f,j0,q];rw[<-z];simp;simp[c]
theorem Ga{k:Nat}(w:World)(m:Blk w b e cells)(h:cells.length=k)[l:IsC P t k true]:(Instr.loadAt t (.pointer (some ⟨b,0,none⟩))).run P w=.ok (.agg cells.toArray) w:=by
 obtain⟨i,dd,h1,h2,h3,h4⟩:=l.ok;have c:(isAgg t).run P w=.ok true w:=by
  unfold isAgg;rw[Q4,Sy h3 w,<-h4];cases dd<;>rfl
 have a:=Su (P:=P) w ⟨b,0,none⟩ cells (fun j u f=>by rw[RT,QJ];exact m.cell f);rw[h]at a
 simp[Instr.loadAt,Instr.sureAddr,loadVar,c,sizeOf,typeInfo,h1,h2,a]
theorem fA{k:Nat}(i:gd L σ ⟨some d,.load t x,ty,pos,af,g⟩=some true)(hd:Nat.ble (d+1) n=true)(c:ev σ x=some (.pointer (some ⟨b,0,none⟩)))[m:IsC P t k true](j:Blk w b e cells)(f:cells.length=k)
  (h:WL P L Q rest n ((d,.agg cells.toArray)::σ) w):WL P L Q (⟨some d,.load t x,ty,pos,af,g⟩::rest) n σ w:=by
 refine WL.run i hd (fun a l=>?_) h;simp[execOp,l.ev c,Ga (P:=P) (t:=t) w j f]
theorem ga{k:Nat}{cs:List Value}(s:gd L σ ⟨none,.store t x y,ty,pos,af,g⟩=some true)(q:ev σ x=some (.pointer (some ⟨b,0,none⟩)))(p:ev σ y=some (.agg cs.toArray))[v:IsC P t k true](l:Blk w b e cells)
  (r:cs.length=k) (A:cells.length=k) (h1:∀u∈cs,u.oneCell'=true)
  (h:∀w',Blk w' b e cs->w.grownBy w' (some b)->WL P L Q rest n σ w'):WL P L Q (⟨none,.store t x y,ty,pos,af,g⟩::rest) n σ w:=by
 obtain⟨i,dd,j,f,_,_⟩:=v.ok;subst r;have c:=Sx P b 0 e cs 0 cells.toArray w l ST h1;simp only[P9,QJ,P0,PA]at c
 have z:cells.toArray.toList.drop cs.length=[]:=NW ST;rw[z,NG]at c
 refine fY s (fun a m=>?_) (h _ (by
  have:=Sz w b cells.toArray cs.toArray e (0,0) l;exact this) (ud w b _))
 simp only[execOp,m.ev q,m.ev p,Instr.storeAt,Q4,Instr.sureAddr,Q5,Q2,storeVar,sizeOf,typeInfo,Sv,j,f,Value.cells];simp;simp[c]
theorem bz{fn:Func}{a:Nat}{k:Nat}{R:Value->World->Prop}(q:fn.results=#[.cell a t])(A:fnd σ a=some (.pointer (some ⟨b,0,none⟩)))[s:IsC P t k true](z:Blk w b e cells)(r:cells.length=k)(h:R (.agg cells.toArray) w):
  EX (bodyPost P fn fun e w'=>∃v,e=.returned v/\R v w') .ret n σ w:=by
 unfold EX;intro ac l
 refine R3 ?_ l.defers ⟨_,rfl,h⟩;have c:=Su (P:=P) w ⟨b,0,none⟩ cells (fun j u p=>by rw[RT,QJ];exact z.cell p);obtain⟨i,dd,h1,h2,h3,h4⟩:=s.ok;have f:(isAgg t).run P w=.ok true w:=by
  unfold isAgg;rw[Q4,Sy h3 w,<-h4];cases dd<;>rfl
 rw[r]at c
 have m:=l.slot a _ A;simp only[MC]at m
 simp[results,q,m,asAddr,loadVar,f,sizeOf,typeInfo,h1,h2,c]
end
def A8{α β:Type}{f:α->Option β}{g:α->β}:∀(l:List α),(∀x∈l,f x=some (g x))->l.mapM f=some (l.map g)
 |[],_=>rfl
 |x::r,h=>by
  rw[O_,h x SQ,A8 r (fun y a=>h y (by simp[a]))];rfl
def KeyV.arr{k e:TypeId}{n:Nat}{q:IntKind}(j:P.underlying k=some (.array n e))(z:P.underlying e=some (.int q))(p:P.cellsOf e=1)(h:P.cellsOf k=n)(m:P.keyType k=true)(l:Nat.ble 1 P.types.size=true)
  {xs:List Int} (r:xs.length=n) (u:∀x∈xs,(Lit.int q x).wf=true):KeyV P k (.agg (xs.map fun x=>.int q x).toArray):=by
 obtain⟨s,v⟩:∃s,P.types.size=s+1:=⟨P.types.size -1,by have:=Qg l;omega⟩;have a:P.keyLits (P.types.size+1) k (xs.map fun x=>.int q x)=some (((List.range n).map fun i=>[Lit.int q (xs.getD i 0)]).flatten):=by
  rw[v,QZ];simp only[j];rw[Sj (by rw[h];simpa using r),A8 (g:=fun i=>[Lit.int q (xs.getD i 0)])]
  ·rfl
  ·intro i hi
   have hi:=Px.1 hi;have c:i<xs.length:=by omega
   have f:((xs.map fun x=>Value.int q x).drop (i*P.cellsOf e)).take (P.cellsOf e)=[.int q xs[i]]:=by
    rw[p,Qv,NV (by simpa using c)];simp
   rw[f,QZ];simp only[z];rw[Sj ⟨trivial,u _ (OG c)⟩,Oi,On c];rfl
 refine⟨.string (keyBytes (((List.range n).map fun i=>[Lit.int q (xs.getD i 0)]).flatten)),?_⟩;unfold keyOf;rw[j];dsimp only;have hf:Value.formed P k (.agg (xs.map fun x=>Value.int q x).toArray)=true:=by
  unfold Value.formed;rw[j,h];simp[r]
 rw[m,hf];show Option.map _ (P.keyLits (P.types.size+1) k (xs.map fun x=>Value.int q x))=_;rw[a];rfl
section
variable {P:Program}{Q:Exit->Act->World->Prop}{n:Nat}{σ:Sg}{w:World}{L rest:List Oper}{d:Nat}{ty:TypeId}{pos:String}{af:Array Edge}{g:Option (Nat×Bool)}
variable {α:Type}[Rep α]{e t:TypeId}{x0:α}{bytes:Nat}{F:Nat->Prop}
end
def Cel(w:World)(b n:Nat):Prop:=∃cur e,w.heap[b]?=some (.cells cur e (0,0))/\n<=cur.size
def Cel.lt{b n:Nat}(h:Cel w b n):b<w.heap.size:=by
 obtain⟨cur,e,h,_⟩:=h;exact(MH.1 h).1
def Cel.at{w':World}{b n:Nat}(h:Cel w b n)(a:w'.heap[b]?=w.heap[b]?):Cel w' b n:=by
 obtain⟨cur,e,h1,h2⟩:=h;exact⟨cur,e,a.trans h1,h2⟩
def RowT(F:Nat->Prop)(w:World)(z:Nat)(v:Value):Prop:=∃ao len cap,v=.slice ao len cap/\cap<=maxLen/\len<=cap/\(0<cap->∃b off,ao=some ⟨b,off,none⟩/\F b/\Cel w b (off+cap*z))
section
variable {α:Type}[Rep α]{w w':World}{B:Nat}{e:TypeId}{F F':Nat->Prop}{v:Value}{xs:List α}{z:Nat}
theorem Own.rowT(h:Own w B e di v xs)(hF:∀g,v.ownBlock=some g->F g):RowT F w (sz α) v:=by
 rcases h with⟨rfl,rfl⟩|⟨g,off,cap,cur,rfl,a⟩
 ·exact⟨none,0,0,rfl,by simp[maxLen],Qj _,fun h=>absurd h SQ⟩
 ·exact⟨_,_,_,rfl,a.mx,a.le,fun _=>⟨g,off,rfl,hF g rfl,cur,e,a.blk,a.fit⟩⟩
theorem RowT.to(h:RowT F w z v)(hF:∀b,F b->b<w.heap.size->F' b/\w'.heap[b]?=w.heap[b]?):RowT F' w' z v:=by
 obtain⟨ao,len,cap,h1,h2,h3,h4⟩:=h;refine⟨ao,len,cap,h1,h2,h3,fun a=>?_⟩;obtain⟨b,off,k1,k2,k3⟩:=h4 a;have:=hF b k2 k3.lt;exact⟨b,off,k1,this.1,k3.at this.2⟩
end
section
variable {P:Program}{Q:Exit->Act->World->Prop}{n:Nat}{σ:Sg}{w:World}{L rest:List Oper}{d:Nat}{ty:TypeId}{pos:String}{af:Array Edge}{g:Option (Nat×Bool)}
variable {α:Type}[Rep α]{e t:TypeId}{F:Nat->Prop}
end
instance:IsFd UA 98 0 0:=IsFd.of SN
instance:IsFd UA 98 1 2:=IsFd.of SN
instance:IsFd UA 98 2 3:=IsFd.of SN
instance:IsFd UA 98 3 4:=IsFd.of SN
instance:IsFd UA 98 4 6:=IsFd.of SN
instance:IsFd UA 98 5 7:=IsFd.of SN
instance:IsFd UA 98 6 8:=IsFd.of SN
instance:IsZC UA 98 [.slice none 0 0,.slice none 0 0,.int .i64 0,.int .i64 0,.slice none 0 0,.slice none 0 0,.map none,.slice none 0 0,.int .i64 0,.int .i64 0]:=IsZC.of (z:=.agg #[.slice none 0 0,.slice none 0 0,.int .i64 0,.int .i64 0,.slice none 0 0,.slice none 0 0,.map none,.slice none 0 0,.int .i64 0,.int .i64 0]) SN rfl
instance:IsBd UA 98 [(0,2),(2,1),(3,1),(4,2),(6,1),(7,1),(8,2)]:=IsBd.of SN
instance:IsC UA 235 30 true:=IsC.of SN Rr rfl
abbrev zKey:List Value:=[.int .i8 0,.int .i8 0,.int .i8 0,.int .i8 0,.int .i8 0,.int .i8 0,.int .i8 0,.int .i8 0,.int .i8 0,.int .i8 0,.int .i8 0,.int .i8 0,.int .i8 0,.int .i8 0,.int .i8 0,.int .i8 0,.int .i8 0,.int .i8 0,.int .i8 0,.int .i8 0,.int .i8 0,.int .i8 0,.int .i8 0,.int .i8 0,.int .i8 0,.int .i8 0,.int .i8 0,.int .i8 0,.int .i8 0,.int .i8 0]
instance:IsZC UA 235 zKey:=IsZC.of (z:=.agg zKey.toArray) SN rfl
instance:IsA UA 235 30 233:=⟨Rr⟩
instance:IsC UA 233 1 false:=IsC.of SN Rq rfl
instance:IsI UA 233 .i8:=⟨Rq⟩
instance:IsM UA 93 235 3:=⟨Tryz.underlying93⟩
instance:IsC UA 93 1 false:=IsC.of SN Tryz.underlying93 rfl
instance:IsZ0 UA 3:=⟨by kernel_rfl⟩
def H2:laidOutB UA=true:=by kernel_rfl
instance:IsKy UA 235:=IsKy.of (m:=2) H2 SP SN SN Rr rfl
abbrev zy(m:List Int):Value:=.agg ((zD m).map fun x=>.int .i8 x).toArray
def Tok(m:List Int):Prop:=∀x∈m,0<=x/\x<=9
def Tok.at(h:Tok m)(j:Nat):0<=m.getD j 0/\m.getD j 0<=9:=by
 rw[Oi];cases a:m[j]? with
 |none=>exact⟨No _,by decide⟩
 |some x=>exact h x (Pu a)
def zC(b:Tok m):KeyV UA 235 (zy m):=
 KeyV.arr (n:=30) Rr Rq SN SN SN SN (zF m) (fun x a=>by
  unfold zD at a
  obtain⟨i,_,rfl⟩:=Pr.1 a;have:=b.at i;rw[Oi]at this
  simp[Lit.wf,IntKind.min,IntKind.max,IntKind.signed,IntKind.bits];omega)
def zB{a b:List Int}(d:a.length<=30)(h:a.length=b.length)(c:zy a=zy b):a=b:=by
 refine zE d h ?_;have h1:((zD a).map fun x=>Value.int .i8 x).toArray=((zD b).map fun x=>Value.int .i8 x).toArray:=by injection c
 have h2:(zD a).map (fun x=>Value.int .i8 x)=(zD b).map (fun x=>Value.int .i8 x):=by simpa using h1
 exact List.map_inj_right (fun x y e=>by injection e)|>.1 h2
def uv(h:0<=x/\x<=9):IntKind.i8.wrap x=x:=by
 simp[IntKind.wrap,IntKind.bits,IntKind.signed];omega
@[irreducible] def zq (m:List Int) (i:Nat):List Value:=(List.range 30).map fun j=>.int .i8 (if j<i then m.getD j 0 else 0)
def zt{i:Nat}:(zq m i).length=30:=by simp[zq]
def zx:zq m 0=zKey:=by
 unfold zq;simp only[Qw,Sh];rfl
def zv{i:Nat}(hi:i<m.length):(zq m i).set i (.int .i8 m[i])=zq m (i+1):=by
 unfold zq;refine N4 SQ fun j h1 h2=>?_
 rw[OJ];simp only[OF,OH];by_cases e:i=j
 ·subst e
  rw[Sj rfl,Sj SM,Oi,On hi];rfl
 ·rw[Si e]
  by_cases a:j<i
  ·rw[Sj a,Sj SM]
  ·rw[Si a,Si SM]
def zr:zq m m.length=(zD m).map fun x=>.int .i8 x:=by
 unfold zq zD;rw[Pe];refine Pc fun j _=>?_
 show Value.int .i8 _=Value.int .i8 _
 congr 1
 split
 ·rfl
 ·show(0:Int)=m.getD j 0
  rw[Oi,Oo SM];rfl
def zu{i:Nat}:∀u∈zq m i,u.oneCell'=true:=by
 intro u a
 unfold zq at a
 obtain⟨j,_,rfl⟩:=Pr.1 a;rfl
def zp(w0:World){mo:Option Addr}{mc:Nat}(x:Sl w0 (dl w0) mo mc m)(C:m.length<=30)(u:Tok m):
  Rt UA 131 [.slice mo m.length mc].toArray w0 fun v w'=>v=zy m/\Ext w0 w':=by
 refine dU Tryz.func131 Tryz.ntmps131 rfl rfl (T9 ?_);refine eF (fun n a t=>?_);refine T2 ?_;refine eF (fun B b s=>?_);have y:=a.lt;have a:=a.ext s;have j:=t.trans s;have o:=t.size;have p:w0.heap.size≠n.heap.size:=by omega
 rw[<-zx (m:=m)]at b
 refine TR ?_;refine CW.loop (S:=Nat) (fun i=>[(2,.pointer (some ⟨w0.heap.size,0,none⟩)),(3,.pointer (some ⟨n.heap.size,0,none⟩)),(6,.slice mo m.length mc),(7,.int .i64 m.length),(8,.int .i64 i)])
  (fun i w=>i<=m.length/\Ext w0 w/\Blk w w0.heap.size 235 zKey/\Blk w n.heap.size 235 (zq m i)) (fun i=>m.length -i) 0 SL ⟨QK _,j,a,b⟩ ?_
 clear a b j;rintro i A ⟨hi,j,a,b⟩
 refine T2 ?_;refine CW.cond rfl (fun h=>?_) (fun h=>?_)
 ·have c:i<m.length:=by simp at h;omega
  have r:=u _ (OG c);refine TL ?_;refine ff (x.up j) c rfl SX (fun q=>?_);refine T2 ?_;refine eU (k':=.i8) rfl rfl rfl ?_;rw[uv r];refine fq rfl rfl rfl rfl SM (f9 rfl rfl rfl b (by rw[zt];omega) rfl rfl (fun l f d=>?_));rw[QJ,zv c]at f
  have a:=a.kept d (fun e=>p (QV e));have k:Ext w0 l:=j.grown d j.size (fun g z=>by cases z;exact o);refine Tn ?_;exact EX.back (i+1) SL ⟨c,k,a,f⟩ SM
 ·obtain rfl:i=m.length:=by simp at h;omega
  refine TO ?_;refine fA rfl rfl rfl b zt (ga rfl rfl rfl a zt rfl zu (fun l f d=>?_));have k:Ext w0 l:=j.grown d j.size SZ;refine Tm ?_;exact bz rfl rfl f zt ⟨by rw[zr],k⟩
structure SC where
 sb:Nat
 mb:Nat
 mv:Value
 nv:Value
 ov:Value
 mvs:List Raw
 nvs:List Raw
 p1:Value
 p2:Value
 tok:Int
 st:Int
 N:Nat
 xt:Value
 lo:Nat
def jD(c:SC):Nat->Prop:=fun b=>b=c.sb\/b=c.mb\/c.mv.ownBlock=some b\/c.nv.ownBlock=some b\/c.ov.ownBlock=some b\/c.xt.ownBlock=some b
def Fb(c:SC)(w:World):Nat->Prop:=fun b=>c.lo<=b/\b<w.heap.size/\¬jD c b
structure Inn{α:Type}[Rep α](w:World)(c:SC)(vs:List Raw)(xs:List (List α)):Prop where
 len:vs.length=xs.length
 el:∀i (h:i<vs.length) (h':i<xs.length),∃ao cap,vs[i].v=.slice ao xs[i].length cap/\Sl w (Fb c w) ao cap xs[i]
 ty:∀i (h:i<vs.length),RowT (Fb c w) w (sz α) vs[i].v
def Fb.toT{w':World}{c c':SC}{z:Nat}(h:RowT (Fb c w) w z v)(d:Chg (jD c) w w')(f:∀b,jD c' b->jD c b\/w.heap.size<=b)(e:c'.lo<=c.lo:=by exact Qj _):RowT (Fb c' w') w' z v:=
 h.to fun b a _=>⟨⟨Qk e a.1,Qn a.2.1 d.size,fun h=>(f b h).elim a.2.2 (fun h=>by have:=a.2.1;omega)⟩,d.block b a.2.1 a.2.2⟩
def Fb.to[Rep α]{w':World}{c c':SC}{ao:Option Addr}{cap:Nat}{xs:List α}(h:Sl w (Fb c w) ao cap xs)(d:Chg (jD c) w w')(f:∀b,jD c' b->jD c b\/w.heap.size<=b)(e:c'.lo<=c.lo:=by exact Qj _):Sl w' (Fb c' w') ao cap xs:=
 h.mono (fun b a=>d.block b a.2.1 a.2.2) fun b a=>⟨Qk e a.1,Qn a.2.1 d.size,fun h=>(f b h).elim a.2.2 (fun h=>by have:=a.2.1;omega)⟩
def Inn.to[Rep α]{w':World}{c c':SC}{vs:List Raw}{xs:List (List α)}(h:Inn w c vs xs)(d:Chg (jD c) w w')(f:∀b,jD c' b->jD c b\/w.heap.size<=b)(a:c'.lo<=c.lo:=by exact Qj _):Inn w' c' vs xs:=
 ⟨h.len,fun i h1 h2=>by
  obtain⟨ao,cap,e,g⟩:=h.el i h1 h2;exact⟨ao,cap,e,Fb.to g d f a⟩,fun i h1=>Fb.toT (h.ty i h1) d f a⟩
def Inn.push[Rep α]{c:SC}{vs:List Raw}{xs:List (List α)}{ao:Option Addr}{cap:Nat}{m:List α}(h:Inn w c vs xs)(l:Sl w (Fb c w) ao cap m)(f:RowT (Fb c w) w (sz α) (.slice ao m.length cap)):Inn w c (vs++[⟨.slice ao m.length cap⟩]) (xs++[m]):=by
 refine⟨by simp[h.len],fun i h1 h2=>?_,fun i h1=>?_⟩
 case refine_2=>
  by_cases hi:i<vs.length
  ·rw[Oz hi];exact h.ty i hi
  ·have b:i=vs.length:=by simp at h1;omega
   subst b;rw[OA Ta];simpa using f
 by_cases hi:i<vs.length
 ·have d:i<xs.length:=by rw[<-h.len];exact hi
  obtain⟨a,k,e,j⟩:=h.el i hi d;refine⟨a,k,?_,?_⟩
  ·rw[Oz hi,e];simp only[Oz d]
  ·rw[Oz d];exact j
 ·have b:i=vs.length:=by simp at h1;omega
  have g:i=xs.length:=by rw[<-h.len];exact b
  refine⟨ao,cap,?_,?_⟩
  ·rw[OA SM,OA SM]
   simp[b,h.len]
  ·rw[OA SM]
   simp only[g,QF,OD];exact l
def ap(a b:Option Nat):Prop:=∀g,a=some g->b=some g->False
def ap.new{a c b:Option Nat}{k:Nat}(h:ap a b)(hn:∀g,c=some g->a=some g\/k<=g)(d:∀g,b=some g->g<k):ap c b:=fun g h1 h2=>by
 rcases hn g h1 with h3|h3
 ·exact h g h3 h2
 ·have:=d g h2;omega
def ap.sym{a b:Option Nat}(h:ap a b):ap b a:=fun g h1 h2=>h g h2 h1
structure ApartS(c:SC):Prop where
 d01:c.sb≠c.mb
 d02:ap (some c.sb) c.mv.ownBlock
 d03:ap (some c.sb) c.nv.ownBlock
 d04:ap (some c.sb) c.ov.ownBlock
 d12:ap (some c.mb) c.mv.ownBlock
 d13:ap (some c.mb) c.nv.ownBlock
 d14:ap (some c.mb) c.ov.ownBlock
 d23:ap c.mv.ownBlock c.nv.ownBlock
 d24:ap c.mv.ownBlock c.ov.ownBlock
 d34:ap c.nv.ownBlock c.ov.ownBlock
 d05:ap (some c.sb) c.xt.ownBlock
 d15:ap (some c.mb) c.xt.ownBlock
 d25:ap c.mv.ownBlock c.xt.ownBlock
 d35:ap c.nv.ownBlock c.xt.ownBlock
 d45:ap c.ov.ownBlock c.xt.ownBlock
structure Srch(w:World)(B:Nat)(c:SC)(s:Sr)(nx:List (List cN)):Prop where
 blk:Blk w c.sb 98 [c.p1,c.p2,.int .i64 c.tok,.int .i64 c.st,c.mv,c.nv,.map (some c.mb),c.ov,.int .i64 s.2.2.1,.int .i64 s.2.2.2]
 num:NumM UA 235 w c.mb (s.1.map zy)
 mo:Own w B 39 di c.mv c.mvs
 no:Own w B 75 di c.nv c.nvs
 oo:Own w B 96 di c.ov s.2.1
 mi:Inn w c c.mvs s.1
 ni:Inn w c c.nvs nx
 ge:B<=c.sb/\B<=c.mb
 lob:c.lo<=B
 xo:∀g,c.xt.ownBlock=some g->B<=g/\g<w.heap.size
 dis:ApartS c
 ok:∀m∈s.1,m.length=c.N/\Tok m
 nd:s.1.Nodup
 lim:(s.1.length:Int)<=c.st/\0<c.st/\c.st<=200/\s.2.1.length=s.1.length/\c.N<=30
def jE{c:SC}{s:Sr}{nx:List (List cN)}(h:Srch w B c s nx):∀b,jD c b->B<=b/\b<w.heap.size:=fun b a=>by
 rcases a with rfl|rfl|a|a|a|a
 ·exact⟨h.ge.1,h.blk.lt⟩
 ·exact⟨h.ge.2,h.num.lt⟩
 ·exact⟨(h.mo.lt b a).1,(h.mo.lt b a).2.1⟩
 ·exact⟨(h.no.lt b a).1,(h.no.lt b a).2.1⟩
 ·exact⟨(h.oo.lt b a).1,(h.oo.lt b a).2.1⟩
 ·exact h.xo b a
def Chg.ofExt{S:Nat->Prop}{w':World}(h:Ext w w'):Chg S w w':=⟨h.os,h.tape,h.output,h.size,fun b a _=>h.block b a⟩
def Srch.ext{w':World}{c:SC}{s:Sr}{nx:List (List cN)}(h:Srch w B c s nx)(a:Ext w w'):Srch w' B c s nx:=
 ⟨h.blk.ext a,h.num.ext a,h.mo.extN a,h.no.extN a,h.oo.extN a,h.mi.to (.ofExt a) (fun _ h=>.inl h),h.ni.to (.ofExt a) (fun _ h=>.inl h),h.ge,h.lob,(fun g b=>⟨(h.xo g b).1,Qn (h.xo g b).2 a.size⟩),h.dis,h.ok,h.nd,h.lim⟩
def busyI(c:SC):Nat->Prop:=fun b=>b=c.sb\/b=c.mb\/c.mv.ownBlock=some b\/c.nv.ownBlock=some b\/c.ov.ownBlock=some b\/False
def busyI.to{c:SC}{b:Nat}(h:busyI c b):jD c b:=by
 rcases h with h|h|h|h|h|h
 ·exact .inl h
 ·exact .inr (.inl h)
 ·exact .inr (.inr (.inl h))
 ·exact .inr (.inr (.inr (.inl h)))
 ·exact .inr (.inr (.inr (.inr (.inl h))))
 ·exact h.elim
def bI{c:SC}{w':World}(h:Chg (busyI c) w w'):Chg (jD c) w w':=⟨h.os,h.tape,h.output,h.size,fun b a hn=>h.block b a (fun k=>hn k.to)⟩
def J3(w:World)(a:Nat){c:SC}{u:Value}{vs:List Value}(x:Int)(h3:Blk w a 90 [Tg c.sb])(b:Blk w c.sb 98 (u::v:: Te c.tok::vs)):
  Rt UA 130 [Te x,Tg a].toArray w fun v w'=>v=.bool (decide (x>c.tok))/\Ext w w':=by
 refine dV Tryz.func130 Tryz.ntmps130 rfl rfl (T_ ?_);exact bj ⟨rfl,Ext.refl w⟩
def d6(c c':SC):Prop:=c'.sb=c.sb/\c'.p1=c.p1/\c'.p2=c.p2/\c'.tok=c.tok/\c'.st=c.st/\c'.N=c.N/\c'.xt=c.xt/\c'.lo=c.lo
def Srch.last{w':World}{c:SC}{s:Sr}{nx:List (List cN)}{fr:Int×Int}(h:Srch w B c s nx)(a:w.grownBy w' (some c.sb))(d:Blk w' c.sb 98 [c.p1,c.p2,Te c.tok,Te c.st,c.mv,c.nv,.map (some c.mb),c.ov,Te fr.1,Te fr.2]):Srch w' B c (s.1,s.2.1,fr) nx:=by
 have b:Chg (jD c) w w':=(Chg.refl _ w).grown a S7;exact⟨d,h.num.kept a (fun e=>h.dis.d01 (QV e).symm),h.mo.keptN a (fun g a e=>h.dis.d02 g e.symm a),h.no.keptN a (fun g a e=>h.dis.d03 g e.symm a),h.oo.keptN a (fun g a e=>h.dis.d04 g e.symm a),h.mi.to b (fun _ h=>.inl h),h.ni.to b (fun _ h=>.inl h),h.ge,h.lob,(fun g k=>⟨(h.xo g k).1,Qn (h.xo g k).2 a.size⟩),h.dis,h.ok,h.nd,h.lim⟩
def zG{l:List (List Int)}{N:Nat}(d:N<=30)(b:∀x∈l,x.length=N/\Tok x)(c:m.length=N):zy m∈l.map zy↔m∈l:=by
 constructor
 ·intro h
  obtain⟨x,a,e⟩:=Pr.1 h;obtain rfl:=zB (by rw[(b x a).1];exact d) (by rw[(b x a).1,c]) e;exact a
 ·exact fun h=>Pr.2 ⟨m,h,rfl⟩
def Io(w0:World){c:SC}{s:Sr}{nx:List (List cN)}(hS:Srch w0 B c s nx)(hBw:B<=w0.heap.size){mo:Option Addr}{mc:Nat}(hm:Sl w0 (Fb c w0) mo mc m)(hmT:RowT (Fb c w0) w0 1 (.slice mo m.length mc))(hN:m.length=c.N)(hT:Tok m)(fr:Int×Int):
  Rt UA 64 [Tg c.sb,.slice mo m.length mc,.agg [Te fr.1,Te fr.2].toArray].toArray w0 fun v w'=>∃c',v=.tuple ⟨[Te (EF c.tok c.st s m fr).2.1,Te (EF c.tok c.st s m fr).2.2]⟩/\
   Srch w' B c' (EF c.tok c.st s m fr).1 nx/\d6 c c'/\Chg (busyI c) w0 w'/\∀b,jD c' b->jD c b\/w0.heap.size<=b:=by
 have same:d6 c c:=⟨rfl,rfl,rfl,rfl,rfl,rfl,rfl,rfl⟩;have hbg:=jE hS;refine dW Tryz.func64 Tryz.ntmps64 rfl rfl ?_;refine T9 ?_;refine eJ fun w1 o e1=>?_
 refine eJ fun w2 t e2=>?_
 have hl3:=o.lt;have o:=o.ext e2;have e2:=e1.trans e2;have hS2:=hS.ext e2;have hm2:=Fb.to hm (.ofExt e2) (fun _ h=>.inl h);have f:=hS2.blk;have hz1:=e1.size;have T:∀b,jD c b->b≠w0.heap.size:=fun b p e=>by have:=hbg b p;omega
 have hn5:∀b,jD c b->b≠w1.heap.size:=fun b p e=>by have:=hbg b p;omega
 refine T_ ?_;refine f_ f (fun w3 p hg3=>?_);have o:=o.kept hg3 (fun e=>T c.sb (.inl rfl) (QV e).symm);have t:=t.kept hg3 (fun e=>hn5 c.sb (.inl rfl) (QV e).symm);have hS3:=hS2.last hg3 p;have hC3:Chg (busyI c) w0 w3:=(Chg.ofExt e2).grown hg3 S7;have hm3:=Fb.to hm (bI hC3) (fun _ h=>.inl h);clear f hg3 hm2 hS2;refine Tu ?_;refine eN (ma w3 (fun x=>decide (x>c.tok)) (hm3.mono S8 (fun b p=>p.2.1)) (fun w hE i hi=>FnV.mk (cs:=[_]) (J3 w _ _ (o.ext hE) (p.ext hE)))) ?_;rintro _ w4 ⟨rfl,e4⟩
 have o:=o.ext e4;have t:=t.ext e4;have O:=hS3.ext e4;have A:Chg (busyI c) w0 w4:=⟨e4.os.trans hC3.os,e4.tape.trans hC3.tape,e4.output.trans hC3.output,Qk hC3.size e4.size,fun b p hn=>(e4.block b (Qn p hC3.size)).trans (hC3.block b p hn)⟩;have hm4:=Fb.to hm (bI A) (fun _ h=>.inl h);clear p hS3 hm3 e4;unfold EF;refine T1 ?_;apply CW.cond rfl<;>intro h
 ·rw[Sj (show J4 c.tok m=true from h)]
  refine Tw ?_;exact bl rfl rfl rfl ⟨c,rfl,O,same,A,fun _ h=>.inl h⟩
 rw[Si (show¬J4 c.tok m=true by rw[show J4 c.tok m=false from h];decide)];have hkey:=zC hT;have hmem:=zG O.lim.2.2.2.2 O.ok hN;have hmold:Sl w4 (dl w4) mo mc m:=hm4.mono S8 (fun b p=>p.2.1);have h30:m.length<=30:=by rw[hN];exact O.lim.2.2.2.2
 have f:=O.blk;dsimp only at f hmem
 refine Uc ?_;refine QL.call rfl rfl rfl (fun w hE=>zp w (hmold.up hE) h30 hT) ?_;by_cases hin:m∈s.1
 ·rw[Sj hin]
  obtain⟨j,hj,hjm⟩:=Pq.1 hin;rw[D8 hj hS.nd hjm];refine dM (j:=j) (by simpa using hj) (by rw[OF,hjm]) rfl rfl rfl rfl O.num hkey ?_;refine Uf ?_;refine QL.nil (fun w5 Y=>?_);have J:Chg (busyI c) w0 w5:=⟨Y.os.trans A.os,Y.tape.trans A.tape,Y.output.trans A.output,Qk A.size Y.size,fun b p hn=>(Y.block b (Qn p A.size)).trans (A.block b p hn)⟩;refine TA ?_;exact bl rfl rfl rfl ⟨c,rfl,O.ext Y,same,J,fun _ h=>.inl h⟩
 rw[Si hin];refine dL rfl rfl rfl rfl O.num hkey (fun h=>hin (hmem.1 h)) ?_;refine Uf ?_;refine QL.nil (fun w5 Y=>?_);have o:=o.ext Y;have t:=t.ext Y;have J:Chg (busyI c) w0 w5:=⟨Y.os.trans A.os,Y.tape.trans A.tape,Y.output.trans A.output,Qk A.size Y.size,fun b p hn=>(Y.block b (Qn p A.size)).trans (A.block b p hn)⟩;have V:=O.ext Y;clear f hm4 hmold O Y;obtain⟨sb,mb,mv,nv,ov,mvs,nvs,p1,p2,tok,st,N,xt,lo⟩:=c;dsimp only at*
 have hmoA:=V.mo;have hooA:=V.oo;dsimp only at hmoA hooA
 obtain⟨ao,ac,rfl⟩:=hmoA.val;obtain⟨oo,oc,rfl⟩:=hooA.val;have U:=V.mi.len;dsimp only at U
 have f:=V.blk;have hlim:=V.lim;dsimp only at hlim f
 rw[U]at f
 refine TS ?_;apply CW.cond rfl<;>intro h
 ·have h:(s.1.length:Int)=st:=by simpa using h
  rw[Sj h];refine Tw ?_;exact bl rfl rfl rfl ⟨_,rfl,V,same,J,fun _ h=>.inl h⟩
 have h:¬(s.1.length:Int)=st:=by simpa using h
 rw[Si h];have hm5:=Fb.to hm (bI J) (fun _ h=>.inl h);have hmo5:Sl w5 (dl w5) mo mc m:=hm5.mono S8 (fun b p=>p.2.1);have d:=V.dis;have n:Ext w5 (drew w5):=Ext.drew w5;have q:=f.lt;have hlmb:=V.num.lt;have hl35:=o.lt;have hz5:=J.size;have R:=o.ext n;have r:=f.ext n;have hK3:∀u,(fun x:World=>x.heap[w0.heap.size]?=(drew w5).heap[w0.heap.size]?/\x.heap[sb]?=(drew w5).heap[sb]?) u->u.heap[w0.heap.size]?=(drew w5).heap[w0.heap.size]?:=fun _ h=>h.1
 have hKs:∀u,(fun x:World=>x.heap[w0.heap.size]?=(drew w5).heap[w0.heap.size]?/\x.heap[sb]?=(drew w5).heap[sb]?) u->u.heap[sb]?=(drew w5).heap[sb]?:=fun _ h=>h.2
 refine T7 ?_;refine aG (fun x:World=>x.heap[w0.heap.size]?=(drew w5).heap[w0.heap.size]?/\x.heap[sb]?=(drew w5).heap[sb]?) [(0,true),(1,true),(2,true),(3,true),(4,true),(6,true),(5,false),(7,false)] mixed SN ⟨rfl,rfl⟩ ?_;refine Us ?_;refine cD rfl (eN (zp (drew w5) (hmo5.up n) h30 hT) ?_);rintro _ w6 ⟨rfl,e6⟩
 have P:=n.trans e6;refine WL.nil (bf ⟨e6.block _ (Qn hl35 n.size),e6.block _ (Qn q n.size)⟩ ?_);have hS6:=V.ext P;have hnum6:=hS6.num;dsimp only at hnum6
 refine cD rfl (fW (ks:=s.1.map zy) rfl rfl rfl (by simp[ev,fnd,O1]) hnum6 hkey (fun h=>hin (hmem.1 h)) (fun K hnum7 M=>?_));have hl31:w0.heap.size≠mb:=fun e=>T mb (.inr (.inl rfl)) e.symm
 refine WL.nil (bf ⟨?_,?_⟩ (HL.nil ?_))
 ·exact(M.block _ (Qn hl35 P.size) (fun e=>hl31 (QV e))).trans (e6.block _ (Qn hl35 n.size))
 ·exact(M.block _ (Qn q P.size) (fun e=>d.d01 (QV e))).trans (e6.block _ (Qn q n.size))
 have o:Blk K w0.heap.size 90 [Tg sb]:=(R.ext e6).kept M (fun e=>hl31 (QV e));have t:Blk K w1.heap.size 96 [Te fr.1,Te fr.2]:=(t.ext P).kept M (fun e=>hn5 mb (.inr (.inl rfl)) (QV e).symm);have f:Blk K sb 98 _:=(r.ext e6).kept M (fun e=>d.d01 (QV e));have hmo:=hS6.mo.keptN M (fun g k e=>d.d12 g e.symm k);have L:=hS6.no.keptN M (fun g k e=>d.d13 g e.symm k);have hoo:=hS6.oo.keptN M (fun g k e=>d.d14 g e.symm k);dsimp only at hmo L hoo
 rw[U]at hmo
 have hC7:Chg (busyI ⟨sb,mb,.slice ao mvs.length ac,nv,.slice oo s.2.1.length oc,mvs,nvs,p1,p2,tok,st,N,xt,lo⟩) w0 K:=
  (⟨P.os.trans J.os,P.tape.trans J.tape,P.output.trans J.output,Qk J.size P.size,fun b p hn=>(P.block b (Qn p J.size)).trans (J.block b p hn)⟩:Chg _ w0 w6).grown M (fun g k=>by cases k;exact .inr (.inl rfl))
 rw[U]at hC7 T hn5 hbg d
 have hz7:=hC7.size;clear hnum6 hS6 hK3 hKs R r M e6 P n;have n:Ext K (drew K):=Ext.drew K;have q:=f.lt;have W:=o.lt;have hl57:=t.lt;have R:=o.ext n;have hb5d:=t.ext n;have r:=f.ext n;have hK3:∀u,(fun x:World=>x.heap[w0.heap.size]?=(drew K).heap[w0.heap.size]?/\x.heap[sb]?=(drew K).heap[sb]?) u->u.heap[w0.heap.size]?=(drew K).heap[w0.heap.size]?:=fun _ h=>h.1
 have hKs:∀u,(fun x:World=>x.heap[w0.heap.size]?=(drew K).heap[w0.heap.size]?/\x.heap[sb]?=(drew K).heap[sb]?) u->u.heap[sb]?=(drew K).heap[sb]?:=fun _ h=>h.2
 have hlen200:s.1.length<=200:=by omega
 refine T7 ?_;refine aF (fun x:World=>x.heap[w0.heap.size]?=(drew K).heap[w0.heap.size]?/\x.heap[sb]?=(drew K).heap[sb]?) [(0,true),(1,true),(2,true),(3,true),(4,true),(5,true),(6,true),(7,false),(8,false),(9,false),(10,false),(11,false)] 12 mixed SN ⟨rfl,rfl⟩ ?_;refine Us ?_;refine b_ (α:=Raw) (F:=di) (bytes:=24) (yv:=(⟨.slice mo m.length mc⟩:Raw)) rfl rfl rfl rfl SX rfl rfl SX (hmo.extN n) (Rd.mkRaw _ _ _ rfl) (Qk hBw (Qk hz7 n.size)) S0 SP (by rw[U];unfold maxLen;omega) (by rw[U];omega)
  (fun z hz=>⟨hz.block _ (Qn W n.size) (fun e=>T _ (.inr (.inr (.inl e.symm))) rfl),hz.block _ (Qn q n.size) (fun e=>d.d02 _ rfl e.symm)⟩) (fun mv' w9 p9 ho9 H hnb9=>?_)
 obtain⟨ao',ac',rfl⟩:=ho9.val;have o:=R.kept H (fun e=>T _ (.inr (.inr (.inl e.symm))) rfl);have t:=hb5d.kept H (fun e=>hn5 _ (.inr (.inr (.inl e.symm))) rfl);have f:=r.kept H (fun e=>d.d02 _ rfl e.symm);have G:=(hnum7.ext n).kept H (fun e=>d.d12 _ rfl e.symm);have L:=(L.extN n).keptN H (fun g k e=>d.d23 g e.symm k);have hoo:=(hoo.extN n).keptN H (fun g k e=>d.d24 g e.symm k);have hS9:w9.heap[w0.heap.size]?=(drew K).heap[w0.heap.size]?/\w9.heap[sb]?=(drew K).heap[sb]?:=⟨H.block _ (Qn W n.size) (fun e=>T _ (.inr (.inr (.inl e.symm))) rfl),H.block _ (Qn q n.size) (fun e=>d.d02 _ rfl e.symm)⟩;refine cD rfl (fS rfl rfl rfl (WL.nil (bf hS9 ?_)));refine cD rfl (fm rfl rfl rfl (WL.nil (bf hS9 ?_)));refine cD rfl (fm rfl rfl rfl (WL.nil (bf hS9 (HL.nil ?_))));refine bB rfl (f_ f (fun l f y=>WL.nil (bC ?_)));have hz9:=H.size;have hzd:=n.size;have Q:∀g,Value.ownBlock (.slice ao' (mvs++[(⟨.slice mo m.length mc⟩:Raw)]).length ac')=some g->Value.ownBlock (.slice ao s.1.length ac)=some g\/K.heap.size<=g:=fun g k=>(hnb9 g k).imp id (fun h=>Qk hzd h)
 have D:∀b,jD ⟨sb,mb,.slice ao s.1.length ac,nv,.slice oo s.2.1.length oc,mvs,nvs,p1,p2,tok,st,N,xt,lo⟩ b->b<K.heap.size:=fun b p=>Qn (hbg b p).2 hz7
 have n2:ap (Value.ownBlock (.slice ao' (mvs++[(⟨.slice mo m.length mc⟩:Raw)]).length ac')) (some sb):=d.d02.sym.new Q (fun g k=>by cases k;exact D _ (.inl rfl));have n12:ap (Value.ownBlock (.slice ao' (mvs++[(⟨.slice mo m.length mc⟩:Raw)]).length ac')) (some mb):=d.d12.sym.new Q (fun g k=>by cases k;exact D _ (.inr (.inl rfl)));have n23:ap (Value.ownBlock (.slice ao' (mvs++[(⟨.slice mo m.length mc⟩:Raw)]).length ac')) nv.ownBlock:=d.d23.new Q (fun g k=>D _ (.inr (.inr (.inr (.inl k)))));have n24:ap (Value.ownBlock (.slice ao' (mvs++[(⟨.slice mo m.length mc⟩:Raw)]).length ac')) (Value.ownBlock (.slice oo s.2.1.length oc)):=d.d24.new Q (fun g k=>D _ (.inr (.inr (.inr (.inr (.inl k))))));have n25:ap (Value.ownBlock (.slice ao' (mvs++[(⟨.slice mo m.length mc⟩:Raw)]).length ac')) xt.ownBlock:=d.d25.new Q (fun g k=>D _ (.inr (.inr (.inr (.inr (.inr k))))));have o:=o.kept y (fun e=>T sb (.inl rfl) (QV e).symm);have t:=t.kept y (fun e=>hn5 sb (.inl rfl) (QV e).symm);have G:=G.kept y (fun e=>d.d01 (QV e).symm);have ho10:=ho9.keptN y (fun g k e=>n2 g k e.symm);have L:=L.keptN y (fun g k e=>d.d03 g e.symm k);have hoo:=hoo.keptN y (fun g k e=>d.d04 g e.symm k);have hC10:=((hC7.grown (⟨n.os,n.tape,n.output,n.size,fun b p _=>n.block b p⟩:K.grownBy (drew K) none) (fun g k=>by cases k)).grown H (fun g k=>.inr (.inr (.inl k)))).grown y S7;have hz10:=hC10.size;have Z:K.heap.size<=l.heap.size:=Qk hzd (Qk hz9 y.size);have hlt10:∀g,Value.ownBlock (.slice ao' (mvs++[(⟨.slice mo m.length mc⟩:Raw)]).length ac')=some g->g<l.heap.size:=fun g k=>(ho10.lt g k).2.1
 clear hmo hnum7 r R hb5d hK3 hKs n H y ho9 hS9;have n:Ext l (drew l):=Ext.drew l;have q:=f.lt;have W:=o.lt;have hl57:=t.lt;have R:=o.ext n;have hb5d:=t.ext n;have r:=f.ext n;have hK3:∀u,(fun x:World=>x.heap[w0.heap.size]?=(drew l).heap[w0.heap.size]?/\x.heap[sb]?=(drew l).heap[sb]?/\x.heap[w1.heap.size]?=(drew l).heap[w1.heap.size]?) u->u.heap[w0.heap.size]?=(drew l).heap[w0.heap.size]?:=fun _ h=>h.1
 have hKs:∀u,(fun x:World=>x.heap[w0.heap.size]?=(drew l).heap[w0.heap.size]?/\x.heap[sb]?=(drew l).heap[sb]?/\x.heap[w1.heap.size]?=(drew l).heap[w1.heap.size]?) u->u.heap[sb]?=(drew l).heap[sb]?:=fun _ h=>h.2.1
 have hK5:∀u,(fun x:World=>x.heap[w0.heap.size]?=(drew l).heap[w0.heap.size]?/\x.heap[sb]?=(drew l).heap[sb]?/\x.heap[w1.heap.size]?=(drew l).heap[w1.heap.size]?) u->u.heap[w1.heap.size]?=(drew l).heap[w1.heap.size]?:=fun _ h=>h.2.2
 refine T7 ?_;refine aF (fun x:World=>x.heap[w0.heap.size]?=(drew l).heap[w0.heap.size]?/\x.heap[sb]?=(drew l).heap[sb]?/\x.heap[w1.heap.size]?=(drew l).heap[w1.heap.size]?) [(0,true),(1,true),(2,true),(3,true),(4,true),(5,true),(6,false),(7,false),(8,false),(9,false)] 10 mixed SN ⟨rfl,rfl,rfl⟩ ?_;refine Us ?_;refine cw hK5 rfl rfl rfl rfl hb5d rfl ?_;refine b_ (α:=Int×Int) (F:=di) (bytes:=16) (yv:=fr) rfl rfl rfl rfl SX rfl rfl SX (hoo.extN n) (Rd.mkPr (c1:=[Te fr.1]) (c2:=[Te fr.2]) (E9 _ _ _) (E9 _ _ _)) (Qk hBw (Qk hz10 n.size)) S0 SP (by rw[hlim.2.2.2.1];unfold maxLen;omega) (by rw[hlim.2.2.2.1];omega)
  (fun z hz=>⟨hz.block _ (Qn W n.size) (fun e=>T _ (.inr (.inr (.inr (.inr (.inl e.symm))))) rfl),hz.block _ (Qn q n.size) (fun e=>d.d04 _ rfl e.symm),hz.block _ (Qn hl57 n.size) (fun e=>hn5 _ (.inr (.inr (.inr (.inr (.inl e.symm))))) rfl)⟩) (fun ov' w12 p12 ho12 E hnb12=>?_)
 obtain⟨oo',oc',rfl⟩:=ho12.val;have f:=r.kept E (fun e=>d.d04 _ rfl e.symm);have G:=(G.ext n).kept E (fun e=>d.d14 _ rfl e.symm);have L:=(L.extN n).keptN E (fun g k e=>d.d34 g k e.symm);have ho10:=(ho10.extN n).keptN E (fun g k e=>n24 g k e.symm);have hS12:w12.heap[w0.heap.size]?=(drew l).heap[w0.heap.size]?/\w12.heap[sb]?=(drew l).heap[sb]?/\w12.heap[w1.heap.size]?=(drew l).heap[w1.heap.size]?:=⟨E.block _ (Qn W n.size) (fun e=>T _ (.inr (.inr (.inr (.inr (.inl e.symm))))) rfl),E.block _ (Qn q n.size) (fun e=>d.d04 _ rfl e.symm),E.block _ (Qn hl57 n.size) (fun e=>hn5 _ (.inr (.inr (.inr (.inr (.inl e.symm))))) rfl)⟩;refine cD rfl (fS rfl rfl rfl (WL.nil (bf hS12 ?_)));refine cD rfl (fm rfl rfl rfl (WL.nil (bf hS12 (HL.nil ?_))));refine bB rfl (f_ f (fun w13 f X=>WL.nil (bC ?_)));have hzd:=n.size;have C:∀g,Value.ownBlock (.slice oo' (s.2.1++[fr]).length oc')=some g->Value.ownBlock (.slice oo s.2.1.length oc)=some g\/l.heap.size<=g:=fun g k=>(hnb12 g k).imp id (fun h=>Qk hzd h)
 have m4:ap (Value.ownBlock (.slice oo' (s.2.1++[fr]).length oc')) (some sb):=d.d04.sym.new C (fun g k=>by cases k;exact q);have m14:ap (Value.ownBlock (.slice oo' (s.2.1++[fr]).length oc')) (some mb):=d.d14.sym.new C (fun g k=>by cases k;exact Qn (D _ (.inr (.inl rfl))) Z);have m34:ap (Value.ownBlock (.slice oo' (s.2.1++[fr]).length oc')) nv.ownBlock:=d.d34.sym.new C (fun g k=>Qn (D _ (.inr (.inr (.inr (.inl k))))) Z);have m24:ap (Value.ownBlock (.slice oo' (s.2.1++[fr]).length oc')) (Value.ownBlock (.slice ao' (mvs++[(⟨.slice mo m.length mc⟩:Raw)]).length ac')):=n24.sym.new C hlt10;have m45:ap (Value.ownBlock (.slice oo' (s.2.1++[fr]).length oc')) xt.ownBlock:=d.d45.new C (fun g k=>Qn (D _ (.inr (.inr (.inr (.inr (.inr k)))))) Z);have L:=L.keptN X (fun g k e=>d.d03 g e.symm k);have G:=G.kept X (fun e=>d.d01 (QV e).symm);have hmoF:=ho10.keptN X (fun g k e=>n2 g k e.symm);have hooF:=ho12.keptN X (fun g k e=>m4 g k e.symm);have S:=((hC10.grown (⟨n.os,n.tape,n.output,n.size,fun b p _=>n.block b p⟩:l.grownBy (drew l) none) (fun g k=>by cases k)).grown E (fun g k=>.inr (.inr (.inr (.inr (.inl k)))))).grown X S7;have I:∀b,jD ⟨sb,mb,.slice ao' (mvs++[(⟨.slice mo m.length mc⟩:Raw)]).length ac',nv,.slice oo' (s.2.1++[fr]).length oc',mvs++[(⟨.slice mo m.length mc⟩:Raw)],nvs,p1,p2,tok,st,N,xt,lo⟩ b->
   jD ⟨sb,mb,.slice ao s.1.length ac,nv,.slice oo s.2.1.length oc,mvs,nvs,p1,p2,tok,st,N,xt,lo⟩ b\/w0.heap.size<=b:=by
  intro b p
  rcases p with h|h|h|h|h|h
  ·exact .inl (.inl h)
  ·exact .inl (.inr (.inl h))
  ·exact(Q b h).imp (fun h=>.inr (.inr (.inl h))) (fun h=>by omega)
  ·exact .inl (.inr (.inr (.inr (.inl h))))
  ·exact(C b h).imp (fun h=>.inr (.inr (.inr (.inr (.inl h))))) (fun h=>by omega)
  ·exact .inl (.inr (.inr (.inr (.inr (.inr h)))))
 rw[U]at hS hm hmT same
 have hmi:=(hS.mi.to (bI S) I).push (Fb.to hm (bI S) I) (Fb.toT hmT (bI S) I);have hni:=hS.ni.to (bI S) I;dsimp only at hmi hni
 have hml2:(mvs++[(⟨.slice mo m.length mc⟩:Raw)]).length=s.1.length+1:=by rw[OT,U];rfl
 refine Tw ?_;rw[U];refine bl rfl rfl rfl ⟨⟨sb,mb,.slice ao' (mvs++[(⟨.slice mo m.length mc⟩:Raw)]).length ac',nv,.slice oo' (s.2.1++[fr]).length oc',mvs++[(⟨.slice mo m.length mc⟩:Raw)],nvs,p1,p2,tok,st,N,xt,lo⟩,rfl,?_,same,S,I⟩;refine⟨f,?_,hmoF,L,hooF,hmi,hni,hS.ge,hS.lob,(fun g k=>⟨(hS.xo g k).1,Qn (hS.xo g k).2 S.size⟩),⟨d.d01,n2.sym,d.d03,m4.sym,n12.sym,d.d13,m14.sym,n23,m24.sym,m34.sym,d.d05,d.d15,n25,d.d35,m45⟩,?_,?_,?_⟩
 ·dsimp only
  rw[Pb];exact G
 ·intro x hx
  rcases Ph.1 hx with hx|hx
  ·exact hS.ok x hx
  ·rw[Py]at hx;subst hx;exact⟨hN,hT⟩
 ·rw[PB]
  refine⟨hS.nd,by simp,fun a ha b p e=>?_⟩;rw[Py]at p
  subst p;subst e;exact hin ha
 ·have:=hlim
  dsimp only;simp only[OT,OU,O2];omega
def Chg.step{S S':Nat->Prop}{w0 w':World}(h:Chg S w0 w)(k:Chg S' w w')(hS:∀b,S' b->S b\/w0.heap.size<=b):Chg S w0 w':=
 ⟨k.os.trans h.os,k.tape.trans h.tape,k.output.trans h.output,Qk h.size k.size,fun b a hn=>(k.block b (Qn a h.size) (fun c=>(hS b c).elim hn (fun h=>by omega))).trans (h.block b a hn)⟩
def Chg.stepE{S:Nat->Prop}{w0 w':World}(h:Chg S w0 w)(k:Ext w w'):Chg S w0 w':=h.step (S':=fun _=>False) (.ofExt k) S0
def Chg.stepG{S:Nat->Prop}{w0 w':World}{row:Option Nat}(h:Chg S w0 w)(k:w.grownBy w' row)(hS:∀b,row=some b->S b\/w0.heap.size<=b):Chg S w0 w':=
 h.step (S':=fun b=>row=some b) ⟨k.os,k.tape,k.output,k.size,fun b a hn=>k.block b a (fun e=>hn e.symm)⟩ hS
def Lw(B:Nat):Nat->Prop:=fun b=>b<B
def Lw.at[Rep α]{w':World}{S:Nat->Prop}{ao:Option Addr}{cap:Nat}{xs:List α}(h:Sl w (Lw B) ao cap xs)(d:Chg S w w')(e:B<=w.heap.size)(hS:∀b,S b->B<=b):Sl w' (Lw B) ao cap xs:=
 h.mono (fun b a=>d.block b (Qn a e) (fun c=>by have:=hS b c;have:b<B:=a;omega)) fun _ h=>h
def Lw.old[Rep α]{ao:Option Addr}{cap:Nat}{xs:List α}(h:Sl w (Lw B) ao cap xs)(c:B<=w.heap.size):Sl w (dl w) ao cap xs:=h.mono S8 fun b a=>Qn a c
def EG{tok st:Int}{s:Sr}{fr:Int×Int}:(EF tok st s m fr).1.1=s.1\/(EF tok st s m fr).1.1=s.1++[m]:=by
 unfold EF;split
 ·exact .inl rfl
 split
 ·exact .inl rfl
 split
 ·exact .inl rfl
 ·exact .inr rfl
def uf{l:List (List Int)}{b:List Int}{n:Nat}(h:g=l\/g=l++[b])(hn:n<l.length)(a:l.getD n []=m):n<g.length/\g.getD n []=m:=by
 rcases h with rfl|rfl
 ·exact⟨hn,a⟩
 ·refine⟨by simp;omega,?_⟩
  rw[Oi,Oj hn,<-Oi];exact a
def JZ{p:cR}(a:m.length=p.2.length)(b:Tok m):de p m:=⟨a,fun j=>b.at j⟩
def Bd{p:cR}(h:de p m):Tok m:=fun x a=>by
 obtain⟨j,b,rfl⟩:=Pq.1 a;have:=h.2 j;rwa[tn b]at this
def rp{p:cR}{k:Int}(b:de p m)(h:(rk p m k).2=0):de p (rk p m k).1:=by
 obtain⟨_,a⟩:=rm h;exact rq b a.2.2.1 a.2.2.2
def d7(c c':SC):Prop:=c'.sb=c.sb/\c'.p1=c.p1/\c'.p2=c.p2/\c'.tok=c.tok/\c'.st=c.st/\c'.N=c.N/\c'.lo=c.lo
def Srch.grow{w':World}{c:SC}{s:Sr}{nx:List (List cN)}{x':Value}(h:Srch w B c s nx)(d:w.grownBy w' c.xt.ownBlock)(hnb:∀g,x'.ownBlock=some g->c.xt.ownBlock=some g\/w.heap.size<=g)(j:∀g,x'.ownBlock=some g->B<=g/\g<w'.heap.size):
  Srch w' B ⟨c.sb,c.mb,c.mv,c.nv,c.ov,c.mvs,c.nvs,c.p1,c.p2,c.tok,c.st,c.N,x',c.lo⟩ s nx/\(∀b,jD ⟨c.sb,c.mb,c.mv,c.nv,c.ov,c.mvs,c.nvs,c.p1,c.p2,c.tok,c.st,c.N,x',c.lo⟩ b->jD c b\/w.heap.size<=b):=by
 have hd:=h.dis;have l:Chg (jD c) w w':=(Chg.refl _ w).grown d (fun g d=>.inr (.inr (.inr (.inr (.inr d)))));have i:∀b,jD ⟨c.sb,c.mb,c.mv,c.nv,c.ov,c.mvs,c.nvs,c.p1,c.p2,c.tok,c.st,c.N,x',c.lo⟩ b->jD c b\/w.heap.size<=b:=by
  intro b i
  rcases i with h|h|h|h|h|h
  ·exact .inl (.inl h)
  ·exact .inl (.inr (.inl h))
  ·exact .inl (.inr (.inr (.inl h)))
  ·exact .inl (.inr (.inr (.inr (.inl h))))
  ·exact .inl (.inr (.inr (.inr (.inr (.inl h)))))
  ·exact(hnb b h).imp (fun h=>.inr (.inr (.inr (.inr (.inr h))))) id
 have f:=jE h;have na:∀{a:Option Nat},ap a c.xt.ownBlock->(∀g,a=some g->g<w.heap.size)->ap a x'.ownBlock:=fun k kl=>(k.sym.new hnb kl).sym
 refine⟨⟨h.blk.kept d (fun e=>hd.d05 _ rfl e.symm),h.num.kept d (fun e=>hd.d15 _ rfl e.symm),h.mo.keptN d (fun g k e=>hd.d25 g k e.symm),h.no.keptN d (fun g k e=>hd.d35 g k e.symm),h.oo.keptN d (fun g k e=>hd.d45 g k e.symm),h.mi.to l i,h.ni.to l i,h.ge,h.lob,j,
  ⟨hd.d01,hd.d02,hd.d03,hd.d04,hd.d12,hd.d13,hd.d14,hd.d23,hd.d24,hd.d34,na hd.d05 (fun g e=>by cases e;exact(f _ (.inl rfl)).2),na hd.d15 (fun g e=>by cases e;exact(f _ (.inr (.inl rfl))).2),na hd.d25 (fun g e=>(f _ (.inr (.inr (.inl e)))).2),na hd.d35 (fun g e=>(f _ (.inr (.inr (.inr (.inl e))))).2),na hd.d45 (fun g e=>(f _ (.inr (.inr (.inr (.inr (.inl e)))))).2)⟩,h.ok,h.nd,h.lim⟩,i⟩
def oJ(w0:World){c:SC}{s:Sr}{nx:List (List cN)}{so fo:Option Addr}{sc fc:Nat}{ns:List cP}{fl:List cO}(hS:Srch w0 B c s nx)(y:B<=w0.heap.size)(hs:Sl w0 (Lw B) so sc ns)(hf:Sl w0 (Lw B) fo fc fl)
  (I:c.p1=.slice so ns.length sc) (H:c.p2=.slice fo fl.length fc) (J:c.N=fl.length) (hz:(Is (ns,fl)).2=0) (hxt:c.xt=.slice none 0 0) {n:Nat} (hn:n<s.1.length):
  Rt UA 65 [Tg c.sb,Te (n:Int)].toArray w0 fun v w'=>∃c' x,v=.tuple ⟨[x,Te (oC (ns,fl) c.tok c.st n s).2.2]⟩/\Srch w' B c' (oC (ns,fl) c.tok c.st n s).1 nx/\d7 c c'/\
   Chg (jD c) w0 w'/\(∀b,jD c' b->jD c b\/w0.heap.size<=b)/\Own w' w0.heap.size 149 di x (oC (ns,fl) c.tok c.st n s).2.1/\∀g,x.ownBlock=some g->c'.xt.ownBlock=some g:=by
 have hbg:=jE hS;have hBb:∀b,jD c b->B<=b:=fun b h=>(hbg b h).1
 have hlo:=hS.lob;have hmok:∀m∈s.1,de (ns,fl) m:=fun m hm=>JZ (by rw[(hS.ok m hm).1];exact J) (hS.ok m hm).2
 obtain⟨m,hmd⟩:∃m,m=s.1.getD n []:=⟨_,rfl⟩;have hmn:s.1[n]=m:=by rw[hmd,Oi,On hn];rfl
 have hmk:de (ns,fl) m:=hmok m (hmn▸OG hn);have hcm:=Ba hz hmk;unfold oC;rw[<-hmd];refine dV Tryz.func65 Tryz.ntmps65 rfl rfl ?_;have O:∀{w:World} {d:SC} {r:Sr},Srch w B d r nx->n<r.1.length/\r.1.getD n []=m->∃ao ac,d.mv=.slice ao d.mvs.length ac/\∃hv:n<d.mvs.length,Sl w (dl w) ao ac d.mvs/\∃mo mc,d.mvs[n].v=.slice mo m.length mc/\Sl w (dl w) mo mc m:=by
  intro w d r hR hr
  obtain⟨ao,ac,hv,D⟩:=hR.mo.oldN.sl;have hlen:=hR.mi.len;have hn1:n<d.mvs.length:=by rw[hlen];exact hr.1
  obtain⟨mo,mc,he,hms⟩:=hR.mi.el n hn1 hr.1;obtain⟨hr1,hr2⟩:=hr;have e1:r.1[n]=m:=by
   rw[Oi,On hr1]at hr2
   exact hr2
  rw[e1]at he hms
  exact⟨ao,ac,hv,hn1,D,mo,mc,he,hms.mono S8 (fun b f=>f.2.1)⟩
 have A:Ext w0 (drew w0):=Ext.drew w0;obtain⟨ao,ac,Q,Y,D,mo,mc,l,Z⟩:=O hS ⟨hn,hmd.symm⟩;have o:=hS.blk;rw[Q,I,H]at o
 refine T2 ?_;have hSE:∀w1,(fun x=>Ext w0 x) w1->Ext w0 w1:=fun _ h=>h
 refine aG (fun x=>Ext w0 x) [(0,true),(1,true),(2,true),(3,true),(4,true),(5,true),(6,true),(7,true),(8,true),(9,true),(10,true),(11,true),(12,false),(13,true),(14,true),(15,true),(16,true),(17,true)] mixed SN A (Up ?_);refine cg (w:=w0) (F:=dl w0) (fun z hz b f=>hz.block b f) rfl rfl rfl rfl rfl rfl rfl D Y SX (fun u q hu=>?_);obtain⟨rfl,_⟩:=hu.raw;rw[l];refine cD rfl (eN (bK (drew w0) ((hs.mono S8 fun _ h=>h:Sl (drew w0) (Lw B) so sc ns)|>fun h=>Lw.old h (Qk y A.size)) ((hf.mono S8 fun _ h=>h:Sl (drew w0) (Lw B) fo fc fl)|>fun h=>Lw.old h (Qk y A.size)) (Z.up A)) ?_);rintro _ w1 ⟨x,rfl,P,e1⟩
 have hE1:=A.trans e1;refine WL.nil (bf hE1 ?_);rw[Sj hcm]at P
 rw[hcm];obtain⟨xo,xc,rfl,G⟩:=P.slF (F':=fun b=>w0.heap.size<=b/\b<w1.heap.size) S0 (fun g a=>⟨Qk A.size (P.lt g a).1,(P.lt g a).2.1⟩);have hcan:jO (ns,fl) m=jR (ns,fl) m:=by unfold jO;rw[Sj hcm]
 have hcl:=jP (p:=(ns,fl)) (m:=m);rw[hcan]at hcl⊢
 generalize jR (ns,fl) m=can at*
 refine Uu ?_;refine TR ?_;refine CW.loop (S:=Nat×SC×Sr×List cN) (fun t=>[(0,Tg c.sb),(1,Te (n:Int)),(6,t.2.1.xt),(30,.slice xo can.length xc),(31,Te can.length),(32,Te t.1)])
  (fun t w=>t.1<=can.length/\oE (ns,fl) c.tok c.st (n:Int) m (can.drop t.1) t.2.2.1 t.2.2.2=oE (ns,fl) c.tok c.st (n:Int) m can s []/\Srch w B t.2.1 t.2.2.1 nx/\d7 c t.2.1/\Chg (jD c) w0 w/\(∀b,jD t.2.1 b->jD c b\/w0.heap.size<=b)/\Own w w0.heap.size 149 di t.2.1.xt t.2.2.2/\t.2.2.2.length<=t.1
   /\n<t.2.2.1.1.length/\t.2.2.1.1.getD n []=m/\Sl w (Fb t.2.1 w) xo xc can) (fun t=>can.length -t.1) (0,c,s,[]) (by rw[hxt];exact SL) ⟨QK _,by rw[NZ],hS.ext hE1,⟨rfl,rfl,rfl,rfl,rfl,rfl,rfl⟩,.ofExt hE1,fun _ h=>.inl h,by rw[hxt];exact Own.nil,Qj _,hn,hmd.symm,
   G.mono S8 (fun b f=>⟨by show c.lo<=b;have:=f.1;have:=hlo;omega,f.2,fun h=>by have:=(hbg b h).2;have:=f.1;omega⟩)⟩ ?_
 clear o G P D Z Q l hS;rintro⟨i,d,r,out⟩ w2 ⟨hi,M,hS,hsx,hC,K,X,hol,hrn,hrm,G⟩
 dsimp only at hi M hS hsx hC K X hol hrn hrm G⊢
 obtain⟨sb,mb,mv,nv,ov,mvs,nvs,p1,p2,tok,st,N,xt,lo⟩:=d;obtain⟨q1,q2,q3,q4,q5,q6,q7⟩:=hsx;dsimp only at q1 q2 q3 q4 q5 q6 q7 X
 subst q1 q4 q5 q7;rw[I]at q2
 rw[H]at q3
 rw[J]at q6
 subst q2 q3 q6;have hz2:=hC.size;have hB2:B<=w2.heap.size:=Qk y hz2;have hbg2:=jE hS;refine T2 ?_;apply CW.cond rfl<;>intro h
 ·have hi':i<can.length:=by simp at h;omega
  rw[NV hi',oE]at M
  have o:=hS.blk;refine T7 ?_;refine ff G hi' rfl SX (fun q=>?_);generalize can[i]=k at*
  refine T2 ?_;refine eK ?_;refine Uk ?_;refine f_ o (fun L E R=>?_);have hS3:=hS.last (fr:=((n:Int),k)) R E;have hC3:Chg (jD c) w0 L:=hC.stepG R (fun b h=>by cases h;exact K _ (.inl rfl));have hxs3:=Fb.to G ((Chg.refl _ w2).grown R (fun g h=>by cases h;exact .inl rfl)) (fun _ h=>.inl h);have hxo3:=X.keptN R (fun g a e=>hS.dis.d05 g e.symm a);obtain⟨ao,ac,Q,Y,D,mo,mc,l,Z⟩:=O hS3 ⟨hrn,hrm⟩;dsimp only at Q Y D l
  subst Q;have o:=E;have A:Ext L (drew L):=Ext.drew L;have hSE:∀w1,(fun x=>Ext L x) w1->Ext L w1:=fun _ h=>h
  have hB3:B<=L.heap.size:=Qk y hC3.size;have hs3:=Lw.at hs hC3 y hBb;have hf3:=Lw.at hf hC3 y hBb;clear E R;refine T2 ?_;refine aG (fun x=>Ext L x) [(0,true),(1,true),(2,true),(3,true),(4,true),(5,true),(6,true),(7,true),(8,true),(9,true),(10,true),(11,true),(12,true),(13,false),(14,true),(15,true),(16,true),(17,true),(18,true)] mixed SN A (Up ?_);refine cg (w:=L) (F:=dl L) (fun z hz b f=>hz.block b f) rfl rfl rfl rfl rfl rfl rfl D Y SX (fun u q hu=>?_);obtain⟨rfl,_⟩:=hu.raw;rw[l];refine Uq ?_;refine cD rfl (eN (bT (drew L) ((Lw.old hs3 hB3).up A) ((Lw.old hf3 hB3).up A) (Z.up A) k) ?_);rintro _ w4 ⟨x,rfl,j,e4⟩
  have W:=A.trans e4;refine WL.nil (bf W (Uu ?_));have hS4:=hS3.ext W;have hC4:=hC3.stepE W;have hxs4:=Fb.to hxs3 (.ofExt W) (fun _ h=>.inl h);have hxo4:=hxo3.extN W;have hlt3:∀b,jD ⟨c.sb,mb,.slice ao mvs.length ac,nv,ov,mvs,nvs,.slice so ns.length sc,.slice fo fl.length fc,c.tok,c.st,fl.length,xt,c.lo⟩ b->b<L.heap.size:=fun b f=>(jE hS3 b f).2
  by_cases he:(rk (ns,fl) m k).2=0
  case neg=>
   have hz1:((rk (ns,fl) m k).2 != 0)=true:=by simpa using he
   rw[Sj he]at M
   rw[<-M];refine T2 ?_;rw[hz1];refine T8 ?_;exact bl rfl rfl rfl ⟨_,_,rfl,hS4,⟨rfl,I.symm,H.symm,rfl,rfl,J.symm,rfl⟩,hC4,K,Own.nil,fun g a=>by cases a⟩
  rw[Si (by simp[he])]at M
  have hmk4:=rp hmk he;have hT4:=Bd hmk4;rw[he];generalize (rk (ns,fl) m k).1=m' at*
  have hyT:=j.rowT (F:=Fb ⟨c.sb,mb,.slice ao mvs.length ac,nv,ov,mvs,nvs,.slice so ns.length sc,.slice fo fl.length fc,c.tok,c.st,fl.length,xt,c.lo⟩ w4) (fun g a=>⟨by have:=(j.lt g a).1;have:=A.size;have:=hlo;dsimp only;omega,(j.lt g a).2.1,fun h=>by have:=hlt3 g h;have:=(j.lt g a).1;have:=A.size;omega⟩);obtain⟨yo,yc,rfl,hys⟩:=j.slF (F':=Fb ⟨c.sb,mb,.slice ao mvs.length ac,nv,ov,mvs,nvs,.slice so ns.length sc,.slice fo fl.length fc,c.tok,c.st,fl.length,xt,c.lo⟩ w4) S0 (fun g a=>⟨by have:=(j.lt g a).1;have:=A.size;have:=hlo;dsimp only;omega,(j.lt g a).2.1,fun h=>by have:=hlt3 g h;have:=(j.lt g a).1;have:=A.size;omega⟩);refine T4 ?_;refine eK ?_;refine eN (Io w4 hS4 (Qk y hC4.size) hys hyT hmk4.1 hT4 ((n:Int),k)) ?_;rintro _ w5 ⟨C,rfl,V,hsc,hC5,hby5⟩
  dsimp only at V hsc
  have hpe:EF c.tok c.st (r.1,r.2.1,((n:Int),k)) m' ((n:Int),k)=EF c.tok c.st r m' ((n:Int),k):=rfl;rw[hpe]at V⊢
  have hby':∀b,jD C b->jD c b\/w0.heap.size<=b:=fun b h=>(hby5 b h).elim (K b) (fun h=>.inr (Qk hC4.size h))
  have hC6:Chg (jD c) w0 w5:=hC4.step (bI hC5) K;have hxs5:=Fb.to hxs4 (bI hC5) hby5 (Qh hsc.2.2.2.2.2.2.2);have U:=hS4.dis;have hxo5:Own w5 w0.heap.size 149 di xt out:=hxo4.chg hC5 (fun b f hbb=>by
   rcases hbb with h|h|h|h|h|h
   ·exact U.d05 b (by rw[h]) f
   ·exact U.d15 b (by rw[h]) f
   ·exact U.d25 b h f
   ·exact U.d35 b h f
   ·exact U.d45 b h f
   ·exact h)
  obtain⟨g1,g2,g3,g4,g5,g6,g7,g8⟩:=hsc;dsimp only at g1 g2 g3 g4 g5 g6 g7 g8
  have hgr:=uf (EG (tok:=c.tok) (st:=c.st) (s:=r) (m:=m') (fr:=((n:Int),k))) hrn hrm;by_cases T:(EF c.tok c.st r m' ((n:Int),k)).2.2=0
  case neg=>
   have hz1:((EF c.tok c.st r m' ((n:Int),k)).2.2 != 0)=true:=by simpa using T
   rw[Sj T]at M
   rw[<-M];refine T2 ?_;rw[hz1];refine T8 ?_;exact bl rfl rfl rfl ⟨C,_,rfl,V,⟨g1,by rw[g2,I],by rw[g3,H],g4,g5,by rw[g6,J],g8⟩,hC6,hby',Own.nil,fun g a=>by cases a⟩
  rw[Si (by simp[T])]at M
  rw[T];generalize EF c.tok c.st r m' ((n:Int),k)=pe at*
  obtain⟨r',to,er⟩:=pe;dsimp only at M V hgr T⊢
  have hC5z:=hC6.size;refine T4 ?_;refine eK ?_;refine eH (α:=Int×Int) (F:=di) (bytes:=16) (yv:=(k,to)) rfl rfl SX rfl rfl SX hxo5 (Rd.mkPr (c1:=[Te k]) (c2:=[Te to]) (E9 _ _ _) (E9 _ _ _)) hC5z S0 SP SS SM (fun xt' w6 p6 ho6 hg6 hnb6=>?_);rw[<-g7]at hg6 hnb6
  obtain⟨hS6,hb6⟩:=V.grow hg6 hnb6 (fun g a=>⟨Qk y (ho6.lt g a).1,(ho6.lt g a).2.1⟩);have hxlt:∀g,C.xt.ownBlock=some g->w0.heap.size<=g:=fun g a=>by rw[g7]at a;exact(hxo5.lt g a).1
  have hC7:=hC6.stepG hg6 (fun b f=>.inr (hxlt b f));have hxs6:=Fb.to hxs5 ((Chg.refl _ w5).grown hg6 (fun g a=>.inr (.inr (.inr (.inr (.inr a)))))) hb6;refine Tn ?_;refine EX.back (i+1,⟨C.sb,C.mb,C.mv,C.nv,C.ov,C.mvs,C.nvs,C.p1,C.p2,C.tok,C.st,C.N,xt',C.lo⟩,r',out++[(k,to)]) SL ⟨hi',M,hS6,⟨g1,by rw[g2,I],by rw[g3,H],g4,g5,by rw[g6,J],g8⟩,hC7,fun b f=>(hb6 b f).elim (hby' b) (fun h=>.inr (Qk hC5z h)),ho6,by simp;omega,hgr.1,hgr.2,hxs6⟩ SR
 ·obtain rfl:i=can.length:=by simp at h;omega
  rw[NX,oE]at M
  rw[<-M];refine TO ?_;exact bl rfl rfl rfl ⟨_,_,rfl,hS,⟨rfl,I.symm,H.symm,rfl,rfl,J.symm,rfl⟩,hC,K,X,fun g a=>a⟩
instance:IsT UA 75 Raw:=IsT.of SN RG rfl
instance:IsZ UA 75 (⟨.slice none 0 0⟩:Raw) 24:=IsZ.of (z:=.slice none 0 0) SN (fun _ _=>⟨rfl,rfl⟩)
def ub(w:World)(row:Option Nat):w.grownBy w row:=⟨rfl,rfl,rfl,Qj _,fun _ _ _=>rfl⟩
def Srch.pushN{o m:World}{c:SC}{s:Sr}{nx:List (List cN)}{i:List cN}(h:Srch w B c s nx)(E:B<=w.heap.size)(A:Sl w (Fb c w) C K i)(p:RowT (Fb c w) w 2 (.slice C i.length K))
  (D:Own o B 75 di v (c.nvs++[(⟨.slice C i.length K⟩:Raw)])) (j:w.grownBy o c.nv.ownBlock) (hnb:∀g,v.ownBlock=some g->c.nv.ownBlock=some g\/w.heap.size<=g) (d:o.grownBy m (some c.sb))
  (q:Blk m c.sb 98 [c.p1,c.p2,Te c.tok,Te c.st,c.mv,v,.map (some c.mb),c.ov,Te s.2.2.1,Te s.2.2.2]):
  Srch m B ⟨c.sb,c.mb,c.mv,v,c.ov,c.mvs,c.nvs++[(⟨.slice C i.length K⟩:Raw)],c.p1,c.p2,c.tok,c.st,c.N,c.xt,c.lo⟩ s (nx++[i])/\Chg (busyI c) w m/\
   ∀b,jD ⟨c.sb,c.mb,c.mv,v,c.ov,c.mvs,c.nvs++[(⟨.slice C i.length K⟩:Raw)],c.p1,c.p2,c.tok,c.st,c.N,c.xt,c.lo⟩ b->jD c b\/w.heap.size<=b:=by
 have hd:=h.dis;have n:=jE h;have l:Chg (busyI c) w m:=((Chg.refl _ w).grown j (fun g j=>.inr (.inr (.inr (.inl j))))).grown d S7;have f:∀b,jD ⟨c.sb,c.mb,c.mv,v,c.ov,c.mvs,c.nvs++[(⟨.slice C i.length K⟩:Raw)],c.p1,c.p2,c.tok,c.st,c.N,c.xt,c.lo⟩ b->jD c b\/w.heap.size<=b:=by
  intro b q
  rcases q with h|h|h|h|h|h
  ·exact .inl (.inl h)
  ·exact .inl (.inr (.inl h))
  ·exact .inl (.inr (.inr (.inl h)))
  ·exact(hnb b h).imp (fun h=>.inr (.inr (.inr (.inl h)))) id
  ·exact .inl (.inr (.inr (.inr (.inr (.inl h)))))
  ·exact .inl (.inr (.inr (.inr (.inr (.inr h)))))
 have na:∀{a:Option Nat},ap a c.nv.ownBlock->(∀g,a=some g->g<w.heap.size)->ap a v.ownBlock:=fun k kl=>(k.sym.new hnb kl).sym
 have n0:ap (some c.sb) v.ownBlock:=na hd.d03 (fun g e=>by cases e;exact(n _ (.inl rfl)).2);have n1:ap (some c.mb) v.ownBlock:=na hd.d13 (fun g e=>by cases e;exact(n _ (.inr (.inl rfl))).2);have z:ap c.mv.ownBlock v.ownBlock:=na hd.d23 (fun g e=>(n _ (.inr (.inr (.inl e)))).2);have u:ap c.ov.ownBlock v.ownBlock:=na hd.d34.sym (fun g e=>(n _ (.inr (.inr (.inr (.inr (.inl e)))))).2);have r:ap c.xt.ownBlock v.ownBlock:=na hd.d35.sym (fun g e=>(n _ (.inr (.inr (.inr (.inr (.inr e)))))).2);refine⟨⟨q,(h.num.kept j (fun e=>hd.d13 _ rfl e.symm)).kept d (fun e=>hd.d01 (QV e).symm),(h.mo.keptN j (fun g k e=>hd.d23 g k e.symm)).keptN d (fun g k e=>hd.d02 g e.symm k),D.keptN d (fun g k e=>n0 g e.symm k),(h.oo.keptN j (fun g k e=>hd.d34 g e.symm k)).keptN d (fun g k e=>hd.d04 g e.symm k),
  h.mi.to (bI l) f,(h.ni.to (bI l) f).push (Fb.to A (bI l) f) (Fb.toT p (bI l) f),h.ge,h.lob,(fun g k=>⟨(h.xo g k).1,Qn (h.xo g k).2 l.size⟩),
  ⟨hd.d01,hd.d02,n0,hd.d04,hd.d12,n1,hd.d14,z,hd.d24,u.sym,hd.d05,hd.d15,hd.d25,r.sym,hd.d45⟩,h.ok,h.nd,h.lim⟩,l,f⟩
def oF{p:cR}{tok st n:Int}{m:List Int}:∀(l:List Int) (s:Sr) (out:List cN),s.1.length<=(oE p tok st n m l s out).1.1.length
 |[],s,out=>Qj _
 |k::r,s,out=>by
  rw[oE];split
  ·exact Qj _
  have h:s.1.length<=(EF tok st s (rk p m k).1 (n,k)).1.1.length:=by
   rcases EG (tok:=tok) (st:=st) (s:=s) (m:=(rk p m k).1) (fr:=(n,k))with h|h<;>rw[h]
   ·exact Qj _
   ·simp
  split
  ·exact h
  ·exact Qk h (oF r _ _)
def oD{p:cR}{tok st:Int}{n:Nat}{s:Sr}:s.1.length<=(oC p tok st n s).1.1.length:=oF _ _ _
def Gn(w0:World){so fo:Option Addr}{sc fc:Nat}{ns:List cP}{fl:List cO}(hs:Sl w0 (dl w0) so sc ns)(hf:Sl w0 (dl w0) fo fc fl)(tok st:Int):
  Rt UA 28 [Er so sc fo fc ns.length fl.length,Te tok,Te st].toArray w0 fun v w'=>Ext w0 w'/\((FZ (ns,fl) tok st≠0/\v=.tuple ⟨[.pointer none,Te (FZ (ns,fl) tok st)]⟩)\/
   (FZ (ns,fl) tok st=0/\∃c,v=.tuple ⟨[Tg c.sb,Te (runB (ns,fl) tok st).2.2]⟩/\Srch w' w0.heap.size c (runB (ns,fl) tok st).1 (runB (ns,fl) tok st).2.1/\c.lo=w0.heap.size)):=by
 refine dW Tryz.func28 Tryz.ntmps28 rfl rfl ?_;refine T9 ?_;refine eJ fun w1 C e1=>?_
 refine TN ?_;refine eN (dk w1 (hs.up e1) (hf.up e1)) ?_;rintro _ V ⟨x,rfl,l,e2⟩
 have C:=C.ext e2;have U:=e1.trans e2;unfold FZ;by_cases P:(Is (ns,fl)).2=0
 case neg=>
  have E:((Is (ns,fl)).2 != 0)=true:=by simpa using P
  rw[Sj P];refine T2 ?_;rw[E];refine TA ?_;exact bl rfl rfl rfl ⟨U,.inl ⟨P,rfl⟩⟩
 rw[Si (by simp[P]),P];obtain⟨hc0,hse,hl60⟩:=It P;have hpok:=kY hc0;have hf30:=hpok.f;dsimp only at hf30
 by_cases ha:tok<1\/tok>9\/st<1\/st>200
 ·have X:FO tok st=1:=by unfold FO;rw[Sj ha]
  rw[X];have fin:∀(Q:Exit->Act->World->Prop),True:=fun _=>trivial
  refine T4 ?_;by_cases h1:tok<1
  ·rw[R9 h1]
   refine TA ?_;exact bl rfl rfl rfl ⟨U,.inl ⟨by decide,rfl⟩⟩
  rw[R7 h1];refine Ue ?_;by_cases h2:tok>9
  ·rw[R9 h2]
   refine TA ?_;exact bl rfl rfl rfl ⟨U,.inl ⟨by decide,rfl⟩⟩
  rw[R7 h2];refine Ue ?_;by_cases h3:st<1
  ·rw[R9 h3]
   refine TA ?_;exact bl rfl rfl rfl ⟨U,.inl ⟨by decide,rfl⟩⟩
  rw[R7 h3];refine Tl ?_;rw[R9 (show st>200 by omega)];refine TA ?_;exact bl rfl rfl rfl ⟨U,.inl ⟨by decide,rfl⟩⟩
 have X:FO tok st=0:=by unfold FO;rw[Si ha]
 rw[X];refine T4 ?_;rw[R7 (show¬tok<1 by omega)];refine Ue ?_;rw[R7 (show¬tok>9 by omega)];refine Ue ?_;rw[R7 (show¬st<1 by omega)];refine Tl ?_;rw[R7 (show¬st>200 by omega)];refine TE ?_;refine fP (k:=235) rfl rfl (fun H=>?_);have e3:Ext V (V.alloc (.map #[] 0)):=Ext.alloc V _;generalize V.alloc (.map #[] 0)=w3 at*
 have C:=C.ext e3;have U:=U.trans e3;refine eK ?_;refine eJ fun w4 B e4=>?_
 have hlm:=H.lt;have hz2:=e1.size;have hz3:=e2.size;have hz4:=e3.size;have C:=C.ext e4;have K:=U.trans e4;have hS0:Srch w4 w0.heap.size ⟨w3.heap.size,V.heap.size,.slice none 0 0,.slice none 0 0,.slice none 0 0,[],[],.slice so ns.length sc,.slice fo fl.length fc,tok,st,fl.length,.slice none 0 0,w0.heap.size⟩ ([],[],(0,0)) []:=by
  have no:∀{a:Option Nat},ap a none:=fun g _ h=>by cases h
  have no2:∀{a:Option Nat},ap none a:=fun g h _=>by cases h
  refine⟨B,H.ext e4,Own.nil,Own.nil,Own.nil,⟨rfl,fun i h _=>absurd h SQ,fun i h=>absurd h SQ⟩,⟨rfl,fun i h _=>absurd h SQ,fun i h=>absurd h SQ⟩,⟨by dsimp only;omega,by dsimp only;omega⟩,Qj _,(fun g h=>by cases h),⟨by dsimp only;omega,no,no,no,no,no,no,no2,no2,no2,no,no,no2,no2,no2⟩,(fun m h=>by cases h),List.Pairwise.nil,⟨by dsimp only;simp;omega,by dsimp only;omega,by dsimp only;omega,rfl,by dsimp only;omega⟩⟩
 refine TN ?_;refine eN (aq w4 (hs.up K) (hf.up K)) ?_;rintro _ w5 ⟨x,rfl,l,e5⟩
 rw[Sj P]at l
 have hS5:=hS0.ext e5;have hE5:=K.trans e5;have hbm:=i6 (p:=(ns,fl));have Y:=fun b h=>(jE hS0 b h).2
 have W:=l.rowT (F:=Fb ⟨w3.heap.size,V.heap.size,.slice none 0 0,.slice none 0 0,.slice none 0 0,[],[],.slice so ns.length sc,.slice fo fl.length fc,tok,st,fl.length,.slice none 0 0,w0.heap.size⟩ w5) (fun g z=>⟨by have:=(l.lt g z).1;have:=K.size;dsimp only;omega,(l.lt g z).2.1,fun h=>by have:=Y g h;have:=(l.lt g z).1;omega⟩);obtain⟨xo,xc,rfl,M⟩:=l.slF (F':=Fb ⟨w3.heap.size,V.heap.size,.slice none 0 0,.slice none 0 0,.slice none 0 0,[],[],.slice so ns.length sc,.slice fo fl.length fc,tok,st,fl.length,.slice none 0 0,w0.heap.size⟩ w5) S0 (fun g z=>⟨by have:=(l.lt g z).1;have:=K.size;dsimp only;omega,(l.lt g z).2.1,fun h=>by have:=Y g h;have:=(l.lt g z).1;omega⟩);unfold runB;generalize iZ (ns,fl)=m0 at*
 refine T2 ?_;refine eK ?_;refine eN (Io w5 hS5 hE5.size M W hbm.1 (Bd hbm) (-1,-1)) ?_;rintro _ w6 ⟨c,rfl,N,j,hC6,hby6⟩
 dsimp only at N j
 have hE6:Ext w0 w6:=(bI hC6).ext hE5 (fun b h=>(jE hS5 b h).1);by_cases hp:(EF tok st ([],[],(0,0)) m0 (-1,-1)).2.2=0
 case neg=>
  have E:((EF tok st ([],[],(0,0)) m0 (-1,-1)).2.2 != 0)=true:=by simpa using hp
  rw[Sj hp];have R:=j.2.2.2.2.2.2.2;obtain⟨g1,_⟩:=j;dsimp only at g1 R
  refine T2 ?_;rw[E];refine TA ?_;exact bl rfl rfl rfl ⟨hE6,.inr ⟨rfl,c,by rw[g1],N,R⟩⟩
 rw[Si (by simp[hp]),hp];generalize (EF tok st ([],[],(0,0)) m0 (-1,-1)).1=s0 at*
 clear hS0 hS5 M l Y B H hby6 hC6;refine TE ?_;refine CW.loop (S:=Nat×SC×Sr×List (List cN)) (fun t=>[(10,Tg w3.heap.size),(15,Te t.1)])
  (fun t w=>t.1<=t.2.2.1.1.length/\FW (ns,fl) tok st (201 -t.1) t.1 t.2.2.1 t.2.2.2=FW (ns,fl) tok st 201 0 s0 []/\Srch w w0.heap.size t.2.1 t.2.2.1 t.2.2.2/\t.2.1.xt=.slice none 0 0/\t.2.2.2.length=t.1/\t.2.1.sb=w3.heap.size/\t.2.1.p1=.slice so ns.length sc/\t.2.1.p2=.slice fo fl.length fc/\t.2.1.tok=tok/\t.2.1.st=st/\t.2.1.N=fl.length/\t.2.1.lo=w0.heap.size/\Ext w0 w)
  (fun t=>201 -t.1) (0,c,s0,[]) SL ⟨QK _,rfl,N,j.2.2.2.2.2.2.1,rfl,j.1,j.2.1,j.2.2.1,j.2.2.2.1,j.2.2.2.2.1,j.2.2.2.2.2.1,j.2.2.2.2.2.2.2,hE6⟩ ?_
 clear N j;rintro⟨n,c,s,nx⟩ w7 ⟨hn,L,hS,hxt,hnl,q1,q2,q3,q4,q5,q6,q7,u⟩
 dsimp only at hn L hS hxt hnl q1 q2 q3 q4 q5 q6 q7 u⊢
 have T:=hS.lim;have hml:=hS.mi.len;obtain⟨ao,ac,hmv⟩:=hS.mo.val;have B:=hS.blk;rw[hmv,q1,hml]at B
 have hn200:s.1.length<=200:=by have:=T.1;have:=T.2.2.1;omega
 obtain⟨f,hf201⟩:∃f,201 -n=f+1:=⟨200 -n,by omega⟩;rw[hf201,FW]at L
 refine TQ ?_;apply CW.cond rfl<;>intro h
 ·have hn':n<s.1.length:=by simp at h;omega
  rw[Sj hn']at L
  refine TL ?_;rw[<-q1];refine eN (oJ w7 hS u.size (hs.at u) (hf.at u) q2 q3 q6 P hxt hn') ?_;rintro _ w8 ⟨c',x,rfl,J,hsx,hC8,hby8,d,hxx⟩
  rw[q4,q5]at J d⊢
  obtain⟨g1,g2,g3,g4,g5,g6,g7⟩:=hsx;have O:Ext w0 w8:=hC8.ext u (fun b h=>(jE hS b h).1);by_cases he:(oC (ns,fl) tok st n s).2.2=0
  case neg=>
   have E:((oC (ns,fl) tok st n s).2.2 != 0)=true:=by simpa using he
   rw[Sj he]at L
   rw[<-L];refine T2 ?_;rw[E];refine T8 ?_;exact bl rfl rfl rfl ⟨O,.inr ⟨rfl,c',by rw[g1],J,by rw[g7,q7]⟩⟩
  rw[Si (by simp[he])]at L
  rw[he];have Z:=oD (p:=(ns,fl)) (tok:=tok) (st:=st) (n:=n) (s:=s);generalize oC (ns,fl) tok st n s=ee at*
  obtain⟨s',es,er⟩:=ee;dsimp only at L J d he Z⊢
  have q:=J.dis;obtain⟨D,hb9⟩:=J.grow (x':=.slice none 0 0) (ub w8 _) (fun g h=>by cases h) (fun g h=>by cases h);have W:=d.rowT (F:=Fb ⟨c'.sb,c'.mb,c'.mv,c'.nv,c'.ov,c'.mvs,c'.nvs,c'.p1,c'.p2,c'.tok,c'.st,c'.N,.slice none 0 0,c'.lo⟩ w8) (fun g z=>⟨by have:=(d.lt g z).1;have:=u.size;dsimp only;omega,(d.lt g z).2.1,fun h=>by
   have o:=hxx g z;rcases h with h|h|h|h|h|h
   ·exact q.d05 g (by rw[h]) o
   ·exact q.d15 g (by rw[h]) o
   ·exact q.d25 g h o
   ·exact q.d35 g h o
   ·exact q.d45 g h o
   ·cases h⟩)
  obtain⟨xo,xc,rfl,M⟩:=d.slF (F':=Fb ⟨c'.sb,c'.mb,c'.mv,c'.nv,c'.ov,c'.mvs,c'.nvs,c'.p1,c'.p2,c'.tok,c'.st,c'.N,.slice none 0 0,c'.lo⟩ w8) S0 (fun g z=>⟨by have:=(d.lt g z).1;have:=u.size;dsimp only;omega,(d.lt g z).2.1,fun h=>by
   have o:=hxx g z;rcases h with h|h|h|h|h|h
   ·exact q.d05 g (by rw[h]) o
   ·exact q.d15 g (by rw[h]) o
   ·exact q.d25 g h o
   ·exact q.d35 g h o
   ·exact q.d45 g h o
   ·cases h⟩)
  have I:=D.no;have A:=D.blk;have hnl9:=D.ni.len;dsimp only at I A hnl9
  obtain⟨no,nc,G⟩:=I.val;rw[G,g1]at A
  refine T_ ?_;refine eH (α:=Raw) (F:=di) (bytes:=24) (yv:=(⟨.slice xo es.length xc⟩:Raw)) rfl rfl SX rfl rfl SX (G▸I) (Rd.mkRaw _ _ _ rfl) O.size S0 SP SS SM (fun nv' w9 p9 ho9 hg9 hnb9=>?_);obtain⟨no',nc',rfl⟩:=ho9.val;have r:=A.kept hg9 (fun e=>D.dis.d03 c.sb (by dsimp only;rw[g1]) (by dsimp only;rw[G];exact e.symm));refine Uk ?_;refine f_ r (fun w10 r hg10=>?_);obtain⟨hS10,hC10,hb10⟩:=D.pushN O.size M W ho9 (by dsimp only;rw[G];exact hg9) (by dsimp only;rw[G];exact hnb9) (by dsimp only;rw[g1];exact hg10) (by dsimp only;rw[g1];exact r);have hE10:Ext w0 w10:=(bI hC10).ext O (fun b h=>(jE D b h).1);refine Tn ?_;refine EX.back (n+1,_,s',nx++[es]) SL ⟨?_,?_,hS10,rfl,by simp[hnl],by dsimp only;rw[g1,q1],by dsimp only;rw[g2,q2],by dsimp only;rw[g3,q3],by dsimp only;rw[g4,q4],by dsimp only;rw[g5,q5],by dsimp only;rw[g6,q6],by dsimp only;rw[g7,q7],hE10⟩ SR
  ·dsimp only;omega
  ·rw[show 201 -(n+1)=f by omega];exact L
 ·obtain rfl:n=s.1.length:=by simp at h;omega
  rw[Si (Ql _)]at L
  rw[<-L];refine TO ?_;exact bl rfl rfl rfl ⟨u,.inr ⟨rfl,c,by rw[q1],hS,q7⟩⟩
def GF(lo hi:Nat)(x y:Value):Nat->Prop:=fun b=>lo<=b/\b<hi/\x.ownBlock≠some b/\y.ownBlock≠some b
structure LOut{α:Type}[Rep α](w:World)(lo hi:Nat)(x y:Value)(t:TypeId)(v:Value)(vs:List Raw)(xs:List (List α)):Prop where
 own:Own w lo t di v vs
 top:∀g,v.ownBlock=some g->g<hi
 len:vs.length=xs.length
 el:∀i (h:i<vs.length) (h':i<xs.length),∃ao cap,vs[i].v=.slice ao xs[i].length cap/\Sl w (GF lo hi x y) ao cap xs[i]
 ty:∀i (h:i<vs.length),RowT (GF lo hi x y) w (sz α) vs[i].v
section
variable {α:Type}[Rep α]{w w':World}{lo hi:Nat}{x y v:Value}{t:TypeId}{vs:List Raw}{xs:List (List α)}
theorem LOut.to(h:LOut w lo hi x y t v vs xs)(a:∀b,lo<=b->b<hi->w'.heap[b]?=w.heap[b]?):LOut w' lo hi x y t v vs xs:=
 ⟨h.own.keep (fun g c=>a g (h.own.lt g c).1 (h.top g c)) S0,h.top,h.len,fun i h1 h2=>by
  obtain⟨ao,cap,e,d⟩:=h.el i h1 h2;exact⟨ao,cap,e,d.mono (fun b h=>a b h.1 h.2.1) fun _ h=>h⟩,fun i h1=>(h.ty i h1).to fun b h _=>⟨h,a b h.1 h.2.1⟩⟩
theorem LOut.low(h:LOut w lo hi x y t v vs xs){lo':Nat}(a:lo'<=lo):LOut w lo' hi x y t v vs xs:=
 ⟨h.own.low a,h.top,h.len,fun i h1 h2=>by
  obtain⟨ao,cap,e,c⟩:=h.el i h1 h2;exact⟨ao,cap,e,c.mono S8 fun b h=>⟨Qk a h.1,h.2⟩⟩,fun i h1=>(h.ty i h1).to fun b h _=>⟨⟨Qk a h.1,h.2⟩,rfl⟩⟩
theorem LOut.nil:LOut w lo hi x y t (.slice none 0 0) [] ([]:List (List α)):=⟨Own.nil,(fun g h=>by cases h),rfl,fun i h _=>absurd h SQ,fun i h=>absurd h SQ⟩
theorem LOut.rd(h:LOut w lo hi x y t v vs xs){F:Nat->Prop}(hF:∀b,lo<=b->b<hi->F b):Rd w F v xs:=by
 obtain⟨ao,cap,e,c⟩:=h.own.slF (F':=F) S0 (fun g k=>hF g (h.own.lt g k).1 (h.top g k));have d:Sl w F ao cap xs:=by
  refine⟨by rw[<-h.len];exact c.le,c.mx,c.nil,fun i hi=>?_⟩;have a:i<vs.length:=by rw[h.len];exact hi
  obtain⟨b,off,p,j,q,n,m⟩:=c.el i a;obtain⟨rfl,h1⟩:=m;obtain⟨io,ic,o,f⟩:=h.el i a hi;exact⟨b,off,p,j,[vs[i].v],n,io,ic,by rw[o],f.mono S8 (fun b l=>hF b l.1 l.2.1)⟩
 rw[e,h.len];exact d.rd
end
def bN(w0:World){so fo:Option Addr}{sc fc:Nat}{ns:List cP}{fl:List cO}(p:Sl w0 (dl w0) so sc ns)(hf:Sl w0 (dl w0) fo fc fl)(tok st:Int):
  Rt UA 10 [Er so sc fo fc ns.length fl.length,Te tok,Te st].toArray w0 fun v w'=>∃x y mvs nvs,v=.tuple ⟨[.agg [x,y].toArray,Te (pS (ns,fl) tok st).2]⟩/\LOut w' w0.heap.size w'.heap.size x y 39 x mvs (pS (ns,fl) tok st).1.1/\LOut w' w0.heap.size w'.heap.size x y 75 y nvs (pS (ns,fl) tok st).1.2/\Ext w0 w':=by
 refine dW Tryz.func10 Tryz.ntmps10 rfl rfl ?_;refine T9 ?_;refine eJ fun I r C=>?_
 skip;refine eF (fun s a H=>?_);have r:=r.ext H;have B:=C.trans H;have L:=a.lt;refine TN ?_;refine eN (Gn s (p.up B) (hf.up B) tok st) ?_;rintro _ n ⟨G,J⟩
 have a:=a.ext G;have f:=B.trans G;unfold pS;rcases J with⟨u,rfl⟩|⟨u,c,rfl,hS,D⟩
 ·rw[Sj u]
  have k:(FZ (ns,fl) tok st != 0)=true:=by simpa using u
  refine T2 ?_;rw[k];refine TZ ?_;refine WL.build (parts:=[]) rfl rfl rfl rfl ?_;refine Ue ?_;refine f_ a (fun o a d=>?_);refine T5 ?_;exact bu rfl rfl rfl a rfl ⟨_,_,[],[],rfl,LOut.nil,LOut.nil,f.grown d f.size (fun g j=>by cases j;exact C.size)⟩
 rw[Si (by simp[u])];by_cases z:(runB (ns,fl) tok st).2.2=0
 case neg=>
  rw[Sj z];have k:((runB (ns,fl) tok st).2.2 != 0)=true:=by simpa using z
  refine T2 ?_;rw[k];refine TZ ?_;refine WL.build (parts:=[]) rfl rfl rfl rfl ?_;refine Ue ?_;refine f_ a (fun o a d=>?_);refine T5 ?_;exact bu rfl rfl rfl a rfl ⟨_,_,[],[],rfl,LOut.nil,LOut.nil,f.grown d f.size (fun g j=>by cases j;exact C.size)⟩
 rw[Si (by simp[z]),z];have q:=hS.blk;have K:c.sb≠I.heap.size:=by have:=hS.ge.1;omega
 obtain⟨ao,ac,m⟩:=hS.mo.val;obtain⟨no,M,l⟩:=hS.no.val;rw[m,l]at q
 refine T_ ?_;refine f_ a (fun o a d=>?_);have rdl:∀{α:Type} [Rep α] {t:TypeId} {v:Value} {vs:List Raw} {xs:List (List α)},Own n s.heap.size t di v vs->Inn n c vs xs->LOut o w0.heap.size o.heap.size c.mv c.nv t v vs xs:=by
  intro α _ t v vs xs E hi
  have F:∀b,Fb c n b->GF s.heap.size n.heap.size c.mv c.nv b:=fun b A=>⟨by rw[<-D];exact A.1,A.2.1,fun e=>A.2.2 (.inr (.inr (.inl e))),fun e=>A.2.2 (.inr (.inr (.inr (.inl e))))⟩
  have h3:LOut n s.heap.size n.heap.size c.mv c.nv t v vs xs:=⟨E,fun g j=>(E.lt g j).2.1,hi.len,fun i h1 h2=>by
   obtain⟨ao,cap,e,p⟩:=hi.el i h1 h2;exact⟨ao,cap,e,p.mono S8 F⟩,fun i h1=>(hi.ty i h1).to fun b h _=>⟨F b h,rfl⟩⟩
  have h4:=(h3.to (w':=o) fun b h1 h2=>d.block b h2 S6).low B.size;exact⟨h4.own,fun g j=>Qn (h4.top g j) d.size,h4.len,fun i k1 k2=>by
   obtain⟨ao,cap,e,p⟩:=h4.el i k1 k2;exact⟨ao,cap,e,p.mono S8 fun b h=>⟨h.1,Qn h.2.1 d.size,h.2.2⟩⟩,fun i k1=>(h4.ty i k1).to fun b h _=>⟨⟨h.1,Qn h.2.1 d.size,h.2.2⟩,rfl⟩⟩
 refine Tk ?_;exact bu rfl rfl rfl a rfl ⟨_,_,c.mvs,c.nvs,rfl,by rw[<-m,<-l];exact rdl hS.mo hS.mi,by rw[<-m,<-l];exact rdl hS.no hS.ni,f.grown d f.size (fun g j=>by cases j;exact C.size)⟩
def bM(w0:World){so fo:Option Addr}{sc fc:Nat}{ns:List cP}{fl:List cO}(a:Sl w0 (dl w0) so sc ns)(hf:Sl w0 (dl w0) fo fc fl)(tok st:Int):
  Rt UA 10 [Er so sc fo fc ns.length fl.length,Te tok,Te st].toArray w0 fun v w'=>∃x y,v=.tuple ⟨[.agg [x,y].toArray,Te (pS (ns,fl) tok st).2]⟩/\Rd w' (dl w') x (pS (ns,fl) tok st).1.1/\Rd w' (dl w') y (pS (ns,fl) tok st).1.2/\Ext w0 w':=
 Rt.mono (bN w0 a hf tok st) fun v w' ⟨x,y,_,_,e,h1,h2,c⟩=>⟨x,y,e,h1.rd (fun b _ h=>h),h2.rd (fun b _ h=>h),c⟩
def Cells.hd'{b o:Nat}{x:Value}(h:Cells w b o (x::r)):Cells w b o [x]:=fun j u a=>by
 match j,a with
 |0,a=>exact h 0 u (by simpa using a)
def Sl.edge0{ao:Option Addr}{cap:Nat}{xs:List cN}(h:Sl w F ao cap xs){i:Nat}(hi:i<xs.length):∃b off,ao=some ⟨b,off,none⟩/\F b/\Cells w b (off+i*2) [Te xs[i].1]/\Cells w b (off+i*2+1) [Te xs[i].2]:=by
 obtain⟨b,off,e,d,f,a,c⟩:=h.el i hi;obtain⟨c1,c2,rfl,h1,h2⟩:=Fd c;rw[E7 h1,E7 h2]at a
 exact⟨b,off,e,d,a.hd',a.tl'⟩
def Sl.step0{ao:Option Addr}{cap:Nat}{xs:List cT}(h:Sl w F ao cap xs){i:Nat}(hi:i<xs.length):∃b off,ao=some ⟨b,off,none⟩/\F b/\Cells w b (off+i*3) [Te xs[i].1]:=by
 obtain⟨b,off,e,d,f,a,c⟩:=h.el i hi;obtain⟨c1,c2,rfl,h1,h2⟩:=Fd c;rw[E7 h1]at a
 exact⟨b,off,e,d,a.hd'⟩
def E6{x:cN}(h:Rd w F v x):v=.agg [Te x.1,Te x.2].toArray:=by
 obtain⟨c1,c2,rfl,h1,h2⟩:=h.pr;rw[E7 h1,E7 h2];rfl
def tr{l:List cN}{j:Nat}(h:j<l.length):l.getD j (0,0)=l[j]:=by rw[Oi,On h];rfl
def tC{l:List (List cN)}{j:Nat}(h:j<l.length):l.getD j []=l[j]:=by rw[Oi,On h];rfl
def tD{l:List cT}{j:Nat}(h:j<l.length):l.getD j (0,0,0)=l[j]:=by rw[Oi,On h];rfl
def HA{s:Nat}(a:s<62):IntKind.u64.wrap (1*2 ^ min ((s:Int)).toNat IntKind.u64.bits)=((2 ^ s:Nat):Int):=by
 have h1:min ((s:Int)).toNat IntKind.u64.bits=s:=by
  rw[Nt];exact Qp (by show s<=64;omega)
 rw[h1,Ns];have h2:(2:Nat) ^ s<2 ^ 62:=QC SP a;have h3:((2:Int)) ^ s=((2 ^ s:Nat):Int):=by push_cast;rfl
 rw[h3];generalize (2:Nat) ^ s=q at*
 simp[IntKind.wrap,IntKind.bits,IntKind.signed]<;>omega
def RunAt(w:World)(sb:Nat)(sl:List cT)(nx:List (List cN)):Prop:=
 ∃(lo:Option Addr) (b:Nat) (mv:Value) (no:Option Addr) (a:Nat) (oo:Option Addr) (oc:Nat) (ao:Option Addr) (ac:Nat) (yo:Option Addr) (yc:Nat) (f e d c:Value),
  Blk w sb 129 [.slice lo sl.length b,mv,.slice no nx.length a,.slice oo (iw nx nx.length) oc,.slice ao nx.length ac,.slice yo nx.length yc,f,e,d,c]/\
  Sl w (dl w) lo b sl/\Sl w (dl w) no a nx/\Sl w (dl w) oo oc (Cz nx nx.length)/\Sl w (dl w) ao ac (ir nx nx.length)/\Sl w (dl w) yo yc (A1 nx nx.length)
def RunAt.up{w':World}{sl:List cT}{nx:List (List cN)}(h:RunAt w B sl nx)(a:Ext w w'):RunAt w' B sl nx:=by
 obtain⟨lo,g,mv,no,f,oo,oc,ao,ac,yo,yc,e,d,c,b,i,h1,h2,h3,h4,j⟩:=h;exact⟨lo,g,mv,no,f,oo,oc,ao,ac,yo,yc,e,d,c,b,i.ext a,h1.up a,h2.up a,h3.up a,h4.up a,j.up a⟩
def atL_len{nx:List (List cN)}{k:Nat}:(ir nx k).length=k:=by simp[ir]
def manyL_len{nx:List (List cN)}{k:Nat}:(A1 nx k).length=k:=by simp[A1]
def it{nx:List (List cN)}{k m:Nat}(h:m<(ir nx k).length):(ir nx k)[m]=((iw nx m:Nat):Int):=by simp[ir]
def A2{nx:List (List cN)}{k m:Nat}(h:m<(A1 nx k).length):(A1 nx k)[m]=((Bt nx m:Nat):Int):=by simp[A1]
def iy{nx:List (List cN)}(h:∀j,(nx.getD j []).length<=60):∀n,iw nx n<=60*n
 |0=>by rw[iC];omega
 |n+1=>by
  rw[iB];have:=iy h n;have:=h n;unfold Bt;omega
def CF{sl:List cT}{nx:List (List cN)}(c:NxOk sl nx){j:Nat}(b:j<iw nx nx.length):
  ∃n i,n<nx.length/\i<Bt nx n/\j=iw nx n+i/\(CD nx j).2=(n:Int)/\((CD nx j).1= -1/\nx.getD n []=[]\/0<=(CD nx j).1/\(CD nx j).1<sl.length/\i<(nx.getD n []).length/\CD nx j=(((nx.getD n []).getD i (0,0)).1,(n:Int))):=by
 obtain⟨n,i,hn,hi,rfl⟩:=CH b;refine⟨n,i,hn,hi,rfl,?_⟩;rw[CE hn hi];by_cases h:nx.getD n []=[]
 ·rw[Sj h];exact⟨rfl,.inl ⟨rfl,h⟩⟩
 ·rw[Si h]
  have d:0<(nx.getD n []).length:=O3.2 h;have a:i<(nx.getD n []).length:=by unfold Bt at hi;omega
  have:=c.ed n hn _ (OG a);rw[<-tr a]at this
  exact⟨rfl,.inr ⟨this.1,this.2.1,a,rfl⟩⟩
def gP(w0:World){m:Nat}{sl:List cT}{nx:List (List cN)}(hR:RunAt w0 B sl nx)(n:NxOk sl nx)(I:m<nx.length):
  Rt UA 49 [Tg B,Te (m:Int)].toArray w0 fun v w'=>Own w' w0.heap.size 3 di v (gH nx m)/\Ext w0 w':=by
 obtain⟨lo,H,mv,no,G,oo,oc,ao,ac,yo,yc,C,A,z,y,p,h1,h2,h3,h4,x⟩:=hR;have u:=iy n.row m;have r:Bt nx m<=60:=by have:=n.row m;unfold Bt;omega
 have d:=n.n;have f:nx.length=(ir nx nx.length).length:=atL_len.symm;have e:nx.length=(A1 nx nx.length).length:=manyL_len.symm;refine dV Tryz.func49 Tryz.ntmps49 rfl rfl ?_;refine Tv ?_;rw[show Value.slice yo nx.length yc=.slice yo (A1 nx nx.length).length yc by rw[<-e]];refine fe (i:=m) rfl rfl rfl rfl rfl x SM (A2 _) SX (fun q=>?_);refine TR ?_;refine CW.loop (S:=Nat×Value) (fun s=>[(0,Tg B),(1,Te m),(5,s.2),(13,Te ((Bt nx m:Nat):Int)),(14,Te s.1)])
  (fun s w=>s.1<=Bt nx m/\Own w w0.heap.size 3 di s.2 ((List.range s.1).map fun i:Nat=>((iw nx m+i:Nat):Int))/\Ext w0 w) (fun s=>Bt nx m -s.1) (0,.slice none 0 0) SL ⟨QK _,Own.nil,Ext.refl _⟩ ?_
 rintro⟨i,ov⟩ E ⟨hi,b,a⟩
 dsimp only at hi b a⊢
 have p:=p.ext a;refine T2 ?_;apply CW.cond rfl<;>intro h
 ·have k:i<Bt nx m:=by simp only[R_]at h;omega
  clear h;refine TS ?_;rw[show Value.slice ao nx.length ac=.slice ao (ir nx nx.length).length ac by rw[<-f]];refine fe (i:=m) rfl rfl rfl rfl rfl (h4.up a) SM (it _) SX (fun q=>?_);refine Uj ?_;refine eH (α:=Int) (F:=di) (bytes:=8) (yv:=((iw nx m:Nat):Int)+(i:Int)) rfl rfl SX rfl rfl SX b S_ a.size S0 SP (by unfold maxLen;simp;omega) ST (fun ov' D q ho2 l o=>?_);have c:(List.range (i+1)).map (fun i:Nat=>((iw nx m+i:Nat):Int))=(List.range i).map (fun i:Nat=>((iw nx m+i:Nat):Int))++[((iw nx m:Nat):Int)+(i:Int)]:=by
   rw[PL,Pb];simp
  rw[<-c]at ho2
  refine Tn ?_;exact EX.back (i+1,ov') SL ⟨k,ho2,MT a l a.size (fun g t=>(b.lt g t).1)⟩ SR
 have j:i=Bt nx m:=by simp only[R8]at h;omega
 subst j;refine TO ?_;exact bj ⟨b,a⟩
def FG(w0:World){j:Nat}{sl:List cT}{nx:List (List cN)}(hR:RunAt w0 B sl nx)(l:NxOk sl nx)(w:j<iw nx nx.length):
  Rt UA 47 [Tg B,Te (j:Int)].toArray w0 fun v w'=>Own w' w0.heap.size 3 di v (BN nx j)/\Ext w0 w':=by
 have M:=hR;obtain⟨lo,lc,mv,no,nc,oo,oc,ao,ac,yo,yc,x1,x2,x3,Z,T,h1,h2,h3,h4,h5⟩:=hR;obtain⟨n,i,hn,hi,X,m,R⟩:=CF l w;have Y:=iy l.row n;have H:=l.n;have I:nx.length=(ir nx nx.length).length:=atL_len.symm;have E:iw nx nx.length=(Cz nx nx.length).length:=rfl;have J:(Cz nx nx.length)[j]'w=CD nx j:=(tr w).symm;unfold BN;refine dV Tryz.func47 Tryz.ntmps47 rfl rfl ?_;refine Tv ?_;rw[E];refine fg (i:=j) rfl rfl rfl rfl rfl h3 w SX (fun u q b=>?_);rw[J]at b
 rw[E6 b];clear b;skip;refine eF (fun w1 f P=>?_);skip;refine f_ f (fun d f p=>?_);have e:Ext w0 d:=MT P p P.size SZ;have T:=T.ext e;have hR:=M.up e;clear P p;refine TJ ?_;by_cases a:(CD nx j).1<0
 ·rw[R9 a,Sj a]
  refine TZ ?_;refine WL.lit (F:=di) (ys:=[(j:Int)]) rfl rfl rfl rfl rfl (.cons S_ .nil) (by show 1*1<=16777216;decide) S0 (fun Q G K=>?_);have O:Ext d Q:=(MW _ _).grown K Ta S5;refine T5 ?_;exact bj ⟨G.low e.size,e.trans O⟩
 rw[R7 a,Si a];rcases R with⟨R,_⟩|⟨_,_,c,V⟩
 ·omega
 have L:=l.ed n hn _ (OG c);rw[<-tr c]at L
 have x:JO nx j=(nx.getD n []).getD i (0,0):=by
  unfold JO;rw[m,Nt,show j -iw nx n=i by omega]
 rw[x];obtain⟨t,S⟩:∃t:Nat,((nx.getD n []).getD i (0,0)).2=(t:Int):=⟨((nx.getD n []).getD i (0,0)).2.toNat,by omega⟩;rw[S,Nt];rw[m]at f
 have g:∀z,(fun z:World=>Ext d z) z->Ext d z:=fun _ h=>h
 refine T3 ?_;refine aG (fun z:World=>Ext d z) [(0,true),(1,true),(2,true),(3,true),(4,true),(5,true),(6,true),(7,true),(8,true),(9,true),(10,true),(11,true),(12,true),(13,true),(14,true),(15,true),(16,true),(17,true),(18,true),(19,true),(20,true),(21,true),(22,true),(23,false),(24,true)] mixed SN (Ext.drew d) ?_;refine Ut ?_;refine cj (k:=n) g rfl rfl rfl rfl rfl rfl rfl S3 (h2.up e) hn SX (fun u q b=>?_);rw[<-tC hn]at b
 obtain⟨ro,rc,rfl,W⟩:=b.sl;refine Ut ?_;rw[show Value.slice ao nx.length ac=.slice ao (ir nx nx.length).length ac by rw[<-I]];refine cj (k:=n) g rfl rfl rfl rfl rfl rfl rfl S3 (h4.up e) SM SX (fun u q b=>?_);rw[it]at b
 obtain rfl:=b.int;have o:(j:Int) -((iw nx n:Nat):Int)=(i:Int):=by omega
 have U:=iy l.row nx.length;refine Us ?_;rw[o];clear b;have C:(nx.getD n [])[i].2=(t:Int):=by rw[<-tr c];exact S
 have A:t<nx.length:=by omega
 obtain⟨rb,rf,rfl,D,_,r⟩:=W.edge0 c;rw[C]at r
 refine cm (α:=cN) rfl rfl rfl rfl rfl SM SM ?_;refine Uq ?_;refine HL.load (α:=Int) (F:=di) (y:=(t:Int)) g rfl rfl rfl rfl D S0 (by rw[Nt];exact r) rfl ?_;rw[show Lb Int [Te (t:Int)]=Te (t:Int) from rfl];have N:=Ext.drew d;refine cD rfl (eN (gP (drew d) (hR.up N) l A) ?_);rintro v Q ⟨G,O⟩
 have s:=N.trans O;refine WL.nil (bf s ?_);refine Uu ?_;refine TV ?_;exact bi rfl rfl ⟨G.low (by have:=N.size;have:=e.size;omega),e.trans s⟩
def FD(w0:World){j:Nat}{sl:List cT}{nx:List (List cN)}(hR:RunAt w0 B sl nx)(m:NxOk sl nx)(e:j<iw nx nx.length):
  Rt UA 48 [Tg B,Te (j:Int)].toArray w0 fun v w'=>v=.int .u64 ((Aa sl nx j:Nat):Int)/\Aa sl nx j<18446744073709551616/\Ext w0 w':=by
 obtain⟨lo,H,mv,no,G,oo,oc,ao,ac,yo,yc,D,C,A,z,I,h1,h2,h3,h4,J⟩:=hR;obtain⟨n,i,hn,hi,u,p,l⟩:=CF m e;have g:(Cz nx nx.length)[j]'e=CD nx j:=(tr e).symm;obtain⟨ob,off,rfl,f,b,h⟩:=h3.edge0 e;rw[g]at b h
 unfold Aa;refine dV Tryz.func48 Tryz.ntmps48 rfl rfl (Tv ?_);refine fp (α:=cN) rfl rfl rfl rfl SM SM (Ug ?_);refine WL.load (α:=Int) (F:=di) (y:=(CD nx j).1) rfl rfl rfl (by rw[Nt];exact b) rfl ?_;rw[show Lb Int [Te (CD nx j).1]=Te (CD nx j).1 from rfl];refine Tl ?_;by_cases a:(CD nx j).1<0
 ·rw[R9 a,Sj a]
  refine TA ?_;exact bi rfl rfl ⟨rfl,by decide,Ext.refl _⟩
 rw[R7 a,Si a];rcases l with⟨l,_⟩|⟨g0,g1,w,o⟩
 ·omega
 obtain⟨k,t⟩:∃k:Nat,(CD nx j).1=(k:Int):=⟨(CD nx j).1.toNat,by omega⟩;rw[t]at b g1⊢
 rw[Nt];have c:k<sl.length:=by omega
 obtain⟨lb,lf,rfl,hlb,d⟩:=h1.step0 c;have r:=m.node _ (OG c);rw[tD c];obtain⟨s,q⟩:∃s:Nat,sl[k].1=(s:Int):=⟨(sl[k].1).toNat,by omega⟩;rw[q]at d⊢
 rw[Nt];refine Uc ?_;refine dE (α:=cN) rfl rfl rfl rfl SM SM (Um ?_);refine QL.load (α:=Int) (F:=di) (y:=(k:Int)) rfl rfl rfl f S0 (by rw[Nt];exact b) rfl ?_;rw[show Lb Int [Te (k:Int)]=Te (k:Int) from rfl];refine dE (α:=cT) rfl rfl rfl rfl SM SM (Um ?_);refine QL.load (α:=Int) (F:=di) (y:=(s:Int)) rfl rfl rfl hlb S0 (by rw[Nt];exact d) rfl ?_;rw[show Lb Int [Te (s:Int)]=Te (s:Int) from rfl];refine Uf ?_;rw[HA (show s<62 by omega)];refine QL.nil fun E x=>TV ?_
 refine bi rfl rfl ⟨rfl,?_,x⟩;have h2:(2:Nat) ^ s<2 ^ 64:=QC SP SM;exact h2
def ia{l:List cN}{p:cN->Bool}{i:Nat}(h:i<l.length):(l.take (i+1)).any p=((l.take i).any p||p l[i]):=by
 rw[PT,On h,NC];simp
def qi(w0:World){k:Nat}{sl:List cT}{nx:List (List cN)}(hR:RunAt w0 B sl nx)(I:NxOk sl nx):
  Rt UA 50 [Tg B,Te (k:Int)].toArray w0 fun v w'=>Own w' w0.heap.size 3 di v (p_ nx (k:Int))/\Ext w0 w':=by
 obtain⟨lo,lc,mv,no,nc,oo,oc,ao,ac,yo,yc,x1,x2,x3,x4,Z,h1,h2,h3,h4,h5⟩:=hR;have hat:=iy I.row nx.length;have M:=I.n;have hol:(Cz nx nx.length).length=iw nx nx.length:=rfl;refine dV Tryz.func50 Tryz.ntmps50 rfl rfl ?_;refine TQ ?_;refine CW.loop (S:=Nat×Value) (fun s=>[(0,Tg B),(1,Te k),(5,s.2),(14,.slice oo (Cz nx nx.length).length oc),(15,Te (iw nx nx.length:Nat)),(16,Te s.1)])
  (fun s w=>s.1<=iw nx nx.length/\Own w w0.heap.size 3 di s.2 (qb nx (k:Int) s.1)/\Ext w0 w) (fun s=>iw nx nx.length -s.1) (0,.slice none 0 0) SL ⟨QK _,Own.nil,Ext.refl _⟩ ?_
 rintro⟨j,ov⟩ Y ⟨O,A,E⟩
 dsimp only at O A E⊢
 refine T2 ?_;apply CW.cond rfl<;>intro h
 ·have o:j<iw nx nx.length:=by simp only[R_]at h;omega
  clear h;have P:(Cz nx nx.length)[j]'o=CD nx j:=(tr o).symm;obtain⟨n,i,hn,hi,hji,z,hx⟩:=CF I o;have hfl:=qd (nx:=nx) (k:=(k:Int)) (n:=j);have a:=qe (nx:=nx) (k:=(k:Int)) (n:=j);refine TL ?_;refine fg (i:=j) rfl rfl rfl rfl rfl (h3.up E) o SX (fun u q d=>?_);rw[P]at d
  rw[E6 d];clear d;skip;refine eF (fun w2 b U=>?_);refine Ue ?_;refine f_ b (fun w3 b D=>?_);have T:Ext Y w3:=MT U D U.size SZ;have G:=E.trans T;have Z:=Z.ext G;have ho3:=A.extN T;clear U D;rw[z]at b
  have f:jQ nx j (k:Int)=(nx.getD n []).any fun y=>y.1==(k:Int):=by unfold jQ;rw[z,Nt]
  refine Ud ?_;refine dB (i:=n) rfl rfl rfl rfl rfl S3 (h2.up G) hn SX (fun u q d=>?_);rw[<-tC hn]at d
  obtain⟨ro,rc,rfl,hr⟩:=d.sl;clear d;refine Un ?_;refine QL.nil fun w4 J=>?_
  have W:=T.trans J;have L:=hr.up J;have b:=b.ext J;have ho4:=ho3.extN J;have hrl:=I.row n;generalize nx.getD n []=row at*
  refine T7 ?_;refine CW.loop (S:=Nat) (fun s=>[(0,Tg B),(1,Te k),(5,ov),(6,Te j),(7,Tg Y.heap.size),(8,.bool ((row.take s).any fun y=>y.1==(k:Int))),(14,.slice oo (Cz nx nx.length).length oc),(15,Te (iw nx nx.length:Nat)),(16,Te j),(29,.slice ro row.length rc),(30,Te row.length),(31,Te s)])
   (fun s w=>s<=row.length/\Ext w4 w) (fun s=>row.length -s) 0 SL ⟨QK _,Ext.refl _⟩ ?_
  rintro r w5 ⟨hr0,x⟩
  refine T2 ?_;apply CW.cond rfl<;>intro h
  ·have e:r<row.length:=by simp only[R_]at h;omega
   clear h;have m:=ia (p:=fun y=>y.1==(k:Int)) e;refine T7 ?_;refine fg (i:=r) rfl rfl rfl rfl rfl (L.up x) e SX (fun u q d=>?_);rw[E6 d];clear d;generalize row[r]=ed at*
   generalize (row.take r).any (fun y=>y.1==(k:Int))=can at*
   skip;refine eF (fun X l e6=>?_);skip;refine f_ l (fun w7 l Q=>?_);have e7:Ext w5 w7:=MT e6 Q e6.size SZ;cases can with
   |true=>
    refine Tz ?_;refine EX.back (r+1) ?_ ⟨e,x.trans e7⟩ SM;rw[m,Nf];exact SL
   |false=>
    refine TC ?_;refine EX.back (r+1) ?_ ⟨e,x.trans e7⟩ SM;rw[m,M5];exact SL
  have K:r=row.length:=by simp only[R8]at h;omega
  subst K;rw[PV,<-f];have b:=b.ext x;have ho5:=ho4.extN x;have V:=W.trans x;have c:=E.trans V;unfold x_ at a
  clear h f;generalize jQ nx j (k:Int)=can at*
  have app:∀(hf:qb nx (k:Int) (j+1)=qb nx (k:Int) j++[(j:Int)]),True:=fun _=>trivial
  cases can with
  |false=>
   rw[M8,Nf,Sj rfl]at a
   refine Ua ?_;refine eH (α:=Int) (F:=di) (bytes:=8) (yv:=(j:Int)) rfl rfl SX rfl rfl SX ho5 S_ c.size S0 SP SS SM (fun ov' X q ho6 t C=>?_);rw[<-a]at ho6
   refine Tn ?_;exact EX.back (j+1,ov') SL ⟨o,ho6,MT c t c.size (fun g R=>(A.lt g R).1)⟩ SR
  |true=>
   rw[M9,M5]at a
   refine T6 ?_;by_cases H:(CD nx j).1=(k:Int)
   ·rw[show((CD nx j).1==(k:Int))=true by rw[H];exact R0 _,Sj rfl]at a
    rw[show((CD nx j).1==(k:Int))=true by rw[H];exact R0 _];refine TZ ?_;refine eH (α:=Int) (F:=di) (bytes:=8) (yv:=(j:Int)) rfl rfl SX rfl rfl SX ho5 S_ c.size S0 SP SS SM (fun ov' X q ho6 t C=>?_);rw[<-a]at ho6
    refine Tn ?_;exact EX.back (j+1,ov') SL ⟨o,ho6,MT c t c.size (fun g R=>(A.lt g R).1)⟩ SR
   ·rw[show((CD nx j).1==(k:Int))=false by simpa using H,Si SQ,NG]at a
    rw[show((CD nx j).1==(k:Int))=false by simpa using H];rw[<-a]at ho5
    refine Tz ?_;exact EX.back (j+1,ov) SL ⟨o,ho5,c⟩ SR
 have N:j=iw nx nx.length:=by simp only[R8]at h;omega
 subst N;refine TO ?_;exact bj ⟨A,E⟩
end Go.Proofs.YtfpjecjadlgdcaaGreatDoor
