import Derived.Test.YtodmkmobdmcfbaaGreatPtJudgeProves9
set_option linter.unusedVariables false
set_option linter.unusedSimpArgs false
set_option linter.defProp false
namespace Go.Proofs.YtodmkmobdmcfbaaGreat
open Go.RowKit
theorem zM(w:World)(m:cJ)(b:Nat){x:cJ}(a:Blk w b 70 [.string x.1,Pj x.2]):
  Rt Tryz.prog 183 [.agg [.string m.1,Pj m.2].toArray,Pk b].toArray w fun v w'=>v=.bool (y0 m.1 x.1)∧Ext w w':=by
 refine dH Tryz.func183 Tryz.ntmps183 rfl rfl ?_;refine Pm ?_;refine dZ rfl rfl rfl fun e d c=>?_
 have a:=a.ext c;refine Qn ?_;exact be rfl rfl ⟨rfl,c⟩
theorem zV(w0:World){so fo:Option Addr}{sc fc k:Nat}{ns:List cJ}(p:Sl w0 (c9 w0) so sc ns):
  Rt Tryz.prog 127 [Ck so sc fo fc ns.length k].toArray w0 fun v w'=>v=Pj (zN ns)∧Ext w0 w':=by
 have O:=p.len63;have H:=p.le;refine dG Tryz.func127 Tryz.ntmps127 rfl rfl ?_;refine Pm ?_;refine dZ rfl rfl rfl fun F a M=>?_
 have J:=a.lt;refine QH ?_;refine CW.loop (S:=Nat) (fun i=>[(1,Pk w0.heap.size),(6,.slice so ns.length sc),(7,Pj ns.length),(8,Pj i)])
  (fun i w=>i≤ns.length∧Ext F w∧∀j,j<i→zL ns j=0) (fun i=>ns.length -i) 0 OR ⟨by omega,Ext.refl _,by omega⟩ ?_
 rintro i w ⟨hi,e,g⟩
 have f:=M.trans e;have a:=a.ext e;refine Qw ?_;apply CW.cond rfl<;>intro h
 ·have d:i<ns.length:=by simp at h;omega
  have l:=qU d;refine Qv ?_;refine eE rfl rfl rfl rfl rfl (p.at f) d O3 (fun u q s=>?_);obtain rfl:=s.node;skip;refine WL.alloc rfl rfl (fun N c D=>?_);have I:=c.lt;refine QO ?_;refine WL.st rfl rfl rfl c rfl rfl Pd (fun C c x=>?_);have A:Ext w C:=D.grown x D.size O5;have a:=a.ext A;have f:=f.trans A;refine QE ?_;refine WL.call rfl rfl rfl (cZ C ns[i].1) ?_;rintro _ E ⟨rfl,r⟩
  have a:=a.ext r;have c:=c.ext r;have f:=f.trans r;have z:=A.trans r;have b:(!y_ ns[i].1||decide (ns[i].2<1)||decide (ns[i].2>7))=true→zN ns=1:=fun L=>by
   have:zL ns i=1:=by unfold zL;rw[l,Ov L]
   rw[zP d g (by rw[this];decide),this]
  refine QO ?_;by_cases c1:y_ ns[i].1=true
  ·rw[c1]at b⊢
   refine QV ?_;by_cases c2:decide (ns[i].2<1)=true
   ·rw[c2]
    refine Pu ?_;refine be rfl rfl ⟨?_,f⟩;rw[b (by rw[c2];rfl)]
   have c2:decide (ns[i].2<1)=false:=by simpa using c2
   rw[c2];refine P_ ?_;by_cases c3:decide (ns[i].2>7)=true
   ·rw[c3]
    refine Qa ?_;refine be rfl rfl ⟨?_,f⟩;rw[b (by rw[c2,c3];rfl)]
   have c3:decide (ns[i].2>7)=false:=by simpa using c3
   rw[c3];refine PU ?_;refine eu (α:=cJ) i rfl rfl rfl rfl rfl OS ?_;refine QX ?_;have n:=(p.up f).take (k:=i) OS;have t:(ns.take i).length=i:=by rw[Lz];omega
   have o:=k9 E (fv:=.func (.func 183) [].toArray [Pk w.heap.size].toArray) (fun m=>y0 m.1 ns[i].1) n (fun B G j K u s=>by
    obtain rfl:=s.node;exact FnV.mk (cs:=[_]) (zM B _ _ (c.ext G)))
   rw[t]at o
   refine WL.call rfl rfl rfl o ?_;rintro _ B ⟨rfl,y⟩
   have a:=a.ext y;refine QB ?_;apply CW.cond rfl<;>intro h2
   ·refine Pl ?_
    refine be rfl rfl ⟨?_,f.trans y⟩;have:zL ns i=4:=by unfold zL;rw[l,Ou (by rw[show y_ ns[i].1=true from c1,c2,c3];simp),Ov h2]
    rw[zP d g (by rw[this];decide),this]
   ·refine Pq ?_
    refine EX.back (i+1) OR ⟨d,(e.trans z).trans y,fun j K=>?_⟩ OS;by_cases ej:j=i
    ·subst ej
     unfold zL;rw[l,Ou (by rw[show y_ ns[j].1=true from c1,c2,c3];simp),Ou (by rw[h2];simp)]
    ·exact g j OS
  ·have c1:y_ ns[i].1=false:=by simpa using c1
   rw[c1]at b⊢
   refine Pu ?_;refine be rfl rfl ⟨?_,f⟩;rw[b rfl]
 ·obtain rfl:i=ns.length:=by simp at h;omega
  refine PG ?_;refine be rfl rfl ⟨?_,f⟩;rw[zQ g]
def pP(n:Nat)(fl:List cI)(i:Nat):bU:=pN n (fl.take i)
theorem pR{n:Nat}{fl:List cI}{i:Nat}:(pP n fl i).length=n:=by simp[pP,pN]
theorem pT{n:Nat}{fl:List cI}:pP n fl 0=List.replicate n []:=by
 refine KE (by simp[pP,pN]) fun k h1 h2=>?_
 simp[pP,pN]
theorem pQ{n:Nat}{fl:List cI}{i k:Nat}(h:k<n):(pP n fl i)[k]'(by rw[pR];exact h)=((fl.take i).filter fun f=>f.1==(k:Int)).map (·.2):=by simp[pP,pN]
theorem pS{n:Nat}{fl:List cI}{i a:Nat}{b:Int}(hi:i<fl.length)(hf:fl[i]=((a:Int),b))(d:a<n):
  (pP n fl i).set a ((((fl.take i).filter fun f=>f.1==(a:Int)).map (·.2))++[b])=pP n fl (i+1):=by
 refine KE (by simp[pR]) fun k h1 h2=>?_
 have c:k<n:=by rw[pR]at h2;exact h2
 rw[Le,pQ c,pQ c,←Mk hi,hf,KG,LC];by_cases e:a=k
 ·subst e;rw[Ov rfl];simp
 ·rw[Ou e]
  have:((a:Int)==(k:Int))=false:=by simpa using fun h:(a:Int)=k=>e OS
  simp[KH,this]
theorem pO{n:Nat}{fl:List cI}:mX (pN n fl)≤n*fl.length:=by
 unfold mX pN;rw[LG];have:∀m:List Nat,(m.map (List.length∘fun k:Nat=>(fl.filter fun f=>f.1==(k:Int)).map (·.2))).sum≤m.length*fl.length:=fun m=>by
  induction m with
  |nil=>simp
  |cons a m b=>
   simp only[LE,Mi,Ll,Mv,M1];have:(List.length∘fun k:Nat=>(fl.filter fun f=>f.1==(k:Int)).map (·.2)) a≤fl.length:=by
    show((fl.filter fun f=>f.1==(a:Int)).map (·.2)).length≤_;rw[Lq];exact Lp _ _
   omega
 have:=this (List.range n);rwa[Lt]at this
theorem F2{ns:List cJ}{k:Nat}:F0 ns (k+1)=F0 ns k++if((ns.getD k (⟨#[]⟩,0)).2==1)=true then [k]else []:=by
 unfold F0;rw[Mb,KG]
 congr 1
 by_cases e:((ns.getD k (⟨#[]⟩,0)).2==1)=true
 ·rw[Ov e];simp only[KH,e,KK];rfl
 ·rw[Ou e];simp only[KH,e,KK];rfl
def xq(l:List Nat):Int:=(l.getLast?.map fun n:Nat=>(n:Int)).getD (-1)
theorem F1{ns:List cJ}{k:Nat}:(F0 ns k).length≤k:=by
 unfold F0;exact MN (Lp _ _) OW
theorem jW{ns:List cJ}{fl:List cI}{s:Nat}(h:F0 ns ns.length=[s]):jV (ns,fl)=if(CL (pN ns.length fl) [(s:Int)]).contains false=true then 6 else 0:=by
 have c:(pN ns.length fl).length=ns.length:=by simp[pN]
 have b:(∃n,n<ns.length∧¬Rch (pN ns.length fl) (((F0 ns ns.length).getLast?.map fun n:Nat=>(n:Int)).toList) n)↔(CL (pN ns.length fl) [(s:Int)]).contains false=true:=by
  rw[h,Ko,LT];show(∃n,n<ns.length∧¬Rch (pN ns.length fl) [(s:Int)] n)↔_;constructor
  ·rintro⟨n,hn,e⟩
   have a:n<(CL (pN ns.length fl) [(s:Int)]).length:=by rw[CN,c];exact hn
   refine⟨n,a,?_⟩;rw[←JS,CM a];exact e
  ·rintro⟨n,hn,f⟩
   have a:n<ns.length:=by rw[CN,c]at hn;exact hn
   exact⟨n,a,fun e=>by rw[(CM hn).2 e]at f;cases f⟩
 unfold jV;by_cases d:(CL (pN ns.length fl) [(s:Int)]).contains false=true
 ·rw[Ov d];exact Ov (b.2 d)
 ·rw[Ou d];exact Ou (fun h=>d (b.1 h))
theorem aK(w0:World){so fo:Option Addr}{sc fc:Nat}{ns:List cJ}{fl:List cI}(hs:Sl w0 (c9 w0) so sc ns)(hf:Sl w0 (c9 w0) fo fc fl):
  Rt Tryz.prog 52 [Ck so sc fo fc ns.length fl.length].toArray w0 fun v w'=>v=Pj (jT (ns,fl))∧Ext w0 w':=by
 have hms:=hs.len63;have hmf:=hf.len63;refine dG Tryz.func52 Tryz.ntmps52 rfl rfl ?_;have L:=Ext.refl w0;refine Pm ?_;refine dZ rfl rfl rfl fun w1 P e1=>?_
 have L:=L.trans e1;unfold jT;dsimp only;refine QH ?_
 (refine eX rfl rfl (fun h=>?_) (fun h=>?_))
 ·refine Qr ?_
  refine be rfl rfl ⟨?_,L⟩;rw[Ov (.inl (by simp at h;omega))]
 have c1:ns.length≤20:=by simp at h;omega
 clear h;refine PY ?_;apply CW.cond rfl<;>intro h
 ·refine P7 ?_
  refine be rfl rfl ⟨?_,L⟩;rw[Ov (.inr (by simp at h;omega))]
 have c2:fl.length≤30:=by simp at h;omega
 clear h;rw[Ou OS];refine P1 ?_;refine WL.call rfl rfl rfl (zV w1 (hs.up L)) ?_;rintro _ m ⟨rfl,e2⟩
 have P:=P.ext e2;have L:=L.trans e2;refine Qw ?_;apply CW.cond rfl<;>intro h
 ·have h:zN ns≠0:=by simpa using h
  refine P7 ?_;refine be rfl rfl ⟨?_,L⟩;rw[Ov h]
 have h:zN ns=0:=by simpa using h
 rw[Ou (by simp[h])];clear h e1 e2;have z2:=L.size;refine Qg ?_;refine eY (α:=Raw) rfl rfl rfl rfl OS OY (fun w3 ho3 hg3=>?_);have e3:Ext m w3:=(JJ _ _).grown hg3 Pf O_;have hN3:OwnN w3 m.heap.size 38 3 (.slice (some ⟨m.heap.size,0,none⟩) ns.length ns.length) _ (List.replicate ns.length ([]:List Int)):=OwnN.made ho3;rw[←pT (fl:=fl)]at hN3
 have hb13:=P.ext e3;clear ho3 hg3;refine QH ?_;refine CW.loop (S:=Nat×List Raw) (fun s=>[(1,Pk w0.heap.size),(4,.slice (some ⟨m.heap.size,0,none⟩) ns.length ns.length),(35,.slice fo fl.length fc),(36,Pj fl.length),(37,Pj s.1)])
  (fun s w=>s.1≤fl.length∧(∀f∈fl.take s.1,pM ns.length f=false)∧OwnN w m.heap.size 38 3 (.slice (some ⟨m.heap.size,0,none⟩) ns.length ns.length) s.2 (pP ns.length fl s.1)∧Ext m w) (fun s=>fl.length -s.1) (0,_) OR ⟨Nc _,(fun f hf=>by simp at hf),hN3,e3⟩ ?_
 rintro⟨i,vs⟩ X ⟨hi,E,K,e4⟩
 dsimp only at hi E K⊢
 have hE4:=L.trans e4;have hN4:=K;have hsz:m.heap.size<X.heap.size:=(K.out.lt _ rfl).2.1;refine Qw ?_;apply CW.cond rfl<;>intro h
 ·have d:i<fl.length:=by simp at h;omega
  have y:pM ns.length fl[i]=true→(if fl.any (pM ns.length)=true then(1:Int)else if(F0 ns ns.length).length≠1 then 1 else if(List.range ns.length).any (gU (ns,fl))=true then 1 else jV (ns,fl))=1:=fun Q=>by
   rw[Ov (Ki.2 ⟨_,Lb d,Q⟩)]
  refine Qo ?_;refine eE rfl rfl rfl rfl rfl (hf.at hE4) d O3 (fun u q Y=>?_);obtain rfl:=Y.flow;skip;refine WL.alloc rfl rfl (fun w5 O W=>?_);skip;refine WL.st rfl rfl rfl O rfl rfl Pd (fun M O hg6=>?_);have H:Ext X M:=W.grown hg6 W.size O5;have K:=K.ext H;have l:=hE4.trans H;have e26:=e4.trans H;refine QE ?_;by_cases d1:decide (fl[i].1<0)=true
  ·rw[d1]
   refine Pu ?_;refine be rfl rfl ⟨?_,l⟩;rw[y (by unfold pM;rw[d1];rfl)]
  have d1:decide (fl[i].1<0)=false:=by simpa using d1
  rw[d1];refine QX ?_;by_cases d2:decide (fl[i].1≥(ns.length:Int))=true
  ·rw[d2]
   refine Pu ?_;refine be rfl rfl ⟨?_,l⟩;rw[y (by unfold pM;rw[d1,d2];rfl)]
  have d2:decide (fl[i].1≥(ns.length:Int))=false:=by simpa using d2
  rw[d2];refine QV ?_;by_cases d3:decide (fl[i].2<0)=true
  ·rw[d3]
   refine Pu ?_;refine be rfl rfl ⟨?_,l⟩;rw[y (by unfold pM;rw[d1,d2,d3];rfl)]
  have d3:decide (fl[i].2<0)=false:=by simpa using d3
  rw[d3];refine PY ?_;apply CW.cond rfl<;>intro d4
  ·refine Pl ?_
   refine be rfl rfl ⟨?_,l⟩;rw[y (by unfold pM;rw[d1,d2,d3,d4];rfl)]
  have hgd:pM ns.length fl[i]=false:=by unfold pM;rw[d1,d2,d3,d4];rfl
  simp at d1 d2 d3 d4
  obtain⟨a,ea⟩:=J9 d1;have R:a<ns.length:=by omega
  have hfi:fl[i]=((a:Int),fl[i].2):=by rw[←ea]
  have c:=pS d hfi R;have t:=K.len;rw[pR]at t
  have o:a<vs.length:=by omega
  have hd:=Ext.drew M;have G:=K.ext hd;have hb6d:=O.ext hd;have hin:=G.inn a o (by rw[pR];exact R);rw[pQ R]at hin
  have hrl:(((fl.take i).filter fun f=>f.1==(a:Int)).map (·.2)).length≤30:=by
   rw[Lq];exact MN (Lp _ _) (by rw[Lz];omega)
  obtain⟨oo,oc,hov,T⟩:=G.out.slF (F':=fun b=>b=m.heap.size) O6 (fun g hg=>by cases hg;rfl);obtain⟨rfl,_,rfl⟩:=N5 hov;rw[←t]at T
  have hsz6:=H.size;have hszd:=hd.size;have hl6:=O.lt;rw[ea]at hb6d
  refine P8 ?_;have hK:∀z,(fun z:World=>∀b,b=m.heap.size∨b=X.heap.size→z.heap[b]?=(drew M).heap[b]?) z→z.heap[X.heap.size]?=(drew M).heap[X.heap.size]?:=fun z hz=>hz _ (.inr rfl)
  refine aE (fun z:World=>∀b,b=m.heap.size∨b=X.heap.size→z.heap[b]?=(drew M).heap[b]?) [(0,true),(1,true),(2,true),(3,true),(4,true),(5,true),(6,true),(7,true),(8,true),(9,true),(10,false),(11,false),(12,true)] 13 mixed OT Pc ?_;refine Q7 ?_;rw[←t];refine bY (w:=drew M) (F:=fun b=>b=m.heap.size) (fun z hz b Q=>hz b (.inl Q)) rfl rfl rfl rfl rfl rfl rfl T o O3 (fun u q Y=>?_);obtain⟨rfl,_⟩:=Y.raw;rw[t];refine Q8 ?_;refine bV (bytes:=8) rfl rfl rfl rfl O3 rfl rfl O3 hin Pe OS O6 OU OY OS
   (fun z hz b Q=>hz.block b OS (fun e=>?_)) (fun v' w7 p ho7 D hnb=>?_)
  ·rcases Q with rfl|rfl
   ·exact G.dio a o _ e.symm rfl
   ·exact absurd ((hN4.inn a o (by rw[pR];exact R)).lt _ e.symm).2.1 (MO _)
  rw[hfi]at ho7
  have hmid:=G.mid o D;skip;refine cA (yv:=(⟨v'⟩:Raw)) rfl rfl rfl rfl rfl rfl hmid o O3 O3 (Rd.mkRaw _ _ _ ?_) (fun I q ho8 N=>?_)
  ·obtain⟨a,b,rfl⟩:=ho7.val;rfl
  have hN8:=G.set o ho7 D hnb ho8 N;rw[c]at hN8
  have e26d:=e26.trans hd;have e8:Ext m I:=(e26d.grown D e26d.size (fun b Q=>(hin.lt b Q).1)).grown N (MN e26d.size D.size) (fun b Q=>(G.out.lt b Q).1);refine PI ?_;refine EX.back (i+1,vs.set a ⟨v'⟩) OR ⟨d,fun f hf'=>?_,hN8,e8⟩ OX;dsimp only at hf'
  rw[←Mk d]at hf'
  rcases LK.1 hf' with h1|h1
  ·exact E f h1
  ·rw[L0]at h1;subst h1;exact hgd
 obtain rfl:i=fl.length:=by simp at h;omega
 rw[Ml]at E
 have A:fl.any (pM ns.length)=false:=Kh.2 (fun f hf=>by simp[E f hf]);have hfok:∀f∈fl,0≤f.1∧f.1<ns.length∧0≤f.2∧f.2<ns.length:=fun f hf=>by
  have:=E f hf;unfold pM at this
  simp at this
  omega
 rw[Ou (by rw[A];simp)];have hgG:pP ns.length fl fl.length=pN ns.length fl:=by unfold pP;rw[Ml]
 rw[hgG]at K
 have C:(pN ns.length fl).length=ns.length:=by simp[pN]
 have hgok:okG (pN ns.length fl):=by
  intro r hr x hx
  rw[C];obtain⟨k,_,rfl⟩:=LU.1 hr;obtain⟨f,hf,rfl⟩:=LU.1 hx;exact(hfok f (LR.1 hf).1).2.2
 have hge:=pO (n:=ns.length) (fl:=fl);have hge2:ns.length*fl.length≤20*30:=MV c1 c2;obtain⟨go,gc,hgv,hg⟩:=K.old.sl;rw[C]at hgv
 obtain⟨rfl,_,rfl⟩:=N5 hgv;have hb14:=P.ext e4;clear h hi E K hN4 hN3 A hgv;refine Qc ?_;refine CW.loop (S:=Nat) (fun i=>[(1,Pk w0.heap.size),(4,.slice (some ⟨m.heap.size,0,none⟩) ns.length ns.length),(7,Pj (xq (F0 ns i))),(8,Pj ((F0 ns i).length:Int)),(78,.slice so ns.length sc),(79,Pj ns.length),(80,Pj i)])
  (fun i w=>i≤ns.length∧Ext X w) (fun i=>ns.length -i) 0 OR ⟨by omega,Ext.refl _⟩ ?_
 rintro i w5 ⟨hi,W⟩
 have hE5:=hE4.trans W;have c:=F2 (ns:=ns) (k:=i);have hsl:=F1 (ns:=ns) (k:=i);refine Qw ?_;apply CW.cond rfl<;>intro h
 ·have d:i<ns.length:=by simp at h;omega
  rw[qU d]at c
  refine Qv ?_;refine eE rfl rfl rfl rfl rfl (hs.at hE5) d O3 (fun u q Y=>?_);obtain rfl:=Y.node;skip;refine WL.alloc rfl rfl (fun M U H=>?_);refine QO ?_;refine WL.st rfl rfl rfl U rfl rfl Pd (fun w7 U D=>?_);have V:Ext w5 w7:=H.grown D H.size O5;refine QE ?_;apply CW.cond rfl<;>intro h2
  ·rw[Ov h2]at c
   have hn1:((F0 ns i).length:Int)+1=((F0 ns (i+1)).length:Int):=by rw[c];simp
   have hn2:(i:Int)=xq (F0 ns (i+1)):=by rw[c];simp[xq]
   refine QF ?_;refine EX.back (i+1) ⟨rfl,rfl,?_,?_,rfl,rfl,rfl,trivial⟩ ⟨d,W.trans V⟩ OS
   ·rw[←hn2];rfl
   ·rw[←hn1];rfl
  ·rw[Ou (by rw[h2];simp),Kk]at c
   refine Pq ?_;refine EX.back (i+1) ?_ ⟨d,W.trans V⟩ OS;rw[c];exact OR
 obtain rfl:i=ns.length:=by simp at h;omega
 have hb15:=hb14.ext W;clear h hi c;refine PG ?_;apply CW.cond rfl<;>intro h
 ·have h:(F0 ns ns.length).length≠1:=by simp at h;omega
  refine P7 ?_;refine be rfl rfl ⟨?_,hE5⟩;rw[Ov h]
 have h1:(F0 ns ns.length).length=1:=by simp at h;omega
 rw[Ou OS];obtain⟨s,Z⟩:=Ln.1 h1;have hsn:s<ns.length:=by
  have:s∈F0 ns ns.length:=by rw[Z];simp
  unfold F0 at this
  exact LZ.1 (LR.1 this).1
 rw[jW Z,Z];rw[show xq [s]=(s:Int) from rfl];clear h;refine Qh ?_;refine CW.loop (S:=Nat) (fun i=>[(1,Pk w0.heap.size),(4,.slice (some ⟨m.heap.size,0,none⟩) ns.length ns.length),(7,Pj (s:Int)),(95,.slice so ns.length sc),(96,Pj ns.length),(97,Pj i)])
  (fun i w=>i≤ns.length∧Ext w5 w∧∀j,j<i→gU (ns,fl) j=false) (fun i=>ns.length -i) 0 OR ⟨by omega,Ext.refl _,by omega⟩ ?_
 rintro i M ⟨hi,H,hno⟩
 have l:=hE5.trans H;have hb16:=hb15.ext H;refine Qw ?_;apply CW.cond rfl<;>intro h
 ·have d:i<ns.length:=by simp at h;omega
  have hnd:=qU d;refine Qv ?_;refine eE rfl rfl rfl rfl rfl (hs.at l) d O3 (fun u q Y=>?_);obtain rfl:=Y.node;skip;refine WL.alloc rfl rfl (fun w7 J V=>?_);refine QO ?_;refine WL.st rfl rfl rfl J rfl rfl Pd (fun I J N=>?_);have e8:Ext M I:=V.grown N V.size O5;have hb18:=hb16.ext e8;have hE8:=l.trans e8;have hd:=Ext.drew I;have hSE:∀x,(fun x=>Ext I x) x→Ext I x:=fun _ h=>h
  have hb12d:=J;refine Qw ?_;refine aF (fun x=>Ext I x) [(0,true),(1,true),(2,true),(3,true),(6,true),(7,true),(4,false),(5,true),(8,false),(9,true),(10,false),(11,true)] mixed OT (Ext.drew I) ?_;refine Q9 ?_;refine cu rfl (WL.call rfl rfl rfl (vU (drew I) (hf.up (hE8.trans hd)) (i:Int) OS) ?_);rintro iv w9 ⟨hoi,e9⟩
  have hT9:=hd.trans e9;obtain⟨iao,ica,rfl⟩:=hoi.val;refine WL.nil (a_ hT9 ?_);refine Q5 ?_;refine cu rfl (WL.call rfl rfl rfl (Bi w9 (hf.up (hE8.trans hT9)) (i:Int) OS) ?_);rintro ov w10 ⟨hoo,e10⟩
  have B:=hT9.trans e10;obtain⟨oao,oca,rfl⟩:=hoo.val;refine WL.nil (a_ B ?_);refine Q5 ?_;refine cu rfl (WL.call rfl rfl rfl (lz w10 ns[i].2 (vP fl (i:Int)).length (Bd fl (i:Int)).length) ?_);rintro _ _ ⟨rfl,rfl⟩
  refine WL.nil (a_ B ?_);have hbc:gU (ns,fl) i=!ly ns[i].2 (vP fl (i:Int)).length (Bd fl (i:Int)).length:=by unfold gU;rw[hnd]
  refine Rf ?_;refine Pn ?_;apply CW.cond rfl<;>intro h2
  ·refine Pl ?_
   refine be rfl rfl ⟨?_,hE8.trans B⟩;rw[Ov (Ki.2 ⟨i,LZ.2 d,by rw[hbc];exact h2⟩)]
  ·refine Pq ?_
   refine EX.back (i+1) OR ⟨d,(H.trans e8).trans B,fun j hj=>?_⟩ OS;by_cases e:j=i
   ·subst e;rw[hbc];exact h2
   ·exact hno j OS
 obtain rfl:i=ns.length:=by simp at h;omega
 have A:(List.range ns.length).any (gU (ns,fl))=false:=Kh.2 (fun j hj=>by simp[hno j (LZ.1 hj)]);rw[Ou (by rw[A];simp)];clear h hi hno;have hg6:=hg.up (W.trans H);refine P9 ?_;refine eV [(s:Int)] rfl rfl rfl rfl rfl (.cons Pe .nil) (by show 1*1≤16777216;decide) (fun v7 w7 V r7 _=>?_);obtain⟨lo,lc,rfl,hls⟩:=r7.sl;have hsok:AG (pN ns.length fl).length [(s:Int)]:=fun x hx=>by rw[L0]at hx;subst hx;rw[C];omega
 have hrF:=C8 hgok hsok OS;rw[←C];have hRR:=dD w7 (hg6.up V) hls (by simp only[Ly];omega);rw[hrF,C]at hRR
 rw[C];skip;refine WL.call rfl rfl rfl hRR ?_;rintro _ I ⟨rv,rfl,hor,e8⟩
 obtain⟨ro,rc,rfl,hrs⟩:=hor.oldN.sl;refine Qw ?_;refine WL.call rfl rfl rfl (k_ I false hrs) ?_;rintro _ w9 ⟨rfl,e9⟩
 have hE9:=((l.trans V).trans e8).trans e9;refine QB ?_;apply CW.cond rfl<;>intro h2
 ·refine P7 ?_
  refine be rfl rfl ⟨?_,hE9⟩;rw[Ov h2]
 ·refine Qd ?_
  refine be rfl rfl ⟨?_,hE9⟩;rw[Ou (by rw[h2];simp)]
noncomputable def xR(p:cL)(n:Int):Int:=if jT p≠0 then jT p else if n<0∨n≥p.1.length then 1 else 0
theorem xT(w0:World){so fo:Option Addr}{sc fc:Nat}{ns:List cJ}{fl:List cI}(f:Sl w0 (c9 w0) so sc ns)(hf:Sl w0 (c9 w0) fo fc fl)(n:Int){fv:Value}(sel:List Int)
  (d:fl.length≤30→∀w,Ext w0 w→FnV Tryz.prog fv [Ck so sc fo fc ns.length fl.length,Pj n] w fun v w'=>Own w' w.heap.size 3 c7 v sel∧Ext w w'):
  Rt Tryz.prog 186 [Ck so sc fo fc ns.length fl.length,Pj n,fv].toArray w0 fun v w'=>∃x,v=.tuple ⟨[x,Pj (xR (ns,fl) n)]⟩∧Own w' w0.heap.size 3 c7 x (if xR (ns,fl) n=0 then sel else [])∧Ext w0 w':=by
 have l:=f.len63;refine dI Tryz.func186 Tryz.ntmps186 rfl rfl ?_;have a:=Ext.refl w0;refine Pm ?_;refine dZ rfl rfl rfl fun j b o=>?_
 have a:=a.trans o;unfold xR;dsimp only;refine Pw ?_;refine WL.call rfl rfl rfl (aK j (f.up a) (hf.up a)) ?_;rintro _ i ⟨rfl,g⟩
 have b:=b.ext g;have a:=a.trans g;refine Qw ?_;apply CW.cond rfl<;>intro h
 ·have h:jT (ns,fl)≠0:=by simpa using h
  refine P7 ?_;refine bf rfl rfl rfl ⟨_,by rw[Ov h],?_,a⟩;rw[Ov h,Ou h];exact Own.nil
 have h:jT (ns,fl)=0:=by simpa using h
 have c:=jU h;rw[Ou (by simp[h])];clear h;refine Qv ?_
 (refine eX rfl rfl (fun h=>?_) (fun h=>?_))
 ·refine Qr ?_
  have e:(if n<0∨n≥(ns.length:Int)then(1:Int)else 0)=1:=Ov (.inl (by simpa using h));exact bf rfl rfl rfl ⟨_,by rw[e],by rw[e,Ou OU];exact Own.nil,a⟩
 have h1:¬n<0:=by simpa using h
 clear h;refine PY ?_;apply CW.cond rfl<;>intro h
 ·have h:n≥ns.length:=by simpa using h
  refine P7 ?_;have e:(if n<0∨n≥(ns.length:Int)then(1:Int)else 0)=1:=Ov (.inr h);exact bf rfl rfl rfl ⟨_,by rw[e],by rw[e,Ou OU];exact Own.nil,a⟩
 have h2:¬n≥ns.length:=by simpa using h
 rw[Ou OS,Ov rfl];clear h;refine Qt ?_;refine d8 rfl rfl rfl rfl (d c.f i a) ?_;rintro x p ⟨k,m⟩
 refine Pr ?_;exact bf rfl rfl rfl ⟨_,rfl,k.low a.size,a.trans m⟩
theorem cD(w0:World){so fo:Option Addr}{sc fc:Nat}{ns:List cJ}{fl:List cI}(d:Sl w0 (c9 w0) so sc ns)(hf:Sl w0 (c9 w0) fo fc fl)(n:Int):
  Rt Tryz.prog 133 [Ck so sc fo fc ns.length fl.length,Pj n].toArray w0 fun v w'=>∃x,v=.tuple ⟨[x,Pj (xR (ns,fl) n)]⟩∧Own w' w0.heap.size 3 c7 x (if xR (ns,fl) n=0 then vP fl n else [])∧Ext w0 w':=by
 refine dH Tryz.func133 Tryz.ntmps133 rfl rfl ?_;refine Pm ?_;refine dZ rfl rfl rfl fun b i a=>?_
 refine Pw ?_;refine WL.call rfl rfl rfl (xT b (d.up a) (hf.up a) n (vP fl n) (fun h w c=>FnV.mk (cs:=[]) (vU w (hf.up (a.trans c)) n OS))) ?_;rintro _ g ⟨x,rfl,e,f⟩
 refine Pr ?_;exact bf rfl rfl rfl ⟨x,rfl,e.low a.size,a.trans f⟩
theorem c_(w0:World){so fo:Option Addr}{sc fc:Nat}{ns:List cJ}{fl:List cI}(d:Sl w0 (c9 w0) so sc ns)(hf:Sl w0 (c9 w0) fo fc fl)(n:Int):
  Rt Tryz.prog 134 [Ck so sc fo fc ns.length fl.length,Pj n].toArray w0 fun v w'=>∃x,v=.tuple ⟨[x,Pj (xR (ns,fl) n)]⟩∧Own w' w0.heap.size 3 c7 x (if xR (ns,fl) n=0 then Bd fl n else [])∧Ext w0 w':=by
 refine dH Tryz.func134 Tryz.ntmps134 rfl rfl ?_;refine Pm ?_;refine dZ rfl rfl rfl fun b i a=>?_
 refine Pw ?_;refine WL.call rfl rfl rfl (xT b (d.up a) (hf.up a) n (Bd fl n) (fun h w c=>FnV.mk (cs:=[]) (Bi w (hf.up (a.trans c)) n OS))) ?_;rintro _ g ⟨x,rfl,e,f⟩
 refine Pr ?_;exact bf rfl rfl rfl ⟨x,rfl,e.low a.size,a.trans f⟩
def straightP:cL:=([(⟨#[97]⟩,1),(⟨#[98]⟩,4),(⟨#[99]⟩,2)],[(0,1),(1,2)])
theorem CV(w:World)(F:Nat→Prop)(s:ByteArray)(k:Int)(h:s.size≤maxLen):Rd w F (.agg [.string s,Pj k].toArray) ((s,k):cJ):=Rd.mkPr (c1:=[.string s]) (c2:=[Pj k]) ⟨rfl,h⟩ (C2 _ _ _)
theorem CU(w:World)(F:Nat→Prop)(a b:Int):Rd w F (.agg [Pj a,Pj b].toArray) ((a,b):cI):=Rd.mkPr (c1:=[Pj a]) (c2:=[Pj b]) (C2 _ _ _) (C2 _ _ _)
theorem Gu(w0:World):Rt Tryz.prog 5 [].toArray w0 fun v w'=>(∃so sc fo fc,v=Ck so sc fo fc 3 2∧Sl w' (c9 w') so sc straightP.1∧Sl w' (c9 w') fo fc straightP.2)∧Ext w0 w':=by
 refine dF Tryz.func5 Tryz.ntmps5 rfl ?_;refine Pm ?_;refine WL.alloc rfl rfl (fun r d n=>?_);have j:w0.heap.size+1≤r.heap.size:=d.lt;generalize w:w0.heap.size+1=c at j
 refine PV ?_;refine WL.build rfl rfl rfl rfl ?_;refine WL.build rfl rfl rfl rfl ?_;refine WL.build rfl rfl rfl rfl ?_;refine eU c OS straightP.1 rfl rfl rfl rfl rfl (.cons (CV _ _ _ _ OU) (.cons (CV _ _ _ _ OU) (.cons (CV _ _ _ _ OU) .nil))) OU (fun A y p i=>?_);have x:=p.size;refine WL.build rfl rfl rfl rfl ?_;refine WL.build rfl rfl rfl rfl ?_;refine eU c OS straightP.2 rfl rfl rfl rfl rfl (.cons (CU _ _ _ _) (.cons (CU _ _ _ _) .nil)) OU (fun z h o u=>?_);have i:=i.upF o;have l:=d.ext (p.trans o);have f:=n.trans (p.trans o);obtain⟨a1,c1,rfl,t⟩:=i.sl;obtain⟨a2,c2,rfl,s⟩:=u.sl;refine WL.build rfl rfl rfl rfl ?_;skip;refine WL.st rfl rfl rfl l rfl rfl Pd (fun g k a=>?_);have m:Ext w0 g:=f.grown a f.size O5;have hF:∀b,bS c h b→g.heap[b]?=h.heap[b]?:=fun b d=>a.block b d.2 (fun e=>by cases e;have:=d.1;omega)
 have q:∀b,bS c h b→c9 g b:=fun b d=>MQ d.2 a.size
 refine Px ?_;exact bg rfl rfl k rfl ⟨⟨a1,c1,a2,c2,rfl,t.mono hF q,s.mono hF q⟩,m⟩
theorem Gs:jT straightP=0:=by
 have a:F0 straightP.1 straightP.1.length=[0]:=by decide
 have b:okG (pN straightP.1.length straightP.2):=(jN (by decide:jL (pN straightP.1.length straightP.2)=0)).1;have hR:jV straightP=0:=by
  have:=jW (ns:=straightP.1) (fl:=straightP.2) a;rw[CO b (by intro x c;simp at c;subst c;decide) 20 OU]at this
  rw[show jV straightP=jV (straightP.1,straightP.2) from rfl,this];decide
 unfold jT;rw[hR,Ou OU,Ou OU,Ou OU,Ou OU,Ou OU]
theorem Fp{s:Nat}(a:s<62):IntKind.i64.wrap (1*2 ^ min ((s:Int)).toNat IntKind.i64.bits)=(2:Int) ^ s:=by
 have h1:min s (IntKind.bits .i64)=s:=by show min s 64=s;omega
 have h2:=Cf (show s<62 by omega);have h3:=Cg s;simp only[Kd,h1,Kc];rw[Jl OS OS]
theorem Cells.tl'{w:World}{b o:Nat}{x:Value}{r:List Value}(h:Cells w b o (x::r)):Cells w b (o+1) r:=fun j u a=>by
 have:=h (j+1) u (by simpa using a);rwa[show o+(j+1)=o+1+j by omega]at this
theorem Sl.nodeK{w:World}{F:Nat→Prop}{ao:Option Addr}{cap:Nat}{xs:List cJ}(h:Sl w F ao cap xs){i:Nat}(hi:i<xs.length):∃b off,ao=some ⟨b,off,none⟩∧F b∧Cells w b (off+i*2+1) [Pj xs[i].2]:=by
 obtain⟨b,off,e,f,g,c,d⟩:=h.el i hi;obtain⟨c1,c2,rfl,h1,h2⟩:=C5 d;have a:=h1.1;subst a;rw[C0 h2]at c
 exact⟨b,off,e,f,c.tl'⟩
theorem CX(w:World)(F:Nat→Prop)(a b c:Int):Rd w F (.agg [Pj a,Pj b,Pj c].toArray) ((a,b,c):cN):=Rd.mkPr (c1:=[Pj a]) (c2:=[Pj b,Pj c]) (C2 _ _ _) (C1 (C2 _ _ _) (C2 _ _ _))
theorem GY{α β:Type}(f:α→β){l:List α}{i:Nat}(h:i<l.length):(l.take (i+1)).map f=(l.take i).map f++[f l[i]]:=by
 rw[←Mk h,LC];rfl
instance uW:Flat cN:=⟨fun h=>h⟩
set_option maxHeartbeats 1000000 in
theorem Ay(w0:World){so fo:Option Addr}{sc fc:Nat}{ns:List cJ}{fl:List cI}(hs:Sl w0 (c9 w0) so sc ns)(hf:Sl w0 (c9 w0) fo fc fl)(P:jT (ns,fl)=0){n:Nat}(hn:n<ns.length):
  Rt Tryz.prog 53 [Ck so sc fo fc ns.length fl.length,Pj (n:Int)].toArray w0 fun v w'=>Own w' w0.heap.size 127 c7 v (Gl (ns,fl) n)∧Ext w0 w':=by
 have V:=jU P;have X:=V.f;dsimp only at X
 have J:xR (ns,fl) (n:Int)=0:=by
  unfold xR;rw[Ou (by simp[P]),Ou OX]
 have K:w_ (ns,fl) n=ns[n].2:=by unfold w_;rw[qU hn]
 have h7:ns[n].2=7→(Bd fl (n:Int)).length≤4:=fun h=>AM V hn (by rw[K];exact h)
 have hil:(vP fl (n:Int)).length≤fl.length:=vS;have hol:(Bd fl (n:Int)).length≤fl.length:=Bg;have C:Gl (ns,fl) n=Gd ns[n].2 (n:Int) (vP fl (n:Int)) (Bd fl (n:Int)).length:=by unfold Gl;rw[K]
 rw[C];refine dH Tryz.func53 Tryz.ntmps53 rfl rfl ?_;have g:=Ext.refl w0;refine Pm ?_;refine dZ rfl rfl rfl fun w1 A e1=>?_
 have g:=g.trans e1;refine Pw ?_;refine WL.call rfl rfl rfl (cD w1 (hs.up g) (hf.up g) (n:Int)) ?_;rintro _ w2 ⟨x,rfl,H,e2⟩
 rw[J,Ov rfl]at H
 have A:=A.ext e2;have g:=g.trans e2;obtain⟨xo,xc,rfl,u⟩:=H.oldN.sl;refine Pw ?_;refine WL.call rfl rfl rfl (c_ w2 (hs.up g) (hf.up g) (n:Int)) ?_;rintro _ r ⟨y,rfl,G,e3⟩
 rw[J,Ov rfl]at G
 have A:=A.ext e3;have g:=g.trans e3;have u:=u.up e3;obtain⟨yo,yc,rfl,hys⟩:=G.oldN.sl;clear H G e1 e2 e3 J C P K;generalize vP fl (n:Int)=ins at*
 generalize (Bd fl (n:Int)).length=o at*
 have Z:=g.size;refine QH ?_;rw[Fp (show o<62 by omega)];obtain⟨t,z⟩:∃t,t=(2:Int) ^ o:=⟨_,rfl⟩;have hp1:=Cg o;have hp2:=Ce (show o≤30 by omega);have hp3:(2:Int) ^ 30=1073741824:=by decide
 rw[←z]at hp1 hp2⊢
 rw[Jl (show -9223372036854775808≤t -1 by omega) OS];obtain⟨nb,off,rfl,hnb,W⟩:=(hs.at g).nodeK hn;skip;refine eJ (α:=cJ) rfl rfl rfl rfl OS OS ?_;refine QR ?_;refine WL.load (α:=Int) (F:=c7) (y:=ns[n].2) rfl rfl rfl (by rw[Kd];exact W) rfl ?_;rw[show Iu Int [Pj ns[n].2]=Pj ns[n].2 from rfl];generalize ns[n].2=k at*
 clear W hnb;skip;apply WL.nil;apply bx;apply CW.block;refine az [(1,Pj (n:Int)),(5,.slice xo ins.length xc),(7,.slice yo o yc),(9,Pj (t -1)),(10,.slice none 0 0),(38,Pj k),(39,.bool (decide (k=4∨k=2∨k=3)))] ?_ ?_
 ·refine Qw ?_
  by_cases h4:k=4
  ·subst h4
   refine PE ?_;exact aS OR
  have b4:(k==4)=false:=by simpa using h4
  rw[b4];refine PW ?_;by_cases h2:k=2
  ·subst h2
   refine PE ?_;exact aS OR
  have b2:(k==2)=false:=by simpa using h2
  rw[b2];refine PW ?_;rw[show decide (k=4∨k=2∨k=3)=(k==3) by rw[JO];simp[h4,h2]];exact aS OR
 by_cases hd:k=4∨k=2∨k=3
 ·have d:Gd k (n:Int) ins o=ins.map fun f=>((n:Int),f,t -1):=by unfold Gd;rw[Ov hd,z]
  rw[d,Ol hd];refine Qq ?_;refine CW.loop (S:=Nat×Value) (fun s=>[(1,Pj (n:Int)),(9,Pj (t -1)),(10,s.2),(43,.slice xo ins.length xc),(44,Pj ins.length),(45,Pj s.1)])
   (fun s w=>s.1≤ins.length∧Own w r.heap.size 127 c7 s.2 ((ins.take s.1).map fun f=>(((n:Int),f,t -1):cN))∧Ext r w) (fun s=>ins.length -s.1) (0,.slice none 0 0) OR ⟨Nc _,Own.nil,Ext.refl _⟩ ?_
  rintro⟨i,ov⟩ w4 ⟨hi,c,m⟩
  dsimp only at hi c⊢
  refine Qw ?_;apply CW.cond rfl<;>intro h
  ·have e:i<ins.length:=by simp at h;omega
   have I:=GY (fun f=>(((n:Int),f,t -1):cN)) e;refine Qo ?_;refine eD rfl rfl rfl rfl rfl (u.up m) e rfl O3 (fun q=>?_);refine PP ?_;refine WL.build rfl rfl rfl rfl ?_;refine dY (F:=c7) (yv:=(((n:Int),ins[i],t -1):cN)) rfl rfl O3 rfl rfl O3 c (CX _ _ _ _ _) m.size O6 OU (by rw[Lq,Lz];unfold maxLen;omega) (by rw[Lq,Lz];omega) (fun U w5 p ho5 M hnb=>?_);rw[←I]at ho5
   have E:Ext r w5:=m.grown M m.size (fun b R=>(c.lt b R).1);refine PI ?_;exact EX.back (i+1,U) OR ⟨e,ho5,E⟩ OX
  ·obtain rfl:i=ins.length:=by simp at h;omega
   rw[Ml]at c
   refine QC ?_;exact be rfl rfl ⟨c.low Z,g.trans m⟩
 rw[Oj hd];refine PW ?_;by_cases Y:k=5
 ·subst Y
  have d:Gd 5 (n:Int) ins o=ins.flatMap fun f=>(List.range o).map fun k:Nat=>((n:Int),f,(2:Int) ^ k):=by unfold Gd;rw[Ou hd,Ov rfl]
  rw[d];have O:∀l:List Int,(l.flatMap fun f=>(List.range o).map fun k:Nat=>(((n:Int),f,(2:Int) ^ k):cN)).length=l.length*o:=fun l=>by
   induction l with
   |nil=>simp
   |cons a l ih=>rw[KO,Lk,ih];simp[Mv];omega
  refine Qq ?_;refine CW.loop (S:=Nat×Value) (fun s=>[(1,Pj (n:Int)),(7,.slice yo o yc),(10,s.2),(59,.slice xo ins.length xc),(60,Pj ins.length),(61,Pj s.1)])
   (fun s w=>s.1≤ins.length∧Own w r.heap.size 127 c7 s.2 ((ins.take s.1).flatMap fun f=>(List.range o).map fun k:Nat=>(((n:Int),f,(2:Int) ^ k):cN))∧Ext r w) (fun s=>ins.length -s.1) (0,.slice none 0 0) OR ⟨Nc _,Own.nil,Ext.refl _⟩ ?_
  rintro⟨i,ov⟩ w4 ⟨hi,c,m⟩
  dsimp only at hi c⊢
  refine Qw ?_;apply CW.cond rfl<;>intro h
  ·have e:i<ins.length:=by simp at h;omega
   have D:=O (ins.take i);rw[Lz,MS hi]at D
   have hmul:i*o≤30*30:=MV OS OS;generalize Q:((ins.take i).flatMap fun f=>(List.range o).map fun k:Nat=>(((n:Int),f,(2:Int) ^ k):cN))=base at c D
   refine Qo ?_;refine eD rfl rfl rfl rfl rfl (u.up m) e rfl O3 (fun q=>?_);refine Qp ?_;refine CW.loop (S:=Nat×Value) (fun s=>[(1,Pj (n:Int)),(7,.slice yo o yc),(10,s.2),(14,Pj ins[i]),(59,.slice xo ins.length xc),(60,Pj ins.length),(61,Pj i),(66,Pj o),(67,Pj s.1)])
    (fun s w=>s.1≤o∧Own w r.heap.size 127 c7 s.2 (base++(List.range s.1).map fun k:Nat=>(((n:Int),ins[i],(2:Int) ^ k):cN))∧Ext r w) (fun s=>o -s.1) (0,ov) OR ⟨Nc _,by simpa using c,m⟩ ?_
   rintro⟨j,ov⟩ w5 ⟨hj,c,E⟩
   dsimp only at hj c⊢
   refine Qw ?_;apply CW.cond rfl<;>intro h
   ·have hj':j<o:=by simp at h;omega
    refine PA ?_;rw[Fp (show j<62 by omega)];refine WL.build rfl rfl rfl rfl ?_;refine dY (F:=c7) (yv:=(((n:Int),ins[i],(2:Int) ^ j):cN)) rfl rfl O3 rfl rfl O3 c (CX _ _ _ _ _) E.size O6 OU (by rw[Lk,Lq,Lt];unfold maxLen;omega) (by rw[Lk,Lq,Lt];omega) (fun U w6 p ho6 L hnb=>?_);have e6:Ext r w6:=E.grown L E.size (fun b R=>(c.lt b R).1);refine PI ?_;refine EX.back (j+1,U) OR ⟨hj',?_,e6⟩ OX;dsimp only;rw[Mb,LC,←Kj];exact ho6
   ·obtain rfl:j=o:=by simp at h;omega
    refine PJ ?_;refine EX.back (i+1,ov) OR ⟨e,?_,E⟩ OX;dsimp only;rw[←Mk e,KN,Q];simpa using c
  ·obtain rfl:i=ins.length:=by simp at h;omega
   rw[Ml]at c
   refine QC ?_;exact be rfl rfl ⟨c.low Z,g.trans m⟩
 have b5:(k==5)=false:=by simpa using Y
 rw[b5];refine PW ?_;by_cases h6:k=6
 ·subst h6
  have d:Gd 6 (n:Int) ins o=[((n:Int),-1,t -1)]:=by unfold Gd;rw[Ou hd,Ou Y,Ov rfl,z]
  rw[d];refine P0 ?_;refine WL.build rfl rfl rfl rfl ?_;refine dY (F:=c7) (B:=r.heap.size) (xs:=[]) (yv:=(((n:Int),-1,t -1):cN)) rfl rfl O3 rfl rfl O3 Own.nil (CX _ _ _ _ _) Pf O6 OU (by simp[maxLen]) OW (fun U w6 p ho6 L hnb=>?_);have e6:Ext r w6:=(Ext.refl _).grown L Pf (fun b R=>by cases R);refine Qd ?_;exact be rfl rfl ⟨ho6.low Z,g.trans e6⟩
 have b6:(k==6)=false:=by simpa using h6
 rw[b6];refine PW ?_;by_cases T:k=7
 ·subst T
  have ho4:=h7 rfl;have d:Gd 7 (n:Int) ins o=(List.range (2 ^ o -1)).map fun k:Nat=>((n:Int),-1,(k:Int)+1):=by unfold Gd;rw[Ou hd,Ou Y,Ou h6,Ov rfl]
  rw[d];have hpn:t=((2 ^ o:Nat):Int):=by rw[z];push_cast;rfl
  have hN1:=M0 (n:=o);have hN2:2 ^ o≤2 ^ 4:=M4 OS ho4;obtain⟨N,hN⟩:∃N,N=2 ^ o:=⟨_,rfl⟩;rw[←hN]at hpn hN1 hN2⊢
  have hN3:N≤16:=by have:2 ^ 4=16:=by decide
                    omega
  refine Qq ?_;refine CW.loop (S:=Nat×Value) (fun s=>[(1,Pj (n:Int)),(9,Pj (t -1)),(10,s.2),(16,Pj ((s.1:Int)+1))])
   (fun s w=>s.1≤N -1∧Own w r.heap.size 127 c7 s.2 ((List.range s.1).map fun k:Nat=>(((n:Int),-1,(k:Int)+1):cN))∧Ext r w) (fun s=>N -s.1) (0,.slice none 0 0) OR ⟨Nc _,Own.nil,Ext.refl _⟩ ?_
  rintro⟨i,ov⟩ w4 ⟨hi,c,m⟩
  dsimp only at hi c⊢
  refine Qw ?_;apply CW.cond rfl<;>intro h
  ·have e:i<N -1:=by simp at h;omega
   refine Qv ?_;refine WL.build rfl rfl rfl rfl ?_;refine dY (F:=c7) (yv:=(((n:Int),-1,(i:Int)+1):cN)) rfl rfl O3 rfl rfl O3 c (CX _ _ _ _ _) m.size O6 OU (by rw[Lq,Lt];unfold maxLen;omega) (by rw[Lq,Lt];omega) (fun U w5 p ho5 M hnb=>?_);have E:Ext r w5:=m.grown M m.size (fun b R=>(c.lt b R).1);refine PI ?_;refine EX.back (i+1,U) OR ⟨by dsimp only;omega,?_,E⟩ OX;dsimp only;rw[Mb,LC];exact ho5
  ·obtain rfl:i=N -1:=by simp at h;omega
   refine QC ?_;exact be rfl rfl ⟨c.low Z,g.trans m⟩
 have b7:(k==7)=false:=by simpa using T
 rw[b7];have d:Gd k (n:Int) ins o=[]:=by unfold Gd;rw[Ou hd,Ou Y,Ou h6,Ou T]
 rw[d];refine QF ?_;exact be rfl rfl ⟨Own.nil,g⟩
theorem c8(w0:World){so fo:Option Addr}{sc fc:Nat}{ns:List cJ}{fl:List cI}(p:Sl w0 (c9 w0) so sc ns)(hf:Sl w0 (c9 w0) fo fc fl):
  Rt Tryz.prog 24 [Ck so sc fo fc ns.length fl.length].toArray w0 fun v w'=>∃x,v=.tuple ⟨[x,Pj (F_ (ns,fl)).2]⟩∧Own w' w0.heap.size 127 c7 x (F_ (ns,fl)).1∧Ext w0 w':=by
 have E:=p.len63;refine dG Tryz.func24 Tryz.ntmps24 rfl rfl ?_;have c:=Ext.refl w0;refine Pm ?_;refine dZ rfl rfl rfl fun C j J=>?_
 have c:=c.trans J;unfold F_;refine Pw ?_;refine WL.call rfl rfl rfl (aK C (p.up c) (hf.up c)) ?_;rintro _ n ⟨rfl,y⟩
 have j:=j.ext y;have c:=c.trans y;refine Qw ?_;apply CW.cond rfl<;>intro h
 ·have h:jT (ns,fl)≠0:=by simpa using h
  refine P7 ?_;refine bf rfl rfl rfl ⟨_,by rw[Ov h],?_,c⟩;rw[Ov h];exact Own.nil
 have g:jT (ns,fl)=0:=by simpa using h
 have d:=jU g;have m:=d.n;dsimp only at m
 rw[Ou (by simp[g])];have z:=c.size;refine Qh ?_;refine CW.loop (S:=Nat×Value) (fun s=>[(1,Pk w0.heap.size),(5,s.2),(14,Pj ns.length),(15,Pj s.1)])
  (fun s w=>s.1≤ns.length∧Own w n.heap.size 127 c7 s.2 (Gm (ns,fl) s.1)∧Ext n w) (fun s=>ns.length -s.1) (0,.slice none 0 0) OR ⟨Nc _,Own.nil,Ext.refl _⟩ ?_
 rintro⟨i,ov⟩ B ⟨hi,k,t⟩
 dsimp only at hi k⊢
 have G:=j.ext t;have a:=c.trans t;have u:=Gn d i hi;refine Qw ?_;apply CW.cond rfl<;>intro h
 ·have f:i<ns.length:=by simp at h;omega
  have e:=Gn d (i+1) f;rw[Gp,Lk]at e
  refine Qt ?_;refine WL.call rfl rfl rfl (Ay B (p.up a) (hf.up a) g f) ?_;rintro sv K ⟨q,l⟩
  have k:=k.extN l;have l:=t.trans l;obtain⟨so',sc',rfl,o⟩:=q.oldN.sl;skip;refine WL.app (F:=c7) rfl rfl rfl rfl k o.srcN l.size O6 OY OS (fun D A ho5 r _=>?_);rw[←Gp]at ho5
  have I:Ext n A:=l.grown r l.size (fun b H=>(k.lt b H).1);refine PI ?_;exact EX.back (i+1,D) OR ⟨f,ho5,I⟩ OX
 obtain rfl:i=ns.length:=by simp at h;omega
 refine P5 ?_;apply CW.cond rfl<;>intro h
 ·have h:(Gi (ns,fl)).length>60:=by simp at h;show(Gm (ns,fl) ns.length).length>60;omega
  refine P7 ?_;refine bf rfl rfl rfl ⟨_,by rw[Ov h],?_,a⟩;rw[Ov h];exact Own.nil
 ·have h:¬(Gi (ns,fl)).length>60:=by simp at h;show¬(Gm (ns,fl) ns.length).length>60;omega
  refine Qd ?_;refine bf rfl rfl rfl ⟨_,by rw[Ou h],?_,a⟩;rw[Ou h];exact k.low z
def FY(s:cN):Value:=.agg [.int .i64 s.1,.int .i64 s.2.1,.int .i64 s.2.2].toArray
theorem Rd.step{w:World}{F:Nat→Prop}{v:Value}{x:cN}(h:Rd w F v x):v=FY x:=by
 obtain⟨c1,c2,rfl,h1,h2⟩:=h.pr;obtain⟨c3,c4,rfl,h3,h4⟩:=C5 h2;rw[C0 h1,C0 h3,C0 h4];rfl
section
variable {Q:Exit→Act→World→Prop}{n:Nat}{σ:Sg}{w:World}{L rest:List Oper}{d:Nat}{ty:TypeId}{pos:String}{af:Array Edge}{g:Option (Nat×Bool)}{yt:TypeId}{x y:Operand}
end
theorem Cells.tl{w:World}{b o:Nat}{x:Value}{r:List Value}(h:Cells w b o (x::r)):Cells w b (o+1) r:=fun j u a=>by
 have:=h (j+1) u (by simpa using a);rwa[show o+(j+1)=o+1+j by omega]at this
theorem Sl.pair{w:World}{F:Nat→Prop}{ao:Option Addr}{cap:Nat}{xs:List (Int×Int)}(h:Sl w F ao cap xs){i:Nat}(hi:i<xs.length):∃b off,ao=some ⟨b,off,none⟩∧F b∧Cells w b (off+i*2) [Pj xs[i].1]∧Cells w b (off+i*2+1) [Pj xs[i].2]:=by
 obtain⟨b,off,e,f,g,a,d⟩:=h.el i hi;obtain⟨c1,c2,rfl,h1,h2⟩:=C5 d;rw[C0 h1,C0 h2]at a
 exact⟨b,off,e,f,fun j u c=>a j u (by cases j with|zero=>simpa using c|succ j=>simp at c),a.tl⟩
theorem xS{p:cL}(h:jT p=0){n:Nat}(hn:n<p.1.length):xR p (n:Int)=0:=by
 unfold xR;rw[Ou (by simp[h]),Ou OS]
section
variable {P:Program}{Q:Exit→Act→World→Prop}{n:Nat}{σ:Sg}{w:World}{L rest:List Oper}{d:Nat}{ty:TypeId}{pos:String}{af:Array Edge}{g:Option (Nat×Bool)}{t e:TypeId}{α:Type}[Rep α]
end
section
variable {P:Program}{Q:Exit→Act→World→Prop}{n:Nat}{σ:Sg}{w:World}{L rest:List Oper}{d:Nat}{ty:TypeId}{pos:String}{af:Array Edge}{g:Option (Nat×Bool)}{t yt:TypeId}{x y:Operand}
end
theorem Gv:F_ straightP=([(1,0,1),(2,1,0)],0):=by
 have h:Gi straightP=[(1,0,1),(2,1,0)]:=by decide
 unfold F_;rw[Ou (by simp[Gs]),h];rfl
theorem Gc{p:cL}(h:(F_ p).2=0):jT p=0∧(F_ p).1=Gi p∧(Gi p).length≤60:=by
 unfold F_ at h⊢
 split at h
 ·rename_i h1;exact absurd h h1
 ·split at h
  ·simp at h
  ·rename_i h1 h2
   rw[Ou h1,Ou h2];exact⟨by simpa using h1,rfl,by omega⟩
def o9(f:Nat→Int)(F i:Nat):List Int:=(List.range F).map fun j=>if j<i then f j else 0
theorem o_{f:Nat→Int}{F i:Nat}:(o9 f F i).length=F:=by simp[o9]
theorem pg{f:Nat→Int}{F:Nat}:o9 f F 0=List.replicate F 0:=by
 unfold o9;apply KE OW;intro j h1 h2;simp
theorem pd{f:Nat→Int}{F i:Nat}(hi:i<F):(o9 f F i).set i (f i)=o9 f F (i+1):=by
 unfold o9;apply KE OW;intro j h1 h2
 rw[Le];simp only[La,Lc];by_cases e:i=j
 ·subst e;rw[Ov rfl,Ov OS]
 ·rw[Ou e]
  by_cases h:j<i
  ·rw[Ov h,Ov OS]
  ·rw[Ou h,Ou OS]
theorem pf{f:Nat→Int}{F i:Nat}(a:f i=0):o9 f F i=o9 f F (i+1):=by
 unfold o9;apply KE OW;intro j h1 h2
 simp only[La,Lc];by_cases e:i=j
 ·subst e;rw[Ou OS,Ov OS,a]
 ·by_cases h:j<i
  ·rw[Ov h,Ov OS]
  ·rw[Ou h,Ou OS]
theorem Rd.pairI{w:World}{F:Nat→Prop}{v:Value}{x:Int×Int}(h:Rd w F v x):v=.agg [Pj x.1,Pj x.2].toArray:=by
 obtain⟨c1,c2,rfl,h1,h2⟩:=h.pr;rw[C0 h1,C0 h2];rfl
theorem xa{ns:List cJ}{fl:List cI}{n:Nat}(h:n<ns.length):w_ (ns,fl) n=ns[n].2:=by unfold w_;rw[qU h]
theorem AL{ns:List cJ}{fl:List cI}(h:OkPr (ns,fl)){i:Nat}(hi:i<fl.length):∃a b:Nat,fl[i].1=(a:Int)∧fl[i].2=(b:Int)∧a<ns.length∧b<ns.length:=by
 have:=h.flows _ (Lb hi);dsimp only at this
 exact⟨fl[i].1.toNat,fl[i].2.toNat,by omega,by omega,by omega,by omega⟩
theorem aq(w0:World){so fo:Option Addr}{sc fc:Nat}{ns:List cJ}{fl:List cI}(B:Sl w0 (c9 w0) so sc ns)(hf:Sl w0 (c9 w0) fo fc fl):
  Rt Tryz.prog 43 [Ck so sc fo fc ns.length fl.length].toArray w0 fun v w'=>∃x,v=.tuple ⟨[x,Pj (F_ (ns,fl)).2]⟩∧Own w' w0.heap.size 3 c7 x (if(F_ (ns,fl)).2=0 then ie (ns,fl)else [])∧Ext w0 w':=by
 have Y:=B.len63;have Z:=hf.len63;refine dG Tryz.func43 Tryz.ntmps43 rfl rfl ?_;have e:=Ext.refl w0;refine Pm ?_;refine dZ rfl rfl rfl fun W c e1=>?_
 have e:=e.trans e1;refine Pw ?_;refine WL.call rfl rfl rfl (c8 W (B.up e) (hf.up e)) ?_;rintro _ m ⟨x,rfl,C,R⟩
 have c:=c.ext R;have e:=e.trans R;by_cases n:(F_ (ns,fl)).2=0
 case neg=>
  have A:((F_ (ns,fl)).2 != 0)=true:=by simpa using n
  refine Qw ?_;rw[A];refine Qr ?_;refine bf rfl rfl rfl ⟨_,rfl,?_,e⟩;rw[Ou n];exact Own.nil
 obtain⟨H,_,_⟩:=Gc n;rw[Ov n,n];have f:=jU H;have o:=f.n;have s:=f.f;dsimp only at o s
 clear C;refine P2 ?_;refine eY (α:=Int) rfl rfl rfl rfl OS OY (fun K ho3 r=>?_);have hE3:Ext w0 K:=e.grown r e.size O_;have Q:Ext m K:=(JJ _ _).grown r Pf O_;have I:=c;have c:=c.ext Q;have hlt:=(ho3.lt _ rfl).2.1;generalize X:Value.slice (some ⟨m.heap.size,0,none⟩) fl.length fl.length=sv at*
 refine QH ?_;refine CW.loop (S:=Nat) (fun i=>[(1,Pk w0.heap.size),(6,sv),(22,.slice fo fl.length fc),(23,Pj fl.length),(24,Pj i)])
  (fun i w=>i≤fl.length∧Own w m.heap.size 3 c7 sv (o9 (fun j=>if w_ (ns,fl) (fl.getD j (0,0)).1.toNat=1 then 1 else 0) fl.length i)∧Ext m w) (fun i=>fl.length -i) 0 OR ⟨by omega,by rw[pg];exact ho3,Q⟩ ?_
 rintro i V ⟨hi,g,z⟩
 have c:=I.ext z;have k:=e.trans z;refine Qw ?_;apply CW.cond rfl<;>intro h
 ·have d:i<fl.length:=by simp at h;omega
  obtain⟨a,b,ea,eb,O,N⟩:=AL f d;refine Qv ?_;refine eE rfl rfl rfl rfl rfl (hf.up k) d O3 (fun u q L=>?_);rw[L.pairI,ea,eb];clear L;skip;refine WL.alloc rfl rfl (fun w5 t P=>?_);refine QO ?_;refine WL.st rfl rfl rfl t rfl rfl Pd (fun U t G=>?_);have l:Ext V U:=P.grown G P.size O5;have c:=c.ext l;have J:=k.trans l;have g:=g.extN l;obtain⟨nb,off,rfl,hnb,D⟩:=(B.at J).nodeK O;have p:w_ (ns,fl) (fl.getD i (0,0)).1.toNat=ns[a].2:=by rw[qQ d,ea,Kd,xa O]
  refine QE ?_;refine eJ (α:=cJ) rfl rfl rfl rfl OS OS ?_;refine QR ?_;refine WL.load (α:=Int) (F:=c7) (y:=ns[a].2) rfl rfl rfl (by rw[Kd];exact D) rfl ?_;rw[show Iu Int [Pj ns[a].2]=Pj ns[a].2 from rfl];refine Pv ?_;apply CW.cond rfl<;>intro h
  ·have h:ns[a].2=1:=by simpa using h
   refine PC ?_;refine fu (u:=Pj 1) (yv:=(1:Int)) rfl rfl rfl rfl g (by rw[o_];exact d) O3 O3 Pe (fun T q ho7 E=>?_);have e7:Ext m T:=(z.trans l).grown E (z.trans l).size (fun b N=>(g.lt b N).1);refine PI ?_;refine EX.back (i+1) OR ⟨d,?_,e7⟩ OS;rw[←pd d,p,Ov h];exact ho7
  ·have h:¬ns[a].2=1:=by simpa using h
   refine Pq ?_;refine EX.back (i+1) OR ⟨d,?_,z.trans l⟩ OS;rw[←pf (by rw[p,Ou h])];exact g
 ·obtain rfl:i=fl.length:=by simp at h;omega
  have:o9 (fun j=>if w_ (ns,fl) (fl.getD j (0,0)).1.toNat=1 then 1 else 0) fl.length fl.length=ie (ns,fl):=by
   unfold o9 ie;apply KE OW;intro j h1 h2
   have M:j<fl.length:=by simpa using h1
   simp only[La,Lc,Ov M];rw[qQ M]
  rw[this]at g
  refine PG ?_;exact bf rfl rfl rfl ⟨_,rfl,g.low e.size,k⟩
theorem Hh(w:World)(n:Int):Rt Tryz.prog 177 [Pj n].toArray w fun v w'=>v=.bool (Hc n)∧Ext w w':=by
 refine dG Tryz.func177 Tryz.ntmps177 rfl rfl ?_;refine Qw ?_;by_cases h:n<0
 ·rw[Ol h]
  refine Pt ?_;exact be rfl rfl ⟨by unfold Hc;rw[Ol h];rfl,Ext.refl _⟩
 ·rw[Oj h]
  refine Pr ?_;exact be rfl rfl ⟨by unfold Hc;rw[Oj h];rfl,Ext.refl _⟩
theorem jo(w0:World){so fo mo:Option Addr}{sc fc mc:Nat}{ns:List cJ}{fl:List cI}{m:List Int}(s:Sl w0 (c9 w0) so sc ns)(hf:Sl w0 (c9 w0) fo fc fl)(l:Sl w0 (c9 w0) mo mc m):
  Rt Tryz.prog 122 [Ck so sc fo fc ns.length fl.length,.slice mo m.length mc].toArray w0 fun v w'=>∃x,v=.tuple ⟨[x,Pj (jO (ns,fl) m)]⟩∧Own w' w0.heap.size 127 c7 x (if jO (ns,fl) m=0 then Gi (ns,fl)else [])∧Ext w0 w':=by
 have u:=hf.len63;have t:=l.len63;refine dH Tryz.func122 Tryz.ntmps122 rfl rfl ?_;have a:=Ext.refl w0;refine Pm ?_;refine dZ rfl rfl rfl fun r f p=>?_
 have a:=a.trans p;refine Pw ?_;refine WL.call rfl rfl rfl (c8 r (s.up a) (hf.up a)) ?_;rintro _ q ⟨x,rfl,c,o⟩
 have f:=f.ext o;have a:=a.trans o;unfold jO;by_cases d:(F_ (ns,fl)).2=0
 case neg=>
  have g:((F_ (ns,fl)).2 != 0)=true:=by simpa using d
  refine Qw ?_;rw[g];refine Qr ?_;refine bf rfl rfl rfl ⟨_,by rw[Ov d],?_,a⟩;rw[Ov d,Ou d];exact Own.nil
 obtain⟨y,i,_⟩:=Gc d;rw[Ou (by simp[d]),d];rw[i]at c
 refine P2 ?_;by_cases k:m.length=fl.length
 ·have e:((m.length:Int) != (fl.length:Int))=false:=by simp[k]
  rw[e];refine QO ?_;refine WL.call rfl rfl rfl (k7 q Hc (l.up a) (fun w A j B=>FnV.mk (cs:=[]) (Hh w _))) ?_;rintro _ z ⟨rfl,n⟩
  have c:=c.extN n;have a:=a.trans n;refine Pv ?_;apply CW.cond rfl<;>intro h
  ·have h:m.any Hc=true:=by simpa using h
   refine P7 ?_;have b:(if m.length≠fl.length∨m.any Hc=true then(1:Int)else 0)=1:=Ov (.inr h);dsimp only;rw[b];exact bf rfl rfl rfl ⟨_,rfl,by rw[Ou OU];exact Own.nil,a⟩
  ·have h:¬(m.length≠fl.length∨m.any Hc=true):=by
    have h:m.any Hc=false:=by simpa using h
    rw[h];simp[k]
   refine Qd ?_;have b:(if m.length≠fl.length∨m.any Hc=true then(1:Int)else 0)=0:=Ou h;dsimp only;rw[b];exact bf rfl rfl rfl ⟨_,rfl,by rw[Ov rfl];exact c.low p.size,a⟩
 ·have e:((m.length:Int) != (fl.length:Int))=true:=by rw[Oe];omega
  rw[e];refine Qr ?_;have b:(if m.length≠fl.length∨m.any Hc=true then(1:Int)else 0)=1:=Ov (.inl k);dsimp only;rw[b];exact bf rfl rfl rfl ⟨_,rfl,by rw[Ou OU];exact Own.nil,a⟩
theorem qP{l:List Bool}{j:Nat}(h:j<l.length):l.getD j false=l[j]:=by rw[KR,KX h];rfl
theorem kZ(w0:World){so fo:Option Addr}{sc fc:Nat}{ns:List cJ}{fl:List cI}(hs:Sl w0 (c9 w0) so sc ns)(hf:Sl w0 (c9 w0) fo fc fl)(X:OkPr (ns,fl)){flow:Nat}(hfl:flow<fl.length)(but:Int):
  Rt Tryz.prog 214 [Ck so sc fo fc ns.length fl.length,Pj (flow:Int),Pj but].toArray w0 fun v w'=>Own w' w0.heap.size 4 c7 v (kV fl flow but)∧Ext w0 w':=by
 have hf30:=X.f;dsimp only at hf30
 refine dI Tryz.func214 Tryz.ntmps214 rfl rfl ?_;have hE:=Ext.refl w0;refine Pm ?_;refine dZ rfl rfl rfl fun o hb1 e1=>?_
 have hE:=hE.trans e1;have z1:=e1.size;refine QH ?_;refine eY (α:=Bool) rfl rfl rfl rfl OS OY (fun w2 ho2 hg2=>?_);have e2:Ext o w2:=(JJ _ _).grown hg2 Pf O_;have hlt:=(ho2.lt _ rfl).2.1;generalize hsv:Value.slice (some ⟨o.heap.size,0,none⟩) fl.length fl.length=sv at*
 have M:sv.ownBlock=some o.heap.size:=by rw[←hsv];rfl
 refine Qw ?_;refine fu (u:=.bool true) (yv:=true) rfl rfl rfl rfl ho2 (by simpa using hfl) O3 O3 (Rd.mkBool _ _ _) (fun w3 q ho3 hg3=>?_);have e3:Ext o w3:=e2.grown hg3 e2.size (fun b K=>(ho2.lt b K).1);have hlt3:o.heap.size<w3.heap.size:=(ho3.lt _ M).2.1;refine Qw ?_;refine WL.lit (F:=c7) (ys:=[(flow:Int)]) rfl rfl rfl rfl rfl (.cons Pe .nil) (by show 1*1≤16777216;decide) O6 (fun w4 ho4 hg4=>?_);have e4:Ext o w4:=e3.grown hg4 e3.size O_;have ho3:=ho3.keptN hg4 (fun g _ h=>by cases h);have hne4:∀b,Value.ownBlock (.slice (some ⟨w3.heap.size,0,none⟩) 1 1)=some b→b≠o.heap.size:=fun b K=>by
  have e:some w3.heap.size=some b:=K
  injection e with e;omega
 have ho4:=ho4.low e3.size;generalize Value.slice (some ⟨w3.heap.size,0,none⟩) 1 1=tv at*
 have hI:ComeI fl ((List.replicate fl.length false).set flow true) [(flow:Int)]:=⟨by simp,fun x hx=>by rw[L0]at hx;omega⟩;have hm0:[(flow:Int)].length+oQ ((List.replicate fl.length false).set flow true)≤fl.length:=by
  have:=oT (l:=List.replicate fl.length false) (k:=flow) (by simpa using hfl) (by rw[KR,K2];split<;>rfl);rw[oS]at this
  simp only[Ll,Lr];omega
 clear e2 e3 hg2 hg3 hg4 ho2;refine Qu ?_;refine CW.loop (S:=Nat×List Bool×List Int×Value) (fun s=>[(2,Pj but),(3,Pk w0.heap.size),(7,sv),(8,s.2.2.2)])
  (fun s w=>kR fl but s.1 s.2.1 s.2.2.1=kV fl flow but∧ComeI fl s.2.1 s.2.2.1∧s.2.2.1.length+oQ s.2.1≤s.1∧s.1≤fl.length∧Own w o.heap.size 4 c7 sv s.2.1∧Own w o.heap.size 3 c7 s.2.2.2 s.2.2.1∧(∀b,s.2.2.2.ownBlock=some b→b≠o.heap.size)∧Ext o w) (fun s=>s.1)
  (fl.length,(List.replicate fl.length false).set flow true,[(flow:Int)],tv) OR ⟨rfl,hI,hm0,MM _,ho3,ho4,hne4,e4⟩ ?_
 rintro⟨f,out,N,tv⟩ w5 ⟨m,hI,R,hfF,C,I,hne,e5⟩
 dsimp only at m hI R hfF C I hne e5⊢
 have hE5:=hE.trans e5;have hb5:=hb1.ext e5;refine Qu ?_;apply CW.cond rfl<;>intro h0
 ·simp at h0
  match N,h0 with
  |x::r,_=>
  have hx:=hI.ok x OW;obtain⟨k,rfl⟩:=J9 hx.1;have hk:k<fl.length:=by omega
  obtain⟨a,b,ea,eb,ha,K⟩:=AL X hk
  match f,R with
  |0,R=>simp at R
  |f+1,R=>
  have R:r.length+oQ out≤f:=by simp at R;omega
  have hI':ComeI fl out r:=⟨hI.len,fun y hy=>hI.ok y (by simp[hy])⟩;unfold kR at m
  rw[Kd,qQ hk,ea]at m
  obtain⟨to,tc,rfl,hts⟩:=I.oldN.sl;obtain⟨fb,off,rfl,hfb,hc1,_⟩:=(hf.up hE5).pair hk;refine QN ?_;refine dl (i:=0) rfl rfl rfl rfl rfl O8 hts OS OW O3 (fun u q hu=>?_);obtain rfl:=hu.int;simp only[Int.toNat_zero,K9];refine dq (α:=cI) rfl rfl rfl rfl OS OS ?_;refine QT ?_;refine QL.load (α:=Int) (F:=c7) (y:=fl[k].1) rfl rfl rfl hfb O6 (by rw[Kd];exact hc1) rfl ?_;rw[show Iu Int [Pj fl[k].1]=Pj fl[k].1 from rfl,ea];refine QP ?_;refine QL.nil (fun w6 W=>?_);have C:=C.extN W;have I:=I.extN W;have W:=e5.trans W;have hE6:=hE.trans W;have hb6:=hb1.ext W;clear hts;refine Qv ?_;refine eA (α:=Int) 1 rfl rfl rfl rfl rfl I OW (fun nv2 H hnb=>?_);simp only[KB,KC]at H
  have Q:∀b,nv2.ownBlock=some b→b≠o.heap.size:=fun b K=>hne b (by rw[←hnb];exact K)
  refine Qw ?_;apply CW.cond rfl<;>intro h2
  ·have h2:(a:Int)=but:=by simpa using h2
   rw[Ov h2]at m
   refine PZ ?_;exact EX.back (f,out,r,nv2) OR ⟨m,hI',R,by omega,C,H,Q,W⟩ OX
  have h2:¬(a:Int)=but:=by simpa using h2
  rw[Ou h2]at m
  refine Qh ?_;refine CW.loop (S:=Nat×List Bool×List Int×Value) (fun s=>[(2,Pj but),(3,Pk w0.heap.size),(7,sv),(8,s.2.2.2),(9,Pj (a:Int)),(38,.slice (some ⟨fb,off,none⟩) fl.length fc),(39,Pj fl.length),(40,Pj s.1)])
   (fun s w=>s.1≤fl.length∧(s.2.1,s.2.2.1)=(List.range s.1).foldl (kX fl (a:Int)) (out,r)∧ComeI fl s.2.1 s.2.2.1∧s.2.2.1.length+oQ s.2.1=r.length+oQ out∧Own w o.heap.size 4 c7 sv s.2.1∧Own w o.heap.size 3 c7 s.2.2.2 s.2.2.1∧(∀b,s.2.2.2.ownBlock=some b→b≠o.heap.size)∧Ext o w) (fun s=>fl.length -s.1)
   (0,out,r,nv2) OR ⟨Nc _,rfl,hI',rfl,C,H,Q,W⟩ ?_
  rintro⟨j,out2,todo2,tv3⟩ w7 ⟨hj,B,D,L,J,G,d,e7⟩
  dsimp only at hj B D L J G d e7⊢
  have hE7:=hE.trans e7;refine Qw ?_;apply CW.cond rfl<;>intro h1
  ·have z:j<fl.length:=by simp at h1;omega
   obtain⟨a2,b2,ea2,eb2,ha2,hb2⟩:=AL X z;have A:=kY (n:=(a:Int)) z D;have c:kX fl (a:Int) (out2,todo2) j=(List.range (j+1)).foldl (kX fl (a:Int)) (out,r):=by
    rw[Mb,List.foldl_append,←B];rfl
   have Z:j<out2.length:=by rw[D.len];exact z
   have hcs:kX fl (a:Int) (out2,todo2) j=if(b2:Int)=(a:Int)∧out2[j]=false then(out2.set j true,todo2++[(j:Int)])else(out2,todo2):=by
    unfold kX;rw[qQ z,eb2,qP Z]
   rw[hcs]at A c
   have hlen3:todo2.length≤60:=by have:=oR (l:=out);have:=hI.len;omega
   refine Qv ?_;refine eE rfl rfl rfl rfl rfl (hf.up hE7) z O3 (fun u q hu=>?_);rw[hu.pairI,ea2,eb2];clear hu;skip;refine WL.alloc rfl rfl (fun w8 hb8 e8=>?_);refine QO ?_;refine WL.st rfl rfl rfl hb8 rfl rfl Pd (fun w9 hb9 hg9=>?_);have V:Ext w7 w9:=e8.grown hg9 e8.size O5;have t:=J.extN V;have E:=G.extN V;have V:=e7.trans V;refine QE ?_;by_cases h3:(b2:Int)=(a:Int)
   ·rw[show((b2:Int)==(a:Int))=true by simpa using h3]
    refine QO ?_;refine eG rfl rfl rfl rfl rfl t Z O3 (fun u q hu=>?_);obtain rfl:=hu.bool;refine Pv ?_;by_cases h4:out2[j]=false
    ·rw[Ov ⟨h3,h4⟩]at A c
     dsimp only at A
     rw[h4];refine P0 ?_;refine fu (u:=.bool true) (yv:=true) rfl rfl rfl rfl t Z O3 O3 (Rd.mkBool _ _ _) (fun w10 q P U=>?_);have e10:Ext o w10:=V.grown U V.size (fun b K=>(t.lt b K).1);have O:=E.keptN U (fun g hg=>by rw[M];simpa using d g hg);refine PP ?_;refine dY (F:=c7) (yv:=(j:Int)) rfl rfl O3 rfl rfl O3 O Pe e10.size O6 OU OY OS (fun v' w11 p ho11 T Y=>?_);have e11:Ext o w11:=e10.grown T e10.size (fun b K=>(O.lt b K).1);have hd11:=P.keptN T (fun g hg e=>by rw[M]at hg;cases hg;exact d _ e.symm rfl);refine PI ?_;refine EX.back (j+1,out2.set j true,todo2++[(j:Int)],v') OR ⟨z,c,A.1,by rw[A.2];exact L,hd11,ho11,?_,e11⟩ OX;intro b hb'
     rcases Y b hb' with h|h
     ·exact d b h
     ·have:=(P.lt _ M).2.1;omega
    ·rw[Ou (fun h=>h4 h.2)]at A c
     have h4:out2[j]=true:=by simpa using h4
     rw[h4];refine QD ?_;exact EX.back (j+1,out2,todo2,tv3) OR ⟨z,c,D,L,t,E,d,V⟩ OX
   ·rw[Ou (fun h=>h3 h.1)]at A c
    rw[show((b2:Int)==(a:Int))=false by simpa using h3];refine QF ?_;exact EX.back (j+1,out2,todo2,tv3) OR ⟨z,c,D,L,t,E,d,V⟩ OX
  ·obtain rfl:j=fl.length:=by simp at h1;omega
   rw[←B]at m
   refine PZ ?_;exact EX.back (f,out2,todo2,tv3) OR ⟨m,D,by dsimp only;omega,by dsimp only;omega,J,G,d,e7⟩ OX
 ·have hnil:N=[]:=by
   simpa using h0
  subst hnil;rw[kU]at m
  subst m;refine PG ?_;exact be rfl rfl ⟨C.low z1,hE5⟩
theorem gm{α:Type}(p:α→Bool){l:List α}{i:Nat}(h:i<l.length):(l.take (i+1)).any p=((l.take i).any p||p l[i]):=by
 rw[←Mk h,Kg];simp
theorem rn{l:List Int}{j:Nat}(h:j<l.length):l.getD j 0=l[j]:=by rw[KR,KX h];rfl
theorem wj{p:cL}{m:List Int}{n f:Int}(h:f∈vP p.2 n)(h1:¬m.getD f.toNat 0>0)(h2:gY p m n f=true):wi p m n=false:=by
 unfold wi;rw[Ov];exact Ki.2 ⟨f,h,by rw[Oj h1,h2];rfl⟩
theorem wl{p:cL}{m:List Int}{n:Int}(h:∀f∈vP p.2 n,¬m.getD f.toNat 0>0→gY p m n f=false):wi p m n=(vP p.2 n).any fun f=>decide (m.getD f.toNat 0>0):=by
 unfold wi;rw[Ou];rw[Ki];rintro⟨f,hf,a⟩
 rw[JM]at a
 have h1:¬m.getD f.toNat 0>0:=by simpa using a.1
 rw[h f hf h1]at a
 simp at a
def gR(fl:List cI)(m:List Int)(c:List Bool)(n:Int)(i:Nat):Bool:=c.getD i false&&decide (m.getD i 0>0)&&decide ((fl.getD i (0,0)).2≠n)
theorem gZ{p:cL}{m:List Int}{n:Int}{f:Nat}:gY p m n (f:Int)=(List.range p.2.length).any (gR p.2 m (kV p.2 f n) n):=rfl
theorem wm(w0:World){so fo mo:Option Addr}{sc fc mc:Nat}{ns:List cJ}{fl:List cI}{m:List Int}(hs:Sl w0 (c9 w0) so sc ns)(hf:Sl w0 (c9 w0) fo fc fl)(hm:Sl w0 (c9 w0) mo mc m)(W:jT (ns,fl)=0)(hml:m.length=fl.length){n:Nat}(hn:n<ns.length):
  Rt Tryz.prog 178 [Ck so sc fo fc ns.length fl.length,.slice mo m.length mc,Pj (n:Int)].toArray w0 fun v w'=>v=.bool (wi (ns,fl) m (n:Int))∧Ext w0 w':=by
 have N:=jU W;have V:=N.f;dsimp only at V
 have P:xR (ns,fl) (n:Int)=0:=xS W hn;refine dI Tryz.func178 Tryz.ntmps178 rfl rfl ?_;have J:=Ext.refl w0;refine Pm ?_;refine dZ rfl rfl rfl fun w1 g e1=>?_
 have J:=J.trans e1;refine Pw ?_;refine WL.call rfl rfl rfl (cD w1 (hs.up J) (hf.up J) (n:Int)) ?_;rintro _ w2 ⟨x,rfl,E,e2⟩
 rw[P,Ov rfl]at E
 have g:=g.ext e2;have J:=J.trans e2;obtain⟨xo,xc,rfl,Y⟩:=E.oldN.sl;have U:=fun x (hx:x∈vP fl (n:Int))=>insP_mem.1 hx
 have T:=fun f=>@wj (ns,fl) m (n:Int) f
 have Q:=@wl (ns,fl) m (n:Int);have hil:(vP fl (n:Int)).length≤fl.length:=vS;dsimp only at T Q
 rw[P];clear E e1;generalize vP fl (n:Int)=ins at*
 refine Qp ?_;refine CW.loop (S:=Nat×Bool) (fun s=>[(1,.slice mo m.length mc),(2,Pj (n:Int)),(3,Pk w0.heap.size),(9,.bool s.2),(20,.slice xo ins.length xc),(21,Pj ins.length),(22,Pj s.1)])
  (fun s w=>s.1≤ins.length∧s.2=((ins.take s.1).any fun f=>decide (m.getD f.toNat 0>0))∧(∀j (h:j<ins.length),j<s.1→¬m.getD ins[j].toNat 0>0→gY (ns,fl) m (n:Int) ins[j]=false)∧Ext w2 w) (fun s=>ins.length -s.1)
  (0,false) OR ⟨Nc _,rfl,(fun j _ h=>absurd h (MZ _)),Ext.refl _⟩ ?_
 rintro⟨i,b⟩ w3 ⟨hi,X,l,M⟩
 dsimp only at hi X l M⊢
 have g:=g.ext M;have z:=J.trans M;refine Qw ?_;apply CW.cond rfl<;>intro h
 ·have u:i<ins.length:=by simp at h;omega
  have C:=Lb u;obtain⟨f,ef,o,_⟩:=U _ C;have A:f<m.length:=by rw[hml];exact o
  have d:=gm (fun f:Int=>decide (m.getD f.toNat 0>0)) u;rw[ef,Kd,rn A]at d
  refine Qo ?_;refine eD rfl rfl rfl rfl rfl (Y.up M) u ef O3 (fun q=>?_);refine Qw ?_;refine eD rfl rfl rfl rfl rfl (hm.up z) A rfl O3 (fun q=>?_);refine Pv ?_;apply CW.cond rfl<;>intro h
  ·rw[h,JZ]at d
   have hp:m.getD ins[i].toNat 0>0:=by rw[ef,Kd,rn A];simpa using h
   refine QC ?_;refine EX.back (i+1,true) OR ⟨u,d.symm,fun j G o hn=>?_,M⟩ OX;dsimp only at o
   by_cases e:j=i
   ·subst e;exact absurd hp hn
   ·exact l j G OS hn
  rw[h,JY,←X]at d
  have Z:¬m.getD ins[i].toNat 0>0:=by rw[ef,Kd,rn A];simpa using h
  have B:=gZ (p:=(ns,fl)) (m:=m) (n:=(n:Int)) (f:=f);rw[←ef]at B
  dsimp only at B
  refine Qt ?_;refine WL.call rfl rfl rfl (kZ w3 (hs.up z) (hf.up z) N o (n:Int)) ?_;rintro v w4 ⟨O,e4⟩
  have g:=g.ext e4;have hE4:=z.trans e4;have hcl:=kW (fl:=fl) (flow:=f) (but:=(n:Int));generalize kV fl f (n:Int)=c at*
  obtain⟨co,cc,rfl,hcs⟩:=O.oldN.sl;clear O;refine PS ?_;refine CW.loop (S:=Nat) (fun j=>[(1,.slice mo m.length mc),(2,Pj (n:Int)),(3,Pk w0.heap.size),(9,.bool b),(20,.slice xo ins.length xc),(21,Pj ins.length),(22,Pj i),(34,.slice co c.length cc),(35,Pj c.length),(36,Pj j)])
   (fun j w=>j≤c.length∧(∀k,k<j→gR fl m c (n:Int) k=false)∧Ext w4 w) (fun j=>c.length -j) 0 OR ⟨Nc _,(fun k h=>absurd h (MZ _)),Ext.refl _⟩ ?_
  rintro j w5 ⟨G,D,K⟩
  have g:=g.ext K;have I:=hE4.trans K;refine Qw ?_;apply CW.cond rfl<;>intro h2
  ·have t:j<c.length:=by simp at h2;omega
   have r:j<fl.length:=by omega
   have R:j<m.length:=by omega
   have a:gR fl m c (n:Int) j=(c[j]&&decide (m[j]>0)&&decide (fl[j].2≠(n:Int))):=by unfold gR;rw[qP t,rn R,qQ r]
   have H:gR fl m c (n:Int) j=false→∀k,k<j+1→gR fl m c (n:Int) k=false:=fun h k hk=>by
    by_cases e:k=j
    ·subst e;exact h
    ·exact D k OS
   refine Qv ?_;refine eC rfl rfl rfl rfl rfl (hcs.up K) t rfl O3 (fun q=>?_);refine Qw ?_;by_cases h3:c[j]=true
   ·rw[h3]at a⊢
    rw[J0]at a
    refine QO ?_;refine eD rfl rfl rfl rfl rfl (hm.up I) R rfl O3 (fun q=>?_);refine QO ?_;by_cases h4:m[j]>0
    ·rw[Ol h4]at a⊢
     rw[J0]at a
     obtain⟨fb,off,rfl,hfb,_,hc2⟩:=(hf.up I).pair r;refine QV ?_;refine eJ (α:=cI) rfl rfl rfl rfl OS OS ?_;refine QR ?_;refine WL.load (α:=Int) (F:=c7) (y:=fl[j].2) rfl rfl rfl (by rw[Kd];exact hc2) rfl ?_;rw[show Iu Int [Pj fl[j].2]=Pj fl[j].2 from rfl];refine Pv ?_;apply CW.cond rfl<;>intro L
     ·have L:fl[j].2≠(n:Int):=by simpa using L
      rw[Ol L]at a
      have hbt:gY (ns,fl) m (n:Int) ins[i]=true:=by
       rw[B];exact Ki.2 ⟨j,LZ.2 r,a⟩
      refine Pl ?_;refine be rfl rfl ⟨?_,I⟩;rw[T _ C Z hbt]
     ·have L:¬fl[j].2≠(n:Int):=by simpa using L
      rw[Oj L]at a
      refine Pq ?_;exact EX.back (j+1) OR ⟨t,H a,K⟩ OS
    ·rw[Oj h4]at a⊢
     rw[JP]at a
     refine QF ?_;exact EX.back (j+1) OR ⟨t,H a,K⟩ OS
   ·have h3:c[j]=false:=by simpa using h3
    rw[h3]at a⊢
    rw[JP,JP]at a
    refine QF ?_;exact EX.back (j+1) OR ⟨t,H a,K⟩ OS
  ·obtain rfl:j=c.length:=by simp at h2;omega
   have hbf:gY (ns,fl) m (n:Int) ins[i]=false:=by
    rw[B];exact Kh.2 (fun k hk=>by rw[D k (by rw[hcl];exact LZ.1 hk)];simp)
   refine PJ ?_;refine EX.back (i+1,b) OR ⟨u,d.symm,fun j G o hn=>?_,(M.trans e4).trans K⟩ OX;dsimp only at o
   by_cases e:j=i
   ·subst e;exact hbf
   ·exact l j G OS hn
 ·obtain rfl:i=ins.length:=by simp at h;omega
  rw[Ml]at X
  have:=Q (fun f hf hn=>by
   obtain⟨j,G,rfl⟩:=LT.1 hf;exact l j G G hn)
  refine PG ?_;exact be rfl rfl ⟨by rw[this,←X],z⟩
theorem nA(w:World)(b:Nat){mo:Option Addr}{mc:Nat}{m:List Int}(d:Blk w b 38 [.slice mo m.length mc])(c:Sl w (c9 w) mo mc m){f:Nat}(a:f<m.length):
  Rt Tryz.prog 179 [Pj (f:Int),Pk b].toArray w fun v w'=>v=.bool (m.getD f 0==0)∧Ext w w':=by
 refine dH Tryz.func179 Tryz.ntmps179 rfl rfl ?_;refine QE ?_;refine eD rfl rfl rfl rfl rfl c a rfl O3 (fun q=>?_);refine Pr ?_;exact be rfl rfl ⟨by rw[rn a],Ext.refl _⟩
theorem nD(w0:World){so fo mo:Option Addr}{sc fc mc:Nat}{ns:List cJ}{fl:List cI}{m:List Int}(u:Sl w0 (c9 w0) so sc ns)(hf:Sl w0 (c9 w0) fo fc fl)(B:Sl w0 (c9 w0) mo mc m)(i:jT (ns,fl)=0)(e:m.length=fl.length){s:cN}{n:Nat}(hn:n<ns.length)(d:s∈Gl (ns,fl) n):
  Rt Tryz.prog 123 [Ck so sc fo fc ns.length fl.length,.slice mo m.length mc,FY s].toArray w0 fun v w'=>v=.bool (nB (ns,fl) m s)∧Ext w0 w':=by
 have z:=jU i;have p:=z.f;dsimp only at p
 have J:=Gg _ d;have I:=Ge _ d;have l:xR (ns,fl) (n:Int)=0:=xS i hn;clear d;obtain⟨U,H,T⟩:=s;dsimp only at J I
 subst J;unfold FY nB;dsimp only;refine dI Tryz.func123 Tryz.ntmps123 rfl rfl ?_;have a:=Ext.refl w0;refine Pm ?_;refine dZ rfl rfl rfl fun S c P=>?_
 have a:=a.trans P;skip;refine dZ rfl rfl rfl fun R b L=>?_
 have c:=c.ext L;have a:=a.trans L;skip;refine dZ rfl rfl rfl fun G N D=>?_
 have c:=c.ext D;have b:=b.ext D;have a:=a.trans D;refine QE ?_;apply CW.cond rfl<;>intro h
 ·have h:H≥0:=by simpa using h
  rcases I with rfl|C
  ·omega
  obtain⟨f,rfl,g,_⟩:=insP_mem.1 C;have o:f<m.length:=by rw[e];exact g
  rw[Ov h,Kd,rn o];refine Qj ?_;refine eD rfl rfl rfl rfl rfl (B.up a) o rfl O3 (fun q=>?_);refine PL ?_;exact be rfl rfl ⟨rfl,a⟩
 have h:¬0≤H:=by simpa using h
 rw[Ou h,Kd,xa hn];obtain⟨V,off,rfl,hnb,A⟩:=(u.at a).nodeK hn;refine QG ?_;refine eJ (α:=cJ) rfl rfl rfl rfl OS OS ?_;refine QR ?_;refine WL.load (α:=Int) (F:=c7) (y:=ns[n].2) rfl rfl rfl (by rw[Kd];exact A) rfl ?_;rw[show Iu Int [Pj ns[n].2]=Pj ns[n].2 from rfl];refine Pv ?_;apply CW.cond rfl<;>intro h
 ·have h:ns[n].2=7:=by simpa using h
  rw[Ov h];refine QG ?_;refine WL.call rfl rfl rfl (wm G (u.up a) (hf.up a) (B.up a) i e hn) ?_;rintro _ E ⟨rfl,r⟩
  refine PL ?_;exact be rfl rfl ⟨rfl,a.trans r⟩
 have h:¬ns[n].2=7:=by simpa using h
 rw[Ou h];refine QG ?_;refine WL.call rfl rfl rfl (cD G (u.up a) (hf.up a) (n:Int)) ?_;rintro _ E ⟨x,rfl,k,r⟩
 rw[l,Ov rfl]at k
 rw[l];have b:=b.ext r;have a:=a.trans r;obtain⟨xo,xc,rfl,t⟩:=k.oldN.sl;refine PK ?_;refine WL.call rfl rfl rfl (k7 E (fun f=>m.getD f.toNat 0==0) t (fun w K j M=>?_)) ?_
 ·obtain⟨f,ef,g,_⟩:=insP_mem.1 (Lb M)
  rw[ef,Kd];exact FnV.mk (cs:=[_]) (nA w _ (b.ext K) (B.up (a.trans K)) (by rw[e];exact g))
 rintro _ Q ⟨rfl,O⟩
 refine Pr ?_;exact be rfl rfl ⟨rfl,a.trans O⟩
theorem Gj{p:cL}{i:Nat}(h:i<(Gi p).length):(Gi p).getD i (0,0,0)=(Gi p)[i]:=by rw[KR,KX h];rfl
theorem jP{p:cL}{m:List Int}(h:jO p m=0):jT p=0∧m.length=p.2.length∧m.any Hc=false∧(Gi p).length≤60:=by
 unfold jO at h
 split at h
 ·rename_i h1;exact absurd h h1
 ·rename_i h1
  split at h
  ·cases h
  ·rename_i h2
   have:=Gc (p:=p) (by simpa using h1);refine⟨this.1,J3 fun e=>h2 (.inl e),?_,this.2.2⟩;by_cases e:m.any Hc=true
   ·exact absurd (.inr e) h2
   ·simpa using e
theorem bB(w0:World){so fo mo:Option Addr}{sc fc mc:Nat}{ns:List cJ}{fl:List cI}{m:List Int}(E:Sl w0 (c9 w0) so sc ns)(hf:Sl w0 (c9 w0) fo fc fl)(G:Sl w0 (c9 w0) mo mc m):
  Rt Tryz.prog 46 [Ck so sc fo fc ns.length fl.length,.slice mo m.length mc].toArray w0 fun v w'=>∃x,v=.tuple ⟨[x,Pj (jO (ns,fl) m)]⟩∧Own w' w0.heap.size 3 c7 x (if jO (ns,fl) m=0 then jc (ns,fl) m else [])∧Ext w0 w':=by
 refine dH Tryz.func46 Tryz.ntmps46 rfl rfl ?_;have e:=Ext.refl w0;refine Pm ?_;refine dZ rfl rfl rfl fun X c e1=>?_
 have e:=e.trans e1;refine Pw ?_;refine WL.call rfl rfl rfl (jo X (E.up e) (hf.up e) (G.up e)) ?_;rintro _ D ⟨x,rfl,l,R⟩
 have c:=c.ext R;have e:=e.trans R;by_cases r:jO (ns,fl) m=0
 case neg=>
  have I:(jO (ns,fl) m != 0)=true:=by simpa using r
  refine Qw ?_;rw[I];refine Qr ?_;refine bf rfl rfl rfl ⟨_,rfl,?_,e⟩;rw[Ou r];exact Own.nil
 obtain⟨M,y,_,P⟩:=jP r;rw[Ov r]at l
 rw[Ov r,r];dsimp only at y
 obtain⟨xo,xc,rfl,J⟩:=l.oldN.sl;clear l;have z:∀k,k≤(Gi (ns,fl)).length→(jd (ns,fl) m k).length≤60:=fun k hk=>by
  unfold jd;rw[Lq];have:=Lp (fun i=>nB (ns,fl) m ((Gi (ns,fl)).getD i (0,0,0))) (List.range k);rw[Lt]at this
  omega
 have T:=e.size;refine QA ?_;refine CW.loop (S:=Nat×Value) (fun s=>[(1,.slice mo m.length mc),(2,Pk w0.heap.size),(8,s.2),(20,.slice xo (Gi (ns,fl)).length xc),(21,Pj (Gi (ns,fl)).length),(22,Pj s.1)])
  (fun s w=>s.1≤(Gi (ns,fl)).length∧Own w D.heap.size 3 c7 s.2 (jd (ns,fl) m s.1)∧Ext D w) (fun s=>(Gi (ns,fl)).length -s.1) (0,.slice none 0 0) OR ⟨Nc _,Own.nil,Ext.refl _⟩ ?_
 rintro⟨i,ov⟩ W ⟨hi,f,C⟩
 dsimp only at hi f C⊢
 have c:=c.ext C;have B:=e.trans C;refine Qw ?_;apply CW.cond rfl<;>intro h
 ·have d:i<(Gi (ns,fl)).length:=by simp at h;omega
  obtain⟨n,hn,t⟩:=stepsP_mem.1 (Lb d);have a:=je (p:=(ns,fl)) (m:=m) (k:=i);rw[Gj d]at a
  have Z:=z i hi;refine Qv ?_;refine eE rfl rfl rfl rfl rfl (J.up C) d O3 (fun u q O=>?_);rw[O.step];have A:=fun w E hf G=>nD w (so:=so) (fo:=fo) (mo:=mo) (sc:=sc) (fc:=fc) (mc:=mc) E hf G M y hn t
  clear O t;generalize (Gi (ns,fl))[i]=s at*
  unfold FY at A⊢
  skip;refine WL.alloc rfl rfl (fun w4 g Q=>?_);refine QO ?_;refine WL.st rfl rfl rfl g rfl rfl Pd (fun N g L=>?_);have H:Ext W N:=Q.grown L Q.size O5;have c:=c.ext H;have o:=B.trans H;have f:=f.extN H;refine Pw ?_;refine WL.call rfl rfl rfl (A N (E.up o) (hf.up o) (G.up o)) ?_;rintro _ V ⟨rfl,j⟩
  have f:=f.extN j;have j:Ext D V:=(C.trans H).trans j;have z6:=j.size;refine QB ?_;apply CW.cond rfl<;>intro h
  ·rw[Ov h]at a
   refine PC ?_;refine dY (F:=c7) (yv:=(i:Int)) rfl rfl O3 rfl rfl O3 f Pe j.size O6 OU OY OS (fun Y U p ho7 K hnb=>?_);have e7:Ext D U:=j.grown K j.size (fun b hb=>(f.lt b hb).1);rw[←a]at ho7
   refine PI ?_;exact EX.back (i+1,Y) OR ⟨d,ho7,e7⟩ OX
  ·rw[Ou (by simp[h]),Kk]at a
   refine Pq ?_;exact EX.back (i+1,ov) OR ⟨d,by dsimp only;rw[a];exact f,j⟩ OX
 ·obtain rfl:i=(Gi (ns,fl)).length:=by simp at h;omega
  refine PG ?_;exact bf rfl rfl rfl ⟨_,rfl,f.low T,B⟩
theorem nw(w:World)(F:Nat→Prop):∀k:Nat,Elems w F (List.replicate k (Pj 0)) (List.replicate k (0:Int))
 |0=>Elems.nil
 |k+1=>by
  rw[Md,Md];exact(nw w F k).append (Elems.one (C2 w F 0))
section
variable {P:Program}{Q:Exit→Act→World→Prop}{n:Nat}{σ:Sg}{w:World}{L rest:List Oper}{d:Nat}{ty:TypeId}{pos:String}{af:Array Edge}{g:Option (Nat×Bool)}{t e:TypeId}{bytes:Nat}
theorem ft{op:Op}{v:Value}{w':World}(f:gd L σ ⟨none,op,ty,pos,af,g⟩=some true)
  (c:∀a,Fr n σ a→(execOp a.eval ⟨none,op,ty,pos,af,g⟩).run P w=.ok (.value v) w') (h:WL P L Q rest n σ w'):WL P L Q (⟨none,op,ty,pos,af,g⟩::rest) n σ w:=by
 unfold WL at*
 intro a b
 refine OM fun K i=>?_
 rw[qN b f,Ov rfl];unfold Oper.wp;rw[c a b];exact i _ _ (h _ (b.put (d:=none) (v:=v) rfl))
theorem D2{v:Value}{xs:List Int}{B:Nat}(w:World)[q:IsS P t e][E:IsT P e Int][x:IsZ P e (0:Int) bytes](j:Own w B e c7 v xs):
  ∃w',(Builtin.clear_ #[t] ty #[v]).run P w=.ok (.tuple #[]) w'∧Own w' B e c7 v (xs.map fun _=>(0:Int))∧w.grownBy w' v.ownBlock:=by
 rcases j with⟨rfl,rfl⟩|⟨b,off,cap,cur,rfl,c⟩
 ·refine⟨w,by simp[Builtin.clear_,OI q.ok],Own.nil,?_⟩
  exact⟨rfl,rfl,rfl,MM _,fun k _ _=>rfl⟩
 ·by_cases u:xs=[]
  ·subst u
   refine⟨w,by simp[Builtin.clear_,OI q.ok],.inr ⟨b,off,cap,cur,rfl,c⟩,?_⟩;exact⟨rfl,rfl,rfl,MM _,fun k _ _=>rfl⟩
  obtain⟨i,z,h1,h2,h3,h4⟩:=x.ok;have o:z.cells.toList=[Pj 0]:=h4 w c7;have p:z.cells=#[Pj 0]:=by apply Jr;exact o
  have s:0<xs.length:=Ls.2 u;obtain⟨k,r⟩:∃k,xs.length=k+1:=⟨xs.length -1,by omega⟩;have f:sz Int=1:=rfl;have l:=c.fit;have A:=c.le;rw[f,MY]at l
  have a:=OH P b off e (List.replicate xs.length (Pj 0)) 0 cur w c.blk OZ (fun v y=>by rw[List.eq_of_mem_replicate y];rfl);simp only[Mz]at a
  have h:(Builtin.zeroCells z.cells xs.length).toList=List.replicate xs.length (Pj 0):=by
   rw[p];simp[Builtin.zeroCells];apply KE
   ·simp
   ·intro i h1 h2
    simp[Nat.mod_one]
  refine⟨w.setRow b (cur.toList.take off++List.replicate xs.length (Pj 0)++cur.toList.drop (off+xs.length)).toArray,?_,.inr ⟨b,off,cap,(cur.toList.take off++List.replicate xs.length (Pj 0)++cur.toList.drop (off+xs.length)).toArray,by rw[Lq],⟨OJ w b cur _ e _ c.blk,c.ge,c.nF,by simpa using c.le,c.mx,?_,?_⟩⟩,⟨rfl,rfl,rfl,by simp,fun k _ r=>OK w b k _ (fun e=>r (by rw[e];rfl))⟩⟩
  ·rw[Lu]at a
   rw[r]at a h⊢
   have m:(zeroValue e).run P w=.ok z w:=by simp[zeroValue,typeInfo,h1,h2]
   simp only[Kj]at a
   simp[Builtin.clear_,OI q.ok,m,h,a]
  ·simp only[Mh,Lk,Lz,Lm,JD,Lu]
   rw[f];omega
  ·rw[Lq,f,MY,LF]
   have D:((((cur.toList.take off++List.replicate xs.length (Pj 0)++cur.toList.drop (off+xs.length)).toArray.toList).drop off).take xs.length)=List.replicate xs.length (Pj 0):=by
    have C:(cur.toList.take off).length=off:=by rw[Lz,JD];omega
    simp only[Kj];rw[Kv,C,M8,KC,Kz OS,L2,List.take_append];simp
   rw[D];exact nw _ _ _
theorem eg{x:Operand}{v:Value}{xs:List Int}{B:Nat}(k:gd L σ ⟨none,.call ⟨.builtin .clear,#[x],#[t]⟩,ty,pos,af,g⟩=some true)
  (f:ev σ x=some v) [p:IsS P t e] [o:IsT P e Int] [m:IsZ P e (0:Int) bytes] (b:Own w B e c7 v xs)
  (h:∀w',Own w' B e c7 v (xs.map fun _=>(0:Int))→w.grownBy w' v.ownBlock→WL P L Q rest n σ w'):
  WL P L Q (⟨none,.call ⟨.builtin .clear,#[x],#[t]⟩,ty,pos,af,g⟩::rest) n σ w:=by
 obtain⟨w',i,j,c⟩:=D2 (P:=P) (t:=t) (ty:=ty) w b;refine ft (v:=.tuple #[]) k (fun a l=>?_) (h w' j c);simp[execOp,resolve,invoke,builtin,l.ev f,i]
end
theorem iz{a:Int}{k:Nat}(c:0≤a)(h1:a<4611686018427387904):bits BinOp.and IntKind.i64 (a / 2 ^ k) 1=iw a k:=by
 have h:(1:Int)≤2 ^ k:=Cg k;have b:0≤a / 2 ^ k:=Int.ediv_nonneg c OS;have f:a / 2 ^ k≤a:=Int.ediv_le_self _ c;obtain⟨q,hq⟩:=J9 b;have:=Go.Proofs.and_one q OS;unfold iw;rw[hq,this];omega
theorem G4{s:cN}{o:List Int}{f:Nat}(hf:f<o.length)(h:¬(s.2.1=(f:Int)∨s.2.1<0∧o[f]>0)):o.set f (G1 o s (f:Int))=o:=by
 unfold G1;rw[Kd,rn hf,Ou h,Mf]
def Hd(b:Nat)(o:List Int):Prop:=∀k (h:k<o.length),-(b:Int)≤o[k]∧o[k]≤9
theorem Hf{b a:Nat}{o:List Int}{k:Nat}{v:Int}(h:Hd b o)(i:b≤a)(f: -(a:Int)≤v)(h1:v≤9):Hd a (o.set k v):=fun j c=>by
 rw[Lx]at c
 rw[Le];split
 ·exact⟨f,h1⟩
 ·have:=h j c;omega
theorem pH(w0:World){so fo mo:Option Addr}{sc fc mc:Nat}{ns:List cJ}{fl:List cI}{m:List Int}(hs:Sl w0 (c9 w0) so sc ns)(hf:Sl w0 (c9 w0) fo fc fl)(hm:Sl w0 (c9 w0) mo mc m)(hc0:jT (ns,fl)=0)(hml:m.length=fl.length)(hmt:Hd 0 m){s:cN}{n:Nat}(hn:n<ns.length)(W:s∈Gl (ns,fl) n):
  Rt Tryz.prog 176 [Ck so sc fo fc ns.length fl.length,.slice mo m.length mc,FY s].toArray w0 fun v w'=>∃x,v=.tuple ⟨[x,Pj (if(pE (ns,fl) m s).isSome then 0 else 7)]⟩∧Own w' w0.heap.size 3 c7 x ((pE (ns,fl) m s).getD [])∧Ext w0 w':=by
 have hok:=jU hc0;have hf30:=hok.f;dsimp only at hf30
 have q1:=Gg _ W;have q2:=Ge _ W;have q3:=Gh _ W;have X:xR (ns,fl) (n:Int)=0:=xS hc0 hn;have hol:(Bd fl (n:Int)).length≤fl.length:=Bg;have hil:(vP fl (n:Int)).length≤fl.length:=vS;clear W;obtain⟨s1,O,s3⟩:=s;dsimp only at q1 q2 q3
 subst q1;have hp30:=Ce (show(Bd fl (n:Int)).length≤30 by omega);have hp31:(2:Int) ^ 30=1073741824:=by decide
 have hs30:s3<4611686018427387904:=by omega
 unfold FY pE;dsimp only;rw[Kd,xa hn];refine dI Tryz.func176 Tryz.ntmps176 rfl rfl ?_;have E:=Ext.refl w0;refine Pm ?_;refine dZ rfl rfl rfl fun w1 z e1=>?_
 have E:=E.trans e1;skip;refine dZ rfl rfl rfl fun U A e2=>?_
 have z:=z.ext e2;have E:=E.trans e2;refine Qw ?_;have hd3:=z;have hd5:=A;refine WL.call rfl rfl rfl (kA U (hm.up E) OS) ?_;rintro ov w3 ⟨c,e3⟩
 have z:=z.ext e3;have A:=A.ext e3;have z2:=E.size;have E:=E.trans e3;obtain⟨nb,off,rfl,hnb,hnc⟩:=(hs.at E).nodeK hn;refine QE ?_;refine eJ (α:=cJ) rfl rfl rfl rfl OS OS ?_;refine QR ?_;refine WL.load (α:=Int) (F:=c7) (y:=ns[n].2) rfl rfl rfl (by rw[Kd];exact hnc) rfl ?_;rw[show Iu Int [Pj ns[n].2]=Pj ns[n].2 from rfl];refine Pv ?_;apply CW.cond rfl<;>intro h
 ·have h:ns[n].2=3:=by simpa using h
  rw[Ov h];refine PB ?_;refine eg rfl rfl c (fun w4 ho4 hg4=>?_);have T:Ext U w4:=e3.grown hg4 e3.size (fun b hb=>(c.lt b hb).1);refine P7 ?_;exact bf rfl rfl rfl ⟨_,rfl,ho4.low z2,Ext.trans (Ext.trans e1 e2) T⟩
 have h:¬ns[n].2=3:=by simpa using h
 rw[Ou h];have e12:=Ext.trans e1 e2;clear hnc hnb e1;refine QG ?_;have hc3:=z;have hc5:=A;have hgo:∀g,ov.ownBlock=some g→g<w3.heap.size:=fun g hg=>(c.lt g hg).2.1
 refine WL.call rfl rfl rfl (cD w3 (hs.up E) (hf.up E) (n:Int)) ?_;rintro _ w4 ⟨x,rfl,p,T⟩
 rw[X,Ov rfl]at p
 have z:=z.ext T;have A:=A.ext T;have z34:=T.size;have E:=E.trans T;have c:=c.extN T;have T:=e3.trans T;obtain⟨xo,xc,rfl,_⟩:=p.oldN.sl;have hins:=fun x (hx:x∈vP fl (n:Int))=>insP_mem.1 hx
 rw[X];generalize hinsL:vP fl (n:Int)=ins at*
 obtain⟨s,H⟩:∃s:cN,s=((n:Int),O,s3):=⟨_,rfl⟩;have hs21:s.2.1=O:=by rw[H]
 rw[←H];have hTk:GS s m (ins.drop 0)=GS s m ins:=by rw[KC]
 refine Qp ?_;refine CW.loop (S:=Nat×List Int) (fun t=>[(3,Pk w0.heap.size),(5,Pk w1.heap.size),(8,ov),(36,.slice xo ins.length xc),(37,Pj ins.length),(38,Pj t.1)])
  (fun t w=>t.1≤ins.length∧t.2.length=m.length∧Hd t.1 t.2∧GS s t.2 (ins.drop t.1)=GS s m ins∧Own w U.heap.size 3 c7 ov t.2∧Own w w3.heap.size 3 c7 (.slice xo ins.length xc) ins∧Ext U w∧w3.heap.size≤w.heap.size) (fun t=>ins.length -t.1)
  (0,m) OR ⟨Nc _,rfl,hmt,hTk,c,p,T,z34⟩ ?_
 rintro⟨i,o⟩ w5 ⟨hi,r,l,hT,c,p,N,z5⟩
 dsimp only at hi r l hT c N⊢
 have hE5:=Ext.trans e12 N;have z:=hd3.ext N;have A:=hd5.ext N;obtain⟨_,_,exo,hxs⟩:=p.oldN.sl;obtain⟨rfl,_,rfl⟩:=N5 exo;refine Qw ?_;apply CW.cond rfl<;>intro h
 ·have C:i<ins.length:=by simp at h;omega
  obtain⟨f,ef,hlt,_⟩:=hins _ (Lb C);have a:f<o.length:=by omega
  have hbd:=l f a;rw[Ky C,GS,ef,Kd]at hT
  have hno:¬(O=(f:Int)∨O<0∧o[f]>0)→GS s o (ins.drop (i+1))=GS s m ins:=fun h=>by
   rw[←hT,G4 a (by rw[hs21];exact h)]
  have Y:(O=(f:Int)∨O<0∧o[f]>0)→GS s (o.set f (o[f] -1)) (ins.drop (i+1))=GS s m ins:=fun h=>by
   rw[←hT];unfold G1;rw[Kd,rn a,hs21,Ov h]
  have Z:Hd (i+1) o:=fun j hj=>by have:=l j hj;omega
  refine Qo ?_;refine eD rfl rfl rfl rfl rfl hxs C ef O3 (fun q=>?_);refine QE ?_;by_cases h1:O=(f:Int)
  ·rw[show(O==(f:Int))=true by simpa using h1]
   refine Qr ?_;refine eG rfl rfl rfl rfl rfl c a O3 (fun u q V=>?_);obtain rfl:=V.int;refine QZ ?_;refine fu (u:=Pj (o[f] -1)) (yv:=o[f] -1) rfl rfl rfl rfl c a O3 O3 Pe (fun w6 q ho6 D=>?_);have M:Ext U w6:=N.grown D N.size (fun b hb=>(c.lt b hb).1);have I:=p.keptN D (fun g hg e=>by have:=(p.lt g hg).1;have:=hgo g e.symm;omega);refine PI ?_;exact EX.back (i+1,o.set f (o[f] -1)) OR ⟨C,by simpa using r,Hf l OS OS OS,Y (.inl h1),ho6,I,M,MN z5 D.size⟩ OX
  ·rw[show(O==(f:Int))=false by simpa using h1]
   by_cases h2:O<0
   ·refine QV ?_
    rw[Ol h2];refine QO ?_;refine eG rfl rfl rfl rfl rfl c a O3 (fun u q V=>?_);obtain rfl:=V.int;refine Pv ?_;apply CW.cond rfl<;>intro h3
    ·have h3:o[f]>0:=by simpa using h3
     refine PC ?_;refine eG rfl rfl rfl rfl rfl c a O3 (fun u q V=>?_);obtain rfl:=V.int;refine QZ ?_;refine fu (u:=Pj (o[f] -1)) (yv:=o[f] -1) rfl rfl rfl rfl c a O3 O3 Pe (fun w6 q ho6 D=>?_);have M:Ext U w6:=N.grown D N.size (fun b hb=>(c.lt b hb).1);have I:=p.keptN D (fun g hg e=>by have:=(p.lt g hg).1;have:=hgo g e.symm;omega);refine PI ?_;exact EX.back (i+1,o.set f (o[f] -1)) OR ⟨C,by simpa using r,Hf l OS OS OS,Y (.inr ⟨h2,h3⟩),ho6,I,M,MN z5 D.size⟩ OX
    ·have h3:¬o[f]>0:=by simpa using h3
     refine Pq ?_;exact EX.back (i+1,o) OR ⟨C,r,Z,hno (fun h=>h.elim h1 (fun h=>h3 h.2)),c,p,N,z5⟩ OX
   ·refine QV ?_
    rw[Oj h2];refine QF ?_;exact EX.back (i+1,o) OR ⟨C,r,Z,hno (fun h=>h.elim h1 (fun h=>h2 h.1)),c,p,N,z5⟩ OX
 obtain rfl:i=ins.length:=by simp at h;omega
 rw[KA,GS]at hT
 rw[←hT];clear hT exo hxs p;refine QG ?_;refine WL.call rfl rfl rfl (c_ w5 (hs.up hE5) (hf.up hE5) (n:Int)) ?_;rintro _ w6 ⟨x,rfl,B,M⟩
 rw[X,Ov rfl]at B
 rw[X];have c:=c.extN M;have M:=N.trans M;obtain⟨yo,yc,rfl,_⟩:=B.oldN.sl;have houts:=fun x (hx:x∈Bd fl (n:Int))=>outsP_mem.1 hx
 generalize Bd fl (n:Int)=outs at*
 have z:=hd3.ext M;have A:=hd5.ext M;generalize hR:Cv s3 0 o outs=R;have hRk:Cv s3 0 o (outs.drop 0)=R:=by rw[KC];exact hR
 have G:Hd 30 o:=fun j hj=>by have:=l j hj;omega
 refine Qp ?_;refine CW.loop (S:=Nat×List Int) (fun t=>[(5,Pk w1.heap.size),(8,ov),(72,.slice yo outs.length yc),(73,Pj outs.length),(74,Pj t.1)])
  (fun t w=>t.1≤outs.length∧t.2.length=m.length∧Hd 30 t.2∧Cv s3 t.1 t.2 (outs.drop t.1)=R∧Own w U.heap.size 3 c7 ov t.2∧Own w w5.heap.size 3 c7 (.slice yo outs.length yc) outs∧Ext U w) (fun t=>outs.length -t.1)
  (0,o) OR ⟨Nc _,r,G,hRk,c,B,M⟩ ?_
 clear hR hRk G c B M l r A z hE5;rintro⟨k,o2⟩ w7 ⟨hk,J,l,hR,c,B,e7⟩
 dsimp only at hk J l hR c e7⊢
 have hE7:=Ext.trans e12 e7;have A:=hd5.ext e7;obtain⟨_,_,eyo,hys⟩:=B.oldN.sl;obtain⟨rfl,_,rfl⟩:=N5 eyo;refine Qw ?_;apply CW.cond rfl<;>intro h
 ·have K:k<outs.length:=by simp at h;omega
  obtain⟨f,ef,hlt,_⟩:=houts _ (Lb K);have a:f<o2.length:=by omega
  have hbd:=l f a;have hbit:=iz (k:=k) q3.1 hs30;rw[Ky K,Cv,ef,Kd,rn a]at hR
  refine Qv ?_;refine eD rfl rfl rfl rfl rfl hys K ef O3 (fun q=>?_);refine QE ?_;refine fy (s:=k) rfl rfl rfl rfl OS ?_;refine Pv ?_;rw[hbit];apply CW.cond rfl<;>intro h1
  ·have h1:iw s3 k=1:=by simpa using h1
   rw[Ov h1]at hR
   refine PB ?_;refine eG rfl rfl rfl rfl rfl c a O3 (fun u q V=>?_);obtain rfl:=V.int;refine QW ?_;refine fu (u:=Pj (o2[f]+1)) (yv:=o2[f]+1) rfl rfl rfl rfl c a O3 O3 Pe (fun w8 q ho8 hg8=>?_);have e8:Ext U w8:=e7.grown hg8 e7.size (fun b hb=>(c.lt b hb).1);have hoy8:=B.keptN hg8 (fun g hg e=>by have:=(B.lt g hg).1;have:=hgo g e.symm;omega);have hE8:=Ext.trans e12 e8;have hfo8:f<(o2.set f (o2[f]+1)).length:=by simpa using a
   refine Qw ?_;refine eG rfl rfl rfl rfl rfl ho8 hfo8 O3 (fun u q V=>?_);obtain rfl:=V.int;rw[Lf];refine Pv ?_;apply CW.cond rfl<;>intro h2
   ·have h2:o2[f]+1>9:=by simpa using h2
    rw[Ov h2]at hR
    subst hR;refine Pl ?_;exact bf rfl rfl rfl ⟨_,rfl,Own.nil,hE8⟩
   ·have h2:¬o2[f]+1>9:=by simpa using h2
    rw[Ou h2]at hR
    refine Pq ?_;exact EX.back (k+1,o2.set f (o2[f]+1)) OR ⟨K,by simpa using J,Hf l OS OS OS,hR,ho8,hoy8,e8⟩ OX
  ·have h1:¬iw s3 k=1:=by simpa using h1
   rw[Ou h1]at hR
   refine Pq ?_;exact EX.back (k+1,o2) OR ⟨K,J,l,hR,c,B,e7⟩ OX
 ·obtain rfl:k=outs.length:=by simp at h;omega
  rw[KA,Cv]at hR
  subst hR;refine PG ?_;exact bf rfl rfl rfl ⟨_,rfl,c.low z2,hE7⟩
theorem He{m:List Int}(h:m.any Hc=false):Hd 0 m:=fun k a=>by
 have:=Kh.1 h _ (Lb a);unfold Hc at this
 simp at this
 omega
theorem bK(w0:World){so fo mo:Option Addr}{sc fc mc:Nat}{ns:List cJ}{fl:List cI}{m:List Int}(l:Sl w0 (c9 w0) so sc ns)(hf:Sl w0 (c9 w0) fo fc fl)(p:Sl w0 (c9 w0) mo mc m)(k:Int):
  Rt Tryz.prog 121 [Ck so sc fo fc ns.length fl.length,.slice mo m.length mc,Pj k].toArray w0 fun v w'=>∃x,v=.tuple ⟨[x,Pj (pB (ns,fl) m k).2]⟩∧Own w' w0.heap.size 3 c7 x (pB (ns,fl) m k).1∧Ext w0 w':=by
 refine dI Tryz.func121 Tryz.ntmps121 rfl rfl ?_;have a:=Ext.refl w0;refine Pm ?_;refine dZ rfl rfl rfl fun Q f S=>?_
 have a:=a.trans S;refine Pw ?_;refine WL.call rfl rfl rfl (jo Q (l.up a) (hf.up a) (p.up a)) ?_;rintro _ T ⟨x,rfl,c,O⟩
 have f:=f.ext O;have a:=a.trans O;unfold pB;by_cases r:jO (ns,fl) m=0
 case neg=>
  have F:(jO (ns,fl) m != 0)=true:=by simpa using r
  rw[Ov r];refine Qu ?_;rw[F];refine Qa ?_;exact bf rfl rfl rfl ⟨_,rfl,Own.nil,a⟩
 obtain⟨C,o,t,N⟩:=jP r;have H:=He t;rw[Ov r]at c
 rw[Ou (by simp[r]),r];dsimp only at o
 obtain⟨xo,xc,rfl,d⟩:=c.oldN.sl;clear c;refine QA ?_;by_cases z:k<0∨k≥(Gi (ns,fl)).length
 ·rw[Ov z]
  by_cases K:k<0
  ·rw[Ol K]
   refine Pu ?_;exact bf rfl rfl rfl ⟨_,rfl,Own.nil,a⟩
  ·rw[Oj K]
   refine Qk ?_;rw[Ol (show k≥((Gi (ns,fl)).length:Int) from z.resolve_left K)];refine Qa ?_;exact bf rfl rfl rfl ⟨_,rfl,Own.nil,a⟩
 rw[Ou z];have J:¬k<0:=fun h=>z (.inl h)
 have I:¬k≥((Gi (ns,fl)).length:Int):=fun h=>z (.inr h)
 rw[Oj J];refine Qk ?_;rw[Oj I];obtain⟨i,rfl⟩:=J9 (show 0≤k by omega);have e:i<(Gi (ns,fl)).length:=by omega
 obtain⟨n,hn,y⟩:=stepsP_mem.1 (Lb e);rw[Kd,Gj e];have B:=fun w l hf p=>nD w (so:=so) (fo:=fo) (mo:=mo) (sc:=sc) (fc:=fc) (mc:=mc) l hf p C o hn y
 have A:=fun w l hf p=>pH w (so:=so) (fo:=fo) (mo:=mo) (sc:=sc) (fc:=fc) (mc:=mc) l hf p C o H hn y
 obtain⟨s,b⟩:∃s,s=(Gi (ns,fl))[i]:=⟨_,rfl⟩;rw[←b]at B A⊢
 refine QM ?_;refine dn rfl rfl rfl rfl rfl O8 d e O3 (fun u q E=>?_);rw[E.step,←b];refine QL.call rfl rfl rfl (fun w G=>B w (l.up (a.trans G)) (hf.up (a.trans G)) (p.up (a.trans G))) ?_;refine QP ?_;refine QL.nil (fun j M=>?_);have f:=f.ext M;have a:=a.trans M;have d:=d.up M;clear E;refine Pn ?_;apply CW.cond rfl<;>intro h
 ·have h:nB (ns,fl) m s=false:=by simpa using h
  rw[Ov h];refine Pl ?_;exact bf rfl rfl rfl ⟨_,rfl,Own.nil,a⟩
 have h:¬nB (ns,fl) m s=false:=by simpa using h
 rw[Ou h];have hd:=Ext.drew j;have L:∀x,(fun x=>Ext j x) x→Ext j x:=fun _ h=>h
 have g:=a.trans hd;refine Qz ?_;refine aF (fun x=>Ext j x) [(0,true),(1,true),(2,true),(3,true),(4,true),(5,true),(6,false),(7,true),(8,true),(9,true),(10,true)] mixed OT (Ext.drew j) ?_;refine Rb ?_;refine b_ (α:=cN) (k:=i) L rfl rfl rfl rfl rfl rfl rfl O8 d e O3 (fun u q E=>?_);rw[E.step,←b];skip;refine cu rfl (WL.call rfl rfl rfl (A (drew j) (l.up g) (hf.up g) (p.up g)) ?_);rintro _ P ⟨x,rfl,c,R⟩
 have D:Ext j P:=hd.trans R;refine WL.nil (a_ D ?_);refine Rf ?_;refine Pz ?_;exact bf rfl rfl rfl ⟨_,rfl,c.low g.size,a.trans D⟩

def Fx(w:World)(mv lv:Value)(b:Nat):Prop:=b<w.heap.size∧mv.ownBlock≠some b∧lv.ownBlock≠some b
theorem Fx.step1{w w':World}{mv mv' lv:Value}(c:w.grownBy w' mv.ownBlock)(hnb:∀g,mv'.ownBlock=some g→mv.ownBlock=some g∨w.heap.size≤g){ao:Option Addr}{cap:Nat}{m:List Int}(h:Sl w (Fx w mv lv) ao cap m):Sl w' (Fx w' mv' lv) ao cap m:=
 h.mono (fun b a=>c.block b a.1 (fun e=>a.2.1 e.symm)) fun b a=>⟨MQ a.1 c.size,fun e=>(hnb b e).elim (fun e=>a.2.1 e) (fun e=>by have:=a.1;omega),a.2.2⟩
theorem Fx.ext{w w':World}{mv lv:Value}(c:Ext w w'){ao:Option Addr}{cap:Nat}{m:List Int}(h:Sl w (Fx w mv lv) ao cap m):Sl w' (Fx w' mv lv) ao cap m:=
 h.mono (fun b a=>c.block b a.1) fun b a=>⟨MQ a.1 c.size,a.2.1,a.2.2⟩
theorem Fx.old{w:World}{mv lv:Value}{ao:Option Addr}{cap:Nat}{m:List Int}(h:Sl w (Fx w mv lv) ao cap m):Sl w (c9 w) ao cap m:=h.mono Pc fun b a=>a.1
structure Marks(w:World)(B:Nat)(mv lv:Value)(vs:List Raw)(xs:List (List Int))(ks:List Int):Prop where
 own:Own w B 38 c7 mv vs
 kso:Own w B 3 c7 lv ks
 dis:∀g,mv.ownBlock=some g→lv.ownBlock=some g→False
 len:vs.length=xs.length
 el:∀i (h:i<vs.length) (h':i<xs.length),∃ao cap,vs[i].v=.slice ao xs[i].length cap∧Sl w (Fx w mv lv) ao cap xs[i]
section
variable {w w':World}{B:Nat}{mv lv:Value}{vs:List Raw}{xs:List (List Int)}{ks:List Int}
theorem Marks.ext(h:Marks w B mv lv vs xs ks)(a:Ext w w'):Marks w' B mv lv vs xs ks:=
 ⟨h.own.extN a,h.kso.extN a,h.dis,h.len,fun i h1 h2=>by
  obtain⟨ao,cap,e,b⟩:=h.el i h1 h2;exact⟨ao,cap,e,Fx.ext a b⟩⟩
theorem Marks.push(h:Marks w B mv lv vs xs ks){ao:Option Addr}{cap:Nat}{m:List Int}(o:Sl w (Fx w mv lv) ao cap m){mv':Value}(n:Own w' B 38 c7 mv' (vs++[⟨.slice ao m.length cap⟩]))(k:w.grownBy w' mv.ownBlock)
  (hnb:∀g,mv'.ownBlock=some g→mv.ownBlock=some g∨w.heap.size≤g):Marks w' B mv' lv (vs++[⟨.slice ao m.length cap⟩]) (xs++[m]) ks:=by
 refine⟨n,h.kso.keptN k (fun g j e=>h.dis g e.symm j),fun g h1 h2=>?_,by simp[h.len],fun i h1 h2=>?_⟩
 ·rcases hnb g h1 with h3|h3
  ·exact h.dis g h3 h2
  ·have:=(h.kso.lt g h2).2.1;omega
 ·by_cases hi:i<vs.length
  ·have b:i<xs.length:=by rw[←h.len];exact hi
   obtain⟨a,c,e,l⟩:=h.el i hi b;refine⟨a,c,?_,?_⟩
   ·rw[K6 hi,e];simp only[K6 b]
   ·rw[K6 b];exact Fx.step1 k hnb l
  ·have d:i=vs.length:=by simp at h1;omega
   have f:i=xs.length:=by rw[←h.len];exact d
   refine⟨ao,cap,?_,?_⟩
   ·rw[K7 OS,K7 OS]
    simp[d,h.len]
   ·rw[K7 OS]
    simp only[f,M8,K9];exact Fx.step1 k hnb o
theorem Marks.rd(h:Marks w B mv lv vs xs ks):Rd w (c9 w) mv xs:=by
 obtain⟨ao,cap,e,c⟩:=h.own.oldN.sl;have d:Sl w (c9 w) ao cap xs:=by
  refine⟨by rw[←h.len];exact c.le,c.mx,c.nil,fun i hi=>?_⟩;have a:i<vs.length:=by rw[h.len];exact hi
  obtain⟨b,off,l,hF,m,j,g⟩:=c.el i a;obtain⟨rfl,h1⟩:=g;obtain⟨io,ic,k,f⟩:=h.el i a hi;exact⟨b,off,l,hF,[vs[i].v],j,io,ic,by rw[k],Fx.old f⟩
 rw[e,h.len];exact d.rd
end
theorem i7{p:cL}{m:List Int}:(i6 p m).length≤60:=by
 unfold i6;split
 ·rename_i h
  obtain⟨_,_,_,a⟩:=jP h;unfold jc jd;rw[Lq];have:=Lp (fun i=>nB p m ((Gi p).getD i (0,0,0))) (List.range (Gi p).length);rw[Lt]at this
  omega
 ·simp
theorem rp{l:List Int}{i j:Nat}{v:Int}(h:i<l.length):(l.set i v).getD j 0=if i=j then v else l.getD j 0:=by
 simp only[KR,K3];split
 ·subst_vars;simp[h]
 ·rfl
def vB(N:Nat)(l:List Int):Prop:=∀x∈l,0≤x∧x<N
theorem vC{fl:List cI}{n:Int}:vB fl.length (vP fl n):=fun x a=>by
 obtain⟨j,rfl,h,_⟩:=insP_mem.1 a;omega
theorem vD{fl:List cI}{n:Int}:vB fl.length (Bd fl n):=fun x a=>by
 obtain⟨j,rfl,h,_⟩:=outsP_mem.1 a;omega
theorem Be{fl:List cI}{n:Int}:(Bd fl n).Nodup:=by
 unfold Bd Bf;rw[List.Nodup,L_];exact(L5.filter _).imp fun a e=>a OS
section
variable {s:cN}
theorem GU:∀(l:List Int) (m:List Int),(GS s m l).length=m.length
 |[],m=>rfl
 |f::r,m=>by rw[GS,GU r,Lx]
theorem G2{m a:List Int}{f:Int}(h:m.getD f.toNat 0=a.getD f.toNat 0):G1 m s f=G1 a s f:=by unfold G1;rw[h]
theorem GT:∀(l:List Int) (m:List Int),vB m.length l→l.Nodup→∀j:Nat,(GS s m l).getD j 0=if(j:Int)∈l then G1 m s (j:Int)else m.getD j 0
 |[],m,_,_,j=>by simp[GS]
 |f::r,m,b,hd,j=>by
  rw[L4]at hd
  have hf:=b f OW;have c:=GT r (m.set f.toNat (G1 m s f)) (fun x d=>by rw[Lx];exact b x (by simp[d])) hd.2 j;rw[GS,c,rp OS];by_cases e:f.toNat=j
  ·have ej:(j:Int)=f:=by omega
   rw[Ov e,ej,Ou hd.1,Ov OW]
  ·have ej:¬(j:Int)=f:=by omega
   rw[Ou e];by_cases a:(j:Int)∈r
   ·rw[Ov a,Ov (by simp[a])]
    exact G2 (by rw[Kd,rp OS,Ou e])
   ·rw[Ou a,Ou (by simp[a,ej])]
end
theorem Cx{n:Int}:∀(l:List Int) (k:Nat) (m a:List Int),Cv n k m l=some a→a.length=m.length
 |[],k,m,a,h=>by rw[Cv]at h;injection h with h;rw[h]
 |f::r,k,m,a,h=>by
  rw[Cv]at h
  split at h
  ·split at h
   ·cases h
   ·rw[Cx r _ _ _ h,Lx]
  ·exact Cx r _ _ _ h
def ir(n:Int):Nat→List Int→Int→Int
 |_,[],_=>0
 |k,f::r,j=>if f=j then iw n k else ir n (k+1) r j
theorem iu{n:Int}:∀(l:List Int) (k:Nat) (j:Int),j∉l→ir n k l j=0
 |[],k,j,_=>rfl
 |f::r,k,j,h=>by
  rw[ir,Ou (fun e=>h (by simp[e])),iu r _ j (fun a=>h (by simp[a]))]
theorem iy(n:Int)(k:Nat):iw n k=0∨iw n k=1:=by unfold iw;omega
theorem Cw{n:Int}:∀(l:List Int) (k:Nat) (m:List Int),vB m.length l→l.Nodup→
  ((∀x∈l,m.getD x.toNat 0+ir n k l x≤9∨ir n k l x=0)→∃d,Cv n k m l=some d∧∀j:Nat,d.getD j 0=m.getD j 0+ir n k l (j:Int))∧
  (∀d,Cv n k m l=some d→∀x∈l,m.getD x.toNat 0+ir n k l x≤9∨ir n k l x=0)
 |[],k,m,_,_=>⟨fun _=>⟨m,rfl,fun j=>by simp[ir]⟩,fun _ _ x a=>by cases a⟩
 |f::r,k,m,u,hd=>by
  rw[L4]at hd
  have hf:=u f OW;have o:vB m.length r:=fun x a=>u x (by simp[a])
  have i:ir n k (f::r) f=iw n k:=by rw[ir,Ov rfl]
  have c:∀x,x≠f→ir n k (f::r) x=ir n (k+1) r x:=fun x h=>by rw[ir,Ou (fun e=>h e.symm)]
  have b:∀x∈r,x≠f:=fun x a e=>hd.1 (e▸a)
  rcases iy n k with p|p
  ·have q:=Cw (n:=n) r (k+1) m o hd.2
   have t:Cv n k m (f::r)=Cv n (k+1) m r:=by rw[Cv,Ou OS]
   rw[t];refine⟨fun h=>?_,fun d h x a=>?_⟩
   ·obtain⟨d,h1,h2⟩:=q.1 (fun x a=>by have:=h x (by simp[a]);rwa[c x (b x a)]at this)
    refine⟨d,h1,fun j=>?_⟩;rw[h2 j];by_cases e:(j:Int)=f
    ·rw[e,i,p,iu r _ f hd.1]
    ·rw[c _ e]
   ·rcases LN.1 a with rfl|a
    ·right;rw[i,p]
    ·rw[c x (b x a)];exact q.2 d h x a
  ·have g:∀x:Int,0≤x→x≠f→(m.set f.toNat (m.getD f.toNat 0+1)).getD x.toNat 0=m.getD x.toNat 0:=fun x w h=>by
    rw[rp OS,Ou OS]
   have q:=Cw (n:=n) r (k+1) (m.set f.toNat (m.getD f.toNat 0+1)) (fun x a=>by rw[Lx];exact o x a) hd.2;have t:Cv n k m (f::r)=if m.getD f.toNat 0+1>9 then none else Cv n (k+1) (m.set f.toNat (m.getD f.toNat 0+1)) r:=by rw[Cv,Ov p]
   rw[t];refine⟨fun h=>?_,fun d h x a=>?_⟩
   ·have v:¬m.getD f.toNat 0+1>9:=by
     have:=h f OW;rw[i,p]at this
     omega
    rw[Ou v];obtain⟨d,h1,h2⟩:=q.1 (fun x a=>by
     have:=h x (by simp[a]);rw[c x (b x a)]at this
     rwa[g x (o x a).1 (b x a)])
    refine⟨d,h1,fun j=>?_⟩;rw[h2 j];by_cases e:(j:Int)=f
    ·rw[rp OS,Ov OS,e,i,p,iu r _ f hd.1]
     have:f.toNat=j:=by omega
     rw[this];omega
    ·have:=g (j:Int) OS e
     rw[Kd]at this
     rw[c _ e,this]
   ·split at h
    ·cases h
    ·rename_i v
     rcases LN.1 a with rfl|a
     ·left;rw[i,p];omega
     ·rw[c x (b x a)]
      have:=q.2 d h x a;rwa[g x (o x a).1 (b x a)]at this
def cX(p:cL)(m:List Int):Prop:=m.length=p.2.length∧∀j:Nat,0≤m.getD j 0∧m.getD j 0≤9
theorem yL{p:cL}{m:List Int}(b:(F_ p).2=0)(h:cX p m):jO p m=0:=by
 unfold jO;rw[Ou (by simp[b]),Ou];rintro(e|e)
 ·exact e h.1
 ·obtain⟨x,c,a⟩:=Ki.1 e
  obtain⟨j,d,rfl⟩:=LT.1 c;have:=h.2 j;rw[rn d]at this
  unfold Hc at a
  simp at a
  omega
theorem j_{p:cL}{m:List Int}(h:jO p m=0):cX p m:=by
 obtain⟨_,h1,h2,_⟩:=jP h;have h3:=He h2;refine⟨h1,fun j=>?_⟩;by_cases a:j<m.length
 ·rw[rn a];have:=h3 j a;omega
 ·rw[KR,KY OS]
  exact⟨J_ _,by decide⟩
theorem ig{p:cL}:cX p (ie p):=by
 refine⟨by simp[ie],fun j=>?_⟩;by_cases a:j<(ie p).length
 ·rw[rn a]
  have e:(ie p)[j]=if w_ p (p.2[j]'(by simpa[ie]using a)).1.toNat=1 then 1 else 0:=by simp[ie]
  rw[e];split<;>omega
 ·rw[KR,KY OS]
  exact⟨J_ _,by decide⟩
def dS(p:cL)(m:List Int)(k:Int)(a:List Int):Prop:=
 0≤k∧k<(Gi p).length∧nB p m ((Gi p).getD k.toNat (0,0,0))=true∧pE p m ((Gi p).getD k.toNat (0,0,0))=some a
theorem pD{p:cL}{m:List Int}{k:Int}(h:(pB p m k).2=0):jO p m=0∧dS p m k (pB p m k).1:=by
 unfold pB at h⊢
 split at h
 ·rename_i h1;exact absurd h h1
 ·rename_i h1
  split at h
  ·cases h
  ·rename_i h2
   split at h
   ·cases h
   ·rename_i h3
    rw[Ou h1,Ou h2,Ou h3];refine⟨by simpa using h1,by omega,by omega,by simpa using h3,?_⟩;dsimp only at h⊢
    cases e:pE p m ((Gi p).getD k.toNat (0,0,0))with
    |none=>rw[e]at h;cases h
    |some r=>rfl
theorem G3{m:List Int}{s:cN}{f:Int}(c:0≤m.getD f.toNat 0)(b:m.getD f.toNat 0≤9)(a:s.2.1=f→m.getD f.toNat 0>0):0≤G1 m s f∧G1 m s f≤9:=by
 unfold G1;split
 ·rename_i h
  rcases h with h|h
  ·have:=a h;omega
  ·omega
 ·exact⟨c,b⟩
theorem it{n:Int}:∀(l:List Int) (k:Nat) (j:Int),0≤ir n k l j∧ir n k l j≤1
 |[],k,j=>⟨J_ _,(by decide:(0:Int)≤1)⟩
 |f::r,k,j=>by
  rw[ir];split
  ·have:=iy n k;omega
  ·exact it r _ j
theorem pG{p:cL}{m g:List Int}{s:cN}(c:cX p m)(b:nB p m s=true)(h:pE p m s=some g):cX p g:=by
 unfold pE at h
 split at h
 ·injection h with h
  subst h;refine⟨by simpa using c.1,fun j=>?_⟩;by_cases d:j<m.length
  ·rw[rn (by simpa using d),La];omega
  ·rw[KR,KY (by simpa using d)]
   exact⟨J_ _,by decide⟩
 ·have k:vB m.length (vP p.2 s.1):=by rw[c.1];exact vC
  have q:=GT (s:=s) (vP p.2 s.1) m k vQ;have f:(GS s m (vP p.2 s.1)).length=m.length:=GU _ _;have i:vB (GS s m (vP p.2 s.1)).length (Bd p.2 s.1):=by rw[f,c.1];exact vD
  have hP:=Cw (n:=s.2.2) (Bd p.2 s.1) 0 _ i Be;have l:=hP.2 g h;obtain⟨t,h1,h2⟩:=hP.1 l;rw[h]at h1
  injection h1 with h1
  subst h1;have r:∀j:Nat,0≤(GS s m (vP p.2 s.1)).getD j 0∧(GS s m (vP p.2 s.1)).getD j 0≤9:=fun j=>by
   rw[q j];have a:=c.2 j;split
   ·refine G3 (by rw[Kd];exact a.1) (by rw[Kd];exact a.2) (fun e=>?_)
    unfold nB at b
    rw[Ov OS,e]at b
    simpa using b
   ·exact a
  refine⟨by rw[Cx _ _ _ _ h,f];exact c.1,fun j=>?_⟩;rw[h2 j];have h3:=r j;have h4:=it (n:=s.2.2) (Bd p.2 s.1) 0 (j:Int);by_cases d:(j:Int)∈Bd p.2 s.1
  ·have o:=l _ d
   rw[Kd]at o
   omega
  ·have o:=iu (n:=s.2.2) (Bd p.2 s.1) 0 (j:Int) d
   omega
theorem Gt:pB straightP [1,0] 0=([0,1],0):=by
 have a:(F_ straightP).2=0:=by rw[Gv]
 have c:Gi straightP=[(1,0,1),(2,1,0)]:=by decide
 have b:jO straightP [1,0]=0:=yL a ⟨rfl,fun j=>by
  rcases j with _|_|j
  ·decide
  ·decide
  ·exact⟨J_ _,(by decide:(0:Int)≤9)⟩⟩
 unfold pB;rw[Ou (by simp[b]),c,Ou OU,Ou OU];decide

abbrev cH:=Int×Int
abbrev Sr:=List (List Int)×List (Int×Int)×(Int×Int)
def Hl(tok:Int)(m:List Int):Bool:=m.any fun n=>decide (n>tok)
def B8(m:List Int):List (List Int)→Nat
 |[]=>0
 |x::r=>if x=m then 0 else B8 m r+1
def Cy(tok st:Int)(s:Sr)(m:List Int)(fr:Int×Int):Sr×Int×Int:=
 if Hl tok m=true then((s.1,s.2.1,fr),0,7)
 else if m∈s.1 then((s.1,s.2.1,fr),(B8 m s.1:Int),0)
 else if(s.1.length:Int)=st then((s.1,s.2.1,fr),0,8)
 else((s.1++[m],s.2.1++[fr],fr),(s.1.length:Int),0)
noncomputable def m5(p:cL)(tok st n:Int)(m:List Int):List Int→Sr→List cH→Sr×List cH×Int
 |[],s,out=>(s,out,0)
 |k::r,s,out=>
  if(pB p m k).2≠0 then((s.1,s.2.1,(n,k)),[],(pB p m k).2)
  else if(Cy tok st s (pB p m k).1 (n,k)).2.2≠0 then((Cy tok st s (pB p m k).1 (n,k)).1,[],(Cy tok st s (pB p m k).1 (n,k)).2.2)
  else m5 p tok st n m r (Cy tok st s (pB p m k).1 (n,k)).1 (out++[(k,(Cy tok st s (pB p m k).1 (n,k)).2.1)])
noncomputable def mY(p:cL)(tok st:Int)(n:Nat)(s:Sr):Sr×List cH×Int:=m5 p tok st (n:Int) (s.1.getD n []) (i6 p (s.1.getD n [])) s []
noncomputable def DU(p:cL)(tok st:Int):Nat→Nat→Sr→List (List cH)→Sr×List (List cH)×Int
 |0,n,s,nx=>(s,nx,0)
 |f+1,n,s,nx=>
  if n<s.1.length then
   (if(mY p tok st n s).2.2≠0 then((mY p tok st n s).1,nx,(mY p tok st n s).2.2)else DU p tok st f (n+1) (mY p tok st n s).1 (nx++[(mY p tok st n s).2.1]))
  else(s,nx,0)
def DN(tok st:Int):Int:=if tok<1∨tok>9∨st<1∨st>200 then 1 else 0
noncomputable def runB(p:cL)(tok st:Int):Sr×List (List cH)×Int:=
 if(Cy tok st ([],[],(0,0)) (ie p) (-1,-1)).2.2≠0 then((Cy tok st ([],[],(0,0)) (ie p) (-1,-1)).1,[],(Cy tok st ([],[],(0,0)) (ie p) (-1,-1)).2.2)
 else DU p tok st 201 0 (Cy tok st ([],[],(0,0)) (ie p) (-1,-1)).1 []
noncomputable def DX(p:cL)(tok st:Int):Int:=if(F_ p).2≠0 then(F_ p).2 else DN tok st
noncomputable def ow(p:cL)(tok st:Int):(List (List Int)×List (List cH))×Int:=
 if DX p tok st≠0 then(([],[]),DX p tok st)
 else if(runB p tok st).2.2≠0 then(([],[]),(runB p tok st).2.2)else(((runB p tok st).1.1,(runB p tok st).2.1),0)
def wK(m:List Int):List Int:=(List.range 30).map fun i=>m.getD i 0
theorem wM(m:List Int):(wK m).length=30:=by simp[wK]
theorem wL{a b:List Int}(d:a.length≤30)(h:a.length=b.length)(c:wK a=wK b):a=b:=by
 refine KE h fun i h1 h2=>?_
 have hi:i<30:=by omega
 have h3:(wK a)[i]'(by rw[wM];exact hi)=(wK b)[i]'(by rw[wM];exact hi):=by simp only[c]
 simp only[wK,La,Lc,KR,KX h1,KX h2,Nk]at h3
 exact h3
theorem B9{m:List Int}:∀{l:List (List Int)} {j:Nat} (b:j<l.length),l.Nodup→l[j]=m→B8 m l=j
 |x::r,0,_,_,h=>by
  unfold B8;rw[Ov (by simpa using h)]
 |x::r,j+1,b,hd,h=>by
  rw[L4]at hd
  unfold B8;have a:m∈r:=by
   rw[←h,K8];exact Lb _
  rw[Ou (fun e=>hd.1 (by rw[e];exact a)),B9 (j:=j) (by simpa using b) hd.2 (by simpa using h)]
theorem ox{p:cL}{a b:Int}(h:(ow p a b).2=0):(F_ p).2=0∧1≤a∧1≤b∧b≤200∧(runB p a b).2.2=0∧ow p a b=(((runB p a b).1.1,(runB p a b).2.1),0):=by
 unfold ow at h⊢
 by_cases g1:DX p a b=0
 case neg=>rw[Ov g1]at h;exact absurd h g1
 rw[Ou (by simp[g1])]at h⊢
 by_cases g2:(runB p a b).2.2=0
 case neg=>rw[Ov g2]at h;exact absurd h g2
 rw[Ou (by simp[g2])];unfold DX at g1
 by_cases g3:(F_ p).2=0
 case neg=>rw[Ov g3]at g1;exact absurd g1 g3
 rw[Ou (by simp[g3])]at g1
 unfold DN at g1
 split at g1
 ·cases g1
 ·rename_i g4
  exact⟨g3,by omega,by omega,by omega,g2,rfl⟩
theorem straight_sp:(ow straightP 1 2).2=8∧ow straightP 9 200=(([[1,0],[0,1],[0,0]],[[(0,1)],[(1,2)],[]]),0)∧ow straightP 1 9=(([[1,0],[0,1],[0,0]],[[(0,1)],[(1,2)],[]]),0):=by
 have d:(F_ straightP).2=0:=by rw[Gv]
 have k:Gi straightP=[(1,0,1),(2,1,0)]:=by decide
 have ok:∀a b:Int,0≤a→a≤9→0≤b→b≤9→jO straightP [a,b]=0:=fun a b o n m l=>yL d ⟨rfl,fun j=>by
  rcases j with _|_|j
  ·exact⟨o,n⟩
  ·exact⟨m,l⟩
  ·exact⟨J_ _,(by decide:(0:Int)≤9)⟩⟩
 have f:=ok 1 0 OU OU OU OU;have c:=ok 0 1 OU OU OU OU;have e:=ok 0 0 OU OU OU OU;have i:pB straightP [1,0] 0=([0,1],0):=Gt;have h:pB straightP [0,1] 1=([0,0],0):=by
  unfold pB;rw[Ou (by simp[c]),k,Ou OU,Ou OU];decide
 have c0:i6 straightP [1,0]=[0]:=by unfold i6;rw[Ov f];decide
 have c1:i6 straightP [0,1]=[1]:=by unfold i6;rw[Ov c];decide
 have c2:i6 straightP [0,0]=[]:=by unfold i6;rw[Ov e];decide
 have g:ie straightP=[1,0]:=by decide
 refine⟨?_,?_,?_⟩
 ·simp[ow,DX,d,DN,runB,g,Cy,Hl,DU,mY,m5,c0,c1,c2,i,h,B8]
 ·simp[ow,DX,d,DN,runB,g,Cy,Hl,DU,mY,m5,c0,c1,c2,i,h,B8]
 ·simp[ow,DX,d,DN,runB,g,Cy,Hl,DU,mY,m5,c0,c1,c2,i,h,B8]
theorem B_{m:List Int}:∀{l:List (List Int)},m∈l→B8 m l<l.length∧l.getD (B8 m l) []=m
 |x::r,h=>by
  unfold B8;by_cases e:x=m
  ·rw[Ov e];exact⟨by simp,by simpa using e⟩
  ·rw[Ou e]
   rcases LN.1 h with h|h
   ·exact absurd h.symm e
   ·obtain⟨h1,h2⟩:=B_ h
    exact⟨by simp;omega,by simpa using h2⟩
def EdgeOk(p:cL)(m:List Int)(l:List (List Int))(e:cH):Prop:=(pB p m e.1).2=0∧0≤e.2∧e.2<l.length∧l.getD e.2.toNat []=(pB p m e.1).1
theorem EdgeOk.more{p:cL}{m:List Int}{l t:List (List Int)}{e:cH}(h:EdgeOk p m l e):EdgeOk p m (l++t) e:=by
 obtain⟨h1,h2,h3,h4⟩:=h;refine⟨h1,h2,by rw[Lk];omega,?_⟩;rw[←h4,KR,KR,KT OS]
structure SrOk(p:cL)(tok st:Int)(l:List (List Int)):Prop where
 nd:l.Nodup
 ok:∀m∈l,cX p m
 le:∀m∈l,∀x∈m,x≤tok
 st:(l.length:Int)≤st
theorem CA{p:cL}{tok st:Int}{s:Sr}{m:List Int}{fr:Int×Int}(h:SrOk p tok st s.1)(k:cX p m)(d:(Cy tok st s m fr).2.2=0):
  SrOk p tok st (Cy tok st s m fr).1.1∧(∃t,(Cy tok st s m fr).1.1=s.1++t∧∀i:Nat,s.1.length≤i→i<(s.1++t).length→(Cy tok st s m fr).2.1=(i:Int))∧
   0≤(Cy tok st s m fr).2.1∧(Cy tok st s m fr).2.1<(Cy tok st s m fr).1.1.length∧(Cy tok st s m fr).1.1.getD (Cy tok st s m fr).2.1.toNat []=m:=by
 unfold Cy at d⊢
 by_cases g1:Hl tok m=true
 ·rw[Ov g1]at d;cases d
 rw[Ou g1]at d⊢
 by_cases g3:m∈s.1
 ·rw[Ov g3]
  obtain⟨h1,h2⟩:=B_ g3;exact⟨h,⟨[],by simp,fun i h1 h2=>by simp at h2;omega⟩,by dsimp only;omega,by dsimp only;omega,by simpa using h2⟩
 rw[Ou g3]at d⊢
 by_cases g4:(s.1.length:Int)=st
 ·rw[Ov g4]at d;cases d
 rw[Ou g4];have j:=h.st;refine⟨⟨?_,?_,?_,?_⟩,⟨[m],rfl,fun i h1 h2=>by simp at h2;dsimp only;omega⟩,by dsimp only;omega,by simp;omega,by simp⟩
 ·rw[L3]
  refine⟨h.nd,Ma _ _,?_⟩;intro a l b g e
  rw[L0]at g
  subst g;subst e;exact g3 l
 ·intro x c
  rcases LK.1 c with c|c
  ·exact h.ok x c
  ·rw[L0]at c;subst c;exact k
 ·intro x c
  rcases LK.1 c with c|c
  ·exact h.le x c
  ·rw[L0]at c;subst c
   intro n hn
   unfold Hl at g1
   rw[Ki]at g1
   have:¬n>tok:=fun f=>g1 ⟨n,hn,by simpa using f⟩
   omega
 ·simp;omega
theorem pC{p:cL}{m:List Int}{k:Int}(h:(pB p m k).2=0):cX p (pB p m k).1:=by
 obtain⟨h1,_,_,h3,h4⟩:=pD h;exact pG (j_ h1) h3 h4
theorem m7{p:cL}{tok st n:Int}{m:List Int}:∀(l:List Int) (s:Sr) (out:List cH),SrOk p tok st s.1→(∀e∈out,EdgeOk p m s.1 e)→(m5 p tok st n m l s out).2.2=0→
  SrOk p tok st (m5 p tok st n m l s out).1.1∧(m5 p tok st n m l s out).2.1.map Prod.fst=out.map Prod.fst++l∧(∀e∈(m5 p tok st n m l s out).2.1,EdgeOk p m (m5 p tok st n m l s out).1.1 e)∧
   (∃u,(m5 p tok st n m l s out).2.1=out++u)∧∃t,(m5 p tok st n m l s out).1.1=s.1++t∧∀i:Nat,s.1.length≤i→i<(s.1++t).length→∃e∈(m5 p tok st n m l s out).2.1,e.2=(i:Int)
 |[],s,out,o,z,a=>⟨o,by simp[m5],z,⟨[],by simp[m5]⟩,[],by simp[m5],fun i h1 h2=>by simp at h2;omega⟩
 |k::r,s,out,o,z,a=>by
  rw[m5]at a⊢
  by_cases g:(pB p m k).2=0
  case neg=>rw[Ov g]at a;exact absurd a g
  rw[Ou (by simp[g])]at a⊢
  by_cases g1:(Cy tok st s (pB p m k).1 (n,k)).2.2=0
  case neg=>rw[Ov g1]at a;exact absurd a g1
  rw[Ou (by simp[g1])]at a⊢
  obtain⟨j,⟨t,c,f⟩,x,w,v⟩:=CA o (pC g) g1;generalize Cy tok st s (pB p m k).1 (n,k)=q at*
  obtain⟨d,b,D⟩:=q;dsimp only at*
  have y:∀e∈out++[(k,b)],EdgeOk p m d.1 e:=by
   intro e h
   rcases LK.1 h with h|h
   ·rw[c];exact(z e h).more
   ·rw[L0]at h;subst h
    exact⟨g,x,w,v⟩
  obtain⟨a1,a2,a3,⟨u,a4⟩,A,C,B⟩:=m7 r d (out++[(k,b)]) j y a;refine⟨a1,by rw[a2];simp,a3,⟨(k,b)::u,by rw[a4];simp⟩,t++A,by rw[C,c];simp,fun i h1 h2=>?_⟩;by_cases hi:i<d.1.length
  ·refine⟨(k,b),by rw[a4];simp,?_⟩
   exact f i h1 (by rw[←c];exact hi)
  ·exact B i OS (by rw[c];simpa using h2)
structure SpOk(p:cL)(l:List (List Int))(nx:List (List cH)):Prop where
 le:nx.length≤l.length
 can:∀j,j<nx.length→(nx.getD j []).map Prod.fst=i6 p (l.getD j [])
 ed:∀j,j<nx.length→∀e∈nx.getD j [],EdgeOk p (l.getD j []) l e
 fr:∀i:Nat,1≤i→i<l.length→∃j,j<i∧j<nx.length∧∃e∈nx.getD j [],e.2=(i:Int)
theorem qS{α:Type}{l t:List α}{j:Nat}{d:α}(h:j<l.length):(l++t).getD j d=l.getD j d:=by rw[KR,KR,KT h]
theorem qR{α:Type}{l:List α}{x d:α}:(l++[x]).getD l.length d=x:=by rw[KR,KU Pf];simp
theorem DV{p:cL}{tok st:Int}:∀(f n:Nat) (s:Sr) (nx:List (List cH)),f+n=201→st≤200→nx.length=n→SrOk p tok st s.1→SpOk p s.1 nx→(DU p tok st f n s nx).2.2=0→
  SrOk p tok st (DU p tok st f n s nx).1.1∧SpOk p (DU p tok st f n s nx).1.1 (DU p tok st f n s nx).2.1∧(DU p tok st f n s nx).2.1.length=(DU p tok st f n s nx).1.1.length∧∃t,(DU p tok st f n s nx).1.1=s.1++t
 |0,n,s,nx,hf,d,hn,k,b,c=>by have:=b.le;have:=k.st;omega
 |f+1,n,s,nx,hf,d,hn,k,b,c=>by
  rw[DU]at c⊢
  by_cases g:n<s.1.length
  case neg=>
   rw[Ou g]at c⊢
   exact⟨k,b,by have:=b.le;dsimp only;omega,[],by simp⟩
  rw[Ov g]at c⊢
  by_cases g1:(mY p tok st n s).2.2=0
  case neg=>rw[Ov g1]at c;exact absurd c g1
  rw[Ou (by simp[g1])]at c⊢
  obtain⟨a1,a2,a3,_,t,a,y⟩:=m7 (p:=p) (tok:=tok) (st:=st) (n:=(n:Int)) (m:=s.1.getD n []) (i6 p (s.1.getD n [])) s [] k (fun e h=>by cases h) g1
  change SrOk p tok st (mY p tok st n s).1.1 at a1
  change (mY p tok st n s).2.1.map Prod.fst=_ at a2
  change∀e∈(mY p tok st n s).2.1,EdgeOk p _ (mY p tok st n s).1.1 e at a3
  change (mY p tok st n s).1.1=_ at a
  change∀i:Nat,_→_→∃e∈(mY p tok st n s).2.1,_ at y
  generalize mY p tok st n s=q at*
  obtain⟨v,w,er⟩:=q;dsimp only at*
  have r:SpOk p v.1 (nx++[w]):=by
   have C:=b.le;refine⟨by rw[a];simp;omega,fun j u=>?_,fun j u=>?_,fun i h1 h2=>?_⟩
   ·simp at u
    by_cases e:j<nx.length
    ·rw[qS e,a,qS OS];exact b.can j e
    ·obtain rfl:j=nx.length:=by omega
     rw[qR,a2,a,qS OS,hn];simp
   ·simp at u
    by_cases e:j<nx.length
    ·rw[qS e,a,qS OS];exact fun x h=>(b.ed j e x h).more
    ·obtain rfl:j=nx.length:=by omega
     rw[qR,a,qS OS,hn,←a];exact a3
   ·by_cases e:i<s.1.length
    ·obtain⟨j,B,A,x,o,l⟩:=b.fr i h1 e
     exact⟨j,B,by simp;omega,x,by rw[qS A];exact o,l⟩
    ·obtain⟨x,o,l⟩:=y i OS (by rw[←a];exact h2)
     exact⟨nx.length,by omega,by simp,x,by rw[qR];exact o,l⟩
  obtain⟨b1,b2,E,z,D⟩:=DV f (n+1) v (nx++[w]) OS d (by simp[hn]) a1 r c;exact⟨b1,b2,E,t++z,by rw[D,a];simp⟩
theorem oz{p:cL}{tok st:Int}(h:(ow p tok st).2=0):
  (F_ p).2=0∧SrOk p tok st (ow p tok st).1.1∧SpOk p (ow p tok st).1.1 (ow p tok st).1.2∧(ow p tok st).1.2.length=(ow p tok st).1.1.length∧0<(ow p tok st).1.1.length∧(ow p tok st).1.1.getD 0 []=ie p∧st≤200:=by
 obtain⟨f,h1,h2,h3,a,g⟩:=ox h;rw[g];dsimp only;unfold runB at a⊢
 by_cases g1:(Cy tok st ([],[],(0,0)) (ie p) (-1,-1)).2.2=0
 case neg=>rw[Ov g1]at a;exact absurd a g1
 rw[Ou (by simp[g1])]at a⊢
 have b:SrOk p tok st ([]:List (List Int)):=⟨List.Pairwise.nil,fun m h=>(by cases h),fun m h=>(by cases h),by simp;omega⟩;obtain⟨a1,⟨t,a2,a2i⟩,a3,a4,n⟩:=CA (s:=([],[],(0,0))) b (ig (p:=p)) g1;have hd:(Cy tok st ([],[],(0,0)) (ie p) (-1,-1)).1.1=[ie p]:=by
  unfold Cy at g1⊢
  by_cases d:Hl tok (ie p)=true
  ·rw[Ov d]at g1;cases g1
  rw[Ou d,Ou OW]at g1⊢
  by_cases c:(([]:List (List Int)).length:Int)=st
  ·rw[Ov c]at g1;cases g1
  rw[Ou c];rfl
 generalize Cy tok st ([],[],(0,0)) (ie p) (-1,-1)=q at*
 obtain⟨b1,b2,k,l,e⟩:=DV 201 0 q.1 [] rfl h3 rfl a1 ⟨by simp,fun j h=>absurd h OW,fun j h=>absurd h OW,fun i h1 h2=>by rw[hd]at h2;simp at h2;omega⟩ a;refine⟨f,b1,b2,k,by rw[e,hd];simp,by rw[e,hd];simp,h3⟩
abbrev cR:=List Int×List (List Int)×List Nat×List (List Int)
def Ar(l:List cH)(n:Nat):List cH:=if l=[]then [(-1,(n:Int))]else l.map fun x=>(x.1,(n:Int))
def Ap(nx:List (List cH))(k:Nat):List cH:=(List.range k).flatMap fun n=>Ar (nx.getD n []) n
def yV(nx:List (List cH))(n:Nat):Nat:=max 1 (nx.getD n []).length
def gD(nx:List (List cH))(n:Nat):Nat:=(Ap nx n).length
theorem qm{α:Type}{l t:List α}{j:Nat}{d:α}(h:j<l.length):(l++t).getD j d=l.getD j d:=by simp[KR,KT h]
theorem qr{α:Type}{l t:List α}{i:Nat}{d:α}:(l++t).getD (l.length+i) d=t.getD i d:=by simp[KR,KU]
theorem qn{α β:Type}{f:α→β}{l:List α}{i:Nat}{d:α}{e:β}(h:i<l.length):(l.map f).getD i e=f (l.getD i d):=by simp[KR,KX h]
section
variable {nx:List (List cH)}
theorem As{l:List cH}{n:Nat}:(Ar l n).length=max 1 l.length:=by
 unfold Ar;split
 ·rename_i h;subst h;rfl
 ·rename_i h
  have:0<l.length:=Ls.2 h;rw[Lq];omega
theorem Aq{k:Nat}:Ap nx (k+1)=Ap nx k++Ar (nx.getD k []) k:=by
 unfold Ap;rw[Mb,KN];simp
theorem gI:gD nx 0=0:=rfl
theorem gH{n:Nat}:gD nx (n+1)=gD nx n+yV nx n:=by unfold gD yV;rw[Aq,Lk,As]
theorem gG{a b:Nat}(h:a≤b):gD nx a≤gD nx b:=by
 induction b with
 |zero=>rw[show a=0 by omega];exact MM _
 |succ b c=>
  by_cases e:a=b+1
  ·rw[e];exact MM _
  ·rw[gH];exact MN (c OS) (Nat.le_add_right _ _)
theorem yW{n:Nat}:1≤yV nx n:=Nat.le_max_left _ _
theorem gF{n K i:Nat}(hn:n<K)(hi:i<yV nx n):gD nx n+i<gD nx K:=by
 have h1:=gG (nx:=nx) (show n+1≤K by omega);rw[gH]at h1
 omega
theorem Aw{n i:Nat}:∀{K:Nat},n<K→i<yV nx n→(Ap nx K).getD (gD nx n+i) (0,0)=(Ar (nx.getD n []) n).getD i (0,0)
 |0,h,_=>absurd h OS
 |K+1,hn,hi=>by
  by_cases e:n=K
  ·subst e
   rw[Aq];exact qr
  ·have a:=gF (nx:=nx) (show n<K by omega) hi
   have b:=Aw (K:=K) (show n<K by omega) hi;rw[←b,Aq];exact qm a
theorem Ax{j:Nat}:∀{K:Nat},j<gD nx K→∃n i,n<K∧i<yV nx n∧j=gD nx n+i
 |0,h=>absurd h (by rw[gI];omega)
 |K+1,h=>by
  rw[gH]at h
  by_cases e:j<gD nx K
  ·obtain⟨n,i,h1,h2,h3⟩:=Ax e
   exact⟨n,i,by omega,h2,h3⟩
  ·exact⟨K,j -gD nx K,by omega,by omega,by omega⟩
def At(nx:List (List cH))(j:Nat):cH:=(Ap nx nx.length).getD j (0,0)
theorem Au{n i:Nat}(hn:n<nx.length)(hi:i<yV nx n):At nx (gD nx n+i)=(if nx.getD n []=[]then(-1,(n:Int))else(((nx.getD n []).getD i (0,0)).1,(n:Int))):=by
 unfold At;rw[Aw hn hi];unfold Ar;by_cases h:nx.getD n []=[]
 ·rw[Ov h,Ov h]
  unfold yV at hi
  rw[h]at hi
  have:i=0:=by simp at hi;omega
  subst this;rfl
 ·rw[Ou h,Ou h]
  unfold yV at hi
  have:0<(nx.getD n []).length:=Ls.2 h;have a:i<(nx.getD n []).length:=by omega
  exact qn (d:=(0,0)) a
end
def gz(nx:List (List cH))(k:Nat):List Int:=(List.range k).map fun n=>((gD nx n:Nat):Int)
def yx(nx:List (List cH))(k:Nat):List Int:=(List.range k).map fun n=>((yV nx n:Nat):Int)
def fY(nx:List (List cH))(m:Nat):List Int:=(List.range (yV nx m)).map fun i:Nat=>((gD nx m+i:Nat):Int)
def G9(nx:List (List cH))(j:Nat):cH:=(nx.getD (At nx j).2.toNat []).getD (j -gD nx (At nx j).2.toNat) (0,0)
def zt(nx:List (List cH))(j:Nat):List Int:=if(At nx j).1<0 then [(j:Int)]else fY nx (G9 nx j).2.toNat
def xl(sl:List cN)(nx:List (List cH))(j:Nat):Nat:=if(At nx j).1<0 then 9223372036854775808 else 2 ^ (sl.getD (At nx j).1.toNat (0,0,0)).1.toNat
def ja(nx:List (List cH))(j:Nat)(k:Int):Bool:=(nx.getD (At nx j).2.toNat []).any fun y=>y.1==k
def vv(nx:List (List cH))(k:Int)(j:Nat):Bool:=!ja nx j k||(At nx j).1==k
def oG(nx:List (List cH))(k:Int)(n:Nat):List Int:=((List.range n).filter (vv nx k)).map fun j:Nat=>(j:Int)
def oE(nx:List (List cH))(k:Int):List Int:=oG nx k (gD nx nx.length)
def Ey(sl:List cN)(nx:List (List cH)):cR:=(fY nx 0,(List.range (gD nx nx.length)).map (zt nx),(List.range (gD nx nx.length)).map (xl sl nx),(List.range sl.length).map fun k:Nat=>oE nx (k:Int))
def zD:cR:=([],[],[],[])
noncomputable def Eu(p:cL)(tok st:Int):(cR×List cH)×Int:=
 if(ow p tok st).2≠0 then((zD,[]),(ow p tok st).2)else if 600<gD (ow p tok st).1.2 (ow p tok st).1.2.length then((zD,[]),2)
 else((Ey (F_ p).1 (ow p tok st).1.2,Ap (ow p tok st).1.2 (ow p tok st).1.2.length),0)
theorem oI{nx:List (List cH)}{k:Int}{n:Nat}:oG nx k (n+1)=oG nx k n++if vv nx k n=true then [(n:Int)]else []:=by
 unfold oG;rw[Mb,KG,LC]
 congr 1
 rw[KH];split<;>simp
theorem oH{nx:List (List cH)}{k:Int}{n:Nat}:(oG nx k n).length≤n:=by
 unfold oG;rw[Lq];exact MN (Lp _ _) OW
structure NxOk(sl:List cN)(nx:List (List cH)):Prop where
 ed:∀j,j<nx.length→∀e∈nx.getD j [],0≤e.1∧e.1<sl.length∧0≤e.2∧e.2<nx.length
 row:∀j,(nx.getD j []).length≤60
 n:nx.length≤200
 pos:0<nx.length
 node:∀s∈sl,0≤s.1∧s.1<62
 sl:sl.length≤60
theorem jf{p:cL}{m:List Int}{k:Int}(h:k∈i6 p m):0≤k∧k<(Gi p).length:=by
 unfold i6 at h
 split at h
 ·unfold jc jd at h
  obtain⟨i,hi,rfl⟩:=LU.1 h;have:=LZ.1 (LR.1 hi).1;omega
 ·cases h
theorem Gk{p:cL}:∀s∈Gi p,0≤s.1∧s.1<p.1.length:=fun s a=>by
 obtain⟨n,hn,a⟩:=stepsP_mem.1 a;have:=Gg s a;rw[this];omega
theorem oA{p:cL}{tok st:Int}(h:(ow p tok st).2=0):NxOk (F_ p).1 (ow p tok st).1.2:=by
 obtain⟨l,hS,d,o,q,_,k⟩:=oz h;obtain⟨n,f,c⟩:=Gc l;have m:=hS.st;have b:∀j,j<(ow p tok st).1.2.length→((ow p tok st).1.2.getD j []).length=(i6 p ((ow p tok st).1.1.getD j [])).length:=fun j a=>by
  rw[←d.can j a,Lq]
 refine⟨fun j a e i=>?_,fun j=>?_,by omega,by omega,fun s g=>?_,by rw[f];exact c⟩
 ·have h1:=d.ed j a e i
  have h2:e.1∈i6 p ((ow p tok st).1.1.getD j []):=by rw[←d.can j a];exact LU.2 ⟨e,i,rfl⟩
  have h3:=jf h2;rw[f];exact⟨h3.1,h3.2,h1.2.1,by have:=h1.2.2.1;omega⟩
 ·by_cases a:j<(ow p tok st).1.2.length
  ·rw[b j a]
   unfold i6;split
   ·unfold jc jd
    rw[Lq];exact MN (Lp _ _) (by simp;exact c)
   ·simp
  ·rw[KR,KY OS];simp
 ·rw[f]at g
  have h1:=Gk s g;have h2:=(jU n).n;omega
class IsA(P:Program)(t:TypeId)(k:outParam Nat)(e:outParam TypeId):Prop where
 ok:P.underlying t=some (.array k e)
section
variable {P:Program}{Q:Exit→Act→World→Prop}{n:Nat}{σ:Sg}{w:World}{L rest:List Oper}{d:Nat}{ty:TypeId}{pos:String}{af:Array Edge}{g:Option (Nat×Bool)}{t e:TypeId}{x y:Operand}{b o:Nat}{cells:List Value}
theorem eK{ix:Operand}{i k:Nat}{kd:IntKind}{l:TypeId}(p:gd L σ ⟨some d,.indexAddr t x ix,ty,pos,af,g⟩=some true)(hd:Nat.ble (d+1) n=true)(m:ev σ x=some (.pointer (some ⟨b,o,none⟩)))(hi:ev σ ix=some (.int kd (i:Int)))
  [r:IsA P t k l] [q:IsC P l 1 false] (h1:i<k) (h:WL P L Q rest n ((d,.pointer (some ⟨b,o+i,none⟩))::σ) w):WL P L Q (⟨some d,.indexAddr t x ix,ty,pos,af,g⟩::rest) n σ w:=by
 obtain⟨inf,dd,j,f,_,_⟩:=q.ok;refine WL.run p hd (fun a c=>?_) h;simp[execOp,c.ev m,c.ev hi,Instr.indexAt,asIntOf,OI r.ok,Instr.sureAddr,h1,sizeOf,typeInfo,j,f,N6]
theorem fA{v:Value}(s:gd L σ ⟨none,.store t x y,ty,pos,af,g⟩=some true)(p:ev σ x=some (.pointer (some ⟨b,o,none⟩)))(m:ev σ y=some v)[u:IsC P t 1 false](k:Blk w b e cells)
  (r:o<cells.length) (q:jj v=[v]) (h1:v.oneCell'=true)
  (h:∀w',Blk w' b e (cells.set o v)→w.grownBy w' (some b)→WL P L Q rest n σ w'):WL P L Q (⟨none,.store t x y,ty,pos,af,g⟩::rest) n σ w:=by
 obtain⟨i,dd,j,f,_,_⟩:=u.ok;have c:=OH P b o e [v] 0 cells.toArray w k OZ (by simpa using h1);simp only[Mz]at c
 have z:cells.take o++[v]++cells.drop (o+[v].length)=cells.set o v:=by
  rw[Me,Ov r];simp
 refine fq s (fun a l=>?_) (h _ (by
  have:=OJ w b cells.toArray (cells.set o v).toArray e (0,0) k;exact this) (rZ w b _))
 simp only[execOp,l.ev p,l.ev m,Instr.storeAt,Nv,Instr.sureAddr,Nx,Nu,storeVar,sizeOf,typeInfo,OG,j,f,jk,q];rw[←z];simp;simp[c]
theorem D9{k:Nat}(w:World)(m:Blk w b e cells)(h:cells.length=k)[l:IsC P t k true]:(Instr.loadAt t (.pointer (some ⟨b,0,none⟩))).run P w=.ok (.agg cells.toArray) w:=by
 obtain⟨i,dd,h1,h2,h3,h4⟩:=l.ok;have c:(isAgg t).run P w=.ok true w:=by
  unfold isAgg;rw[Nv,OI h3 w,←h4];cases dd<;>rfl
 have a:=OF (P:=P) w ⟨b,0,none⟩ cells (fun j u f=>by rw[N6,Nb];exact m.cell f);rw[h]at a
 simp[Instr.loadAt,Instr.sureAddr,loadVar,c,sizeOf,typeInfo,h1,h2,a]
theorem eP{k:Nat}(i:gd L σ ⟨some d,.load t x,ty,pos,af,g⟩=some true)(hd:Nat.ble (d+1) n=true)(c:ev σ x=some (.pointer (some ⟨b,0,none⟩)))[m:IsC P t k true](j:Blk w b e cells)(f:cells.length=k)
  (h:WL P L Q rest n ((d,.agg cells.toArray)::σ) w):WL P L Q (⟨some d,.load t x,ty,pos,af,g⟩::rest) n σ w:=by
 refine WL.run i hd (fun a l=>?_) h;simp[execOp,l.ev c,D9 (P:=P) (t:=t) w j f]
theorem fB{k:Nat}{cs:List Value}(s:gd L σ ⟨none,.store t x y,ty,pos,af,g⟩=some true)(q:ev σ x=some (.pointer (some ⟨b,0,none⟩)))(p:ev σ y=some (.agg cs.toArray))[v:IsC P t k true](l:Blk w b e cells)
  (r:cs.length=k) (A:cells.length=k) (h1:∀u∈cs,u.oneCell'=true)
  (h:∀w',Blk w' b e cs→w.grownBy w' (some b)→WL P L Q rest n σ w'):WL P L Q (⟨none,.store t x y,ty,pos,af,g⟩::rest) n σ w:=by
 obtain⟨i,dd,j,f,_,_⟩:=v.ok;subst r;have c:=OH P b 0 e cs 0 cells.toArray w l OZ h1;simp only[Mz,Nb,Mq,L2]at c
 have z:cells.toArray.toList.drop cs.length=[]:=Kz OZ;rw[z,Kk]at c
 refine fq s (fun a m=>?_) (h _ (by
  have:=OJ w b cells.toArray cs.toArray e (0,0) l;exact this) (rZ w b _))
 simp only[execOp,m.ev q,m.ev p,Instr.storeAt,Nv,Instr.sureAddr,Nx,Nu,storeVar,sizeOf,typeInfo,OG,j,f,Value.cells];simp;simp[c]
theorem bj{fn:Func}{a:Nat}{k:Nat}{R:Value→World→Prop}(q:fn.results=#[.cell a t])(A:fnd σ a=some (.pointer (some ⟨b,0,none⟩)))[s:IsC P t k true](z:Blk w b e cells)(r:cells.length=k)(h:R (.agg cells.toArray) w):
  EX (bodyPost P fn fun e w'=>∃v,e=.returned v∧R v w') .ret n σ w:=by
 unfold EX;intro ac l
 refine Of ?_ l.defers ⟨_,rfl,h⟩;have c:=OF (P:=P) w ⟨b,0,none⟩ cells (fun j u p=>by rw[N6,Nb];exact z.cell p);obtain⟨i,dd,h1,h2,h3,h4⟩:=s.ok;have f:(isAgg t).run P w=.ok true w:=by
  unfold isAgg;rw[Nv,OI h3 w,←h4];cases dd<;>rfl
 rw[r]at c
 have m:=l.slot a _ A;simp only[Jt]at m
 simp[results,q,m,asAddr,loadVar,f,sizeOf,typeInfo,h1,h2,c]
end
theorem yE{α β:Type}{f:α→Option β}{g:α→β}:∀(l:List α),(∀x∈l,f x=some (g x))→l.mapM f=some (l.map g)
 |[],_=>rfl
 |x::r,h=>by
  rw[LA,h x OW,yE r (fun y a=>h y (by simp[a]))];rfl
theorem KeyV.arr{P:Program}{k e:TypeId}{n:Nat}{q:IntKind}(j:P.underlying k=some (.array n e))(z:P.underlying e=some (.int q))(p:P.cellsOf e=1)(h:P.cellsOf k=n)(m:P.keyType k=true)(l:Nat.ble 1 P.types.size=true)
  {xs:List Int} (r:xs.length=n) (u:∀x∈xs,(Lit.int q x).wf=true):KeyV P k (.agg (xs.map fun x=>.int q x).toArray):=by
 obtain⟨s,v⟩:∃s,P.types.size=s+1:=⟨P.types.size -1,by have:=MJ l;omega⟩;have a:P.keyLits (P.types.size+1) k (xs.map fun x=>.int q x)=some (((List.range n).map fun i=>[Lit.int q (xs.getD i 0)]).flatten):=by
  rw[v,Nr];simp only[j];rw[Ov (by rw[h];simpa using r),yE (g:=fun i=>[Lit.int q (xs.getD i 0)])]
  ·rfl
  ·intro i hi
   have hi:=LZ.1 hi;have c:i<xs.length:=by omega
   have f:((xs.map fun x=>Value.int q x).drop (i*P.cellsOf e)).take (P.cellsOf e)=[.int q xs[i]]:=by
    rw[p,MY,Ky (by simpa using c)];simp
   rw[f,Nr];simp only[z];rw[Ov ⟨trivial,u _ (Lb c)⟩,KR,KX c];rfl
 refine⟨.string (keyBytes (((List.range n).map fun i=>[Lit.int q (xs.getD i 0)]).flatten)),?_⟩;unfold keyOf;rw[j];dsimp only;have hf:Value.formed P k (.agg (xs.map fun x=>Value.int q x).toArray)=true:=by
  unfold Value.formed;rw[j,h];simp[r]
 rw[m,hf];show Option.map _ (P.keyLits (P.types.size+1) k (xs.map fun x=>Value.int q x))=_;rw[a];rfl
section
variable {P:Program}{Q:Exit→Act→World→Prop}{n:Nat}{σ:Sg}{w:World}{L rest:List Oper}{d:Nat}{ty:TypeId}{pos:String}{af:Array Edge}{g:Option (Nat×Bool)}
variable {α:Type}[Rep α]{e t:TypeId}{x0:α}{bytes:Nat}{F:Nat→Prop}
end
def Cel(w:World)(b n:Nat):Prop:=∃cur e,w.heap[b]?=some (.cells cur e (0,0))∧n≤cur.size
theorem Cel.lt{w:World}{b n:Nat}(h:Cel w b n):b<w.heap.size:=by
 obtain⟨cur,e,h,_⟩:=h;exact(Jw.1 h).1
theorem Cel.at{w w':World}{b n:Nat}(h:Cel w b n)(a:w'.heap[b]?=w.heap[b]?):Cel w' b n:=by
 obtain⟨cur,e,h1,h2⟩:=h;exact⟨cur,e,a.trans h1,h2⟩
def RowT(F:Nat→Prop)(w:World)(z:Nat)(v:Value):Prop:=∃ao len cap,v=.slice ao len cap∧cap≤maxLen∧len≤cap∧(0<cap→∃b off,ao=some ⟨b,off,none⟩∧F b∧Cel w b (off+cap*z))
section
variable {α:Type}[Rep α]{w w':World}{B:Nat}{e:TypeId}{F F':Nat→Prop}{v:Value}{xs:List α}{z:Nat}
theorem Own.rowT(h:Own w B e c7 v xs)(hF:∀g,v.ownBlock=some g→F g):RowT F w (sz α) v:=by
 rcases h with⟨rfl,rfl⟩|⟨g,off,cap,cur,rfl,a⟩
 ·exact⟨none,0,0,rfl,by simp[maxLen],MM _,fun h=>absurd h OW⟩
 ·exact⟨_,_,_,rfl,a.mx,a.le,fun _=>⟨g,off,rfl,hF g rfl,cur,e,a.blk,a.fit⟩⟩
theorem RowT.to(h:RowT F w z v)(hF:∀b,F b→b<w.heap.size→F' b∧w'.heap[b]?=w.heap[b]?):RowT F' w' z v:=by
 obtain⟨ao,len,cap,h1,h2,h3,h4⟩:=h;refine⟨ao,len,cap,h1,h2,h3,fun a=>?_⟩;obtain⟨b,off,k1,k2,k3⟩:=h4 a;have:=hF b k2 k3.lt;exact⟨b,off,k1,this.1,k3.at this.2⟩
end
section
variable {P:Program}{Q:Exit→Act→World→Prop}{n:Nat}{σ:Sg}{w:World}{L rest:List Oper}{d:Nat}{ty:TypeId}{pos:String}{af:Array Edge}{g:Option (Nat×Bool)}
variable {α:Type}[Rep α]{e t:TypeId}{F:Nat→Prop}
end
end Go.Proofs.YtodmkmobdmcfbaaGreat
