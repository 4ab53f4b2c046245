import Derived.Test.YtodmkmobdmcfbaaGreatPtJudgeProves7
set_option linter.unusedVariables false
set_option linter.unusedSimpArgs false
set_option linter.defProp false
namespace Go.Proofs.YtodmkmobdmcfbaaGreat
open Go.RowKit
theorem Cells.nthE{w:World}{b off:Nat}{cs:List Value}(h:Cells w b off cs){j:Nat}{v:Value}(c:cs[j]?=some v):Cells w b (off+j) [v]:=by
 intro k u a
 cases k with
 |zero=>simp at a;subst a;exact h j _ c
 |succ k=>simp at a
theorem Sl.pairAt{w:World}{F:Nat→Prop}{ao:Option Addr}{cap:Nat}{xs:List dg}(h:Sl w F ao cap xs)(i:Nat)(hi:i<xs.length):∃b off,ao=some ⟨b,off,none⟩∧F b∧Cells w b (off+i*2+0) [Pj xs[i].1]∧Cells w b (off+i*2+1) [Pj xs[i].2]:=by
 obtain⟨b,off,e,hF,d,a,c⟩:=h.el i hi;obtain⟨c1,c2,rfl,h1,h2⟩:=C5 c;rw[C0 h1,C0 h2]at a
 exact⟨b,off,e,hF,a.nthE rfl,a.nthE rfl⟩
theorem my{l:List Int}(h:0<l.length):l.drop (l.length -1)=[l.getD (l.length -1) 0]:=by
 refine KE OZ fun i h1 h2=>?_
 rw[Lm]at h1
 obtain rfl:i=0:=by omega
 rw[K_,KR,KX OS];rfl
theorem rL{g:bU}{part:List Int}{sets:List (List Bool)}(a:okG g)(c:PartsOK g part){i:Nat}(hi:i<g.length)(h:bT g part sets (part.getD i 0)):∃u:Nat,u<g.length∧(u:Int)∈g.getD i []∧part.getD u 0=part.getD i 0:=by
 obtain⟨⟨u,h1,h2⟩,_⟩:=(rK a c hi).2 h;have b:u<g.length:=Eg.lt a h1;exact⟨u,b,h1,(c.same u i b hi).2 ⟨(CK a).2 h2,(CK a).2 (Rc.one h1)⟩⟩
theorem nQ(w:World)(b:Nat){a:Option Addr}{c:Nat}{S:List Bool}{k:Nat}(f:Blk w b 61 [.slice a S.length c])(e:Sl w (c9 w) a c S)(d:k<S.length):
  Rt Tryz.prog 165 [Pj (k:Int),Pk b].toArray w fun v w'=>v=.bool (S.getD k false)∧Ext w w':=by
 refine dH Tryz.func165 Tryz.ntmps165 rfl rfl ?_;refine QE ?_;refine eC rfl rfl rfl rfl rfl e d rfl O3 (fun q=>?_);refine Pr ?_;exact be rfl rfl ⟨by rw[IR d],Ext.refl w⟩
theorem nR(w:World)(b:Nat){a:Option Addr}{c:Nat}{S:List Bool}{k:Nat}(f:Blk w b 61 [.slice a S.length c])(e:Sl w (c9 w) a c S)(d:k<S.length):
  Rt Tryz.prog 166 [Pj (k:Int),Pk b].toArray w fun v w'=>v=.bool (S.getD k false)∧Ext w w':=by
 refine dH Tryz.func166 Tryz.ntmps166 rfl rfl ?_;refine QE ?_;refine eC rfl rfl rfl rfl rfl e d rfl O3 (fun q=>?_);refine Pr ?_;exact be rfl rfl ⟨by rw[IR d],Ext.refl w⟩
theorem nS(w:World)(b:Nat){k n:Nat}(a:Blk w b 3 [Pj (n:Int)]):
  Rt Tryz.prog 167 [Pj (k:Int),Pk b].toArray w fun v w'=>v=.bool (decide (k=n))∧Ext w w':=by
 refine dH Tryz.func167 Tryz.ntmps167 rfl rfl ?_;refine Qn ?_;refine be rfl rfl ⟨?_,Ext.refl w⟩
 congr 1
 (rw[JO];simp;try omega)
set_option maxHeartbeats 2000000 in
theorem nT(w0:World){sb n:Nat}{x0 x1 x2 x3 x4 x5 x6 x7 x8 x9 x10 x12:Value}{no po so:Option Addr}{nc pc sc:Nat}{g:List (List Int)}{part:List Int}{sets:List (List Bool)}
  (f:Blk w0 sb 171 [x0,x1,x2,x3,x4,x5,x6,x7,x8,x9,x10,.slice no g.length nc,x12]) (hs:Sl w0 (c9 w0) no nc g) (hp:Sl w0 (c9 w0) po pc part) (hfs:Sl w0 (c9 w0) so sc sets)
  (J:okG g) (C:PartsOK g part) (hl:g.length≤1228800) (hsl:∀S∈sets,S.length=g.length) (hsn:sets.length≤160) (hrw0:∀r∈g,r.length≤1099511627776) (hn:n<g.length) (hgd:bT g part sets (part.getD n 0)):
  Rt Tryz.prog 93 [Pk sb,Pj (n:Int),.slice po part.length pc,.slice so sets.length sc].toArray w0 fun v w'=>∃out,Own w' w0.heap.size 3 c7 v out∧RoOK g n sets out∧Ext w0 w':=by
 have hpl:=C.len;have hms:=hfs.len63;have Y:n<part.length:=by omega
 have h0:=C.ge n Y;have hpn:part[n]=part.getD n 0:=(IT Y).symm;have hsb0:=f.lt;have hsg:sets.length*g.length≤160*1228800:=MV hsn hl;refine dJ Tryz.func93 Tryz.ntmps93 rfl rfl ?_;refine Pm ?_;refine dZ rfl rfl rfl fun w1 hb5 O=>?_
 have hl5:=hb5.lt;generalize t:w0.heap.size=b5 at*
 refine QE ?_;refine eD rfl rfl rfl rfl rfl (hp.at O) Y hpn O3 (fun q=>?_);generalize M:part.getD n 0=c at*
 refine QE ?_;refine WL.lit (F:=c7) (ys:=[(n:Int)]) rfl rfl rfl rfl rfl (.cons Pe .nil) (by show 1*1≤16777216;decide) O6 (fun w2 ho2 hg2=>?_);have e2:Ext w1 w2:=(JJ _ _).grown hg2 Pf O_;generalize hov:Value.slice (some ⟨w1.heap.size,0,none⟩) 1 1=ov0 at*
 refine Qp ?_;refine CW.loop (S:=Nat×List Int×Value) (fun s=>[(0,Pk sb),(2,.slice po part.length pc),(5,Pk b5),(9,Pj c),(10,s.2.2),(24,.slice so sets.length sc),(25,Pj sets.length),(26,Pj s.1)])
  (fun s w=>s.1≤sets.length∧RoI g part n (sets.take s.1) s.2.1∧Own w w1.heap.size 3 c7 s.2.2 s.2.1∧Ext w1 w) (fun s=>sets.length -s.1) (0,[(n:Int)],ov0) OR
  ⟨Nc _,by simpa using RoI.start (part:=part) hn,ho2,e2⟩ ?_
 clear ho2 hg2 e2;rintro⟨i,out,ov⟩ w ⟨hi,hR,ho,e⟩
 dsimp only at hi hR ho e⊢
 have P:=O.trans e;have hRl:=hR.len;have hRn:=hR.ne;have hlt:=fun g J=>ho.lt g J
 have hbw:=f.ext P;have hb5w:=hb5.ext e;have htl:(sets.take i).length≤160:=by rw[Lz];omega
 have htg:(sets.take i).length*g.length≤160*1228800:=MV htl hl;have hol:out.length≤196608001:=by omega
 have o:out.getD (out.length -1) 0∈out:=by rw[KR,KX OS];exact Lb _
 have hlr:=hR.rg _ o;have D:=hR.pt _ o;obtain⟨la,L⟩:=J9 hlr.1;rw[L,Kd,M]at D
 have d:la<g.length:=by omega
 refine Qw ?_;apply CW.cond rfl<;>intro h
 ·have G:i<sets.length:=by simp at h;omega
  clear h;have hSm:=Lb G;have hSl:=hsl _ hSm;have B:sets.take (i+1)=sets.take i++[sets[i]]:=Mp G;refine Qo ?_;refine eE rfl rfl rfl rfl rfl (hfs.mono (w':=w) P.block (F':=fun b=>b<b5) (fun b f=>by rw[←t];exact f)) G O3 (fun u q V=>?_);obtain⟨Fo,Fc,rfl,hF⟩:=V.sl;clear V;generalize sets[i]=S at*
  skip;refine WL.alloc rfl rfl (fun w3 N A=>?_);skip;refine WL.st rfl rfl rfl N rfl rfl Pd (fun w4 N hg4=>?_);have e4:Ext w w4:=A.grown hg4 A.size O5;have hE4:=P.trans e4;have ho4:=ho.extN e4;have hz4:=hE4.size;have hF4:∀{x:World},Ext w4 x→Sl x (c9 x) Fo Fc S:=fun {x} U=>hF.mono (fun b f=>((hE4.trans U).block b (by rw[t];exact f)).trans (P.block b (by rw[t];exact f)).symm) (fun b f=>by have:=(hE4.trans U).size;exact(show b<x.heap.size by omega))
  obtain⟨oo,oc,rfl,W⟩:=ho4.oldN.sl;refine PK ?_;refine WL.call rfl rfl rfl (k7 w4 (fun x=>S.getD x.toNat false) W (fun w5 a j hj=>?_)) ?_
  ·have hto:=hR.rg _ (Lb hj)
   obtain⟨to,eto⟩:=J9 hto.1;rw[eto,Kd];exact FnV.mk (cs:=[_]) (nQ w5 _ (N.ext a) (hF4 a) OS)
  rintro _ w5 ⟨rfl,e5⟩
  have e45:=e4.trans e5;have hE5:=P.trans e45;have I:=e.trans e45;have ho5:=ho4.extN e5;refine QB ?_;apply CW.cond rfl<;>intro h2
  ·refine PJ ?_
   refine EX.back (i+1,out,.slice oo out.length oc) OR ⟨G,?_,ho5,I⟩ OX;dsimp only;rw[B];rw[Ki]at h2
   exact hR.skip h2
  ·have hdl:=my hRn
   refine QA ?_;refine eA (α:=Int) (out.length -1) OS rfl rfl rfl rfl ho5 OS (fun tv2 ho2 hob=>?_);rw[hdl]at ho2
   obtain⟨fo,fc,rfl,hfr⟩:=ho2.oldN.sl;have hfin:=hgd.2 S hSm;obtain⟨x,U,hxs,hxp⟩:=hfin;refine QX ?_;refine WL.call rfl rfl rfl (oq w5 (fr:=[out.getD (out.length -1) 0]) (to:=fun k=>S.getD k false) (f.ext hE5) (hs.up hE5) hfr (hp.up hE5) J (fun y hy=>by rw[L0]at hy;subst hy;exact hlr) hpl hl (fun z hz k hk=>FnV.mk (cs:=[_]) (nR z _ ((N.ext e5).ext hz) (hF4 (e5.trans hz)) OS))) ?_;rintro v6 w6 ⟨r,X,a,e6⟩
   have a:WyOK g [out.getD (out.length -1) 0] (fun k=>S.getD k false) (fS part c) r:=by
    rcases a with⟨_,a⟩|a
    ·exact absurd a (IG J C h0 d U D hxp (by rw[L];simp) hxs)
    ·exact a
   have hrl:=a.len;have hrn:=a.ne;have hR':=hR.go (S:=S) (l:=r) (by rw[M];exact h0) (by rw[M];exact a);have ho6:=ho5.extN e6;have hz5:=I.size;refine PP ?_;refine eA (α:=Int) 1 rfl rfl rfl rfl rfl X OS (fun v7 ho7 hob7=>?_);obtain⟨ro,rc,rfl,K⟩:=ho7.oldN.sl;skip;refine WL.app (F:=c7) rfl rfl rfl rfl ho6 K.srcN (by have:=(I.trans e6).size;omega) O6 (by unfold maxLen;rw[Lm];omega) (by rw[Lm];omega) (fun v8 w8 ho8 hg8 hnb8=>?_);have e8:Ext w1 w8:=(I.trans e6).grown hg8 (I.trans e6).size (fun b f=>(ho6.lt b f).1);refine PI ?_;exact EX.back (i+1,out++r.drop 1,v8) OR ⟨G,by dsimp only;rw[B];exact hR',ho8,e8⟩ OX
 obtain rfl:i=sets.length:=by simp at h;omega
 rw[Ml]at hR
 clear h hi htl htg;obtain⟨oo,oc,rfl,W⟩:=ho.oldN.sl;have Q:g.getD la []=g[la]:=IS d;refine QN ?_;have R:out.length -1<out.length:=by omega
 have Z:out[out.length -1]=(la:Int):=by rw[←L,IT R]
 rw[show((out.length:Nat):Int) -1=((out.length -1:Nat):Int) by omega];refine dm rfl rfl rfl rfl rfl O8 W R Z O3 (fun q=>?_);skip;refine dn rfl rfl rfl rfl rfl (fun b f=>by have:=P.size;omega) (hs.mono (w':=w) P.block (F':=fun b=>b<b5) (fun b f=>by rw[←t];exact f)) d O3 (fun u q V=>?_);obtain⟨ro,rc,rfl,K⟩:=V.sl;clear V;have hrr:AG g.length g[la]:=J _ (Lb d);have hrwl:=hrw0 _ (Lb d);generalize hrw:g[la]=row at*
 have hrl:=K.len63;refine Q0 ?_;refine QL.nil (fun w2 e2=>?_);have e12:=e.trans e2;have hE2:=P.trans e2;have ho2:=ho.extN e2;have hz2:=hE2.size;refine Qo ?_;refine CW.loop (S:=Nat×List Int×Value) (fun s=>[(0,Pk sb),(2,.slice po part.length pc),(5,Pk b5),(9,Pj c),(10,.slice oo out.length oc),(14,s.2.2),(59,.slice ro row.length rc),(60,Pj row.length),(61,Pj s.1)])
  (fun s w=>s.1≤row.length∧s.2.1=(row.take s.1).filter (fun k=>decide (part.getD k.toNat 0=c))∧Own w w2.heap.size 3 c7 s.2.2 s.2.1∧Ext w2 w) (fun s=>row.length -s.1) (0,[],.slice none 0 0) OR
  ⟨Nc _,by simp,Own.nil,Ext.refl _⟩ ?_
 rintro⟨j,th,tv⟩ w3 ⟨hj,m,ht,A⟩
 dsimp only at hj m ht A⊢
 have H:=hE2.trans A;have hthl:th.length≤j:=by
  rw[m];exact MN (Lp _ _) (by rw[Lz];omega)
 refine Qw ?_;apply CW.cond rfl<;>intro h
 ·have E:j<row.length:=by simp at h;omega
  clear h;have hkr:=hrr _ (Lb E);have B:row.take (j+1)=row.take j++[row[j]]:=Mp E;refine Qo ?_;refine eD rfl rfl rfl rfl rfl (K.mono (w':=w3) (fun b f=>(H.block b (by rw[t];exact f)).trans (P.block b (by rw[t];exact f)).symm) (F':=fun b=>b<b5) O8) E rfl O3 (fun q=>?_);generalize row[j]=k at*
  obtain⟨kn,rfl⟩:=J9 hkr.1;have hkp:kn<part.length:=by omega
  have hpk:part.getD kn 0=part[kn]:=IT hkp;refine Qw ?_;refine eD rfl rfl rfl rfl rfl (hp.at H) hkp rfl O3 (fun q=>?_);refine Pv ?_;apply CW.cond rfl<;>intro h2
  ·have h2:part[kn]=c:=by simpa using h2
   refine PC ?_;refine dY (F:=c7) (yv:=(kn:Int)) rfl rfl O3 rfl rfl O3 ht Pe A.size O6 OU OY OS (fun tv' w4 p ho4 hg4 hnb4=>?_);refine PI ?_;refine EX.back (j+1,th++[(kn:Int)],tv') OR ⟨E,?_,ho4,A.grown hg4 A.size (fun g J=>(ht.lt g J).1)⟩ OX;dsimp only;rw[B,KG,←m,KH,KK,Kd,hpk,Ol h2,Ov rfl]
  ·have h2:¬part[kn]=c:=by simpa using h2
   refine Pq ?_;refine EX.back (j+1,th,tv) OR ⟨E,?_,ht,A⟩ OX;dsimp only;rw[B,KG,←m,KH,KK,Kd,hpk,Oj h2,Ou OU,Kk]
 obtain rfl:j=row.length:=by simp at h;omega
 rw[Ml]at m
 clear h hj hthl;have T:∀x∈th,x∈row:=fun x U=>by rw[m]at U;exact(LR.1 U).1
 obtain⟨tt,tc,rfl,hts⟩:=ht.oldN.sl;have ho3:=ho2.extN A;obtain⟨u,V,hue,hup⟩:=rL J C d (sets:=sets) (by rw[D];exact hgd);rw[Q]at hue
 have hut:(u:Int)∈th:=by rw[m];exact LR.2 ⟨hue,Ol (by rw[Kd,hup,D])⟩
 have hb53:=hb5w.ext (e2.trans A);refine QC ?_;refine WL.call rfl rfl rfl (oq w3 (fr:=th) (to:=fun k=>decide (k=n)) (f.ext H) (hs.up H) hts (hp.up H) J (fun y hy=>hrr y (T y hy)) hpl hl (fun z hz k hk=>FnV.mk (cs:=[_]) (nS z _ (hb53.ext hz)))) ?_;rintro v6 w6 ⟨r,X,a,e6⟩
 have a:WyOK g th (fun k=>decide (k=n)) (fS part c) r:=by
  rcases a with⟨_,a⟩|a
  ·exact absurd a (IG J C h0 V hn (by rw[hup,D]) M hut OW)
  ·exact a
 have hrl2:=a.len;have hrn:=a.ne;have hRO:=hR.close (l:=r) (fr:=th) (by rw[L,Kd,Q];exact T) a;have ho6:=ho3.extN e6;have e16:=(e12.trans A).trans e6;refine PO ?_;refine ew (α:=Int) (r.length -1) OS rfl rfl rfl rfl X OS (fun v7 ho7 hob7=>?_);obtain⟨ro7,rc7,rfl,hrs7⟩:=ho7.oldN.sl;skip;refine WL.app (F:=c7) rfl rfl rfl rfl ho6 hrs7.srcN e16.size O6 (by unfold maxLen;rw[Lz];omega) (by rw[Lz];omega) (fun v8 w8 ho8 hg8 hnb8=>?_);have e8:Ext w1 w8:=e16.grown hg8 e16.size (fun b f=>(ho6.lt b f).1);refine Pr ?_;exact be rfl rfl ⟨_,ho8.low (by have:=O.size;omega),hRO,O.trans e8⟩
theorem nY(w0:World){sb:Nat}{x0 K J I H G E D C B j f:Value}{lo ao:Option Addr}{y ac:Nat}{ps:List dg}{l:List Int}
  (R:Blk w0 sb 171 [x0,K,J,I,H,G,E,D,C,B,.slice lo ps.length y,j,f]) (r:Sl w0 (c9 w0) lo y ps) (M:Sl w0 (c9 w0) ao ac l) (O:AG ps.length l) (N:l.length≤1099511627776):
  Rt Tryz.prog 94 [Pk sb,.slice ao l.length ac].toArray w0 fun v w'=>Own w' w0.heap.size 3 c7 v (l.map fun n=>(ps.getD n.toNat (0,0)).1)∧Ext w0 w':=by
 refine dH Tryz.func94 Tryz.ntmps94 rfl rfl ?_;refine Qp ?_;refine CW.loop (S:=Nat×Value) (fun s=>[(0,Pk sb),(5,s.2),(8,.slice ao l.length ac),(9,Pj l.length),(10,Pj s.1)])
  (fun s w=>s.1≤l.length∧Own w w0.heap.size 3 c7 s.2 ((l.take s.1).map fun n=>(ps.getD n.toNat (0,0)).1)∧Ext w0 w) (fun s=>l.length -s.1) (0,.slice none 0 0) OR ⟨Nc _,Own.nil,Ext.refl _⟩ ?_
 rintro⟨i,ov⟩ w ⟨hi,e,c⟩
 dsimp only at hi e c⊢
 have Q:=R.ext c;refine Qw ?_;apply CW.cond rfl<;>intro h
 ·have a:i<l.length:=by simp at h;omega
  have m:=O _ (Lb a);have d:(l.take (i+1)).map (fun n=>(ps.getD n.toNat (0,0)).1)=(l.take i).map (fun n=>(ps.getD n.toNat (0,0)).1)++[(ps.getD l[i].toNat (0,0)).1]:=by
   rw[Mp a,LC];rfl
  have L:(List.map (fun n:Int=>(ps.getD n.toNat (0,0)).1) (l.take i)).length=i:=by rw[Lq,Lz];omega
  refine Qo ?_;refine eD rfl rfl rfl rfl rfl (M.up c) a rfl O3 (fun q=>?_);generalize l[i]=x at*
  obtain⟨k,rfl⟩:=J9 m.1;rw[Kd]at d
  have A:k<ps.length:=by omega
  have o:ps.getD k (0,0)=ps[k]:=by rw[KR,KX A];rfl
  rw[o]at d
  obtain⟨b,off,rfl,T,u,_⟩:=(r.up c).pairAt k A;refine QH ?_;refine eJ (α:=dg) rfl rfl rfl rfl OS OS ?_;refine eI rfl rfl rfl ?_;refine WL.load (α:=Int) (F:=c7) rfl rfl rfl u rfl ?_;refine dY (F:=c7) (yv:=ps[k].1) rfl rfl O3 rfl rfl O3 e Pe c.size O6 OU OY OS (fun tv' U p ho4 t z=>?_);refine PI ?_;refine EX.back (i+1,tv') OR ⟨a,?_,c.grown t c.size (fun g P=>(e.lt g P).1)⟩ OX;dsimp only;rw[d];exact ho4
 ·obtain rfl:i=l.length:=by simp at h;omega
  rw[Ml]at e
  refine PG ?_;exact be rfl rfl ⟨e,c⟩
def bt(m j:Nat):Bool:=Nat.beq (Nat.land (Nat.shiftRight m j) 1) 1
def Gw(m M:Nat):Bool:=Nat.beq (Nat.land m M) m
def alone(i M:Nat):Nat→List Nat→Bool
 |_,[]=>true
 |j,m::r=>match Nat.beq j i with
  |true=>alone i M (j+1) r
  |false=>match bt M j with
   |true=>alone i M (j+1) r
   |false=>match Gw m M with
    |true=>false
    |false=>alone i M (j+1) r
section
variable {L:List Oper}{listed:Array Bool}{M i:Nat}
end
section
variable {P:Program}{Q:Exit→Act→World→Prop}{n:Nat}{σ:Sg}{w:World}{L:List Oper}
end
def I5(P:Program)(ops:Array Oper)(Q:Exit→Act→World→Prop)(S:Array Bool→World→Prop):Nat→Array Bool→Act→World→Prop
 |0,f,a,w=>Region.ready .any ops f=[]∧Q .normal a w
 |fuel+1,f,a,w=>
  (Region.ready .any ops f=[]→Q .normal a w)∧
  ∀i∈Region.ready .any ops f,wpOp P ops Q i (fun h w'=>S (f.setIfInBounds i true) w'∧I5 P ops Q S fuel (f.setIfInBounds i true) h w') a w
section
variable {P:Program}{ops:Array Oper}{Q:Exit→Act→World→Prop}{S:Array Bool→World→Prop}
theorem I9:∀(fuel:Nat) (f:Array Bool) (a:Act) (w:World),I5 P ops Q S fuel f a w→wpAny P .any ops Q fuel f a w
 |0,_,_,_,h=>h
 |fuel+1,_,_,_,h=>⟨h.1,fun i hi=>ON (fun k w' j=>I9 fuel _ k w' j.2) (h.2 i hi)⟩
theorem I6{i:Nat}{oi:Oper}{v:Value}(hi:ops[i]?=some oi)(r:∀(j:Nat) (o:Oper) cs b,ops[j]?=some o→o.op≠.select cs b)
  (hQ:∀c a w,Q (.panic c) (a.put oi.dst v) w→Q (.panic c) a w) (Rch:Array Bool→Prop) (hR:∀L j,Rch L→j≠i→j∈Region.ready .any ops L→Rch (L.setIfInBounds j true))
  (z:∀L w,S (L.setIfInBounds i true) w↔S L w):
  ∀(fuel:Nat) (f:Array Bool) (a:Act) (w:World),Rch f→
   (∀j oj,ops[j]?=some oj→j≠i→f.getD j true=false→(∀e∈oj.after,Region.binds .any e=true→e.on≠i)→oi.apart ops oj=true)→
   i∈Region.ready .any ops f→YieldsIf P ops (fun w=>∃L,Rch L∧S L w) oi v a→S f w→
   I5 P ops Q S fuel (f.setIfInBounds i true) (a.put oi.dst v) w→I5 P ops Q S (fuel+1) f a w:=by
 intro fuel
 induction fuel with
 |zero=>
  intro f a w q _ u G hS H
  refine⟨fun h=>(by rw[h]at u;cases u),fun j D=>?_⟩;by_cases l:j=i
  ·subst l;exact G.wpOp hi ⟨f,q,hS⟩ ⟨(z _ _).2 hS,H⟩
  ·have:=OE D l
   rw[H.1]at this
   cases this
 |succ fuel R=>
  intro f a w q m u G hS H
  refine⟨fun h=>(by rw[h]at u;cases u),fun j D=>?_⟩;by_cases l:j=i
  ·subst l;exact G.wpOp hi ⟨f,q,hS⟩ ⟨(z _ _).2 hS,H⟩
  ·have h1:=H.2 j (OE D l)
   obtain⟨s,oj,y,E⟩:=Ox.1 D;have B:∀e∈oj.after,Region.binds .any e=true→e.on≠i:=fun e U V K=>by
    have h1:=E e U V;have O:=(Ox.1 u).1;rw[K]at h1
    rcases MR i f.size with N|N
    ·simp[N]at O h1;rw[O]at h1;cases h1
    ·simp[Jv N]at h1
   have h2:=wpOp_putIf y (m j oj y l s B) (fun cs b=>r i oi cs b hi) (fun cs b=>r j oj cs b y) hQ G h1;have p:∀k ok,ops[k]?=some ok→k≠i→(f.setIfInBounds j true).getD k true=false→
     (∀e∈ok.after,Region.binds .any e=true→e.on≠i)→oi.apart ops ok=true:=fun k ok T J A I=>by
    refine m k ok T J ?_ I;by_cases C:j=k
    ·subst C;exact s
    ·rw[getD_set_ne true C]at A;exact A
   refine ON (fun W w' h3=>?_) h2;have M:(f.setIfInBounds i true).setIfInBounds j true=(f.setIfInBounds j true).setIfInBounds i true:=JE _ _ (Nf l);rw[M]at h3
   have F:=(z _ _).1 h3.2.1;exact⟨F,R (f.setIfInBounds j true) W w' (hR _ _ q l D) p (OE u (Nf l)) h3.1 F h3.2.2⟩
end
structure Cls(L:List Oper)(l:Array Bool):Prop where
 size:l.size=L.length
 cl:∀k o,l.getD k false=true→L[k]?=some o→∀j∈AT o,l.getD j false=true
theorem Cls.put{L:List Oper}{l:Array Bool}(h:Cls L l){j:Nat}(r:j∈Region.ready .any L.toArray l):Cls L (l.setIfInBounds j true):=by
 obtain⟨_,o,q,s⟩:=Ox.1 r;have a:L[j]?=some o:=by simpa using q
 refine⟨by simpa using h.size,fun k p f ho2 x m=>?_⟩;refine listed_set.2 (.inr ?_);rcases listed_set.1 f with⟨rfl,_⟩|f
 ·rw[a]at ho2;cases ho2
  exact AU s x m
 ·exact h.cl k p f ho2 x m
def SG(c e:Nat)(Sw Ss:World→Prop):Array Bool→World→Prop:=fun l w=>l.getD e false=false→Sw w∧(l.getD c false=false→Ss w)
theorem rl{l:Array Bool}{i c:Nat}(a:i≠c):(l.setIfInBounds i true).getD c false=l.getD c false:=by
 simp only[Jt];rw[JB a]
theorem dL{c e i:Nat}(f:i≠c)(a:i≠e){Sw Ss:World→Prop}(l:Array Bool)(w:World):SG c e Sw Ss (l.setIfInBounds i true) w↔SG c e Sw Ss l w:=by
 unfold SG;rw[rl f,rl a]
def im(L:List Oper)(c i:Nat):Bool:=(mark L (c+1) ((List.replicate (c+1) false).set c true)).getD i false
theorem ip{L:List Oper}{l:Array Bool}{c i:Nat}(h:im L c i=true)(p:Cls L l)(hi:l.getD i false=false):l.getD c false=false:=by
 cases f:l.getD c false with
 |false=>rfl
 |true=>
  have:=yM (L:=L) (S:=fun x=>l.getD x false=true) (fun x o a k j m=>p.cl x o a k j m) (c+1) ((List.replicate (c+1) false).set c true) (fun x a=>by
   by_cases e:c=x
   ·subst e;exact f
   ·exfalso
    simp[KR,K3,e,K2]at a
    split at a<;>simp at a) i h
  rw[hi]at this;cases this
def A7(L:List Oper)(c e:Nat):List (Nat×Nat)→Array Bool→Bool
 |[],a=>(Region.ready .any L.toArray a).isEmpty
 |(i,k)::r,a=>match k with
  |0=>decide (Region.ready .any L.toArray a=[i])&&decide (i≠e)&&A7 L c e r (a.setIfInBounds i true)
  |1=>(Region.ready .any L.toArray a).contains i&&Region.free .any L.toArray a i&&decide (i≠c)&&decide (i≠e)&&(decide (L.length≤e)||im L e i)&&A7 L c e r (a.setIfInBounds i true)
  |2=>(Region.ready .any L.toArray a).contains i&&Region.free .any L.toArray a i&&decide (i≠c)&&decide (i≠e)&&(decide (L.length≤e)||im L e i)&&im L c i&&A7 L c e r (a.setIfInBounds i true)
  |_=>decide (Region.ready .any L.toArray a=[i])&&decide (i=e)&&A7 L c e r (a.setIfInBounds i true)
def Jg(P:Program)(ops:List Oper)(c e:Nat)(Sw Ss:World→Prop)(Q:Act→World→Prop):Bool→List (Nat×Nat)→Act→World→Prop
 |_,[],a,w=>Q a w
 |ph,(i,k)::r,a,w=>match k with
  |0=>∃o,ops[i]?=some o∧(if Region.wanted o (yielded ops.toArray a.tmps)=true then o.wp P a w (fun f w'=>Sw w'∧((ph||Nat.beq i c)=false→Ss w')∧Jg P ops c e Sw Ss Q (ph||Nat.beq i c) r f w') (fun e a w=>e=.normal∧Q a w)else Sw w∧((ph||Nat.beq i c)=false→Ss w)∧Jg P ops c e Sw Ss Q (ph||Nat.beq i c) r (a.put o.dst undef) w)
  |1=>∃o v,ops[i]?=some o∧YieldsIf P ops.toArray Sw o v a∧Jg P ops c e Sw Ss Q ph r (a.put o.dst v) w
  |2=>∃o v,ops[i]?=some o∧YieldsIf P ops.toArray Ss o v a∧Jg P ops c e Sw Ss Q ph r (a.put o.dst v) w
  |_=>r=[]∧∃o,ops[i]?=some o∧(if Region.wanted o (yielded ops.toArray a.tmps)=true then o.wp P a w Q (fun e a w=>e=.normal∧Q a w)else Q (a.put o.dst undef) w)
theorem Jo{P:Program}{ops:Array Oper}{S S':World→Prop}{o:Oper}{v:Value}{a:Act}(h:YieldsIf P ops S o v a)(hS:∀w,S' w→S w):YieldsIf P ops S' o v a:=
 h.imp (fun⟨h1,h2⟩=>⟨h1,fun w f=>h2 w (hS w f)⟩) id
theorem Ji{P:Program}{L:List Oper}{c e:Nat}{Sw Ss:World→Prop}{Q:Act→World→Prop}(T:Region.noSelect L.toArray=true):
  ∀(ord:List (Nat×Nat)) (ph:Bool) (f:Array Bool) (a:Act) (w:World),A7 L c e ord f=true→Cls L f→(f.getD c false=ph)→SG c e Sw Ss f w→Jg P L c e Sw Ss Q ph ord a w→
   I5 P L.toArray (fun e a w=>e=.normal∧Q a w) (SG c e Sw Ss) ord.length f a w
 |[],ph,f,a,w,z,_,_,_,h=>by
  simp only[A7,Lj]at z
  exact⟨z,rfl,h⟩
 |(i,0)::r,ph,f,a,w,z,B,A,hS,⟨o,D,h⟩=>by
  simp only[A7,JM,Om]at z
  obtain⟨⟨G,_⟩,I⟩:=z;have p:i∈Region.ready .any L.toArray f:=by rw[G];simp
  have V:=B.put p;have N:i<L.length:=(KZ.1 D).1;have m:(f.setIfInBounds i true).getD c false=(ph||Nat.beq i c):=by
   cases e:Nat.beq i c with
   |true=>
    obtain rfl:=MD e;have:=B.size;simp[Jt,show i<f.size by omega]
   |false=>
    have s:i≠c:=fun h=>by subst h;rw[MA]at e;cases e
    rw[rl s,A,JY]
  refine⟨fun h0=>(by rw[h0]at p;cases p),fun j H=>?_⟩;rw[G,L0]at H
  subst H;have q:L.toArray[j]?=some o:=by simpa using D
  unfold wpOp;simp only[q];split
  ·rename_i C
   rw[Ov C]at h
   exact .inl (Ng (fun U w' R=>⟨fun _=>⟨R.1,fun K=>R.2.1 (m▸K)⟩,Ji T r _ _ _ _ I V m (fun _=>⟨R.1,fun K=>R.2.1 (m▸K)⟩) R.2.2⟩) h)
  ·rename_i C
   rw[Ou C]at h
   exact⟨fun _=>⟨h.1,fun K=>h.2.1 (m▸K)⟩,Ji T r _ _ _ _ I V m (fun _=>⟨h.1,fun K=>h.2.1 (m▸K)⟩) h.2.2⟩
 |(i,1)::r,ph,f,a,w,z,B,A,hS,⟨o,v,D,W,h⟩=>by
  simp only[A7,JM,Om,JX]at z
  obtain⟨⟨⟨⟨⟨h1,h2⟩,s⟩,y⟩,O⟩,h3⟩:=z;have p:i∈Region.ready .any L.toArray f:=by simpa using h1
  have q:L.toArray[i]?=some o:=by simpa using D
  have m:(f.setIfInBounds i true).getD c false=ph:=by rw[rl s];exact A
  have N:i<L.length:=(KZ.1 D).1;have M:f.getD i false=false:=by
   have:=(Ox.1 p).1;have X:=B.size;rw[rm OS]at this
   simpa using this
  have F:∀l:Array Bool,Cls L l→l.getD i false=false→l.getD e false=false:=fun l u hi=>O.elim (fun h=>by
   have:=u.size;simp[Jt,Jv (show l.size≤e by omega)]) (fun h=>ip h u hi)
  exact I6 q (Nt T) (fun _ _ _ h=>by cases h.1) (fun l=>Cls L l∧l.getD i false=false) (fun l j u E H=>⟨u.1.put H,by rw[rl E];exact u.2⟩) (fun l w=>dL s y l w) r.length f a w ⟨B,M⟩ (Ns q h2) p
   (Jo W fun w ⟨l,u,C⟩=>(C (F l u.1 u.2)).1) hS (Ji T r ph _ _ _ h3 (B.put p) m ((dL s y _ _).2 hS) h)
 |(i,2)::r,ph,f,a,w,z,B,A,hS,⟨o,v,D,W,h⟩=>by
  simp only[A7,JM,Om,JX]at z
  obtain⟨⟨⟨⟨⟨⟨h1,h2⟩,s⟩,y⟩,O⟩,Y⟩,h3⟩:=z;have p:i∈Region.ready .any L.toArray f:=by simpa using h1
  have q:L.toArray[i]?=some o:=by simpa using D
  have m:(f.setIfInBounds i true).getD c false=ph:=by rw[rl s];exact A
  have N:i<L.length:=(KZ.1 D).1;have M:f.getD i false=false:=by
   have:=(Ox.1 p).1;have X:=B.size;rw[rm OS]at this
   simpa using this
  have F:∀l:Array Bool,Cls L l→l.getD i false=false→l.getD e false=false:=fun l u hi=>O.elim (fun h=>by
   have:=u.size;simp[Jt,Jv (show l.size≤e by omega)]) (fun h=>ip h u hi)
  exact I6 q (Nt T) (fun _ _ _ h=>by cases h.1) (fun l=>Cls L l∧l.getD i false=false) (fun l j u E H=>⟨u.1.put H,by rw[rl E];exact u.2⟩) (fun l w=>dL s y l w) r.length f a w ⟨B,M⟩ (Ns q h2) p
   (Jo W fun w ⟨l,u,C⟩=>(C (F l u.1 u.2)).2 (ip Y u.1 u.2)) hS (Ji T r ph _ _ _ h3 (B.put p) m ((dL s y _ _).2 hS) h)
 |(i,k+3)::r,ph,f,a,w,z,B,A,hS,⟨hr,o,D,h⟩=>by
  subst hr;simp only[A7,JM,Om]at z
  obtain⟨⟨G,rfl⟩,I⟩:=z;have p:i∈Region.ready .any L.toArray f:=by rw[G];simp
  have N:i<L.length:=(KZ.1 D).1;have Z:(f.setIfInBounds i true).getD i false=true:=by
   have:=B.size;simp[Jt,show i<f.size by omega]
  refine⟨fun h0=>(by rw[h0]at p;cases p),fun j H=>?_⟩;rw[G,L0]at H
  subst H;have q:L.toArray[j]?=some o:=by simpa using D
  have J:∀U w',Q U w'→SG c j Sw Ss (f.setIfInBounds j true) w'∧I5 P L.toArray (fun e a w=>e=.normal∧Q a w) (SG c j Sw Ss) ([]:List (Nat×Nat)).length (f.setIfInBounds j true) U w':=fun U w' hq=>
   ⟨fun h=>(by rw[Z]at h;cases h),by simpa using I,rfl,hq⟩
  unfold wpOp;simp only[q];split
  ·rename_i C
   rw[Ov C]at h
   exact .inl (Ng (fun U w' R=>J U w' R) h)
  ·rename_i C
   rw[Ou C]at h
   exact J _ _ h
@[irreducible] def HP (P:Program) (ops:List Oper) (c e:Nat) (Sw Ss:World→Prop) (Q:Exit→Act→World→Prop) (ph:Bool) (ord:List (Nat×Nat)) (n:Nat) (σ:Sg) (w:World):Prop:=
  ∀a,Fr n σ a→Jg P ops c e Sw Ss (fun a w=>Q .normal a w) ph ord a w
section
variable {P:Program}{Q:Exit→Act→World→Prop}{n:Nat}{σ:Sg}{w:World}{L:List Oper}{c e:Nat}{Sw Ss:World→Prop}
theorem aH{id:Nat}(c e:Nat)(Sw Ss:World→Prop)(ord:List (Nat×Nat))(q:P.follows .mixedOrders=true)(f:(Region.noSelect L.toArray&&decide (ord.length=L.length)&&A7 L c e ord (Array.replicate L.length false))=true)(m:Sw (drew w))(hS:Ss (drew w))(h:HP P L c e Sw Ss Q false ord n σ (drew w)):CW P (.region id L.toArray true) Q n σ w:=by
 unfold CW;unfold HP at h;intro a u
 simp only[JM,Om]at f
 obtain⟨⟨p,r⟩,f⟩:=f;have l:∀k,(Array.replicate L.length false).getD k false=false:=fun k=>by
  simp[Jt,Jz];split<;>rfl
 have h1:=Ji (Q:=fun a w=>Q .normal a w) p ord false (Array.replicate L.length false) a (Go.Proofs.YtodmkmobdmcfbaaGreat.drew w) f ⟨by simp,fun k o j=>by rw[l k]at j;cases j⟩ (l c) (fun _=>⟨m,fun _=>hS⟩) (h a u);rw[r]at h1
 have h2:(Code.region id L.toArray true).wp P (fun x a w=>x=.normal∧Q .normal a w) a w:=OQ q (by simpa using I9 _ _ _ _ h1);exact OP h2 (fun x v w' ⟨s,hq⟩=>by subst s;exact hq)
theorem HP.nil{ph:Bool}(h:EX Q .normal n σ w):HP P L c e Sw Ss Q ph [] n σ w:=by
 unfold HP;unfold EX at h;exact fun a f=>h a f
def ah(P:Program)(ops:List Oper)(c e:Nat)(Sw Ss:World→Prop)(Q:Exit→Act→World→Prop)(ph:Bool)(ord:List (Nat×Nat)):Exit→Act→World→Prop:=
 fun x a w=>x=.normal∧Sw w∧(ph=false→Ss w)∧Jg P ops c e Sw Ss (fun a w=>Q .normal a w) ph ord a w
def Ha(k:Nat):List (Nat×Bool)→List (Nat×Nat)
 |[]=>[]
 |(i,_)::r=>(i,k)::Ha k r
def f6:List (Nat×Bool)→Bool
 |[]=>true
 |(_,b)::r=>b&&f6 r
theorem Jh{Q:Act→World→Prop}{ph:Bool}{r:List (Nat×Nat)}{S:World→Prop}{k:Nat}(j:∀i r a w,Jg P L c e Sw Ss Q ph ((i,k)::r) a w↔∃o v,L[i]?=some o∧YieldsIf P L.toArray S o v a∧Jg P L c e Sw Ss Q ph r (a.put o.dst v) w):∀(s:List (Nat×Bool)) (a:Act) (w:World),f6 s=true→Jc P L S (fun a w=>Jg P L c e Sw Ss Q ph r a w) s a w→Jg P L c e Sw Ss Q ph (Ha k s++r) a w
 |[],a,w,_,h=>h
 |(i,true)::s,a,w,f,⟨o,v,m,l,h⟩=>(j i _ a w).2 ⟨o,v,m,l,Jh j s _ _ (by simpa[f6]using f) h⟩
 |(i,false)::s,a,w,f,_=>by simp[f6]at f
def dE(P:Program)(ops:List Oper)(c e:Nat)(Sw Ss:World→Prop)(Q:Exit→Act→World→Prop)(ph:Bool)(ord:List (Nat×Nat)):Exit→Act→World→Prop:=
 fun x a w=>x=.normal∧Jg P ops c e Sw Ss (fun a w=>Q .normal a w) ph ord a w
theorem HP.weak{ph:Bool}{r:List (Nat×Nat)}(s:List (Nat×Bool))(j:f6 s=true)(h:HL P L Sw (dE P L c e Sw Ss Q ph r) s n σ w):HP P L c e Sw Ss Q ph (Ha 1 s++r) n σ w:=by
 unfold HP;unfold HL at h
 intro a q
 have h2:Jc P L Sw (fun a w=>Jg P L c e Sw Ss (fun a w=>Q .normal a w) ph r a w) s a w:=by
  have f:∀(s:List (Nat×Bool)) (a:Act) (w:World),f6 s=true→Jc P L Sw (fun a w=>dE P L c e Sw Ss Q ph r .normal a w) s a w→Jc P L Sw (fun a w=>Jg P L c e Sw Ss (fun a w=>Q .normal a w) ph r a w) s a w:=by
   intro s
   induction s with
   |nil=>intro a w _ h;exact h.2
   |cons x s l=>
    obtain⟨i,b⟩:=x;intro a w j h
    cases b with
    |false=>simp[f6]at j
    |true=>
     obtain⟨o,v,p,m,h⟩:=h;exact⟨o,v,p,m,l _ _ (by simpa[f6]using j) h⟩
  exact f s a w j (h a q)
 exact Jh (S:=Sw) (k:=1) (fun i r a w=>J8) s a w j h2
theorem HP.early{ph:Bool}{r:List (Nat×Nat)}(s:List (Nat×Bool))(j:f6 s=true)(h:HL P L Ss (dE P L c e Sw Ss Q ph r) s n σ w):HP P L c e Sw Ss Q ph (Ha 2 s++r) n σ w:=by
 unfold HP;unfold HL at h
 intro a q
 have h2:Jc P L Ss (fun a w=>Jg P L c e Sw Ss (fun a w=>Q .normal a w) ph r a w) s a w:=by
  have f:∀(s:List (Nat×Bool)) (a:Act) (w:World),f6 s=true→Jc P L Ss (fun a w=>dE P L c e Sw Ss Q ph r .normal a w) s a w→Jc P L Ss (fun a w=>Jg P L c e Sw Ss (fun a w=>Q .normal a w) ph r a w) s a w:=by
   intro s
   induction s with
   |nil=>intro a w _ h;exact h.2
   |cons x s l=>
    obtain⟨i,b⟩:=x;intro a w j h
    cases b with
    |false=>simp[f6]at j
    |true=>
     obtain⟨o,v,p,m,h⟩:=h;exact⟨o,v,p,m,l _ _ (by simpa[f6]using j) h⟩
  exact f s a w j (h a q)
 exact Jh (S:=Ss) (k:=2) (fun i r a w=>J8) s a w j h2
theorem bd{ph:Bool}{r:List (Nat×Nat)}(h:HP P L c e Sw Ss Q ph r n σ w):EX (dE P L c e Sw Ss Q ph r) .normal n σ w:=by
 unfold EX;unfold HP at h
 exact fun a f=>⟨rfl,h a f⟩
theorem HP.mut{ph:Bool}{i:Nat}{r:List (Nat×Nat)}{o:Oper}(k:Ac L i=some o)(h:WL P L (ah P L c e Sw Ss Q (ph||Nat.beq i c) r) [o] n σ w):HP P L c e Sw Ss Q ph ((i,0)::r) n σ w:=by
 unfold HP;unfold WL at h
 intro a p
 rw[Ad]at k
 have h2:=h a p;simp only[wpList]at h2
 refine⟨o,k,?_⟩;split
 ·rename_i f
  rw[Ov f]at h2
  rcases h2 with h2|⟨_,m⟩
  ·refine Ng (fun s w' q=>q.2) (Jk (fun x a w j hf=>absurd hf.1 j) h2)
  ·obtain⟨_,_,l⟩:=m
   exact absurd l.1 OW
 ·rename_i f
  rw[Ou f]at h2
  exact h2.2
theorem ba{ph:Bool}{r:List (Nat×Nat)}(f:Sw w)(j:ph=false→Ss w)(h:HP P L c e Sw Ss Q ph r n σ w):EX (ah P L c e Sw Ss Q ph r) .normal n σ w:=by
 unfold EX;unfold HP at h
 exact fun a k=>⟨rfl,f,j,h a k⟩
theorem HP.last{ph:Bool}{i:Nat}{o:Oper}(k:Ac L i=some o)(h:WL P L (fun x a w=>x=.normal∧Q .normal a w) [o] n σ w):HP P L c e Sw Ss Q ph [(i,3)] n σ w:=by
 unfold HP;unfold WL at h
 intro a p
 rw[Ad]at k
 have h2:=h a p;simp only[wpList]at h2
 refine⟨rfl,o,k,?_⟩;split
 ·rename_i f
  rw[Ov f]at h2
  rcases h2 with h2|⟨_,m⟩
  ·refine Ng (fun r w' q=>q.2) (Jk (fun x a w j hf=>absurd hf.1 j) h2)
  ·obtain⟨_,_,l⟩:=m
   exact absurd l.1 OW
 ·rename_i f
  rw[Ou f]at h2
  exact h2.2
theorem HP.app1{α:Type}[Rep α]{x0:α}{bytes:Nat}{F:Nat→Prop}{i I d d1:Nat}{ty ty1:TypeId}{pos pos1:String}{af af1:Array Edge}{g g1:Option (Nat×Bool)}{t et:TypeId}{x y:Operand}{rest:List (Nat×Nat)}{v u:Value}{xs:List α}{yv:α}{B:Nat}{wc:World}
  (ho1:Ac L I=some ⟨some d1,.buildSlice t 1 [(0,y)].toArray,ty1,pos1,af1,g1⟩) (N:Ac L i=some ⟨some d,.call ⟨.builtin .append,#[x,.tmp d1],#[t,t]⟩,ty,pos,af,g⟩)
  (E:gd L σ ⟨some d1,.buildSlice t 1 [(0,y)].toArray,ty1,pos1,af1,g1⟩=some true) (H:Nat.ble (d1+1) n=true)
  (G:∀u,gd L ((d1,.slice u 1 1)::σ) ⟨some d,.call ⟨.builtin .append,#[x,.tmp d1],#[t,t]⟩,ty,pos,af,g⟩=some true) (hd:Nat.ble (d+1) n=true)
  (J:ev σ y=some u) (K:∀u,ev ((d1,.slice u 1 1)::σ) x=some v) [V:IsS P t et] [U:IsT P et α] [T:IsZ P et x0 bytes] (q:Own wc B et F v xs) (M:Rd wc F u yv) (R:B≤wc.heap.size) (hF:∀b,F b→b<wc.heap.size)
  (A:sz α≤16777216) (O:xs.length+1≤maxLen) (r:(xs.length+1)*bytes≤140737488355328) (hS:∀w',wc.grownBy w' v.ownBlock→Sw w')
  (h:∀m w' p,Own w' B et F m (xs++[yv])→wc.grownBy w' v.ownBlock→(∀g,m.ownBlock=some g→v.ownBlock=some g∨wc.heap.size≤g)→HP P L c e Sw Ss Q true rest n ((d,m)::(d1,.slice p 1 1)::σ) w'):
  HP P L c e Sw Ss Q true ((I,0)::(i,0)::rest) n σ wc:=by
 refine HP.mut ho1 ?_;refine WL.lit (vs:=[u]) (ys:=[yv]) E H rfl (by simp[FJ,oe,J]) rfl ⟨M,trivial⟩ (by simpa using A) hF (fun z ho1 a=>?_);have f:wc.heap.size≤z.heap.size:=a.size;have l:Own z B et F v xs:=q.kept a (fun _ _ h=>by cases h) fun b r=>⟨hF b r,fun h=>by cases h⟩
 have g2:wc.grownBy z v.ownBlock:=⟨a.os,a.tape,a.output,a.size,fun k s _=>a.block k s (fun h=>by cases h)⟩;refine WL.nil (ba (ph:=true) (hS _ g2) (fun h=>by cases h) ?_);refine HP.mut N ?_;refine WL.app (ys:=[yv]) (G _) hd (K _) pW l ho1.src (MN R f) (fun b r=>MQ (hF b r) f) (by simpa using O) (by simpa using r) (fun m w' C j hnb=>?_);have g3:wc.grownBy w' v.ownBlock:=⟨j.os.trans a.os,j.tape.trans a.tape,j.output.trans a.output,MN f j.size,fun k s D=>(j.block k (MQ s f) D).trans (a.block k s (fun h=>by cases h))⟩;exact WL.nil (ba (ph:=true) (hS _ g3) (fun h=>by cases h) (h m w' _ C g3 (fun g G=>(hnb g G).imp id (fun h=>MN f h))))
end
section
variable {P:Program}{Q:Exit→Act→World→Prop}{n:Nat}{σ:Sg}{wc:World}{L:List Oper}{S:World→Prop}{ord:List (Nat×Bool)}{i d:Nat}{ty:TypeId}{pos:String}{af:Array Edge}{g:Option (Nat×Bool)}{t:TypeId}{x:Operand}{b o:Nat}
theorem ck{v:Value}(s:∀k,S k→∃e cells,Blk k b e cells∧Ag cells o=some v)(p:Ac L i=some ⟨some d,.load t x,ty,pos,af,g⟩)(q:gd L σ ⟨some d,.load t x,ty,pos,af,g⟩=some true)(hd:Nat.ble (d+1) n=true)(l:ev σ x=some (.pointer (some ⟨b,o,none⟩)))[u:IsC P t 1 false]
  (h:HL P L S Q ord n ((d,v)::σ) wc):HL P L S Q ((i,true)::ord) n σ wc:=by
 refine HL.run p q hd (fun a r w' f=>?_) h;obtain⟨e,cells,j,m⟩:=s w' f;simp[execOp,r.ev l,D7 (P:=P) (t:=t) w' j m]
end
theorem Dj{fn:Func}{a u s:Nat}{t:TypeId}(h:fn.results=#[.cell a t,.tmp u,.tmp s])(tmps:Array Value)(P:Program)(w:World){p:Addr}{v:Value}(b:tmps.getD a undef=.pointer (some p))(c:(loadVar t p).run P w=.ok v w):
  (results fn tmps).run P w=.ok (.tuple ⟨[v,tmps.getD u undef,tmps.getD s undef]⟩) w:=by
 simp only[Jt]at b⊢
 simp[results,h,b,asAddr,c]
theorem bl{P:Program}{n:Nat}{σ:Sg}{w:World}{fn:Func}{a b u s:Nat}{t e:TypeId}{cells:List Value}{k:Nat}{x y:Value}{R:Value→World→Prop}(o:fn.results=#[.cell a t,.tmp u,.tmp s])(r:fnd σ a=some (Pk b))(g:fnd σ u=some x)(m:fnd σ s=some y)[p:IsC P t k true](q:Blk w b e cells)(l:xG cells=k)(h:R (.tuple ⟨[.agg cells.toArray,x,y]⟩) w):
  EX (bodyPost P fn fun e w'=>∃v,e=.returned v∧R v w') .ret n σ w:=by
 unfold EX;intro ac c
 refine Of (Dj o _ _ _ (c.slot a _ r) (v:=.agg cells.toArray) ?_) c.defers ⟨_,by rw[c.slot u x g,c.slot s y m],h⟩;rw[xH]at l
 have d:=OF (P:=P) w ⟨b,0,none⟩ cells (fun j u g=>by rw[N6,Nb];exact q.cell g);obtain⟨i,dd,h1,h2,h3,h4⟩:=p.ok;have f:(isAgg t).run P w=.ok true w:=by
  unfold isAgg;rw[Nv,OI h3 w,←h4];cases dd<;>rfl
 rw[l]at d
 simp[loadVar,f,sizeOf,typeInfo,h1,h2,d]
def bM(W:cQ)(A:cG)(s l:List Int)(is:Bool)(err:Int):Prop:=
 (err≠0∧is=false∧s=[]∧l=[]∧(jB W=0→jp A=0→False))∨(err=0∧jB W=0∧jp A=0∧((is=false∧s=[]∧l=[]∧¬aP W A)∨(is=true∧aP W A∧PathE W A s l)))
def oC(sb mb:Nat)(lv nv:Value):Nat→Prop:=fun b=>b=sb∨b=mb∨lv.ownBlock=some b∨nv.ownBlock=some b
structure FndI(w8 w:World)(B:Nat)(e:EA)(sb mb:Nat)(lv nv fv:Value)(fr:List Int)(vs:List Raw)(ps:List dg)(nx:List (List Int)):Prop where
 em:Em w B e sb mb lv nv fv ps
 run:RunE (pK e.W e.A) (zq e.W e.A) (FZ e.W e.A) ps fr nx
 hn:Own w w8.heap.size 38 c7 nv vs
 inn:InnR w (oC sb mb lv nv) vs nx
 hf:∃fo fc,fv=.slice fo fr.length fc∧Sl w (Fz w (oC sb mb lv nv)) fo fc fr
 chg:Chg (fun b=>b=sb∨b=mb) w8 w
 lvn:∀g,lv.ownBlock=some g→w8.heap.size≤g
 dis:∀g,nv.ownBlock=some g→lv.ownBlock≠some g
 rows:∀r∈nx,r.length≤1099511627776
theorem pw(w:World)(b e:Nat){a:Option Addr}{c:Nat}{part:List Int}{p:Int}{k:Nat}(j:Blk w b 38 [.slice a part.length c])(g:Blk w e 3 [Pj p])(f:Sl w (c9 w) a c part)(d:k<part.length):
  Rt Tryz.prog 92 [Pj (k:Int),Pk b,Pk e].toArray w fun v w'=>v=.bool (decide (part.getD k 0=p))∧Ext w w':=by
 refine dI Tryz.func92 Tryz.ntmps92 rfl rfl ?_;refine QJ ?_;refine dm rfl rfl rfl rfl rfl O8 f d rfl O3 (fun q=>?_);refine Q0 ?_;refine QL.nil (fun i h=>?_);refine Pz ?_;refine be rfl rfl ⟨?_,h⟩;rw[IT d];rfl
set_option maxHeartbeats 4000000 in
theorem pA(w0:World){va:Value}{W:cQ}{A:cG}{o1 o2 o3 o4:Option Addr}{c1 c2 c3 c4:Nat}(h1:Sl w0 (c9 w0) o1 c1 W.1)(h2:Sl w0 (c9 w0) o2 c2 W.2.1)(h3:Sl w0 (c9 w0) o3 c3 W.2.2.1)(h4:Sl w0 (c9 w0) o4 c4 W.2.2.2)(ha:AutoAt w0 (c9 w0) va A)
  (sW:∀j,(W.2.1.getD j []).length≤1048576) (sA:∀j,(A.2.1.getD j []).length≤1048576) (tW:W.1.length≤1048576) (tA:A.1.length≤1048576):
  Rt Tryz.prog 37 [I2 o1 c1 o2 c2 o3 c3 o4 c4 W.1.length W.2.1.length W.2.2.1.length W.2.2.2.length,va].toArray w0 fun v w'=>(∃s l is err so sc lo lc,v=.tuple ⟨[BM so sc lo lc s l,.bool is,Pj err]⟩∧Sl w' (c9 w') so sc s∧Sl w' (c9 w') lo lc l∧bM W A s l is err)∧Ext w0 w':=by
 obtain⟨k1,d1,k2,d2,k3,d3,k4,d4,k5,d5,rfl,g1,g2,g3,g4,g5⟩:=ha.ok;refine dH Tryz.func37 Tryz.ntmps37 rfl rfl ?_;have C:=Ext.refl w0;refine Pm ?_;refine dZ rfl rfl rfl fun w1 L e1=>?_
 have C:=C.trans e1;skip;refine dZ rfl rfl rfl fun w2 P e2=>?_
 have L:=L.ext e2;have C:=C.trans e2;skip;refine WL.alloc rfl rfl (fun w3 N e3=>?_);have L:=L.ext e3;have P:=P.ext e3;have C:=C.trans e3;have y1:=e1.size;have y2:=e2.size;have y3:=N.lt;have l2:=L.lt;have l3:=P.lt;refine Pw ?_;refine WL.call rfl rfl rfl (IB w3 (h1.up C) (h2.up C) h3.len63 (h4.up C)) ?_;rintro _ w4 ⟨rfl,e4⟩
 have L:=L.ext e4;have P:=P.ext e4;have N:=N.ext e4;have C:=C.trans e4;have y4:=e4.size;have nilS:=fun(w:World)=>Sl.zero (α:=Int) w (c9 w)
 refine Qw ?_;apply CW.cond rfl<;>intro h
 ·have h:jB W≠0:=by simpa using h
  refine Pm ?_;refine WL.build (parts:=[]) rfl rfl rfl rfl ?_;refine QO ?_;refine WL.st rfl rfl rfl N rfl rfl Pd (fun Y hb5 hg5=>?_);have hE5:Ext w0 Y:=C.grown hg5 C.size O7;refine PL ?_;exact bl rfl rfl rfl rfl hb5 rfl ⟨⟨[],[],false,_,_,_,_,_,rfl,nilS _,nilS _,.inl ⟨h,rfl,rfl,rfl,fun h'=>absurd h' h⟩⟩,hE5⟩
 have hW:jB W=0:=by simpa using h
 clear h;refine P1 ?_;refine WL.call rfl rfl rfl (fJ w4 (A:=A) ⟨k1,d1,k2,d2,k3,d3,k4,d4,k5,d5,rfl,g1.up C,g2.up C,g3.up C,g4.up C,g5.up C⟩) ?_;rintro _ Y ⟨rfl,e5⟩
 have L:=L.ext e5;have P:=P.ext e5;have N:=N.ext e5;have C:=C.trans e5;have y5:=e5.size;refine Qw ?_;apply CW.cond rfl<;>intro h
 ·have h:jp A≠0:=by simpa using h
  refine Pm ?_;refine WL.build (parts:=[]) rfl rfl rfl rfl ?_;refine QO ?_;refine WL.st rfl rfl rfl N rfl rfl Pd (fun w6 hb5 hg5=>?_);have hE5:Ext w0 w6:=C.grown hg5 C.size O7;refine PL ?_;exact bl rfl rfl rfl rfl hb5 rfl ⟨⟨[],[],false,_,_,_,_,_,rfl,nilS _,nilS _,.inl ⟨h,rfl,rfl,rfl,fun _ h'=>absurd h' h⟩⟩,hE5⟩
 have hA:jp A=0:=by simpa using h
 clear h;have okA:=jr hA;obtain⟨w600,w80,wlb,wst,wnx,wfr⟩:=j8 hW;refine P1 ?_;refine ff (k:=174) rfl rfl (fun hnum=>?_);have e6:Ext Y (Y.alloc (.map #[] 0)):=Ext.alloc Y _;generalize Y.alloc (.map #[] 0)=w6 at*
 refine WL.build rfl rfl rfl rfl ?_;refine dZ rfl rfl rfl fun Z hsb e7=>?_
 have lm:=hnum.lt;have L:=(L.ext e6).ext e7;have P:=(P.ext e6).ext e7;have N:=(N.ext e6).ext e7;have hnum:=hnum.ext e7;have hE7:=(C.trans e6).trans e7;have y6:=e6.size;have y7:=hsb.lt;obtain⟨e,heW,heA,hein,hecells⟩:∃e:EA,e.W=W∧e.A=A∧EIn Y (c9 Y) e∧∀mb lv nv fv,mS e mb lv nv fv=[.slice o1 W.1.length c1,.slice o2 W.2.1.length c2,.slice o3 W.2.2.1.length c3,.slice o4 W.2.2.2.length c4,.slice k1 A.1.length d1,.slice k2 A.2.1.length d2,.slice k3 A.2.2.1.length d3,.slice k4 A.2.2.2.1.length d4,.slice k5 A.2.2.2.2.length d5,.map (some mb),lv,nv,fv]:=
  ⟨⟨o1,c1,o2,c2,o3,c3,o4,c4,k1,d1,k2,d2,k3,d3,k4,d4,k5,d5,W,A⟩,rfl,rfl,⟨h1.up C,h2.up C,h3.up C,h4.up C,g1.up C,g2.up C,g3.up C,g4.up C,g5.up C⟩,fun _ _ _ _=>rfl⟩
 subst heW heA;have hEm7:Em Z Y.heap.size e w6.heap.size Y.heap.size (.slice none 0 0) (.slice none 0 0) (.slice none 0 0) []:=
  ⟨by rw[hecells];exact hsb,hnum,Own.nil,hein.to (fun b o=>(e6.trans e7).block b o) (fun b h=>h),⟨y6,MM _⟩,by omega,(fun g i=>by cases i),List.Pairwise.nil,(fun p hp=>by cases hp),⟨w600,okA.n,wlb,okA.mu,okA.no⟩⟩
 have hG1:=h1.up C;have hG2:=h2.up C;have hK1:=g1.up C;have hK2:=g2.up C;have lb4:=N.lt;clear hecells hein hsb hnum h1 h2 h3 h4 g1 g2 g3 g4 g5 ha;have e57:=e6.trans e7;clear e6 e7;have U:w0.heap.size<Y.heap.size∧w1.heap.size<Y.heap.size∧w2.heap.size<Y.heap.size:=by omega
 generalize hBn:Y.heap.size=B at*
 generalize hsbn:w6.heap.size=sb at*
 have hB7:B≤Z.heap.size:=by omega
 have I:∀b,b<B→Z.heap[b]?=Y.heap[b]?:=fun b o=>e57.block b OS
 refine QE ?_;refine WL.call rfl rfl rfl (lB Z hEm7 hB7 (hG1.mono (w':=Z) (fun b o=>I b (by rw[←hBn];exact o)) (fun b o=>by rw[←hBn];exact o)) (hK1.mono (w':=Z) (fun b o=>I b (by rw[←hBn];exact o)) (fun b o=>by rw[←hBn];exact o)) wst okA.st tW tA) ?_;rintro fv w8 ⟨lv,d⟩
 obtain⟨fo,fc,rfl⟩:=d.own.val
 change CrI Z w8 B e sb B (.slice none 0 0) lv (.slice fo (CB (pK e.W e.A) (FZ e.W e.A) [] []).2.length fc) (.slice none 0 0) (.slice none 0 0) (CB (pK e.W e.A) (FZ e.W e.A) [] []).1 (CB (pK e.W e.A) (FZ e.W e.A) [] []).2 at d
 have z8:=d.chg.size;have J:=d.em.blk;have hlt8:=fun g i=>d.em.lo.lt g i
 have hof8:=fun g i=>d.own.lt g i
 have hnl8:=d.em.nl;have hlv8:∀g,lv.ownBlock=some g→Z.heap.size≤g:=fun g i=>(d.new g i).resolve_left (fun h=>by cases h)
 have hC8:Chg (fun b=>b=sb∨b=B) Z w8:=d.chg.wk (fun b h=>by
  rcases h with h|h|h
  ·exact .inl h
  ·exact .inr h
  ·cases h)
 refine QQ ?_;refine WL.st rfl rfl rfl J rfl rfl Pd (fun w9 X G=>?_);have z9:=G.size;have hC9:Chg (fun b=>b=sb∨b=B) Z w9:=hC8.grown G Pb;have hPW:df e.W:=jC hW;have hold9:∀{w:World},Chg (fun b=>b=sb∨b=B) Z w→∀b,b<B→w.heap[b]?=Y.heap[b]?:=fun {w} hC b o=>(hC.block b OS OS).trans (I b o)
 have hstart:=RunE.init (fit:=pK e.W e.A) (next:=zq e.W e.A) (start:=FZ e.W e.A);have hI0:FndI Z w9 B e sb B lv (.slice none 0 0) (.slice fo (CB (pK e.W e.A) (FZ e.W e.A) [] []).2.length fc) (CB (pK e.W e.A) (FZ e.W e.A) [] []).2 [] (CB (pK e.W e.A) (FZ e.W e.A) [] []).1 []:=by
  refine⟨⟨X,d.em.num.kept G Pa,d.em.lo.keptN G (fun g i e=>(hnl8 g i).1 (Nn e)),d.em.inn.to (fun b o=>G.block b OS Pa) O8,d.em.ge,d.em.ne,hnl8,d.em.nd,d.em.ins,d.em.ok⟩,hstart,Own.nil,InnR.nil,?_,hC9,hlv8,(fun g i=>by cases i),(fun r hr=>by cases hr)⟩;have ho9:=d.own.keptN G (fun g i e=>by have:=(hof8 g i).1;have:=Nn e;omega);obtain⟨fo',fc',e,hsl⟩:=ho9.slF (F':=Fz w9 (oC sb B lv (.slice none 0 0))) O6 (fun g i=>⟨(ho9.lt g i).2.1,fun h=>by
   have h1:=(hof8 g i).1;rcases h with h|h|h|h
   ·omega
   ·omega
   ·exact d.dis g i h
   ·cases h⟩)
  exact⟨fo',fc',e,hsl⟩
 generalize hfrn:(CB (pK e.W e.A) (FZ e.W e.A) [] []).2=fr at*
 generalize (CB (pK e.W e.A) (FZ e.W e.A) [] []).1=ps0 at*
 clear d J hlt8 hof8 hnl8 hlv8 hC8 X G hC9 hstart;have z79:Z.heap.size≤w9.heap.size:=by omega
 clear z8 z9 w8;refine Qu ?_;refine CW.loop (S:=Nat×Value×Value×List Raw×List dg×List (List Int)) (fun s=>[(2,Pk w0.heap.size),(3,Pk w1.heap.size),(4,Pk w2.heap.size),(9,Pk sb),(10,Pj s.1)])
  (fun s w=>FndI Z w B e sb B s.2.1 s.2.2.1 (.slice fo fr.length fc) fr s.2.2.2.1 s.2.2.2.2.1 s.2.2.2.2.2∧s.2.2.2.2.2.length=s.1) (fun s=>1228801 -s.1) (0,lv,.slice none 0 0,[],ps0,[]) OR ⟨hI0,rfl⟩ ?_
 clear hI0 hEm7;rintro⟨n,lv,nv,vs,ps,nx⟩ w ⟨t,hnl⟩
 dsimp only at t hnl⊢
 have M:=t.em.blk;have hpl:=t.em.len;have hle:=t.run.le;have hcw:=hold9 t.chg;have hb2w:Blk w _ _ _:=((hcw _ U.1).trans (I _ U.1).symm).trans L;have hb3w:Blk w _ _ _:=((hcw _ U.2.1).trans (I _ U.2.1).symm).trans P;have hb4w:Blk w _ _ _:=((hcw _ U.2.2).trans (I _ U.2.2).symm).trans N;have zw:=t.chg.size;obtain⟨lo,lc,rfl⟩:=t.em.lo.val;obtain⟨no,nc,rfl⟩:=t.hn.val;refine QH ?_;apply CW.cond rfl<;>intro h
 ·have hn':n<ps.length:=by simp at h;omega
  clear h;have hpn:ps.getD n (0,0)=ps[n]:=by rw[KR,KX hn'];rfl
  have R:=t.em.ins _ (Lb hn');obtain⟨x,hx⟩:=J9 R.1.1;obtain⟨y,hy⟩:=J9 R.2.1;have hxl:x<e.W.2.1.length:=by have:=R.1.2;omega
  have hyl:y<e.A.2.1.length:=by have:=R.2.2;omega
  have hrX:e.W.2.1.getD x []=e.W.2.1[x]:=IS hxl;have hrY:e.A.2.1.getD y []=e.A.2.1[y]:=IS hyl;have hnext:zq e.W e.A (ps.getD nx.length (0,0))=Bv e.W.2.1[x] e.A.2.1[y]:=by
   rw[hnl,hpn];unfold zq;rw[hx,hy,Kd,Kd,hrX,hrY]
  have Q:=t.run.step OS;rw[hnext]at Q
  have hsX:=sW x;rw[hrX]at hsX
  have hsY:=sA y;rw[hrY]at hsY
  have hokX:AG e.W.2.1.length e.W.2.1[x]:=(wnx _ (Lb hxl)).2;have hokY:AG e.A.2.1.length e.A.2.1[y]:=okA.nx _ (Lb hyl);have hD:Ext w (drew w):=Ext.drew w;have zd:(drew w).heap.size=w.heap.size:=rfl;have hblkd:=M.ext hD;have hb2d:=hb2w.ext hD;have hb3d:=hb3w.ext hD;obtain⟨lo',lc',el,hlsl⟩:=(t.em.lo.extN hD).oldN.sl;obtain⟨rfl,_,rfl⟩:=N5 el;obtain⟨lb,off,rfl,hFb,hc1,hc2⟩:=hlsl.pairAt n hn';rw[hx]at hc1
  rw[hy]at hc2
  have hG2d:=hG2.mono (w':=drew w) (fun b o=>(hD.block b (by have h':b<Y.heap.size:=o;omega)).trans (hcw b (by rw[←hBn];exact o))) (F':=fun b=>b<B) (fun b o=>by rw[←hBn];exact o);have hK2d:=hK2.mono (w':=drew w) (fun b o=>(hD.block b (by have h':b<Y.heap.size:=o;omega)).trans (hcw b (by rw[←hBn];exact o))) (F':=fun b=>b<B) (fun b o=>by rw[←hBn];exact o);have hKs:∀u,(fun z:World=>z=drew w) u→u.heap[sb]?=(drew w).heap[sb]?:=fun u hu=>by rw[hu]
  have hKb2:∀u,(fun z:World=>z=drew w) u→u.heap[w0.heap.size]?=(drew w).heap[w0.heap.size]?:=fun u hu=>by rw[hu]
  have hKb3:∀u,(fun z:World=>z=drew w) u→u.heap[w1.heap.size]?=(drew w).heap[w1.heap.size]?:=fun u hu=>by rw[hu]
  have hKK:∀(F:Nat→Prop) z,(fun x:World=>x=drew w) z→∀b,F b→z.heap[b]?=(drew w).heap[b]?:=fun F z hz b _=>by rw[hz]
  have hSE:∀z,(fun x:World=>x=drew w) z→Ext (drew w) z:=fun z hz=>by rw[hz];exact Ext.refl _
  refine Qo ?_;refine aH 30 35 (fun z:World=>∃l',Blk z sb 171 (mS e B l' (.slice no vs.length nc) (.slice fo fr.length fc))) (fun z:World=>z=drew w)
   (Ha 1 [(0,true),(1,true),(2,true),(3,true),(4,true)]++(Ha 2 [(5,true),(6,true),(7,true),(8,true),(9,true),(10,true),(11,true),(12,true),(13,true),(14,true),(15,true),(16,true),(17,true),(18,true),(19,true),(20,true),(21,true),(22,true),(23,true),(24,true),(25,true),(26,true),(27,true),(28,true),(29,true)]++[(30,0),(31,0),(32,0),(33,1),(34,1),(35,3)])) mixed OT ⟨_,hblkd⟩ rfl ?_
  refine HP.weak [(0,true),(1,true),(2,true),(3,true),(4,true)] rfl ?_;refine Ra ?_;refine ck (v:=.slice no vs.length nc) (fun z hz=>by obtain⟨l',o⟩:=hz;exact⟨_,_,o,rfl⟩) rfl rfl rfl rfl ?_;refine Rf ?_;refine bd ?_;refine HP.early [(5,true),(6,true),(7,true),(8,true),(9,true),(10,true),(11,true),(12,true),(13,true),(14,true),(15,true),(16,true),(17,true),(18,true),(19,true),(20,true),(21,true),(22,true),(23,true),(24,true),(25,true),(26,true),(27,true),(28,true),(29,true)] rfl ?_;refine Ra ?_;refine cb (α:=dg) rfl rfl rfl rfl rfl OS OS ?_;refine Q4 ?_;refine HL.load (α:=Int) (F:=c7) hSE rfl rfl rfl rfl (by have:=hFb;exact this) O6 hc1 rfl ?_;refine bY (k:=x) (F:=fun b=>b<B) (hKK _) rfl rfl rfl rfl rfl rfl rfl hG2d hxl O3 (fun u q hu=>?_);obtain⟨ro,rc,rfl,hrow⟩:=hu.sl;clear hu;refine Ra ?_;refine cb (α:=dg) rfl rfl rfl rfl rfl OS OS ?_;refine Q4 ?_;refine HL.load (α:=Int) (F:=c7) hSE rfl rfl rfl rfl (by have:=hFb;exact this) O6 hc2 rfl ?_;refine bY (k:=y) (F:=fun b=>b<B) (hKK _) rfl rfl rfl rfl rfl rfl rfl hK2d hyl O3 (fun u q hu=>?_);obtain⟨so,sc,rfl,hsow⟩:=hu.sl;clear hu;refine Rf ?_;refine bd ?_;refine HP.mut rfl (WL.call rfl rfl rfl (lB (drew w) (t.em.ext OS hD) OS hrow hsow hokX hokY hsX hsY) ?_);rintro rv w8 ⟨lv',d⟩
  obtain⟨uo,uc,rfl⟩:=d.own.val;rw[show pJ e=pK e.W e.A from rfl]at d⊢
  have hput:=CC (fit:=pK e.W e.A) (Bv e.W.2.1[x] e.A.2.1[y]) ps [] t.em.nd;have hplen:=hput.len;rw[Bx]at hplen
  have hmulX:=MV hsX hsY;generalize hP:CB (pK e.W e.A) (Bv e.W.2.1[x] e.A.2.1[y]) ps []=pq at*
  have J:=d.em.blk;have z8:=d.chg.size;have lsb:=M.lt;have D:=fun g i=>t.hn.lt g i
  have hllt:=fun g i=>t.em.lo.lt g i
  have hlu:=fun g i=>d.own.lt g i
  have hlc:=fun g i=>d.em.lo.lt g i
  have hnle:=d.em.nl;have hvl:=t.inn.len;refine WL.nil (ba (ph:=true) ⟨_,J⟩ (fun h=>by cases h) ?_);have hn8:Own w8 Z.heap.size 38 c7 (.slice no vs.length nc) vs:=(t.hn.extN hD).chg d.chg (fun b o hs=>by
   have hx:=D b o;rcases hs with h|h|h
   ·omega
   ·omega
   ·exact t.dis b o h)
  refine HP.app1 (α:=Raw) (F:=c7) (bytes:=24) (yv:=(⟨.slice uo pq.2.length uc⟩:Raw)) rfl rfl rfl rfl O3 rfl rfl O3 hn8 (Rd.mkRaw _ _ _ rfl) OS O6 OU OY OS
   (fun z hz=>⟨_,J.kept hz (fun e=>by have:=D sb e.symm;omega)⟩) (fun nv' w9 q9 ho9 G hnb9=>?_)
  obtain⟨no',nc',rfl⟩:=ho9.val;have X:=J.kept G (fun e=>by have:=D sb e.symm;omega);have z9:=G.size;refine HP.weak (r:=[(35,3)]) [(33,true),(34,true)] rfl ?_;refine Re ?_;refine bd ?_;refine HP.last rfl (WL.st rfl rfl rfl X rfl rfl Pd (fun w10 hblk10 T=>WL.nil (bp ?_)));have z10:=T.size;have hlv':∀g,lv'.ownBlock=some g→Z.heap.size≤g:=fun g i=>(d.new g i).elim (t.lvn g) (fun h=>by omega)
  have hdis8:∀g,(Value.slice no vs.length nc).ownBlock=some g→lv'.ownBlock≠some g:=fun g i hl=>(d.new g hl).elim (t.dis g i) (fun h=>by have:=(D g i).2.1;omega)
  have hM68:∀b,oC sb B lv' (.slice no vs.length nc) b→oC sb B (.slice (some ⟨lb,off,none⟩) ps.length lc) (.slice no vs.length nc) b∨w.heap.size≤b:=fun b h=>by
   rcases h with h|h|h|h
   ·exact .inl (.inl h)
   ·exact .inl (.inr (.inl h))
   ·exact(d.new b h).imp (fun h=>.inr (.inr (.inl h))) id
   ·exact .inl (.inr (.inr (.inr h)))
  have hC68:Chg (oC sb B (.slice (some ⟨lb,off,none⟩) ps.length lc) (.slice no vs.length nc)) w w8:=(Chg.of_ext _ hD).trans (d.chg.wk (fun b h=>by
   rcases h with h|h|h
   ·exact .inl h
   ·exact .inr (.inl h)
   ·exact .inr (.inr (.inl h))))
  have hC810:Chg (oC sb B lv' (.slice no vs.length nc)) w8 w10:=((Chg.of_grown G).wk (fun b h=>.inr (.inr (.inr h)))).grown T Pb;have hM810:∀b,oC sb B lv' (.slice no' (vs++[(⟨.slice uo pq.2.length uc⟩:Raw)]).length nc') b→oC sb B lv' (.slice no vs.length nc) b∨w8.heap.size≤b:=fun b h=>by
   rcases h with h|h|h|h
   ·exact .inl (.inl h)
   ·exact .inl (.inr (.inl h))
   ·exact .inl (.inr (.inr (.inl h)))
   ·exact(hnb9 b h).imp (fun h=>.inr (.inr (.inr h))) id
  have hrow8:Rd w8 (Fz w8 (oC sb B lv' (.slice no vs.length nc))) (.slice uo pq.2.length uc) pq.2:=
   d.own.rd.mono Pc (fun g i=>i.elim (fun h=>h.elim) (fun i=>⟨(hlu g i).2.1,fun h=>by
    have h1:=(hlu g i).1;rcases h with h|h|h|h
    ·omega
    ·omega
    ·exact d.dis g i h
    ·have:=(D g h).2.1;omega⟩))
  have hin10:=((t.inn.to hC68 hM68).push hrow8).to hC810 hM810;obtain⟨fo',fc',ef,hfs⟩:=t.hf;obtain⟨rfl,_,rfl⟩:=N5 ef;have hfs10:=(hfs.fz hC68 hM68).fz hC810 hM810;have hC10:Chg (fun b=>b=sb∨b=B) Z w10:=(t.chg.then hC68 (fun b h=>by
   rcases h with h|h|h|h
   ·exact .inl (.inl h)
   ·exact .inl (.inr h)
   ·exact .inr (t.lvn b h)
   ·exact .inr (D b h).1)).then hC810 (fun b h=>by
   rcases h with h|h|h|h
   ·exact .inl (.inl h)
   ·exact .inl (.inr h)
   ·exact .inr (hlv' b h)
   ·exact .inr (D b h).1)
  have hne10:=d.em.ne;refine PI ?_;refine EX.back (n+1,lv',.slice no' (vs++[(⟨.slice uo pq.2.length uc⟩:Raw)]).length nc',vs++[(⟨.slice uo pq.2.length uc⟩:Raw)],pq.1,nx++[pq.2]) OR
   ⟨⟨⟨hblk10,(d.em.num.kept G (fun e=>by have:=D B e.symm;omega)).kept T Pa,(d.em.lo.keptN G (fun g i e=>hdis8 g e.symm i)).keptN T (fun g i e=>(hnle g i).1 (Nn e)),
     d.em.inn.to (fun b o=>(T.block b OS Pa).trans (G.block b OS (fun e=>by have:=D b e.symm;omega))) O8,d.em.ge,hne10,hnle,d.em.nd,d.em.ins,d.em.ok⟩,Q,ho9.keptN T (fun g i e=>by
      have:=Nn e;rcases hnb9 g i with h|h
      ·have:=(D g h).1;omega
      ·omega),hin10,⟨fo,fc,rfl,hfs10⟩,hC10,hlv',fun g i hl=>?_,fun r hr=>?_⟩,by dsimp only;rw[Lk,hnl];rfl⟩ OX
  ·rcases hnb9 g i with h|h
   ·exact hdis8 g h hl
   ·have:=(hlc g hl).2.1;omega
  ·rcases LK.1 hr with hr|hr
   ·exact t.rows r hr
   ·rw[L0]at hr;subst hr;simp at hplen;omega
 have O:nx.length=ps.length:=by simp at h;omega
 clear h;have i:=t.run.okG O;have hfl:=t.run.okF O;have hN:nx.length≤1228800:=by omega
 obtain⟨no',nc',en,hns⟩:=t.inn.old t.hn;obtain⟨rfl,hvl,rfl⟩:=N5 en;obtain⟨fo',fc',ef,hfs⟩:=t.hf;obtain⟨rfl,_,rfl⟩:=N5 ef;have hfs:=hfs.old';obtain⟨lo',lc',el,hls⟩:=t.em.lo.oldN.sl;obtain⟨rfl,_,rfl⟩:=N5 el;have hem:=t.em;have Q:=t.run;have hrows:=t.rows;have R:=t.em.ins;rw[hvl]at M hem
 have hE0w:Ext w0 w:=Chg.ext hE7 t.chg (fun b o=>by rcases o with h|h<;>omega);have hE0:∀{x:World},Ext w x→Ext w0 x:=fun {x} hx=>hE0w.trans hx
 clear t;refine PX ?_;refine WL.call rfl rfl rfl (dP w hns O8 i OS) ?_;rintro pv w10 ⟨part,hpo,hPt,e10⟩
 obtain⟨po,pc,rfl,hps⟩:=hpo.oldN.sl;have hppl:=hPt.len;skip;refine WL.alloc rfl rfl (fun w11 H e11=>?_);skip;refine WL.st rfl rfl rfl H rfl rfl Pd (fun w12 H hg12=>?_);have e12:Ext w10 w12:=e11.grown hg12 e11.size O5;have x12:=e10.trans e12;clear e11 hg12;refine Qw ?_;refine WL.call rfl rfl rfl (nX w12 (hem.ext OS x12) (by have:=x12.size;omega) wfr okA.fr w80 okA.f) ?_;rintro _ w13 ⟨so,sc,rfl,hss,e13⟩
 have x13:=x12.trans e13;have hsx:Fi e.W e.A ps=Fg (FT e.W e.A) ps:=by unfold Fi Fg FT;rw[LC,LG,LG];rfl
 have hslen:∀S∈Fi e.W e.A ps,S.length=nx.length:=fun S hS=>by
  rw[hsx]at hS
  obtain⟨f,_,rfl⟩:=LU.1 hS;rw[Lq,O]
 have hsn:(Fi e.W e.A ps).length≤160:=by unfold Fi;rw[Lk,Lq,Lq];have:=okA.f;omega
 generalize hsets:Fi e.W e.A ps=sets at*
 have H:=H.ext e13;refine QE ?_;refine WL.call rfl rfl rfl (nk w13 (M.ext x13) O.symm (hns.up x13) (hps.up (e12.trans e13)) hss i hPt hN hslen) ?_;rintro _ w14 ⟨p,rfl,hp,e14⟩
 have x14:=x13.trans e14;have H:=H.ext e14;skip;refine WL.alloc rfl rfl (fun w15 hb13 e15=>?_);skip;refine WL.st rfl rfl rfl hb13 rfl rfl Pd (fun w16 hb13 hg16=>?_);have e16:Ext w14 w16:=e15.grown hg16 e15.size O5;have x16:=x14.trans e16;clear e15 hg16;have H:=H.ext e16;have V:=CE (Ss:=FT e.W e.A) Q O hPt;rw[←hsx]at V
 refine QE ?_;apply CW.cond rfl<;>intro h
 ·have h:p<0:=by simpa using h
  have hno:¬aP e.W e.A:=fun hr=>by
   obtain⟨c,h1,h2,h3⟩:=V.1 hr;rcases hp with⟨_,hp⟩|⟨hp,_⟩
   ·exact hp c h1 h2 h3
   ·omega
  refine Pm ?_;refine WL.build (parts:=[]) rfl rfl rfl rfl ?_;skip;refine WL.st rfl rfl rfl (hb4w.ext x16) rfl rfl Pd (fun E hb17 hg17=>?_);have hE17:Ext w0 E:=(hE0 x16).grown hg17 (hE0 x16).size O7;refine PL ?_;exact bl rfl rfl rfl rfl hb17 rfl ⟨⟨[],[],false,_,_,_,_,_,rfl,nilS _,nilS _,.inr ⟨rfl,hW,hA,.inl ⟨rfl,rfl,rfl,hno⟩⟩⟩,hE17⟩
 have h:¬p<0:=by simpa using h
 obtain⟨hp0,hpN,hgood⟩:0≤p∧p<nx.length∧bT nx part sets p:=hp.resolve_left (fun h'=>by omega);have hyes:aP e.W e.A:=V.2 ⟨p,hp0,hpN,hgood⟩;clear hp h V;obtain⟨u,hu,hup,_⟩:=id hgood.1;obtain⟨a,haf,hrc⟩:=Q.reach O u hu;have hD:Ext w16 (drew w16):=Ext.drew w16;have xd:=x16.trans hD;have hblkd:=M.ext xd;have hb11d:=H.ext hD;have hb13d:=hb13.ext hD;have hSE:∀z,(fun z:World=>Ext (drew w16) z) z→Ext (drew w16) z:=fun _ h=>h
 refine P8 ?_;refine aF (fun z:World=>Ext (drew w16) z) [(0,true),(1,true),(2,true),(3,true),(4,true),(5,true),(6,true),(7,false),(8,true)] mixed OT Ph ?_;refine Q9 ?_;have hpd:=((hps.up (e12.trans e13)).up (e14.trans e16)).up hD;refine cu rfl (WL.call rfl rfl rfl (oq (drew w16) (fr:=fr) (part:=part) (only:= -1) (to:=fun k=>decide (part.getD k 0=p)) hblkd (hns.up xd) (hfs.up xd) hpd i hfl hppl hN (fun z hz k hk=>FnV.mk (cs:=[_,_]) (pw z _ _ (hb11d.ext hz) (hb13d.ext hz) (hpd.up hz) OS))) ?_);rintro stv E ⟨st,hso,K,e17⟩
 have K:WyOK nx fr (fun k=>decide (part.getD k 0=p)) (fS part (-1)) st:=by
  rcases K with⟨_,K⟩|K
  ·exact absurd K (IF haf hrc (Ol hup))
  ·exact K
 refine WL.nil (a_ e17 ?_);refine Rf ?_;have x17:=xd.trans e17;have hb1117:=hb11d.ext e17;have hp17:=hpd.up e17;have hstn:=K.ne;have hstl:=K.len;obtain⟨sto,stc,rfl,hsts⟩:=hso.oldN.sl;have hlast:0≤st.getD (st.length -1) 0∧st.getD (st.length -1) 0<nx.length:=by
  rw[KR,KX OS];exact K.rg _ (Lb _)
 obtain⟨m,hm⟩:=J9 hlast.1;have hml:m<nx.length:=by omega
 have hmp:part.getD m 0=p:=by have:=K.en;rw[hm]at this;simpa using this
 have hlel:st[st.length -1]'OS=(m:Int):=by rw[←hm,KR,KX OS];rfl
 have hgd2:bT nx part sets (part.getD m 0):=by rw[hmp];exact hgood
 have hD2:Ext E (drew E):=Ext.drew E;have hblk2:=M.ext (x17.trans hD2);have hb112:=hb1117.ext hD2;have hsts2:=hsts.up hD2;have hSE:∀z,(fun z:World=>Ext (drew E) z) z→Ext (drew E) z:=fun _ h=>h
 have hKK:∀(F:Nat→Prop) (hF:∀b,F b→b<(drew E).heap.size) z,(fun z:World=>Ext (drew E) z) z→∀b,F b→z.heap[b]?=(drew E).heap[b]?:=fun F hF z hz b o=>hz.block b (hF b o)
 refine P8 ?_;refine aF (fun z:World=>Ext (drew E) z) [(0,true),(1,true),(2,true),(3,true),(4,true),(5,true),(6,true),(7,true),(8,true),(9,false),(10,true)] mixed OT Ph ?_;refine Q_ ?_;rw[show((st.length:Nat):Int) -1=((st.length -1:Nat):Int) by omega];refine bY (w:=drew E) (F:=c9 (drew E)) (k:=st.length -1) (hKK _ O8) rfl rfl rfl rfl rfl rfl rfl hsts2 OS O3 (fun u q hu=>?_);obtain rfl:=hu.int;rw[hlel];refine Ra ?_;refine cu rfl (WL.call rfl rfl rfl (nT (drew E) hblk2 (hns.up (x17.trans hD2)) (hp17.up hD2) (((hss.up e14).up e16).up ((hD.trans e17).trans hD2)) i hPt hN hslen hsn hrows hml hgd2) ?_);rintro lov w18 ⟨lo2,hlo,hRO,e18⟩
 refine WL.nil (a_ e18 ?_);refine Rf ?_;have x18:=(x17.trans hD2).trans e18;have e1718:=hD2.trans e18;have hlol:=hRO.len;have hlsl:sets.length+1≤161:=by omega
 have hlmul:=MV hlsl hN;obtain⟨loo,loc,rfl,hlos⟩:=hlo.oldN.sl;have hso18:=hso.extN e1718;have hblk18:=M.ext x18;have hls18:=hls.up x18;rw[O]at hlmul hlol
 have hokst:AG ps.length (st.take (st.length -1)):=fun y hy=>by rw[←O];exact K.rg y (LY hy)
 have hoklo:AG ps.length lo2:=fun y hy=>by rw[←O];exact hRO.rg y hy
 have hb418:=hb4w.ext x18;refine QA ?_;refine ew (α:=Int) (st.length -1) OS rfl rfl rfl rfl hso18 OS (fun v19 ho19 hob19=>?_);obtain⟨cuo,cuc,rfl,hcus⟩:=ho19.oldN.sl;skip;refine WL.call rfl rfl rfl (nY w18 hblk18 hls18 hcus hokst (by rw[Lz];omega)) ?_;rintro sv w19 ⟨hsv,e19⟩
 obtain⟨svo,svc,rfl,hsvs⟩:=hsv.slF (F':=fun b=>w18.heap.size≤b∧b<w19.heap.size) O6 (fun g i=>⟨(hsv.lt g i).1,(hsv.lt g i).2.1⟩);refine QO ?_;refine WL.call rfl rfl rfl (nY w19 (hblk18.ext e19) (hls18.up e19) (hlos.up e19) hoklo OS) ?_;rintro lv2 w20 ⟨hlv2,e20⟩
 obtain⟨lvo,lvc,rfl,hlvs⟩:=hlv2.slF (F':=fun b=>w19.heap.size≤b∧b<w20.heap.size) O6 (fun g i=>⟨(hlv2.lt g i).1,(hlv2.lt g i).2.1⟩);have x20:=(x18.trans e19).trans e20;skip;refine WL.build rfl rfl rfl rfl ?_;skip;refine WL.st rfl rfl rfl (hb418.ext (e19.trans e20)) rfl rfl Pd (fun w21 hb21 hg21=>?_);have hE21:Ext w0 w21:=(hE0 x20).grown hg21 (hE0 x20).size O7;have hRO':RoOK nx (st.getD (st.length -1) 0).toNat (Fg (FT e.W e.A) ps) lo2:=by rw[hm,Kd,←hsx];exact hRO
 have hpath:=BN Q O R hPW (AA okA) K hRO' OS OS;have q18:=x18.size;have q19:=e19.size;have q20:=e20.size;have r1:=hsvs.mono (w':=w21) (fun b o=>(hg21.block b OS Pa).trans (e20.block b o.2)) (F':=c9 w21) (fun b o=>by have:=hg21.size;exact(show b<w21.heap.size by omega));have r2:=hlvs.mono (w':=w21) (fun b o=>hg21.block b o.2 Pa) (F':=c9 w21) (fun b o=>by have:=hg21.size;exact(show b<w21.heap.size by omega));refine Pr ?_;exact bl rfl rfl rfl rfl hb21 rfl ⟨⟨_,_,true,0,_,_,_,_,rfl,r1,r2,.inr ⟨rfl,hW,hA,.inr ⟨rfl,hyes,hpath⟩⟩⟩,hE21⟩

section
variable {fr:List (List Int)}{q:Nat→dg}
end







instance sw:IsZC Tryz.prog 104 [.slice none 0 0,.slice none 0 0,.slice none 0 0,.slice none 0 0,.slice none 0 0]:=IsZC.of (z:=.agg #[.slice none 0 0,.slice none 0 0,.slice none 0 0,.slice none 0 0,.slice none 0 0]) OT rfl


def Bp(f:Nat→Bool):Nat→Nat
 |0=>0
 |c+1=>if f c=true then Bp f c|||(1 <<< c)else Bp f c
theorem iD(c j:Nat):(1 <<< c).testBit j=decide (j=c):=by
 rw[M2,Nat.testBit_two_pow];exact Oi.2 ⟨fun h=>h.symm,fun h=>h.symm⟩
theorem Bq{f:Nat→Bool}:∀{c j:Nat},(Bp f c).testBit j=(decide (j<c)&&f j)
 |0,j=>by simp[Bp]
 |c+1,j=>by
  rw[Bp];by_cases hf:f c=true
  ·rw[Ov hf,Nat.testBit_or,Bq,iD]
   by_cases e:j=c
   ·subst e;simp[hf]
   ·have:decide (j<c+1)=decide (j<c):=Oi.2 OS
    rw[this,Oj e,JY]
  ·rw[Ou hf,Bq]
   by_cases e:j=c
   ·subst e;simp[hf]
   ·have:decide (j<c+1)=decide (j<c):=Oi.2 OS
    rw[this]
theorem Br{f:Nat→Bool}:∀{c:Nat},Bp f c<2 ^ c
 |0=>by simp[Bp]
 |c+1=>by
  have h:=Br (f:=f) (c:=c);rw[Bp];have h2:2 ^ c≤2 ^ (c+1):=M4 OS OS;split
  ·exact M3 (MQ h h2) (by rw[M2];exact M5 OS OS)
  ·omega
abbrev cY:=List Int×List Ltl
def qI(k n:Int)(t:Ltl)(m:cY):cY:=if k=3 then(if n∈m.1 then m.1 else m.1++[n],m.2)else if k=7∨k=8∨k=9 then(m.1,if m.2.any (EB t)=true then m.2 else m.2++[t])else m
mutual
def qs:Ltl→cY→cY
 |.mk k n kids,m=>qB kids (qI k n (.mk k n kids) m)
def qB:List Ltl→cY→cY
 |[],m=>m
 |x::r,m=>qB r (qs x m)
end
mutual
def Cov(m:cY):Ltl→Prop
 |.mk k n kids=>(k=3→n∈m.1)∧((k=7∨k=8∨k=9)→.mk k n kids∈m.2)∧Covs m kids
def Covs(m:cY):List Ltl→Prop
 |[]=>True
 |x::r=>Cov m x∧Covs m r
end
def Les(m c:cY):Prop:=(∀x∈m.1,x∈c.1)∧∀x∈m.2,x∈c.2
theorem Les.refl(m:cY):Les m m:=⟨fun _ h=>h,fun _ h=>h⟩
theorem Les.trans{a b c:cY}(h:Les a b)(k:Les b c):Les a c:=⟨fun x d=>k.1 x (h.1 x d),fun x d=>k.2 x (h.2 x d)⟩
mutual
theorem Cov.les{m d:cY}(h:Les m d):∀t,Cov m t→Cov d t
 |.mk k n kids,c=>by
  simp only[Cov]at c⊢
  exact⟨fun e=>h.1 _ (c.1 e),fun e=>h.2 _ (c.2.1 e),Covs.les h kids c.2.2⟩
theorem Covs.les{m d:cY}(h:Les m d):∀l,Covs m l→Covs d l
 |[],_=>trivial
 |x::r,c=>by
  simp only[Covs]at c⊢
  exact⟨Cov.les h x c.1,Covs.les h r c.2⟩
end
theorem qK(k n:Int)(t:Ltl)(m:cY):Les m (qI k n t m):=by
 unfold qI;split
 ·refine⟨fun x c=>?_,fun _ h=>h⟩
  dsimp only;split
  ·exact c
  ·exact LL _ c
 ·split
  ·refine⟨fun _ h=>h,fun x c=>?_⟩
   dsimp only;split
   ·exact c
   ·exact LL _ c
  ·exact Les.refl m
mutual
theorem qy:∀(t:Ltl) (m:cY),Les m (qs t m)
 |.mk k n kids,m=>by
  simp only[qs];exact(qK k n _ m).trans (qF kids _)
theorem qF:∀(l:List Ltl) (m:cY),Les m (qB l m)
 |[],m=>Les.refl m
 |x::r,m=>by
  simp only[qB];exact(qy x m).trans (qF r _)
end
theorem qJ(k n:Int)(kids:List Ltl)(m:cY):(k=3→n∈(qI k n (.mk k n kids) m).1)∧((k=7∨k=8∨k=9)→.mk k n kids∈(qI k n (.mk k n kids) m).2):=by
 unfold qI;refine⟨fun h=>?_,fun h=>?_⟩
 ·rw[Ov h]
  dsimp only;split
  ·assumption
  ·exact LM _ OW
 ·rw[Ou OS,Ov h]
  dsimp only;split
  ·rename_i c
   rw[Ki]at c
   obtain⟨x,d,c⟩:=c;rw[(EC _ _).1 c];exact d
  ·exact LM _ OW
mutual
theorem qu:∀(t:Ltl) (m:cY),Cov (qs t m) t
 |.mk k n kids,m=>by
  simp only[Cov,qs];have h:=qJ k n kids m;have c:=qF kids (qI k n (.mk k n kids) m);exact⟨fun e=>c.1 _ (h.1 e),fun e=>c.2 _ (h.2 e),qD kids _⟩
theorem qD:∀(l:List Ltl) (m:cY),Covs (qB l m) l
 |[],m=>trivial
 |x::r,m=>by
  simp only[Covs,qB];exact⟨Cov.les (qF r _) x (qu x m),qD r _⟩
end
structure OkM(m:cY):Prop where
 na:m.1.Nodup
 ra:∀x∈m.1,0≤x∧x≤63
 wp:∀g∈m.2,IK g∧(g.k=7∨g.k=8∨g.k=9)∧r9 g 10=false∧r9 g 11=false
theorem OkM.nil:OkM ([],[]):=⟨List.Pairwise.nil,(fun x c=>by cases c),(fun x c=>by cases c)⟩
theorem qL{k n:Int}{kids:List Ltl}{m:cY}(c:OkM m)(h:IK (.mk k n kids))(o:r9 (.mk k n kids) 10=false)(h1:r9 (.mk k n kids) 11=false):OkM (qI k n (.mk k n kids) m):=by
 unfold qI;simp only[IK]at h
 split
 ·refine⟨?_,fun x d=>?_,c.wp⟩
  ·dsimp only
   split
   ·exact c.na
   ·rename_i hn
    rw[L3];exact⟨c.na,Ma _ _,fun a l b i e=>hn (by rw[L0]at i;rw[←i,←e];exact l)⟩
  ·dsimp only at d
   split at d
   ·exact c.ra x d
   ·rcases LK.1 d with d|d
    ·exact c.ra x d
    ·rw[L0]at d;subst d;exact⟨h.2.1,h.2.2.1⟩
 ·split
  ·rename_i j
   refine⟨c.na,c.ra,fun g f=>?_⟩;dsimp only at f
   split at f
   ·exact c.wp g f
   ·rcases LK.1 f with f|f
    ·exact c.wp g f
    ·rw[L0]at f;subst f
     exact⟨by simp only[IK];exact h,j,o,h1⟩
  ·exact c
mutual
theorem qA:∀(t:Ltl) (m:cY),OkM m→IK t→r9 t 10=false→r9 t 11=false→OkM (qs t m)
 |.mk k n kids,m,e,c,d,h1=>by
  have h:=qL e c d h1;simp only[qs];simp only[IK]at c
  simp only[r9,JW]at d h1
  exact qG kids _ h c.2.2.2.2 d.2 h1.2
theorem qG:∀(l:List Ltl) (m:cY),OkM m→IL l→r_ l 10=false→r_ l 11=false→OkM (qB l m)
 |[],m,e,_,_,_=>e
 |x::r,m,e,c,d,h1=>by
  simp only[qB];simp only[IL]at c
  simp only[r_,JW]at d h1
  exact qG r _ (qA x m e c.1 d.1 h1.1) c.2 d.2 h1.2
end
def aL(m c:cY):Prop:=∀g∈m.2,Cov c g
mutual
theorem qt:∀(t:Ltl) (m d:cY),Les (qs t m) d→aL m d→aL (qs t m) d
 |.mk k n kids,m,d,f,e=>by
  have h1:=Cov.les f _ (qu (.mk k n kids) m);simp only[qs]at f⊢
  refine qC kids _ d f fun g c=>?_
  unfold qI at c
  split at c
  ·exact e g c
  ·split at c
   ·dsimp only at c
    split at c
    ·exact e g c
    ·rcases LK.1 c with c|c
     ·exact e g c
     ·rw[L0]at c;subst c;exact h1
   ·exact e g c
theorem qC:∀(l:List Ltl) (m d:cY),Les (qB l m) d→aL m d→aL (qB l m) d
 |[],m,d,_,e=>e
 |x::r,m,d,f,e=>by
  simp only[qB]at f⊢
  exact qC r _ d f (qt x m d ((qF r _).trans f) e)
end
def BB(m:cY)(t:Ltl):Int:=idxOf (EB t) m.2
def gJ(m:cY)(n:Int):Int:=idxOf (fun y=>n==y) m.1
def kj(m:cY)(s:Nat)(t:Ltl):Bool:=if t.k=3 then s.testBit (gJ m t.n).toNat else s.testBit (m.1.length+(BB m t).toNat)
mutual
def sa(m:cY)(s:Nat):Ltl→Bool
 |.mk k n kids=>
  if k=1 then true else if k=2 then false
  else if k=4 then !((sd m s kids).getD 0 false)
  else if k=5 then(sd m s kids).getD 0 false&&(sd m s kids).getD 1 false
  else if k=6 then(sd m s kids).getD 0 false||(sd m s kids).getD 1 false
  else if k=8 then(sd m s kids).getD 1 false||((sd m s kids).getD 0 false&&kj m s (.mk k n kids))
  else if k=9 then(sd m s kids).getD 1 false&&((sd m s kids).getD 0 false||kj m s (.mk k n kids))
  else kj m s (.mk k n kids)
def sd(m:cY)(s:Nat):List Ltl→List Bool
 |[]=>[]
 |x::r=>sa m s x::sd m s r
end
def gr(g:Ltl):Ltl:=if g.k=7 then g.kids.getD 0 (.mk 0 0 [])else g
def zC:Ltl:=.mk 0 0 []
def ww(m:cY)(s:Nat):Nat:=Bp (fun i=>sa m s (gr (m.2.getD i zC))) m.2.length
def iA(at':List Int)(s:Nat)(is:Bool):Nat→Nat
 |0=>0
 |c+1=>if s.testBit c=is then iA at' s is c|||(1 <<< (at'.getD c 0).toNat)else iA at' s is c
def iE(m:cY)(s:Nat)(is:Bool):Nat:=iA m.1 s is m.1.length
def oD(m:cY)(g:Ltl)(s:Nat):Bool:=if g.k=8 then !(sa m s g)||sa m s (g.kids.getD 1 zC)else sa m s g||!(sa m s (g.kids.getD 1 zC))
theorem bitP_bit{at':List Int}{s:Nat}{is:Bool}{a:Nat}:∀{c:Nat},(iA at' s is c).testBit a=true↔∃i,i<c∧s.testBit i=is∧(at'.getD i 0).toNat=a
 |0=>by simp[iA]
 |c+1=>by
  rw[iA];by_cases h:s.testBit c=is
  ·rw[Ov h,Nat.testBit_or,JX,bitP_bit,iD,Om]
   constructor
   ·rintro(⟨i,h1,h2⟩|h1)
    ·exact⟨i,by omega,h2⟩
    ·exact⟨c,by omega,h,h1.symm⟩
   ·rintro⟨i,h1,h2,h3⟩
    by_cases e:i=c
    ·subst e;exact .inr h3.symm
    ·exact .inl ⟨i,by omega,h2,h3⟩
  ·rw[Ou h,bitP_bit]
   constructor
   ·rintro⟨i,h1,h2⟩;exact⟨i,by omega,h2⟩
   ·rintro⟨i,h1,h2,h3⟩
    by_cases e:i=c
    ·subst e;exact absurd h2 h
    ·exact⟨i,by omega,h2,h3⟩
theorem iB{at':List Int}{s:Nat}{is:Bool}(h:∀x∈at',x≤63):∀{c:Nat},c≤at'.length→iA at' s is c<2 ^ 64
 |0,_=>by simp[iA]
 |c+1,d=>by
  have h1:=iB (s:=s) (is:=is) h (c:=c) OS;rw[iA];split
  ·refine M3 h1 ?_
   rw[M2];have:=h (at'.getD c 0) (by rw[KR,KX OS];exact Lb _);exact M5 OS OS
  ·exact h1
theorem vn{α:Type}{p:α→Bool}{l:List α}{x:α}(d:x∈l)(c:p x=true)(f:∀y,p y=true→y=x):∃i,∃h:i<l.length,idxOf p l=(i:Int)∧l[i]=x:=by
 unfold idxOf;cases e:l.findIdx? p with
 |none=>
  rw[KL]at e
  rw[e x d]at c;cases c
 |some i=>
  obtain⟨h1,h2,_⟩:=KM.1 e;exact⟨i,h1,rfl,f _ h2⟩
theorem BD{m:cY}{t:Ltl}(h:t∈m.2):∃i,∃h:i<m.2.length,BB m t=(i:Int)∧m.2[i]=t:=
 vn h (ED t) (fun y c=>((EC _ _).1 c).symm)
theorem gK{m:cY}{n:Int}(h:n∈m.1):∃i,∃h:i<m.1.length,gJ m n=(i:Int)∧m.1[i]=n:=
 vn h OW (fun y c=>by simpa using Eq.symm (by simpa using c))
section
variable {m:cY}{s:Nat}{n:Int}{a b:Ltl}
theorem ho1:sa m s (.mk 1 n [])=true:=by simp[sa]
theorem ho2:sa m s (.mk 2 n [])=false:=by simp[sa]
theorem ho3:sa m s (.mk 3 n [])=s.testBit (gJ m n).toNat:=by simp[sa,kj,Ltl.k,Ltl.n]
theorem ho4:sa m s (.mk 4 n [a])=!sa m s a:=by simp[sa,sd]
theorem ho5:sa m s (.mk 5 n [a,b])=(sa m s a&&sa m s b):=by simp[sa,sd]
theorem ho6:sa m s (.mk 6 n [a,b])=(sa m s a||sa m s b):=by simp[sa,sd]
theorem ho7:sa m s (.mk 7 n [a])=s.testBit (m.1.length+(BB m (.mk 7 n [a])).toNat):=by simp[sa,kj,Ltl.k]
theorem ho8:sa m s (.mk 8 n [a,b])=(sa m s b||(sa m s a&&s.testBit (m.1.length+(BB m (.mk 8 n [a,b])).toNat))):=by simp[sa,sd,kj,Ltl.k]
theorem ho9:sa m s (.mk 9 n [a,b])=(sa m s b&&(sa m s a||s.testBit (m.1.length+(BB m (.mk 9 n [a,b])).toNat))):=by simp[sa,sd,kj,Ltl.k]
end
theorem Ft{x a:Nat}:x >>> a&&&1=1↔x.testBit a=true:=by
 rw[Nat.testBit_eq_decide_div_mod_eq,Om,Nat.and_one_is_mod,M6]
structure OkF(m:cY)(t:Ltl):Prop where
 wf:IK t
 h10:r9 t 10=false
 h11:r9 t 11=false
 cov:Cov m t
theorem OkF.un{m:cY}{k n:Int}{a:Ltl}(h:OkF m (.mk k n [a])):OkF m a:=by
 obtain⟨h1,h2,h3,h4⟩:=h;simp only[IK,IL]at h1
 simp only[r9,r_,JW]at h2 h3
 simp only[Cov,Covs]at h4
 exact⟨h1.2.2.2.2.1,h2.2.1,h3.2.1,h4.2.2.1⟩
theorem OkF.b1{m:cY}{k n:Int}{a b:Ltl}(h:OkF m (.mk k n [a,b])):OkF m a:=by
 obtain⟨h1,h2,h3,h4⟩:=h;simp only[IK,IL]at h1
 simp only[r9,r_,JW]at h2 h3
 simp only[Cov,Covs]at h4
 exact⟨h1.2.2.2.2.1,h2.2.1,h3.2.1,h4.2.2.1⟩
theorem OkF.b2{m:cY}{k n:Int}{a b:Ltl}(h:OkF m (.mk k n [a,b])):OkF m b:=by
 obtain⟨h1,h2,h3,h4⟩:=h;simp only[IK,IL]at h1
 simp only[r9,r_,JW]at h2 h3
 simp only[Cov,Covs]at h4
 exact⟨h1.2.2.2.2.2.1,h2.2.2.1,h3.2.2.1,h4.2.2.2.1⟩
structure OkT(m:cY):Prop where
 ok:OkM m
 clo:aL m m
theorem BI{g:Ltl}(c:IK g)(d:g.k=7∨g.k=8∨g.k=9):(∃a,g=.mk 7 0 [a])∨∃k a b,(k=8∨k=9)∧g=.mk k 0 [a,b]:=by
 obtain⟨k,n,kids⟩:=g;simp only[Ltl.k]at d
 simp only[IK]at c
 obtain⟨h1,_,_,h4,_⟩:=c;have hn:n=0:=h4 OS;subst hn;rcases d with rfl|rfl|rfl
 ·have:kids.length=1:=by simp[wU]at h1;omega
  obtain⟨a,rfl⟩:=Ln.1 this;exact .inl ⟨a,rfl⟩
 ·have:kids.length=2:=by simp[wU]at h1;omega
  match kids,this with
  |[a,b],_=>exact .inr ⟨8,a,b,.inl rfl,rfl⟩
 ·have:kids.length=2:=by simp[wU]at h1;omega
  match kids,this with
  |[a,b],_=>exact .inr ⟨9,a,b,.inr rfl,rfl⟩
theorem OkT.part{m:cY}(h:OkT m){g:Ltl}(a:g∈m.2):OkF m g:=⟨(h.ok.wp g a).1,(h.ok.wp g a).2.2.1,(h.ok.wp g a).2.2.2,h.clo g a⟩
theorem OkT.arg{m:cY}(h:OkT m){g:Ltl}(c:g∈m.2):OkF m (gr g):=by
 have h1:=h.part c;rcases BI h1.wf (h.ok.wp g c).2.1 with⟨a,rfl⟩|⟨k,a,b,d,rfl⟩
 ·exact h1.un
 ·unfold gr
  rw[Ou (by simp only[Ltl.k];omega)];exact h1
abbrev Ai(m:cY):Nat:=m.1.length+m.2.length
def GE(m:cY)(f:Ltl):cG:=
 (((List.range (2 ^ Ai m)).filter fun s=>sa m s f).map fun s:Nat=>(s:Int),
  (List.range (2 ^ Ai m)).map fun s=>((List.range (2 ^ Ai m)).filter fun t=>decide (ww m t=s >>> m.1.length)).map fun t:Nat=>(t:Int),
  (List.range (2 ^ Ai m)).map fun s=>iE m s true,(List.range (2 ^ Ai m)).map fun s=>iE m s false,
  (m.2.filter fun g=>decide (g.k≠7)).map fun g=>((List.range (2 ^ Ai m)).filter fun s=>oD m g s).map fun s:Nat=>(s:Int))
section
variable {m:cY}{L:Nat→Nat}
theorem ru{l:List Ltl}{j:Nat}(h:j<l.length):l.getD j zC=l[j]:=by rw[KR,KX h];rfl
theorem wx{s j:Nat}:(ww m s).testBit j=(decide (j<m.2.length)&&sa m s (gr (m.2.getD j zC))):=Bq
theorem BF{s t:Nat}(h:ww m t=s >>> m.1.length){g:Ltl}(c:g∈m.2):s.testBit (m.1.length+(BB m g).toNat)=sa m t (gr g):=by
 obtain⟨j,b,e,a⟩:=BD c;rw[e,Kd,←Na,←h,wx,Ol b,J0,ru b,a]
theorem G8{H A B:Nat→Prop}(c:∀i,H i↔B i∨(A i∧H (i+1)))(hf:∀i,∃j,i≤j∧(¬H j∨B j))(i:Nat):H i↔Til A B i:=by
 constructor
 ·intro h
  refine J3 fun hn=>?_
  have:∀d,H (i+d)∧¬Til A B (i+d):=fun d=>by
   induction d with
   |zero=>exact⟨h,hn⟩
   |succ d b=>
    obtain⟨h1,h2⟩:=b;have h3:¬B (i+d):=fun e=>h2 (Til.step.2 (.inl e))
    have h4:=((c _).1 h1).resolve_left h3;exact⟨h4.2,fun k=>h2 (Til.step.2 (.inr ⟨h4.1,k⟩))⟩
  obtain⟨j,l,a⟩:=hf i;have h1:=this (j -i);rw[show i+(j -i)=j by omega]at h1
  rcases a with a|a
  ·exact a h1.1
  ·exact h1.2 (Til.step.2 (.inl a))
 ·rintro⟨j,f,e,g⟩
  have:∀d,d≤j -i→H (j -d):=fun d=>by
   induction d with
   |zero=>intro _;exact(c _).2 (.inl e)
   |succ d b=>
    intro hd
    refine(c _).2 (.inr ⟨g _ OS OS,?_⟩);rw[show j -(d+1)+1=j -d by omega];exact b OS
  have h1:=this (j -i) Pf;rwa[show j -(j -i)=i by omega]at h1
theorem El(w:OkT m){r:Nat→Nat}(c:∀i,ww m (r (i+1))=r i >>> m.1.length)(p:∀i,∀n∈m.1,(r i).testBit (gJ m n).toNat=(L i).testBit n.toNat)
  (d:∀g∈m.2,g.k≠7→∀i,∃j,i≤j∧oD m g (r j)=true):∀t,OkF m t→∀i,sa m (r i) t=true↔EQ L t i:=by
 intro t s
 refine IP (M:=fun t=>OkF m t→∀i,sa m (r i) t=true↔EQ L t i) ?_ ?_ ?_ ?_ ?_ t s.wf s
 ·intro _ i;rw[ho1,ER];simp
 ·intro _ i;rw[ho2,EU];simp
 ·intro n _ _ hf i
  have e:=hf.cov;simp only[Cov]at e
  rw[ho3,EV,Ft,p i n (e.1 trivial)]
 ·intro k a q _ u hf i
  have l:=u hf.un;have e:=hf.cov;simp only[Cov]at e
  rcases q with rfl|rfl|rfl|rfl
  ·rw[ho4,EW,←l i];simp
  ·have f:=e.2.1 (.inl rfl)
   rw[ho7,E0,←l (i+1),BF (c i) f];exact J8
  ·have:=hf.h10;simp[r9]at this
  ·have:=hf.h11;simp[r9]at this
 ·intro k a b q _ _ iha ihb hf i
  have l:=iha hf.b1;have o:=ihb hf.b2;have e:=hf.cov;simp only[Cov]at e
  rcases q with rfl|rfl|rfl|rfl
  ·rw[ho5,EY,←l i,←o i];simp
  ·rw[ho6,EZ,←l i,←o i];simp
  ·have f:=e.2.1 (.inr (.inl rfl))
   rw[sem8];refine G8 (H:=fun i=>sa m (r i) (.mk 8 0 [a,b])=true) (fun i=>?_) (fun i=>?_) i
   ·rw[ho8,BF (c i) f,JX,JM,l i,o i]
    exact J8
   ·obtain⟨j,h1,h2⟩:=d _ f (by simp[Ltl.k]) i
    refine⟨j,h1,?_⟩;unfold oD at h2
    rw[Ov (by rfl),JX]at h2
    rcases h2 with h2|h2
    ·exact .inl (by simpa using h2)
    ·exact .inr ((o j).1 h2)
  ·have f:=e.2.1 (.inr (.inr rfl))
   rw[E1];have v:=G8 (H:=fun i=>¬sa m (r i) (.mk 9 0 [a,b])=true) (A:=fun j=>¬EQ L a j) (B:=fun j=>¬EQ L b j) (fun i=>?_) (fun i=>?_) i
   ·rw[←v];exact J7.symm
   ·rw[ho9,BF (c i) f,JM,JX,l i,o i,J5,Oz]
    exact J8
   ·obtain⟨j,h1,h2⟩:=d _ f (by simp[Ltl.k]) i
    refine⟨j,h1,?_⟩;unfold oD at h2
    rw[Ou (by simp[Ltl.k]),JX]at h2
    rcases h2 with h2|h2
    ·exact .inl (fun h=>h h2)
    ·refine .inr fun h=>?_
     have h2:(!sa m (r j) b)=true:=h2;have h3:sa m (r j) b=false:=by simpa using h2
     rw[(o j).2 h]at h3
     cases h3
theorem pL(i:OkM m){s x:Nat}:(x&&&iE m s true=iE m s true∧x&&&iE m s false=0)↔∀j,j<m.1.length→x.testBit (m.1.getD j 0).toNat=s.testBit j:=by
 have g:∀y,x&&&y=y↔∀a,y.testBit a=true→x.testBit a=true:=fun y=>by
  constructor
  ·intro h a b
   have:=Oh (fun z=>z.testBit a) h;simp only[M_,b,Bool.and_true]at this
   exact this
  ·intro h
   refine MF fun a=>?_
   rw[M_];cases e:y.testBit a
   ·simp
   ·rw[h a e];rfl
 have f:∀y,x&&&y=0↔∀a,y.testBit a=true→x.testBit a=false:=fun y=>by
  constructor
  ·intro h a b
   have:=Oh (fun z=>z.testBit a) h;simp only[M_,b,Bool.and_true,Nd]at this
   exact this
  ·intro h
   refine MF fun a=>?_
   rw[M_,Nd];cases e:y.testBit a
   ·simp
   ·rw[h a e];rfl
 rw[g,f];unfold iE;constructor
 ·rintro⟨h1,h2⟩ j d
  cases c:s.testBit j
  ·exact h2 _ (bitP_bit.2 ⟨j,d,c,rfl⟩)
  ·exact h1 _ (bitP_bit.2 ⟨j,d,c,rfl⟩)
 ·intro h
  refine⟨fun a b=>?_,fun a b=>?_⟩
  ·obtain⟨j,d,c,rfl⟩:=bitP_bit.1 b
   rw[h j d,c]
  ·obtain⟨j,d,c,rfl⟩:=bitP_bit.1 b
   rw[h j d,c]
theorem gL{n:Int}(h:n∈m.1):(gJ m n).toNat<m.1.length∧m.1.getD (gJ m n).toNat 0=n:=by
 obtain⟨j,a,e,hn⟩:=gK h;rw[e,Kd];exact⟨a,by rw[KR,KX a];exact hn⟩
open Classical in
noncomputable def FA(L:Nat→Nat)(m:cY)(i:Nat):Nat:=
 Bp (fun j=>if j<m.1.length then(L i).testBit (m.1.getD j 0).toNat else decide (EQ L (gr (m.2.getD (j -m.1.length) zC)) (i+1))) (Ai m)
theorem FB{i j:Nat}(h:j<m.1.length):(FA L m i).testBit j=(L i).testBit (m.1.getD j 0).toNat:=by
 unfold FA;rw[Bq,Ol (show j<Ai m by unfold Ai;omega),Ov h,J0]
theorem FC{i j:Nat}(h:j<m.2.length):(FA L m i).testBit (m.1.length+j)=true↔EQ L (gr (m.2.getD j zC)) (i+1):=by
 unfold FA;rw[Bq,Ol (show m.1.length+j<Ai m by unfold Ai;omega),Ou OS,J0,My];exact @On _ (Classical.propDecidable _)
theorem FD{i:Nat}{g:Ltl}(c:g∈m.2):(FA L m i).testBit (m.1.length+(BB m g).toNat)=true↔EQ L (gr g) (i+1):=by
 obtain⟨j,b,e,a⟩:=BD c;rw[e,Kd,FC b,ru b,a]
theorem FF(o:OkT m):∀t,OkF m t→∀i,sa m (FA L m i) t=true↔EQ L t i:=by
 intro t h
 refine IP (M:=fun t=>OkF m t→∀i,sa m (FA L m i) t=true↔EQ L t i) ?_ ?_ ?_ ?_ ?_ t h.wf h
 ·intro _ i;rw[ho1,ER];simp
 ·intro _ i;rw[ho2,EU];simp
 ·intro n _ _ hf i
  have c:=hf.cov;simp only[Cov]at c
  obtain⟨h1,h2⟩:=gL (c.1 trivial);rw[ho3,EV,Ft,FB h1,h2]
 ·intro k a g _ l hf i
  have d:=l hf.un;have c:=hf.cov;simp only[Cov]at c
  rcases g with rfl|rfl|rfl|rfl
  ·rw[ho4,EW,←d i];simp
  ·have e:=c.2.1 (.inl rfl)
   rw[ho7,E0,FD e];exact J8
  ·have:=hf.h10;simp[r9]at this
  ·have:=hf.h11;simp[r9]at this
 ·intro k a b g _ _ iha ihb hf i
  have d:=iha hf.b1;have f:=ihb hf.b2;have c:=hf.cov;simp only[Cov]at c
  rcases g with rfl|rfl|rfl|rfl
  ·rw[ho5,EY,←d i,←f i];simp
  ·rw[ho6,EZ,←d i,←f i];simp
  ·have e:=c.2.1 (.inr (.inl rfl))
   rw[ho8,JX,JM,FD e,d i,f i,sem8,Til.step];have:EQ L (gr (.mk 8 0 [a,b])) (i+1)↔Til (EQ L a) (EQ L b) (i+1):=sem8;rw[this]
  ·have e:=c.2.1 (.inr (.inr rfl))
   rw[ho9,JM,JX,FD e,d i,f i,E1,Til.step];have:EQ L (gr (.mk 9 0 [a,b])) (i+1)↔¬Til (fun j=>¬EQ L a j) (fun j=>¬EQ L b j) (i+1):=E1;rw[this,Oz,J5,J7,J7]
theorem FG(b:OkT m)(i:Nat):ww m (FA L m (i+1))=FA L m i >>> m.1.length:=by
 refine MF fun j=>?_
 rw[wx,Na];by_cases a:j<m.2.length
 ·rw[Ol a,J0,JO,FC a]
  exact FF b _ (b.arg (by rw[ru a];exact Lb a)) (i+1)
 ·rw[Oj a,JP]
  unfold FA;rw[Bq,Oj (show¬m.1.length+j<Ai m by unfold Ai;omega),JP]
theorem FE(d:OkT m){g:Ltl}(l:g∈m.2)(p:g.k≠7)(i:Nat):∃j,i≤j∧oD m g (FA L m j)=true:=by
 have hf:=d.part l;rcases BI hf.wf (d.ok.wp g l).2.1 with⟨a,rfl⟩|⟨k,a,b,f,rfl⟩
 ·exact absurd rfl p
 have n:=fun j=>FF (L:=L) d b hf.b2 j
 have c:=fun j=>FF (L:=L) d _ hf j
 rcases f with rfl|rfl
 ·by_cases h:sa m (FA L m i) (.mk 8 0 [a,b])=true
  ·obtain⟨j,h1,h2,_⟩:=sem8.1 ((c i).1 h)
   refine⟨j,h1,?_⟩;unfold oD;rw[Ov (by rfl),JX];exact .inr ((n j).2 h2)
  ·refine⟨i,MM _,?_⟩
   unfold oD;rw[Ov (by rfl),JX];exact .inl (by simpa using h)
 ·by_cases h:sa m (FA L m i) (.mk 9 0 [a,b])=true
  ·refine⟨i,MM _,?_⟩
   unfold oD;rw[Ou (by simp[Ltl.k]),JX];exact .inl h
  ·have o:¬EQ L (.mk 9 0 [a,b]) i:=fun h2=>h ((c i).2 h2)
   rw[E1,J7]at o
   obtain⟨j,h1,h2,_⟩:=o;refine⟨j,h1,?_⟩;unfold oD;rw[Ou (by simp[Ltl.k]),JX];refine .inr ?_;show(!sa m (FA L m j) b)=true;cases e:sa m (FA L m j) b
   ·rfl
   ·exact absurd ((n j).1 e) h2
theorem rangeN_mem{N:Nat}{p:Nat→Bool}{x:Nat}:(x:Int)∈((List.range N).filter p).map (fun s:Nat=>(s:Int))↔x<N∧p x=true:=by
 rw[LU];constructor
 ·rintro⟨y,a,e⟩
  rw[LR,LZ]at a
  have:y=x:=by omega
  subst this;exact a
 ·intro h;exact⟨x,LR.2 ⟨LZ.2 h.1,h.2⟩,rfl⟩
theorem yF{N:Nat}{f:Nat→Nat}{x:Nat}(h:x<N):((List.range N).map f).getD x 0=f x:=by
 rw[KR,K0,K1 h];rfl
theorem yB{N:Nat}{f:Nat→List Int}{x:Nat}(h:x<N):((List.range N).map f).getD x []=f x:=by
 rw[KR,K0,K1 h];rfl
theorem GQ{f:Ltl}{x:Nat}(h:x<2 ^ Ai m):(GE m f).2.1.getD x []=((List.range (2 ^ Ai m)).filter fun t=>decide (ww m t=x >>> m.1.length)).map fun t:Nat=>(t:Int):=yB (f:=fun s=>((List.range (2 ^ Ai m)).filter fun t=>decide (ww m t=s >>> m.1.length)).map fun t:Nat=>(t:Int)) h
theorem GO{f:Ltl}{x:Nat}(h:x<2 ^ Ai m):(GE m f).2.2.1.getD x 0=iE m x true:=yF (f:=fun s=>iE m s true) h
theorem GP{f:Ltl}{x:Nat}(h:x<2 ^ Ai m):(GE m f).2.2.2.1.getD x 0=iE m x false:=yF (f:=fun s=>iE m s false) h
theorem GN(d:OkT m){f:Ltl}(hf:OkF m f):aa (GE m f) L↔EQ L f 0:=by
 constructor
 ·rintro⟨r,e⟩
  have o:=rangeN_mem.1 e.first;have a:∀i,r i<2 ^ Ai m:=fun i=>by
   induction i with
   |zero=>exact o.1
   |succ i p=>
    have h1:=e.step i;rw[GQ p]at h1
    exact(rangeN_mem.1 h1).1
  have b:∀i,ww m (r (i+1))=r i >>> m.1.length:=fun i=>by
   have h1:=e.step i;rw[GQ (a i)]at h1
   exact OC (rangeN_mem.1 h1).2
  have l:∀i,∀n∈m.1,(r i).testBit (gJ m n).toNat=(L i).testBit n.toNat:=fun i n hn=>by
   have h1:=e.fits i;unfold pI at h1
   rw[JM,Om,Om,GO (a i),GP (a i)]at h1
   obtain⟨h2,h3⟩:=gL hn;have h4:=(pL d.ok).1 h1 _ h2;rw[h3]at h4
   exact h4.symm
  have c:∀g∈m.2,g.k≠7→∀i,∃j,i≤j∧oD m g (r j)=true:=fun g k q i=>by
   obtain⟨j,h1,h2⟩:=e.fair _ (LU.2 ⟨g,LR.2 ⟨k,Ol q⟩,rfl⟩) i;exact⟨j,h1,(rangeN_mem.1 h2).2⟩
  exact(El d b l c f hf 0).1 o.2
 ·intro h
  have a:∀i,FA L m i<2 ^ Ai m:=fun i=>Br
  refine⟨FA L m,rangeN_mem.2 ⟨a 0,(FF d f hf 0).2 h⟩,fun i=>?_,fun i=>?_,fun F hF i=>?_⟩
  ·unfold pI
   rw[JM,Om,Om,GO (a i),GP (a i)];exact(pL d.ok).2 fun j s=>(FB s).symm
  ·rw[GQ (a i)]
   exact rangeN_mem.2 ⟨a (i+1),Ol (FG d i)⟩
  ·obtain⟨g,k,rfl⟩:=LU.1 hF
   rw[LR]at k
   obtain⟨j,h1,h2⟩:=FE (L:=L) d k.1 (OC k.2) i;exact⟨j,h1,rangeN_mem.2 ⟨a j,h2⟩⟩
end
theorem Cq:∀(m:Nat) (a b:Ltl),a.nodes≤m→∀(w:World) (F:Nat→Prop) (ao D:Option Addr) (ac bc:Nat),Sl w F ao ac a.kids→Sl w F D bc b.kids→(∀b,F b→b<w.heap.size)→
  Rt Tryz.prog 198 [yj a.k a.n ao a.kids.length ac,yj b.k b.n D b.kids.length bc].toArray w fun v w'=>v=.bool (EB a b)∧Ext w w':=by
 intro m
 induction m with
 |zero=>intro a b h;have:=a.nodes_pos;omega
 |succ m L=>
  rintro⟨k,n,xs⟩ ⟨k',x,ys⟩ V w F ao D ac bc G f hF
  simp only[Ltl.k,Ltl.n,Ltl.kids,Ltl.nodes]at*
  have M:=G.len63;refine dH Tryz.func198 Tryz.ntmps198 rfl rfl ?_;refine Pm ?_;refine dZ rfl rfl rfl fun K hf C=>?_
  skip;refine dZ rfl rfl rfl fun J Q d=>?_
  have hf:=hf.ext d;have d:=C.trans d;have hS:EB (.mk k n xs) (.mk k' x ys)=(k==k'&&n==x&&EE xs ys):=by simp[EB]
  rw[hS];refine QE ?_;cases h1:(k != k')with
  |true=>
   refine Qr ?_;refine be rfl rfl ⟨?_,d⟩;simp at h1;simp[h1]
  |false=>
  have h1:k=k':=by simpa using h1
  refine QV ?_;cases h2:(n != x)with
  |true=>
   refine Qr ?_;refine be rfl rfl ⟨?_,d⟩;simp at h2;simp[h2]
  |false=>
  have h2:n=x:=by simpa using h2
  refine PY ?_;cases h3:((xs.length:Int) != (ys.length:Int))with
  |true=>
   refine Qr ?_;refine be rfl rfl ⟨?_,d⟩;have h3:xs.length≠ys.length:=by simp at h3;omega
   have:EE xs ys=false:=by
    rw[JN,Ne,EF];exact fun e=>h3 (by rw[e])
   rw[this];simp
  |false=>
  have h3:xs.length=ys.length:=by simp at h3;omega
  refine P2 ?_;refine CW.loop (S:=Nat) (fun i=>[(2,Pk w.heap.size),(3,Pk K.heap.size),(29,Pj xs.length),(30,Pj i)])
   (fun i w'=>i≤xs.length∧Ext J w'∧∀j (h:j<xs.length) (H:j<ys.length),j<i→EB xs[j] ys[j]=true) (fun i=>xs.length -i) 0 OR ⟨by omega,Ext.refl _,by omega⟩ ?_
  rintro i I ⟨hi,g,l⟩
  have R:=hf.ext g;have P:=Q.ext g;have c:=d.trans g;refine Qw ?_;apply CW.cond rfl<;>intro h
  ·have h:i<xs.length:=by simpa using h
   have H:i<ys.length:=by omega
   refine QN ?_;refine dn rfl rfl rfl rfl rfl (fun b f=>MQ (hF b f) c.size) (G.up0 c hF) h O3 (fun u q N=>?_);refine Q0 ?_;refine dn rfl rfl rfl rfl rfl (fun b f=>MQ (hF b f) c.size) (f.up0 c hF) H O3 (fun T U y=>?_);obtain⟨uo,uc,rfl,A⟩:=Rd.ltl N;obtain⟨uo',uc',rfl,t⟩:=Rd.ltl y;have r:∀b,F b→b<I.heap.size:=fun b f=>MQ (hF b f) c.size
   have o:(xs[i]).nodes≤m:=by have:=Ltl.nodes_kid xs xs[i] (Lb h);omega
   refine QL.call (v:=.bool (EB xs[i] ys[i])) rfl rfl rfl (fun E s=>L xs[i] ys[i] o E F uo uo' uc uc' (A.up0 s r) (t.up0 s r) (fun b f=>MQ (r b f) s.size)) ?_;refine QP ?_;refine QL.nil (fun E s=>?_);cases z:EB xs[i] ys[i]with
   |true=>
    refine QD ?_;refine EX.back (i+1) OR ⟨h,g.trans s,fun j B p O=>?_⟩ OS;by_cases e:j=i
    ·subst e;exact z
    ·exact l j B p OS
   |false=>
    refine Qa ?_;refine be rfl rfl ⟨?_,c.trans s⟩;have:EE xs ys=false:=by
     rw[JN,Ne,EF];intro e
     subst e;rw[ED]at z
     cases z
    rw[this];simp
  ·have h:¬i<xs.length:=by simpa using h
   refine PG ?_;refine be rfl rfl ⟨?_,c⟩;have:EE xs ys=true:=by
    rw[EF];exact KE h3 (fun j B p=>(EC _ _).1 (l j B p OS))
   rw[this];simp[h1,h2]
theorem wY{k n:Int}{kids:List Ltl}(h:IK (.mk k n kids)):kids.length≤2:=by
 simp only[IK]at h
 have h1:=h.1;unfold wU at h1
 split at h1
 ·omega
 ·split at h1
  ·omega
  ·split at h1<;>omega
theorem IQ{k n:Int}{kids:List Ltl}(h:IK (.mk k n kids)){i:Nat}(hi:i<kids.length):IK kids[i]:=by
 simp only[IK]at h
 exact IM kids i hi h.2.2.2.2
theorem zU{k n:Int}{kids:List Ltl}{m:Nat}(h:(Ltl.mk k n kids).nodes≤m+1){i:Nat}(hi:i<kids.length):(kids[i]).nodes≤m:=by
 have:=Ltl.nodes_kid kids kids[i] (Lb hi);simp only[Ltl.nodes]at h
 omega

theorem B5:∀(m:Nat) (t:Ltl),t.nodes≤m→IK t→∀(w:World) (F:Nat→Prop) (ao:Option Addr) (cap:Nat),Sl w F ao cap t.kids→(∀b,F b→b<w.heap.size)→
  Rt Tryz.prog 149 [yj t.k t.n ao t.kids.length cap].toArray w fun v w'=>Rd w' (Nw w w') v (B0 t)∧Ext w w':=by
 intro m
 induction m with
 |zero=>intro t h;have:=t.nodes_pos;omega
 |succ m ih=>
  rintro⟨k,n,kids⟩ hm W w F ao cap hs hF
  simp only[Ltl.k,Ltl.n,Ltl.kids]at*
  have hkl:=wY W;refine dG Tryz.func149 Tryz.ntmps149 rfl rfl ?_;refine Pm ?_;refine dZ rfl rfl rfl fun P hf hE1=>?_
  refine WL.alloc rfl rfl (fun s hr hE2=>?_);have hf:=hf.ext hE2;have H:=hE1.trans hE2;have hz1:w.heap.size≤P.heap.size:=hE1.size;have O:=hf.lt;have hlr:=hr.lt;refine QE ?_;refine WL.build rfl rfl rfl rfl ?_;refine WL.alloc rfl rfl (fun w3 ho hE3=>?_);refine WL.st rfl rfl rfl ho rfl rfl Pd (fun C ho4 hg4=>?_);have e4:Ext s C:=hE3.grown hg4 hE3.size O5;have hf4:=hf.ext e4;have hr4:=hr.ext e4;have hE4:=H.trans e4;have hlo:=ho4.lt;have hsz:=H.size;clear hf hr ho hg4 hE3 e4 H;refine QH ?_;refine CW.loop (S:=Nat×Value) (fun x=>[(1,Pk w.heap.size),(2,Pk P.heap.size),(3,Pk s.heap.size),(12,.slice ao kids.length cap),(13,Pj kids.length),(14,Pj x.1)])
   (fun x w'=>x.1≤kids.length∧Ext w w'∧C.heap.size≤w'.heap.size∧Blk w' w.heap.size 32 [Pj k,Pj n,.slice ao kids.length cap]∧Blk w' P.heap.size 32 [Pj 0,Pj 0,.slice none 0 0]∧
    Blk w' s.heap.size 32 [Pj k,Pj n,x.2]∧Grow C.heap.size 32 w' x.2 (B1 (kids.take x.1))) (fun x=>kids.length -x.1) (0,.slice none 0 0) OR ⟨by simp,hE4,MM _,hf4,hr4,ho4,by simpa[B1]using Grow.nil⟩ ?_
  rintro⟨i,kv⟩ c ⟨hi,p,Q,hf5,E,ho5,G⟩
  dsimp only at hi p Q hf5 E ho5 G⊢
  clear hf4 hr4 ho4;refine Qw ?_;apply CW.cond rfl<;>intro h
  ·have h:i<kids.length:=by simpa using h
   refine Qo ?_;refine eE rfl rfl rfl rfl rfl (hs.up0 p hF) h O3 (fun u q hu=>?_);obtain⟨uo,uc,rfl,hku⟩:=Rd.ltl hu;refine WL.alloc rfl rfl (fun K L hE6=>?_);refine WL.st rfl rfl rfl L rfl rfl Pd (fun j hx7 hg7=>?_);have f:Ext c j:=hE6.grown hg7 hE6.size O5;have z:=p.trans f;have ed:=Ext.drew j;have hd:=z.trans ed;have ho7:=(ho5.ext f).ext ed;have hxd:=hx7.ext ed;have hG7:=(G.ext f).ext ed;have hlx:=hx7.lt;have U:=f.size;have hKo:∀x,(fun x:World=>x.heap[s.heap.size]?=(drew j).heap[s.heap.size]?∧x.heap[c.heap.size]?=(drew j).heap[c.heap.size]?) x→x.heap[s.heap.size]?=(drew j).heap[s.heap.size]?:=fun _ h=>h.1
   have hKx:∀x,(fun x:World=>x.heap[s.heap.size]?=(drew j).heap[s.heap.size]?∧x.heap[c.heap.size]?=(drew j).heap[c.heap.size]?) x→x.heap[c.heap.size]?=(drew j).heap[c.heap.size]?:=fun _ h=>h.2
   refine QB ?_;refine aE (fun x:World=>x.heap[s.heap.size]?=(drew j).heap[s.heap.size]?∧x.heap[c.heap.size]?=(drew j).heap[c.heap.size]?) [(0,true),(1,true),(2,true),(3,false),(4,false),(5,false),(6,true)] 7 mixed OT ⟨rfl,rfl⟩ ?_;refine Q8 ?_;refine cf hKx rfl rfl rfl rfl hxd rfl ?_;skip;have hFd:∀b,F b→b<(drew j).heap.size:=fun b a=>MQ (hF b a) hd.size
   have hku':Sl (drew j) F uo uc (kids[i]).kids:=hku.up0 (f.trans ed) (fun b a=>MQ (hF b a) p.size);refine cu rfl (WL.call rfl rfl rfl (ih kids[i] (zU hm h) (IQ W h) (drew j) F uo uc hku' hFd) ?_);rintro v J ⟨M,I⟩
   have ho8:=ho7.ext I;have hG8:=hG7.ext I;have hsz8:j.heap.size≤J.heap.size:=I.size;refine WL.nil (a_ ⟨I.block _ ho7.lt,I.block _ hlx⟩ ?_);have hgl:=hG7.lt;obtain⟨F',o,hO,hsub⟩:=hG8.open (Fu:=Nw (drew j) J) (fun b a=>⟨MN Q (MN U a.1),a.2⟩) (fun g hg a=>by have:=(hgl g hg).2;have:=a.1;omega);have N:(B1 (kids.take i)).length=i:=by rw[B3,Lq,Lz];omega
   have B:=G.lt;refine bV (bytes:=40) (F:=F') rfl rfl rfl rfl O3 rfl rfl O3 hO (M.wk hsub) OS (fun b a=>(o b a).2) OU (by rw[N];unfold maxLen;omega) (by rw[N];omega)
    (fun w' hg'=>⟨(hg'.block _ ho8.lt (fun e=>?_)).trans (I.block _ ho7.lt),(hg'.block _ OS (fun e=>?_)).trans (I.block _ hlx)⟩) (fun cV T q2 hO9 D hnb=>?_)
   ·have:=(B _ e.symm).1;omega
   ·have:=(B _ e.symm).2;omega
   have hG9:Grow C.heap.size 32 T cV (B1 (kids.take i)++[B0 kids[i]]):=⟨F',fun b a=>⟨(o b a).1,MQ (o b a).2 D.size⟩,hO9⟩;rw[show B1 (kids.take i)++[B0 kids[i]]=B1 (kids.take (i+1)) by rw[B3,B3,Mp h,LC];rfl]at hG9
   obtain⟨co,cc,rfl,_⟩:=hG9.sl;have hnr:∀r,r<C.heap.size→some r≠kv.ownBlock:=fun r hr e=>by have:=(B _ e.symm).1;omega
   have ho9:=ho8.kept D (hnr _ OS);have hf9:=((((hf5.ext f).ext ed).ext I)).kept D (hnr _ OS);have hr9:=((((E.ext f).ext ed).ext I)).kept D (hnr _ OS);have hE8:=hd.trans I;have hE9:Ext w T:=hE8.grown D hE8.size (fun g hg=>by have:=(B g hg).1;omega);refine Re ?_;refine bm rfl (WL.st rfl rfl rfl ho9 rfl rfl Pd (fun w10 ho10 l=>WL.nil (bp ?_)));have hE10:Ext w w10:=hE9.grown l hE9.size O7;have hsz9:=D.size;have hsz10:=l.size;refine PI ?_;exact EX.back (i+1,.slice co (B1 (kids.take (i+1))).length cc) OR ⟨h,hE10,by omega,hf9.kept l Pa,hr9.kept l Pa,ho10,hG9.kept l OS⟩ OX
  ·have h:¬i<kids.length:=by simpa using h
   have hik:i=kids.length:=by omega
   subst hik;rw[Ml]at G
   obtain⟨co,cc,rfl,Y⟩:=G.sl;have N:(B1 kids).length=kids.length:=by rw[B3,Lq]
   have hout:Rd c (fun b=>C.heap.size≤b∧b<c.heap.size) (yj k n co (B1 kids).length cc) (Ltl.mk k n (B1 kids)):=Rd.mkLtl Y;have hN:B0 (.mk k n kids)=if k=10 then Ltl.mk 8 0 [.mk 1 0 [],(B1 kids).getD 0 (.mk 0 0 [])]else if k=11 then .mk 9 0 [.mk 2 0 [],(B1 kids).getD 0 (.mk 0 0 [])]else .mk k n (B1 kids):=by simp only[B0]
   rw[hN];have R:k=10∨k=11→0<(B1 kids).length:=by
    intro hc
    rw[N];have h:=W;simp only[IK]at h
    have h1:=h.1;unfold wU at h1
    rw[Ou OS,Ov OS]at h1
    omega
   have fin:∀(J T:World) (F':Nat→Prop) (v:Value) (t':Ltl),Rd J F' v t'→(∀b,F' b→C.heap.size≤b∧b<J.heap.size)→J.grownBy T (some P.heap.size)→Rd T (Nw w T) v t':=by
    intro J T F' v t' M o hg
    exact(M.kept hg (fun b a=>⟨(o b a).2,fun e=>by have:=Nn e;have:=(o b a).1;omega⟩)).wk (fun b a=>⟨by have:=(o b a).1;omega,MQ (o b a).2 hg.size⟩)
   refine Qc ?_;cases h10:(k==10)with
   |true=>
    have h10:k=10:=by simpa using h10
    have h0:=R (.inl h10);rw[Ov h10];have d:=Ext.drew c;have ho6:=ho5.ext d;have hz5:c.heap.size=(drew c).heap.size:=rfl;have hK:∀x,(fun x:World=>SO P.heap.size (drew c) x) x→x.heap[s.heap.size]?=(drew c).heap[s.heap.size]?:=fun x L=>L.2 _ OS ho6.lt
    refine P6 ?_;refine aF (fun x:World=>SO P.heap.size (drew c) x) [(1,true),(2,true),(3,true),(4,true),(0,false),(5,false),(6,false)] mixed OT (SO.refl _ _) ?_;refine Q8 ?_;refine bY (w:=drew c) (F:=fun b=>C.heap.size≤b∧b<c.heap.size) (k:=0) (fun x L b a=>L.2 b (by have:=a.1;omega) a.2) rfl rfl rfl rfl rfl rfl rfl (Y.up0 d (fun b a=>a.2)) h0 O3 (fun u q hu=>?_);refine cu rfl (WL.call rfl rfl rfl (Cr (drew c) c7 1) ?_);rintro lf K ⟨O,A⟩
    refine WL.nil (a_ ((SO.refl _ _).ext A) ?_);have V:c.heap.size≤K.heap.size:=A.size;have X:Rd K (fun b=>C.heap.size≤b∧b<c.heap.size) u (B1 kids)[0]:=hu.up0 A (fun b a=>a.2);refine cu rfl (WL.call rfl rfl rfl (Cs K (F:=fun b=>C.heap.size≤b∧b<c.heap.size) (fun b a=>MQ a.2 V) 8 (O.wk fun _ h=>h.elim) X) ?_);rintro v j ⟨M,f⟩
    obtain⟨vo,vc,rfl,hkv⟩:=Rd.ltl M;refine WL.nil (a_ (((SO.refl _ _).ext A).ext f) ?_);have U:=f.size;refine cu rfl (WL.st rfl rfl rfl (((E.ext d).ext A).ext f) rfl rfl Pd (fun J Z y=>?_));refine WL.nil (a_ ((((SO.refl _ _).ext A).ext f).st y) (HL.nil ?_));have z:=((p.trans d).trans A).trans f;have hgd:(B1 kids).getD 0 (.mk 0 0 [])=(B1 kids)[0]:=by simp[KR,h0]
    refine PN ?_;refine bg rfl rfl Z rfl ⟨?_,z.grown y z.size O7⟩;rw[hgd];refine fin _ _ _ _ _ M (fun b a=>?_) y;rcases a with a|a
    ·exact⟨a.1,by have:=a.2;omega⟩
    ·exact⟨by have:=a.1;omega,a.2⟩
   |false=>
   have h10:k≠10:=by simpa using h10
   rw[Ou h10];refine PW ?_;cases h11:(k==11)with
   |true=>
    have h11:k=11:=by simpa using h11
    have h0:=R (.inr h11);rw[Ov h11];have d:=Ext.drew c;have ho6:=ho5.ext d;have hz5:c.heap.size=(drew c).heap.size:=rfl;have hK:∀x,(fun x:World=>SO P.heap.size (drew c) x) x→x.heap[s.heap.size]?=(drew c).heap[s.heap.size]?:=fun x L=>L.2 _ OS ho6.lt
    refine P6 ?_;refine aF (fun x:World=>SO P.heap.size (drew c) x) [(1,true),(2,true),(3,true),(4,true),(0,false),(5,false),(6,false)] mixed OT (SO.refl _ _) ?_;refine Q8 ?_;refine bY (w:=drew c) (F:=fun b=>C.heap.size≤b∧b<c.heap.size) (k:=0) (fun x L b a=>L.2 b (by have:=a.1;omega) a.2) rfl rfl rfl rfl rfl rfl rfl (Y.up0 d (fun b a=>a.2)) h0 O3 (fun u q hu=>?_);refine cu rfl (WL.call rfl rfl rfl (Cr (drew c) c7 2) ?_);rintro lf K ⟨O,A⟩
    refine WL.nil (a_ ((SO.refl _ _).ext A) ?_);have V:c.heap.size≤K.heap.size:=A.size;have X:Rd K (fun b=>C.heap.size≤b∧b<c.heap.size) u (B1 kids)[0]:=hu.up0 A (fun b a=>a.2);refine cu rfl (WL.call rfl rfl rfl (Cs K (F:=fun b=>C.heap.size≤b∧b<c.heap.size) (fun b a=>MQ a.2 V) 9 (O.wk fun _ h=>h.elim) X) ?_);rintro v j ⟨M,f⟩
    obtain⟨vo,vc,rfl,hkv⟩:=Rd.ltl M;refine WL.nil (a_ (((SO.refl _ _).ext A).ext f) ?_);have U:=f.size;refine cu rfl (WL.st rfl rfl rfl (((E.ext d).ext A).ext f) rfl rfl Pd (fun J Z y=>?_));refine WL.nil (a_ ((((SO.refl _ _).ext A).ext f).st y) (HL.nil ?_));have z:=((p.trans d).trans A).trans f;have hgd:(B1 kids).getD 0 (.mk 0 0 [])=(B1 kids)[0]:=by simp[KR,h0]
    refine PN ?_;refine bg rfl rfl Z rfl ⟨?_,z.grown y z.size O7⟩;rw[hgd];refine fin _ _ _ _ _ M (fun b a=>?_) y;rcases a with a|a
    ·exact⟨a.1,by have:=a.2;omega⟩
    ·exact⟨by have:=a.1;omega,a.2⟩
   |false=>
    have h11:k≠11:=by simpa using h11
    rw[Ou h11];refine Qh ?_;refine WL.st rfl rfl rfl E rfl rfl Pd (fun K hr6 hg6=>?_);refine Px ?_;exact bg rfl rfl hr6 rfl ⟨fin _ _ _ _ _ hout (fun b a=>a) hg6,p.grown hg6 p.size O7⟩
def Hi(t:Ltl):Ltl×Int:=if(jD t 1 0).1≠0 then(.mk 0 0 [],(jD t 1 0).1)else(t,0)
theorem Hj(w:World){F:Nat→Prop}{v:Value}{t:Ltl}(h:Rd w F v t)(hF:∀b,F b→b<w.heap.size):
  Rt Tryz.prog 148 [v].toArray w fun u w'=>∃x,u=.tuple ⟨[x,Pj (Hi t).2]⟩∧Rd w' F x (Hi t).1∧Ext w w':=by
 obtain⟨ao,cap,rfl,s⟩:=Rd.ltl h;refine dG Tryz.func148 Tryz.ntmps148 rfl rfl ?_;refine Pm ?_;refine dZ rfl rfl rfl fun p hf j=>?_
 refine WL.alloc rfl rfl (fun o r i=>?_);have hf:=hf.ext i;have a:=j.trans i;refine Pw ?_;refine WL.call rfl rfl rfl (yh o (s.up0 a hF) (fun b A=>MQ (hF b A) a.size)) ?_;rintro _ n ⟨rfl,l⟩
 have z:=hf.ext l;have f:=r.ext l;have g:=a.trans l;have q:=j.size;have fin:∀k,n.grownBy k (some p.heap.size)→Ext w k:=fun k y=>g.grown y g.size O7
 refine Qw ?_;unfold Hi;apply CW.cond rfl<;>intro e
 ·have e:(jD t 1 0).1≠0:=by simpa using e
  rw[Ov e];refine Pm ?_;refine WL.build (parts:=[]) rfl rfl rfl rfl ?_;refine QO ?_;refine WL.st rfl rfl rfl f rfl rfl Pd (fun m d c=>?_);refine PL ?_;exact bh rfl rfl rfl d rfl ⟨_,rfl,Rd.mkLtl (kids:=[]) (Sl.zero _ _),fin _ c⟩
 ·have e:(jD t 1 0).1=0:=by simpa using e
  rw[Ou (by simp[e])];refine P1 ?_;refine WL.st rfl rfl rfl f rfl rfl Pd (fun m d c=>?_);refine Pr ?_;exact bh rfl rfl rfl d rfl ⟨_,rfl,Rd.up0 h (fin _ c) hF,fin _ c⟩
def BY(t:Ltl):Ltl×Int:=if(jD t 1 0).1≠0 then(.mk 0 0 [],(jD t 1 0).1)else Hi (B0 t)
theorem db(w:World){F:Nat→Prop}{t:Ltl}{ao:Option Addr}{cap:Nat}(C:Sl w F ao cap t.kids)(hF:∀b,F b→b<w.heap.size):
  Rt Tryz.prog 77 [yj t.k t.n ao t.kids.length cap].toArray w fun u w'=>∃x,u=.tuple ⟨[x,Pj (BY t).2]⟩∧Rd w' (Nw w w') x (BY t).1∧Ext w w':=by
 refine dG Tryz.func77 Tryz.ntmps77 rfl rfl ?_;refine Pm ?_;refine dZ rfl rfl rfl fun P hf l=>?_
 refine WL.alloc rfl rfl (fun z B g=>?_);have hf:=hf.ext g;have d:=l.trans g;have q:∀b,F b→b<z.heap.size:=fun b a=>MQ (hF b a) d.size
 refine Pw ?_;refine WL.call rfl rfl rfl (yh z (C.up0 d hF) q) ?_;rintro _ D ⟨rfl,m⟩
 have M:=hf.ext m;have j:=B.ext m;have c:=d.trans m;have I:=l.size;have H:=g.size;have K:=B.lt;have G:=m.size;refine Qw ?_;unfold BY;apply CW.cond rfl<;>intro h
 ·have h:(jD t 1 0).1≠0:=by simpa using h
  rw[Ov h];refine Pm ?_;refine WL.build (parts:=[]) rfl rfl rfl rfl ?_;refine QO ?_;refine WL.st rfl rfl rfl j rfl rfl Pd (fun y o p=>?_);refine PL ?_;exact bh rfl rfl rfl o rfl ⟨_,rfl,Rd.mkLtl (kids:=[]) (Sl.zero _ _),c.grown p c.size O7⟩
 ·have h:(jD t 1 0).1=0:=by simpa using h
  rw[Ou (by simp[h])];refine P1 ?_;refine WL.call rfl rfl rfl (B5 t.nodes t Pf (jK t 1 0 h) D F ao cap (C.up0 c hF) (fun b a=>MQ (hF b a) c.size)) ?_;rintro v y ⟨J,s⟩
  refine WL.call rfl rfl rfl (Hj y J (fun b a=>a.2)) ?_;rintro _ O ⟨x,rfl,A,r⟩
  obtain⟨xo,xc,rfl,L⟩:=Rd.ltl A;have k:=(c.trans s).trans r;have E:=s.size;have i:=r.size;refine QO ?_;refine WL.st rfl rfl rfl ((j.ext s).ext r) rfl rfl Pd (fun N n f=>?_);refine Pr ?_;refine bh rfl rfl rfl n rfl ⟨_,rfl,?_,k.grown f k.size O7⟩;exact(A.kept f (fun b a=>⟨MQ a.2 i,fun e=>by have:=Nn e;have:=a.1;omega⟩)).wk (fun b a=>⟨by have:=a.1;omega,MQ a.2 (MN i f.size)⟩)
open Go.Shelf
def FO:Ren:=⟨fun x=>if Nat.beq x 125=true then 152 else if Nat.beq x 128=true then 208 else if Nat.beq x 129=true then 209 else if Nat.beq x 189=true then 79 else if Nat.beq x 215=true then 225 else if Nat.beq x 216=true then 205 else if Nat.beq x 257=true then 151 else if Nat.beq x 294=true then 199 else if Nat.beq x 295=true then 200 else if Nat.beq x 296=true then 201 else if Nat.beq x 297=true then 202 else if Nat.beq x 298=true then 203 else if Nat.beq x 299=true then 204 else if Nat.beq x 300=true then 206 else if Nat.beq x 301=true then 207 else if Nat.beq x 328=true then 220 else if Nat.beq x 329=true then 221 else if Nat.beq x 330=true then 222 else if Nat.beq x 331=true then 223 else if Nat.beq x 332=true then 224 else if Nat.beq x 343=true then 226 else 0,fun x=>if Nat.beq x 0=true then 0 else if Nat.beq x 3=true then 3 else if Nat.beq x 4=true then 4 else if Nat.beq x 5=true then 5 else if Nat.beq x 9=true then 9 else if Nat.beq x 28=true then 38 else if Nat.beq x 46=true then 219 else if Nat.beq x 51=true then 259 else if Nat.beq x 53=true then 95 else if Nat.beq x 131=true then 228 else if Nat.beq x 182=true then 251 else if Nat.beq x 183=true then 252 else if Nat.beq x 218=true then 269 else if Nat.beq x 222=true then 115 else if Nat.beq x 228=true then 274 else if Nat.beq x 229=true then 275 else 0,fun x=>x⟩
set_option maxRecDepth 100000 in
theorem FN:Lays.n189 Tryz.prog FO where
 mixed:=by kernel_rfl
 f125:=(Tryz.func152).trans OT
 f128:=(Tryz.func208).trans OT
 f129:=(Tryz.func209).trans OT
 f189:=(Tryz.func79).trans OT
 f215:=(Tryz.func225).trans OT
 f216:=(Tryz.func205).trans OT
 f257:=(Tryz.func151).trans OT
 f294:=(Tryz.func199).trans OT
 f295:=(Tryz.func200).trans OT
 f296:=(Tryz.func201).trans OT
 f297:=(Tryz.func202).trans OT
 f298:=(Tryz.func203).trans OT
 f299:=(Tryz.func204).trans OT
 f300:=(Tryz.func206).trans OT
 f301:=(Tryz.func207).trans OT
 f328:=(Tryz.func220).trans OT
 f329:=(Tryz.func221).trans OT
 f330:=(Tryz.func222).trans OT
 f331:=(Tryz.func223).trans OT
 f332:=(Tryz.func224).trans OT
 f343:=(Tryz.func226).trans OT
 t0:=Tryz.underlying0
 a0:=Tryz.isAgg0
 z0:=Tryz.sizeOf0
 v0:=Tryz.zeroValue0
 t3:=NM
 a3:=Nz
 z3:=NB
 v3:=Tryz.zeroValue3
 t4:=NS
 a4:=Tryz.isAgg4
 z4:=Tryz.sizeOf4
 v4:=Tryz.zeroValue4
 t5:=Tryz.underlying5
 a5:=Tryz.isAgg5
 z5:=Tryz.sizeOf5
 v5:=Tryz.zeroValue5
 t9:=N0
 a9:=Tryz.isAgg9
 z9:=Tryz.sizeOf9
 v9:=Tryz.zeroValue9
 t28:=NR
 a28:=Tryz.isAgg38
 z28:=Tryz.sizeOf38
 v28:=Tryz.zeroValue38
 t46:=Tryz.underlying219
 a46:=Tryz.isAgg219
 z46:=Tryz.sizeOf219
 v46:=Tryz.zeroValue219
 t51:=Tryz.underlying259
 a51:=Tryz.isAgg259
 z51:=Tryz.sizeOf259
 v51:=Tryz.zeroValue259
 t53:=N4
 a53:=Tryz.isAgg95
 z53:=Tryz.sizeOf95
 v53:=Tryz.zeroValue95
 t131:=Tryz.underlying228
 a131:=Tryz.isAgg228
 z131:=Tryz.sizeOf228
 v131:=Tryz.zeroValue228
 t182:=Tryz.underlying251
 a182:=Tryz.isAgg251
 z182:=Tryz.sizeOf251
 v182:=Tryz.zeroValue251
 t183:=Tryz.underlying252
 a183:=Tryz.isAgg252
 z183:=Tryz.sizeOf252
 v183:=Tryz.zeroValue252
 t218:=Tryz.underlying269
 a218:=Tryz.isAgg269
 z218:=Tryz.sizeOf269
 v218:=Tryz.zeroValue269
 t222:=Tryz.underlying115
 a222:=Tryz.isAgg115
 z222:=Tryz.sizeOf115
 v222:=Tryz.zeroValue115
 t228:=Tryz.underlying274
 a228:=Tryz.isAgg274
 z228:=Tryz.sizeOf274
 v228:=Tryz.zeroValue274
 t229:=Tryz.underlying275
 a229:=Tryz.isAgg275
 z229:=Tryz.sizeOf275
 v229:=Tryz.zeroValue275
theorem oB(w:World)(os:Array Obj):Ext w (Sort.grow w os):=⟨rfl,rfl,rfl,by simp[Sort.grow],fun k a=>by simp[Sort.grow,Ju a]⟩
def FK(xs:List Int):List Int:=xs.mergeSort fun x y=>decide (x≤y)
theorem sortI_mem{xs:List Int}{x:Int}:x∈FK xs↔x∈xs:=List.mem_mergeSort
theorem FL{xs:List Int}:(FK xs).length=xs.length:=List.length_mergeSort xs
theorem FP(w:World){B:Nat}{v:Value}{xs:List Int}(a:Own w B 3 c7 v xs)(o:xs.length<4611686018427387904):
  Rt Tryz.prog 79 [v].toArray w fun u w'=>u=.tuple #[]∧Own w' B 3 c7 v (FK xs)∧w.grownBy w' v.ownBlock:=by
 have H:w.grownBy w v.ownBlock:=⟨rfl,rfl,rfl,MM _,fun _ _ _=>rfl⟩;rcases a with⟨rfl,rfl⟩|⟨g,off,cap,cur,rfl,a⟩
 ·refine J2 (Any.slices_Sort_int_none FN none 0 w) ?_
  rintro e w' ⟨rfl,rfl⟩
  exact⟨_,rfl,rfl,by rw[show FK []=[] by simp[FK]];exact Own.nil,H⟩
 ·have s:sz Int=1:=rfl
  have q:=a.fit;have L:=a.le;have G:=a.mx;have r:=nt a.el;rw[s,MY]at q r
  have b:∀j (d:j<xs.length),cur[off+j]?=some (Pj xs[j]):=fun j d=>by
   have h1:((cur.toList.drop off).take xs.length)[j]?=(xs.map fun x=>Pj x)[j]?:=by rw[r]
   rw[K5 d,KW,K0,KX d]at h1
   simpa using h1
  have M:Sort.Holds (Value.int .i64) w g off xs.toArray:=fun j d=>by
   have p:j<xs.length:=by simpa using d
   constructor
   ·have:xs.toArray[j]! =xs[j]:=by simp[p]
    rw[this];simp[World.cell?,a.blk,b j p]
   ·simp[World.frozen?,a.blk]
  have z:=FL (xs:=xs);refine J2 (Any.slices_Sort_int FN g off cap xs w M (Jw.1 a.blk).1 o) ?_;rintro e w' ⟨rfl,n,os,rfl⟩
  generalize m:(xs.mergeSort fun x y=>decide (x≤y))=ys at*
  have l:ys.length=xs.length:=by rw[←m];exact z
  rw[show FK xs=ys from m];have f:(Sort.putRow (Value.int .i64) (Sort.ahead w n) g off ys.toArray).heap[g]?=some (.cells (Sort.putCells (Value.int .i64) off ys.toArray cur) 3 (0,0)):=by
   show(w.heap.modify g _)[g]?=_;rw[Jy,Ov rfl,a.blk];rfl
  have c:∀k,k≠g→(Sort.putRow (Value.int .i64) (Sort.ahead w n) g off ys.toArray).heap[k]?=w.heap[k]?:=fun k J=>by
   show(w.heap.modify g _)[k]?=_;rw[Jy,Ou (fun e=>J e.symm)]
  have A:(Sort.putRow (Value.int .i64) (Sort.ahead w n) g off ys.toArray).heap.size=w.heap.size:=by
   show(w.heap.modify g _).size=_;rw[JF]
  have E:(Sort.putRow (Value.int .i64) (Sort.ahead w n) g off ys.toArray).os=w.os:=rfl;have t:(Sort.putRow (Value.int .i64) (Sort.ahead w n) g off ys.toArray).tape=w.tape:=rfl;have D:(Sort.putRow (Value.int .i64) (Sort.ahead w n) g off ys.toArray).output=w.output:=rfl;generalize Sort.putRow (Value.int .i64) (Sort.ahead w n) g off ys.toArray=i at*
  have h:Ext i (Sort.grow i os):=oB i os;generalize Sort.grow i os=K at*
  have C:(Sort.putCells (Value.int .i64) off ys.toArray cur).size=cur.size:=by simp[Sort.putCells]
  have ho1:Own i B 3 c7 (.slice (some ⟨g,off,none⟩) xs.length cap) ys:=by
   refine .inr ⟨g,off,cap,_,by rw[l],⟨f,a.ge,a.nF,by omega,G,by rw[C,s];omega,?_⟩⟩;have N:(((Sort.putCells (Value.int .i64) off ys.toArray cur).toList.drop off).take (ys.length*sz Int))=ys.map fun x=>Pj x:=by
    rw[s,MY];refine KF fun j=>?_
    by_cases d:j<xs.length
    ·rw[K5 OS,KW,JC,Sort.putCells,Jx,b j d,K0,KX OS]
     simp[show j<ys.length by omega,show off+j<off+ys.length by omega]
    ·rw[KY OZ,KY OZ]
   rw[N];exact nu _ _ _
  have I:w.grownBy K (some g):=⟨h.os.trans E,h.tape.trans t,h.output.trans D,MN OS h.size,fun k J F=>(h.block k OS).trans (c k (fun e=>F (by rw[e])))⟩;exact⟨_,rfl,rfl,ho1.extN h,I⟩
def GH(f:Ltl):cY:=(FK (qs f ([],[])).1,(qs f ([],[])).2)
def nilA5:cG:=([],[],[],[],[])
def yp(t:Ltl):cG×Int:=if(BY t).2≠0 then(nilA5,(BY t).2)else if Ai (GH (BY t).1)>10 then(nilA5,2)else(GE (GH (BY t).1) (BY t).1,0)
theorem BZ{t:Ltl}(h:(BY t).2=0):IK t∧(BY t).1=B0 t∧IK (B0 t)∧(B0 t).nodes≤60:=by
 unfold BY at h⊢
 split at h
 ·rename_i h1;exact absurd h h1
 rename_i h1;rw[Ou h1];unfold Hi at h⊢
 split at h
 ·rename_i h2;exact absurd h h2
 rename_i h2;rw[Ou h2];have h1:=(j9 t).1 (by simpa using h1);have h2:=(j9 (B0 t)).1 (by simpa using h2);exact⟨h1.1,rfl,h2.1,h2.2.1⟩
theorem GJ(f:Ltl):Les (qs f ([],[])) (GH f):=⟨fun x a=>sortI_mem.2 a,fun x a=>a⟩
theorem GM{f:Ltl}(b:IK f)(c:r9 f 10=false)(h1:r9 f 11=false):OkM (GH f):=by
 have h:=qA f ([],[]) OkM.nil b c h1;exact⟨(List.mergeSort_perm _ _).nodup_iff.2 h.na,fun x a=>h.ra x (sortI_mem.1 a),h.wp⟩
theorem GK{f:Ltl}(b:IK f)(c:r9 f 10=false)(h1:r9 f 11=false):OkT (GH f)∧OkF (GH f) f:=by
 have d:=Cov.les (GJ f) f (qu f ([],[]));refine⟨⟨GM b c h1,fun g a=>?_⟩,b,c,h1,d⟩;exact qt f ([],[]) (GH f) (GJ f) (fun g a=>by cases a) g a
theorem GI(f:Ltl):(GH f).1.length=(qs f ([],[])).1.length∧(GH f).2=(qs f ([],[])).2:=⟨FL,rfl⟩
theorem GG{m:cY}{f:Ltl}(h:Ai m≤10):OkA (GE m f):=by
 have i:2 ^ Ai m≤2 ^ 10:=M4 OS h;have b:(GE m f).2.1.length=2 ^ Ai m:=by show(List.map _ _).length=_;rw[Lq,Lt]
 have c:∀(p:Nat→Bool),AG (2 ^ Ai m) (((List.range (2 ^ Ai m)).filter p).map fun s:Nat=>(s:Int)):=fun p x e=>by
  obtain⟨y,d,rfl⟩:=LU.1 e;rw[LR,LZ]at d
  have:=d.1;constructor
  ·omega
  ·exact_mod_cast this
 refine⟨by rw[b];omega,?_,?_,?_,?_,fun r a=>?_,fun r a=>?_⟩
 ·show(List.map _ (List.filter _ _)).length≤80
  rw[Lq];have:=Lp (fun g:Ltl=>decide (g.k≠7)) m.2;unfold Ai at h;omega
 ·rw[b];show(List.map _ _).length=_;rw[Lq,Lt]
 ·rw[b];show(List.map _ _).length=_;rw[Lq,Lt]
 ·rw[b];exact c _
 ·rw[b]
  obtain⟨s,_,rfl⟩:=LU.1 a;exact c _
 ·rw[b]
  obtain⟨s,_,rfl⟩:=LU.1 a;exact c _
theorem yq{t:Ltl}{L:Nat→Nat}(h:(yp t).2=0):OkA (yp t).1∧(aa (yp t).1 L↔EQ L t 0)∧IK t:=by
 unfold yp at h⊢
 split at h
 ·rename_i h1;exact absurd h h1
 rename_i h1;rw[Ou h1];split at h
 ·exact absurd h OU
 rename_i h2;rw[Ou h2];obtain⟨b,c,a,_⟩:=BZ (by simpa using h1:(BY t).2=0);rw[c]at h2⊢
 have hh:=B4 t b;obtain⟨d,hF⟩:=GK a hh.1 hh.2;refine⟨GG OS,?_,b⟩;show aa (GE (GH (B0 t)) (B0 t)) L↔EQ L t 0;rw[GN d hF,B6 t b 0]
theorem Gx{g:List (List Int)}{n:Nat}(h:∀r∈g,r.length≤n):mX g≤g.length*n:=by
 induction g with
 |nil=>simp[mX]
 |cons a r b=>
  have h1:=b (fun x c=>h x (LO _ c));have h2:=h a (LP ..);unfold mX at*
  simp only[LE,Mi,Ll,Mv];omega
theorem EM{p:Nat→Bool}{N:Nat}:(((List.range N).filter p).map fun s:Nat=>(s:Int)).length≤N:=by
 rw[Lq];exact MN (Lp _ _) (by rw[Lt];exact MM _)
theorem yr(t:Ltl):mX (yp t).1.2.1+(yp t).1.1.length≤8589934592∧(∀j,((yp t).1.2.1.getD j []).length≤1048576)∧(yp t).1.1.length≤1048576:=by
 have c:mX nilA5.2.1+nilA5.1.length≤8589934592∧(∀j,(nilA5.2.1.getD j []).length≤1048576)∧nilA5.1.length≤1048576:=by
  refine⟨by decide,fun j=>?_,by decide⟩;show(([]:List (List Int)).getD j []).length≤_;simp
 unfold yp;split
 ·exact c
 ·split
  ·exact c
  ·rename_i h10
   generalize GH (BY t).1=m at*
   generalize (BY t).1=f;have b:2 ^ Ai m≤2 ^ 10:=M4 OS OS;have a:∀r∈(GE m f).2.1,r.length≤1024:=fun r d=>by
    obtain⟨s,_,rfl⟩:=LU.1 d;exact MN EM b
   have e:(GE m f).2.1.length≤1024:=by
    show((List.range (2 ^ Ai m)).map _).length≤1024;rw[Lq,Lt];exact b
   have h1:(GE m f).1.length≤1024:=MN EM b;have h2:=Gx a;have h3:(GE m f).2.1.length*1024≤1024*1024:=MX _ e;dsimp only;refine⟨by omega,fun j=>?_,by omega⟩;rw[KR];cases g:(GE m f).2.1[j]? with
   |none=>simp
   |some r=>exact MN (a r (LW g)) OU


instance vY:IsF Tryz.prog 196:=⟨_,Tryz.func196,rfl,by decide⟩
theorem vJ(w0:World){ao:Option Addr}{cap:Nat}{xs:List Ltl}{fv:Value}(p:Ltl→Bool)(f:Sl w0 (c9 w0) ao cap xs)
  (hf:∀w,Ext w0 w→∀i (h:i<xs.length) u,Rd w (c9 w0) u xs[i]→FnV Tryz.prog fv [u] w fun v w'=>v=.bool (p xs[i])∧Ext w w'):
  Rt Tryz.prog 196 [.slice ao xs.length cap,fv].toArray w0 fun v w'=>v=Pj (idxOf p xs)∧Ext w0 w':=by
 have m:=f.len63;refine dH Tryz.func196 Tryz.ntmps196 rfl rfl ?_;refine Qp ?_;refine CW.loop (S:=Nat) (fun k=>[(0,.slice ao xs.length cap),(1,fv),(7,Pj xs.length),(8,Pj k)])
  (fun k w=>k≤xs.length∧Ext w0 w∧∀j (h:j<xs.length),j<k→p xs[j]=false) (fun k=>xs.length -k) 0 OR ⟨by omega,Ext.refl _,by omega⟩ ?_
 rintro k w ⟨n,b,hn⟩
 refine Qw ?_;apply CW.cond rfl<;>intro h
 ·simp at h
  refine PA ?_;refine eE rfl rfl rfl rfl rfl (f.at b) h O3 (fun u q g=>?_);refine d8 rfl rfl rfl rfl (hf w b k h u g) ?_;rintro v w' ⟨rfl,a⟩
  refine QB ?_;refine CW.cond rfl (fun d=>?_) (fun d=>?_)
  ·refine Pl ?_
   refine be rfl rfl ⟨?_,b.trans a⟩;rw[vm h hn d]
  ·refine Pq ?_
   refine EX.back (k+1) OR ⟨h,b.trans a,?_⟩ OS;intro j c l
   by_cases e:j=k
   ·subst e;exact d
   ·exact hn j c OS
 ·simp at h
  refine PG ?_;refine be rfl rfl ⟨?_,b⟩;rw[vt (fun j c=>hn j c OS)]
theorem iF(a b:Nat)(f:a<4611686018427387904)(e:b<4611686018427387904):bits .and .i64 (a:Int) (b:Int)=((a&&&b:Nat):Int):=by
 have c:a&&&b≤a:=Nat.and_le_left;have h1:(BitVec.ofInt 64 (a:Int)).toNat=a:=by
  rw[JK,JL];exact MT OS
 have h2:(BitVec.ofInt 64 (b:Int)).toNat=b:=by
  rw[JK,JL];exact MT OS
 show IntKind.i64.wrap ((BitVec.ofInt 64 (a:Int)&&&BitVec.ofInt 64 (b:Int)).toNat:Int)=_;rw[BitVec.toNat_and,h1,h2,Jl OS OS]
theorem iH(a b:Nat)(f:a<4611686018427387904)(e:b<4611686018427387904):bits .or .i64 (a:Int) (b:Int)=((a|||b:Nat):Int):=by
 have c:a|||b<2 ^ 62:=M3 OS OS;have h1:(BitVec.ofInt 64 (a:Int)).toNat=a:=by
  rw[JK,JL];exact MT OS
 have h2:(BitVec.ofInt 64 (b:Int)).toNat=b:=by
  rw[JK,JL];exact MT OS
 show IntKind.i64.wrap ((BitVec.ofInt 64 (a:Int)|||BitVec.ofInt 64 (b:Int)).toNat:Int)=_;rw[BitVec.toNat_or,h1,h2,Jl OS OS]
theorem iI(a b:Nat)(e:a<18446744073709551616)(c:b<18446744073709551616):bits .or .u64 (a:Int) (b:Int)=((a|||b:Nat):Int):=bits_or_u64_nat a b e c
theorem Fq{s:Nat}(a:s<62):IntKind.i64.wrap (1*2 ^ min ((s:Int)).toNat IntKind.i64.bits)=((1 <<< s:Nat):Int):=by
 have h1:min s (IntKind.bits .i64)=s:=by show min s 64=s;omega
 have h2:2 ^ s<2 ^ 62:=M5 OS a;simp only[Kd,h1,Kc];have h3:((2:Int) ^ s)=((2 ^ s:Nat):Int):=by norm_cast
 rw[h3,M2];generalize 2 ^ s=x at*
 rw[Jl OS OS]
theorem Fs{s:Nat}(a:s<64):IntKind.u64.wrap (1*2 ^ min ((s:Int)).toNat IntKind.u64.bits)=((1 <<< s:Nat):Int):=by
 have h1:min s (IntKind.bits .u64)=s:=by show min s 64=s;omega
 have h2:2 ^ s<2 ^ 64:=M5 OS a;simp only[Kd,h1,Kc];have h3:((2:Int) ^ s)=((2 ^ s:Nat):Int):=by norm_cast
 rw[h3,M2,IntKind.wrap_u64];generalize 2 ^ s=x at*
 omega
theorem Er(P:Program)(w:World)(a s:Nat)(b:s≤62)(t:TypeId):(binOp .shr t (Pj (a:Int)) (Pj (s:Int))).run P w=.ok (Pj ((a >>> s:Nat):Int)) w:=by
 rw[binOp_shr,shift_shr_i64 (h₀:=by omega) (h₁:=by omega),Kd,M6];have:((a:Int) / 2 ^ s)=((a / 2 ^ s:Nat):Int):=by norm_cast
 rw[this];rfl
section
variable {P:Program}{Q:Exit→Act→World→Prop}{n:Nat}{σ:Sg}{w wc:World}{L rest:List Oper}{ord:List (Nat×Bool)}{S:World→Prop}{i d:Nat}{ty:TypeId}{pos:String}{af:Array Edge}{g:Option (Nat×Bool)}{t yt:TypeId}{x y:Operand}
theorem fx{a s:Nat}(j:gd L σ ⟨some d,.binOp .shr t x y yt,ty,pos,af,g⟩=some true)(hd:Nat.ble (d+1) n=true)(e:ev σ x=some (Pj (a:Int)))(c:ev σ y=some (Pj (s:Int)))(f:s≤62)
  (h:WL P L Q rest n ((d,Pj ((a >>> s:Nat):Int))::σ) w):WL P L Q (⟨some d,.binOp .shr t x y yt,ty,pos,af,g⟩::rest) n σ w:=by
 refine WL.run j hd (fun k b=>?_) h;have:=Er P w a s f t;simp[execOp,b.ev e,b.ev c,nL (op:=.shr) rfl,this]
theorem cB{a s:Nat}(k:Ac L i=some ⟨some d,.binOp .shr t x y yt,ty,pos,af,g⟩)(l:gd L σ ⟨some d,.binOp .shr t x y yt,ty,pos,af,g⟩=some true)(hd:Nat.ble (d+1) n=true)(f:ev σ x=some (Pj (a:Int)))(e:ev σ y=some (Pj (s:Int)))(j:s≤62)
  (h:HL P L S Q ord n ((d,Pj ((a >>> s:Nat):Int))::σ) wc):HL P L S Q ((i,true)::ord) n σ wc:=by
 refine HL.run k l hd (fun m b c _=>?_) h;have:=Er P c a s j t;simp[execOp,b.ev f,b.ev e,nL (op:=.shr) rfl,this]
end
end Go.Proofs.YtodmkmobdmcfbaaGreat
