import Derived.Test.YtodmkmobdmcfbaaGreatPtJudgeProves13
set_option linter.unusedVariables false
set_option linter.unusedSimpArgs false
set_option linter.defProp false
namespace Go.Proofs.YtodmkmobdmcfbaaGreat
open Go.RowKit
theorem AP{p:cL}{m:List Int}{k:Int}(h:(AO p m k).2=0):k<0∨k<(Gi p).length:=by
 unfold AO at h
 split at h
 ·exact .inr (pD h).2.2.1
 ·rename_i g
  exact .inl OS
theorem AK{p:cL}:∀(l m:List Int),AJ p m l→∀k∈l,k<(Gi p).length
 |[],m,_,k,a=>by simp at a
 |x::r,m,h,k,a=>by
  rcases LN.1 a with rfl|a
  ·rcases AP h.1 with g|g<;>omega
  ·exact AK r _ h.2 k a
set_option maxHeartbeats 1000000 in
theorem dh(w0:World){so fo ao N to:Option Addr}{sc fc ac bc tc:Nat}{hb:Bool}{ns:List cJ}{fl:List cI}{s l:List Int}{t:Ltl}(C:Sl w0 (c9 w0) so sc ns)(hf:Sl w0 (c9 w0) fo fc fl)(j:Sl w0 (c9 w0) ao ac s)(n:Sl w0 (c9 w0) N bc l)(K:Sl w0 (c9 w0) to tc t.kids):
  Rt Tryz.prog 8 [Ck so sc fo fc ns.length fl.length,Iw hb ao ac N bc s l,yj t.k t.n to t.kids.length tc].toArray w0 fun v w'=>v=.tuple ⟨[.bool (Cl (ns,fl) s l t).1,Pj (Cl (ns,fl) s l t).2]⟩∧Ext w0 w':=by
 refine dI Tryz.func8 Tryz.ntmps8 rfl rfl ?_;have a:=Ext.refl w0;refine Pm ?_;refine dZ rfl rfl rfl fun w1 b e1=>?_
 have a:=a.trans e1;skip;refine dZ rfl rfl rfl fun w2 d M=>?_
 have b:=b.ext M;have a:=a.trans M;skip;refine dZ rfl rfl rfl fun R f I=>?_
 have b:=b.ext I;have d:=d.ext I;have a:=a.trans I;refine Pw ?_;refine WL.call rfl rfl rfl (bN R (C.up a) (hf.up a) (j.up a) (n.up a)) ?_;rintro _ Q ⟨mv,rfl,V,D⟩
 have b:=b.ext D;have d:=d.ext D;have f:=f.ext D;have a:=a.trans D;unfold Cl;by_cases p:(qh (ns,fl) s l).2=0
 case neg=>
  have i:((qh (ns,fl) s l).2 != 0)=true:=by simpa using p
  rw[Ov p];refine Qw ?_;rw[i];refine Qr ?_;exact bf rfl rfl rfl ⟨rfl,a⟩
 rw[Ou (by simp[p]),p];refine Qt ?_;refine WL.call rfl rfl rfl (yh Q (K.up a) O8) ?_;rintro _ g ⟨rfl,B⟩
 have b:=b.ext B;have d:=d.ext B;have f:=f.ext B;have a:=a.trans B;by_cases x:(jD t 1 0).1=0
 case neg=>
  have i:((jD t 1 0).1 != 0)=true:=by simpa using x
  rw[Ov x];refine Qw ?_;rw[i];refine Qr ?_;exact bf rfl rfl rfl ⟨rfl,a⟩
 rw[Ou (by simp[x]),x];have c:=qj p;have r:=jK t 1 0 x;have F:=c.sz;have w:=AK _ _ c.ok;obtain⟨mo,mc,rfl,m⟩:=V.sl;have m:=m.up B;have hSE:∀z,(fun z:World=>Ext g z) z→Ext g z:=fun _ h=>h
 have hK3:∀z,(fun z:World=>Ext g z) z→z.heap[w0.heap.size]?=g.heap[w0.heap.size]?:=fun z h=>h.block _ b.lt
 refine PT ?_;refine aF (fun z:World=>Ext g z) [(0,true),(1,true),(2,true),(3,false),(4,true),(5,true),(6,true),(7,true),(8,true),(10,true),(11,true),(12,true),(9,false),(13,false),(14,false),(15,false),(16,false),(17,true),(18,true),(19,true),(20,true)] mixed OT (Ext.drew g) ?_;have hd:=Ext.drew g;refine Rb ?_;refine cu rfl (WL.call rfl rfl rfl (Do (drew g) ((C.up a).at hd) ((hf.up a).at hd) ((j.up a).at hd) ((n.up a).at hd) (m.at hd) c) ?_);rintro _ P ⟨rfl,e⟩
 have e:=hd.trans e;refine WL.nil (a_ e ?_);cases Z:oL (ns,fl) s l
 ·refine Rb ?_
  refine cx rfl rfl rfl e (cx rfl rfl rfl e (cx rfl rfl rfl e (cx rfl rfl rfl e (cx rfl rfl rfl e ?_))));refine Rg ?_;refine Pz ?_;exact bf rfl rfl rfl ⟨rfl,a.trans e⟩
 refine Q9 ?_;refine cu rfl (WL.call rfl rfl rfl (xL P (C.up (a.trans e)) (hf.up (a.trans e)) (j.up (a.trans e)) c.z (fun k G=>w k (LL _ G)) F.1) ?_);rintro lv O ⟨ho7,o⟩
 have o:=e.trans o;refine WL.nil (a_ o ?_);skip;refine cu rfl (WL.call rfl rfl rfl (xL O (C.up (a.trans o)) (hf.up (a.trans o)) (n.up (a.trans o)) c.z (fun k G=>w k (LM _ G)) OS) ?_);rintro lu J ⟨ho8,A⟩
 have H:=o.trans A;refine WL.nil (a_ H ?_);skip;obtain⟨xo,xc,rfl,T⟩:=(ho7.extN A).oldN.sl;obtain⟨yo,yc,rfl,S⟩:=ho8.oldN.sl;have X:(xK (ns,fl) l).length=l.length:=by unfold xK;simp
 have W:(xK (ns,fl) s).length=s.length:=by unfold xK;simp
 refine cu rfl (WL.call rfl rfl rfl (Dq t.nodes t Pf r J (c9 J) to tc xo yo xc yc _ _ (K.up (a.trans H)) T S O8 OS OS (by have:=c.l0;omega)) ?_);rintro hv w9 ⟨ho9,y⟩
 have y:=H.trans y;refine WL.nil (a_ y ?_);skip;have Y:=sf (s:=xK (ns,fl) s) (l:=xK (ns,fl) l) t r;have L:0<(se (xK (ns,fl) s) (xK (ns,fl) l) t).length:=by have:=c.l0;omega
 obtain⟨zo,zc,rfl,E⟩:=ho9.oldN.sl;refine bZ (α:=Bool) (k:=0) y rfl rfl rfl rfl rfl rfl rfl E L O3 (fun u q U=>?_);obtain rfl:=U.bool;rw[show(se (xK (ns,fl) s) (xK (ns,fl) l) t).getD 0 false=(se (xK (ns,fl) s) (xK (ns,fl) l) t)[0] by rw[KR,KX L];rfl];refine Rf ?_;refine Pz ?_;exact bf rfl rfl rfl ⟨rfl,a.trans y⟩
theorem CG{p:cL}{tok st:Int}(h:(Eu p tok st).2=0)(n:Int):((rO p tok st).getD n.toNat (0,0)).1=(At (ow p tok st).1.2 n.toNat).1:=by
 unfold rO;rw[(Ev h).2.2];rfl
theorem CH{p:cL}{tok st:Int}(h:(Eu p tok st).2=0):rW p tok st=Ey (F_ p).1 (ow p tok st).1.2:=by
 unfold rW;rw[(Ev h).2.2]
theorem wa{p:cL}{r:cM}{tok st:Int}{s l:List Int}(f:JdgR p r tok st false s l 0)(h4:r.2.1≠4):
  (pZ r).2=0∧s.length≤1099511627776∧l.length≤1099511627776∧(Cl p s l (pZ r).1=(true,0)∨((Cl p s l (pZ r).1).2=2∧s.length+l.length>60000)):=by
 obtain⟨a,_⟩:=f.pre rfl;obtain⟨hf,h1,h2,h3,_,_,g⟩:=f.ltl rfl h4;obtain⟨ps,pl,hP,rfl,rfl⟩:=g rfl;have b:=(Ev a).1;have c:=hP.l0;refine⟨hf,by rw[Lq];exact hP.sz.1,by rw[Lq];exact hP.sz.2,?_⟩;have e:∀x:List Int,(x.map fun n=>((rO p tok st).getD n.toNat (0,0)).1)=x.map fun n=>(At (ow p tok st).1.2 n.toNat).1:=fun x=>LD fun n _=>CG a n
 rw[e,e];by_cases d:ps.length≤60000∧pl.length≤60000 -ps.length
 ·left
  rw[CH a]at hP
  exact BP b h1 h2 h3 hP d
 ·right
  refine⟨BO (oz b).1 (by rw[Lq];exact c) (by rw[Lq,Lq];exact d),?_⟩;rw[Lq,Lq];omega
set_option maxHeartbeats 2000000 in
theorem cE(w0:World){so fo lo co:Option Addr}{sc fc V cc:Nat}{ns:List cJ}{fl:List cI}{r:cM}(X:Sl w0 (c9 w0) so sc ns)(hf:Sl w0 (c9 w0) fo fc fl)(Y:Sl w0 (c9 w0) lo V r.2.2.2.2.1.kids)(hc:Sl w0 (c9 w0) co cc r.2.2.2.2.2.kids)(tok st:Int):
  Rt Tryz.prog 3 [Ck so sc fo fc ns.length fl.length,DM r lo V co cc,Pj tok,Pj st].toArray w0 fun v w'=>v=.bool true∧Ext w0 w':=by
 refine dJ Tryz.func3 Tryz.ntmps3 rfl rfl ?_;have b:=Ext.refl w0;refine Pm ?_;refine dZ rfl rfl rfl fun w1 a Z=>?_
 have b:=b.trans Z;skip;refine dZ rfl rfl rfl fun w2 c T=>?_
 have a:=a.ext T;have b:=b.trans T;refine Qw ?_;refine WL.call rfl rfl rfl (Gu w2) ?_;rintro _ w3 ⟨⟨p1,q1,p2,q2,rfl,g1,g2⟩,I⟩
 have a:=a.ext I;have c:=c.ext I;have b:=b.trans I;skip;refine WL.call rfl rfl rfl (zp w3) ?_;rintro _ w4 ⟨rfl,z⟩
 have a:=a.ext z;have c:=c.ext z;have b:=b.trans z;skip;refine WL.call rfl rfl rfl (wt w4 (ns:=straightP.1) (fl:=straightP.2) (r:=zi) (g1.up z) (g2.up z) (Sl.zero _ _) (Sl.zero _ _) 1 9) ?_;rintro _ w5 ⟨⟨hb,s,l,e,ao,ac,bo,bc,rfl,g,f,m⟩,H⟩
 obtain⟨rfl,rfl,O⟩:=zl m;have a:=a.ext H;have c:=c.ext H;have b:=b.trans H;have N:=f.len63;clear Z T I z H g1 g2 m;refine QO ?_;refine WL.alloc rfl rfl (fun w6 w S=>?_);refine WL.st rfl rfl rfl w rfl rfl Pd (fun U w D=>?_);have G:Ext w5 U:=S.grown D S.size O5;have a:=a.ext G;have c:=c.ext G;have b:=b.trans G;have C:((l.length:Int)==0)=false:=by rw[Oa];omega
 clear S G D;refine QH ?_;rw[C];refine Qt ?_;refine WL.call rfl rfl rfl (wt U (r:=r) (X.up b) (hf.up b) (Y.up b) (hc.up b) tok st) ?_;rintro _ w8 ⟨⟨hb,s,l,e,ao,ac,bo,bc,rfl,g,f,m⟩,F⟩
 have a:=a.ext F;have c:=c.ext F;have b:=b.trans F;clear C N O w;refine QO ?_;refine WL.alloc rfl rfl (fun w9 d R=>?_);refine WL.st rfl rfl rfl d rfl rfl Pd (fun B d o=>?_);have k:Ext w8 B:=R.grown o R.size O5;have a:=a.ext k;have c:=c.ext k;have b:=b.trans k;have g:=g.up k;have f:=f.up k;clear F R k o;have M:s=[]→l=[]→s.length+l.length=0:=fun h h'=>by rw[h,h'];rfl
 refine Qw ?_
 (refine eX rfl rfl (fun h=>?_) (fun h=>?_))
 ·have Q:e≠0:=by simpa using h
  obtain⟨_,rfl,rfl⟩:=m.bad Q;refine Qs ?_;exact be rfl rfl ⟨rfl,b⟩
 have Q:e=0:=by simpa using h
 subst Q;clear h;refine QV ?_
 (refine eX rfl rfl (fun h=>?_) (fun h=>?_))
 ·subst h
  have K:s=[]∧l=[]:=by
   by_cases h4:r.2.1=4
   ·exact⟨(m.ctl rfl h4).1,(m.ctl rfl h4).2.1⟩
   ·exact(m.ltl rfl h4).2.2.2.2.2.1 rfl
  obtain⟨rfl,rfl⟩:=K;refine Qs ?_;exact be rfl rfl ⟨rfl,b⟩
 subst h;refine P_ ?_;apply CW.cond rfl<;>intro h
 ·have h4:r.2.1=4:=by simpa using h
  obtain⟨rfl,rfl,_⟩:=m.ctl rfl h4;refine Qs ?_;exact be rfl rfl ⟨rfl,b⟩
 have h4:r.2.1≠4:=by simpa using h
 clear h;obtain⟨P,hsz,hlz,u⟩:=wa m h4;refine P1 ?_;refine WL.call rfl rfl rfl (Dp B (Y.up b)) ?_;rintro _ J ⟨x,rfl,W,j⟩
 rw[P];obtain⟨ko,kc,rfl,q⟩:=Rd.ltl W.old;have a:=a.ext j;have c:=c.ext j;have d:=d.ext j;have b:=b.trans j;have g:=g.up j;have f:=f.up j;clear W j;refine QO ?_;refine WL.alloc rfl rfl (fun w12 p y=>?_);refine WL.st rfl rfl rfl p rfl rfl Pd (fun A p n=>?_);have i:Ext J A:=y.grown n y.size O5;have a:=a.ext i;have c:=c.ext i;have d:=d.ext i;have b:=b.trans i;have g:=g.up i;have f:=f.up i;have q:=q.up i;clear y i n;refine Qt ?_;refine WL.call rfl rfl rfl (dh A (t:=(pZ r).1) (X.up b) (hf.up b) g f q) ?_;rintro _ w14 ⟨rfl,E⟩
 have d:=d.ext E;have b:=b.trans E;rcases u with L|⟨L,hgt⟩
 ·rw[L]
  refine Qr ?_;exact be rfl rfl ⟨rfl,b⟩
 ·rw[L]
  generalize (Cl (ns,fl) s l (pZ r).1).1=pb;have hd:decide ((s.length:Int)+(l.length:Int)>60000)=true:=Ol OS;refine Qs ?_;rw[hd];skip;exact be rfl rfl ⟨rfl,b⟩
open Go.ChangeShapes
open Go.WideShapes
open Go.ChangeAt
theorem iS{H:Type}(d:DataW H):1≤Rows.uptoBulk d:=by
 cases d with
 |lit l=>cases l<;>simp[Rows.uptoBulk]
 |nil=>simp[Rows.uptoBulk]
 |ptr d=>simp[Rows.uptoBulk]
 |slice elems spare=>simp[Rows.uptoBulk]
 |agg parts=>simp[Rows.uptoBulk]
 |iface t d=>simp[Rows.uptoBulk]
 |map entries=>simp[Rows.uptoBulk]
 |held h=>simp[Rows.uptoBulk]
theorem iR{H:Type}(l r:List (DataW H)):Rows.uptoBulkAll (l++r)=Rows.uptoBulkAll l+Rows.uptoBulkAll r:=by
 induction l with
 |nil=>simp[Rows.uptoBulkAll]
 |cons x l a=>simp only[Km,Rows.uptoBulkAll,a];omega
class Bk(α:Type)where
 bk:α→Nat
abbrev bk{α:Type}[Bk α]:α→Nat:=Bk.bk
instance tK:Bk Int:=⟨fun _=>1⟩
instance tL:Bk ByteArray:=⟨fun s=>s.size+1⟩
def iJ{α:Type}[Bk α]:List α→Nat
 |[]=>0
 |x::r=>bk x+iJ r
instance tN{α:Type}[Bk α]:Bk (List α):=⟨fun l=>iJ l+1⟩
class Opn(P:Program)(t:TypeId)(α:Type)[Rep α][Bk α]:Prop where
 op:∀{H:Type} {enc:TypeId×Value→H} {w:World} {fuel:Nat} {cs:List Value} {d:DataW H} {ps:List MemPlace},DataW.trod enc P w 0 (fun _=>true) true fuel t cs=some (d,ps)→∃x:α,rd w (c9 w) cs x∧bk x≤Rows.uptoBulk d
theorem Opn.int{P:Program}{t:TypeId}(h:P.underlying t=some (.int .i64)):Opn P t Int where
 op:=by
  intro H enc w fuel cs d ps hd
  cases fuel with
  |zero=>simp[DataW.trod]at hd
  |succ fuel=>
   unfold DataW.trod at hd
   rw[h]at hd
   split at hd<;>try (simp at*;done)
   rename_i k k' n a;simp at a
   split at hd
   ·rename_i b
    simp at hd
    obtain⟨rfl,rfl⟩:=hd;exact⟨n,by rw[b.1,←a];rfl,iS _⟩
   ·cases hd
theorem Opn.string{P:Program}{t:TypeId}(h:P.underlying t=some .string):Opn P t ByteArray where
 op:=by
  intro H enc w fuel cs d ps hd
  cases fuel with
  |zero=>simp[DataW.trod]at hd
  |succ fuel=>
   unfold DataW.trod at hd
   rw[h]at hd
   split at hd<;>try (simp at*;done)
   rename_i s b;split at hd
   ·rename_i a
    simp at hd
    obtain⟨rfl,rfl⟩:=hd;refine⟨s,⟨rfl,a⟩,?_⟩;show s.size+1≤_;simp only[Rows.uptoBulk];have e:s.data.toList.length=s.size:=by rw[JD];rfl
    omega
   ·cases hd
theorem yD{β:Type}(f:Nat→Option β):∀(n:Nat) (a:List β),(List.range n).mapM f=some a→a.length=n∧∀i (h:i<a.length),f i=some a[i]
 |0,a,h=>by
  simp at h;subst h
  exact⟨rfl,fun i hi=>absurd hi OW⟩
 |n+1,a,h=>by
  rw[Mb,List.mapM_append]at h
  simp only[LA,LB,Nh,Nm]at h
  cases h1:(List.range n).mapM f with
  |none=>rw[h1]at h;cases h
  |some l=>
   rw[h1]at h
   cases h2:f n with
   |none=>rw[h2]at h;cases h
   |some y=>
    rw[h2]at h
    simp at h
    subst h;obtain⟨d,hi⟩:=yD f n l h1;refine⟨by simp[d],fun i c=>?_⟩;by_cases b:i<l.length
    ·rw[K6 b];exact hi i b
    ·have:i=n:=by simp at c;omega
     subst this;rw[K7 OS];simpa[d]using h2
theorem yC{w:World}{a:Addr}{n:Nat}{cs:List Value}(h:w.cells? 0 a n=some cs):cs.length=n∧∀j (b:j<cs.length),w.cell? (a.add j)=some cs[j]:=by
 unfold World.cells? at h
 rw[Ov (Nc _)]at h
 exact yD _ n cs h
theorem FI{P:Program}{t e:TypeId}{α:Type}[Rep α][Bk α][L:IsS P t e][V:IsT P e α]{H:Type}{enc:TypeId×Value→H}{w:World}{fuel:Nat}
  (N:∀{cs:List Value} {d:DataW H} {ps:List MemPlace},DataW.trod enc P w 0 (fun _=>true) true fuel e cs=some (d,ps)→∃x:α,rd w (c9 w) cs x∧bk x≤Rows.uptoBulk d)
  {cs:List Value} {d:DataW H} {ps:List MemPlace} (hd:DataW.trod enc P w 0 (fun _=>true) true (fuel+1) t cs=some (d,ps)):∃x:List α,rd w (c9 w) cs x∧bk x≤Rows.uptoBulk d:=by
 unfold DataW.trod at hd
 rw[L.ok]at hd
 obtain⟨U,D,C⟩:=IsT.info (P:=P) (t:=e) (α:=α);have v:P.cellsOf e=sz α:=by simp[Program.cellsOf,D,C]
 have W:0<sz α:=Rep.pos;split at hd<;>try (simp at*;done)
 ·simp at hd
  obtain⟨rfl,rfl⟩:=hd;exact⟨[],⟨none,0,rfl,by simp,by simp[maxLen],fun _=>rfl,fun i hi=>absurd hi OW⟩,iS _⟩
 ·rename_i e' a len cap T
  cases T
  simp only at hd
  split at hd
  ·rename_i q
   obtain⟨_,O,A⟩:=q;rw[v]at hd
   cases B:(List.range len).mapM (fun i=>(w.cells? 0 (a.add (i*sz α)) (sz α)).bind (DataW.trod enc P w 0 (fun _=>true) true fuel e))with
   |none=>rw[B]at hd;cases hd
   |some elems=>
    rw[B]at hd
    simp only[Nj,Ow]at hd
    obtain⟨rest,_,p⟩:=Nl.1 hd;simp only[Nq]at p
    obtain⟨rfl,_⟩:=p;obtain⟨G,f⟩:=yD _ len elems B;have one:∀i (h:i<elems.length),∃x:α,(∃b off,some a=some ⟨b,off,none⟩∧c9 w b∧∃n,Cells w b (off+i*sz α) n∧rd w (c9 w) n x)∧bk x≤Rows.uptoBulk (elems[i]).1:=by
     intro i hi
     have h1:=f i hi;cases m:w.cells? 0 (a.add (i*sz α)) (sz α)with
     |none=>rw[m]at h1;cases h1
     |some n=>
      rw[m]at h1
      simp only[Nj]at h1
      obtain⟨x,M,F⟩:=N (d:=(elems[i]).1) (ps:=(elems[i]).2) h1;obtain⟨X,q⟩:=yC m;have I:=q 0 OS;have c:a.spot=none:=by
       cases z:a.spot with
       |none=>rfl
       |some k=>
        have h2:=f 0 OS;cases g:w.cells? 0 (a.add (0*sz α)) (sz α)with
        |none=>rw[g]at h2;cases h2
        |some es0=>
         obtain⟨Q,E⟩:=yC g;have h3:=E 0 OS;have S:(a.add (0*sz α)).add 0=a:=by simp[Addr.add]
         rw[S]at h3
         unfold World.cell? at h3
         split at h3
         ·simp[z]at h3
         ·cases h3
      obtain⟨b,off,sp⟩:=a;simp only at c
      subst c;rw[N6]at q I
      have r:b<w.heap.size:=N7 w _ I;refine⟨x,⟨b,off,rfl,r,n,?_,M⟩,F⟩;intro j u K
      obtain⟨R,rfl⟩:=KZ.1 K;have:=q j R;rwa[N6]at this
    have all:∀k,k≤elems.length→∃xs:List α,xs.length=k∧(∀i (h:i<xs.length),∃b off,some a=some ⟨b,off,none⟩∧c9 w b∧∃n,Cells w b (off+i*sz α) n∧rd w (c9 w) n xs[i])∧iJ xs≤Rows.uptoBulkAll ((elems.map (·.1)).take k):=by
     intro k
     induction k with
     |zero=>intro _;exact⟨[],rfl,fun i hi=>absurd hi OW,by simp[iJ,Rows.uptoBulkAll]⟩
     |succ k s=>
      intro Y
      obtain⟨xs,h1,h2,h3⟩:=s OS;obtain⟨x,h4,Z⟩:=one k OS;refine⟨xs++[x],by simp[h1],?_,?_⟩
      ·intro i hi
       by_cases o:i<xs.length
       ·rw[K6 o];exact h2 i o
       ·have:i=k:=by simp at hi;omega
        subst this;rw[K7 OS];simpa[h1]using h4
      ·have F:∀(l:List α),iJ (l++[x])=iJ l+bk x:=by
        intro l;induction l with
        |nil=>simp[iJ]
        |cons y l s=>simp only[Km,iJ,s];omega
       rw[F,Mp OZ,iR];simp only[La,Rows.uptoBulkAll];omega
    obtain⟨xs,h1,h2,h3⟩:=all elems.length Pf;have J:xs.length=len:=by omega
    refine⟨xs,⟨some a,cap,by rw[J],⟨by omega,A,(fun h=>by cases h),h2⟩⟩,?_⟩;show iJ xs+1≤_;rw[Mm OW]at h3
    simp only[Rows.uptoBulk];omega
  ·cases hd
theorem Opn.slice{P:Program}{t e:TypeId}{α:Type}[Rep α][Bk α][c:IsS P t e][b:IsT P e α][a:Opn P e α]:Opn P t (List α)where
 op:=by
  intro H enc w fuel cs d ps hd
  cases fuel with
  |zero=>simp[DataW.trod]at hd
  |succ fuel=>exact FI (e:=e) (fun h=>a.op h) hd
theorem AN{P:Program}{w:World}{r:Reach}{base:Nat}{t:TypeId}{v:Value}{d:TypeDesc}(a:P.underlying t=some d)(h:Value.okWide P w r base t v):
  (fR d=false→v.oneCell'=true)∧(fR d=true→∃cs,v=.agg cs):=by
 unfold Value.okWide at h
 rw[a]at h
 constructor
 ·intro hd
  cases v<;>first
   |rfl
   |(exfalso;cases d<;>simp[fR]at hd<;>simp[Cell.okWide,Cell.ok,a]at h)
 ·intro hd
  cases d<;>simp[fR]at hd<;>(obtain⟨cs,rfl,_⟩:=h;exact⟨cs,rfl⟩)
theorem Opn.arg{P:Program}{t:TypeId}{α:Type}[Rep α][Bk α][c:IsT P t α][f:Opn P t α]{H:Type}{enc:TypeId×Value→H}{w:World}{v:Value}{d:DataW H}{ps:List MemPlace}{r:Reach}{base:Nat}
  (b:Value.okWide P w r base t v) (h:DataW.Trod enc P w 0 (fun _=>true) true t v d ps):∃x:α,Rd w (c9 w) v x∧bk x≤Rows.uptoBulk d:=by
 obtain⟨i,dd,_,_,h3,h4⟩:=c.ok;obtain⟨k,j⟩:=AN h3 b;obtain⟨fuel,hf⟩:=h;obtain⟨x,e,g⟩:=f.op hf;refine⟨x,⟨v.cells.toList,?_,e⟩,g⟩;unfold Iu;split
 ·rename_i a
  obtain⟨cs,rfl⟩:=j (h4.trans a);simp[Value.cells]
 ·rename_i a
  have:=k (h4.trans a);cases v<;>first|rfl|(simp[Value.oneCell']at this)
theorem Hp{H:Type}{enc:TypeId×Value→H}{P:Program}(i:laidOutB P=true){W W':World}(j:Ext W W'):∀{c:List TypeId} {vs:List Value} {g:List (DataW H)} {ps:List MemPlace},
  (∀t∈c,P.readableRec t=true∧t<P.types.size)→DataW.TrodAll enc P W 0 (fun _=>true) true c vs g ps→(∀x∈ps,x.block<W.heap.size)→
  DataW.TrodAll enc P W' 0 (fun b=>decide (b<W.heap.size)) true c vs g ps
 |[],[],[],_,_,h,_=>h
 |t::c,v::vs,d::g,ps,f,h,a=>by
  obtain⟨p,q,h1,h2,rfl⟩:=h;exact⟨p,q,Below.trod i (f t OW).1 (f t OW).2 h1 j (fun x e=>a x (by simp[e])),
   Hp i j (fun t k=>f t (by simp[k])) h2 (fun x e=>a x (by simp[e])),rfl⟩
 |[],[],_::_,_,_,h,_=>h.elim
 |[],_::_,[],_,_,h,_=>h.elim
 |[],_::_,_::_,_,_,h,_=>h.elim
 |_::_,[],[],_,_,h,_=>h.elim
 |_::_,[],_::_,_,_,h,_=>h.elim
 |_::_,_::_,[],_,_,h,_=>h.elim
theorem law_post{H:Type}{enc:TypeId×Value→H}{P:Program}{fn:Func}{s:ChangeSpec}{W W':World}{args:Array Value}{a gs:List (DataW H)}{before:List MemPlace}{tb:TypeId}
  (l:laidOutB P=true) (f:DataW.Whole enc P fn.params.toList s.vars false W args.toList a gs before) (g:s.vars=[]) (k:∀t∈fn.params.toList,P.readableRec t=true∧t<P.types.size)
  (c:(s.fn H (a++gs)).results=[.lit (.bool true)]∧(s.fn H (a++gs)).args=a∧(s.fn H (a++gs)).vars=[]) (b:fn.resultTypes=#[tb]) (m:P.underlying tb=some .bool) (i:Ext W W'):
  s.post enc P fn false true false false W args (.bool true) W':=by
 have d:=f.lt;have e:=f;obtain⟨p,q,o,n,rfl,_,_⟩:=f;rw[g]at n
 obtain⟨v,u,r⟩:=c;refine⟨a,gs,p++q,[],p,[],e,?_,?_,?_,i.frame _,fun h=>by cases h⟩
 ·rw[v,b]
  exact trodAll_mk1 (shut_bool m true)
 ·rw[u]
  exact Hp l i k o (fun x j=>d x (by simp[j]))
 ·rw[r,g]
  exact rfl
instance tO{α β:Type}[Bk α][Bk β]:Bk (α×β):=⟨fun x=>bk x.1+bk x.2⟩
class OpnFs(P:Program)(fs:List (TypeId×Nat))(off:Nat)(α:Type)[Rep α][Bk α]:Prop where
 op:∀{H:Type} {enc:TypeId×Value→H} {w:World} {fuel:Nat} {cs:List Value} {xs:List (DataW H×List MemPlace)},off+sz α=cs.length→
  (fs.mapM fun f=>DataW.trod enc P w 0 (fun _=>true) true fuel f.1 ((cs.drop f.2).take (P.cellsOf f.1)))=some xs→∃x:α,rd w (c9 w) (cs.drop off) x∧bk x≤Rows.uptoBulkAll (xs.map (·.1))
theorem jl{P:Program}{t:TypeId}{α:Type}[Rep α][a:IsT P t α]:P.cellsOf t=sz α:=by
 obtain⟨i,h1,h2⟩:=IsT.info (P:=P) (t:=t) (α:=α);simp[Program.cellsOf,h1,h2]
instance OpnFs.one{P:Program}{t:TypeId}{off:Nat}{α:Type}[Rep α][Bk α][e:IsT P t α][b:Opn P t α]:OpnFs P [(t,off)] off α where
 op:=by
  intro H enc w fuel cs xs f h
  simp only[LA,LB,Nh,Nm]at h
  cases h1:DataW.trod enc P w 0 (fun _=>true) true fuel t ((cs.drop off).take (P.cellsOf t))with
  |none=>rw[h1]at h;cases h
  |some d=>
   rw[h1]at h;simp at h;subst h
   obtain⟨d,ps⟩:=d;obtain⟨x,a,c⟩:=b.op h1;rw[jl (α:=α),Mm (by rw[Lm];omega)]at a
   exact⟨x,a,by simpa[Rows.uptoBulkAll]using c⟩
instance OpnFs.cons{P:Program}{t:TypeId}{off:Nat}{f:TypeId×Nat}{fs:List (TypeId×Nat)}{α β:Type}[Rep α][Bk α][Rep β][Bk β][i:IsT P t α][g:Opn P t α][e:OpnFs P (f::fs) (off+sz α) β]:OpnFs P ((t,off)::f::fs) off (α×β)where
 op:=by
  intro H enc w fuel cs xs j h
  rw[LA]at h
  simp only[Nh,Nm]at h
  have a:off+sz α+sz β=cs.length:=by
   have:sz (α×β)=sz α+sz β:=rfl;omega
  cases h1:DataW.trod enc P w 0 (fun _=>true) true fuel t ((cs.drop off).take (P.cellsOf t))with
  |none=>rw[h1]at h;cases h
  |some d=>
   rw[h1]at h
   simp only[Nj]at h
   obtain⟨ys,h2,h3⟩:=Ni.1 h;cases h3
   obtain⟨d,ps⟩:=d;obtain⟨x,b,l⟩:=g.op h1;obtain⟨y,c,k⟩:=e.op a h2;rw[jl (α:=α)]at b
   refine⟨(x,y),⟨(cs.drop off).take (sz α),cs.drop (off+sz α),?_,b,c⟩,?_⟩
   ·rw[←Kx,List.take_append_drop]
   ·show bk x+bk y≤_
    simp only[LE,Rows.uptoBulkAll];omega
def FX(P:Program)(t:TypeId):Option (List (TypeId×Nat)):=match P.underlying t with
 |some (.struct fs)=>some (fs.toList.map fun f=>(f.type,f.offset))
 |_=>none
theorem Opn.struct{P:Program}{t:TypeId}{fs:List (TypeId×Nat)}{α:Type}[Rep α][Bk α][e:IsT P t α][hf:OpnFs P fs 0 α](h:FX P t=some fs):Opn P t α where
 op:=by
  intro H enc w fuel cs d ps hd
  unfold FX at h
  split at h
  ·rename_i gs a
   cases h
   cases fuel with
   |zero=>simp[DataW.trod]at hd
   |succ fuel=>
    unfold DataW.trod at hd
    rw[a]at hd
    simp only at hd
    split at hd
    ·rename_i c
     obtain⟨xs,h1,h2⟩:=Nl.1 hd;cases h2
     have:=hf.op (enc:=enc) (w:=w) (fuel:=fuel) (cs:=cs) (xs:=xs) (by rw[c,jl (α:=α)];omega) (by rw[List.mapM_map];exact h1);obtain⟨x,b,f⟩:=this;exact⟨x,by simpa using b,by simp only[Rows.uptoBulk];omega⟩
    ·cases hd
  ·cases h
instance tM:Opn Tryz.prog 3 Int:=Opn.int NM
instance tZ:Opn Tryz.prog 9 ByteArray:=Opn.string N0
instance tP:Opn Tryz.prog 70 (ByteArray×Int):=Opn.struct (fs:=[(9,0),(3,1)]) OT
instance tQ:Opn Tryz.prog 72 (Int×Int):=Opn.struct (fs:=[(3,0),(3,1)]) OT
instance tR:Opn Tryz.prog 22 (List (ByteArray×Int)):=Opn.slice
instance tT:Opn Tryz.prog 23 (List (Int×Int)):=Opn.slice
instance tU:Opn Tryz.prog 27 (Int×Int×Int×Int×Int×Int×Int):=Opn.struct (fs:=[(3,0),(3,1),(3,2),(3,3),(3,4),(3,5),(3,6)]) OT
instance tX:Opn Tryz.prog 29 (Int×Int×Int×Int):=Opn.struct (fs:=[(3,0),(3,1),(3,2),(3,3)]) OT
instance tY:Opn Tryz.prog 25 (List (ByteArray×Int)×List (Int×Int)):=Opn.struct (fs:=[(22,0),(23,1)]) OT
instance t7:Bk Ltl:=⟨Ltl.nodes⟩
theorem xF{cs:List Value}(h:cs.length=3):∃c0 c1 c2,cs=[c0,c1,c2]:=by
 match cs,h with
 |[a,b,c],_=>exact⟨a,b,c,rfl⟩
theorem yk{H:Type}{enc:TypeId×Value→H}{w:World}:∀(fuel:Nat) {cs:List Value} {d:DataW H} {ps:List MemPlace},DataW.trod enc Tryz.prog w 0 (fun _=>true) true fuel 32 cs=some (d,ps)→∃x:Ltl,rd w (c9 w) cs x∧bk x≤Rows.uptoBulk d:=by
 intro fuel
 induction fuel using Nat.strongRecOn with
 |_ fuel u=>
  intro cs d ps hd
  have a:FX Tryz.prog 32=some [(3,0),(3,1),(30,2)]:=by kernel_rfl
  unfold FX at a
  split at a
  ·rename_i gs v
   have a:=Nn a;cases fuel with
   |zero=>simp[DataW.trod]at hd
   |succ fuel=>
    unfold DataW.trod at hd
    rw[v]at hd
    simp only at hd
    split at hd
    ·rename_i y
     obtain⟨xs,h1,h2⟩:=Nl.1 hd;cases h2
     have h3:(List.map (fun f:Field=>(f.type,f.offset)) gs.toList).mapM (fun f:TypeId×Nat=>DataW.trod enc Tryz.prog w 0 (fun _=>true) true fuel f.1 ((cs.drop f.2).take (Tryz.prog.cellsOf f.1)))=some xs:=by rw[List.mapM_map];exact h1
     rw[a]at h3
     rw[jl (α:=Ltl)]at y
     have o:cs.length=3:=y;simp only[LA,LB,Nh,Nm]at h3
     obtain⟨B,s,h3⟩:=Ni.1 h3;obtain⟨K,h3,g⟩:=Ni.1 h3;obtain⟨A,q,h3⟩:=Ni.1 h3;obtain⟨J,h3,c⟩:=Ni.1 h3;obtain⟨z,i,h3⟩:=Ni.1 h3;simp at h3 c g
     subst h3 c g;obtain⟨d1,p1⟩:=B;obtain⟨d2,p2⟩:=A;obtain⟨d3,L⟩:=z;rw[jl (α:=Int)]at s q
     rw[jl (α:=List Ltl)]at i
     obtain⟨k,D,bk1⟩:=Opn.op (P:=Tryz.prog) (t:=3) (α:=Int) s;obtain⟨n,hn,bk2⟩:=Opn.op (P:=Tryz.prog) (t:=3) (α:=Int) q;cases fuel with
     |zero=>simp[DataW.trod]at i
     |succ fuel=>
      obtain⟨kids,b,bk3⟩:=FI (α:=Ltl) (e:=32) (fun h=>u fuel OS h) i;obtain⟨ao,cap,E,C⟩:=C6 b;have p:=C0 D;have m:=C0 hn;refine⟨.mk k n kids,?_,?_⟩
      ·clear v a h1 s q i u bk1 bk2 bk3
       obtain⟨c0,c1,c2,rfl⟩:=xF o;have I:[c0]=[.int .i64 k]:=p;have a1:[c1]=[.int .i64 n]:=m;have a2:[c2]=[.slice ao kids.length cap]:=E;rw[Kl I|>.1,Kl a1|>.1,Kl a2|>.1];exact RdT.of C
      ·have j:∀l:List Ltl,iJ l=Ltl.nodesL l:=by
        intro l
        induction l with
        |nil=>rfl
        |cons x r ihl=>simp only[iJ,Ltl.nodesL,ihl];rfl
       have G:bk kids=iJ kids+1:=rfl;have F:bk (Ltl.mk k n kids)=1+Ltl.nodesL kids:=by show Ltl.nodes _=_;simp[Ltl.nodes]
       rw[F,←j];simp only[LE,LH,Rows.uptoBulk,Rows.uptoBulkAll];omega
    ·cases hd
  ·cases a
instance t8:Opn Tryz.prog 32 Ltl where
 op:=fun h=>yk _ h
theorem lJ{H:Type}{enc:TypeId×Value→H}{w:World}:∀(fuel:Nat) {cs:List Value} {d:DataW H} {ps:List MemPlace},DataW.trod enc Tryz.prog w 0 (fun _=>true) true fuel 35 cs=some (d,ps)→∃x:Ltl,rd w (c9 w) cs x∧bk x≤Rows.uptoBulk d:=by
 intro fuel
 induction fuel using Nat.strongRecOn with
 |_ fuel u=>
  intro cs d ps hd
  have a:FX Tryz.prog 35=some [(3,0),(3,1),(33,2)]:=by kernel_rfl
  unfold FX at a
  split at a
  ·rename_i gs v
   have a:=Nn a;cases fuel with
   |zero=>simp[DataW.trod]at hd
   |succ fuel=>
    unfold DataW.trod at hd
    rw[v]at hd
    simp only at hd
    split at hd
    ·rename_i y
     obtain⟨xs,h1,h2⟩:=Nl.1 hd;cases h2
     have h3:(List.map (fun f:Field=>(f.type,f.offset)) gs.toList).mapM (fun f:TypeId×Nat=>DataW.trod enc Tryz.prog w 0 (fun _=>true) true fuel f.1 ((cs.drop f.2).take (Tryz.prog.cellsOf f.1)))=some xs:=by rw[List.mapM_map];exact h1
     rw[a]at h3
     rw[jl (α:=Ltl)]at y
     have o:cs.length=3:=y;simp only[LA,LB,Nh,Nm]at h3
     obtain⟨B,s,h3⟩:=Ni.1 h3;obtain⟨K,h3,g⟩:=Ni.1 h3;obtain⟨A,q,h3⟩:=Ni.1 h3;obtain⟨J,h3,c⟩:=Ni.1 h3;obtain⟨z,i,h3⟩:=Ni.1 h3;simp at h3 c g
     subst h3 c g;obtain⟨d1,p1⟩:=B;obtain⟨d2,p2⟩:=A;obtain⟨d3,L⟩:=z;rw[jl (α:=Int)]at s q
     rw[jl (α:=List Ltl)]at i
     obtain⟨k,D,bk1⟩:=Opn.op (P:=Tryz.prog) (t:=3) (α:=Int) s;obtain⟨n,hn,bk2⟩:=Opn.op (P:=Tryz.prog) (t:=3) (α:=Int) q;cases fuel with
     |zero=>simp[DataW.trod]at i
     |succ fuel=>
      obtain⟨kids,b,bk3⟩:=FI (α:=Ltl) (e:=35) (fun h=>u fuel OS h) i;obtain⟨ao,cap,E,C⟩:=C6 b;have p:=C0 D;have m:=C0 hn;refine⟨.mk k n kids,?_,?_⟩
      ·clear v a h1 s q i u bk1 bk2 bk3
       obtain⟨c0,c1,c2,rfl⟩:=xF o;have I:[c0]=[.int .i64 k]:=p;have a1:[c1]=[.int .i64 n]:=m;have a2:[c2]=[.slice ao kids.length cap]:=E;rw[Kl I|>.1,Kl a1|>.1,Kl a2|>.1];exact RdT.of C
      ·have j:∀l:List Ltl,iJ l=Ltl.nodesL l:=by
        intro l
        induction l with
        |nil=>rfl
        |cons x r ihl=>simp only[iJ,Ltl.nodesL,ihl];rfl
       have G:bk kids=iJ kids+1:=rfl;have F:bk (Ltl.mk k n kids)=1+Ltl.nodesL kids:=by show Ltl.nodes _=_;simp[Ltl.nodes]
       rw[F,←j];simp only[LE,LH,Rows.uptoBulk,Rows.uptoBulkAll];omega
    ·cases hd
  ·cases a
instance t6:Opn Tryz.prog 35 Ltl where
 op:=fun h=>lJ _ h
instance t_:IsT Tryz.prog 37 (ByteArray×Int×(Int×Int×Int×Int×Int×Int×Int)×(Int×Int×Int×Int)×Ltl×Ltl):=IsT.of OT NQ rfl
instance ua:Opn Tryz.prog 37 (ByteArray×Int×(Int×Int×Int×Int×Int×Int×Int)×(Int×Int×Int×Int)×Ltl×Ltl):=Opn.struct (fs:=[(9,0),(3,1),(27,2),(29,9),(32,13),(35,16)]) OT
end Go.Proofs.YtodmkmobdmcfbaaGreat
