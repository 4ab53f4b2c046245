import Derived.Test.YtfpjecjadlgdcaaGreatDoorPtTopBounds9
set_option linter.unusedVariables false
set_option linter.unusedSimpArgs false
set_option linter.defProp false
namespace Go.Proofs.YtfpjecjadlgdcaaGreatDoor
open Go.RowKit
theorem Fe{s:Nat}(a:s<62):IntKind.i64.wrap (1*2 ^ min ((s:Int)).toNat IntKind.i64.bits)=(2:Int) ^ s:=by
 have h1:min s (IntKind.bits .i64)=s:=by show min s 64=s;omega
 have h2:=Cc (show s<62 by omega);have h3:=Cd s;simp only[Kb,h1,Ka];rw[Jk O7 O7]
theorem Cells.tl'{w:World}{b o:Nat}{x:Value}{r:List Value}(h:Cells w b o (x::r)):Cells w b (o+1) r:=fun j u a=>by
 have:=h (j+1) u (by simpa using a);rwa[show o+(j+1)=o+1+j by omega]at this
theorem Sl.nodeK{w:World}{F:Nat→Prop}{ao:Option Addr}{cap:Nat}{xs:List cG}(h:Sl w F ao cap xs){i:Nat}(hi:i<xs.length):∃b off,ao=some ⟨b,off,none⟩∧F b∧Cells w b (off+i*2+1) [Py xs[i].2]:=by
 obtain⟨b,off,e,f,g,c,d⟩:=h.el i hi;obtain⟨c1,c2,rfl,h1,h2⟩:=C8 d;have a:=h1.1;subst a;rw[C3 h2]at c
 exact⟨b,off,e,f,c.tl'⟩
theorem C0(w:World)(F:Nat→Prop)(a b c:Int):Rd w F (.agg [Py a,Py b,Py c].toArray) ((a,b,c):cK):=Rd.mkPr (c1:=[Py a]) (c2:=[Py b,Py c]) (C5 _ _ _) (C4 (C5 _ _ _) (C5 _ _ _))
theorem GJ{α β:Type}(f:α→β){l:List α}{i:Nat}(h:i<l.length):(l.take (i+1)).map f=(l.take i).map f++[f l[i]]:=by
 rw[←Mj h,LE];rfl
instance uS:Flat cK:=⟨fun h=>h⟩
set_option maxHeartbeats 1000000 in
theorem Ax(w0:World){so fo:Option Addr}{sc fc:Nat}{ns:List cG}{fl:List cF}(hs:Sl w0 (c7 w0) so sc ns)(hf:Sl w0 (c7 w0) fo fc fl)(P:jL (ns,fl)=0){n:Nat}(hn:n<ns.length):
  Rt Tryz.prog 76 [Cq so sc fo fc ns.length fl.length,Py (n:Int)].toArray w0 fun v w'=>Own w' w0.heap.size 163 cZ v (Gd (ns,fl) n)∧Ext w0 w':=by
 have V:=jM P;have X:=V.f;dsimp only at X
 have J:xT (ns,fl) (n:Int)=0:=by
  unfold xT;rw[OJ (by simp[P]),OJ Pa]
 have K:xb (ns,fl) n=ns[n].2:=by unfold xb;rw[qL hn]
 have h7:ns[n].2=7→(A8 fl (n:Int)).length≤4:=fun h=>AJ V hn (by rw[K];exact h)
 have hil:(vT fl (n:Int)).length≤fl.length:=vW;have hol:(A8 fl (n:Int)).length≤fl.length:=Ba;have C:Gd (ns,fl) n=F6 ns[n].2 (n:Int) (vT fl (n:Int)) (A8 fl (n:Int)).length:=by unfold Gd;rw[K]
 rw[C];refine dE Tryz.func76 Tryz.ntmps76 rfl rfl ?_;have g:=Ext.refl w0;refine PB ?_;refine dX rfl rfl rfl fun w1 A e1=>?_
 have g:=g.trans e1;refine Q4 ?_;refine WL.call rfl rfl rfl (cB w1 (hs.up g) (hf.up g) (n:Int)) ?_;rintro _ w2 ⟨x,rfl,H,e2⟩
 rw[J,OK rfl]at H
 have A:=A.ext e2;have g:=g.trans e2;obtain⟨xo,xc,rfl,u⟩:=H.oldN.sl;refine Q4 ?_;refine WL.call rfl rfl rfl (c8 w2 (hs.up g) (hf.up g) (n:Int)) ?_;rintro _ r ⟨y,rfl,G,e3⟩
 rw[J,OK rfl]at G
 have A:=A.ext e3;have g:=g.trans e3;have u:=u.up e3;obtain⟨yo,yc,rfl,hys⟩:=G.oldN.sl;clear H G e1 e2 e3 J C P K;generalize vT fl (n:Int)=ins at*
 generalize (A8 fl (n:Int)).length=o at*
 have Z:=g.size;refine QX ?_;rw[Fe (show o<62 by omega)];obtain⟨t,z⟩:∃t,t=(2:Int) ^ o:=⟨_,rfl⟩;have hp1:=Cd o;have hp2:=Cb (show o≤30 by omega);have hp3:(2:Int) ^ 30=1073741824:=by decide
 rw[←z]at hp1 hp2⊢
 rw[Jk (show -9223372036854775808≤t -1 by omega) O7];obtain⟨nb,off,rfl,hnb,W⟩:=(hs.at g).nodeK hn;skip;refine eH (α:=cG) rfl rfl rfl rfl O7 O7 ?_;refine Rm ?_;refine WL.load (α:=Int) (F:=cZ) (y:=ns[n].2) rfl rfl rfl (by rw[Kb];exact W) rfl ?_;rw[show Iq Int [Py ns[n].2]=Py ns[n].2 from rfl];generalize ns[n].2=k at*
 clear W hnb;skip;apply WL.nil;apply bz;apply CW.block;refine az [(1,Py (n:Int)),(5,.slice xo ins.length xc),(7,.slice yo o yc),(9,Py (t -1)),(10,.slice none 0 0),(38,Py k),(39,.bool (decide (k=4∨k=2∨k=3)))] ?_ ?_
 ·refine Qt ?_
  by_cases h4:k=4
  ·subst h4
   refine P5 ?_;exact aS O6
  have b4:(k==4)=false:=by simpa using h4
  rw[b4];refine QA ?_;by_cases h2:k=2
  ·subst h2
   refine P5 ?_;exact aS O6
  have b2:(k==2)=false:=by simpa using h2
  rw[b2];refine QA ?_;rw[show decide (k=4∨k=2∨k=3)=(k==3) by rw[JN];simp[h4,h2]];exact aS O6
 by_cases hd:k=4∨k=2∨k=3
 ·have d:F6 k (n:Int) ins o=ins.map fun f=>((n:Int),f,t -1):=by unfold F6;rw[OK hd,z]
  rw[d,OC hd];refine Qd ?_;refine CW.loop (S:=Nat×Value) (fun s=>[(1,Py (n:Int)),(9,Py (t -1)),(10,s.2),(43,.slice xo ins.length xc),(44,Py ins.length),(45,Py s.1)])
   (fun s w=>s.1≤ins.length∧Own w r.heap.size 163 cZ s.2 ((ins.take s.1).map fun f=>(((n:Int),f,t -1):cK))∧Ext r w) (fun s=>ins.length -s.1) (0,.slice none 0 0) O6 ⟨Nc _,Own.nil,Ext.refl _⟩ ?_
  rintro⟨i,ov⟩ w4 ⟨hi,c,m⟩
  dsimp only at hi c⊢
  refine Qt ?_;apply CW.cond rfl<;>intro h
  ·have e:i<ins.length:=by simp at h;omega
   have I:=GJ (fun f=>(((n:Int),f,t -1):cK)) e;refine Rb ?_;refine eB rfl rfl rfl rfl rfl (u.up m) e rfl Pg (fun q=>?_);refine Qq ?_;refine WL.build rfl rfl rfl rfl ?_;refine dW (F:=cZ) (yv:=(((n:Int),ins[i],t -1):cK)) rfl rfl Pg rfl rfl Pg c (C0 _ _ _ _ _) m.size Pj O9 (by rw[Ls,LB];unfold maxLen;omega) (by rw[Ls,LB];omega) (fun U w5 p ho5 M hnb=>?_);rw[←I]at ho5
   have E:Ext r w5:=m.grown M m.size (fun b R=>(c.lt b R).1);refine Qc ?_;exact EX.back (i+1,U) O6 ⟨e,ho5,E⟩ Pa
  ·obtain rfl:i=ins.length:=by simp at h;omega
   rw[Mk]at c
   refine P6 ?_;exact be rfl rfl ⟨c.low Z,g.trans m⟩
 rw[Oz hd];refine QA ?_;by_cases Y:k=5
 ·subst Y
  have d:F6 5 (n:Int) ins o=ins.flatMap fun f=>(List.range o).map fun k:Nat=>((n:Int),f,(2:Int) ^ k):=by unfold F6;rw[OJ hd,OK rfl]
  rw[d];have O:∀l:List Int,(l.flatMap fun f=>(List.range o).map fun k:Nat=>(((n:Int),f,(2:Int) ^ k):cK)).length=l.length*o:=fun l=>by
   induction l with
   |nil=>simp
   |cons a l ih=>rw[KN,Ll,ih];simp[Mt];omega
  refine Qd ?_;refine CW.loop (S:=Nat×Value) (fun s=>[(1,Py (n:Int)),(7,.slice yo o yc),(10,s.2),(59,.slice xo ins.length xc),(60,Py ins.length),(61,Py s.1)])
   (fun s w=>s.1≤ins.length∧Own w r.heap.size 163 cZ s.2 ((ins.take s.1).flatMap fun f=>(List.range o).map fun k:Nat=>(((n:Int),f,(2:Int) ^ k):cK))∧Ext r w) (fun s=>ins.length -s.1) (0,.slice none 0 0) O6 ⟨Nc _,Own.nil,Ext.refl _⟩ ?_
  rintro⟨i,ov⟩ w4 ⟨hi,c,m⟩
  dsimp only at hi c⊢
  refine Qt ?_;apply CW.cond rfl<;>intro h
  ·have e:i<ins.length:=by simp at h;omega
   have D:=O (ins.take i);rw[LB,MS hi]at D
   have hmul:i*o≤30*30:=MV O7 O7;generalize Q:((ins.take i).flatMap fun f=>(List.range o).map fun k:Nat=>(((n:Int),f,(2:Int) ^ k):cK))=base at c D
   refine Rb ?_;refine eB rfl rfl rfl rfl rfl (u.up m) e rfl Pg (fun q=>?_);refine Q3 ?_;refine CW.loop (S:=Nat×Value) (fun s=>[(1,Py (n:Int)),(7,.slice yo o yc),(10,s.2),(14,Py ins[i]),(59,.slice xo ins.length xc),(60,Py ins.length),(61,Py i),(66,Py o),(67,Py s.1)])
    (fun s w=>s.1≤o∧Own w r.heap.size 163 cZ s.2 (base++(List.range s.1).map fun k:Nat=>(((n:Int),ins[i],(2:Int) ^ k):cK))∧Ext r w) (fun s=>o -s.1) (0,ov) O6 ⟨Nc _,by simpa using c,m⟩ ?_
   rintro⟨j,ov⟩ w5 ⟨hj,c,E⟩
   dsimp only at hj c⊢
   refine Qt ?_;apply CW.cond rfl<;>intro h
   ·have hj':j<o:=by simp at h;omega
    refine PT ?_;rw[Fe (show j<62 by omega)];refine WL.build rfl rfl rfl rfl ?_;refine dW (F:=cZ) (yv:=(((n:Int),ins[i],(2:Int) ^ j):cK)) rfl rfl Pg rfl rfl Pg c (C0 _ _ _ _ _) E.size Pj O9 (by rw[Ll,Ls,Lv];unfold maxLen;omega) (by rw[Ll,Ls,Lv];omega) (fun U w6 p ho6 L hnb=>?_);have e6:Ext r w6:=E.grown L E.size (fun b R=>(c.lt b R).1);refine Qc ?_;refine EX.back (j+1,U) O6 ⟨hj',?_,e6⟩ Pa;dsimp only;rw[Mb,LE,←Kh];exact ho6
   ·obtain rfl:j=o:=by simp at h;omega
    refine Qe ?_;refine EX.back (i+1,ov) O6 ⟨e,?_,E⟩ Pa;dsimp only;rw[←Mj e,KM,Q];simpa using c
  ·obtain rfl:i=ins.length:=by simp at h;omega
   rw[Mk]at c
   refine P6 ?_;exact be rfl rfl ⟨c.low Z,g.trans m⟩
 have b5:(k==5)=false:=by simpa using Y
 rw[b5];refine QA ?_;by_cases h6:k=6
 ·subst h6
  have d:F6 6 (n:Int) ins o=[((n:Int),-1,t -1)]:=by unfold F6;rw[OJ hd,OJ Y,OK rfl,z]
  rw[d];refine QB ?_;refine WL.build rfl rfl rfl rfl ?_;refine dW (F:=cZ) (B:=r.heap.size) (xs:=[]) (yv:=(((n:Int),-1,t -1):cK)) rfl rfl Pg rfl rfl Pg Own.nil (C0 _ _ _ _ _) Pu Pj O9 (by simp[maxLen]) O_ (fun U w6 p ho6 L hnb=>?_);have e6:Ext r w6:=(Ext.refl _).grown L Pu (fun b R=>by cases R);refine QU ?_;exact be rfl rfl ⟨ho6.low Z,g.trans e6⟩
 have b6:(k==6)=false:=by simpa using h6
 rw[b6];refine QA ?_;by_cases T:k=7
 ·subst T
  have ho4:=h7 rfl;have d:F6 7 (n:Int) ins o=(List.range (2 ^ o -1)).map fun k:Nat=>((n:Int),-1,(k:Int)+1):=by unfold F6;rw[OJ hd,OJ Y,OJ h6,OK rfl]
  rw[d];have hpn:t=((2 ^ o:Nat):Int):=by rw[z];push_cast;rfl
  have hN1:=M0 (n:=o);have hN2:2 ^ o≤2 ^ 4:=M4 O7 ho4;obtain⟨N,hN⟩:∃N,N=2 ^ o:=⟨_,rfl⟩;rw[←hN]at hpn hN1 hN2⊢
  have hN3:N≤16:=by have:2 ^ 4=16:=by decide
                    omega
  refine Qd ?_;refine CW.loop (S:=Nat×Value) (fun s=>[(1,Py (n:Int)),(9,Py (t -1)),(10,s.2),(16,Py ((s.1:Int)+1))])
   (fun s w=>s.1≤N -1∧Own w r.heap.size 163 cZ s.2 ((List.range s.1).map fun k:Nat=>(((n:Int),-1,(k:Int)+1):cK))∧Ext r w) (fun s=>N -s.1) (0,.slice none 0 0) O6 ⟨Nc _,Own.nil,Ext.refl _⟩ ?_
  rintro⟨i,ov⟩ w4 ⟨hi,c,m⟩
  dsimp only at hi c⊢
  refine Qt ?_;apply CW.cond rfl<;>intro h
  ·have e:i<N -1:=by simp at h;omega
   refine PX ?_;refine WL.build rfl rfl rfl rfl ?_;refine dW (F:=cZ) (yv:=(((n:Int),-1,(i:Int)+1):cK)) rfl rfl Pg rfl rfl Pg c (C0 _ _ _ _ _) m.size Pj O9 (by rw[Ls,Lv];unfold maxLen;omega) (by rw[Ls,Lv];omega) (fun U w5 p ho5 M hnb=>?_);have E:Ext r w5:=m.grown M m.size (fun b R=>(c.lt b R).1);refine Qc ?_;refine EX.back (i+1,U) O6 ⟨by dsimp only;omega,?_,E⟩ Pa;dsimp only;rw[Mb,LE];exact ho5
  ·obtain rfl:i=N -1:=by simp at h;omega
   refine P6 ?_;exact be rfl rfl ⟨c.low Z,g.trans m⟩
 have b7:(k==7)=false:=by simpa using T
 rw[b7];have d:F6 k (n:Int) ins o=[]:=by unfold F6;rw[OJ hd,OJ Y,OJ h6,OJ T]
 rw[d];refine Qh ?_;exact be rfl rfl ⟨Own.nil,g⟩
theorem c6(w0:World){so fo:Option Addr}{sc fc:Nat}{ns:List cG}{fl:List cF}(p:Sl w0 (c7 w0) so sc ns)(hf:Sl w0 (c7 w0) fo fc fl):
  Rt Tryz.prog 35 [Cq so sc fo fc ns.length fl.length].toArray w0 fun v w'=>∃x,v=.tuple ⟨[x,Py (F4 (ns,fl)).2]⟩∧Own w' w0.heap.size 163 cZ x (F4 (ns,fl)).1∧Ext w0 w':=by
 have E:=p.len63;refine dD Tryz.func35 Tryz.ntmps35 rfl rfl ?_;have c:=Ext.refl w0;refine PB ?_;refine dX rfl rfl rfl fun C j J=>?_
 have c:=c.trans J;unfold F4;refine Q4 ?_;refine WL.call rfl rfl rfl (aK C (p.up c) (hf.up c)) ?_;rintro _ n ⟨rfl,y⟩
 have j:=j.ext y;have c:=c.trans y;refine Qt ?_;apply CW.cond rfl<;>intro h
 ·have h:jL (ns,fl)≠0:=by simpa using h
  refine QO ?_;refine bf rfl rfl rfl ⟨_,by rw[OK h],?_,c⟩;rw[OK h];exact Own.nil
 have g:jL (ns,fl)=0:=by simpa using h
 have d:=jM g;have m:=d.n;dsimp only at m
 rw[OJ (by simp[g])];have z:=c.size;refine QP ?_;refine CW.loop (S:=Nat×Value) (fun s=>[(1,Pz w0.heap.size),(5,s.2),(14,Py ns.length),(15,Py s.1)])
  (fun s w=>s.1≤ns.length∧Own w n.heap.size 163 cZ s.2 (Ge (ns,fl) s.1)∧Ext n w) (fun s=>ns.length -s.1) (0,.slice none 0 0) O6 ⟨Nc _,Own.nil,Ext.refl _⟩ ?_
 rintro⟨i,ov⟩ B ⟨hi,k,t⟩
 dsimp only at hi k⊢
 have G:=j.ext t;have a:=c.trans t;have u:=Gf d i hi;refine Qt ?_;apply CW.cond rfl<;>intro h
 ·have f:i<ns.length:=by simp at h;omega
  have e:=Gf d (i+1) f;rw[Gg,Ll]at e
  refine QN ?_;refine WL.call rfl rfl rfl (Ax B (p.up a) (hf.up a) g f) ?_;rintro sv K ⟨q,l⟩
  have k:=k.extN l;have l:=t.trans l;obtain⟨so',sc',rfl,o⟩:=q.oldN.sl;skip;refine WL.app (F:=cZ) rfl rfl rfl rfl k o.srcN l.size Pj Pb O7 (fun D A ho5 r _=>?_);rw[←Gg]at ho5
  have I:Ext n A:=l.grown r l.size (fun b H=>(k.lt b H).1);refine Qc ?_;exact EX.back (i+1,D) O6 ⟨f,ho5,I⟩ Pa
 obtain rfl:i=ns.length:=by simp at h;omega
 refine Q9 ?_;apply CW.cond rfl<;>intro h
 ·have h:(Ga (ns,fl)).length>60:=by simp at h;show(Ge (ns,fl) ns.length).length>60;omega
  refine QO ?_;refine bf rfl rfl rfl ⟨_,by rw[OK h],?_,a⟩;rw[OK h];exact Own.nil
 ·have h:¬(Ga (ns,fl)).length>60:=by simp at h;show¬(Ge (ns,fl) ns.length).length>60;omega
  refine QU ?_;refine bf rfl rfl rfl ⟨_,by rw[OJ h],?_,a⟩;rw[OJ h];exact k.low z
def FV(s:cK):Value:=.agg [.int .i64 s.1,.int .i64 s.2.1,.int .i64 s.2.2].toArray
theorem Rd.step{w:World}{F:Nat→Prop}{v:Value}{x:cK}(h:Rd w F v x):v=FV x:=by
 obtain⟨c1,c2,rfl,h1,h2⟩:=h.pr;obtain⟨c3,c4,rfl,h3,h4⟩:=C8 h2;rw[C3 h1,C3 h3,C3 h4];rfl
section
variable {Q:Exit→Act→World→Prop}{n:Nat}{σ:Sg}{w:World}{L rest:List Oper}{d:Nat}{ty:TypeId}{pos:String}{af:Array Edge}{g:Option (Nat×Bool)}{yt:TypeId}{x y:Operand}
end
theorem Cells.tl{w:World}{b o:Nat}{x:Value}{r:List Value}(h:Cells w b o (x::r)):Cells w b (o+1) r:=fun j u a=>by
 have:=h (j+1) u (by simpa using a);rwa[show o+(j+1)=o+1+j by omega]at this
theorem Sl.pair{w:World}{F:Nat→Prop}{ao:Option Addr}{cap:Nat}{xs:List (Int×Int)}(h:Sl w F ao cap xs){i:Nat}(hi:i<xs.length):∃b off,ao=some ⟨b,off,none⟩∧F b∧Cells w b (off+i*2) [Py xs[i].1]∧Cells w b (off+i*2+1) [Py xs[i].2]:=by
 obtain⟨b,off,e,f,g,a,d⟩:=h.el i hi;obtain⟨c1,c2,rfl,h1,h2⟩:=C8 d;rw[C3 h1,C3 h2]at a
 exact⟨b,off,e,f,fun j u c=>a j u (by cases j with|zero=>simpa using c|succ j=>simp at c),a.tl⟩
theorem xU{p:cI}(h:jL p=0){n:Nat}(hn:n<p.1.length):xT p (n:Int)=0:=by
 unfold xT;rw[OJ (by simp[h]),OJ O7]
section
variable {P:Program}{Q:Exit→Act→World→Prop}{n:Nat}{σ:Sg}{w:World}{L rest:List Oper}{d:Nat}{ty:TypeId}{pos:String}{af:Array Edge}{g:Option (Nat×Bool)}{t e:TypeId}{α:Type}[Rep α]
end
section
variable {P:Program}{Q:Exit→Act→World→Prop}{n:Nat}{σ:Sg}{w:World}{L rest:List Oper}{d:Nat}{ty:TypeId}{pos:String}{af:Array Edge}{g:Option (Nat×Bool)}{t yt:TypeId}{x y:Operand}
end
theorem F5{p:cI}(h:(F4 p).2=0):jL p=0∧(F4 p).1=Ga p∧(Ga p).length≤60:=by
 unfold F4 at h⊢
 split at h
 ·rename_i h1;exact absurd h h1
 ·split at h
  ·simp at h
  ·rename_i h1 h2
   rw[OJ h1,OJ h2];exact⟨by simpa using h1,rfl,by omega⟩
def oU(f:Nat→Int)(F i:Nat):List Int:=(List.range F).map fun j=>if j<i then f j else 0
theorem oW{f:Nat→Int}{F i:Nat}:(oU f F i).length=F:=by simp[oU]
theorem oZ{f:Nat→Int}{F:Nat}:oU f F 0=List.replicate F 0:=by
 unfold oU;apply KD O_;intro j h1 h2;simp
theorem oX{f:Nat→Int}{F i:Nat}(hi:i<F):(oU f F i).set i (f i)=oU f F (i+1):=by
 unfold oU;apply KD O_;intro j h1 h2
 rw[Lf];simp only[Lb,Ld];by_cases e:i=j
 ·subst e;rw[OK rfl,OK O7]
 ·rw[OJ e]
  by_cases h:j<i
  ·rw[OK h,OK O7]
  ·rw[OJ h,OJ O7]
theorem oY{f:Nat→Int}{F i:Nat}(a:f i=0):oU f F i=oU f F (i+1):=by
 unfold oU;apply KD O_;intro j h1 h2
 simp only[Lb,Ld];by_cases e:i=j
 ·subst e;rw[OJ O7,OK O7,a]
 ·by_cases h:j<i
  ·rw[OK h,OK O7]
  ·rw[OJ h,OJ O7]
theorem Rd.pairI{w:World}{F:Nat→Prop}{v:Value}{x:Int×Int}(h:Rd w F v x):v=.agg [Py x.1,Py x.2].toArray:=by
 obtain⟨c1,c2,rfl,h1,h2⟩:=h.pr;rw[C3 h1,C3 h2];rfl
theorem xe{ns:List cG}{fl:List cF}{n:Nat}(h:n<ns.length):xb (ns,fl) n=ns[n].2:=by unfold xb;rw[qL h]
theorem AI{ns:List cG}{fl:List cF}(h:OkPr (ns,fl)){i:Nat}(hi:i<fl.length):∃a b:Nat,fl[i].1=(a:Int)∧fl[i].2=(b:Int)∧a<ns.length∧b<ns.length:=by
 have:=h.flows _ (Lc hi);dsimp only at this
 exact⟨fl[i].1.toNat,fl[i].2.toNat,by omega,by omega,by omega,by omega⟩
theorem aq(w0:World){so fo:Option Addr}{sc fc:Nat}{ns:List cG}{fl:List cF}(B:Sl w0 (c7 w0) so sc ns)(hf:Sl w0 (c7 w0) fo fc fl):
  Rt Tryz.prog 63 [Cq so sc fo fc ns.length fl.length].toArray w0 fun v w'=>∃x,v=.tuple ⟨[x,Py (F4 (ns,fl)).2]⟩∧Own w' w0.heap.size 3 cZ x (if(F4 (ns,fl)).2=0 then hZ (ns,fl)else [])∧Ext w0 w':=by
 have Y:=B.len63;have Z:=hf.len63;refine dD Tryz.func63 Tryz.ntmps63 rfl rfl ?_;have e:=Ext.refl w0;refine PB ?_;refine dX rfl rfl rfl fun W c e1=>?_
 have e:=e.trans e1;refine Q4 ?_;refine WL.call rfl rfl rfl (c6 W (B.up e) (hf.up e)) ?_;rintro _ m ⟨x,rfl,C,R⟩
 have c:=c.ext R;have e:=e.trans R;by_cases n:(F4 (ns,fl)).2=0
 case neg=>
  have A:((F4 (ns,fl)).2 != 0)=true:=by simpa using n
  refine Qt ?_;rw[A];refine Q6 ?_;refine bf rfl rfl rfl ⟨_,rfl,?_,e⟩;rw[OJ n];exact Own.nil
 obtain⟨H,_,_⟩:=F5 n;rw[OK n,n];have f:=jM H;have o:=f.n;have s:=f.f;dsimp only at o s
 clear C;refine QI ?_;refine eW (α:=Int) rfl rfl rfl rfl O7 Pb (fun K ho3 r=>?_);have hE3:Ext w0 K:=e.grown r e.size Pn;have Q:Ext m K:=(JI _ _).grown r Pu Pn;have I:=c;have c:=c.ext Q;have hlt:=(ho3.lt _ rfl).2.1;generalize X:Value.slice (some ⟨m.heap.size,0,none⟩) fl.length fl.length=sv at*
 refine QX ?_;refine CW.loop (S:=Nat) (fun i=>[(1,Pz w0.heap.size),(6,sv),(22,.slice fo fl.length fc),(23,Py fl.length),(24,Py i)])
  (fun i w=>i≤fl.length∧Own w m.heap.size 3 cZ sv (oU (fun j=>if xb (ns,fl) (fl.getD j (0,0)).1.toNat=1 then 1 else 0) fl.length i)∧Ext m w) (fun i=>fl.length -i) 0 O6 ⟨by omega,by rw[oZ];exact ho3,Q⟩ ?_
 rintro i V ⟨hi,g,z⟩
 have c:=I.ext z;have k:=e.trans z;refine Qt ?_;apply CW.cond rfl<;>intro h
 ·have d:i<fl.length:=by simp at h;omega
  obtain⟨a,b,ea,eb,O,N⟩:=AI f d;refine PX ?_;refine eC rfl rfl rfl rfl rfl (hf.up k) d Pg (fun u q L=>?_);rw[L.pairI,ea,eb];clear L;skip;refine WL.alloc rfl rfl (fun w5 t P=>?_);refine Ri ?_;refine WL.st rfl rfl rfl t rfl rfl Pr (fun U t G=>?_);have l:Ext V U:=P.grown G P.size Pi;have c:=c.ext l;have J:=k.trans l;have g:=g.extN l;obtain⟨nb,off,rfl,hnb,D⟩:=(B.at J).nodeK O;have p:xb (ns,fl) (fl.getD i (0,0)).1.toNat=ns[a].2:=by rw[qH d,ea,Kb,xe O]
  refine QR ?_;refine eH (α:=cG) rfl rfl rfl rfl O7 O7 ?_;refine Rm ?_;refine WL.load (α:=Int) (F:=cZ) (y:=ns[a].2) rfl rfl rfl (by rw[Kb];exact D) rfl ?_;rw[show Iq Int [Py ns[a].2]=Py ns[a].2 from rfl];refine PN ?_;apply CW.cond rfl<;>intro h
  ·have h:ns[a].2=1:=by simpa using h
   refine PY ?_;refine ft (u:=Py 1) (yv:=(1:Int)) rfl rfl rfl rfl g (by rw[oW];exact d) Pg Pg Pt (fun T q ho7 E=>?_);have e7:Ext m T:=(z.trans l).grown E (z.trans l).size (fun b N=>(g.lt b N).1);refine Qc ?_;refine EX.back (i+1) O6 ⟨d,?_,e7⟩ O7;rw[←oX d,p,OK h];exact ho7
  ·have h:¬ns[a].2=1:=by simpa using h
   refine PI ?_;refine EX.back (i+1) O6 ⟨d,?_,z.trans l⟩ O7;rw[←oY (by rw[p,OJ h])];exact g
 ·obtain rfl:i=fl.length:=by simp at h;omega
  have:oU (fun j=>if xb (ns,fl) (fl.getD j (0,0)).1.toNat=1 then 1 else 0) fl.length fl.length=hZ (ns,fl):=by
   unfold oU hZ;apply KD O_;intro j h1 h2
   have M:j<fl.length:=by simpa using h1
   simp only[Lb,Ld,OK M];rw[qH M]
  rw[this]at g
  refine P_ ?_;exact bf rfl rfl rfl ⟨_,rfl,g.low e.size,k⟩
theorem G6(w:World)(n:Int):Rt Tryz.prog 262 [Py n].toArray w fun v w'=>v=.bool (G1 n)∧Ext w w':=by
 refine dD Tryz.func262 Tryz.ntmps262 rfl rfl ?_;refine Qt ?_;by_cases h:n<0
 ·rw[OC h]
  refine PL ?_;exact be rfl rfl ⟨by unfold G1;rw[OC h];rfl,Ext.refl _⟩
 ·rw[Oz h]
  refine PK ?_;exact be rfl rfl ⟨by unfold G1;rw[Oz h];rfl,Ext.refl _⟩
theorem jh(w0:World){so fo mo:Option Addr}{sc fc mc:Nat}{ns:List cG}{fl:List cF}{m:List Int}(s:Sl w0 (c7 w0) so sc ns)(hf:Sl w0 (c7 w0) fo fc fl)(l:Sl w0 (c7 w0) mo mc m):
  Rt Tryz.prog 210 [Cq so sc fo fc ns.length fl.length,.slice mo m.length mc].toArray w0 fun v w'=>∃x,v=.tuple ⟨[x,Py (jG (ns,fl) m)]⟩∧Own w' w0.heap.size 163 cZ x (if jG (ns,fl) m=0 then Ga (ns,fl)else [])∧Ext w0 w':=by
 have u:=hf.len63;have t:=l.len63;refine dE Tryz.func210 Tryz.ntmps210 rfl rfl ?_;have a:=Ext.refl w0;refine PB ?_;refine dX rfl rfl rfl fun r f p=>?_
 have a:=a.trans p;refine Q4 ?_;refine WL.call rfl rfl rfl (c6 r (s.up a) (hf.up a)) ?_;rintro _ q ⟨x,rfl,c,o⟩
 have f:=f.ext o;have a:=a.trans o;unfold jG;by_cases d:(F4 (ns,fl)).2=0
 case neg=>
  have g:((F4 (ns,fl)).2 != 0)=true:=by simpa using d
  refine Qt ?_;rw[g];refine Q6 ?_;refine bf rfl rfl rfl ⟨_,by rw[OK d],?_,a⟩;rw[OK d,OJ d];exact Own.nil
 obtain⟨y,i,_⟩:=F5 d;rw[OJ (by simp[d]),d];rw[i]at c
 refine QI ?_;by_cases k:m.length=fl.length
 ·have e:((m.length:Int) != (fl.length:Int))=false:=by simp[k]
  rw[e];refine Ri ?_;refine WL.call rfl rfl rfl (kD q G1 (l.up a) (fun w A j B=>FnV.mk (cs:=[]) (G6 w _))) ?_;rintro _ z ⟨rfl,n⟩
  have c:=c.extN n;have a:=a.trans n;refine PN ?_;apply CW.cond rfl<;>intro h
  ·have h:m.any G1=true:=by simpa using h
   refine QO ?_;have b:(if m.length≠fl.length∨m.any G1=true then(1:Int)else 0)=1:=OK (.inr h);dsimp only;rw[b];exact bf rfl rfl rfl ⟨_,rfl,by rw[OJ O9];exact Own.nil,a⟩
  ·have h:¬(m.length≠fl.length∨m.any G1=true):=by
    have h:m.any G1=false:=by simpa using h
    rw[h];simp[k]
   refine QU ?_;have b:(if m.length≠fl.length∨m.any G1=true then(1:Int)else 0)=0:=OJ h;dsimp only;rw[b];exact bf rfl rfl rfl ⟨_,rfl,by rw[OK rfl];exact c.low p.size,a⟩
 ·have e:((m.length:Int) != (fl.length:Int))=true:=by rw[Ou];omega
  rw[e];refine Q6 ?_;have b:(if m.length≠fl.length∨m.any G1=true then(1:Int)else 0)=1:=OK (.inl k);dsimp only;rw[b];exact bf rfl rfl rfl ⟨_,rfl,by rw[OJ O9];exact Own.nil,a⟩
theorem qG{l:List Bool}{j:Nat}(h:j<l.length):l.getD j false=l[j]:=by rw[KT,KY h];rfl
theorem kC(w0:World){so fo:Option Addr}{sc fc:Nat}{ns:List cG}{fl:List cF}(hs:Sl w0 (c7 w0) so sc ns)(hf:Sl w0 (c7 w0) fo fc fl)(X:OkPr (ns,fl)){flow:Nat}(hfl:flow<fl.length)(but:Int):
  Rt Tryz.prog 280 [Cq so sc fo fc ns.length fl.length,Py (flow:Int),Py but].toArray w0 fun v w'=>Own w' w0.heap.size 4 cZ v (kx fl flow but)∧Ext w0 w':=by
 have hf30:=X.f;dsimp only at hf30
 refine dF Tryz.func280 Tryz.ntmps280 rfl rfl ?_;have hE:=Ext.refl w0;refine PB ?_;refine dX rfl rfl rfl fun o hb1 e1=>?_
 have hE:=hE.trans e1;have z1:=e1.size;refine QX ?_;refine eW (α:=Bool) rfl rfl rfl rfl O7 Pb (fun w2 ho2 hg2=>?_);have e2:Ext o w2:=(JI _ _).grown hg2 Pu Pn;have hlt:=(ho2.lt _ rfl).2.1;generalize hsv:Value.slice (some ⟨o.heap.size,0,none⟩) fl.length fl.length=sv at*
 have M:sv.ownBlock=some o.heap.size:=by rw[←hsv];rfl
 refine Qt ?_;refine ft (u:=.bool true) (yv:=true) rfl rfl rfl rfl ho2 (by simpa using hfl) Pg Pg (Rd.mkBool _ _ _) (fun w3 q ho3 hg3=>?_);have e3:Ext o w3:=e2.grown hg3 e2.size (fun b K=>(ho2.lt b K).1);have hlt3:o.heap.size<w3.heap.size:=(ho3.lt _ M).2.1;refine Qt ?_;refine WL.lit (F:=cZ) (ys:=[(flow:Int)]) rfl rfl rfl rfl rfl (.cons Pt .nil) (by show 1*1≤16777216;decide) Pj (fun w4 ho4 hg4=>?_);have e4:Ext o w4:=e3.grown hg4 e3.size Pn;have ho3:=ho3.keptN hg4 (fun g _ h=>by cases h);have hne4:∀b,Value.ownBlock (.slice (some ⟨w3.heap.size,0,none⟩) 1 1)=some b→b≠o.heap.size:=fun b K=>by
  have e:some w3.heap.size=some b:=K
  injection e with e;omega
 have ho4:=ho4.low e3.size;generalize Value.slice (some ⟨w3.heap.size,0,none⟩) 1 1=tv at*
 have hI:ComeI fl ((List.replicate fl.length false).set flow true) [(flow:Int)]:=⟨by simp,fun x hx=>by rw[L0]at hx;omega⟩;have hm0:[(flow:Int)].length+oG ((List.replicate fl.length false).set flow true)≤fl.length:=by
  have:=oJ (l:=List.replicate fl.length false) (k:=flow) (by simpa using hfl) (by rw[KT,K3];split<;>rfl);rw[oI]at this
  simp only[Lm,Lt];omega
 clear e2 e3 hg2 hg3 hg4 ho2;refine Qj ?_;refine CW.loop (S:=Nat×List Bool×List Int×Value) (fun s=>[(2,Py but),(3,Pz w0.heap.size),(7,sv),(8,s.2.2.2)])
  (fun s w=>kr fl but s.1 s.2.1 s.2.2.1=kx fl flow but∧ComeI fl s.2.1 s.2.2.1∧s.2.2.1.length+oG s.2.1≤s.1∧s.1≤fl.length∧Own w o.heap.size 4 cZ sv s.2.1∧Own w o.heap.size 3 cZ s.2.2.2 s.2.2.1∧(∀b,s.2.2.2.ownBlock=some b→b≠o.heap.size)∧Ext o w) (fun s=>s.1)
  (fl.length,(List.replicate fl.length false).set flow true,[(flow:Int)],tv) O6 ⟨rfl,hI,hm0,MM _,ho3,ho4,hne4,e4⟩ ?_
 rintro⟨f,out,N,tv⟩ w5 ⟨m,hI,R,hfF,C,I,hne,e5⟩
 dsimp only at m hI R hfF C I hne e5⊢
 have hE5:=hE.trans e5;have hb5:=hb1.ext e5;refine PV ?_;apply CW.cond rfl<;>intro h0
 ·simp at h0
  match N,h0 with
  |x::r,_=>
  have hx:=hI.ok x O_;obtain⟨k,rfl⟩:=J7 hx.1;have hk:k<fl.length:=by omega
  obtain⟨a,b,ea,eb,ha,K⟩:=AI X hk
  match f,R with
  |0,R=>simp at R
  |f+1,R=>
  have R:r.length+oG out≤f:=by simp at R;omega
  have hI':ComeI fl out r:=⟨hI.len,fun y hy=>hI.ok y (by simp[hy])⟩;unfold kr at m
  rw[Kb,qH hk,ea]at m
  obtain⟨to,tc,rfl,hts⟩:=I.oldN.sl;obtain⟨fb,off,rfl,hfb,hc1,_⟩:=(hf.up hE5).pair hk;refine Rh ?_;refine dh (i:=0) rfl rfl rfl rfl rfl Pl hts O7 O_ Pg (fun u q hu=>?_);obtain rfl:=hu.int;simp only[Int.toNat_zero,K_];refine dm (α:=cF) rfl rfl rfl rfl O7 O7 ?_;refine Ro ?_;refine QL.load (α:=Int) (F:=cZ) (y:=fl[k].1) rfl rfl rfl hfb Pj (by rw[Kb];exact hc1) rfl ?_;rw[show Iq Int [Py fl[k].1]=Py fl[k].1 from rfl,ea];refine Rl ?_;refine QL.nil (fun w6 W=>?_);have C:=C.extN W;have I:=I.extN W;have W:=e5.trans W;have hE6:=hE.trans W;have hb6:=hb1.ext W;clear hts;refine Qm ?_;refine ew (α:=Int) 1 rfl rfl rfl rfl rfl I O_ (fun nv2 H hnb=>?_);simp only[KA,KB]at H
  have Q:∀b,nv2.ownBlock=some b→b≠o.heap.size:=fun b K=>hne b (by rw[←hnb];exact K)
  refine Qt ?_;apply CW.cond rfl<;>intro h2
  ·have h2:(a:Int)=but:=by simpa using h2
   rw[OK h2]at m
   refine QF ?_;exact EX.back (f,out,r,nv2) O6 ⟨m,hI',R,by omega,C,H,Q,W⟩ Pa
  have h2:¬(a:Int)=but:=by simpa using h2
  rw[OJ h2]at m
  refine QP ?_;refine CW.loop (S:=Nat×List Bool×List Int×Value) (fun s=>[(2,Py but),(3,Pz w0.heap.size),(7,sv),(8,s.2.2.2),(9,Py (a:Int)),(38,.slice (some ⟨fb,off,none⟩) fl.length fc),(39,Py fl.length),(40,Py s.1)])
   (fun s w=>s.1≤fl.length∧(s.2.1,s.2.2.1)=(List.range s.1).foldl (kA fl (a:Int)) (out,r)∧ComeI fl s.2.1 s.2.2.1∧s.2.2.1.length+oG s.2.1=r.length+oG out∧Own w o.heap.size 4 cZ sv s.2.1∧Own w o.heap.size 3 cZ s.2.2.2 s.2.2.1∧(∀b,s.2.2.2.ownBlock=some b→b≠o.heap.size)∧Ext o w) (fun s=>fl.length -s.1)
   (0,out,r,nv2) O6 ⟨Nc _,rfl,hI',rfl,C,H,Q,W⟩ ?_
  rintro⟨j,out2,todo2,tv3⟩ w7 ⟨hj,B,D,L,J,G,d,e7⟩
  dsimp only at hj B D L J G d e7⊢
  have hE7:=hE.trans e7;refine Qt ?_;apply CW.cond rfl<;>intro h1
  ·have z:j<fl.length:=by simp at h1;omega
   obtain⟨a2,b2,ea2,eb2,ha2,hb2⟩:=AI X z;have A:=kB (n:=(a:Int)) z D;have c:kA fl (a:Int) (out2,todo2) j=(List.range (j+1)).foldl (kA fl (a:Int)) (out,r):=by
    rw[Mb,List.foldl_append,←B];rfl
   have Z:j<out2.length:=by rw[D.len];exact z
   have hcs:kA fl (a:Int) (out2,todo2) j=if(b2:Int)=(a:Int)∧out2[j]=false then(out2.set j true,todo2++[(j:Int)])else(out2,todo2):=by
    unfold kA;rw[qH z,eb2,qG Z]
   rw[hcs]at A c
   have hlen3:todo2.length≤60:=by have:=oH (l:=out);have:=hI.len;omega
   refine PX ?_;refine eC rfl rfl rfl rfl rfl (hf.up hE7) z Pg (fun u q hu=>?_);rw[hu.pairI,ea2,eb2];clear hu;skip;refine WL.alloc rfl rfl (fun w8 hb8 e8=>?_);refine Ri ?_;refine WL.st rfl rfl rfl hb8 rfl rfl Pr (fun w9 hb9 hg9=>?_);have V:Ext w7 w9:=e8.grown hg9 e8.size Pi;have t:=J.extN V;have E:=G.extN V;have V:=e7.trans V;refine QR ?_;by_cases h3:(b2:Int)=(a:Int)
   ·rw[show((b2:Int)==(a:Int))=true by simpa using h3]
    refine Ri ?_;refine eE rfl rfl rfl rfl rfl t Z Pg (fun u q hu=>?_);obtain rfl:=hu.bool;refine PN ?_;by_cases h4:out2[j]=false
    ·rw[OK ⟨h3,h4⟩]at A c
     dsimp only at A
     rw[h4];refine QB ?_;refine ft (u:=.bool true) (yv:=true) rfl rfl rfl rfl t Z Pg Pg (Rd.mkBool _ _ _) (fun w10 q P U=>?_);have e10:Ext o w10:=V.grown U V.size (fun b K=>(t.lt b K).1);have O:=E.keptN U (fun g hg=>by rw[M];simpa using d g hg);refine Qq ?_;refine dW (F:=cZ) (yv:=(j:Int)) rfl rfl Pg rfl rfl Pg O Pt e10.size Pj O9 Pb O7 (fun v' w11 p ho11 T Y=>?_);have e11:Ext o w11:=e10.grown T e10.size (fun b K=>(O.lt b K).1);have hd11:=P.keptN T (fun g hg e=>by rw[M]at hg;cases hg;exact d _ e.symm rfl);refine Qc ?_;refine EX.back (j+1,out2.set j true,todo2++[(j:Int)],v') O6 ⟨z,c,A.1,by rw[A.2];exact L,hd11,ho11,?_,e11⟩ Pa;intro b hb'
     rcases Y b hb' with h|h
     ·exact d b h
     ·have:=(P.lt _ M).2.1;omega
    ·rw[OJ (fun h=>h4 h.2)]at A c
     have h4:out2[j]=true:=by simpa using h4
     rw[h4];refine P0 ?_;exact EX.back (j+1,out2,todo2,tv3) O6 ⟨z,c,D,L,t,E,d,V⟩ Pa
   ·rw[OJ (fun h=>h3 h.1)]at A c
    rw[show((b2:Int)==(a:Int))=false by simpa using h3];refine Qx ?_;exact EX.back (j+1,out2,todo2,tv3) O6 ⟨z,c,D,L,t,E,d,V⟩ Pa
  ·obtain rfl:j=fl.length:=by simp at h1;omega
   rw[←B]at m
   refine QF ?_;exact EX.back (f,out2,todo2,tv3) O6 ⟨m,D,by dsimp only;omega,by dsimp only;omega,J,G,d,e7⟩ Pa
 ·have hnil:N=[]:=by
   simpa using h0
  subst hnil;rw[ku]at m
  subst m;refine P_ ?_;exact be rfl rfl ⟨C.low z1,hE5⟩
theorem gk{α:Type}(p:α→Bool){l:List α}{i:Nat}(h:i<l.length):(l.take (i+1)).any p=((l.take i).any p||p l[i]):=by
 rw[←Mj h,Ke];simp
theorem qZ{l:List Int}{j:Nat}(h:j<l.length):l.getD j 0=l[j]:=by rw[KT,KY h];rfl
theorem wr{p:cI}{m:List Int}{n f:Int}(h:f∈vT p.2 n)(h1:¬m.getD f.toNat 0>0)(h2:gT p m n f=true):wq p m n=false:=by
 unfold wq;rw[OK];exact Kg.2 ⟨f,h,by rw[Oz h1,h2];rfl⟩
theorem wt{p:cI}{m:List Int}{n:Int}(h:∀f∈vT p.2 n,¬m.getD f.toNat 0>0→gT p m n f=false):wq p m n=(vT p.2 n).any fun f=>decide (m.getD f.toNat 0>0):=by
 unfold wq;rw[OJ];rw[Kg];rintro⟨f,hf,a⟩
 rw[JL]at a
 have h1:¬m.getD f.toNat 0>0:=by simpa using a.1
 rw[h f hf h1]at a
 simp at a
def gN(fl:List cF)(m:List Int)(c:List Bool)(n:Int)(i:Nat):Bool:=c.getD i false&&decide (m.getD i 0>0)&&decide ((fl.getD i (0,0)).2≠n)
theorem gU{p:cI}{m:List Int}{n:Int}{f:Nat}:gT p m n (f:Int)=(List.range p.2.length).any (gN p.2 m (kx p.2 f n) n):=rfl
theorem wu(w0:World){so fo mo:Option Addr}{sc fc mc:Nat}{ns:List cG}{fl:List cF}{m:List Int}(hs:Sl w0 (c7 w0) so sc ns)(hf:Sl w0 (c7 w0) fo fc fl)(hm:Sl w0 (c7 w0) mo mc m)(W:jL (ns,fl)=0)(hml:m.length=fl.length){n:Nat}(hn:n<ns.length):
  Rt Tryz.prog 263 [Cq so sc fo fc ns.length fl.length,.slice mo m.length mc,Py (n:Int)].toArray w0 fun v w'=>v=.bool (wq (ns,fl) m (n:Int))∧Ext w0 w':=by
 have N:=jM W;have V:=N.f;dsimp only at V
 have P:xT (ns,fl) (n:Int)=0:=xU W hn;refine dF Tryz.func263 Tryz.ntmps263 rfl rfl ?_;have J:=Ext.refl w0;refine PB ?_;refine dX rfl rfl rfl fun w1 g e1=>?_
 have J:=J.trans e1;refine Q4 ?_;refine WL.call rfl rfl rfl (cB w1 (hs.up J) (hf.up J) (n:Int)) ?_;rintro _ w2 ⟨x,rfl,E,e2⟩
 rw[P,OK rfl]at E
 have g:=g.ext e2;have J:=J.trans e2;obtain⟨xo,xc,rfl,Y⟩:=E.oldN.sl;have U:=fun x (hx:x∈vT fl (n:Int))=>insP_mem.1 hx
 have T:=fun f=>@wr (ns,fl) m (n:Int) f
 have Q:=@wt (ns,fl) m (n:Int);have hil:(vT fl (n:Int)).length≤fl.length:=vW;dsimp only at T Q
 rw[P];clear E e1;generalize vT fl (n:Int)=ins at*
 refine Q3 ?_;refine CW.loop (S:=Nat×Bool) (fun s=>[(1,.slice mo m.length mc),(2,Py (n:Int)),(3,Pz w0.heap.size),(9,.bool s.2),(20,.slice xo ins.length xc),(21,Py ins.length),(22,Py s.1)])
  (fun s w=>s.1≤ins.length∧s.2=((ins.take s.1).any fun f=>decide (m.getD f.toNat 0>0))∧(∀j (h:j<ins.length),j<s.1→¬m.getD ins[j].toNat 0>0→gT (ns,fl) m (n:Int) ins[j]=false)∧Ext w2 w) (fun s=>ins.length -s.1)
  (0,false) O6 ⟨Nc _,rfl,(fun j _ h=>absurd h (MZ _)),Ext.refl _⟩ ?_
 rintro⟨i,b⟩ w3 ⟨hi,X,l,M⟩
 dsimp only at hi X l M⊢
 have g:=g.ext M;have z:=J.trans M;refine Qt ?_;apply CW.cond rfl<;>intro h
 ·have u:i<ins.length:=by simp at h;omega
  have C:=Lc u;obtain⟨f,ef,o,_⟩:=U _ C;have A:f<m.length:=by rw[hml];exact o
  have d:=gk (fun f:Int=>decide (m.getD f.toNat 0>0)) u;rw[ef,Kb,qZ A]at d
  refine Rb ?_;refine eB rfl rfl rfl rfl rfl (Y.up M) u ef Pg (fun q=>?_);refine Qt ?_;refine eB rfl rfl rfl rfl rfl (hm.up z) A rfl Pg (fun q=>?_);refine PN ?_;apply CW.cond rfl<;>intro h
  ·rw[h,JY]at d
   have hp:m.getD ins[i].toNat 0>0:=by rw[ef,Kb,qZ A];simpa using h
   refine QV ?_;refine EX.back (i+1,true) O6 ⟨u,d.symm,fun j G o hn=>?_,M⟩ Pa;dsimp only at o
   by_cases e:j=i
   ·subst e;exact absurd hp hn
   ·exact l j G O7 hn
  rw[h,JX,←X]at d
  have Z:¬m.getD ins[i].toNat 0>0:=by rw[ef,Kb,qZ A];simpa using h
  have B:=gU (p:=(ns,fl)) (m:=m) (n:=(n:Int)) (f:=f);rw[←ef]at B
  dsimp only at B
  refine P4 ?_;refine WL.call rfl rfl rfl (kC w3 (hs.up z) (hf.up z) N o (n:Int)) ?_;rintro v w4 ⟨O,e4⟩
  have g:=g.ext e4;have hE4:=z.trans e4;have hcl:=ky (fl:=fl) (flow:=f) (but:=(n:Int));generalize kx fl f (n:Int)=c at*
  obtain⟨co,cc,rfl,hcs⟩:=O.oldN.sl;clear O;refine Qs ?_;refine CW.loop (S:=Nat) (fun j=>[(1,.slice mo m.length mc),(2,Py (n:Int)),(3,Pz w0.heap.size),(9,.bool b),(20,.slice xo ins.length xc),(21,Py ins.length),(22,Py i),(34,.slice co c.length cc),(35,Py c.length),(36,Py j)])
   (fun j w=>j≤c.length∧(∀k,k<j→gN fl m c (n:Int) k=false)∧Ext w4 w) (fun j=>c.length -j) 0 O6 ⟨Nc _,(fun k h=>absurd h (MZ _)),Ext.refl _⟩ ?_
  rintro j w5 ⟨G,D,K⟩
  have g:=g.ext K;have I:=hE4.trans K;refine Qt ?_;apply CW.cond rfl<;>intro h2
  ·have t:j<c.length:=by simp at h2;omega
   have r:j<fl.length:=by omega
   have R:j<m.length:=by omega
   have a:gN fl m c (n:Int) j=(c[j]&&decide (m[j]>0)&&decide (fl[j].2≠(n:Int))):=by unfold gN;rw[qG t,qZ R,qH r]
   have H:gN fl m c (n:Int) j=false→∀k,k<j+1→gN fl m c (n:Int) k=false:=fun h k hk=>by
    by_cases e:k=j
    ·subst e;exact h
    ·exact D k O7
   refine PX ?_;refine eA rfl rfl rfl rfl rfl (hcs.up K) t rfl Pg (fun q=>?_);refine Qt ?_;by_cases h3:c[j]=true
   ·rw[h3]at a⊢
    rw[JZ]at a
    refine Ri ?_;refine eB rfl rfl rfl rfl rfl (hm.up I) R rfl Pg (fun q=>?_);refine Ri ?_;by_cases h4:m[j]>0
    ·rw[OC h4]at a⊢
     rw[JZ]at a
     obtain⟨fb,off,rfl,hfb,_,hc2⟩:=(hf.up I).pair r;refine Rs ?_;refine eH (α:=cF) rfl rfl rfl rfl O7 O7 ?_;refine Rm ?_;refine WL.load (α:=Int) (F:=cZ) (y:=fl[j].2) rfl rfl rfl (by rw[Kb];exact hc2) rfl ?_;rw[show Iq Int [Py fl[j].2]=Py fl[j].2 from rfl];refine PN ?_;apply CW.cond rfl<;>intro L
     ·have L:fl[j].2≠(n:Int):=by simpa using L
      rw[OC L]at a
      have hbt:gT (ns,fl) m (n:Int) ins[i]=true:=by
       rw[B];exact Kg.2 ⟨j,LZ.2 r,a⟩
      refine PA ?_;refine be rfl rfl ⟨?_,I⟩;rw[T _ C Z hbt]
     ·have L:¬fl[j].2≠(n:Int):=by simpa using L
      rw[Oz L]at a
      refine PI ?_;exact EX.back (j+1) O6 ⟨t,H a,K⟩ O7
    ·rw[Oz h4]at a⊢
     rw[JO]at a
     refine Qx ?_;exact EX.back (j+1) O6 ⟨t,H a,K⟩ O7
   ·have h3:c[j]=false:=by simpa using h3
    rw[h3]at a⊢
    rw[JO,JO]at a
    refine Qx ?_;exact EX.back (j+1) O6 ⟨t,H a,K⟩ O7
  ·obtain rfl:j=c.length:=by simp at h2;omega
   have hbf:gT (ns,fl) m (n:Int) ins[i]=false:=by
    rw[B];exact Kf.2 (fun k hk=>by rw[D k (by rw[hcl];exact LZ.1 hk)];simp)
   refine Qe ?_;refine EX.back (i+1,b) O6 ⟨u,d.symm,fun j G o hn=>?_,(M.trans e4).trans K⟩ Pa;dsimp only at o
   by_cases e:j=i
   ·subst e;exact hbf
   ·exact l j G O7 hn
 ·obtain rfl:i=ins.length:=by simp at h;omega
  rw[Mk]at X
  have:=Q (fun f hf hn=>by
   obtain⟨j,G,rfl⟩:=LT.1 hf;exact l j G G hn)
  refine P_ ?_;exact be rfl rfl ⟨by rw[this,←X],z⟩
theorem m9(w:World)(b:Nat){mo:Option Addr}{mc:Nat}{m:List Int}(d:Blk w b 39 [.slice mo m.length mc])(c:Sl w (c7 w) mo mc m){f:Nat}(a:f<m.length):
  Rt Tryz.prog 264 [Py (f:Int),Pz b].toArray w fun v w'=>v=.bool (m.getD f 0==0)∧Ext w w':=by
 refine dE Tryz.func264 Tryz.ntmps264 rfl rfl ?_;refine Qa ?_;refine eB rfl rfl rfl rfl rfl c a rfl Pg (fun q=>?_);refine PK ?_;exact be rfl rfl ⟨by rw[qZ a],Ext.refl _⟩
theorem nf(w0:World){so fo mo:Option Addr}{sc fc mc:Nat}{ns:List cG}{fl:List cF}{m:List Int}(u:Sl w0 (c7 w0) so sc ns)(hf:Sl w0 (c7 w0) fo fc fl)(B:Sl w0 (c7 w0) mo mc m)(i:jL (ns,fl)=0)(e:m.length=fl.length){s:cK}{n:Nat}(hn:n<ns.length)(d:s∈Gd (ns,fl) n):
  Rt Tryz.prog 211 [Cq so sc fo fc ns.length fl.length,.slice mo m.length mc,FV s].toArray w0 fun v w'=>v=.bool (m_ (ns,fl) m s)∧Ext w0 w':=by
 have z:=jM i;have p:=z.f;dsimp only at p
 have J:=F9 _ d;have I:=F7 _ d;have l:xT (ns,fl) (n:Int)=0:=xU i hn;clear d;obtain⟨U,H,T⟩:=s;dsimp only at J I
 subst J;unfold FV m_;dsimp only;refine dF Tryz.func211 Tryz.ntmps211 rfl rfl ?_;have a:=Ext.refl w0;refine PB ?_;refine dX rfl rfl rfl fun S c P=>?_
 have a:=a.trans P;skip;refine dX rfl rfl rfl fun R b L=>?_
 have c:=c.ext L;have a:=a.trans L;skip;refine dX rfl rfl rfl fun G N D=>?_
 have c:=c.ext D;have b:=b.ext D;have a:=a.trans D;refine QR ?_;apply CW.cond rfl<;>intro h
 ·have h:H≥0:=by simpa using h
  rcases I with rfl|C
  ·omega
  obtain⟨f,rfl,g,_⟩:=insP_mem.1 C;have o:f<m.length:=by rw[e];exact g
  rw[OK h,Kb,qZ o];refine Q1 ?_;refine eB rfl rfl rfl rfl rfl (B.up a) o rfl Pg (fun q=>?_);refine PS ?_;exact be rfl rfl ⟨rfl,a⟩
 have h:¬0≤H:=by simpa using h
 rw[OJ h,Kb,xe hn];obtain⟨V,off,rfl,hnb,A⟩:=(u.at a).nodeK hn;refine Qw ?_;refine eH (α:=cG) rfl rfl rfl rfl O7 O7 ?_;refine Rm ?_;refine WL.load (α:=Int) (F:=cZ) (y:=ns[n].2) rfl rfl rfl (by rw[Kb];exact A) rfl ?_;rw[show Iq Int [Py ns[n].2]=Py ns[n].2 from rfl];refine PN ?_;apply CW.cond rfl<;>intro h
 ·have h:ns[n].2=7:=by simpa using h
  rw[OK h];refine Qw ?_;refine WL.call rfl rfl rfl (wu G (u.up a) (hf.up a) (B.up a) i e hn) ?_;rintro _ E ⟨rfl,r⟩
  refine PS ?_;exact be rfl rfl ⟨rfl,a.trans r⟩
 have h:¬ns[n].2=7:=by simpa using h
 rw[OJ h];refine Qw ?_;refine WL.call rfl rfl rfl (cB G (u.up a) (hf.up a) (n:Int)) ?_;rintro _ E ⟨x,rfl,k,r⟩
 rw[l,OK rfl]at k
 rw[l];have b:=b.ext r;have a:=a.trans r;obtain⟨xo,xc,rfl,t⟩:=k.oldN.sl;refine QJ ?_;refine WL.call rfl rfl rfl (kD E (fun f=>m.getD f.toNat 0==0) t (fun w K j M=>?_)) ?_
 ·obtain⟨f,ef,g,_⟩:=insP_mem.1 (Lc M)
  rw[ef,Kb];exact FnV.mk (cs:=[_]) (m9 w _ (b.ext K) (B.up (a.trans K)) (by rw[e];exact g))
 rintro _ Q ⟨rfl,O⟩
 refine PK ?_;exact be rfl rfl ⟨rfl,a.trans O⟩
theorem Gb{p:cI}{i:Nat}(h:i<(Ga p).length):(Ga p).getD i (0,0,0)=(Ga p)[i]:=by rw[KT,KY h];rfl
theorem jH{p:cI}{m:List Int}(h:jG p m=0):jL p=0∧m.length=p.2.length∧m.any G1=false∧(Ga p).length≤60:=by
 unfold jG at h
 split at h
 ·rename_i h1;exact absurd h h1
 ·rename_i h1
  split at h
  ·cases h
  ·rename_i h2
   have:=F5 (p:=p) (by simpa using h1);refine⟨this.1,J1 fun e=>h2 (.inl e),?_,this.2.2⟩;by_cases e:m.any G1=true
   ·exact absurd (.inr e) h2
   ·simpa using e
theorem bC(w0:World){so fo mo:Option Addr}{sc fc mc:Nat}{ns:List cG}{fl:List cF}{m:List Int}(E:Sl w0 (c7 w0) so sc ns)(hf:Sl w0 (c7 w0) fo fc fl)(G:Sl w0 (c7 w0) mo mc m):
  Rt Tryz.prog 132 [Cq so sc fo fc ns.length fl.length,.slice mo m.length mc].toArray w0 fun v w'=>∃x,v=.tuple ⟨[x,Py (jG (ns,fl) m)]⟩∧Own w' w0.heap.size 3 cZ x (if jG (ns,fl) m=0 then i6 (ns,fl) m else [])∧Ext w0 w':=by
 refine dE Tryz.func132 Tryz.ntmps132 rfl rfl ?_;have e:=Ext.refl w0;refine PB ?_;refine dX rfl rfl rfl fun X c e1=>?_
 have e:=e.trans e1;refine Q4 ?_;refine WL.call rfl rfl rfl (jh X (E.up e) (hf.up e) (G.up e)) ?_;rintro _ D ⟨x,rfl,l,R⟩
 have c:=c.ext R;have e:=e.trans R;by_cases r:jG (ns,fl) m=0
 case neg=>
  have I:(jG (ns,fl) m != 0)=true:=by simpa using r
  refine Qt ?_;rw[I];refine Q6 ?_;refine bf rfl rfl rfl ⟨_,rfl,?_,e⟩;rw[OJ r];exact Own.nil
 obtain⟨M,y,_,P⟩:=jH r;rw[OK r]at l
 rw[OK r,r];dsimp only at y
 obtain⟨xo,xc,rfl,J⟩:=l.oldN.sl;clear l;have z:∀k,k≤(Ga (ns,fl)).length→(i7 (ns,fl) m k).length≤60:=fun k hk=>by
  unfold i7;rw[Ls];have:=Lr (fun i=>m_ (ns,fl) m ((Ga (ns,fl)).getD i (0,0,0))) (List.range k);rw[Lv]at this
  omega
 have T:=e.size;refine QN ?_;refine CW.loop (S:=Nat×Value) (fun s=>[(1,.slice mo m.length mc),(2,Pz w0.heap.size),(8,s.2),(20,.slice xo (Ga (ns,fl)).length xc),(21,Py (Ga (ns,fl)).length),(22,Py s.1)])
  (fun s w=>s.1≤(Ga (ns,fl)).length∧Own w D.heap.size 3 cZ s.2 (i7 (ns,fl) m s.1)∧Ext D w) (fun s=>(Ga (ns,fl)).length -s.1) (0,.slice none 0 0) O6 ⟨Nc _,Own.nil,Ext.refl _⟩ ?_
 rintro⟨i,ov⟩ W ⟨hi,f,C⟩
 dsimp only at hi f C⊢
 have c:=c.ext C;have B:=e.trans C;refine Qt ?_;apply CW.cond rfl<;>intro h
 ·have d:i<(Ga (ns,fl)).length:=by simp at h;omega
  obtain⟨n,hn,t⟩:=stepsP_mem.1 (Lc d);have a:=i9 (p:=(ns,fl)) (m:=m) (k:=i);rw[Gb d]at a
  have Z:=z i hi;refine PX ?_;refine eC rfl rfl rfl rfl rfl (J.up C) d Pg (fun u q O=>?_);rw[O.step];have A:=fun w E hf G=>nf w (so:=so) (fo:=fo) (mo:=mo) (sc:=sc) (fc:=fc) (mc:=mc) E hf G M y hn t
  clear O t;generalize (Ga (ns,fl))[i]=s at*
  unfold FV at A⊢
  skip;refine WL.alloc rfl rfl (fun w4 g Q=>?_);refine Ri ?_;refine WL.st rfl rfl rfl g rfl rfl Pr (fun N g L=>?_);have H:Ext W N:=Q.grown L Q.size Pi;have c:=c.ext H;have o:=B.trans H;have f:=f.extN H;refine Q4 ?_;refine WL.call rfl rfl rfl (A N (E.up o) (hf.up o) (G.up o)) ?_;rintro _ V ⟨rfl,j⟩
  have f:=f.extN j;have j:Ext D V:=(C.trans H).trans j;have z6:=j.size;refine PU ?_;apply CW.cond rfl<;>intro h
  ·rw[OK h]at a
   refine PY ?_;refine dW (F:=cZ) (yv:=(i:Int)) rfl rfl Pg rfl rfl Pg f Pt j.size Pj O9 Pb O7 (fun Y U p ho7 K hnb=>?_);have e7:Ext D U:=j.grown K j.size (fun b hb=>(f.lt b hb).1);rw[←a]at ho7
   refine Qc ?_;exact EX.back (i+1,Y) O6 ⟨d,ho7,e7⟩ Pa
  ·rw[OJ (by simp[h]),Ki]at a
   refine PI ?_;exact EX.back (i+1,ov) O6 ⟨d,by dsimp only;rw[a];exact f,j⟩ Pa
 ·obtain rfl:i=(Ga (ns,fl)).length:=by simp at h;omega
  refine P_ ?_;exact bf rfl rfl rfl ⟨_,rfl,f.low T,B⟩
theorem m6(w:World)(F:Nat→Prop):∀k:Nat,Elems w F (List.replicate k (Py 0)) (List.replicate k (0:Int))
 |0=>Elems.nil
 |k+1=>by
  rw[Md,Md];exact(m6 w F k).append (Elems.one (C5 w F 0))
section
variable {P:Program}{Q:Exit→Act→World→Prop}{n:Nat}{σ:Sg}{w:World}{L rest:List Oper}{d:Nat}{ty:TypeId}{pos:String}{af:Array Edge}{g:Option (Nat×Bool)}{t e:TypeId}{bytes:Nat}
theorem fq{op:Op}{v:Value}{w':World}(f:gd L σ ⟨none,op,ty,pos,af,g⟩=some true)
  (c:∀a,Fr n σ a→(execOp a.eval ⟨none,op,ty,pos,af,g⟩).run P w=.ok (.value v) w') (h:WL P L Q rest n σ w'):WL P L Q (⟨none,op,ty,pos,af,g⟩::rest) n σ w:=by
 unfold WL at*
 intro a b
 refine O1 fun K i=>?_
 rw[qE b f,OK rfl];unfold Oper.wp;rw[c a b];exact i _ _ (h _ (b.put (d:=none) (v:=v) rfl))
theorem DV{v:Value}{xs:List Int}{B:Nat}(w:World)[q:IsS P t e][E:IsT P e Int][x:IsZ P e (0:Int) bytes](j:Own w B e cZ v xs):
  ∃w',(Builtin.clear_ #[t] ty #[v]).run P w=.ok (.tuple #[]) w'∧Own w' B e cZ v (xs.map fun _=>(0:Int))∧w.grownBy w' v.ownBlock:=by
 rcases j with⟨rfl,rfl⟩|⟨b,off,cap,cur,rfl,c⟩
 ·refine⟨w,by simp[Builtin.clear_,OW q.ok],Own.nil,?_⟩
  exact⟨rfl,rfl,rfl,MM _,fun k _ _=>rfl⟩
 ·by_cases u:xs=[]
  ·subst u
   refine⟨w,by simp[Builtin.clear_,OW q.ok],.inr ⟨b,off,cap,cur,rfl,c⟩,?_⟩;exact⟨rfl,rfl,rfl,MM _,fun k _ _=>rfl⟩
  obtain⟨i,z,h1,h2,h3,h4⟩:=x.ok;have o:z.cells.toList=[Py 0]:=h4 w cZ;have p:z.cells=#[Py 0]:=by apply Jq;exact o
  have s:0<xs.length:=Lu.2 u;obtain⟨k,r⟩:∃k,xs.length=k+1:=⟨xs.length -1,by omega⟩;have f:sz Int=1:=rfl;have l:=c.fit;have A:=c.le;rw[f,MY]at l
  have a:=OU P b off e (List.replicate xs.length (Py 0)) 0 cur w c.blk Pc (fun v y=>by rw[List.eq_of_mem_replicate y];rfl);simp only[Mx]at a
  have h:(Builtin.zeroCells z.cells xs.length).toList=List.replicate xs.length (Py 0):=by
   rw[p];simp[Builtin.zeroCells];apply KD
   ·simp
   ·intro i h1 h2
    simp[Nat.mod_one]
  refine⟨w.setRow b (cur.toList.take off++List.replicate xs.length (Py 0)++cur.toList.drop (off+xs.length)).toArray,?_,.inr ⟨b,off,cap,(cur.toList.take off++List.replicate xs.length (Py 0)++cur.toList.drop (off+xs.length)).toArray,by rw[Ls],⟨OX w b cur _ e _ c.blk,c.ge,c.nF,by simpa using c.le,c.mx,?_,?_⟩⟩,⟨rfl,rfl,rfl,by simp,fun k _ r=>OY w b k _ (fun e=>r (by rw[e];rfl))⟩⟩
  ·rw[Lx]at a
   rw[r]at a h⊢
   have m:(zeroValue e).run P w=.ok z w:=by simp[zeroValue,typeInfo,h1,h2]
   simp only[Kh]at a
   simp[Builtin.clear_,OW q.ok,m,h,a]
  ·simp only[Mg,Ll,LB,Ln,JC,Lx]
   rw[f];omega
  ·rw[Ls,f,MY,List.map_const']
   have D:((((cur.toList.take off++List.replicate xs.length (Py 0)++cur.toList.drop (off+xs.length)).toArray.toList).drop off).take xs.length)=List.replicate xs.length (Py 0):=by
    have C:(cur.toList.take off).length=off:=by rw[LB,JC];omega
    simp only[Kh];rw[Ku,C,M8,KB,Ky O7,L2,List.take_append];simp
   rw[D];exact m6 _ _ _
theorem d_{x:Operand}{v:Value}{xs:List Int}{B:Nat}(k:gd L σ ⟨none,.call ⟨.builtin .clear,#[x],#[t]⟩,ty,pos,af,g⟩=some true)
  (f:ev σ x=some v) [p:IsS P t e] [o:IsT P e Int] [m:IsZ P e (0:Int) bytes] (b:Own w B e cZ v xs)
  (h:∀w',Own w' B e cZ v (xs.map fun _=>(0:Int))→w.grownBy w' v.ownBlock→WL P L Q rest n σ w'):
  WL P L Q (⟨none,.call ⟨.builtin .clear,#[x],#[t]⟩,ty,pos,af,g⟩::rest) n σ w:=by
 obtain⟨w',i,j,c⟩:=DV (P:=P) (t:=t) (ty:=ty) w b;refine fq (v:=.tuple #[]) k (fun a l=>?_) (h w' j c);simp[execOp,resolve,invoke,builtin,l.ev f,i]
end
theorem it{a:Int}{k:Nat}(c:0≤a)(h1:a<4611686018427387904):bits BinOp.and IntKind.i64 (a / 2 ^ k) 1=iq a k:=by
 have h:(1:Int)≤2 ^ k:=Cd k;have b:0≤a / 2 ^ k:=Int.ediv_nonneg c O7;have f:a / 2 ^ k≤a:=Int.ediv_le_self _ c;obtain⟨q,hq⟩:=J7 b;have:=Go.Proofs.and_one q O7;unfold iq;rw[hq,this];omega
theorem GQ{s:cK}{o:List Int}{f:Nat}(hf:f<o.length)(h:¬(s.2.1=(f:Int)∨s.2.1<0∧o[f]>0)):o.set f (GN o s (f:Int))=o:=by
 unfold GN;rw[Kb,qZ hf,OJ h,Mf]
def G2(b:Nat)(o:List Int):Prop:=∀k (h:k<o.length),-(b:Int)≤o[k]∧o[k]≤9
theorem G4{b a:Nat}{o:List Int}{k:Nat}{v:Int}(h:G2 b o)(i:b≤a)(f: -(a:Int)≤v)(h1:v≤9):G2 a (o.set k v):=fun j c=>by
 rw[Lz]at c
 rw[Lf];split
 ·exact⟨f,h1⟩
 ·have:=h j c;omega
theorem pA(w0:World){so fo mo:Option Addr}{sc fc mc:Nat}{ns:List cG}{fl:List cF}{m:List Int}(hs:Sl w0 (c7 w0) so sc ns)(hf:Sl w0 (c7 w0) fo fc fl)(hm:Sl w0 (c7 w0) mo mc m)(hc0:jL (ns,fl)=0)(hml:m.length=fl.length)(hmt:G2 0 m){s:cK}{n:Nat}(hn:n<ns.length)(W:s∈Gd (ns,fl) n):
  Rt Tryz.prog 212 [Cq so sc fo fc ns.length fl.length,.slice mo m.length mc,FV s].toArray w0 fun v w'=>∃x,v=.tuple ⟨[x,Py (if(pw (ns,fl) m s).isSome then 0 else 7)]⟩∧Own w' w0.heap.size 3 cZ x ((pw (ns,fl) m s).getD [])∧Ext w0 w':=by
 have hok:=jM hc0;have hf30:=hok.f;dsimp only at hf30
 have q1:=F9 _ W;have q2:=F7 _ W;have q3:=F_ _ W;have X:xT (ns,fl) (n:Int)=0:=xU hc0 hn;have hol:(A8 fl (n:Int)).length≤fl.length:=Ba;have hil:(vT fl (n:Int)).length≤fl.length:=vW;clear W;obtain⟨s1,O,s3⟩:=s;dsimp only at q1 q2 q3
 subst q1;have hp30:=Cb (show(A8 fl (n:Int)).length≤30 by omega);have hp31:(2:Int) ^ 30=1073741824:=by decide
 have hs30:s3<4611686018427387904:=by omega
 unfold FV pw;dsimp only;rw[Kb,xe hn];refine dF Tryz.func212 Tryz.ntmps212 rfl rfl ?_;have E:=Ext.refl w0;refine PB ?_;refine dX rfl rfl rfl fun w1 z e1=>?_
 have E:=E.trans e1;skip;refine dX rfl rfl rfl fun U A e2=>?_
 have z:=z.ext e2;have E:=E.trans e2;refine Qt ?_;have hd3:=z;have hd5:=A;refine WL.call rfl rfl rfl (kj U (hm.up E) O7) ?_;rintro ov w3 ⟨c,e3⟩
 have z:=z.ext e3;have A:=A.ext e3;have z2:=E.size;have E:=E.trans e3;obtain⟨nb,off,rfl,hnb,hnc⟩:=(hs.at E).nodeK hn;refine QR ?_;refine eH (α:=cG) rfl rfl rfl rfl O7 O7 ?_;refine Rm ?_;refine WL.load (α:=Int) (F:=cZ) (y:=ns[n].2) rfl rfl rfl (by rw[Kb];exact hnc) rfl ?_;rw[show Iq Int [Py ns[n].2]=Py ns[n].2 from rfl];refine PN ?_;apply CW.cond rfl<;>intro h
 ·have h:ns[n].2=3:=by simpa using h
  rw[OK h];refine PW ?_;refine d_ rfl rfl c (fun w4 ho4 hg4=>?_);have T:Ext U w4:=e3.grown hg4 e3.size (fun b hb=>(c.lt b hb).1);refine QO ?_;exact bf rfl rfl rfl ⟨_,rfl,ho4.low z2,Ext.trans (Ext.trans e1 e2) T⟩
 have h:¬ns[n].2=3:=by simpa using h
 rw[OJ h];have e12:=Ext.trans e1 e2;clear hnc hnb e1;refine Qw ?_;have hc3:=z;have hc5:=A;have hgo:∀g,ov.ownBlock=some g→g<w3.heap.size:=fun g hg=>(c.lt g hg).2.1
 refine WL.call rfl rfl rfl (cB w3 (hs.up E) (hf.up E) (n:Int)) ?_;rintro _ w4 ⟨x,rfl,p,T⟩
 rw[X,OK rfl]at p
 have z:=z.ext T;have A:=A.ext T;have z34:=T.size;have E:=E.trans T;have c:=c.extN T;have T:=e3.trans T;obtain⟨xo,xc,rfl,_⟩:=p.oldN.sl;have hins:=fun x (hx:x∈vT fl (n:Int))=>insP_mem.1 hx
 rw[X];generalize hinsL:vT fl (n:Int)=ins at*
 obtain⟨s,H⟩:∃s:cK,s=((n:Int),O,s3):=⟨_,rfl⟩;have hs21:s.2.1=O:=by rw[H]
 rw[←H];have hTk:GD s m (ins.drop 0)=GD s m ins:=by rw[KB]
 refine Q3 ?_;refine CW.loop (S:=Nat×List Int) (fun t=>[(3,Pz w0.heap.size),(5,Pz w1.heap.size),(8,ov),(36,.slice xo ins.length xc),(37,Py ins.length),(38,Py t.1)])
  (fun t w=>t.1≤ins.length∧t.2.length=m.length∧G2 t.1 t.2∧GD s t.2 (ins.drop t.1)=GD s m ins∧Own w U.heap.size 3 cZ ov t.2∧Own w w3.heap.size 3 cZ (.slice xo ins.length xc) ins∧Ext U w∧w3.heap.size≤w.heap.size) (fun t=>ins.length -t.1)
  (0,m) O6 ⟨Nc _,rfl,hmt,hTk,c,p,T,z34⟩ ?_
 rintro⟨i,o⟩ w5 ⟨hi,r,l,hT,c,p,N,z5⟩
 dsimp only at hi r l hT c N⊢
 have hE5:=Ext.trans e12 N;have z:=hd3.ext N;have A:=hd5.ext N;obtain⟨_,_,exo,hxs⟩:=p.oldN.sl;obtain⟨rfl,_,rfl⟩:=Oi exo;refine Qt ?_;apply CW.cond rfl<;>intro h
 ·have C:i<ins.length:=by simp at h;omega
  obtain⟨f,ef,hlt,_⟩:=hins _ (Lc C);have a:f<o.length:=by omega
  have hbd:=l f a;rw[Kx C,GD,ef,Kb]at hT
  have hno:¬(O=(f:Int)∨O<0∧o[f]>0)→GD s o (ins.drop (i+1))=GD s m ins:=fun h=>by
   rw[←hT,GQ a (by rw[hs21];exact h)]
  have Y:(O=(f:Int)∨O<0∧o[f]>0)→GD s (o.set f (o[f] -1)) (ins.drop (i+1))=GD s m ins:=fun h=>by
   rw[←hT];unfold GN;rw[Kb,qZ a,hs21,OK h]
  have Z:G2 (i+1) o:=fun j hj=>by have:=l j hj;omega
  refine Rb ?_;refine eB rfl rfl rfl rfl rfl hxs C ef Pg (fun q=>?_);refine QR ?_;by_cases h1:O=(f:Int)
  ·rw[show(O==(f:Int))=true by simpa using h1]
   refine Q6 ?_;refine eE rfl rfl rfl rfl rfl c a Pg (fun u q V=>?_);obtain rfl:=V.int;refine Rv ?_;refine ft (u:=Py (o[f] -1)) (yv:=o[f] -1) rfl rfl rfl rfl c a Pg Pg Pt (fun w6 q ho6 D=>?_);have M:Ext U w6:=N.grown D N.size (fun b hb=>(c.lt b hb).1);have I:=p.keptN D (fun g hg e=>by have:=(p.lt g hg).1;have:=hgo g e.symm;omega);refine Qc ?_;exact EX.back (i+1,o.set f (o[f] -1)) O6 ⟨C,by simpa using r,G4 l O7 O7 O7,Y (.inl h1),ho6,I,M,MN z5 D.size⟩ Pa
  ·rw[show(O==(f:Int))=false by simpa using h1]
   by_cases h2:O<0
   ·refine Rs ?_
    rw[OC h2];refine Ri ?_;refine eE rfl rfl rfl rfl rfl c a Pg (fun u q V=>?_);obtain rfl:=V.int;refine PN ?_;apply CW.cond rfl<;>intro h3
    ·have h3:o[f]>0:=by simpa using h3
     refine PY ?_;refine eE rfl rfl rfl rfl rfl c a Pg (fun u q V=>?_);obtain rfl:=V.int;refine Rv ?_;refine ft (u:=Py (o[f] -1)) (yv:=o[f] -1) rfl rfl rfl rfl c a Pg Pg Pt (fun w6 q ho6 D=>?_);have M:Ext U w6:=N.grown D N.size (fun b hb=>(c.lt b hb).1);have I:=p.keptN D (fun g hg e=>by have:=(p.lt g hg).1;have:=hgo g e.symm;omega);refine Qc ?_;exact EX.back (i+1,o.set f (o[f] -1)) O6 ⟨C,by simpa using r,G4 l O7 O7 O7,Y (.inr ⟨h2,h3⟩),ho6,I,M,MN z5 D.size⟩ Pa
    ·have h3:¬o[f]>0:=by simpa using h3
     refine PI ?_;exact EX.back (i+1,o) O6 ⟨C,r,Z,hno (fun h=>h.elim h1 (fun h=>h3 h.2)),c,p,N,z5⟩ Pa
   ·refine Rs ?_
    rw[Oz h2];refine Qx ?_;exact EX.back (i+1,o) O6 ⟨C,r,Z,hno (fun h=>h.elim h1 (fun h=>h2 h.1)),c,p,N,z5⟩ Pa
 obtain rfl:i=ins.length:=by simp at h;omega
 rw[Kz,GD]at hT
 rw[←hT];clear hT exo hxs p;refine QT ?_;refine WL.call rfl rfl rfl (c8 w5 (hs.up hE5) (hf.up hE5) (n:Int)) ?_;rintro _ w6 ⟨x,rfl,B,M⟩
 rw[X,OK rfl]at B
 rw[X];have c:=c.extN M;have M:=N.trans M;obtain⟨yo,yc,rfl,_⟩:=B.oldN.sl;have houts:=fun x (hx:x∈A8 fl (n:Int))=>outsP_mem.1 hx
 generalize A8 fl (n:Int)=outs at*
 have z:=hd3.ext M;have A:=hd5.ext M;generalize hR:CA s3 0 o outs=R;have hRk:CA s3 0 o (outs.drop 0)=R:=by rw[KB];exact hR
 have G:G2 30 o:=fun j hj=>by have:=l j hj;omega
 refine Q3 ?_;refine CW.loop (S:=Nat×List Int) (fun t=>[(5,Pz w1.heap.size),(8,ov),(72,.slice yo outs.length yc),(73,Py outs.length),(74,Py t.1)])
  (fun t w=>t.1≤outs.length∧t.2.length=m.length∧G2 30 t.2∧CA s3 t.1 t.2 (outs.drop t.1)=R∧Own w U.heap.size 3 cZ ov t.2∧Own w w5.heap.size 3 cZ (.slice yo outs.length yc) outs∧Ext U w) (fun t=>outs.length -t.1)
  (0,o) O6 ⟨Nc _,r,G,hRk,c,B,M⟩ ?_
 clear hR hRk G c B M l r A z hE5;rintro⟨k,o2⟩ w7 ⟨hk,J,l,hR,c,B,e7⟩
 dsimp only at hk J l hR c e7⊢
 have hE7:=Ext.trans e12 e7;have A:=hd5.ext e7;obtain⟨_,_,eyo,hys⟩:=B.oldN.sl;obtain⟨rfl,_,rfl⟩:=Oi eyo;refine Qt ?_;apply CW.cond rfl<;>intro h
 ·have K:k<outs.length:=by simp at h;omega
  obtain⟨f,ef,hlt,_⟩:=houts _ (Lc K);have a:f<o2.length:=by omega
  have hbd:=l f a;have hbit:=it (k:=k) q3.1 hs30;rw[Kx K,CA,ef,Kb,qZ a]at hR
  refine PX ?_;refine eB rfl rfl rfl rfl rfl hys K ef Pg (fun q=>?_);refine QR ?_;refine fw (s:=k) rfl rfl rfl rfl O7 ?_;refine PN ?_;rw[hbit];apply CW.cond rfl<;>intro h1
  ·have h1:iq s3 k=1:=by simpa using h1
   rw[OK h1]at hR
   refine PW ?_;refine eE rfl rfl rfl rfl rfl c a Pg (fun u q V=>?_);obtain rfl:=V.int;refine Rw ?_;refine ft (u:=Py (o2[f]+1)) (yv:=o2[f]+1) rfl rfl rfl rfl c a Pg Pg Pt (fun w8 q ho8 hg8=>?_);have e8:Ext U w8:=e7.grown hg8 e7.size (fun b hb=>(c.lt b hb).1);have hoy8:=B.keptN hg8 (fun g hg e=>by have:=(B.lt g hg).1;have:=hgo g e.symm;omega);have hE8:=Ext.trans e12 e8;have hfo8:f<(o2.set f (o2[f]+1)).length:=by simpa using a
   refine Qt ?_;refine eE rfl rfl rfl rfl rfl ho8 hfo8 Pg (fun u q V=>?_);obtain rfl:=V.int;rw[Lg];refine PN ?_;apply CW.cond rfl<;>intro h2
   ·have h2:o2[f]+1>9:=by simpa using h2
    rw[OK h2]at hR
    subst hR;refine PA ?_;exact bf rfl rfl rfl ⟨_,rfl,Own.nil,hE8⟩
   ·have h2:¬o2[f]+1>9:=by simpa using h2
    rw[OJ h2]at hR
    refine PI ?_;exact EX.back (k+1,o2.set f (o2[f]+1)) O6 ⟨K,by simpa using J,G4 l O7 O7 O7,hR,ho8,hoy8,e8⟩ Pa
  ·have h1:¬iq s3 k=1:=by simpa using h1
   rw[OJ h1]at hR
   refine PI ?_;exact EX.back (k+1,o2) O6 ⟨K,J,l,hR,c,B,e7⟩ Pa
 ·obtain rfl:k=outs.length:=by simp at h;omega
  rw[Kz,CA]at hR
  subst hR;refine P_ ?_;exact bf rfl rfl rfl ⟨_,rfl,c.low z2,hE7⟩
theorem G3{m:List Int}(h:m.any G1=false):G2 0 m:=fun k a=>by
 have:=Kf.1 h _ (Lc a);unfold G1 at this
 simp at this
 omega
theorem bL(w0:World){so fo mo:Option Addr}{sc fc mc:Nat}{ns:List cG}{fl:List cF}{m:List Int}(l:Sl w0 (c7 w0) so sc ns)(hf:Sl w0 (c7 w0) fo fc fl)(p:Sl w0 (c7 w0) mo mc m)(k:Int):
  Rt Tryz.prog 133 [Cq so sc fo fc ns.length fl.length,.slice mo m.length mc,Py k].toArray w0 fun v w'=>∃x,v=.tuple ⟨[x,Py (pj (ns,fl) m k).2]⟩∧Own w' w0.heap.size 3 cZ x (pj (ns,fl) m k).1∧Ext w0 w':=by
 refine dF Tryz.func133 Tryz.ntmps133 rfl rfl ?_;have a:=Ext.refl w0;refine PB ?_;refine dX rfl rfl rfl fun Q f S=>?_
 have a:=a.trans S;refine Q4 ?_;refine WL.call rfl rfl rfl (jh Q (l.up a) (hf.up a) (p.up a)) ?_;rintro _ T ⟨x,rfl,c,O⟩
 have f:=f.ext O;have a:=a.trans O;unfold pj;by_cases r:jG (ns,fl) m=0
 case neg=>
  have F:(jG (ns,fl) m != 0)=true:=by simpa using r
  rw[OK r];refine Qj ?_;rw[F];refine QK ?_;exact bf rfl rfl rfl ⟨_,rfl,Own.nil,a⟩
 obtain⟨C,o,t,N⟩:=jH r;have H:=G3 t;rw[OK r]at c
 rw[OJ (by simp[r]),r];dsimp only at o
 obtain⟨xo,xc,rfl,d⟩:=c.oldN.sl;clear c;refine QN ?_;by_cases z:k<0∨k≥(Ga (ns,fl)).length
 ·rw[OK z]
  by_cases K:k<0
  ·rw[OC K]
   refine PM ?_;exact bf rfl rfl rfl ⟨_,rfl,Own.nil,a⟩
  ·rw[Oz K]
   refine Q_ ?_;rw[OC (show k≥((Ga (ns,fl)).length:Int) from z.resolve_left K)];refine QK ?_;exact bf rfl rfl rfl ⟨_,rfl,Own.nil,a⟩
 rw[OJ z];have J:¬k<0:=fun h=>z (.inl h)
 have I:¬k≥((Ga (ns,fl)).length:Int):=fun h=>z (.inr h)
 rw[Oz J];refine Q_ ?_;rw[Oz I];obtain⟨i,rfl⟩:=J7 (show 0≤k by omega);have e:i<(Ga (ns,fl)).length:=by omega
 obtain⟨n,hn,y⟩:=stepsP_mem.1 (Lc e);rw[Kb,Gb e];have B:=fun w l hf p=>nf w (so:=so) (fo:=fo) (mo:=mo) (sc:=sc) (fc:=fc) (mc:=mc) l hf p C o hn y
 have A:=fun w l hf p=>pA w (so:=so) (fo:=fo) (mo:=mo) (sc:=sc) (fc:=fc) (mc:=mc) l hf p C o H hn y
 obtain⟨s,b⟩:∃s,s=(Ga (ns,fl))[i]:=⟨_,rfl⟩;rw[←b]at B A⊢
 refine Rg ?_;refine dk rfl rfl rfl rfl rfl Pl d e Pg (fun u q E=>?_);rw[E.step,←b];refine QL.call rfl rfl rfl (fun w G=>B w (l.up (a.trans G)) (hf.up (a.trans G)) (p.up (a.trans G))) ?_;refine Rl ?_;refine QL.nil (fun j M=>?_);have f:=f.ext M;have a:=a.trans M;have d:=d.up M;clear E;refine PC ?_;apply CW.cond rfl<;>intro h
 ·have h:m_ (ns,fl) m s=false:=by simpa using h
  rw[OK h];refine PA ?_;exact bf rfl rfl rfl ⟨_,rfl,Own.nil,a⟩
 have h:¬m_ (ns,fl) m s=false:=by simpa using h
 rw[OJ h];have hd:=Ext.drew j;have L:∀x,(fun x=>Ext j x) x→Ext j x:=fun _ h=>h
 have g:=a.trans hd;refine Qr ?_;refine aF (fun x=>Ext j x) [(0,true),(1,true),(2,true),(3,true),(4,true),(5,true),(6,false),(7,true),(8,true),(9,true),(10,true)] mixed O8 (Ext.drew j) ?_;refine RO ?_;refine bZ (α:=cK) (k:=i) L rfl rfl rfl rfl rfl rfl rfl Pl d e Pg (fun u q E=>?_);rw[E.step,←b];skip;refine cr rfl (WL.call rfl rfl rfl (A (drew j) (l.up g) (hf.up g) (p.up g)) ?_);rintro _ P ⟨x,rfl,c,R⟩
 have D:Ext j P:=hd.trans R;refine WL.nil (a_ D ?_);refine RR ?_;refine PQ ?_;exact bf rfl rfl rfl ⟨_,rfl,c.low g.size,a.trans D⟩

section
variable {w w':World}{B:Nat}{mv lv:Value}{vs:List Raw}{xs:List (List Int)}{ks:List Int}
end
theorem i4{p:cI}{m:List Int}:(i3 p m).length≤60:=by
 unfold i3;split
 ·rename_i h
  obtain⟨_,_,_,a⟩:=jH h;unfold i6 i7;rw[Ls];have:=Lr (fun i=>m_ p m ((Ga p).getD i (0,0,0))) (List.range (Ga p).length);rw[Lv]at this
  omega
 ·simp
theorem q8{l:List Int}{i j:Nat}{v:Int}(h:i<l.length):(l.set i v).getD j 0=if i=j then v else l.getD j 0:=by
 simp only[KT,K4];split
 ·subst_vars;simp[h]
 ·rfl
def vE(N:Nat)(l:List Int):Prop:=∀x∈l,0≤x∧x<N
theorem vF{fl:List cF}{n:Int}:vE fl.length (vT fl n):=fun x a=>by
 obtain⟨j,rfl,h,_⟩:=insP_mem.1 a;omega
theorem vG{fl:List cF}{n:Int}:vE fl.length (A8 fl n):=fun x a=>by
 obtain⟨j,rfl,h,_⟩:=outsP_mem.1 a;omega
theorem A9{fl:List cF}{n:Int}:(A8 fl n).Nodup:=by
 unfold A8 A_;rw[List.Nodup,L_];exact(L5.filter _).imp fun a e=>a O7
section
variable {s:cK}
theorem GG:∀(l:List Int) (m:List Int),(GD s m l).length=m.length
 |[],m=>rfl
 |f::r,m=>by rw[GD,GG r,Lz]
theorem GO{m a:List Int}{f:Int}(h:m.getD f.toNat 0=a.getD f.toNat 0):GN m s f=GN a s f:=by unfold GN;rw[h]
theorem GE:∀(l:List Int) (m:List Int),vE m.length l→l.Nodup→∀j:Nat,(GD s m l).getD j 0=if(j:Int)∈l then GN m s (j:Int)else m.getD j 0
 |[],m,_,_,j=>by simp[GD]
 |f::r,m,b,hd,j=>by
  rw[L4]at hd
  have hf:=b f O_;have c:=GE r (m.set f.toNat (GN m s f)) (fun x d=>by rw[Lz];exact b x (by simp[d])) hd.2 j;rw[GD,c,q8 O7];by_cases e:f.toNat=j
  ·have ej:(j:Int)=f:=by omega
   rw[OK e,ej,OJ hd.1,OK O_]
  ·have ej:¬(j:Int)=f:=by omega
   rw[OJ e];by_cases a:(j:Int)∈r
   ·rw[OK a,OK (by simp[a])]
    exact GO (by rw[Kb,q8 O7,OJ e])
   ·rw[OJ a,OJ (by simp[a,ej])]
end
theorem CC{n:Int}:∀(l:List Int) (k:Nat) (m a:List Int),CA n k m l=some a→a.length=m.length
 |[],k,m,a,h=>by rw[CA]at h;injection h with h;rw[h]
 |f::r,k,m,a,h=>by
  rw[CA]at h
  split at h
  ·split at h
   ·cases h
   ·rw[CC r _ _ _ h,Lz]
  ·exact CC r _ _ _ h
def ik(n:Int):Nat→List Int→Int→Int
 |_,[],_=>0
 |k,f::r,j=>if f=j then iq n k else ik n (k+1) r j
theorem ip{n:Int}:∀(l:List Int) (k:Nat) (j:Int),j∉l→ik n k l j=0
 |[],k,j,_=>rfl
 |f::r,k,j,h=>by
  rw[ik,OJ (fun e=>h (by simp[e])),ip r _ j (fun a=>h (by simp[a]))]
theorem ir(n:Int)(k:Nat):iq n k=0∨iq n k=1:=by unfold iq;omega
theorem CB{n:Int}:∀(l:List Int) (k:Nat) (m:List Int),vE m.length l→l.Nodup→
  ((∀x∈l,m.getD x.toNat 0+ik n k l x≤9∨ik n k l x=0)→∃d,CA n k m l=some d∧∀j:Nat,d.getD j 0=m.getD j 0+ik n k l (j:Int))∧
  (∀d,CA n k m l=some d→∀x∈l,m.getD x.toNat 0+ik n k l x≤9∨ik n k l x=0)
 |[],k,m,_,_=>⟨fun _=>⟨m,rfl,fun j=>by simp[ik]⟩,fun _ _ x a=>by cases a⟩
 |f::r,k,m,u,hd=>by
  rw[L4]at hd
  have hf:=u f O_;have o:vE m.length r:=fun x a=>u x (by simp[a])
  have i:ik n k (f::r) f=iq n k:=by rw[ik,OK rfl]
  have c:∀x,x≠f→ik n k (f::r) x=ik n (k+1) r x:=fun x h=>by rw[ik,OJ (fun e=>h e.symm)]
  have b:∀x∈r,x≠f:=fun x a e=>hd.1 (e▸a)
  rcases ir n k with p|p
  ·have q:=CB (n:=n) r (k+1) m o hd.2
   have t:CA n k m (f::r)=CA n (k+1) m r:=by rw[CA,OJ O7]
   rw[t];refine⟨fun h=>?_,fun d h x a=>?_⟩
   ·obtain⟨d,h1,h2⟩:=q.1 (fun x a=>by have:=h x (by simp[a]);rwa[c x (b x a)]at this)
    refine⟨d,h1,fun j=>?_⟩;rw[h2 j];by_cases e:(j:Int)=f
    ·rw[e,i,p,ip r _ f hd.1]
    ·rw[c _ e]
   ·rcases LN.1 a with rfl|a
    ·right;rw[i,p]
    ·rw[c x (b x a)];exact q.2 d h x a
  ·have g:∀x:Int,0≤x→x≠f→(m.set f.toNat (m.getD f.toNat 0+1)).getD x.toNat 0=m.getD x.toNat 0:=fun x w h=>by
    rw[q8 O7,OJ O7]
   have q:=CB (n:=n) r (k+1) (m.set f.toNat (m.getD f.toNat 0+1)) (fun x a=>by rw[Lz];exact o x a) hd.2;have t:CA n k m (f::r)=if m.getD f.toNat 0+1>9 then none else CA n (k+1) (m.set f.toNat (m.getD f.toNat 0+1)) r:=by rw[CA,OK p]
   rw[t];refine⟨fun h=>?_,fun d h x a=>?_⟩
   ·have v:¬m.getD f.toNat 0+1>9:=by
     have:=h f O_;rw[i,p]at this
     omega
    rw[OJ v];obtain⟨d,h1,h2⟩:=q.1 (fun x a=>by
     have:=h x (by simp[a]);rw[c x (b x a)]at this
     rwa[g x (o x a).1 (b x a)])
    refine⟨d,h1,fun j=>?_⟩;rw[h2 j];by_cases e:(j:Int)=f
    ·rw[q8 O7,OK O7,e,i,p,ip r _ f hd.1]
     have:f.toNat=j:=by omega
     rw[this];omega
    ·have:=g (j:Int) O7 e
     rw[Kb]at this
     rw[c _ e,this]
   ·split at h
    ·cases h
    ·rename_i v
     rcases LN.1 a with rfl|a
     ·left;rw[i,p];omega
     ·rw[c x (b x a)]
      have:=q.2 d h x a;rwa[g x (o x a).1 (b x a)]at this
def cU(p:cI)(m:List Int):Prop:=m.length=p.2.length∧∀j:Nat,0≤m.getD j 0∧m.getD j 0≤9
theorem yL{p:cI}{m:List Int}(b:(F4 p).2=0)(h:cU p m):jG p m=0:=by
 unfold jG;rw[OJ (by simp[b]),OJ];rintro(e|e)
 ·exact e h.1
 ·obtain⟨x,c,a⟩:=Kg.1 e
  obtain⟨j,d,rfl⟩:=LT.1 c;have:=h.2 j;rw[qZ d]at this
  unfold G1 at a
  simp at a
  omega
theorem jW{p:cI}{m:List Int}(h:jG p m=0):cU p m:=by
 obtain⟨_,h1,h2,_⟩:=jH h;have h3:=G3 h2;refine⟨h1,fun j=>?_⟩;by_cases a:j<m.length
 ·rw[qZ a];have:=h3 j a;omega
 ·rw[KT,KZ O7]
  exact⟨J8 _,by decide⟩
theorem h_{p:cI}:cU p (hZ p):=by
 refine⟨by simp[hZ],fun j=>?_⟩;by_cases a:j<(hZ p).length
 ·rw[qZ a]
  have e:(hZ p)[j]=if xb p (p.2[j]'(by simpa[hZ]using a)).1.toNat=1 then 1 else 0:=by simp[hZ]
  rw[e];split<;>omega
 ·rw[KT,KZ O7]
  exact⟨J8 _,by decide⟩
def dP(p:cI)(m:List Int)(k:Int)(a:List Int):Prop:=
 0≤k∧k<(Ga p).length∧m_ p m ((Ga p).getD k.toNat (0,0,0))=true∧pw p m ((Ga p).getD k.toNat (0,0,0))=some a
theorem pn{p:cI}{m:List Int}{k:Int}(h:(pj p m k).2=0):jG p m=0∧dP p m k (pj p m k).1:=by
 unfold pj at h⊢
 split at h
 ·rename_i h1;exact absurd h h1
 ·rename_i h1
  split at h
  ·cases h
  ·rename_i h2
   split at h
   ·cases h
   ·rename_i h3
    rw[OJ h1,OJ h2,OJ h3];refine⟨by simpa using h1,by omega,by omega,by simpa using h3,?_⟩;dsimp only at h⊢
    cases e:pw p m ((Ga p).getD k.toNat (0,0,0))with
    |none=>rw[e]at h;cases h
    |some r=>rfl
theorem GP{m:List Int}{s:cK}{f:Int}(c:0≤m.getD f.toNat 0)(b:m.getD f.toNat 0≤9)(a:s.2.1=f→m.getD f.toNat 0>0):0≤GN m s f∧GN m s f≤9:=by
 unfold GN;split
 ·rename_i h
  rcases h with h|h
  ·have:=a h;omega
  ·omega
 ·exact⟨c,b⟩
theorem im{n:Int}:∀(l:List Int) (k:Nat) (j:Int),0≤ik n k l j∧ik n k l j≤1
 |[],k,j=>⟨J8 _,(by decide:(0:Int)≤1)⟩
 |f::r,k,j=>by
  rw[ik];split
  ·have:=ir n k;omega
  ·exact im r _ j
theorem pz{p:cI}{m g:List Int}{s:cK}(c:cU p m)(b:m_ p m s=true)(h:pw p m s=some g):cU p g:=by
 unfold pw at h
 split at h
 ·injection h with h
  subst h;refine⟨by simpa using c.1,fun j=>?_⟩;by_cases d:j<m.length
  ·rw[qZ (by simpa using d),Lb];omega
  ·rw[KT,KZ (by simpa using d)]
   exact⟨J8 _,by decide⟩
 ·have k:vE m.length (vT p.2 s.1):=by rw[c.1];exact vF
  have q:=GE (s:=s) (vT p.2 s.1) m k vU;have f:(GD s m (vT p.2 s.1)).length=m.length:=GG _ _;have i:vE (GD s m (vT p.2 s.1)).length (A8 p.2 s.1):=by rw[f,c.1];exact vG
  have hP:=CB (n:=s.2.2) (A8 p.2 s.1) 0 _ i A9;have l:=hP.2 g h;obtain⟨t,h1,h2⟩:=hP.1 l;rw[h]at h1
  injection h1 with h1
  subst h1;have r:∀j:Nat,0≤(GD s m (vT p.2 s.1)).getD j 0∧(GD s m (vT p.2 s.1)).getD j 0≤9:=fun j=>by
   rw[q j];have a:=c.2 j;split
   ·refine GP (by rw[Kb];exact a.1) (by rw[Kb];exact a.2) (fun e=>?_)
    unfold m_ at b
    rw[OK O7,e]at b
    simpa using b
   ·exact a
  refine⟨by rw[CC _ _ _ _ h,f];exact c.1,fun j=>?_⟩;rw[h2 j];have h3:=r j;have h4:=im (n:=s.2.2) (A8 p.2 s.1) 0 (j:Int);by_cases d:(j:Int)∈A8 p.2 s.1
  ·have o:=l _ d
   rw[Kb]at o
   omega
  ·have o:=ip (n:=s.2.2) (A8 p.2 s.1) 0 (j:Int) d
   omega


abbrev cE:=Int×Int
abbrev Sr:=List (List Int)×List (Int×Int)×(Int×Int)
def G_(tok:Int)(m:List Int):Bool:=m.any fun n=>decide (n>tok)
def B5(m:List Int):List (List Int)→Nat
 |[]=>0
 |x::r=>if x=m then 0 else B5 m r+1
def CD(tok st:Int)(s:Sr)(m:List Int)(fr:Int×Int):Sr×Int×Int:=
 if G_ tok m=true then((s.1,s.2.1,fr),0,7)
 else if m∈s.1 then((s.1,s.2.1,fr),(B5 m s.1:Int),0)
 else if(s.1.length:Int)=st then((s.1,s.2.1,fr),0,8)
 else((s.1++[m],s.2.1++[fr],fr),(s.1.length:Int),0)
noncomputable def mJ(p:cI)(tok st n:Int)(m:List Int):List Int→Sr→List cE→Sr×List cE×Int
 |[],s,out=>(s,out,0)
 |k::r,s,out=>
  if(pj p m k).2≠0 then((s.1,s.2.1,(n,k)),[],(pj p m k).2)
  else if(CD tok st s (pj p m k).1 (n,k)).2.2≠0 then((CD tok st s (pj p m k).1 (n,k)).1,[],(CD tok st s (pj p m k).1 (n,k)).2.2)
  else mJ p tok st n m r (CD tok st s (pj p m k).1 (n,k)).1 (out++[(k,(CD tok st s (pj p m k).1 (n,k)).2.1)])
noncomputable def mH(p:cI)(tok st:Int)(n:Nat)(s:Sr):Sr×List cE×Int:=mJ p tok st (n:Int) (s.1.getD n []) (i3 p (s.1.getD n [])) s []
noncomputable def DM(p:cI)(tok st:Int):Nat→Nat→Sr→List (List cE)→Sr×List (List cE)×Int
 |0,n,s,nx=>(s,nx,0)
 |f+1,n,s,nx=>
  if n<s.1.length then
   (if(mH p tok st n s).2.2≠0 then((mH p tok st n s).1,nx,(mH p tok st n s).2.2)else DM p tok st f (n+1) (mH p tok st n s).1 (nx++[(mH p tok st n s).2.1]))
  else(s,nx,0)
def DE(tok st:Int):Int:=if tok<1∨tok>9∨st<1∨st>200 then 1 else 0
noncomputable def runB(p:cI)(tok st:Int):Sr×List (List cE)×Int:=
 if(CD tok st ([],[],(0,0)) (hZ p) (-1,-1)).2.2≠0 then((CD tok st ([],[],(0,0)) (hZ p) (-1,-1)).1,[],(CD tok st ([],[],(0,0)) (hZ p) (-1,-1)).2.2)
 else DM p tok st 201 0 (CD tok st ([],[],(0,0)) (hZ p) (-1,-1)).1 []
noncomputable def DQ(p:cI)(tok st:Int):Int:=if(F4 p).2≠0 then(F4 p).2 else DE tok st
noncomputable def n_(p:cI)(tok st:Int):(List (List Int)×List (List cE))×Int:=
 if DQ p tok st≠0 then(([],[]),DQ p tok st)
 else if(runB p tok st).2.2≠0 then(([],[]),(runB p tok st).2.2)else(((runB p tok st).1.1,(runB p tok st).2.1),0)
def wN(m:List Int):List Int:=(List.range 30).map fun i=>m.getD i 0
theorem wP(m:List Int):(wN m).length=30:=by simp[wN]
theorem wO{a b:List Int}(d:a.length≤30)(h:a.length=b.length)(c:wN a=wN b):a=b:=by
 refine KD h fun i h1 h2=>?_
 have hi:i<30:=by omega
 have h3:(wN a)[i]'(by rw[wP];exact hi)=(wN b)[i]'(by rw[wP];exact hi):=by simp only[c]
 simp only[wN,Lb,Ld,KT,KY h1,KY h2,Nk]at h3
 exact h3
theorem B6{m:List Int}:∀{l:List (List Int)} {j:Nat} (b:j<l.length),l.Nodup→l[j]=m→B5 m l=j
 |x::r,0,_,_,h=>by
  unfold B5;rw[OK (by simpa using h)]
 |x::r,j+1,b,hd,h=>by
  rw[L4]at hd
  unfold B5;have a:m∈r:=by
   rw[←h,K9];exact Lc _
  rw[OJ (fun e=>hd.1 (by rw[e];exact a)),B6 (j:=j) (by simpa using b) hd.2 (by simpa using h)]
theorem CG{a b c d:Int}{s:Sr}{m:List Int}{fr:Int×Int}(h1:(CD a b s m fr).2.2=0)(h2:(CD c d s m fr).2.2=0):CD a b s m fr=CD c d s m fr:=by
 unfold CD at h1 h2⊢
 by_cases g1:G_ a m=true
 ·rw[OK g1]at h1;cases h1
 by_cases g2:G_ c m=true
 ·rw[OK g2]at h2;cases h2
 rw[OJ g1]at h1
 rw[OJ g2]at h2
 rw[OJ g1,OJ g2];by_cases g3:m∈s.1
 ·rw[OK g3,OK g3]
 rw[OJ g3]at h1 h2
 rw[OJ g3,OJ g3];by_cases g4:(s.1.length:Int)=b
 ·rw[OK g4]at h1;cases h1
 by_cases g5:(s.1.length:Int)=d
 ·rw[OK g5]at h2;cases h2
 rw[OJ g4,OJ g5]
theorem mM{p:cI}{a b c d n:Int}{m:List Int}:∀(l:List Int) (s:Sr) (out:List cE),(mJ p a b n m l s out).2.2=0→(mJ p c d n m l s out).2.2=0→mJ p a b n m l s out=mJ p c d n m l s out
 |[],s,out,_,_=>rfl
 |k::r,s,out,h1,h2=>by
  rw[mJ]at h1 h2⊢
  rw[mJ];by_cases g:(pj p m k).2=0
  case neg=>rw[OK g]at h1;exact absurd h1 g
  have i:¬(pj p m k).2≠0:=by simp[g]
  rw[OJ i]at h1 h2
  rw[OJ i,OJ i];by_cases g1:(CD a b s (pj p m k).1 (n,k)).2.2=0
  case neg=>rw[OK g1]at h1;exact absurd h1 g1
  by_cases g2:(CD c d s (pj p m k).1 (n,k)).2.2=0
  case neg=>rw[OK g2]at h2;exact absurd h2 g2
  have e:=CG g1 g2;have h:¬(CD a b s (pj p m k).1 (n,k)).2.2≠0:=by simp[g1]
  have f:¬(CD c d s (pj p m k).1 (n,k)).2.2≠0:=by simp[g2]
  rw[OJ h]at h1
  rw[OJ f]at h2
  rw[OJ h,OJ f];rw[e]at h1⊢
  exact mM r _ _ h1 h2
theorem DO{p:cI}{a b c d:Int}:∀(f n:Nat) (s:Sr) (nx:List (List cE)),(DM p a b f n s nx).2.2=0→(DM p c d f n s nx).2.2=0→DM p a b f n s nx=DM p c d f n s nx
 |0,n,s,nx,_,_=>rfl
 |f+1,n,s,nx,h1,h2=>by
  rw[DM]at h1 h2⊢
  rw[DM];by_cases hn:n<s.1.length
  case neg=>rw[OJ hn,OJ hn]
  rw[OK hn]at h1 h2
  rw[OK hn,OK hn];by_cases g1:(mH p a b n s).2.2=0
  case neg=>rw[OK g1]at h1;exact absurd h1 g1
  by_cases g2:(mH p c d n s).2.2=0
  case neg=>rw[OK g2]at h2;exact absurd h2 g2
  have e:mH p a b n s=mH p c d n s:=mM _ _ _ g1 g2;rw[OJ (by simp[g1])]at h1
  rw[OJ (by simp[g2])]at h2
  rw[OJ (by simp[g1]),OJ (by simp[g2])];rw[e]at h1⊢
  exact DO f _ _ _ h1 h2
theorem DF{p:cI}{a b c d:Int}(h1:(runB p a b).2.2=0)(h2:(runB p c d).2.2=0):runB p a b=runB p c d:=by
 unfold runB at h1 h2⊢
 by_cases g1:(CD a b ([],[],(0,0)) (hZ p) (-1,-1)).2.2=0
 case neg=>rw[OK g1]at h1;exact absurd h1 g1
 by_cases g2:(CD c d ([],[],(0,0)) (hZ p) (-1,-1)).2.2=0
 case neg=>rw[OK g2]at h2;exact absurd h2 g2
 have e:=CG g1 g2;rw[OJ (by simp[g1])]at h1
 rw[OJ (by simp[g2])]at h2
 rw[OJ (by simp[g1]),OJ (by simp[g2])];rw[e]at h1⊢
 exact DO _ _ _ _ h1 h2
theorem od{p:cI}{a b:Int}(h:(n_ p a b).2=0):(F4 p).2=0∧1≤a∧1≤b∧b≤200∧(runB p a b).2.2=0∧n_ p a b=(((runB p a b).1.1,(runB p a b).2.1),0):=by
 unfold n_ at h⊢
 by_cases g1:DQ p a b=0
 case neg=>rw[OK g1]at h;exact absurd h g1
 rw[OJ (by simp[g1])]at h⊢
 by_cases g2:(runB p a b).2.2=0
 case neg=>rw[OK g2]at h;exact absurd h g2
 rw[OJ (by simp[g2])];unfold DQ at g1
 by_cases g3:(F4 p).2=0
 case neg=>rw[OK g3]at g1;exact absurd g1 g3
 rw[OJ (by simp[g3])]at g1
 unfold DE at g1
 split at g1
 ·cases g1
 ·rename_i g4
  exact⟨g3,by omega,by omega,by omega,g2,rfl⟩
theorem oe{p:cI}{a b c d:Int}(h1:(n_ p a b).2=0)(h2:(n_ p c d).2=0):n_ p a b=n_ p c d:=by
 obtain⟨_,_,_,_,f,h⟩:=od h1;obtain⟨_,_,_,_,e,g⟩:=od h2;rw[h,g,DF f e]
theorem B7{m:List Int}:∀{l:List (List Int)},m∈l→B5 m l<l.length∧l.getD (B5 m l) []=m
 |x::r,h=>by
  unfold B5;by_cases e:x=m
  ·rw[OK e];exact⟨by simp,by simpa using e⟩
  ·rw[OJ e]
   rcases LN.1 h with h|h
   ·exact absurd h.symm e
   ·obtain⟨h1,h2⟩:=B7 h
    exact⟨by simp;omega,by simpa using h2⟩
def EdgeOk(p:cI)(m:List Int)(l:List (List Int))(e:cE):Prop:=(pj p m e.1).2=0∧0≤e.2∧e.2<l.length∧l.getD e.2.toNat []=(pj p m e.1).1
theorem EdgeOk.more{p:cI}{m:List Int}{l t:List (List Int)}{e:cE}(h:EdgeOk p m l e):EdgeOk p m (l++t) e:=by
 obtain⟨h1,h2,h3,h4⟩:=h;refine⟨h1,h2,by rw[Ll];omega,?_⟩;rw[←h4,KT,KT,KU O7]
structure SrOk(p:cI)(tok st:Int)(l:List (List Int)):Prop where
 nd:l.Nodup
 ok:∀m∈l,cU p m
 le:∀m∈l,∀x∈m,x≤tok
 st:(l.length:Int)≤st
theorem CF{p:cI}{tok st:Int}{s:Sr}{m:List Int}{fr:Int×Int}(h:SrOk p tok st s.1)(k:cU p m)(d:(CD tok st s m fr).2.2=0):
  SrOk p tok st (CD tok st s m fr).1.1∧(∃t,(CD tok st s m fr).1.1=s.1++t∧∀i:Nat,s.1.length≤i→i<(s.1++t).length→(CD tok st s m fr).2.1=(i:Int))∧
   0≤(CD tok st s m fr).2.1∧(CD tok st s m fr).2.1<(CD tok st s m fr).1.1.length∧(CD tok st s m fr).1.1.getD (CD tok st s m fr).2.1.toNat []=m:=by
 unfold CD at d⊢
 by_cases g1:G_ tok m=true
 ·rw[OK g1]at d;cases d
 rw[OJ g1]at d⊢
 by_cases g3:m∈s.1
 ·rw[OK g3]
  obtain⟨h1,h2⟩:=B7 g3;exact⟨h,⟨[],by simp,fun i h1 h2=>by simp at h2;omega⟩,by dsimp only;omega,by dsimp only;omega,by simpa using h2⟩
 rw[OJ g3]at d⊢
 by_cases g4:(s.1.length:Int)=st
 ·rw[OK g4]at d;cases d
 rw[OJ g4];have j:=h.st;refine⟨⟨?_,?_,?_,?_⟩,⟨[m],rfl,fun i h1 h2=>by simp at h2;dsimp only;omega⟩,by dsimp only;omega,by simp;omega,by simp⟩
 ·rw[L3]
  refine⟨h.nd,Ma _ _,?_⟩;intro a l b g e
  rw[L0]at g
  subst g;subst e;exact g3 l
 ·intro x c
  rcases LK.1 c with c|c
  ·exact h.ok x c
  ·rw[L0]at c;subst c;exact k
 ·intro x c
  rcases LK.1 c with c|c
  ·exact h.le x c
  ·rw[L0]at c;subst c
   intro n hn
   unfold G_ at g1
   rw[Kg]at g1
   have:¬n>tok:=fun f=>g1 ⟨n,hn,by simpa using f⟩
   omega
 ·simp;omega
theorem pm{p:cI}{m:List Int}{k:Int}(h:(pj p m k).2=0):cU p (pj p m k).1:=by
 obtain⟨h1,_,_,h3,h4⟩:=pn h;exact pz (jW h1) h3 h4
theorem mL{p:cI}{tok st n:Int}{m:List Int}:∀(l:List Int) (s:Sr) (out:List cE),SrOk p tok st s.1→(∀e∈out,EdgeOk p m s.1 e)→(mJ p tok st n m l s out).2.2=0→
  SrOk p tok st (mJ p tok st n m l s out).1.1∧(mJ p tok st n m l s out).2.1.map Prod.fst=out.map Prod.fst++l∧(∀e∈(mJ p tok st n m l s out).2.1,EdgeOk p m (mJ p tok st n m l s out).1.1 e)∧
   (∃u,(mJ p tok st n m l s out).2.1=out++u)∧∃t,(mJ p tok st n m l s out).1.1=s.1++t∧∀i:Nat,s.1.length≤i→i<(s.1++t).length→∃e∈(mJ p tok st n m l s out).2.1,e.2=(i:Int)
 |[],s,out,o,z,a=>⟨o,by simp[mJ],z,⟨[],by simp[mJ]⟩,[],by simp[mJ],fun i h1 h2=>by simp at h2;omega⟩
 |k::r,s,out,o,z,a=>by
  rw[mJ]at a⊢
  by_cases g:(pj p m k).2=0
  case neg=>rw[OK g]at a;exact absurd a g
  rw[OJ (by simp[g])]at a⊢
  by_cases g1:(CD tok st s (pj p m k).1 (n,k)).2.2=0
  case neg=>rw[OK g1]at a;exact absurd a g1
  rw[OJ (by simp[g1])]at a⊢
  obtain⟨j,⟨t,c,f⟩,x,w,v⟩:=CF o (pm g) g1;generalize CD tok st s (pj p m k).1 (n,k)=q at*
  obtain⟨d,b,D⟩:=q;dsimp only at*
  have y:∀e∈out++[(k,b)],EdgeOk p m d.1 e:=by
   intro e h
   rcases LK.1 h with h|h
   ·rw[c];exact(z e h).more
   ·rw[L0]at h;subst h
    exact⟨g,x,w,v⟩
  obtain⟨a1,a2,a3,⟨u,a4⟩,A,C,B⟩:=mL r d (out++[(k,b)]) j y a;refine⟨a1,by rw[a2];simp,a3,⟨(k,b)::u,by rw[a4];simp⟩,t++A,by rw[C,c];simp,fun i h1 h2=>?_⟩;by_cases hi:i<d.1.length
  ·refine⟨(k,b),by rw[a4];simp,?_⟩
   exact f i h1 (by rw[←c];exact hi)
  ·exact B i O7 (by rw[c];simpa using h2)
structure SpOk(p:cI)(l:List (List Int))(nx:List (List cE)):Prop where
 le:nx.length≤l.length
 can:∀j,j<nx.length→(nx.getD j []).map Prod.fst=i3 p (l.getD j [])
 ed:∀j,j<nx.length→∀e∈nx.getD j [],EdgeOk p (l.getD j []) l e
 fr:∀i:Nat,1≤i→i<l.length→∃j,j<i∧j<nx.length∧∃e∈nx.getD j [],e.2=(i:Int)
theorem qJ{α:Type}{l t:List α}{j:Nat}{d:α}(h:j<l.length):(l++t).getD j d=l.getD j d:=by rw[KT,KT,KU h]
theorem qI{α:Type}{l:List α}{x d:α}:(l++[x]).getD l.length d=x:=by rw[KT,KV Pu];simp
theorem DN{p:cI}{tok st:Int}:∀(f n:Nat) (s:Sr) (nx:List (List cE)),f+n=201→st≤200→nx.length=n→SrOk p tok st s.1→SpOk p s.1 nx→(DM p tok st f n s nx).2.2=0→
  SrOk p tok st (DM p tok st f n s nx).1.1∧SpOk p (DM p tok st f n s nx).1.1 (DM p tok st f n s nx).2.1∧(DM p tok st f n s nx).2.1.length=(DM p tok st f n s nx).1.1.length∧∃t,(DM p tok st f n s nx).1.1=s.1++t
 |0,n,s,nx,hf,d,hn,k,b,c=>by have:=b.le;have:=k.st;omega
 |f+1,n,s,nx,hf,d,hn,k,b,c=>by
  rw[DM]at c⊢
  by_cases g:n<s.1.length
  case neg=>
   rw[OJ g]at c⊢
   exact⟨k,b,by have:=b.le;dsimp only;omega,[],by simp⟩
  rw[OK g]at c⊢
  by_cases g1:(mH p tok st n s).2.2=0
  case neg=>rw[OK g1]at c;exact absurd c g1
  rw[OJ (by simp[g1])]at c⊢
  obtain⟨a1,a2,a3,_,t,a,y⟩:=mL (p:=p) (tok:=tok) (st:=st) (n:=(n:Int)) (m:=s.1.getD n []) (i3 p (s.1.getD n [])) s [] k (fun e h=>by cases h) g1
  change SrOk p tok st (mH p tok st n s).1.1 at a1
  change (mH p tok st n s).2.1.map Prod.fst=_ at a2
  change∀e∈(mH p tok st n s).2.1,EdgeOk p _ (mH p tok st n s).1.1 e at a3
  change (mH p tok st n s).1.1=_ at a
  change∀i:Nat,_→_→∃e∈(mH p tok st n s).2.1,_ at y
  generalize mH p tok st n s=q at*
  obtain⟨v,w,er⟩:=q;dsimp only at*
  have r:SpOk p v.1 (nx++[w]):=by
   have C:=b.le;refine⟨by rw[a];simp;omega,fun j u=>?_,fun j u=>?_,fun i h1 h2=>?_⟩
   ·simp at u
    by_cases e:j<nx.length
    ·rw[qJ e,a,qJ O7];exact b.can j e
    ·obtain rfl:j=nx.length:=by omega
     rw[qI,a2,a,qJ O7,hn];simp
   ·simp at u
    by_cases e:j<nx.length
    ·rw[qJ e,a,qJ O7];exact fun x h=>(b.ed j e x h).more
    ·obtain rfl:j=nx.length:=by omega
     rw[qI,a,qJ O7,hn,←a];exact a3
   ·by_cases e:i<s.1.length
    ·obtain⟨j,B,A,x,o,l⟩:=b.fr i h1 e
     exact⟨j,B,by simp;omega,x,by rw[qJ A];exact o,l⟩
    ·obtain⟨x,o,l⟩:=y i O7 (by rw[←a];exact h2)
     exact⟨nx.length,by omega,by simp,x,by rw[qI];exact o,l⟩
  obtain⟨b1,b2,E,z,D⟩:=DN f (n+1) v (nx++[w]) O7 d (by simp[hn]) a1 r c;exact⟨b1,b2,E,t++z,by rw[D,a];simp⟩
theorem og{p:cI}{tok st:Int}(h:(n_ p tok st).2=0):
  (F4 p).2=0∧SrOk p tok st (n_ p tok st).1.1∧SpOk p (n_ p tok st).1.1 (n_ p tok st).1.2∧(n_ p tok st).1.2.length=(n_ p tok st).1.1.length∧0<(n_ p tok st).1.1.length∧(n_ p tok st).1.1.getD 0 []=hZ p∧st≤200:=by
 obtain⟨f,h1,h2,h3,a,g⟩:=od h;rw[g];dsimp only;unfold runB at a⊢
 by_cases g1:(CD tok st ([],[],(0,0)) (hZ p) (-1,-1)).2.2=0
 case neg=>rw[OK g1]at a;exact absurd a g1
 rw[OJ (by simp[g1])]at a⊢
 have b:SrOk p tok st ([]:List (List Int)):=⟨List.Pairwise.nil,fun m h=>(by cases h),fun m h=>(by cases h),by simp;omega⟩;obtain⟨a1,⟨t,a2,a2i⟩,a3,a4,n⟩:=CF (s:=([],[],(0,0))) b (h_ (p:=p)) g1;have hd:(CD tok st ([],[],(0,0)) (hZ p) (-1,-1)).1.1=[hZ p]:=by
  unfold CD at g1⊢
  by_cases d:G_ tok (hZ p)=true
  ·rw[OK d]at g1;cases g1
  rw[OJ d,OJ O_]at g1⊢
  by_cases c:(([]:List (List Int)).length:Int)=st
  ·rw[OK c]at g1;cases g1
  rw[OJ c];rfl
 generalize CD tok st ([],[],(0,0)) (hZ p) (-1,-1)=q at*
 obtain⟨b1,b2,k,l,e⟩:=DN 201 0 q.1 [] rfl h3 rfl a1 ⟨by simp,fun j h=>absurd h O_,fun j h=>absurd h O_,fun i h1 h2=>by rw[hd]at h2;simp at h2;omega⟩ a;refine⟨f,b1,b2,k,by rw[e,hd];simp,by rw[e,hd];simp,h3⟩
abbrev cO:=List Int×List (List Int)×List Nat×List (List Int)
def Aq(l:List cE)(n:Nat):List cE:=if l=[]then [(-1,(n:Int))]else l.map fun x=>(x.1,(n:Int))
def Ao(nx:List (List cE))(k:Nat):List cE:=(List.range k).flatMap fun n=>Aq (nx.getD n []) n
def yV(nx:List (List cE))(n:Nat):Nat:=max 1 (nx.getD n []).length
def gz(nx:List (List cE))(n:Nat):Nat:=(Ao nx n).length
theorem qf{α:Type}{l t:List α}{j:Nat}{d:α}(h:j<l.length):(l++t).getD j d=l.getD j d:=by simp[KT,KU h]
theorem qh{α:Type}{l t:List α}{i:Nat}{d:α}:(l++t).getD (l.length+i) d=t.getD i d:=by simp[KT,KV]
theorem qg{α β:Type}{f:α→β}{l:List α}{i:Nat}{d:α}{e:β}(h:i<l.length):(l.map f).getD i e=f (l.getD i d):=by simp[KT,KY h]
section
variable {nx:List (List cE)}
theorem Ar{l:List cE}{n:Nat}:(Aq l n).length=max 1 l.length:=by
 unfold Aq;split
 ·rename_i h;subst h;rfl
 ·rename_i h
  have:0<l.length:=Lu.2 h;rw[Ls];omega
theorem Ap{k:Nat}:Ao nx (k+1)=Ao nx k++Aq (nx.getD k []) k:=by
 unfold Ao;rw[Mb,KM];simp
theorem gE:gz nx 0=0:=rfl
theorem gD{n:Nat}:gz nx (n+1)=gz nx n+yV nx n:=by unfold gz yV;rw[Ap,Ll,Ar]
theorem gC{a b:Nat}(h:a≤b):gz nx a≤gz nx b:=by
 induction b with
 |zero=>rw[show a=0 by omega];exact MM _
 |succ b c=>
  by_cases e:a=b+1
  ·rw[e];exact MM _
  ·rw[gD];exact MN (c O7) (Nat.le_add_right _ _)
theorem yW{n:Nat}:1≤yV nx n:=Nat.le_max_left _ _
theorem gB{n K i:Nat}(hn:n<K)(hi:i<yV nx n):gz nx n+i<gz nx K:=by
 have h1:=gC (nx:=nx) (show n+1≤K by omega);rw[gD]at h1
 omega
theorem Av{n i:Nat}:∀{K:Nat},n<K→i<yV nx n→(Ao nx K).getD (gz nx n+i) (0,0)=(Aq (nx.getD n []) n).getD i (0,0)
 |0,h,_=>absurd h O7
 |K+1,hn,hi=>by
  by_cases e:n=K
  ·subst e
   rw[Ap];exact qh
  ·have a:=gB (nx:=nx) (show n<K by omega) hi
   have b:=Av (K:=K) (show n<K by omega) hi;rw[←b,Ap];exact qf a
theorem Aw{j:Nat}:∀{K:Nat},j<gz nx K→∃n i,n<K∧i<yV nx n∧j=gz nx n+i
 |0,h=>absurd h (by rw[gE];omega)
 |K+1,h=>by
  rw[gD]at h
  by_cases e:j<gz nx K
  ·obtain⟨n,i,h1,h2,h3⟩:=Aw e
   exact⟨n,i,by omega,h2,h3⟩
  ·exact⟨K,j -gz nx K,by omega,by omega,by omega⟩
def As(nx:List (List cE))(j:Nat):cE:=(Ao nx nx.length).getD j (0,0)
theorem At{n i:Nat}(hn:n<nx.length)(hi:i<yV nx n):As nx (gz nx n+i)=(if nx.getD n []=[]then(-1,(n:Int))else(((nx.getD n []).getD i (0,0)).1,(n:Int))):=by
 unfold As;rw[Av hn hi];unfold Aq;by_cases h:nx.getD n []=[]
 ·rw[OK h,OK h]
  unfold yV at hi
  rw[h]at hi
  have:i=0:=by simp at hi;omega
  subst this;rfl
 ·rw[OJ h,OJ h]
  unfold yV at hi
  have:0<(nx.getD n []).length:=Lu.2 h;have a:i<(nx.getD n []).length:=by omega
  exact qg (d:=(0,0)) a
end
def gw(nx:List (List cE))(k:Nat):List Int:=(List.range k).map fun n=>((gz nx n:Nat):Int)
def yB(nx:List (List cE))(k:Nat):List Int:=(List.range k).map fun n=>((yV nx n:Nat):Int)
def fW(nx:List (List cE))(m:Nat):List Int:=(List.range (yV nx m)).map fun i:Nat=>((gz nx m+i:Nat):Int)
def GX(nx:List (List cE))(j:Nat):cE:=(nx.getD (As nx j).2.toNat []).getD (j -gz nx (As nx j).2.toNat) (0,0)
def zk(nx:List (List cE))(j:Nat):List Int:=if(As nx j).1<0 then [(j:Int)]else fW nx (GX nx j).2.toNat
def xq(sl:List cK)(nx:List (List cE))(j:Nat):Nat:=if(As nx j).1<0 then 9223372036854775808 else 2 ^ (sl.getD (As nx j).1.toNat (0,0,0)).1.toNat
def i5(nx:List (List cE))(j:Nat)(k:Int):Bool:=(nx.getD (As nx j).2.toNat []).any fun y=>y.1==k
def vy(nx:List (List cE))(k:Int)(j:Nat):Bool:=!i5 nx j k||(As nx j).1==k
def oz(nx:List (List cE))(k:Int)(n:Nat):List Int:=((List.range n).filter (vy nx k)).map fun j:Nat=>(j:Int)
def ow(nx:List (List cE))(k:Int):List Int:=oz nx k (gz nx nx.length)
def Er(sl:List cK)(nx:List (List cE)):cO:=(fW nx 0,(List.range (gz nx nx.length)).map (zk nx),(List.range (gz nx nx.length)).map (xq sl nx),(List.range sl.length).map fun k:Nat=>ow nx (k:Int))
def zq:cO:=([],[],[],[])
noncomputable def El(p:cI)(tok st:Int):(cO×List cE)×Int:=
 if(n_ p tok st).2≠0 then((zq,[]),(n_ p tok st).2)else if 600<gz (n_ p tok st).1.2 (n_ p tok st).1.2.length then((zq,[]),2)
 else((Er (F4 p).1 (n_ p tok st).1.2,Ao (n_ p tok st).1.2 (n_ p tok st).1.2.length),0)
theorem oB{nx:List (List cE)}{k:Int}{n:Nat}:oz nx k (n+1)=oz nx k n++if vy nx k n=true then [(n:Int)]else []:=by
 unfold oz;rw[Mb,KF,LE]
 congr 1
 rw[KG];split<;>simp
theorem oA{nx:List (List cE)}{k:Int}{n:Nat}:(oz nx k n).length≤n:=by
 unfold oz;rw[Ls];exact MN (Lr _ _) O_
structure NxOk(sl:List cK)(nx:List (List cE)):Prop where
 ed:∀j,j<nx.length→∀e∈nx.getD j [],0≤e.1∧e.1<sl.length∧0≤e.2∧e.2<nx.length
 row:∀j,(nx.getD j []).length≤60
 n:nx.length≤200
 pos:0<nx.length
 node:∀s∈sl,0≤s.1∧s.1<62
 sl:sl.length≤60
theorem i_{p:cI}{m:List Int}{k:Int}(h:k∈i3 p m):0≤k∧k<(Ga p).length:=by
 unfold i3 at h
 split at h
 ·unfold i6 i7 at h
  obtain⟨i,hi,rfl⟩:=LU.1 h;have:=LZ.1 (LR.1 hi).1;omega
 ·cases h
theorem Gc{p:cI}:∀s∈Ga p,0≤s.1∧s.1<p.1.length:=fun s a=>by
 obtain⟨n,hn,a⟩:=stepsP_mem.1 a;have:=F9 s a;rw[this];omega
theorem oh{p:cI}{tok st:Int}(h:(n_ p tok st).2=0):NxOk (F4 p).1 (n_ p tok st).1.2:=by
 obtain⟨l,hS,d,o,q,_,k⟩:=og h;obtain⟨n,f,c⟩:=F5 l;have m:=hS.st;have b:∀j,j<(n_ p tok st).1.2.length→((n_ p tok st).1.2.getD j []).length=(i3 p ((n_ p tok st).1.1.getD j [])).length:=fun j a=>by
  rw[←d.can j a,Ls]
 refine⟨fun j a e i=>?_,fun j=>?_,by omega,by omega,fun s g=>?_,by rw[f];exact c⟩
 ·have h1:=d.ed j a e i
  have h2:e.1∈i3 p ((n_ p tok st).1.1.getD j []):=by rw[←d.can j a];exact LU.2 ⟨e,i,rfl⟩
  have h3:=i_ h2;rw[f];exact⟨h3.1,h3.2,h1.2.1,by have:=h1.2.2.1;omega⟩
 ·by_cases a:j<(n_ p tok st).1.2.length
  ·rw[b j a]
   unfold i3;split
   ·unfold i6 i7
    rw[Ls];exact MN (Lr _ _) (by simp;exact c)
   ·simp
  ·rw[KT,KZ O7];simp
 ·rw[f]at g
  have h1:=Gc s g;have h2:=(jM n).n;omega
class IsA(P:Program)(t:TypeId)(k:outParam Nat)(e:outParam TypeId):Prop where
 ok:P.underlying t=some (.array k e)
section
variable {P:Program}{Q:Exit→Act→World→Prop}{n:Nat}{σ:Sg}{w:World}{L rest:List Oper}{d:Nat}{ty:TypeId}{pos:String}{af:Array Edge}{g:Option (Nat×Bool)}{t e:TypeId}{x y:Operand}{b o:Nat}{cells:List Value}
theorem eI{ix:Operand}{i k:Nat}{kd:IntKind}{l:TypeId}(p:gd L σ ⟨some d,.indexAddr t x ix,ty,pos,af,g⟩=some true)(hd:Nat.ble (d+1) n=true)(m:ev σ x=some (.pointer (some ⟨b,o,none⟩)))(hi:ev σ ix=some (.int kd (i:Int)))
  [r:IsA P t k l] [q:IsC P l 1 false] (h1:i<k) (h:WL P L Q rest n ((d,.pointer (some ⟨b,o+i,none⟩))::σ) w):WL P L Q (⟨some d,.indexAddr t x ix,ty,pos,af,g⟩::rest) n σ w:=by
 obtain⟨inf,dd,j,f,_,_⟩:=q.ok;refine WL.run p hd (fun a c=>?_) h;simp[execOp,c.ev m,c.ev hi,Instr.indexAt,asIntOf,OW r.ok,Instr.sureAddr,h1,sizeOf,typeInfo,j,f,Oj]
theorem fx{v:Value}(s:gd L σ ⟨none,.store t x y,ty,pos,af,g⟩=some true)(p:ev σ x=some (.pointer (some ⟨b,o,none⟩)))(m:ev σ y=some v)[u:IsC P t 1 false](k:Blk w b e cells)
  (r:o<cells.length) (q:jc v=[v]) (h1:v.oneCell'=true)
  (h:∀w',Blk w' b e (cells.set o v)→w.grownBy w' (some b)→WL P L Q rest n σ w'):WL P L Q (⟨none,.store t x y,ty,pos,af,g⟩::rest) n σ w:=by
 obtain⟨i,dd,j,f,_,_⟩:=u.ok;have c:=OU P b o e [v] 0 cells.toArray w k Pc (by simpa using h1);simp only[Mx]at c
 have z:cells.take o++[v]++cells.drop (o+[v].length)=cells.set o v:=by
  rw[Me,OK r];simp
 refine fp s (fun a l=>?_) (h _ (by
  have:=OX w b cells.toArray (cells.set o v).toArray e (0,0) k;exact this) (rJ w b _))
 simp only[execOp,l.ev p,l.ev m,Instr.storeAt,Nv,Instr.sureAddr,Nx,Nu,storeVar,sizeOf,typeInfo,OT,j,f,jd,q];rw[←z];simp;simp[c]
theorem D2{k:Nat}(w:World)(m:Blk w b e cells)(h:cells.length=k)[l:IsC P t k true]:(Instr.loadAt t (.pointer (some ⟨b,0,none⟩))).run P w=.ok (.agg cells.toArray) w:=by
 obtain⟨i,dd,h1,h2,h3,h4⟩:=l.ok;have c:(isAgg t).run P w=.ok true w:=by
  unfold isAgg;rw[Nv,OW h3 w,←h4];cases dd<;>rfl
 have a:=OS (P:=P) w ⟨b,0,none⟩ cells (fun j u f=>by rw[Oj,Nb];exact m.cell f);rw[h]at a
 simp[Instr.loadAt,Instr.sureAddr,loadVar,c,sizeOf,typeInfo,h1,h2,a]
theorem eN{k:Nat}(i:gd L σ ⟨some d,.load t x,ty,pos,af,g⟩=some true)(hd:Nat.ble (d+1) n=true)(c:ev σ x=some (.pointer (some ⟨b,0,none⟩)))[m:IsC P t k true](j:Blk w b e cells)(f:cells.length=k)
  (h:WL P L Q rest n ((d,.agg cells.toArray)::σ) w):WL P L Q (⟨some d,.load t x,ty,pos,af,g⟩::rest) n σ w:=by
 refine WL.run i hd (fun a l=>?_) h;simp[execOp,l.ev c,D2 (P:=P) (t:=t) w j f]
theorem fy{k:Nat}{cs:List Value}(s:gd L σ ⟨none,.store t x y,ty,pos,af,g⟩=some true)(q:ev σ x=some (.pointer (some ⟨b,0,none⟩)))(p:ev σ y=some (.agg cs.toArray))[v:IsC P t k true](l:Blk w b e cells)
  (r:cs.length=k) (A:cells.length=k) (h1:∀u∈cs,u.oneCell'=true)
  (h:∀w',Blk w' b e cs→w.grownBy w' (some b)→WL P L Q rest n σ w'):WL P L Q (⟨none,.store t x y,ty,pos,af,g⟩::rest) n σ w:=by
 obtain⟨i,dd,j,f,_,_⟩:=v.ok;subst r;have c:=OU P b 0 e cs 0 cells.toArray w l Pc h1;simp only[Mx,Nb,Mp,L2]at c
 have z:cells.toArray.toList.drop cs.length=[]:=Ky Pc;rw[z,Ki]at c
 refine fp s (fun a m=>?_) (h _ (by
  have:=OX w b cells.toArray cs.toArray e (0,0) l;exact this) (rJ w b _))
 simp only[execOp,m.ev q,m.ev p,Instr.storeAt,Nv,Instr.sureAddr,Nx,Nu,storeVar,sizeOf,typeInfo,OT,j,f,Value.cells];simp;simp[c]
theorem bj{fn:Func}{a:Nat}{k:Nat}{R:Value→World→Prop}(q:fn.results=#[.cell a t])(A:fnd σ a=some (.pointer (some ⟨b,0,none⟩)))[s:IsC P t k true](z:Blk w b e cells)(r:cells.length=k)(h:R (.agg cells.toArray) w):
  EX (bodyPost P fn fun e w'=>∃v,e=.returned v∧R v w') .ret n σ w:=by
 unfold EX;intro ac l
 refine Ov ?_ l.defers ⟨_,rfl,h⟩;have c:=OS (P:=P) w ⟨b,0,none⟩ cells (fun j u p=>by rw[Oj,Nb];exact z.cell p);obtain⟨i,dd,h1,h2,h3,h4⟩:=s.ok;have f:(isAgg t).run P w=.ok true w:=by
  unfold isAgg;rw[Nv,OW h3 w,←h4];cases dd<;>rfl
 rw[r]at c
 have m:=l.slot a _ A;simp only[Js]at m
 simp[results,q,m,asAddr,loadVar,f,sizeOf,typeInfo,h1,h2,c]
end
theorem yI{α β:Type}{f:α→Option β}{g:α→β}:∀(l:List α),(∀x∈l,f x=some (g x))→l.mapM f=some (l.map g)
 |[],_=>rfl
 |x::r,h=>by
  rw[LC,h x O_,yI r (fun y a=>h y (by simp[a]))];rfl
theorem KeyV.arr{P:Program}{k e:TypeId}{n:Nat}{q:IntKind}(j:P.underlying k=some (.array n e))(z:P.underlying e=some (.int q))(p:P.cellsOf e=1)(h:P.cellsOf k=n)(m:P.keyType k=true)(l:Nat.ble 1 P.types.size=true)
  {xs:List Int} (r:xs.length=n) (u:∀x∈xs,(Lit.int q x).wf=true):KeyV P k (.agg (xs.map fun x=>.int q x).toArray):=by
 obtain⟨s,v⟩:∃s,P.types.size=s+1:=⟨P.types.size -1,by have:=MH l;omega⟩;have a:P.keyLits (P.types.size+1) k (xs.map fun x=>.int q x)=some (((List.range n).map fun i=>[Lit.int q (xs.getD i 0)]).flatten):=by
  rw[v,Nr];simp only[j];rw[OK (by rw[h];simpa using r),yI (g:=fun i=>[Lit.int q (xs.getD i 0)])]
  ·rfl
  ·intro i hi
   have hi:=LZ.1 hi;have c:i<xs.length:=by omega
   have f:((xs.map fun x=>Value.int q x).drop (i*P.cellsOf e)).take (P.cellsOf e)=[.int q xs[i]]:=by
    rw[p,MY,Kx (by simpa using c)];simp
   rw[f,Nr];simp only[z];rw[OK ⟨trivial,u _ (Lc c)⟩,KT,KY c];rfl
 refine⟨.string (keyBytes (((List.range n).map fun i=>[Lit.int q (xs.getD i 0)]).flatten)),?_⟩;unfold keyOf;rw[j];dsimp only;have hf:Value.formed P k (.agg (xs.map fun x=>Value.int q x).toArray)=true:=by
  unfold Value.formed;rw[j,h];simp[r]
 rw[m,hf];show Option.map _ (P.keyLits (P.types.size+1) k (xs.map fun x=>Value.int q x))=_;rw[a];rfl
section
variable {P:Program}{Q:Exit→Act→World→Prop}{n:Nat}{σ:Sg}{w:World}{L rest:List Oper}{d:Nat}{ty:TypeId}{pos:String}{af:Array Edge}{g:Option (Nat×Bool)}
variable {α:Type}[Rep α]{e t:TypeId}{x0:α}{bytes:Nat}{F:Nat→Prop}
end
def Cel(w:World)(b n:Nat):Prop:=∃cur e,w.heap[b]?=some (.cells cur e (0,0))∧n≤cur.size
theorem Cel.lt{w:World}{b n:Nat}(h:Cel w b n):b<w.heap.size:=by
 obtain⟨cur,e,h,_⟩:=h;exact(Jv.1 h).1
theorem Cel.at{w w':World}{b n:Nat}(h:Cel w b n)(a:w'.heap[b]?=w.heap[b]?):Cel w' b n:=by
 obtain⟨cur,e,h1,h2⟩:=h;exact⟨cur,e,a.trans h1,h2⟩
def RowT(F:Nat→Prop)(w:World)(z:Nat)(v:Value):Prop:=∃ao len cap,v=.slice ao len cap∧cap≤maxLen∧len≤cap∧(0<cap→∃b off,ao=some ⟨b,off,none⟩∧F b∧Cel w b (off+cap*z))
section
variable {α:Type}[Rep α]{w w':World}{B:Nat}{e:TypeId}{F F':Nat→Prop}{v:Value}{xs:List α}{z:Nat}
theorem Own.rowT(h:Own w B e cZ v xs)(hF:∀g,v.ownBlock=some g→F g):RowT F w (sz α) v:=by
 rcases h with⟨rfl,rfl⟩|⟨g,off,cap,cur,rfl,a⟩
 ·exact⟨none,0,0,rfl,by simp[maxLen],MM _,fun h=>absurd h O_⟩
 ·exact⟨_,_,_,rfl,a.mx,a.le,fun _=>⟨g,off,rfl,hF g rfl,cur,e,a.blk,a.fit⟩⟩
theorem RowT.to(h:RowT F w z v)(hF:∀b,F b→b<w.heap.size→F' b∧w'.heap[b]?=w.heap[b]?):RowT F' w' z v:=by
 obtain⟨ao,len,cap,h1,h2,h3,h4⟩:=h;refine⟨ao,len,cap,h1,h2,h3,fun a=>?_⟩;obtain⟨b,off,k1,k2,k3⟩:=h4 a;have:=hF b k2 k3.lt;exact⟨b,off,k1,this.1,k3.at this.2⟩
end
section
variable {P:Program}{Q:Exit→Act→World→Prop}{n:Nat}{σ:Sg}{w:World}{L rest:List Oper}{d:Nat}{ty:TypeId}{pos:String}{af:Array Edge}{g:Option (Nat×Bool)}
variable {α:Type}[Rep α]{e t:TypeId}{F:Nat→Prop}
end
instance uI:IsFd Tryz.prog 98 0 0:=IsFd.of O8
instance uL:IsFd Tryz.prog 98 1 2:=IsFd.of O8
instance uM:IsFd Tryz.prog 98 2 3:=IsFd.of O8
instance uN:IsFd Tryz.prog 98 3 4:=IsFd.of O8
instance uO:IsFd Tryz.prog 98 4 6:=IsFd.of O8
instance uP:IsFd Tryz.prog 98 5 7:=IsFd.of O8
instance uQ:IsFd Tryz.prog 98 6 8:=IsFd.of O8
instance uR:IsZC Tryz.prog 98 [.slice none 0 0,.slice none 0 0,.int .i64 0,.int .i64 0,.slice none 0 0,.slice none 0 0,.map none,.slice none 0 0,.int .i64 0,.int .i64 0]:=IsZC.of (z:=.agg #[.slice none 0 0,.slice none 0 0,.int .i64 0,.int .i64 0,.slice none 0 0,.slice none 0 0,.map none,.slice none 0 0,.int .i64 0,.int .i64 0]) O8 rfl
instance uy:IsBd Tryz.prog 98 [(0,2),(2,1),(3,1),(4,2),(6,1),(7,1),(8,2)]:=IsBd.of O8
instance uz:IsC Tryz.prog 235 30 true:=IsC.of O8 NQ rfl
abbrev zKey:List Value:=[.int .i8 0,.int .i8 0,.int .i8 0,.int .i8 0,.int .i8 0,.int .i8 0,.int .i8 0,.int .i8 0,.int .i8 0,.int .i8 0,.int .i8 0,.int .i8 0,.int .i8 0,.int .i8 0,.int .i8 0,.int .i8 0,.int .i8 0,.int .i8 0,.int .i8 0,.int .i8 0,.int .i8 0,.int .i8 0,.int .i8 0,.int .i8 0,.int .i8 0,.int .i8 0,.int .i8 0,.int .i8 0,.int .i8 0,.int .i8 0]
instance uA:IsZC Tryz.prog 235 zKey:=IsZC.of (z:=.agg zKey.toArray) O8 rfl
instance uB:IsA Tryz.prog 235 30 233:=⟨NQ⟩
instance uC:IsC Tryz.prog 233 1 false:=IsC.of O8 NP rfl
instance uD:IsI Tryz.prog 233 .i8:=⟨NP⟩
instance uE:IsM Tryz.prog 93 235 3:=⟨Tryz.underlying93⟩
instance uF:IsC Tryz.prog 93 1 false:=IsC.of O8 Tryz.underlying93 rfl
instance uG:IsZ0 Tryz.prog 3:=⟨by kernel_rfl⟩
theorem FG:laidOutB Tryz.prog=true:=by kernel_rfl
instance uH:IsKy Tryz.prog 235:=IsKy.of (m:=2) FG O9 O8 O8 NQ rfl
abbrev wK(m:List Int):Value:=.agg ((wN m).map fun x=>.int .i8 x).toArray
def Tok(m:List Int):Prop:=∀x∈m,0≤x∧x≤9
theorem Tok.at{m:List Int}(h:Tok m)(j:Nat):0≤m.getD j 0∧m.getD j 0≤9:=by
 rw[KT];cases a:m[j]? with
 |none=>exact⟨J8 _,by decide⟩
 |some x=>exact h x (LW a)
theorem wM{m:List Int}(b:Tok m):KeyV Tryz.prog 235 (wK m):=
 KeyV.arr (n:=30) NQ NP O8 O8 O8 O8 (wP m) (fun x a=>by
  unfold wN at a
  obtain⟨i,_,rfl⟩:=LU.1 a;have:=b.at i;rw[KT]at this
  simp[Lit.wf,IntKind.min,IntKind.max,IntKind.signed,IntKind.bits];omega)
theorem wL{a b:List Int}(d:a.length≤30)(h:a.length=b.length)(c:wK a=wK b):a=b:=by
 refine wO d h ?_;have h1:((wN a).map fun x=>Value.int .i8 x).toArray=((wN b).map fun x=>Value.int .i8 x).toArray:=by injection c
 have h2:(wN a).map (fun x=>Value.int .i8 x)=(wN b).map (fun x=>Value.int .i8 x):=by simpa using h1
 exact List.map_inj_right (fun x y e=>by injection e)|>.1 h2
theorem rT{x:Int}(h:0≤x∧x≤9):IntKind.i8.wrap x=x:=by
 simp[IntKind.wrap,IntKind.bits,IntKind.signed];omega
@[irreducible] def wE (m:List Int) (i:Nat):List Value:=(List.range 30).map fun j=>.int .i8 (if j<i then m.getD j 0 else 0)
theorem wG{m:List Int}{i:Nat}:(wE m i).length=30:=by simp[wE]
theorem wJ{m:List Int}:wE m 0=zKey:=by
 unfold wE;simp only[MZ,OI];rfl
theorem wI{m:List Int}{i:Nat}(hi:i<m.length):(wE m i).set i (.int .i8 m[i])=wE m (i+1):=by
 unfold wE;refine KD O_ fun j h1 h2=>?_
 rw[Lf];simp only[Lb,Ld];by_cases e:i=j
 ·subst e
  rw[OK rfl,OK O7,KT,KY hi];rfl
 ·rw[OJ e]
  by_cases a:j<i
  ·rw[OK a,OK O7]
  ·rw[OJ a,OJ O7]
theorem wF{m:List Int}:wE m m.length=(wN m).map fun x=>.int .i8 x:=by
 unfold wE wN;rw[LH];refine LF fun j _=>?_
 show Value.int .i8 _=Value.int .i8 _
 congr 1
 split
 ·rfl
 ·show(0:Int)=m.getD j 0
  rw[KT,KZ O7];rfl
theorem wH{m:List Int}{i:Nat}:∀u∈wE m i,u.oneCell'=true:=by
 intro u a
 unfold wE at a
 obtain⟨j,_,rfl⟩:=LU.1 a;rfl
theorem wD(w0:World){mo:Option Addr}{mc:Nat}{m:List Int}(x:Sl w0 (c7 w0) mo mc m)(C:m.length≤30)(u:Tok m):
  Rt Tryz.prog 131 [.slice mo m.length mc].toArray w0 fun v w'=>v=wK m∧Ext w0 w':=by
 refine dD Tryz.func131 Tryz.ntmps131 rfl rfl ?_;refine PB ?_;refine WL.alloc rfl rfl (fun n a t=>?_);refine Qt ?_;refine WL.alloc rfl rfl (fun B b s=>?_);have y:=a.lt;have a:=a.ext s;have j:=t.trans s;have o:=t.size;have p:w0.heap.size≠n.heap.size:=by omega
 rw[←wJ (m:=m)]at b
 refine Q3 ?_;refine CW.loop (S:=Nat) (fun i=>[(2,.pointer (some ⟨w0.heap.size,0,none⟩)),(3,.pointer (some ⟨n.heap.size,0,none⟩)),(6,.slice mo m.length mc),(7,.int .i64 m.length),(8,.int .i64 i)])
  (fun i w=>i≤m.length∧Ext w0 w∧Blk w w0.heap.size 235 zKey∧Blk w n.heap.size 235 (wE m i)) (fun i=>m.length -i) 0 O6 ⟨Nc _,j,a,b⟩ ?_
 clear a b j;rintro i A ⟨hi,j,a,b⟩
 refine Qt ?_;refine CW.cond rfl (fun h=>?_) (fun h=>?_)
 ·have c:i<m.length:=by simp at h;omega
  have r:=u _ (Lc c);refine PX ?_;refine eB rfl rfl rfl rfl rfl (x.up j) c rfl Pg (fun q=>?_);refine Qq ?_;refine eg (k':=.i8) rfl rfl rfl ?_;rw[rT r];refine eI rfl rfl rfl rfl O7 ?_;refine fx rfl rfl rfl b (by rw[wG];omega) rfl rfl (fun l f d=>?_);rw[Nb,wI c]at f
  have a:=a.kept d (fun e=>p (Nn e));have k:Ext w0 l:=j.grown d j.size (fun g z=>by cases z;exact o);refine Qc ?_;exact EX.back (i+1) O6 ⟨c,k,a,f⟩ O7
 ·obtain rfl:i=m.length:=by simp at h;omega
  refine Qo ?_;refine eN rfl rfl rfl b wG ?_;refine fy rfl rfl rfl a wG rfl wH (fun l f d=>?_);have k:Ext w0 l:=j.grown d j.size Pi;refine PO ?_;exact bj rfl rfl f wG ⟨by rw[wF],k⟩
structure SC where
 sb:Nat
 mb:Nat
 mv:Value
 nv:Value
 ov:Value
 mvs:List Raw
 nvs:List Raw
 p1:Value
 p2:Value
 tok:Int
 st:Int
 N:Nat
 xt:Value
 lo:Nat
def iO(c:SC):Nat→Prop:=fun b=>b=c.sb∨b=c.mb∨c.mv.ownBlock=some b∨c.nv.ownBlock=some b∨c.ov.ownBlock=some b∨c.xt.ownBlock=some b
def Fb(c:SC)(w:World):Nat→Prop:=fun b=>c.lo≤b∧b<w.heap.size∧¬iO c b
structure Inn{α:Type}[Rep α](w:World)(c:SC)(vs:List Raw)(xs:List (List α)):Prop where
 len:vs.length=xs.length
 el:∀i (h:i<vs.length) (h':i<xs.length),∃ao cap,vs[i].v=.slice ao xs[i].length cap∧Sl w (Fb c w) ao cap xs[i]
 ty:∀i (h:i<vs.length),RowT (Fb c w) w (sz α) vs[i].v
theorem Fb.toT{w w':World}{c c':SC}{z:Nat}{v:Value}(h:RowT (Fb c w) w z v)(d:Chg (iO c) w w')(f:∀b,iO c' b→iO c b∨w.heap.size≤b)(e:c'.lo≤c.lo:=by exact MM _):RowT (Fb c' w') w' z v:=
 h.to fun b a _=>⟨⟨MN e a.1,MQ a.2.1 d.size,fun h=>(f b h).elim a.2.2 (fun h=>by have:=a.2.1;omega)⟩,d.block b a.2.1 a.2.2⟩
theorem Fb.to{α:Type}[Rep α]{w w':World}{c c':SC}{ao:Option Addr}{cap:Nat}{xs:List α}(h:Sl w (Fb c w) ao cap xs)(d:Chg (iO c) w w')(f:∀b,iO c' b→iO c b∨w.heap.size≤b)(e:c'.lo≤c.lo:=by exact MM _):Sl w' (Fb c' w') ao cap xs:=
 h.mono (fun b a=>d.block b a.2.1 a.2.2) fun b a=>⟨MN e a.1,MQ a.2.1 d.size,fun h=>(f b h).elim a.2.2 (fun h=>by have:=a.2.1;omega)⟩
theorem Inn.to{α:Type}[Rep α]{w w':World}{c c':SC}{vs:List Raw}{xs:List (List α)}(h:Inn w c vs xs)(d:Chg (iO c) w w')(f:∀b,iO c' b→iO c b∨w.heap.size≤b)(a:c'.lo≤c.lo:=by exact MM _):Inn w' c' vs xs:=
 ⟨h.len,fun i h1 h2=>by
  obtain⟨ao,cap,e,g⟩:=h.el i h1 h2;exact⟨ao,cap,e,Fb.to g d f a⟩,fun i h1=>Fb.toT (h.ty i h1) d f a⟩
theorem Inn.push{α:Type}[Rep α]{w:World}{c:SC}{vs:List Raw}{xs:List (List α)}{ao:Option Addr}{cap:Nat}{m:List α}(h:Inn w c vs xs)(l:Sl w (Fb c w) ao cap m)(f:RowT (Fb c w) w (sz α) (.slice ao m.length cap)):Inn w c (vs++[⟨.slice ao m.length cap⟩]) (xs++[m]):=by
 refine⟨by simp[h.len],fun i h1 h2=>?_,fun i h1=>?_⟩
 case refine_2=>
  by_cases hi:i<vs.length
  ·rw[K7 hi];exact h.ty i hi
  ·have b:i=vs.length:=by simp at h1;omega
   subst b;rw[K8 Pu];simpa using f
 by_cases hi:i<vs.length
 ·have d:i<xs.length:=by rw[←h.len];exact hi
  obtain⟨a,k,e,j⟩:=h.el i hi d;refine⟨a,k,?_,?_⟩
  ·rw[K7 hi,e];simp only[K7 d]
  ·rw[K7 d];exact j
 ·have b:i=vs.length:=by simp at h1;omega
  have g:i=xs.length:=by rw[←h.len];exact b
  refine⟨ao,cap,?_,?_⟩
  ·rw[K8 O7,K8 O7]
   simp[b,h.len]
  ·rw[K8 O7]
   simp only[g,M8,K_];exact l
def ap(a b:Option Nat):Prop:=∀g,a=some g→b=some g→False
theorem ap.new{a c b:Option Nat}{k:Nat}(h:ap a b)(hn:∀g,c=some g→a=some g∨k≤g)(d:∀g,b=some g→g<k):ap c b:=fun g h1 h2=>by
 rcases hn g h1 with h3|h3
 ·exact h g h3 h2
 ·have:=d g h2;omega
theorem ap.sym{a b:Option Nat}(h:ap a b):ap b a:=fun g h1 h2=>h g h2 h1
structure ApartS(c:SC):Prop where
 d01:c.sb≠c.mb
 d02:ap (some c.sb) c.mv.ownBlock
 d03:ap (some c.sb) c.nv.ownBlock
 d04:ap (some c.sb) c.ov.ownBlock
 d12:ap (some c.mb) c.mv.ownBlock
 d13:ap (some c.mb) c.nv.ownBlock
 d14:ap (some c.mb) c.ov.ownBlock
 d23:ap c.mv.ownBlock c.nv.ownBlock
 d24:ap c.mv.ownBlock c.ov.ownBlock
 d34:ap c.nv.ownBlock c.ov.ownBlock
 d05:ap (some c.sb) c.xt.ownBlock
 d15:ap (some c.mb) c.xt.ownBlock
 d25:ap c.mv.ownBlock c.xt.ownBlock
 d35:ap c.nv.ownBlock c.xt.ownBlock
 d45:ap c.ov.ownBlock c.xt.ownBlock
structure Srch(w:World)(B:Nat)(c:SC)(s:Sr)(nx:List (List cE)):Prop where
 blk:Blk w c.sb 98 [c.p1,c.p2,.int .i64 c.tok,.int .i64 c.st,c.mv,c.nv,.map (some c.mb),c.ov,.int .i64 s.2.2.1,.int .i64 s.2.2.2]
 num:NumM Tryz.prog 235 w c.mb (s.1.map wK)
 mo:Own w B 39 cZ c.mv c.mvs
 no:Own w B 75 cZ c.nv c.nvs
 oo:Own w B 96 cZ c.ov s.2.1
 mi:Inn w c c.mvs s.1
 ni:Inn w c c.nvs nx
 ge:B≤c.sb∧B≤c.mb
 lob:c.lo≤B
 xo:∀g,c.xt.ownBlock=some g→B≤g∧g<w.heap.size
 dis:ApartS c
 ok:∀m∈s.1,m.length=c.N∧Tok m
 nd:s.1.Nodup
 lim:(s.1.length:Int)≤c.st∧0<c.st∧c.st≤200∧s.2.1.length=s.1.length∧c.N≤30
theorem iP{w:World}{B:Nat}{c:SC}{s:Sr}{nx:List (List cE)}(h:Srch w B c s nx):∀b,iO c b→B≤b∧b<w.heap.size:=fun b a=>by
 rcases a with rfl|rfl|a|a|a|a
 ·exact⟨h.ge.1,h.blk.lt⟩
 ·exact⟨h.ge.2,h.num.lt⟩
 ·exact⟨(h.mo.lt b a).1,(h.mo.lt b a).2.1⟩
 ·exact⟨(h.no.lt b a).1,(h.no.lt b a).2.1⟩
 ·exact⟨(h.oo.lt b a).1,(h.oo.lt b a).2.1⟩
 ·exact h.xo b a
theorem Chg.ofExt{S:Nat→Prop}{w w':World}(h:Ext w w'):Chg S w w':=⟨h.os,h.tape,h.output,h.size,fun b a _=>h.block b a⟩
theorem Srch.ext{w w':World}{B:Nat}{c:SC}{s:Sr}{nx:List (List cE)}(h:Srch w B c s nx)(a:Ext w w'):Srch w' B c s nx:=
 ⟨h.blk.ext a,h.num.ext a,h.mo.extN a,h.no.extN a,h.oo.extN a,h.mi.to (.ofExt a) (fun _ h=>.inl h),h.ni.to (.ofExt a) (fun _ h=>.inl h),h.ge,h.lob,(fun g b=>⟨(h.xo g b).1,MQ (h.xo g b).2 a.size⟩),h.dis,h.ok,h.nd,h.lim⟩
def busyI(c:SC):Nat→Prop:=fun b=>b=c.sb∨b=c.mb∨c.mv.ownBlock=some b∨c.nv.ownBlock=some b∨c.ov.ownBlock=some b∨False
theorem busyI.to{c:SC}{b:Nat}(h:busyI c b):iO c b:=by
 rcases h with h|h|h|h|h|h
 ·exact .inl h
 ·exact .inr (.inl h)
 ·exact .inr (.inr (.inl h))
 ·exact .inr (.inr (.inr (.inl h)))
 ·exact .inr (.inr (.inr (.inr (.inl h))))
 ·exact h.elim
theorem bI{c:SC}{w w':World}(h:Chg (busyI c) w w'):Chg (iO c) w w':=⟨h.os,h.tape,h.output,h.size,fun b a hn=>h.block b a (fun k=>hn k.to)⟩
theorem G9(w:World)(a:Nat){c:SC}{u v:Value}{vs:List Value}(x:Int)(h3:Blk w a 90 [Pz c.sb])(b:Blk w c.sb 98 (u::v:: Py c.tok::vs)):
  Rt Tryz.prog 130 [Py x,Pz a].toArray w fun v w'=>v=.bool (decide (x>c.tok))∧Ext w w':=by
 refine dE Tryz.func130 Tryz.ntmps130 rfl rfl ?_;refine Qy ?_;exact be rfl rfl ⟨rfl,Ext.refl w⟩
def dJ(c c':SC):Prop:=c'.sb=c.sb∧c'.p1=c.p1∧c'.p2=c.p2∧c'.tok=c.tok∧c'.st=c.st∧c'.N=c.N∧c'.xt=c.xt∧c'.lo=c.lo
theorem Srch.last{w w':World}{B:Nat}{c:SC}{s:Sr}{nx:List (List cE)}{fr:Int×Int}(h:Srch w B c s nx)(a:w.grownBy w' (some c.sb))(d:Blk w' c.sb 98 [c.p1,c.p2,Py c.tok,Py c.st,c.mv,c.nv,.map (some c.mb),c.ov,Py fr.1,Py fr.2]):Srch w' B c (s.1,s.2.1,fr) nx:=by
 have b:Chg (iO c) w w':=(Chg.refl _ w).grown a Pp;exact⟨d,h.num.kept a (fun e=>h.dis.d01 (Nn e).symm),h.mo.keptN a (fun g a e=>h.dis.d02 g e.symm a),h.no.keptN a (fun g a e=>h.dis.d03 g e.symm a),h.oo.keptN a (fun g a e=>h.dis.d04 g e.symm a),h.mi.to b (fun _ h=>.inl h),h.ni.to b (fun _ h=>.inl h),h.ge,h.lob,(fun g k=>⟨(h.xo g k).1,MQ (h.xo g k).2 a.size⟩),h.dis,h.ok,h.nd,h.lim⟩
theorem wQ{m:List Int}{l:List (List Int)}{N:Nat}(d:N≤30)(b:∀x∈l,x.length=N∧Tok x)(c:m.length=N):wK m∈l.map wK↔m∈l:=by
 constructor
 ·intro h
  obtain⟨x,a,e⟩:=LU.1 h;obtain rfl:=wL (by rw[(b x a).1];exact d) (by rw[(b x a).1,c]) e;exact a
 ·exact fun h=>LU.2 ⟨m,h,rfl⟩
set_option maxHeartbeats 1000000 in
theorem F0{B:Nat}(w0:World){c:SC}{s:Sr}{nx:List (List cE)}(hS:Srch w0 B c s nx)(hBw:B≤w0.heap.size){mo:Option Addr}{mc:Nat}{m:List Int}(hm:Sl w0 (Fb c w0) mo mc m)(hmT:RowT (Fb c w0) w0 1 (.slice mo m.length mc))(hN:m.length=c.N)(hT:Tok m)(fr:Int×Int):
  Rt Tryz.prog 64 [Pz c.sb,.slice mo m.length mc,.agg [Py fr.1,Py fr.2].toArray].toArray w0 fun v w'=>∃c',v=.tuple ⟨[Py (CD c.tok c.st s m fr).2.1,Py (CD c.tok c.st s m fr).2.2]⟩∧
   Srch w' B c' (CD c.tok c.st s m fr).1 nx∧dJ c c'∧Chg (busyI c) w0 w'∧∀b,iO c' b→iO c b∨w0.heap.size≤b:=by
 have same:dJ c c:=⟨rfl,rfl,rfl,rfl,rfl,rfl,rfl,rfl⟩;have hbg:=iP hS;refine dF Tryz.func64 Tryz.ntmps64 rfl rfl ?_;refine PB ?_;refine dX rfl rfl rfl fun w1 o e1=>?_
 skip;refine dX rfl rfl rfl fun w2 t e2=>?_
 have hl3:=o.lt;have o:=o.ext e2;have e2:=e1.trans e2;have hS2:=hS.ext e2;have hm2:=Fb.to hm (.ofExt e2) (fun _ h=>.inl h);have f:=hS2.blk;have hz1:=e1.size;have T:∀b,iO c b→b≠w0.heap.size:=fun b p e=>by have:=hbg b p;omega
 have hn5:∀b,iO c b→b≠w1.heap.size:=fun b p e=>by have:=hbg b p;omega
 refine QQ ?_;refine WL.st rfl rfl rfl f rfl rfl Pr (fun w3 p hg3=>?_);have o:=o.kept hg3 (fun e=>T c.sb (.inl rfl) (Nn e).symm);have t:=t.kept hg3 (fun e=>hn5 c.sb (.inl rfl) (Nn e).symm);have hS3:=hS2.last hg3 p;have hC3:Chg (busyI c) w0 w3:=(Chg.ofExt e2).grown hg3 Pp;have hm3:=Fb.to hm (bI hC3) (fun _ h=>.inl h);clear f hg3 hm2 hS2;refine QJ ?_;refine WL.call rfl rfl rfl (kD w3 (fun x=>decide (x>c.tok)) (hm3.mono Pq (fun b p=>p.2.1)) (fun w hE i hi=>FnV.mk (cs:=[_]) (G9 w _ _ (o.ext hE) (p.ext hE)))) ?_;rintro _ w4 ⟨rfl,e4⟩
 have o:=o.ext e4;have t:=t.ext e4;have O:=hS3.ext e4;have A:Chg (busyI c) w0 w4:=⟨e4.os.trans hC3.os,e4.tape.trans hC3.tape,e4.output.trans hC3.output,MN hC3.size e4.size,fun b p hn=>(e4.block b (MQ p hC3.size)).trans (hC3.block b p hn)⟩;have hm4:=Fb.to hm (bI A) (fun _ h=>.inl h);clear p hS3 hm3 e4;unfold CD;refine PU ?_;apply CW.cond rfl<;>intro h
 ·rw[OK (show G_ c.tok m=true from h)]
  refine QO ?_;exact bf rfl rfl rfl ⟨c,rfl,O,same,A,fun _ h=>.inl h⟩
 rw[OJ (show¬G_ c.tok m=true by rw[show G_ c.tok m=false from h];decide)];have hkey:=wM hT;have hmem:=wQ O.lim.2.2.2.2 O.ok hN;have hmold:Sl w4 (c7 w4) mo mc m:=hm4.mono Pq (fun b p=>p.2.1);have h30:m.length≤30:=by rw[hN];exact O.lim.2.2.2.2
 have f:=O.blk;dsimp only at f hmem
 refine Rf ?_;refine QL.call rfl rfl rfl (fun w hE=>wD w (hmold.up hE) h30 hT) ?_;by_cases hin:m∈s.1
 ·rw[OK hin]
  obtain⟨j,hj,hjm⟩:=LT.1 hin;rw[B6 hj hS.nd hjm];refine dw (j:=j) (by simpa using hj) (by rw[Lb,hjm]) rfl rfl rfl rfl O.num hkey ?_;refine Rl ?_;refine QL.nil (fun W Z=>?_);have J:Chg (busyI c) w0 W:=⟨Z.os.trans A.os,Z.tape.trans A.tape,Z.output.trans A.output,MN A.size Z.size,fun b p hn=>(Z.block b (MQ p A.size)).trans (A.block b p hn)⟩;refine Q6 ?_;exact bf rfl rfl rfl ⟨c,rfl,O.ext Z,same,J,fun _ h=>.inl h⟩
 rw[OJ hin];refine dv rfl rfl rfl rfl O.num hkey (fun h=>hin (hmem.1 h)) ?_;refine Rl ?_;refine QL.nil (fun W Z=>?_);have o:=o.ext Z;have t:=t.ext Z;have J:Chg (busyI c) w0 W:=⟨Z.os.trans A.os,Z.tape.trans A.tape,Z.output.trans A.output,MN A.size Z.size,fun b p hn=>(Z.block b (MQ p A.size)).trans (A.block b p hn)⟩;have V:=O.ext Z;clear f hm4 hmold O Z;obtain⟨sb,mb,mv,nv,ov,mvs,nvs,p1,p2,tok,st,N,xt,lo⟩:=c;dsimp only at*
 have hmoA:=V.mo;have hooA:=V.oo;dsimp only at hmoA hooA
 obtain⟨ao,ac,rfl⟩:=hmoA.val;obtain⟨oo,oc,rfl⟩:=hooA.val;have U:=V.mi.len;dsimp only at U
 have f:=V.blk;have hlim:=V.lim;dsimp only at hlim f
 rw[U]at f
 refine QI ?_;apply CW.cond rfl<;>intro h
 ·have h:(s.1.length:Int)=st:=by simpa using h
  rw[OK h];refine QO ?_;exact bf rfl rfl rfl ⟨_,rfl,V,same,J,fun _ h=>.inl h⟩
 have h:¬(s.1.length:Int)=st:=by simpa using h
 rw[OJ h];have hm5:=Fb.to hm (bI J) (fun _ h=>.inl h);have hmo5:Sl W (c7 W) mo mc m:=hm5.mono Pq (fun b p=>p.2.1);have d:=V.dis;have n:Ext W (drew W):=Ext.drew W;have q:=f.lt;have hlmb:=V.num.lt;have hl35:=o.lt;have hz5:=J.size;have R:=o.ext n;have r:=f.ext n;have hK3:∀u,(fun x:World=>x.heap[w0.heap.size]?=(drew W).heap[w0.heap.size]?∧x.heap[sb]?=(drew W).heap[sb]?) u→u.heap[w0.heap.size]?=(drew W).heap[w0.heap.size]?:=fun _ h=>h.1
 have hKs:∀u,(fun x:World=>x.heap[w0.heap.size]?=(drew W).heap[w0.heap.size]?∧x.heap[sb]?=(drew W).heap[sb]?) u→u.heap[sb]?=(drew W).heap[sb]?:=fun _ h=>h.2
 refine QY ?_;refine aF (fun x:World=>x.heap[w0.heap.size]?=(drew W).heap[w0.heap.size]?∧x.heap[sb]?=(drew W).heap[sb]?) [(0,true),(1,true),(2,true),(3,true),(4,true),(6,true),(5,false),(7,false)] mixed O8 ⟨rfl,rfl⟩ ?_;refine RJ ?_;refine cr rfl (WL.call rfl rfl rfl (wD (drew W) (hmo5.up n) h30 hT) ?_);rintro _ w6 ⟨rfl,e6⟩
 have P:=n.trans e6;refine WL.nil (a_ ⟨e6.block _ (MQ hl35 n.size),e6.block _ (MQ q n.size)⟩ ?_);have hS6:=V.ext P;have hnum6:=hS6.num;dsimp only at hnum6
 skip;refine cr rfl (fk (ks:=s.1.map wK) rfl rfl rfl (by simp[ev,fnd,Ls]) hnum6 hkey (fun h=>hin (hmem.1 h)) (fun K hnum7 M=>?_));have hl31:w0.heap.size≠mb:=fun e=>T mb (.inr (.inl rfl)) e.symm
 refine WL.nil (a_ ⟨?_,?_⟩ (HL.nil ?_))
 ·exact(M.block _ (MQ hl35 P.size) (fun e=>hl31 (Nn e))).trans (e6.block _ (MQ hl35 n.size))
 ·exact(M.block _ (MQ q P.size) (fun e=>d.d01 (Nn e))).trans (e6.block _ (MQ q n.size))
 have o:Blk K w0.heap.size 90 [Pz sb]:=(R.ext e6).kept M (fun e=>hl31 (Nn e));have t:Blk K w1.heap.size 96 [Py fr.1,Py fr.2]:=(t.ext P).kept M (fun e=>hn5 mb (.inr (.inl rfl)) (Nn e).symm);have f:Blk K sb 98 _:=(r.ext e6).kept M (fun e=>d.d01 (Nn e));have hmo:=hS6.mo.keptN M (fun g k e=>d.d12 g e.symm k);have L:=hS6.no.keptN M (fun g k e=>d.d13 g e.symm k);have hoo:=hS6.oo.keptN M (fun g k e=>d.d14 g e.symm k);dsimp only at hmo L hoo
 rw[U]at hmo
 have hC7:Chg (busyI ⟨sb,mb,.slice ao mvs.length ac,nv,.slice oo s.2.1.length oc,mvs,nvs,p1,p2,tok,st,N,xt,lo⟩) w0 K:=
  (⟨P.os.trans J.os,P.tape.trans J.tape,P.output.trans J.output,MN J.size P.size,fun b p hn=>(P.block b (MQ p J.size)).trans (J.block b p hn)⟩:Chg _ w0 w6).grown M (fun g k=>by cases k;exact .inr (.inl rfl))
 rw[U]at hC7 T hn5 hbg d
 have hz7:=hC7.size;clear hnum6 hS6 hK3 hKs R r M e6 P n;have n:Ext K (drew K):=Ext.drew K;have q:=f.lt;have X:=o.lt;have hl57:=t.lt;have R:=o.ext n;have hb5d:=t.ext n;have r:=f.ext n;have hK3:∀u,(fun x:World=>x.heap[w0.heap.size]?=(drew K).heap[w0.heap.size]?∧x.heap[sb]?=(drew K).heap[sb]?) u→u.heap[w0.heap.size]?=(drew K).heap[w0.heap.size]?:=fun _ h=>h.1
 have hKs:∀u,(fun x:World=>x.heap[w0.heap.size]?=(drew K).heap[w0.heap.size]?∧x.heap[sb]?=(drew K).heap[sb]?) u→u.heap[sb]?=(drew K).heap[sb]?:=fun _ h=>h.2
 have hlen200:s.1.length≤200:=by omega
 refine QY ?_;refine aE (fun x:World=>x.heap[w0.heap.size]?=(drew K).heap[w0.heap.size]?∧x.heap[sb]?=(drew K).heap[sb]?) [(0,true),(1,true),(2,true),(3,true),(4,true),(5,true),(6,true),(7,false),(8,false),(9,false),(10,false),(11,false)] 12 mixed O8 ⟨rfl,rfl⟩ ?_;refine RJ ?_;refine bV (α:=Raw) (F:=cZ) (bytes:=24) (yv:=(⟨.slice mo m.length mc⟩:Raw)) rfl rfl rfl rfl Pg rfl rfl Pg (hmo.extN n) (Rd.mkRaw _ _ _ rfl) (MN hBw (MN hz7 n.size)) Pj O9 (by rw[U];unfold maxLen;omega) (by rw[U];omega)
  (fun z hz=>⟨hz.block _ (MQ X n.size) (fun e=>T _ (.inr (.inr (.inl e.symm))) rfl),hz.block _ (MQ q n.size) (fun e=>d.d02 _ rfl e.symm)⟩) (fun mv' w9 p9 ho9 H hnb9=>?_)
 obtain⟨ao',ac',rfl⟩:=ho9.val;have o:=R.kept H (fun e=>T _ (.inr (.inr (.inl e.symm))) rfl);have t:=hb5d.kept H (fun e=>hn5 _ (.inr (.inr (.inl e.symm))) rfl);have f:=r.kept H (fun e=>d.d02 _ rfl e.symm);have G:=(hnum7.ext n).kept H (fun e=>d.d12 _ rfl e.symm);have L:=(L.extN n).keptN H (fun g k e=>d.d23 g e.symm k);have hoo:=(hoo.extN n).keptN H (fun g k e=>d.d24 g e.symm k);have hS9:w9.heap[w0.heap.size]?=(drew K).heap[w0.heap.size]?∧w9.heap[sb]?=(drew K).heap[sb]?:=⟨H.block _ (MQ X n.size) (fun e=>T _ (.inr (.inr (.inl e.symm))) rfl),H.block _ (MQ q n.size) (fun e=>d.d02 _ rfl e.symm)⟩;refine cr rfl (fh rfl rfl rfl (WL.nil (a_ hS9 ?_)));refine cr rfl (eG rfl rfl rfl (WL.nil (a_ hS9 ?_)));refine cr rfl (eG rfl rfl rfl (WL.nil (a_ hS9 (HL.nil ?_))));refine bp rfl (WL.st rfl rfl rfl f rfl rfl Pr (fun l f y=>WL.nil (bu ?_)));have hz9:=H.size;have hzd:=n.size;have Q:∀g,Value.ownBlock (.slice ao' (mvs++[(⟨.slice mo m.length mc⟩:Raw)]).length ac')=some g→Value.ownBlock (.slice ao s.1.length ac)=some g∨K.heap.size≤g:=fun g k=>(hnb9 g k).imp id (fun h=>MN hzd h)
 have D:∀b,iO ⟨sb,mb,.slice ao s.1.length ac,nv,.slice oo s.2.1.length oc,mvs,nvs,p1,p2,tok,st,N,xt,lo⟩ b→b<K.heap.size:=fun b p=>MQ (hbg b p).2 hz7
 have n2:ap (Value.ownBlock (.slice ao' (mvs++[(⟨.slice mo m.length mc⟩:Raw)]).length ac')) (some sb):=d.d02.sym.new Q (fun g k=>by cases k;exact D _ (.inl rfl));have n12:ap (Value.ownBlock (.slice ao' (mvs++[(⟨.slice mo m.length mc⟩:Raw)]).length ac')) (some mb):=d.d12.sym.new Q (fun g k=>by cases k;exact D _ (.inr (.inl rfl)));have n23:ap (Value.ownBlock (.slice ao' (mvs++[(⟨.slice mo m.length mc⟩:Raw)]).length ac')) nv.ownBlock:=d.d23.new Q (fun g k=>D _ (.inr (.inr (.inr (.inl k)))));have n24:ap (Value.ownBlock (.slice ao' (mvs++[(⟨.slice mo m.length mc⟩:Raw)]).length ac')) (Value.ownBlock (.slice oo s.2.1.length oc)):=d.d24.new Q (fun g k=>D _ (.inr (.inr (.inr (.inr (.inl k))))));have n25:ap (Value.ownBlock (.slice ao' (mvs++[(⟨.slice mo m.length mc⟩:Raw)]).length ac')) xt.ownBlock:=d.d25.new Q (fun g k=>D _ (.inr (.inr (.inr (.inr (.inr k))))));have o:=o.kept y (fun e=>T sb (.inl rfl) (Nn e).symm);have t:=t.kept y (fun e=>hn5 sb (.inl rfl) (Nn e).symm);have G:=G.kept y (fun e=>d.d01 (Nn e).symm);have ho10:=ho9.keptN y (fun g k e=>n2 g k e.symm);have L:=L.keptN y (fun g k e=>d.d03 g e.symm k);have hoo:=hoo.keptN y (fun g k e=>d.d04 g e.symm k);have hC10:=((hC7.grown (⟨n.os,n.tape,n.output,n.size,fun b p _=>n.block b p⟩:K.grownBy (drew K) none) (fun g k=>by cases k)).grown H (fun g k=>.inr (.inr (.inl k)))).grown y Pp;have hz10:=hC10.size;have hz710:K.heap.size≤l.heap.size:=MN hzd (MN hz9 y.size);have hlt10:∀g,Value.ownBlock (.slice ao' (mvs++[(⟨.slice mo m.length mc⟩:Raw)]).length ac')=some g→g<l.heap.size:=fun g k=>(ho10.lt g k).2.1
 clear hmo hnum7 r R hb5d hK3 hKs n H y ho9 hS9;have n:Ext l (drew l):=Ext.drew l;have q:=f.lt;have X:=o.lt;have hl57:=t.lt;have R:=o.ext n;have hb5d:=t.ext n;have r:=f.ext n;have hK3:∀u,(fun x:World=>x.heap[w0.heap.size]?=(drew l).heap[w0.heap.size]?∧x.heap[sb]?=(drew l).heap[sb]?∧x.heap[w1.heap.size]?=(drew l).heap[w1.heap.size]?) u→u.heap[w0.heap.size]?=(drew l).heap[w0.heap.size]?:=fun _ h=>h.1
 have hKs:∀u,(fun x:World=>x.heap[w0.heap.size]?=(drew l).heap[w0.heap.size]?∧x.heap[sb]?=(drew l).heap[sb]?∧x.heap[w1.heap.size]?=(drew l).heap[w1.heap.size]?) u→u.heap[sb]?=(drew l).heap[sb]?:=fun _ h=>h.2.1
 have hK5:∀u,(fun x:World=>x.heap[w0.heap.size]?=(drew l).heap[w0.heap.size]?∧x.heap[sb]?=(drew l).heap[sb]?∧x.heap[w1.heap.size]?=(drew l).heap[w1.heap.size]?) u→u.heap[w1.heap.size]?=(drew l).heap[w1.heap.size]?:=fun _ h=>h.2.2
 refine QY ?_;refine aE (fun x:World=>x.heap[w0.heap.size]?=(drew l).heap[w0.heap.size]?∧x.heap[sb]?=(drew l).heap[sb]?∧x.heap[w1.heap.size]?=(drew l).heap[w1.heap.size]?) [(0,true),(1,true),(2,true),(3,true),(4,true),(5,true),(6,false),(7,false),(8,false),(9,false)] 10 mixed O8 ⟨rfl,rfl,rfl⟩ ?_;refine RJ ?_;refine cf hK5 rfl rfl rfl rfl hb5d rfl ?_;refine bV (α:=Int×Int) (F:=cZ) (bytes:=16) (yv:=fr) rfl rfl rfl rfl Pg rfl rfl Pg (hoo.extN n) (Rd.mkPr (c1:=[Py fr.1]) (c2:=[Py fr.2]) (C5 _ _ _) (C5 _ _ _)) (MN hBw (MN hz10 n.size)) Pj O9 (by rw[hlim.2.2.2.1];unfold maxLen;omega) (by rw[hlim.2.2.2.1];omega)
  (fun z hz=>⟨hz.block _ (MQ X n.size) (fun e=>T _ (.inr (.inr (.inr (.inr (.inl e.symm))))) rfl),hz.block _ (MQ q n.size) (fun e=>d.d04 _ rfl e.symm),hz.block _ (MQ hl57 n.size) (fun e=>hn5 _ (.inr (.inr (.inr (.inr (.inl e.symm))))) rfl)⟩) (fun ov' w12 p12 ho12 E hnb12=>?_)
 obtain⟨oo',oc',rfl⟩:=ho12.val;have f:=r.kept E (fun e=>d.d04 _ rfl e.symm);have G:=(G.ext n).kept E (fun e=>d.d14 _ rfl e.symm);have L:=(L.extN n).keptN E (fun g k e=>d.d34 g k e.symm);have ho10:=(ho10.extN n).keptN E (fun g k e=>n24 g k e.symm);have hS12:w12.heap[w0.heap.size]?=(drew l).heap[w0.heap.size]?∧w12.heap[sb]?=(drew l).heap[sb]?∧w12.heap[w1.heap.size]?=(drew l).heap[w1.heap.size]?:=⟨E.block _ (MQ X n.size) (fun e=>T _ (.inr (.inr (.inr (.inr (.inl e.symm))))) rfl),E.block _ (MQ q n.size) (fun e=>d.d04 _ rfl e.symm),E.block _ (MQ hl57 n.size) (fun e=>hn5 _ (.inr (.inr (.inr (.inr (.inl e.symm))))) rfl)⟩;refine cr rfl (fh rfl rfl rfl (WL.nil (a_ hS12 ?_)));refine cr rfl (eG rfl rfl rfl (WL.nil (a_ hS12 (HL.nil ?_))));refine bp rfl (WL.st rfl rfl rfl f rfl rfl Pr (fun w13 f Y=>WL.nil (bu ?_)));have hzd:=n.size;have C:∀g,Value.ownBlock (.slice oo' (s.2.1++[fr]).length oc')=some g→Value.ownBlock (.slice oo s.2.1.length oc)=some g∨l.heap.size≤g:=fun g k=>(hnb12 g k).imp id (fun h=>MN hzd h)
 have m4:ap (Value.ownBlock (.slice oo' (s.2.1++[fr]).length oc')) (some sb):=d.d04.sym.new C (fun g k=>by cases k;exact q);have m14:ap (Value.ownBlock (.slice oo' (s.2.1++[fr]).length oc')) (some mb):=d.d14.sym.new C (fun g k=>by cases k;exact MQ (D _ (.inr (.inl rfl))) hz710);have m34:ap (Value.ownBlock (.slice oo' (s.2.1++[fr]).length oc')) nv.ownBlock:=d.d34.sym.new C (fun g k=>MQ (D _ (.inr (.inr (.inr (.inl k))))) hz710);have m24:ap (Value.ownBlock (.slice oo' (s.2.1++[fr]).length oc')) (Value.ownBlock (.slice ao' (mvs++[(⟨.slice mo m.length mc⟩:Raw)]).length ac')):=n24.sym.new C hlt10;have m45:ap (Value.ownBlock (.slice oo' (s.2.1++[fr]).length oc')) xt.ownBlock:=d.d45.new C (fun g k=>MQ (D _ (.inr (.inr (.inr (.inr (.inr k)))))) hz710);have L:=L.keptN Y (fun g k e=>d.d03 g e.symm k);have G:=G.kept Y (fun e=>d.d01 (Nn e).symm);have hmoF:=ho10.keptN Y (fun g k e=>n2 g k e.symm);have hooF:=ho12.keptN Y (fun g k e=>m4 g k e.symm);have S:=((hC10.grown (⟨n.os,n.tape,n.output,n.size,fun b p _=>n.block b p⟩:l.grownBy (drew l) none) (fun g k=>by cases k)).grown E (fun g k=>.inr (.inr (.inr (.inr (.inl k)))))).grown Y Pp;have I:∀b,iO ⟨sb,mb,.slice ao' (mvs++[(⟨.slice mo m.length mc⟩:Raw)]).length ac',nv,.slice oo' (s.2.1++[fr]).length oc',mvs++[(⟨.slice mo m.length mc⟩:Raw)],nvs,p1,p2,tok,st,N,xt,lo⟩ b→
   iO ⟨sb,mb,.slice ao s.1.length ac,nv,.slice oo s.2.1.length oc,mvs,nvs,p1,p2,tok,st,N,xt,lo⟩ b∨w0.heap.size≤b:=by
  intro b p
  rcases p with h|h|h|h|h|h
  ·exact .inl (.inl h)
  ·exact .inl (.inr (.inl h))
  ·exact(Q b h).imp (fun h=>.inr (.inr (.inl h))) (fun h=>by omega)
  ·exact .inl (.inr (.inr (.inr (.inl h))))
  ·exact(C b h).imp (fun h=>.inr (.inr (.inr (.inr (.inl h))))) (fun h=>by omega)
  ·exact .inl (.inr (.inr (.inr (.inr (.inr h)))))
 rw[U]at hS hm hmT same
 have hmi:=(hS.mi.to (bI S) I).push (Fb.to hm (bI S) I) (Fb.toT hmT (bI S) I);have hni:=hS.ni.to (bI S) I;dsimp only at hmi hni
 have hml2:(mvs++[(⟨.slice mo m.length mc⟩:Raw)]).length=s.1.length+1:=by rw[Ll,U];rfl
 refine QO ?_;rw[U];refine bf rfl rfl rfl ⟨⟨sb,mb,.slice ao' (mvs++[(⟨.slice mo m.length mc⟩:Raw)]).length ac',nv,.slice oo' (s.2.1++[fr]).length oc',mvs++[(⟨.slice mo m.length mc⟩:Raw)],nvs,p1,p2,tok,st,N,xt,lo⟩,rfl,?_,same,S,I⟩;refine⟨f,?_,hmoF,L,hooF,hmi,hni,hS.ge,hS.lob,(fun g k=>⟨(hS.xo g k).1,MQ (hS.xo g k).2 S.size⟩),⟨d.d01,n2.sym,d.d03,m4.sym,n12.sym,d.d13,m14.sym,n23,m24.sym,m34.sym,d.d05,d.d15,n25,d.d35,m45⟩,?_,?_,?_⟩
 ·dsimp only
  rw[LE];exact G
 ·intro x hx
  rcases LK.1 hx with hx|hx
  ·exact hS.ok x hx
  ·rw[L0]at hx;subst hx;exact⟨hN,hT⟩
 ·rw[L3]
  refine⟨hS.nd,by simp,fun a ha b p e=>?_⟩;rw[L0]at p
  subst p;subst e;exact hin ha
 ·have:=hlim
  dsimp only;simp only[Ll,Lm,Lt];omega
end Go.Proofs.YtfpjecjadlgdcaaGreatDoor
