import Derived.Test.YtodmkmobdmcfbaaGreatDoorPtTopNot9
set_option linter.unusedVariables false
set_option linter.unusedSimpArgs false
set_option linter.defProp false
namespace Go.Proofs.YtodmkmobdmcfbaaGreatDoor
open Go.RowKit
theorem E6{s:Nat}(a:s<62):IntKind.i64.wrap (1*2 ^ min ((s:Int)).toNat IntKind.i64.bits)=(2:Int) ^ s:=by
 have h1:min s (IntKind.bits .i64)=s:=by show min s 64=s;omega
 have h2:=B8 (show s<62 by omega);have h3:=B9 s;simp only[J7,h1,J6];rw[Jf O0 O0]
theorem Cells.tl'{w:World}{b o:Nat}{x:Value}{r:List Value}(h:Cells w b o (x::r)):Cells w b (o+1) r:=fun j u a=>by
 have:=h (j+1) u (by simpa using a);rwa[show o+(j+1)=o+1+j by omega]at this
theorem Sl.nodeK{w:World}{F:Nat→Prop}{ao:Option Addr}{cap:Nat}{xs:List cG}(h:Sl w F ao cap xs){i:Nat}(hi:i<xs.length):∃b off,ao=some ⟨b,off,none⟩∧F b∧Cells w b (off+i*2+1) [Pq xs[i].2]:=by
 obtain⟨b,off,e,f,g,c,d⟩:=h.el i hi;obtain⟨c1,c2,rfl,h1,h2⟩:=C2 d;have a:=h1.1;subst a;rw[CX h2]at c
 exact⟨b,off,e,f,c.tl'⟩
theorem CT(w:World)(F:Nat→Prop)(a b c:Int):Rd w F (.agg [Pq a,Pq b,Pq c].toArray) ((a,b,c):cK):=Rd.mkPr (c1:=[Pq a]) (c2:=[Pq b,Pq c]) (CZ _ _ _) (CY (CZ _ _ _) (CZ _ _ _))
theorem GB{α β:Type}(f:α→β){l:List α}{i:Nat}(h:i<l.length):(l.take (i+1)).map f=(l.take i).map f++[f l[i]]:=by
 rw[←Me h,Lz];rfl
instance uI:Flat cK:=⟨fun h=>h⟩
set_option maxHeartbeats 1000000 in
theorem Ap(w0:World){so fo:Option Addr}{sc fc:Nat}{ns:List cG}{fl:List cF}(hs:Sl w0 (c7 w0) so sc ns)(hf:Sl w0 (c7 w0) fo fc fl)(P:jM (ns,fl)=0){n:Nat}(hn:n<ns.length):
  Rt Tryz.prog 40 [Cl so sc fo fc ns.length fl.length,Pq (n:Int)].toArray w0 fun v w'=>Own w' w0.heap.size 127 cZ v (F7 (ns,fl) n)∧Ext w0 w':=by
 have V:=jN P;have X:=V.f;dsimp only at X
 have J:xK (ns,fl) (n:Int)=0:=by
  unfold xK;rw[OD (by simp[P]),OD O4]
 have K:wS (ns,fl) n=ns[n].2:=by unfold wS;rw[qK hn]
 have h7:ns[n].2=7→(A0 fl (n:Int)).length≤4:=fun h=>AB V hn (by rw[K];exact h)
 have hil:(vK fl (n:Int)).length≤fl.length:=vN;have hol:(A0 fl (n:Int)).length≤fl.length:=A3;have C:F7 (ns,fl) n=FZ ns[n].2 (n:Int) (vK fl (n:Int)) (A0 fl (n:Int)).length:=by unfold F7;rw[K]
 rw[C];refine dE Tryz.func40 Tryz.ntmps40 rfl rfl ?_;have g:=Ext.refl w0;refine Pu ?_;refine dX rfl rfl rfl fun w1 A e1=>?_
 have g:=g.trans e1;refine Q0 ?_;refine WL.call rfl rfl rfl (cB w1 (hs.up g) (hf.up g) (n:Int)) ?_;rintro _ w2 ⟨x,rfl,H,e2⟩
 rw[J,OE rfl]at H
 have A:=A.ext e2;have g:=g.trans e2;obtain⟨xo,xc,rfl,u⟩:=H.oldN.sl;refine Q0 ?_;refine WL.call rfl rfl rfl (c8 w2 (hs.up g) (hf.up g) (n:Int)) ?_;rintro _ r ⟨y,rfl,G,e3⟩
 rw[J,OE rfl]at G
 have A:=A.ext e3;have g:=g.trans e3;have u:=u.up e3;obtain⟨yo,yc,rfl,hys⟩:=G.oldN.sl;clear H G e1 e2 e3 J C P K;generalize vK fl (n:Int)=ins at*
 generalize (A0 fl (n:Int)).length=o at*
 have Z:=g.size;refine QS ?_;rw[E6 (show o<62 by omega)];obtain⟨t,z⟩:∃t,t=(2:Int) ^ o:=⟨_,rfl⟩;have hp1:=B9 o;have hp2:=B7 (show o≤30 by omega);have hp3:(2:Int) ^ 30=1073741824:=by decide
 rw[←z]at hp1 hp2⊢
 rw[Jf (show -9223372036854775808≤t -1 by omega) O0];obtain⟨nb,off,rfl,hnb,W⟩:=(hs.at g).nodeK hn;skip;refine eH (α:=cG) rfl rfl rfl rfl O0 O0 ?_;refine Rg ?_;refine WL.load (α:=Int) (F:=cZ) (y:=ns[n].2) rfl rfl rfl (by rw[J7];exact W) rfl ?_;rw[show Il Int [Pq ns[n].2]=Pq ns[n].2 from rfl];generalize ns[n].2=k at*
 clear W hnb;skip;apply WL.nil;apply bz;apply CW.block;refine az [(1,Pq (n:Int)),(5,.slice xo ins.length xc),(7,.slice yo o yc),(9,Pq (t -1)),(10,.slice none 0 0),(38,Pq k),(39,.bool (decide (k=4∨k=2∨k=3)))] ?_ ?_
 ·refine Qm ?_
  by_cases h4:k=4
  ·subst h4
   refine PY ?_;exact aS OZ
  have b4:(k==4)=false:=by simpa using h4
  rw[b4];refine Qt ?_;by_cases h2:k=2
  ·subst h2
   refine PY ?_;exact aS OZ
  have b2:(k==2)=false:=by simpa using h2
  rw[b2];refine Qt ?_;rw[show decide (k=4∨k=2∨k=3)=(k==3) by rw[JI];simp[h4,h2]];exact aS OZ
 by_cases hd:k=4∨k=2∨k=3
 ·have d:FZ k (n:Int) ins o=ins.map fun f=>((n:Int),f,t -1):=by unfold FZ;rw[OE hd,z]
  rw[d,Ov hd];refine P7 ?_;refine CW.loop (S:=Nat×Value) (fun s=>[(1,Pq (n:Int)),(9,Pq (t -1)),(10,s.2),(43,.slice xo ins.length xc),(44,Pq ins.length),(45,Pq s.1)])
   (fun s w=>s.1≤ins.length∧Own w r.heap.size 127 cZ s.2 ((ins.take s.1).map fun f=>(((n:Int),f,t -1):cK))∧Ext r w) (fun s=>ins.length -s.1) (0,.slice none 0 0) OZ ⟨M9 _,Own.nil,Ext.refl _⟩ ?_
  rintro⟨i,ov⟩ w4 ⟨hi,c,m⟩
  dsimp only at hi c⊢
  refine Qm ?_;apply CW.cond rfl<;>intro h
  ·have e:i<ins.length:=by simp at h;omega
   have I:=GB (fun f=>(((n:Int),f,t -1):cK)) e;refine Q6 ?_;refine eB rfl rfl rfl rfl rfl (u.up m) e rfl O_ (fun q=>?_);refine Qj ?_;refine WL.build rfl rfl rfl rfl ?_;refine dW (F:=cZ) (yv:=(((n:Int),ins[i],t -1):cK)) rfl rfl O_ rfl rfl O_ c (CT _ _ _ _ _) m.size Pc O2 (by rw[Ln,Lv];unfold maxLen;omega) (by rw[Ln,Lv];omega) (fun U w5 p ho5 M hnb=>?_);rw[←I]at ho5
   have E:Ext r w5:=m.grown M m.size (fun b R=>(c.lt b R).1);refine P6 ?_;exact EX.back (i+1,U) OZ ⟨e,ho5,E⟩ O4
  ·obtain rfl:i=ins.length:=by simp at h;omega
   rw[Mf]at c
   refine PZ ?_;exact be rfl rfl ⟨c.low Z,g.trans m⟩
 rw[Ot hd];refine Qt ?_;by_cases Y:k=5
 ·subst Y
  have d:FZ 5 (n:Int) ins o=ins.flatMap fun f=>(List.range o).map fun k:Nat=>((n:Int),f,(2:Int) ^ k):=by unfold FZ;rw[OD hd,OE rfl]
  rw[d];have O:∀l:List Int,(l.flatMap fun f=>(List.range o).map fun k:Nat=>(((n:Int),f,(2:Int) ^ k):cK)).length=l.length*o:=fun l=>by
   induction l with
   |nil=>simp
   |cons a l ih=>rw[KI,Lg,ih];simp[Mo];omega
  refine P7 ?_;refine CW.loop (S:=Nat×Value) (fun s=>[(1,Pq (n:Int)),(7,.slice yo o yc),(10,s.2),(59,.slice xo ins.length xc),(60,Pq ins.length),(61,Pq s.1)])
   (fun s w=>s.1≤ins.length∧Own w r.heap.size 127 cZ s.2 ((ins.take s.1).flatMap fun f=>(List.range o).map fun k:Nat=>(((n:Int),f,(2:Int) ^ k):cK))∧Ext r w) (fun s=>ins.length -s.1) (0,.slice none 0 0) OZ ⟨M9 _,Own.nil,Ext.refl _⟩ ?_
  rintro⟨i,ov⟩ w4 ⟨hi,c,m⟩
  dsimp only at hi c⊢
  refine Qm ?_;apply CW.cond rfl<;>intro h
  ·have e:i<ins.length:=by simp at h;omega
   have D:=O (ins.take i);rw[Lv,MN hi]at D
   have hmul:i*o≤30*30:=MR O0 O0;generalize Q:((ins.take i).flatMap fun f=>(List.range o).map fun k:Nat=>(((n:Int),f,(2:Int) ^ k):cK))=base at c D
   refine Q6 ?_;refine eB rfl rfl rfl rfl rfl (u.up m) e rfl O_ (fun q=>?_);refine QZ ?_;refine CW.loop (S:=Nat×Value) (fun s=>[(1,Pq (n:Int)),(7,.slice yo o yc),(10,s.2),(14,Pq ins[i]),(59,.slice xo ins.length xc),(60,Pq ins.length),(61,Pq i),(66,Pq o),(67,Pq s.1)])
    (fun s w=>s.1≤o∧Own w r.heap.size 127 cZ s.2 (base++(List.range s.1).map fun k:Nat=>(((n:Int),ins[i],(2:Int) ^ k):cK))∧Ext r w) (fun s=>o -s.1) (0,ov) OZ ⟨M9 _,by simpa using c,m⟩ ?_
   rintro⟨j,ov⟩ w5 ⟨hj,c,E⟩
   dsimp only at hj c⊢
   refine Qm ?_;apply CW.cond rfl<;>intro h
   ·have hj':j<o:=by simp at h;omega
    refine PL ?_;rw[E6 (show j<62 by omega)];refine WL.build rfl rfl rfl rfl ?_;refine dW (F:=cZ) (yv:=(((n:Int),ins[i],(2:Int) ^ j):cK)) rfl rfl O_ rfl rfl O_ c (CT _ _ _ _ _) E.size Pc O2 (by rw[Lg,Ln,Lq];unfold maxLen;omega) (by rw[Lg,Ln,Lq];omega) (fun U w6 p ho6 L hnb=>?_);have e6:Ext r w6:=E.grown L E.size (fun b R=>(c.lt b R).1);refine P6 ?_;refine EX.back (j+1,U) OZ ⟨hj',?_,e6⟩ O4;dsimp only;rw[L7,Lz,←Kc];exact ho6
   ·obtain rfl:j=o:=by simp at h;omega
    refine P8 ?_;refine EX.back (i+1,ov) OZ ⟨e,?_,E⟩ O4;dsimp only;rw[←Me e,KH,Q];simpa using c
  ·obtain rfl:i=ins.length:=by simp at h;omega
   rw[Mf]at c
   refine PZ ?_;exact be rfl rfl ⟨c.low Z,g.trans m⟩
 have b5:(k==5)=false:=by simpa using Y
 rw[b5];refine Qt ?_;by_cases h6:k=6
 ·subst h6
  have d:FZ 6 (n:Int) ins o=[((n:Int),-1,t -1)]:=by unfold FZ;rw[OD hd,OD Y,OE rfl,z]
  rw[d];refine Qu ?_;refine WL.build rfl rfl rfl rfl ?_;refine dW (F:=cZ) (B:=r.heap.size) (xs:=[]) (yv:=(((n:Int),-1,t -1):cK)) rfl rfl O_ rfl rfl O_ Own.nil (CT _ _ _ _ _) Pm Pc O2 (by simp[maxLen]) O3 (fun U w6 p ho6 L hnb=>?_);have e6:Ext r w6:=(Ext.refl _).grown L Pm (fun b R=>by cases R);refine QQ ?_;exact be rfl rfl ⟨ho6.low Z,g.trans e6⟩
 have b6:(k==6)=false:=by simpa using h6
 rw[b6];refine Qt ?_;by_cases T:k=7
 ·subst T
  have ho4:=h7 rfl;have d:FZ 7 (n:Int) ins o=(List.range (2 ^ o -1)).map fun k:Nat=>((n:Int),-1,(k:Int)+1):=by unfold FZ;rw[OD hd,OD Y,OD h6,OE rfl]
  rw[d];have hpn:t=((2 ^ o:Nat):Int):=by rw[z];push_cast;rfl
  have hN1:=MW (n:=o);have hN2:2 ^ o≤2 ^ 4:=M0 O0 ho4;obtain⟨N,hN⟩:∃N,N=2 ^ o:=⟨_,rfl⟩;rw[←hN]at hpn hN1 hN2⊢
  have hN3:N≤16:=by have:2 ^ 4=16:=by decide
                    omega
  refine P7 ?_;refine CW.loop (S:=Nat×Value) (fun s=>[(1,Pq (n:Int)),(9,Pq (t -1)),(10,s.2),(16,Pq ((s.1:Int)+1))])
   (fun s w=>s.1≤N -1∧Own w r.heap.size 127 cZ s.2 ((List.range s.1).map fun k:Nat=>(((n:Int),-1,(k:Int)+1):cK))∧Ext r w) (fun s=>N -s.1) (0,.slice none 0 0) OZ ⟨M9 _,Own.nil,Ext.refl _⟩ ?_
  rintro⟨i,ov⟩ w4 ⟨hi,c,m⟩
  dsimp only at hi c⊢
  refine Qm ?_;apply CW.cond rfl<;>intro h
  ·have e:i<N -1:=by simp at h;omega
   refine PP ?_;refine WL.build rfl rfl rfl rfl ?_;refine dW (F:=cZ) (yv:=(((n:Int),-1,(i:Int)+1):cK)) rfl rfl O_ rfl rfl O_ c (CT _ _ _ _ _) m.size Pc O2 (by rw[Ln,Lq];unfold maxLen;omega) (by rw[Ln,Lq];omega) (fun U w5 p ho5 M hnb=>?_);have E:Ext r w5:=m.grown M m.size (fun b R=>(c.lt b R).1);refine P6 ?_;refine EX.back (i+1,U) OZ ⟨by dsimp only;omega,?_,E⟩ O4;dsimp only;rw[L7,Lz];exact ho5
  ·obtain rfl:i=N -1:=by simp at h;omega
   refine PZ ?_;exact be rfl rfl ⟨c.low Z,g.trans m⟩
 have b7:(k==7)=false:=by simpa using T
 rw[b7];have d:FZ k (n:Int) ins o=[]:=by unfold FZ;rw[OD hd,OD Y,OD h6,OD T]
 rw[d];refine Qa ?_;exact be rfl rfl ⟨Own.nil,g⟩
theorem c6(w0:World){so fo:Option Addr}{sc fc:Nat}{ns:List cG}{fl:List cF}(p:Sl w0 (c7 w0) so sc ns)(hf:Sl w0 (c7 w0) fo fc fl):
  Rt Tryz.prog 17 [Cl so sc fo fc ns.length fl.length].toArray w0 fun v w'=>∃x,v=.tuple ⟨[x,Pq (FX (ns,fl)).2]⟩∧Own w' w0.heap.size 127 cZ x (FX (ns,fl)).1∧Ext w0 w':=by
 have E:=p.len63;refine dD Tryz.func17 Tryz.ntmps17 rfl rfl ?_;have c:=Ext.refl w0;refine Pu ?_;refine dX rfl rfl rfl fun C j J=>?_
 have c:=c.trans J;unfold FX;refine Q0 ?_;refine WL.call rfl rfl rfl (aK C (p.up c) (hf.up c)) ?_;rintro _ n ⟨rfl,y⟩
 have j:=j.ext y;have c:=c.trans y;refine Qm ?_;apply CW.cond rfl<;>intro h
 ·have h:jM (ns,fl)≠0:=by simpa using h
  refine QJ ?_;refine bf rfl rfl rfl ⟨_,by rw[OE h],?_,c⟩;rw[OE h];exact Own.nil
 have g:jM (ns,fl)=0:=by simpa using h
 have d:=jN g;have m:=d.n;dsimp only at m
 rw[OD (by simp[g])];have z:=c.size;refine QK ?_;refine CW.loop (S:=Nat×Value) (fun s=>[(1,Pr w0.heap.size),(5,s.2),(14,Pq ns.length),(15,Pq s.1)])
  (fun s w=>s.1≤ns.length∧Own w n.heap.size 127 cZ s.2 (F8 (ns,fl) s.1)∧Ext n w) (fun s=>ns.length -s.1) (0,.slice none 0 0) OZ ⟨M9 _,Own.nil,Ext.refl _⟩ ?_
 rintro⟨i,ov⟩ B ⟨hi,k,t⟩
 dsimp only at hi k⊢
 have G:=j.ext t;have a:=c.trans t;have u:=F9 d i hi;refine Qm ?_;apply CW.cond rfl<;>intro h
 ·have f:i<ns.length:=by simp at h;omega
  have e:=F9 d (i+1) f;rw[F_,Lg]at e
  refine QI ?_;refine WL.call rfl rfl rfl (Ap B (p.up a) (hf.up a) g f) ?_;rintro sv K ⟨q,l⟩
  have k:=k.extN l;have l:=t.trans l;obtain⟨so',sc',rfl,o⟩:=q.oldN.sl;skip;refine WL.app (F:=cZ) rfl rfl rfl rfl k o.srcN l.size Pc O5 O0 (fun D A ho5 r _=>?_);rw[←F_]at ho5
  have I:Ext n A:=l.grown r l.size (fun b H=>(k.lt b H).1);refine P6 ?_;exact EX.back (i+1,D) OZ ⟨f,ho5,I⟩ O4
 obtain rfl:i=ns.length:=by simp at h;omega
 refine Q4 ?_;apply CW.cond rfl<;>intro h
 ·have h:(F4 (ns,fl)).length>60:=by simp at h;show(F8 (ns,fl) ns.length).length>60;omega
  refine QJ ?_;refine bf rfl rfl rfl ⟨_,by rw[OE h],?_,a⟩;rw[OE h];exact Own.nil
 ·have h:¬(F4 (ns,fl)).length>60:=by simp at h;show¬(F8 (ns,fl) ns.length).length>60;omega
  refine QQ ?_;refine bf rfl rfl rfl ⟨_,by rw[OD h],?_,a⟩;rw[OD h];exact k.low z
def FN(s:cK):Value:=.agg [.int .i64 s.1,.int .i64 s.2.1,.int .i64 s.2.2].toArray
theorem Rd.step{w:World}{F:Nat→Prop}{v:Value}{x:cK}(h:Rd w F v x):v=FN x:=by
 obtain⟨c1,c2,rfl,h1,h2⟩:=h.pr;obtain⟨c3,c4,rfl,h3,h4⟩:=C2 h2;rw[CX h1,CX h3,CX h4];rfl
section
variable {Q:Exit→Act→World→Prop}{n:Nat}{σ:Sg}{w:World}{L rest:List Oper}{d:Nat}{ty:TypeId}{pos:String}{af:Array Edge}{g:Option (Nat×Bool)}{yt:TypeId}{x y:Operand}
end
theorem Cells.tl{w:World}{b o:Nat}{x:Value}{r:List Value}(h:Cells w b o (x::r)):Cells w b (o+1) r:=fun j u a=>by
 have:=h (j+1) u (by simpa using a);rwa[show o+(j+1)=o+1+j by omega]at this
theorem Sl.pair{w:World}{F:Nat→Prop}{ao:Option Addr}{cap:Nat}{xs:List (Int×Int)}(h:Sl w F ao cap xs){i:Nat}(hi:i<xs.length):∃b off,ao=some ⟨b,off,none⟩∧F b∧Cells w b (off+i*2) [Pq xs[i].1]∧Cells w b (off+i*2+1) [Pq xs[i].2]:=by
 obtain⟨b,off,e,f,g,a,d⟩:=h.el i hi;obtain⟨c1,c2,rfl,h1,h2⟩:=C2 d;rw[CX h1,CX h2]at a
 exact⟨b,off,e,f,fun j u c=>a j u (by cases j with|zero=>simpa using c|succ j=>simp at c),a.tl⟩
theorem xL{p:cI}(h:jM p=0){n:Nat}(hn:n<p.1.length):xK p (n:Int)=0:=by
 unfold xK;rw[OD (by simp[h]),OD O0]
section
variable {P:Program}{Q:Exit→Act→World→Prop}{n:Nat}{σ:Sg}{w:World}{L rest:List Oper}{d:Nat}{ty:TypeId}{pos:String}{af:Array Edge}{g:Option (Nat×Bool)}{t e:TypeId}{α:Type}[Rep α]
end
section
variable {P:Program}{Q:Exit→Act→World→Prop}{n:Nat}{σ:Sg}{w:World}{L rest:List Oper}{d:Nat}{ty:TypeId}{pos:String}{af:Array Edge}{g:Option (Nat×Bool)}{t yt:TypeId}{x y:Operand}
end
theorem FY{p:cI}(h:(FX p).2=0):jM p=0∧(FX p).1=F4 p∧(F4 p).length≤60:=by
 unfold FX at h⊢
 split at h
 ·rename_i h1;exact absurd h h1
 ·split at h
  ·simp at h
  ·rename_i h1 h2
   rw[OD h1,OD h2];exact⟨by simpa using h1,rfl,by omega⟩
def oT(f:Nat→Int)(F i:Nat):List Int:=(List.range F).map fun j=>if j<i then f j else 0
theorem oU{f:Nat→Int}{F i:Nat}:(oT f F i).length=F:=by simp[oT]
theorem oY{f:Nat→Int}{F:Nat}:oT f F 0=List.replicate F 0:=by
 unfold oT;apply Ky O3;intro j h1 h2;simp
theorem oW{f:Nat→Int}{F i:Nat}(hi:i<F):(oT f F i).set i (f i)=oT f F (i+1):=by
 unfold oT;apply Ky O3;intro j h1 h2
 rw[La];simp only[K7,K9];by_cases e:i=j
 ·subst e;rw[OE rfl,OE O0]
 ·rw[OD e]
  by_cases h:j<i
  ·rw[OE h,OE O0]
  ·rw[OD h,OD O0]
theorem oX{f:Nat→Int}{F i:Nat}(a:f i=0):oT f F i=oT f F (i+1):=by
 unfold oT;apply Ky O3;intro j h1 h2
 simp only[K7,K9];by_cases e:i=j
 ·subst e;rw[OD O0,OE O0,a]
 ·by_cases h:j<i
  ·rw[OE h,OE O0]
  ·rw[OD h,OD O0]
theorem Rd.pairI{w:World}{F:Nat→Prop}{v:Value}{x:Int×Int}(h:Rd w F v x):v=.agg [Pq x.1,Pq x.2].toArray:=by
 obtain⟨c1,c2,rfl,h1,h2⟩:=h.pr;rw[CX h1,CX h2];rfl
theorem wT{ns:List cG}{fl:List cF}{n:Nat}(h:n<ns.length):wS (ns,fl) n=ns[n].2:=by unfold wS;rw[qK h]
theorem AA{ns:List cG}{fl:List cF}(h:OkPr (ns,fl)){i:Nat}(hi:i<fl.length):∃a b:Nat,fl[i].1=(a:Int)∧fl[i].2=(b:Int)∧a<ns.length∧b<ns.length:=by
 have:=h.flows _ (K8 hi);dsimp only at this
 exact⟨fl[i].1.toNat,fl[i].2.toNat,by omega,by omega,by omega,by omega⟩
theorem aq(w0:World){so fo:Option Addr}{sc fc:Nat}{ns:List cG}{fl:List cF}(B:Sl w0 (c7 w0) so sc ns)(hf:Sl w0 (c7 w0) fo fc fl):
  Rt Tryz.prog 98 [Cl so sc fo fc ns.length fl.length].toArray w0 fun v w'=>∃x,v=.tuple ⟨[x,Pq (FX (ns,fl)).2]⟩∧Own w' w0.heap.size 3 cZ x (if(FX (ns,fl)).2=0 then h_ (ns,fl)else [])∧Ext w0 w':=by
 have Y:=B.len63;have Z:=hf.len63;refine dD Tryz.func98 Tryz.ntmps98 rfl rfl ?_;have e:=Ext.refl w0;refine Pu ?_;refine dX rfl rfl rfl fun W c e1=>?_
 have e:=e.trans e1;refine Q0 ?_;refine WL.call rfl rfl rfl (c6 W (B.up e) (hf.up e)) ?_;rintro _ m ⟨x,rfl,C,R⟩
 have c:=c.ext R;have e:=e.trans R;by_cases n:(FX (ns,fl)).2=0
 case neg=>
  have A:((FX (ns,fl)).2 != 0)=true:=by simpa using n
  refine Qm ?_;rw[A];refine Q3 ?_;refine bf rfl rfl rfl ⟨_,rfl,?_,e⟩;rw[OD n];exact Own.nil
 obtain⟨H,_,_⟩:=FY n;rw[OE n,n];have f:=jN H;have o:=f.n;have s:=f.f;dsimp only at o s
 clear C;refine QD ?_;refine eW (α:=Int) rfl rfl rfl rfl O0 O5 (fun K ho3 r=>?_);have hE3:Ext w0 K:=e.grown r e.size Pg;have Q:Ext m K:=(JD _ _).grown r Pm Pg;have I:=c;have c:=c.ext Q;have hlt:=(ho3.lt _ rfl).2.1;generalize X:Value.slice (some ⟨m.heap.size,0,none⟩) fl.length fl.length=sv at*
 refine QS ?_;refine CW.loop (S:=Nat) (fun i=>[(1,Pr w0.heap.size),(6,sv),(22,.slice fo fl.length fc),(23,Pq fl.length),(24,Pq i)])
  (fun i w=>i≤fl.length∧Own w m.heap.size 3 cZ sv (oT (fun j=>if wS (ns,fl) (fl.getD j (0,0)).1.toNat=1 then 1 else 0) fl.length i)∧Ext m w) (fun i=>fl.length -i) 0 OZ ⟨by omega,by rw[oY];exact ho3,Q⟩ ?_
 rintro i V ⟨hi,g,z⟩
 have c:=I.ext z;have k:=e.trans z;refine Qm ?_;apply CW.cond rfl<;>intro h
 ·have d:i<fl.length:=by simp at h;omega
  obtain⟨a,b,ea,eb,O,N⟩:=AA f d;refine PP ?_;refine eC rfl rfl rfl rfl rfl (hf.up k) d O_ (fun u q L=>?_);rw[L.pairI,ea,eb];clear L;skip;refine WL.alloc rfl rfl (fun w5 t P=>?_);refine Ra ?_;refine WL.st rfl rfl rfl t rfl rfl Pk (fun U t G=>?_);have l:Ext V U:=P.grown G P.size Pb;have c:=c.ext l;have J:=k.trans l;have g:=g.extN l;obtain⟨nb,off,rfl,hnb,D⟩:=(B.at J).nodeK O;have p:wS (ns,fl) (fl.getD i (0,0)).1.toNat=ns[a].2:=by rw[qG d,ea,J7,wT O]
  refine QM ?_;refine eH (α:=cG) rfl rfl rfl rfl O0 O0 ?_;refine Rg ?_;refine WL.load (α:=Int) (F:=cZ) (y:=ns[a].2) rfl rfl rfl (by rw[J7];exact D) rfl ?_;rw[show Il Int [Pq ns[a].2]=Pq ns[a].2 from rfl];refine PE ?_;apply CW.cond rfl<;>intro h
  ·have h:ns[a].2=1:=by simpa using h
   refine PQ ?_;refine ft (u:=Pq 1) (yv:=(1:Int)) rfl rfl rfl rfl g (by rw[oU];exact d) O_ O_ Pl (fun T q ho7 E=>?_);have e7:Ext m T:=(z.trans l).grown E (z.trans l).size (fun b N=>(g.lt b N).1);refine P6 ?_;refine EX.back (i+1) OZ ⟨d,?_,e7⟩ O0;rw[←oW d,p,OE h];exact ho7
  ·have h:¬ns[a].2=1:=by simpa using h
   refine Pz ?_;refine EX.back (i+1) OZ ⟨d,?_,z.trans l⟩ O0;rw[←oX (by rw[p,OD h])];exact g
 ·obtain rfl:i=fl.length:=by simp at h;omega
  have:oT (fun j=>if wS (ns,fl) (fl.getD j (0,0)).1.toNat=1 then 1 else 0) fl.length fl.length=h_ (ns,fl):=by
   unfold oT h_;apply Ky O3;intro j h1 h2
   have M:j<fl.length:=by simpa using h1
   simp only[K7,K9,OE M];rw[qG M]
  rw[this]at g
  refine P3 ?_;exact bf rfl rfl rfl ⟨_,rfl,g.low e.size,k⟩
theorem GZ(w:World)(n:Int):Rt Tryz.prog 235 [Pq n].toArray w fun v w'=>v=.bool (GU n)∧Ext w w':=by
 refine dD Tryz.func235 Tryz.ntmps235 rfl rfl ?_;refine Qm ?_;by_cases h:n<0
 ·rw[Ov h]
  refine PC ?_;exact be rfl rfl ⟨by unfold GU;rw[Ov h];rfl,Ext.refl _⟩
 ·rw[Ot h]
  refine PB ?_;exact be rfl rfl ⟨by unfold GU;rw[Ot h];rfl,Ext.refl _⟩
theorem ji(w0:World){so fo mo:Option Addr}{sc fc mc:Nat}{ns:List cG}{fl:List cF}{m:List Int}(s:Sl w0 (c7 w0) so sc ns)(hf:Sl w0 (c7 w0) fo fc fl)(l:Sl w0 (c7 w0) mo mc m):
  Rt Tryz.prog 218 [Cl so sc fo fc ns.length fl.length,.slice mo m.length mc].toArray w0 fun v w'=>∃x,v=.tuple ⟨[x,Pq (jH (ns,fl) m)]⟩∧Own w' w0.heap.size 127 cZ x (if jH (ns,fl) m=0 then F4 (ns,fl)else [])∧Ext w0 w':=by
 have u:=hf.len63;have t:=l.len63;refine dE Tryz.func218 Tryz.ntmps218 rfl rfl ?_;have a:=Ext.refl w0;refine Pu ?_;refine dX rfl rfl rfl fun r f p=>?_
 have a:=a.trans p;refine Q0 ?_;refine WL.call rfl rfl rfl (c6 r (s.up a) (hf.up a)) ?_;rintro _ q ⟨x,rfl,c,o⟩
 have f:=f.ext o;have a:=a.trans o;unfold jH;by_cases d:(FX (ns,fl)).2=0
 case neg=>
  have g:((FX (ns,fl)).2 != 0)=true:=by simpa using d
  refine Qm ?_;rw[g];refine Q3 ?_;refine bf rfl rfl rfl ⟨_,by rw[OE d],?_,a⟩;rw[OE d,OD d];exact Own.nil
 obtain⟨y,i,_⟩:=FY d;rw[OD (by simp[d]),d];rw[i]at c
 refine QD ?_;by_cases k:m.length=fl.length
 ·have e:((m.length:Int) != (fl.length:Int))=false:=by simp[k]
  rw[e];refine Ra ?_;refine WL.call rfl rfl rfl (kE q GU (l.up a) (fun w A j B=>FnV.mk (cs:=[]) (GZ w _))) ?_;rintro _ z ⟨rfl,n⟩
  have c:=c.extN n;have a:=a.trans n;refine PE ?_;apply CW.cond rfl<;>intro h
  ·have h:m.any GU=true:=by simpa using h
   refine QJ ?_;have b:(if m.length≠fl.length∨m.any GU=true then(1:Int)else 0)=1:=OE (.inr h);dsimp only;rw[b];exact bf rfl rfl rfl ⟨_,rfl,by rw[OD O2];exact Own.nil,a⟩
  ·have h:¬(m.length≠fl.length∨m.any GU=true):=by
    have h:m.any GU=false:=by simpa using h
    rw[h];simp[k]
   refine QQ ?_;have b:(if m.length≠fl.length∨m.any GU=true then(1:Int)else 0)=0:=OD h;dsimp only;rw[b];exact bf rfl rfl rfl ⟨_,rfl,by rw[OE rfl];exact c.low p.size,a⟩
 ·have e:((m.length:Int) != (fl.length:Int))=true:=by rw[Om];omega
  rw[e];refine Q3 ?_;have b:(if m.length≠fl.length∨m.any GU=true then(1:Int)else 0)=1:=OE (.inl k);dsimp only;rw[b];exact bf rfl rfl rfl ⟨_,rfl,by rw[OD O2];exact Own.nil,a⟩
theorem qF{l:List Bool}{j:Nat}(h:j<l.length):l.getD j false=l[j]:=by rw[KN,KT h];rfl
theorem kD(w0:World){so fo:Option Addr}{sc fc:Nat}{ns:List cG}{fl:List cF}(hs:Sl w0 (c7 w0) so sc ns)(hf:Sl w0 (c7 w0) fo fc fl)(X:OkPr (ns,fl)){flow:Nat}(hfl:flow<fl.length)(but:Int):
  Rt Tryz.prog 240 [Cl so sc fo fc ns.length fl.length,Pq (flow:Int),Pq but].toArray w0 fun v w'=>Own w' w0.heap.size 4 cZ v (ky fl flow but)∧Ext w0 w':=by
 have hf30:=X.f;dsimp only at hf30
 refine dF Tryz.func240 Tryz.ntmps240 rfl rfl ?_;have hE:=Ext.refl w0;refine Pu ?_;refine dX rfl rfl rfl fun o hb1 e1=>?_
 have hE:=hE.trans e1;have z1:=e1.size;refine QS ?_;refine eW (α:=Bool) rfl rfl rfl rfl O0 O5 (fun w2 ho2 hg2=>?_);have e2:Ext o w2:=(JD _ _).grown hg2 Pm Pg;have hlt:=(ho2.lt _ rfl).2.1;generalize hsv:Value.slice (some ⟨o.heap.size,0,none⟩) fl.length fl.length=sv at*
 have M:sv.ownBlock=some o.heap.size:=by rw[←hsv];rfl
 refine Qm ?_;refine ft (u:=.bool true) (yv:=true) rfl rfl rfl rfl ho2 (by simpa using hfl) O_ O_ (Rd.mkBool _ _ _) (fun w3 q ho3 hg3=>?_);have e3:Ext o w3:=e2.grown hg3 e2.size (fun b K=>(ho2.lt b K).1);have hlt3:o.heap.size<w3.heap.size:=(ho3.lt _ M).2.1;refine Qm ?_;refine WL.lit (F:=cZ) (ys:=[(flow:Int)]) rfl rfl rfl rfl rfl (.cons Pl .nil) (by show 1*1≤16777216;decide) Pc (fun w4 ho4 hg4=>?_);have e4:Ext o w4:=e3.grown hg4 e3.size Pg;have ho3:=ho3.keptN hg4 (fun g _ h=>by cases h);have hne4:∀b,Value.ownBlock (.slice (some ⟨w3.heap.size,0,none⟩) 1 1)=some b→b≠o.heap.size:=fun b K=>by
  have e:some w3.heap.size=some b:=K
  injection e with e;omega
 have ho4:=ho4.low e3.size;generalize Value.slice (some ⟨w3.heap.size,0,none⟩) 1 1=tv at*
 have hI:ComeI fl ((List.replicate fl.length false).set flow true) [(flow:Int)]:=⟨by simp,fun x hx=>by rw[LV]at hx;omega⟩;have hm0:[(flow:Int)].length+oF ((List.replicate fl.length false).set flow true)≤fl.length:=by
  have:=oI (l:=List.replicate fl.length false) (k:=flow) (by simpa using hfl) (by rw[KN,KY];split<;>rfl);rw[oH]at this
  simp only[Lh,Lo];omega
 clear e2 e3 hg2 hg3 hg4 ho2;refine Qc ?_;refine CW.loop (S:=Nat×List Bool×List Int×Value) (fun s=>[(2,Pq but),(3,Pr w0.heap.size),(7,sv),(8,s.2.2.2)])
  (fun s w=>kt fl but s.1 s.2.1 s.2.2.1=ky fl flow but∧ComeI fl s.2.1 s.2.2.1∧s.2.2.1.length+oF s.2.1≤s.1∧s.1≤fl.length∧Own w o.heap.size 4 cZ sv s.2.1∧Own w o.heap.size 3 cZ s.2.2.2 s.2.2.1∧(∀b,s.2.2.2.ownBlock=some b→b≠o.heap.size)∧Ext o w) (fun s=>s.1)
  (fl.length,(List.replicate fl.length false).set flow true,[(flow:Int)],tv) OZ ⟨rfl,hI,hm0,MF _,ho3,ho4,hne4,e4⟩ ?_
 rintro⟨f,out,N,tv⟩ w5 ⟨m,hI,R,hfF,C,I,hne,e5⟩
 dsimp only at m hI R hfF C I hne e5⊢
 have hE5:=hE.trans e5;have hb5:=hb1.ext e5;refine PN ?_;apply CW.cond rfl<;>intro h0
 ·simp at h0
  match N,h0 with
  |x::r,_=>
  have hx:=hI.ok x O3;obtain⟨k,rfl⟩:=J2 hx.1;have hk:k<fl.length:=by omega
  obtain⟨a,b,ea,eb,ha,K⟩:=AA X hk
  match f,R with
  |0,R=>simp at R
  |f+1,R=>
  have R:r.length+oF out≤f:=by simp at R;omega
  have hI':ComeI fl out r:=⟨hI.len,fun y hy=>hI.ok y (by simp[hy])⟩;unfold kt at m
  rw[J7,qG hk,ea]at m
  obtain⟨to,tc,rfl,hts⟩:=I.oldN.sl;obtain⟨fb,off,rfl,hfb,hc1,_⟩:=(hf.up hE5).pair hk;refine Q_ ?_;refine dh (i:=0) rfl rfl rfl rfl rfl Pe hts O0 O3 O_ (fun u q hu=>?_);obtain rfl:=hu.int;simp only[Int.toNat_zero,K5];refine dm (α:=cF) rfl rfl rfl rfl O0 O0 ?_;refine Ri ?_;refine QL.load (α:=Int) (F:=cZ) (y:=fl[k].1) rfl rfl rfl hfb Pc (by rw[J7];exact hc1) rfl ?_;rw[show Il Int [Pq fl[k].1]=Pq fl[k].1 from rfl,ea];refine Rf ?_;refine QL.nil (fun w6 W=>?_);have C:=C.extN W;have I:=I.extN W;have W:=e5.trans W;have hE6:=hE.trans W;have hb6:=hb1.ext W;clear hts;refine Qf ?_;refine ew (α:=Int) 1 rfl rfl rfl rfl rfl I O3 (fun nv2 H hnb=>?_);simp only[Kv,Kw]at H
  have Q:∀b,nv2.ownBlock=some b→b≠o.heap.size:=fun b K=>hne b (by rw[←hnb];exact K)
  refine Qm ?_;apply CW.cond rfl<;>intro h2
  ·have h2:(a:Int)=but:=by simpa using h2
   rw[OE h2]at m
   refine QA ?_;exact EX.back (f,out,r,nv2) OZ ⟨m,hI',R,by omega,C,H,Q,W⟩ O4
  have h2:¬(a:Int)=but:=by simpa using h2
  rw[OD h2]at m
  refine QK ?_;refine CW.loop (S:=Nat×List Bool×List Int×Value) (fun s=>[(2,Pq but),(3,Pr w0.heap.size),(7,sv),(8,s.2.2.2),(9,Pq (a:Int)),(38,.slice (some ⟨fb,off,none⟩) fl.length fc),(39,Pq fl.length),(40,Pq s.1)])
   (fun s w=>s.1≤fl.length∧(s.2.1,s.2.2.1)=(List.range s.1).foldl (kB fl (a:Int)) (out,r)∧ComeI fl s.2.1 s.2.2.1∧s.2.2.1.length+oF s.2.1=r.length+oF out∧Own w o.heap.size 4 cZ sv s.2.1∧Own w o.heap.size 3 cZ s.2.2.2 s.2.2.1∧(∀b,s.2.2.2.ownBlock=some b→b≠o.heap.size)∧Ext o w) (fun s=>fl.length -s.1)
   (0,out,r,nv2) OZ ⟨M9 _,rfl,hI',rfl,C,H,Q,W⟩ ?_
  rintro⟨j,out2,todo2,tv3⟩ w7 ⟨hj,B,D,L,J,G,d,e7⟩
  dsimp only at hj B D L J G d e7⊢
  have hE7:=hE.trans e7;refine Qm ?_;apply CW.cond rfl<;>intro h1
  ·have z:j<fl.length:=by simp at h1;omega
   obtain⟨a2,b2,ea2,eb2,ha2,hb2⟩:=AA X z;have A:=kC (n:=(a:Int)) z D;have c:kB fl (a:Int) (out2,todo2) j=(List.range (j+1)).foldl (kB fl (a:Int)) (out,r):=by
    rw[L7,List.foldl_append,←B];rfl
   have Z:j<out2.length:=by rw[D.len];exact z
   have hcs:kB fl (a:Int) (out2,todo2) j=if(b2:Int)=(a:Int)∧out2[j]=false then(out2.set j true,todo2++[(j:Int)])else(out2,todo2):=by
    unfold kB;rw[qG z,eb2,qF Z]
   rw[hcs]at A c
   have hlen3:todo2.length≤60:=by have:=oG (l:=out);have:=hI.len;omega
   refine PP ?_;refine eC rfl rfl rfl rfl rfl (hf.up hE7) z O_ (fun u q hu=>?_);rw[hu.pairI,ea2,eb2];clear hu;skip;refine WL.alloc rfl rfl (fun w8 hb8 e8=>?_);refine Ra ?_;refine WL.st rfl rfl rfl hb8 rfl rfl Pk (fun w9 hb9 hg9=>?_);have V:Ext w7 w9:=e8.grown hg9 e8.size Pb;have t:=J.extN V;have E:=G.extN V;have V:=e7.trans V;refine QM ?_;by_cases h3:(b2:Int)=(a:Int)
   ·rw[show((b2:Int)==(a:Int))=true by simpa using h3]
    refine Ra ?_;refine eE rfl rfl rfl rfl rfl t Z O_ (fun u q hu=>?_);obtain rfl:=hu.bool;refine PE ?_;by_cases h4:out2[j]=false
    ·rw[OE ⟨h3,h4⟩]at A c
     dsimp only at A
     rw[h4];refine Qu ?_;refine ft (u:=.bool true) (yv:=true) rfl rfl rfl rfl t Z O_ O_ (Rd.mkBool _ _ _) (fun w10 q P U=>?_);have e10:Ext o w10:=V.grown U V.size (fun b K=>(t.lt b K).1);have O:=E.keptN U (fun g hg=>by rw[M];simpa using d g hg);refine Qj ?_;refine dW (F:=cZ) (yv:=(j:Int)) rfl rfl O_ rfl rfl O_ O Pl e10.size Pc O2 O5 O0 (fun v' w11 p ho11 T Y=>?_);have e11:Ext o w11:=e10.grown T e10.size (fun b K=>(O.lt b K).1);have hd11:=P.keptN T (fun g hg e=>by rw[M]at hg;cases hg;exact d _ e.symm rfl);refine P6 ?_;refine EX.back (j+1,out2.set j true,todo2++[(j:Int)],v') OZ ⟨z,c,A.1,by rw[A.2];exact L,hd11,ho11,?_,e11⟩ O4;intro b hb'
     rcases Y b hb' with h|h
     ·exact d b h
     ·have:=(P.lt _ M).2.1;omega
    ·rw[OD (fun h=>h4 h.2)]at A c
     have h4:out2[j]=true:=by simpa using h4
     rw[h4];refine PT ?_;exact EX.back (j+1,out2,todo2,tv3) OZ ⟨z,c,D,L,t,E,d,V⟩ O4
   ·rw[OD (fun h=>h3 h.1)]at A c
    rw[show((b2:Int)==(a:Int))=false by simpa using h3];refine Qr ?_;exact EX.back (j+1,out2,todo2,tv3) OZ ⟨z,c,D,L,t,E,d,V⟩ O4
  ·obtain rfl:j=fl.length:=by simp at h1;omega
   rw[←B]at m
   refine QA ?_;exact EX.back (f,out2,todo2,tv3) OZ ⟨m,D,by dsimp only;omega,by dsimp only;omega,J,G,d,e7⟩ O4
 ·have hnil:N=[]:=by
   simpa using h0
  subst hnil;rw[kx]at m
  subst m;refine P3 ?_;exact be rfl rfl ⟨C.low z1,hE5⟩
theorem gl{α:Type}(p:α→Bool){l:List α}{i:Nat}(h:i<l.length):(l.take (i+1)).any p=((l.take i).any p||p l[i]):=by
 rw[←Me h,J_];simp
theorem qY{l:List Int}{j:Nat}(h:j<l.length):l.getD j 0=l[j]:=by rw[KN,KT h];rfl
theorem we{p:cI}{m:List Int}{n f:Int}(h:f∈vK p.2 n)(h1:¬m.getD f.toNat 0>0)(h2:gU p m n f=true):wd p m n=false:=by
 unfold wd;rw[OE];exact Kb.2 ⟨f,h,by rw[Ot h1,h2];rfl⟩
theorem wg{p:cI}{m:List Int}{n:Int}(h:∀f∈vK p.2 n,¬m.getD f.toNat 0>0→gU p m n f=false):wd p m n=(vK p.2 n).any fun f=>decide (m.getD f.toNat 0>0):=by
 unfold wd;rw[OD];rw[Kb];rintro⟨f,hf,a⟩
 rw[JG]at a
 have h1:¬m.getD f.toNat 0>0:=by simpa using a.1
 rw[h f hf h1]at a
 simp at a
def gO(fl:List cF)(m:List Int)(c:List Bool)(n:Int)(i:Nat):Bool:=c.getD i false&&decide (m.getD i 0>0)&&decide ((fl.getD i (0,0)).2≠n)
theorem gW{p:cI}{m:List Int}{n:Int}{f:Nat}:gU p m n (f:Int)=(List.range p.2.length).any (gO p.2 m (ky p.2 f n) n):=rfl
theorem wh(w0:World){so fo mo:Option Addr}{sc fc mc:Nat}{ns:List cG}{fl:List cF}{m:List Int}(hs:Sl w0 (c7 w0) so sc ns)(hf:Sl w0 (c7 w0) fo fc fl)(hm:Sl w0 (c7 w0) mo mc m)(W:jM (ns,fl)=0)(hml:m.length=fl.length){n:Nat}(hn:n<ns.length):
  Rt Tryz.prog 236 [Cl so sc fo fc ns.length fl.length,.slice mo m.length mc,Pq (n:Int)].toArray w0 fun v w'=>v=.bool (wd (ns,fl) m (n:Int))∧Ext w0 w':=by
 have N:=jN W;have V:=N.f;dsimp only at V
 have P:xK (ns,fl) (n:Int)=0:=xL W hn;refine dF Tryz.func236 Tryz.ntmps236 rfl rfl ?_;have J:=Ext.refl w0;refine Pu ?_;refine dX rfl rfl rfl fun w1 g e1=>?_
 have J:=J.trans e1;refine Q0 ?_;refine WL.call rfl rfl rfl (cB w1 (hs.up J) (hf.up J) (n:Int)) ?_;rintro _ w2 ⟨x,rfl,E,e2⟩
 rw[P,OE rfl]at E
 have g:=g.ext e2;have J:=J.trans e2;obtain⟨xo,xc,rfl,Y⟩:=E.oldN.sl;have U:=fun x (hx:x∈vK fl (n:Int))=>insP_mem.1 hx
 have T:=fun f=>@we (ns,fl) m (n:Int) f
 have Q:=@wg (ns,fl) m (n:Int);have hil:(vK fl (n:Int)).length≤fl.length:=vN;dsimp only at T Q
 rw[P];clear E e1;generalize vK fl (n:Int)=ins at*
 refine QZ ?_;refine CW.loop (S:=Nat×Bool) (fun s=>[(1,.slice mo m.length mc),(2,Pq (n:Int)),(3,Pr w0.heap.size),(9,.bool s.2),(20,.slice xo ins.length xc),(21,Pq ins.length),(22,Pq s.1)])
  (fun s w=>s.1≤ins.length∧s.2=((ins.take s.1).any fun f=>decide (m.getD f.toNat 0>0))∧(∀j (h:j<ins.length),j<s.1→¬m.getD ins[j].toNat 0>0→gU (ns,fl) m (n:Int) ins[j]=false)∧Ext w2 w) (fun s=>ins.length -s.1)
  (0,false) OZ ⟨M9 _,rfl,(fun j _ h=>absurd h (MV _)),Ext.refl _⟩ ?_
 rintro⟨i,b⟩ w3 ⟨hi,X,l,M⟩
 dsimp only at hi X l M⊢
 have g:=g.ext M;have z:=J.trans M;refine Qm ?_;apply CW.cond rfl<;>intro h
 ·have u:i<ins.length:=by simp at h;omega
  have C:=K8 u;obtain⟨f,ef,o,_⟩:=U _ C;have A:f<m.length:=by rw[hml];exact o
  have d:=gl (fun f:Int=>decide (m.getD f.toNat 0>0)) u;rw[ef,J7,qY A]at d
  refine Q6 ?_;refine eB rfl rfl rfl rfl rfl (Y.up M) u ef O_ (fun q=>?_);refine Qm ?_;refine eB rfl rfl rfl rfl rfl (hm.up z) A rfl O_ (fun q=>?_);refine PE ?_;apply CW.cond rfl<;>intro h
  ·rw[h,JT]at d
   have hp:m.getD ins[i].toNat 0>0:=by rw[ef,J7,qY A];simpa using h
   refine QR ?_;refine EX.back (i+1,true) OZ ⟨u,d.symm,fun j G o hn=>?_,M⟩ O4;dsimp only at o
   by_cases e:j=i
   ·subst e;exact absurd hp hn
   ·exact l j G O0 hn
  rw[h,JS,←X]at d
  have Z:¬m.getD ins[i].toNat 0>0:=by rw[ef,J7,qY A];simpa using h
  have B:=gW (p:=(ns,fl)) (m:=m) (n:=(n:Int)) (f:=f);rw[←ef]at B
  dsimp only at B
  refine PX ?_;refine WL.call rfl rfl rfl (kD w3 (hs.up z) (hf.up z) N o (n:Int)) ?_;rintro v w4 ⟨O,e4⟩
  have g:=g.ext e4;have hE4:=z.trans e4;have hcl:=kA (fl:=fl) (flow:=f) (but:=(n:Int));generalize ky fl f (n:Int)=c at*
  obtain⟨co,cc,rfl,hcs⟩:=O.oldN.sl;clear O;refine Ql ?_;refine CW.loop (S:=Nat) (fun j=>[(1,.slice mo m.length mc),(2,Pq (n:Int)),(3,Pr w0.heap.size),(9,.bool b),(20,.slice xo ins.length xc),(21,Pq ins.length),(22,Pq i),(34,.slice co c.length cc),(35,Pq c.length),(36,Pq j)])
   (fun j w=>j≤c.length∧(∀k,k<j→gO fl m c (n:Int) k=false)∧Ext w4 w) (fun j=>c.length -j) 0 OZ ⟨M9 _,(fun k h=>absurd h (MV _)),Ext.refl _⟩ ?_
  rintro j w5 ⟨G,D,K⟩
  have g:=g.ext K;have I:=hE4.trans K;refine Qm ?_;apply CW.cond rfl<;>intro h2
  ·have t:j<c.length:=by simp at h2;omega
   have r:j<fl.length:=by omega
   have R:j<m.length:=by omega
   have a:gO fl m c (n:Int) j=(c[j]&&decide (m[j]>0)&&decide (fl[j].2≠(n:Int))):=by unfold gO;rw[qF t,qY R,qG r]
   have H:gO fl m c (n:Int) j=false→∀k,k<j+1→gO fl m c (n:Int) k=false:=fun h k hk=>by
    by_cases e:k=j
    ·subst e;exact h
    ·exact D k O0
   refine PP ?_;refine eA rfl rfl rfl rfl rfl (hcs.up K) t rfl O_ (fun q=>?_);refine Qm ?_;by_cases h3:c[j]=true
   ·rw[h3]at a⊢
    rw[JU]at a
    refine Ra ?_;refine eB rfl rfl rfl rfl rfl (hm.up I) R rfl O_ (fun q=>?_);refine Ra ?_;by_cases h4:m[j]>0
    ·rw[Ov h4]at a⊢
     rw[JU]at a
     obtain⟨fb,off,rfl,hfb,_,hc2⟩:=(hf.up I).pair r;refine Rl ?_;refine eH (α:=cF) rfl rfl rfl rfl O0 O0 ?_;refine Rg ?_;refine WL.load (α:=Int) (F:=cZ) (y:=fl[j].2) rfl rfl rfl (by rw[J7];exact hc2) rfl ?_;rw[show Il Int [Pq fl[j].2]=Pq fl[j].2 from rfl];refine PE ?_;apply CW.cond rfl<;>intro L
     ·have L:fl[j].2≠(n:Int):=by simpa using L
      rw[Ov L]at a
      have hbt:gU (ns,fl) m (n:Int) ins[i]=true:=by
       rw[B];exact Kb.2 ⟨j,LU.2 r,a⟩
      refine Pt ?_;refine be rfl rfl ⟨?_,I⟩;rw[T _ C Z hbt]
     ·have L:¬fl[j].2≠(n:Int):=by simpa using L
      rw[Ot L]at a
      refine Pz ?_;exact EX.back (j+1) OZ ⟨t,H a,K⟩ O0
    ·rw[Ot h4]at a⊢
     rw[JJ]at a
     refine Qr ?_;exact EX.back (j+1) OZ ⟨t,H a,K⟩ O0
   ·have h3:c[j]=false:=by simpa using h3
    rw[h3]at a⊢
    rw[JJ,JJ]at a
    refine Qr ?_;exact EX.back (j+1) OZ ⟨t,H a,K⟩ O0
  ·obtain rfl:j=c.length:=by simp at h2;omega
   have hbf:gU (ns,fl) m (n:Int) ins[i]=false:=by
    rw[B];exact Ka.2 (fun k hk=>by rw[D k (by rw[hcl];exact LU.1 hk)];simp)
   refine P8 ?_;refine EX.back (i+1,b) OZ ⟨u,d.symm,fun j G o hn=>?_,(M.trans e4).trans K⟩ O4;dsimp only at o
   by_cases e:j=i
   ·subst e;exact hbf
   ·exact l j G O0 hn
 ·obtain rfl:i=ins.length:=by simp at h;omega
  rw[Mf]at X
  have:=Q (fun f hf hn=>by
   obtain⟨j,G,rfl⟩:=LO.1 hf;exact l j G G hn)
  refine P3 ?_;exact be rfl rfl ⟨by rw[this,←X],z⟩
theorem m8(w:World)(b:Nat){mo:Option Addr}{mc:Nat}{m:List Int}(d:Blk w b 39 [.slice mo m.length mc])(c:Sl w (c7 w) mo mc m){f:Nat}(a:f<m.length):
  Rt Tryz.prog 237 [Pq (f:Int),Pr b].toArray w fun v w'=>v=.bool (m.getD f 0==0)∧Ext w w':=by
 refine dE Tryz.func237 Tryz.ntmps237 rfl rfl ?_;refine P4 ?_;refine eB rfl rfl rfl rfl rfl c a rfl O_ (fun q=>?_);refine PB ?_;exact be rfl rfl ⟨by rw[qY a],Ext.refl _⟩
theorem m_(w0:World){so fo mo:Option Addr}{sc fc mc:Nat}{ns:List cG}{fl:List cF}{m:List Int}(u:Sl w0 (c7 w0) so sc ns)(hf:Sl w0 (c7 w0) fo fc fl)(B:Sl w0 (c7 w0) mo mc m)(i:jM (ns,fl)=0)(e:m.length=fl.length){s:cK}{n:Nat}(hn:n<ns.length)(d:s∈F7 (ns,fl) n):
  Rt Tryz.prog 219 [Cl so sc fo fc ns.length fl.length,.slice mo m.length mc,FN s].toArray w0 fun v w'=>v=.bool (m9 (ns,fl) m s)∧Ext w0 w':=by
 have z:=jN i;have p:=z.f;dsimp only at p
 have J:=F2 _ d;have I:=F0 _ d;have l:xK (ns,fl) (n:Int)=0:=xL i hn;clear d;obtain⟨U,H,T⟩:=s;dsimp only at J I
 subst J;unfold FN m9;dsimp only;refine dF Tryz.func219 Tryz.ntmps219 rfl rfl ?_;have a:=Ext.refl w0;refine Pu ?_;refine dX rfl rfl rfl fun S c P=>?_
 have a:=a.trans P;skip;refine dX rfl rfl rfl fun R b L=>?_
 have c:=c.ext L;have a:=a.trans L;skip;refine dX rfl rfl rfl fun G N D=>?_
 have c:=c.ext D;have b:=b.ext D;have a:=a.trans D;refine QM ?_;apply CW.cond rfl<;>intro h
 ·have h:H≥0:=by simpa using h
  rcases I with rfl|C
  ·omega
  obtain⟨f,rfl,g,_⟩:=insP_mem.1 C;have o:f<m.length:=by rw[e];exact g
  rw[OE h,J7,qY o];refine QX ?_;refine eB rfl rfl rfl rfl rfl (B.up a) o rfl O_ (fun q=>?_);refine PK ?_;exact be rfl rfl ⟨rfl,a⟩
 have h:¬0≤H:=by simpa using h
 rw[OD h,J7,wT hn];obtain⟨V,off,rfl,hnb,A⟩:=(u.at a).nodeK hn;refine Qq ?_;refine eH (α:=cG) rfl rfl rfl rfl O0 O0 ?_;refine Rg ?_;refine WL.load (α:=Int) (F:=cZ) (y:=ns[n].2) rfl rfl rfl (by rw[J7];exact A) rfl ?_;rw[show Il Int [Pq ns[n].2]=Pq ns[n].2 from rfl];refine PE ?_;apply CW.cond rfl<;>intro h
 ·have h:ns[n].2=7:=by simpa using h
  rw[OE h];refine Qq ?_;refine WL.call rfl rfl rfl (wh G (u.up a) (hf.up a) (B.up a) i e hn) ?_;rintro _ E ⟨rfl,r⟩
  refine PK ?_;exact be rfl rfl ⟨rfl,a.trans r⟩
 have h:¬ns[n].2=7:=by simpa using h
 rw[OD h];refine Qq ?_;refine WL.call rfl rfl rfl (cB G (u.up a) (hf.up a) (n:Int)) ?_;rintro _ E ⟨x,rfl,k,r⟩
 rw[l,OE rfl]at k
 rw[l];have b:=b.ext r;have a:=a.trans r;obtain⟨xo,xc,rfl,t⟩:=k.oldN.sl;refine QE ?_;refine WL.call rfl rfl rfl (kE E (fun f=>m.getD f.toNat 0==0) t (fun w K j M=>?_)) ?_
 ·obtain⟨f,ef,g,_⟩:=insP_mem.1 (K8 M)
  rw[ef,J7];exact FnV.mk (cs:=[_]) (m8 w _ (b.ext K) (B.up (a.trans K)) (by rw[e];exact g))
 rintro _ Q ⟨rfl,O⟩
 refine PB ?_;exact be rfl rfl ⟨rfl,a.trans O⟩
theorem F5{p:cI}{i:Nat}(h:i<(F4 p).length):(F4 p).getD i (0,0,0)=(F4 p)[i]:=by rw[KN,KT h];rfl
theorem jI{p:cI}{m:List Int}(h:jH p m=0):jM p=0∧m.length=p.2.length∧m.any GU=false∧(F4 p).length≤60:=by
 unfold jH at h
 split at h
 ·rename_i h1;exact absurd h h1
 ·rename_i h1
  split at h
  ·cases h
  ·rename_i h2
   have:=FY (p:=p) (by simpa using h1);refine⟨this.1,JW fun e=>h2 (.inl e),?_,this.2.2⟩;by_cases e:m.any GU=true
   ·exact absurd (.inr e) h2
   ·simpa using e
theorem bC(w0:World){so fo mo:Option Addr}{sc fc mc:Nat}{ns:List cG}{fl:List cF}{m:List Int}(E:Sl w0 (c7 w0) so sc ns)(hf:Sl w0 (c7 w0) fo fc fl)(G:Sl w0 (c7 w0) mo mc m):
  Rt Tryz.prog 171 [Cl so sc fo fc ns.length fl.length,.slice mo m.length mc].toArray w0 fun v w'=>∃x,v=.tuple ⟨[x,Pq (jH (ns,fl) m)]⟩∧Own w' w0.heap.size 3 cZ x (if jH (ns,fl) m=0 then i7 (ns,fl) m else [])∧Ext w0 w':=by
 refine dE Tryz.func171 Tryz.ntmps171 rfl rfl ?_;have e:=Ext.refl w0;refine Pu ?_;refine dX rfl rfl rfl fun X c e1=>?_
 have e:=e.trans e1;refine Q0 ?_;refine WL.call rfl rfl rfl (ji X (E.up e) (hf.up e) (G.up e)) ?_;rintro _ D ⟨x,rfl,l,R⟩
 have c:=c.ext R;have e:=e.trans R;by_cases r:jH (ns,fl) m=0
 case neg=>
  have I:(jH (ns,fl) m != 0)=true:=by simpa using r
  refine Qm ?_;rw[I];refine Q3 ?_;refine bf rfl rfl rfl ⟨_,rfl,?_,e⟩;rw[OD r];exact Own.nil
 obtain⟨M,y,_,P⟩:=jI r;rw[OE r]at l
 rw[OE r,r];dsimp only at y
 obtain⟨xo,xc,rfl,J⟩:=l.oldN.sl;clear l;have z:∀k,k≤(F4 (ns,fl)).length→(i9 (ns,fl) m k).length≤60:=fun k hk=>by
  unfold i9;rw[Ln];have:=Lm (fun i=>m9 (ns,fl) m ((F4 (ns,fl)).getD i (0,0,0))) (List.range k);rw[Lq]at this
  omega
 have T:=e.size;refine QI ?_;refine CW.loop (S:=Nat×Value) (fun s=>[(1,.slice mo m.length mc),(2,Pr w0.heap.size),(8,s.2),(20,.slice xo (F4 (ns,fl)).length xc),(21,Pq (F4 (ns,fl)).length),(22,Pq s.1)])
  (fun s w=>s.1≤(F4 (ns,fl)).length∧Own w D.heap.size 3 cZ s.2 (i9 (ns,fl) m s.1)∧Ext D w) (fun s=>(F4 (ns,fl)).length -s.1) (0,.slice none 0 0) OZ ⟨M9 _,Own.nil,Ext.refl _⟩ ?_
 rintro⟨i,ov⟩ W ⟨hi,f,C⟩
 dsimp only at hi f C⊢
 have c:=c.ext C;have B:=e.trans C;refine Qm ?_;apply CW.cond rfl<;>intro h
 ·have d:i<(F4 (ns,fl)).length:=by simp at h;omega
  obtain⟨n,hn,t⟩:=stepsP_mem.1 (K8 d);have a:=i_ (p:=(ns,fl)) (m:=m) (k:=i);rw[F5 d]at a
  have Z:=z i hi;refine PP ?_;refine eC rfl rfl rfl rfl rfl (J.up C) d O_ (fun u q O=>?_);rw[O.step];have A:=fun w E hf G=>m_ w (so:=so) (fo:=fo) (mo:=mo) (sc:=sc) (fc:=fc) (mc:=mc) E hf G M y hn t
  clear O t;generalize (F4 (ns,fl))[i]=s at*
  unfold FN at A⊢
  skip;refine WL.alloc rfl rfl (fun w4 g Q=>?_);refine Ra ?_;refine WL.st rfl rfl rfl g rfl rfl Pk (fun N g L=>?_);have H:Ext W N:=Q.grown L Q.size Pb;have c:=c.ext H;have o:=B.trans H;have f:=f.extN H;refine Q0 ?_;refine WL.call rfl rfl rfl (A N (E.up o) (hf.up o) (G.up o)) ?_;rintro _ V ⟨rfl,j⟩
  have f:=f.extN j;have j:Ext D V:=(C.trans H).trans j;have z6:=j.size;refine PM ?_;apply CW.cond rfl<;>intro h
  ·rw[OE h]at a
   refine PQ ?_;refine dW (F:=cZ) (yv:=(i:Int)) rfl rfl O_ rfl rfl O_ f Pl j.size Pc O2 O5 O0 (fun Y U p ho7 K hnb=>?_);have e7:Ext D U:=j.grown K j.size (fun b hb=>(f.lt b hb).1);rw[←a]at ho7
   refine P6 ?_;exact EX.back (i+1,Y) OZ ⟨d,ho7,e7⟩ O4
  ·rw[OD (by simp[h]),Kd]at a
   refine Pz ?_;exact EX.back (i+1,ov) OZ ⟨d,by dsimp only;rw[a];exact f,j⟩ O4
 ·obtain rfl:i=(F4 (ns,fl)).length:=by simp at h;omega
  refine P3 ?_;exact bf rfl rfl rfl ⟨_,rfl,f.low T,B⟩
theorem mZ(w:World)(F:Nat→Prop):∀k:Nat,Elems w F (List.replicate k (Pq 0)) (List.replicate k (0:Int))
 |0=>Elems.nil
 |k+1=>by
  rw[L9,L9];exact(mZ w F k).append (Elems.one (CZ w F 0))
section
variable {P:Program}{Q:Exit→Act→World→Prop}{n:Nat}{σ:Sg}{w:World}{L rest:List Oper}{d:Nat}{ty:TypeId}{pos:String}{af:Array Edge}{g:Option (Nat×Bool)}{t e:TypeId}{bytes:Nat}
theorem fq{op:Op}{v:Value}{w':World}(f:gd L σ ⟨none,op,ty,pos,af,g⟩=some true)
  (c:∀a,Fr n σ a→(execOp a.eval ⟨none,op,ty,pos,af,g⟩).run P w=.ok (.value v) w') (h:WL P L Q rest n σ w'):WL P L Q (⟨none,op,ty,pos,af,g⟩::rest) n σ w:=by
 unfold WL at*
 intro a b
 refine OT fun K i=>?_
 rw[qD b f,OE rfl];unfold Oper.wp;rw[c a b];exact i _ _ (h _ (b.put (d:=none) (v:=v) rfl))
theorem DN{v:Value}{xs:List Int}{B:Nat}(w:World)[q:IsS P t e][E:IsT P e Int][x:IsZ P e (0:Int) bytes](j:Own w B e cZ v xs):
  ∃w',(Builtin.clear_ #[t] ty #[v]).run P w=.ok (.tuple #[]) w'∧Own w' B e cZ v (xs.map fun _=>(0:Int))∧w.grownBy w' v.ownBlock:=by
 rcases j with⟨rfl,rfl⟩|⟨b,off,cap,cur,rfl,c⟩
 ·refine⟨w,by simp[Builtin.clear_,OP q.ok],Own.nil,?_⟩
  exact⟨rfl,rfl,rfl,MF _,fun k _ _=>rfl⟩
 ·by_cases u:xs=[]
  ·subst u
   refine⟨w,by simp[Builtin.clear_,OP q.ok],.inr ⟨b,off,cap,cur,rfl,c⟩,?_⟩;exact⟨rfl,rfl,rfl,MF _,fun k _ _=>rfl⟩
  obtain⟨i,z,h1,h2,h3,h4⟩:=x.ok;have o:z.cells.toList=[Pq 0]:=h4 w cZ;have p:z.cells=#[Pq 0]:=by apply Jl;exact o
  have s:0<xs.length:=Lp.2 u;obtain⟨k,r⟩:∃k,xs.length=k+1:=⟨xs.length -1,by omega⟩;have f:sz Int=1:=rfl;have l:=c.fit;have A:=c.le;rw[f,MU]at l
  have a:=OO P b off e (List.replicate xs.length (Pq 0)) 0 cur w c.blk O6 (fun v y=>by rw[List.eq_of_mem_replicate y];rfl);simp only[Ms]at a
  have h:(Builtin.zeroCells z.cells xs.length).toList=List.replicate xs.length (Pq 0):=by
   rw[p];simp[Builtin.zeroCells];apply Ky
   ·simp
   ·intro i h1 h2
    simp[Nat.mod_one]
  refine⟨w.setRow b (cur.toList.take off++List.replicate xs.length (Pq 0)++cur.toList.drop (off+xs.length)).toArray,?_,.inr ⟨b,off,cap,(cur.toList.take off++List.replicate xs.length (Pq 0)++cur.toList.drop (off+xs.length)).toArray,by rw[Ln],⟨OQ w b cur _ e _ c.blk,c.ge,c.nF,by simpa using c.le,c.mx,?_,?_⟩⟩,⟨rfl,rfl,rfl,by simp,fun k _ r=>OR w b k _ (fun e=>r (by rw[e];rfl))⟩⟩
  ·rw[Lr]at a
   rw[r]at a h⊢
   have m:(zeroValue e).run P w=.ok z w:=by simp[zeroValue,typeInfo,h1,h2]
   simp only[Kc]at a
   simp[Builtin.clear_,OP q.ok,m,h,a]
  ·simp only[Mb,Lg,Lv,Li,Jx,Lr]
   rw[f];omega
  ·rw[Ln,f,MU,List.map_const']
   have D:((((cur.toList.take off++List.replicate xs.length (Pq 0)++cur.toList.drop (off+xs.length)).toArray.toList).drop off).take xs.length)=List.replicate xs.length (Pq 0):=by
    have C:(cur.toList.take off).length=off:=by rw[Lv,Jx];omega
    simp only[Kc];rw[Kp,C,M4,Kw,Kt O0,LX,List.take_append];simp
   rw[D];exact mZ _ _ _
theorem d_{x:Operand}{v:Value}{xs:List Int}{B:Nat}(k:gd L σ ⟨none,.call ⟨.builtin .clear,#[x],#[t]⟩,ty,pos,af,g⟩=some true)
  (f:ev σ x=some v) [p:IsS P t e] [o:IsT P e Int] [m:IsZ P e (0:Int) bytes] (b:Own w B e cZ v xs)
  (h:∀w',Own w' B e cZ v (xs.map fun _=>(0:Int))→w.grownBy w' v.ownBlock→WL P L Q rest n σ w'):
  WL P L Q (⟨none,.call ⟨.builtin .clear,#[x],#[t]⟩,ty,pos,af,g⟩::rest) n σ w:=by
 obtain⟨w',i,j,c⟩:=DN (P:=P) (t:=t) (ty:=ty) w b;refine fq (v:=.tuple #[]) k (fun a l=>?_) (h w' j c);simp[execOp,resolve,invoke,builtin,l.ev f,i]
end
theorem iu{a:Int}{k:Nat}(c:0≤a)(h1:a<4611686018427387904):bits BinOp.and IntKind.i64 (a / 2 ^ k) 1=ir a k:=by
 have h:(1:Int)≤2 ^ k:=B9 k;have b:0≤a / 2 ^ k:=Int.ediv_nonneg c O0;have f:a / 2 ^ k≤a:=Int.ediv_le_self _ c;obtain⟨q,hq⟩:=J2 b;have:=Go.Proofs.and_one q O0;unfold ir;rw[hq,this];omega
theorem GI{s:cK}{o:List Int}{f:Nat}(hf:f<o.length)(h:¬(s.2.1=(f:Int)∨s.2.1<0∧o[f]>0)):o.set f (GE o s (f:Int))=o:=by
 unfold GE;rw[J7,qY hf,OD h,Ma]
def GV(b:Nat)(o:List Int):Prop:=∀k (h:k<o.length),-(b:Int)≤o[k]∧o[k]≤9
theorem GX{b a:Nat}{o:List Int}{k:Nat}{v:Int}(h:GV b o)(i:b≤a)(f: -(a:Int)≤v)(h1:v≤9):GV a (o.set k v):=fun j c=>by
 rw[Lt]at c
 rw[La];split
 ·exact⟨f,h1⟩
 ·have:=h j c;omega
theorem pz(w0:World){so fo mo:Option Addr}{sc fc mc:Nat}{ns:List cG}{fl:List cF}{m:List Int}(hs:Sl w0 (c7 w0) so sc ns)(hf:Sl w0 (c7 w0) fo fc fl)(hm:Sl w0 (c7 w0) mo mc m)(hc0:jM (ns,fl)=0)(hml:m.length=fl.length)(hmt:GV 0 m){s:cK}{n:Nat}(hn:n<ns.length)(W:s∈F7 (ns,fl) n):
  Rt Tryz.prog 220 [Cl so sc fo fc ns.length fl.length,.slice mo m.length mc,FN s].toArray w0 fun v w'=>∃x,v=.tuple ⟨[x,Pq (if(pn (ns,fl) m s).isSome then 0 else 7)]⟩∧Own w' w0.heap.size 3 cZ x ((pn (ns,fl) m s).getD [])∧Ext w0 w':=by
 have hok:=jN hc0;have hf30:=hok.f;dsimp only at hf30
 have q1:=F2 _ W;have q2:=F0 _ W;have q3:=F3 _ W;have X:xK (ns,fl) (n:Int)=0:=xL hc0 hn;have hol:(A0 fl (n:Int)).length≤fl.length:=A3;have hil:(vK fl (n:Int)).length≤fl.length:=vN;clear W;obtain⟨s1,O,s3⟩:=s;dsimp only at q1 q2 q3
 subst q1;have hp30:=B7 (show(A0 fl (n:Int)).length≤30 by omega);have hp31:(2:Int) ^ 30=1073741824:=by decide
 have hs30:s3<4611686018427387904:=by omega
 unfold FN pn;dsimp only;rw[J7,wT hn];refine dF Tryz.func220 Tryz.ntmps220 rfl rfl ?_;have E:=Ext.refl w0;refine Pu ?_;refine dX rfl rfl rfl fun w1 z e1=>?_
 have E:=E.trans e1;skip;refine dX rfl rfl rfl fun U A e2=>?_
 have z:=z.ext e2;have E:=E.trans e2;refine Qm ?_;have hd3:=z;have hd5:=A;refine WL.call rfl rfl rfl (kp U (hm.up E) O0) ?_;rintro ov w3 ⟨c,e3⟩
 have z:=z.ext e3;have A:=A.ext e3;have z2:=E.size;have E:=E.trans e3;obtain⟨nb,off,rfl,hnb,hnc⟩:=(hs.at E).nodeK hn;refine QM ?_;refine eH (α:=cG) rfl rfl rfl rfl O0 O0 ?_;refine Rg ?_;refine WL.load (α:=Int) (F:=cZ) (y:=ns[n].2) rfl rfl rfl (by rw[J7];exact hnc) rfl ?_;rw[show Il Int [Pq ns[n].2]=Pq ns[n].2 from rfl];refine PE ?_;apply CW.cond rfl<;>intro h
 ·have h:ns[n].2=3:=by simpa using h
  rw[OE h];refine PO ?_;refine d_ rfl rfl c (fun w4 ho4 hg4=>?_);have T:Ext U w4:=e3.grown hg4 e3.size (fun b hb=>(c.lt b hb).1);refine QJ ?_;exact bf rfl rfl rfl ⟨_,rfl,ho4.low z2,Ext.trans (Ext.trans e1 e2) T⟩
 have h:¬ns[n].2=3:=by simpa using h
 rw[OD h];have e12:=Ext.trans e1 e2;clear hnc hnb e1;refine Qq ?_;have hc3:=z;have hc5:=A;have hgo:∀g,ov.ownBlock=some g→g<w3.heap.size:=fun g hg=>(c.lt g hg).2.1
 refine WL.call rfl rfl rfl (cB w3 (hs.up E) (hf.up E) (n:Int)) ?_;rintro _ w4 ⟨x,rfl,p,T⟩
 rw[X,OE rfl]at p
 have z:=z.ext T;have A:=A.ext T;have z34:=T.size;have E:=E.trans T;have c:=c.extN T;have T:=e3.trans T;obtain⟨xo,xc,rfl,_⟩:=p.oldN.sl;have hins:=fun x (hx:x∈vK fl (n:Int))=>insP_mem.1 hx
 rw[X];generalize hinsL:vK fl (n:Int)=ins at*
 obtain⟨s,H⟩:∃s:cK,s=((n:Int),O,s3):=⟨_,rfl⟩;have hs21:s.2.1=O:=by rw[H]
 rw[←H];have hTk:Gw s m (ins.drop 0)=Gw s m ins:=by rw[Kw]
 refine QZ ?_;refine CW.loop (S:=Nat×List Int) (fun t=>[(3,Pr w0.heap.size),(5,Pr w1.heap.size),(8,ov),(36,.slice xo ins.length xc),(37,Pq ins.length),(38,Pq t.1)])
  (fun t w=>t.1≤ins.length∧t.2.length=m.length∧GV t.1 t.2∧Gw s t.2 (ins.drop t.1)=Gw s m ins∧Own w U.heap.size 3 cZ ov t.2∧Own w w3.heap.size 3 cZ (.slice xo ins.length xc) ins∧Ext U w∧w3.heap.size≤w.heap.size) (fun t=>ins.length -t.1)
  (0,m) OZ ⟨M9 _,rfl,hmt,hTk,c,p,T,z34⟩ ?_
 rintro⟨i,o⟩ w5 ⟨hi,r,l,hT,c,p,N,z5⟩
 dsimp only at hi r l hT c N⊢
 have hE5:=Ext.trans e12 N;have z:=hd3.ext N;have A:=hd5.ext N;obtain⟨_,_,exo,hxs⟩:=p.oldN.sl;obtain⟨rfl,_,rfl⟩:=Oc exo;refine Qm ?_;apply CW.cond rfl<;>intro h
 ·have C:i<ins.length:=by simp at h;omega
  obtain⟨f,ef,hlt,_⟩:=hins _ (K8 C);have a:f<o.length:=by omega
  have hbd:=l f a;rw[Ks C,Gw,ef,J7]at hT
  have hno:¬(O=(f:Int)∨O<0∧o[f]>0)→Gw s o (ins.drop (i+1))=Gw s m ins:=fun h=>by
   rw[←hT,GI a (by rw[hs21];exact h)]
  have Y:(O=(f:Int)∨O<0∧o[f]>0)→Gw s (o.set f (o[f] -1)) (ins.drop (i+1))=Gw s m ins:=fun h=>by
   rw[←hT];unfold GE;rw[J7,qY a,hs21,OE h]
  have Z:GV (i+1) o:=fun j hj=>by have:=l j hj;omega
  refine Q6 ?_;refine eB rfl rfl rfl rfl rfl hxs C ef O_ (fun q=>?_);refine QM ?_;by_cases h1:O=(f:Int)
  ·rw[show(O==(f:Int))=true by simpa using h1]
   refine Q3 ?_;refine eE rfl rfl rfl rfl rfl c a O_ (fun u q V=>?_);obtain rfl:=V.int;refine Rm ?_;refine ft (u:=Pq (o[f] -1)) (yv:=o[f] -1) rfl rfl rfl rfl c a O_ O_ Pl (fun w6 q ho6 D=>?_);have M:Ext U w6:=N.grown D N.size (fun b hb=>(c.lt b hb).1);have I:=p.keptN D (fun g hg e=>by have:=(p.lt g hg).1;have:=hgo g e.symm;omega);refine P6 ?_;exact EX.back (i+1,o.set f (o[f] -1)) OZ ⟨C,by simpa using r,GX l O0 O0 O0,Y (.inl h1),ho6,I,M,MH z5 D.size⟩ O4
  ·rw[show(O==(f:Int))=false by simpa using h1]
   by_cases h2:O<0
   ·refine Rl ?_
    rw[Ov h2];refine Ra ?_;refine eE rfl rfl rfl rfl rfl c a O_ (fun u q V=>?_);obtain rfl:=V.int;refine PE ?_;apply CW.cond rfl<;>intro h3
    ·have h3:o[f]>0:=by simpa using h3
     refine PQ ?_;refine eE rfl rfl rfl rfl rfl c a O_ (fun u q V=>?_);obtain rfl:=V.int;refine Rm ?_;refine ft (u:=Pq (o[f] -1)) (yv:=o[f] -1) rfl rfl rfl rfl c a O_ O_ Pl (fun w6 q ho6 D=>?_);have M:Ext U w6:=N.grown D N.size (fun b hb=>(c.lt b hb).1);have I:=p.keptN D (fun g hg e=>by have:=(p.lt g hg).1;have:=hgo g e.symm;omega);refine P6 ?_;exact EX.back (i+1,o.set f (o[f] -1)) OZ ⟨C,by simpa using r,GX l O0 O0 O0,Y (.inr ⟨h2,h3⟩),ho6,I,M,MH z5 D.size⟩ O4
    ·have h3:¬o[f]>0:=by simpa using h3
     refine Pz ?_;exact EX.back (i+1,o) OZ ⟨C,r,Z,hno (fun h=>h.elim h1 (fun h=>h3 h.2)),c,p,N,z5⟩ O4
   ·refine Rl ?_
    rw[Ot h2];refine Qr ?_;exact EX.back (i+1,o) OZ ⟨C,r,Z,hno (fun h=>h.elim h1 (fun h=>h2 h.1)),c,p,N,z5⟩ O4
 obtain rfl:i=ins.length:=by simp at h;omega
 rw[Ku,Gw]at hT
 rw[←hT];clear hT exo hxs p;refine QP ?_;refine WL.call rfl rfl rfl (c8 w5 (hs.up hE5) (hf.up hE5) (n:Int)) ?_;rintro _ w6 ⟨x,rfl,B,M⟩
 rw[X,OE rfl]at B
 rw[X];have c:=c.extN M;have M:=N.trans M;obtain⟨yo,yc,rfl,_⟩:=B.oldN.sl;have houts:=fun x (hx:x∈A0 fl (n:Int))=>outsP_mem.1 hx
 generalize A0 fl (n:Int)=outs at*
 have z:=hd3.ext M;have A:=hd5.ext M;generalize hR:Cv s3 0 o outs=R;have hRk:Cv s3 0 o (outs.drop 0)=R:=by rw[Kw];exact hR
 have G:GV 30 o:=fun j hj=>by have:=l j hj;omega
 refine QZ ?_;refine CW.loop (S:=Nat×List Int) (fun t=>[(5,Pr w1.heap.size),(8,ov),(72,.slice yo outs.length yc),(73,Pq outs.length),(74,Pq t.1)])
  (fun t w=>t.1≤outs.length∧t.2.length=m.length∧GV 30 t.2∧Cv s3 t.1 t.2 (outs.drop t.1)=R∧Own w U.heap.size 3 cZ ov t.2∧Own w w5.heap.size 3 cZ (.slice yo outs.length yc) outs∧Ext U w) (fun t=>outs.length -t.1)
  (0,o) OZ ⟨M9 _,r,G,hRk,c,B,M⟩ ?_
 clear hR hRk G c B M l r A z hE5;rintro⟨k,o2⟩ w7 ⟨hk,J,l,hR,c,B,e7⟩
 dsimp only at hk J l hR c e7⊢
 have hE7:=Ext.trans e12 e7;have A:=hd5.ext e7;obtain⟨_,_,eyo,hys⟩:=B.oldN.sl;obtain⟨rfl,_,rfl⟩:=Oc eyo;refine Qm ?_;apply CW.cond rfl<;>intro h
 ·have K:k<outs.length:=by simp at h;omega
  obtain⟨f,ef,hlt,_⟩:=houts _ (K8 K);have a:f<o2.length:=by omega
  have hbd:=l f a;have hbit:=iu (k:=k) q3.1 hs30;rw[Ks K,Cv,ef,J7,qY a]at hR
  refine PP ?_;refine eB rfl rfl rfl rfl rfl hys K ef O_ (fun q=>?_);refine QM ?_;refine fw (s:=k) rfl rfl rfl rfl O0 ?_;refine PE ?_;rw[hbit];apply CW.cond rfl<;>intro h1
  ·have h1:ir s3 k=1:=by simpa using h1
   rw[OE h1]at hR
   refine PO ?_;refine eE rfl rfl rfl rfl rfl c a O_ (fun u q V=>?_);obtain rfl:=V.int;refine Rn ?_;refine ft (u:=Pq (o2[f]+1)) (yv:=o2[f]+1) rfl rfl rfl rfl c a O_ O_ Pl (fun w8 q ho8 hg8=>?_);have e8:Ext U w8:=e7.grown hg8 e7.size (fun b hb=>(c.lt b hb).1);have hoy8:=B.keptN hg8 (fun g hg e=>by have:=(B.lt g hg).1;have:=hgo g e.symm;omega);have hE8:=Ext.trans e12 e8;have hfo8:f<(o2.set f (o2[f]+1)).length:=by simpa using a
   refine Qm ?_;refine eE rfl rfl rfl rfl rfl ho8 hfo8 O_ (fun u q V=>?_);obtain rfl:=V.int;rw[Lb];refine PE ?_;apply CW.cond rfl<;>intro h2
   ·have h2:o2[f]+1>9:=by simpa using h2
    rw[OE h2]at hR
    subst hR;refine Pt ?_;exact bf rfl rfl rfl ⟨_,rfl,Own.nil,hE8⟩
   ·have h2:¬o2[f]+1>9:=by simpa using h2
    rw[OD h2]at hR
    refine Pz ?_;exact EX.back (k+1,o2.set f (o2[f]+1)) OZ ⟨K,by simpa using J,GX l O0 O0 O0,hR,ho8,hoy8,e8⟩ O4
  ·have h1:¬ir s3 k=1:=by simpa using h1
   rw[OD h1]at hR
   refine Pz ?_;exact EX.back (k+1,o2) OZ ⟨K,J,l,hR,c,B,e7⟩ O4
 ·obtain rfl:k=outs.length:=by simp at h;omega
  rw[Ku,Cv]at hR
  subst hR;refine P3 ?_;exact bf rfl rfl rfl ⟨_,rfl,c.low z2,hE7⟩
theorem GW{m:List Int}(h:m.any GU=false):GV 0 m:=fun k a=>by
 have:=Ka.1 h _ (K8 a);unfold GU at this
 simp at this
 omega
theorem bL(w0:World){so fo mo:Option Addr}{sc fc mc:Nat}{ns:List cG}{fl:List cF}{m:List Int}(l:Sl w0 (c7 w0) so sc ns)(hf:Sl w0 (c7 w0) fo fc fl)(p:Sl w0 (c7 w0) mo mc m)(k:Int):
  Rt Tryz.prog 172 [Cl so sc fo fc ns.length fl.length,.slice mo m.length mc,Pq k].toArray w0 fun v w'=>∃x,v=.tuple ⟨[x,Pq (pi (ns,fl) m k).2]⟩∧Own w' w0.heap.size 3 cZ x (pi (ns,fl) m k).1∧Ext w0 w':=by
 refine dF Tryz.func172 Tryz.ntmps172 rfl rfl ?_;have a:=Ext.refl w0;refine Pu ?_;refine dX rfl rfl rfl fun Q f S=>?_
 have a:=a.trans S;refine Q0 ?_;refine WL.call rfl rfl rfl (ji Q (l.up a) (hf.up a) (p.up a)) ?_;rintro _ T ⟨x,rfl,c,O⟩
 have f:=f.ext O;have a:=a.trans O;unfold pi;by_cases r:jH (ns,fl) m=0
 case neg=>
  have F:(jH (ns,fl) m != 0)=true:=by simpa using r
  rw[OE r];refine Qc ?_;rw[F];refine QF ?_;exact bf rfl rfl rfl ⟨_,rfl,Own.nil,a⟩
 obtain⟨C,o,t,N⟩:=jI r;have H:=GW t;rw[OE r]at c
 rw[OD (by simp[r]),r];dsimp only at o
 obtain⟨xo,xc,rfl,d⟩:=c.oldN.sl;clear c;refine QI ?_;by_cases z:k<0∨k≥(F4 (ns,fl)).length
 ·rw[OE z]
  by_cases K:k<0
  ·rw[Ov K]
   refine PD ?_;exact bf rfl rfl rfl ⟨_,rfl,Own.nil,a⟩
  ·rw[Ot K]
   refine Q1 ?_;rw[Ov (show k≥((F4 (ns,fl)).length:Int) from z.resolve_left K)];refine QF ?_;exact bf rfl rfl rfl ⟨_,rfl,Own.nil,a⟩
 rw[OD z];have J:¬k<0:=fun h=>z (.inl h)
 have I:¬k≥((F4 (ns,fl)).length:Int):=fun h=>z (.inr h)
 rw[Ot J];refine Q1 ?_;rw[Ot I];obtain⟨i,rfl⟩:=J2 (show 0≤k by omega);have e:i<(F4 (ns,fl)).length:=by omega
 obtain⟨n,hn,y⟩:=stepsP_mem.1 (K8 e);rw[J7,F5 e];have B:=fun w l hf p=>m_ w (so:=so) (fo:=fo) (mo:=mo) (sc:=sc) (fc:=fc) (mc:=mc) l hf p C o hn y
 have A:=fun w l hf p=>pz w (so:=so) (fo:=fo) (mo:=mo) (sc:=sc) (fc:=fc) (mc:=mc) l hf p C o H hn y
 obtain⟨s,b⟩:∃s,s=(F4 (ns,fl))[i]:=⟨_,rfl⟩;rw[←b]at B A⊢
 refine Q9 ?_;refine dk rfl rfl rfl rfl rfl Pe d e O_ (fun u q E=>?_);rw[E.step,←b];refine QL.call rfl rfl rfl (fun w G=>B w (l.up (a.trans G)) (hf.up (a.trans G)) (p.up (a.trans G))) ?_;refine Rf ?_;refine QL.nil (fun j M=>?_);have f:=f.ext M;have a:=a.trans M;have d:=d.up M;clear E;refine Pv ?_;apply CW.cond rfl<;>intro h
 ·have h:m9 (ns,fl) m s=false:=by simpa using h
  rw[OE h];refine Pt ?_;exact bf rfl rfl rfl ⟨_,rfl,Own.nil,a⟩
 have h:¬m9 (ns,fl) m s=false:=by simpa using h
 rw[OD h];have hd:=Ext.drew j;have L:∀x,(fun x=>Ext j x) x→Ext j x:=fun _ h=>h
 have g:=a.trans hd;refine Qk ?_;refine aF (fun x=>Ext j x) [(0,true),(1,true),(2,true),(3,true),(4,true),(5,true),(6,false),(7,true),(8,true),(9,true),(10,true)] mixed O1 (Ext.drew j) ?_;refine RG ?_;refine bZ (α:=cK) (k:=i) L rfl rfl rfl rfl rfl rfl rfl Pe d e O_ (fun u q E=>?_);rw[E.step,←b];skip;refine cr rfl (WL.call rfl rfl rfl (A (drew j) (l.up g) (hf.up g) (p.up g)) ?_);rintro _ P ⟨x,rfl,c,R⟩
 have D:Ext j P:=hd.trans R;refine WL.nil (a_ D ?_);refine RJ ?_;refine PJ ?_;exact bf rfl rfl rfl ⟨_,rfl,c.low g.size,a.trans D⟩

section
variable {w w':World}{B:Nat}{mv lv:Value}{vs:List Raw}{xs:List (List Int)}{ks:List Int}
end
theorem i5{p:cI}{m:List Int}:(i4 p m).length≤60:=by
 unfold i4;split
 ·rename_i h
  obtain⟨_,_,_,a⟩:=jI h;unfold i7 i9;rw[Ln];have:=Lm (fun i=>m9 p m ((F4 p).getD i (0,0,0))) (List.range (F4 p).length);rw[Lq]at this
  omega
 ·simp
theorem qZ{l:List Int}{i j:Nat}{v:Int}(h:i<l.length):(l.set i v).getD j 0=if i=j then v else l.getD j 0:=by
 simp only[KN,KZ];split
 ·subst_vars;simp[h]
 ·rfl
def vv(N:Nat)(l:List Int):Prop:=∀x∈l,0≤x∧x<N
theorem vw{fl:List cF}{n:Int}:vv fl.length (vK fl n):=fun x a=>by
 obtain⟨j,rfl,h,_⟩:=insP_mem.1 a;omega
theorem vx{fl:List cF}{n:Int}:vv fl.length (A0 fl n):=fun x a=>by
 obtain⟨j,rfl,h,_⟩:=outsP_mem.1 a;omega
theorem A1{fl:List cF}{n:Int}:(A0 fl n).Nodup:=by
 unfold A0 A2;rw[List.Nodup,L5];exact(L0.filter _).imp fun a e=>a O0
section
variable {s:cK}
theorem Gy:∀(l:List Int) (m:List Int),(Gw s m l).length=m.length
 |[],m=>rfl
 |f::r,m=>by rw[Gw,Gy r,Lt]
theorem GG{m a:List Int}{f:Int}(h:m.getD f.toNat 0=a.getD f.toNat 0):GE m s f=GE a s f:=by unfold GE;rw[h]
theorem Gx:∀(l:List Int) (m:List Int),vv m.length l→l.Nodup→∀j:Nat,(Gw s m l).getD j 0=if(j:Int)∈l then GE m s (j:Int)else m.getD j 0
 |[],m,_,_,j=>by simp[Gw]
 |f::r,m,b,hd,j=>by
  rw[LZ]at hd
  have hf:=b f O3;have c:=Gx r (m.set f.toNat (GE m s f)) (fun x d=>by rw[Lt];exact b x (by simp[d])) hd.2 j;rw[Gw,c,qZ O0];by_cases e:f.toNat=j
  ·have ej:(j:Int)=f:=by omega
   rw[OE e,ej,OD hd.1,OE O3]
  ·have ej:¬(j:Int)=f:=by omega
   rw[OD e];by_cases a:(j:Int)∈r
   ·rw[OE a,OE (by simp[a])]
    exact GG (by rw[J7,qZ O0,OD e])
   ·rw[OD a,OD (by simp[a,ej])]
end
theorem Cx{n:Int}:∀(l:List Int) (k:Nat) (m a:List Int),Cv n k m l=some a→a.length=m.length
 |[],k,m,a,h=>by rw[Cv]at h;injection h with h;rw[h]
 |f::r,k,m,a,h=>by
  rw[Cv]at h
  split at h
  ·split at h
   ·cases h
   ·rw[Cx r _ _ _ h,Lt]
  ·exact Cx r _ _ _ h
def im(n:Int):Nat→List Int→Int→Int
 |_,[],_=>0
 |k,f::r,j=>if f=j then ir n k else im n (k+1) r j
theorem iq{n:Int}:∀(l:List Int) (k:Nat) (j:Int),j∉l→im n k l j=0
 |[],k,j,_=>rfl
 |f::r,k,j,h=>by
  rw[im,OD (fun e=>h (by simp[e])),iq r _ j (fun a=>h (by simp[a]))]
theorem it(n:Int)(k:Nat):ir n k=0∨ir n k=1:=by unfold ir;omega
theorem Cw{n:Int}:∀(l:List Int) (k:Nat) (m:List Int),vv m.length l→l.Nodup→
  ((∀x∈l,m.getD x.toNat 0+im n k l x≤9∨im n k l x=0)→∃d,Cv n k m l=some d∧∀j:Nat,d.getD j 0=m.getD j 0+im n k l (j:Int))∧
  (∀d,Cv n k m l=some d→∀x∈l,m.getD x.toNat 0+im n k l x≤9∨im n k l x=0)
 |[],k,m,_,_=>⟨fun _=>⟨m,rfl,fun j=>by simp[im]⟩,fun _ _ x a=>by cases a⟩
 |f::r,k,m,u,hd=>by
  rw[LZ]at hd
  have hf:=u f O3;have o:vv m.length r:=fun x a=>u x (by simp[a])
  have i:im n k (f::r) f=ir n k:=by rw[im,OE rfl]
  have c:∀x,x≠f→im n k (f::r) x=im n (k+1) r x:=fun x h=>by rw[im,OD (fun e=>h e.symm)]
  have b:∀x∈r,x≠f:=fun x a e=>hd.1 (e▸a)
  rcases it n k with p|p
  ·have q:=Cw (n:=n) r (k+1) m o hd.2
   have t:Cv n k m (f::r)=Cv n (k+1) m r:=by rw[Cv,OD O0]
   rw[t];refine⟨fun h=>?_,fun d h x a=>?_⟩
   ·obtain⟨d,h1,h2⟩:=q.1 (fun x a=>by have:=h x (by simp[a]);rwa[c x (b x a)]at this)
    refine⟨d,h1,fun j=>?_⟩;rw[h2 j];by_cases e:(j:Int)=f
    ·rw[e,i,p,iq r _ f hd.1]
    ·rw[c _ e]
   ·rcases LI.1 a with rfl|a
    ·right;rw[i,p]
    ·rw[c x (b x a)];exact q.2 d h x a
  ·have g:∀x:Int,0≤x→x≠f→(m.set f.toNat (m.getD f.toNat 0+1)).getD x.toNat 0=m.getD x.toNat 0:=fun x w h=>by
    rw[qZ O0,OD O0]
   have q:=Cw (n:=n) r (k+1) (m.set f.toNat (m.getD f.toNat 0+1)) (fun x a=>by rw[Lt];exact o x a) hd.2;have t:Cv n k m (f::r)=if m.getD f.toNat 0+1>9 then none else Cv n (k+1) (m.set f.toNat (m.getD f.toNat 0+1)) r:=by rw[Cv,OE p]
   rw[t];refine⟨fun h=>?_,fun d h x a=>?_⟩
   ·have v:¬m.getD f.toNat 0+1>9:=by
     have:=h f O3;rw[i,p]at this
     omega
    rw[OD v];obtain⟨d,h1,h2⟩:=q.1 (fun x a=>by
     have:=h x (by simp[a]);rw[c x (b x a)]at this
     rwa[g x (o x a).1 (b x a)])
    refine⟨d,h1,fun j=>?_⟩;rw[h2 j];by_cases e:(j:Int)=f
    ·rw[qZ O0,OE O0,e,i,p,iq r _ f hd.1]
     have:f.toNat=j:=by omega
     rw[this];omega
    ·have:=g (j:Int) O0 e
     rw[J7]at this
     rw[c _ e,this]
   ·split at h
    ·cases h
    ·rename_i v
     rcases LI.1 a with rfl|a
     ·left;rw[i,p];omega
     ·rw[c x (b x a)]
      have:=q.2 d h x a;rwa[g x (o x a).1 (b x a)]at this
def cU(p:cI)(m:List Int):Prop:=m.length=p.2.length∧∀j:Nat,0≤m.getD j 0∧m.getD j 0≤9
theorem yD{p:cI}{m:List Int}(b:(FX p).2=0)(h:cU p m):jH p m=0:=by
 unfold jH;rw[OD (by simp[b]),OD];rintro(e|e)
 ·exact e h.1
 ·obtain⟨x,c,a⟩:=Kb.1 e
  obtain⟨j,d,rfl⟩:=LO.1 c;have:=h.2 j;rw[qY d]at this
  unfold GU at a
  simp at a
  omega
theorem jX{p:cI}{m:List Int}(h:jH p m=0):cU p m:=by
 obtain⟨_,h1,h2,_⟩:=jI h;have h3:=GW h2;refine⟨h1,fun j=>?_⟩;by_cases a:j<m.length
 ·rw[qY a];have:=h3 j a;omega
 ·rw[KN,KU O0]
  exact⟨J3 _,by decide⟩
theorem ia{p:cI}:cU p (h_ p):=by
 refine⟨by simp[h_],fun j=>?_⟩;by_cases a:j<(h_ p).length
 ·rw[qY a]
  have e:(h_ p)[j]=if wS p (p.2[j]'(by simpa[h_]using a)).1.toNat=1 then 1 else 0:=by simp[h_]
  rw[e];split<;>omega
 ·rw[KN,KU O0]
  exact⟨J3 _,by decide⟩
def dP(p:cI)(m:List Int)(k:Int)(a:List Int):Prop:=
 0≤k∧k<(F4 p).length∧m9 p m ((F4 p).getD k.toNat (0,0,0))=true∧pn p m ((F4 p).getD k.toNat (0,0,0))=some a
theorem pm{p:cI}{m:List Int}{k:Int}(h:(pi p m k).2=0):jH p m=0∧dP p m k (pi p m k).1:=by
 unfold pi at h⊢
 split at h
 ·rename_i h1;exact absurd h h1
 ·rename_i h1
  split at h
  ·cases h
  ·rename_i h2
   split at h
   ·cases h
   ·rename_i h3
    rw[OD h1,OD h2,OD h3];refine⟨by simpa using h1,by omega,by omega,by simpa using h3,?_⟩;dsimp only at h⊢
    cases e:pn p m ((F4 p).getD k.toNat (0,0,0))with
    |none=>rw[e]at h;cases h
    |some r=>rfl
theorem GH{m:List Int}{s:cK}{f:Int}(c:0≤m.getD f.toNat 0)(b:m.getD f.toNat 0≤9)(a:s.2.1=f→m.getD f.toNat 0>0):0≤GE m s f∧GE m s f≤9:=by
 unfold GE;split
 ·rename_i h
  rcases h with h|h
  ·have:=a h;omega
  ·omega
 ·exact⟨c,b⟩
theorem ip{n:Int}:∀(l:List Int) (k:Nat) (j:Int),0≤im n k l j∧im n k l j≤1
 |[],k,j=>⟨J3 _,(by decide:(0:Int)≤1)⟩
 |f::r,k,j=>by
  rw[im];split
  ·have:=it n k;omega
  ·exact ip r _ j
theorem py{p:cI}{m g:List Int}{s:cK}(c:cU p m)(b:m9 p m s=true)(h:pn p m s=some g):cU p g:=by
 unfold pn at h
 split at h
 ·injection h with h
  subst h;refine⟨by simpa using c.1,fun j=>?_⟩;by_cases d:j<m.length
  ·rw[qY (by simpa using d),K7];omega
  ·rw[KN,KU (by simpa using d)]
   exact⟨J3 _,by decide⟩
 ·have k:vv m.length (vK p.2 s.1):=by rw[c.1];exact vw
  have q:=Gx (s:=s) (vK p.2 s.1) m k vL;have f:(Gw s m (vK p.2 s.1)).length=m.length:=Gy _ _;have i:vv (Gw s m (vK p.2 s.1)).length (A0 p.2 s.1):=by rw[f,c.1];exact vx
  have hP:=Cw (n:=s.2.2) (A0 p.2 s.1) 0 _ i A1;have l:=hP.2 g h;obtain⟨t,h1,h2⟩:=hP.1 l;rw[h]at h1
  injection h1 with h1
  subst h1;have r:∀j:Nat,0≤(Gw s m (vK p.2 s.1)).getD j 0∧(Gw s m (vK p.2 s.1)).getD j 0≤9:=fun j=>by
   rw[q j];have a:=c.2 j;split
   ·refine GH (by rw[J7];exact a.1) (by rw[J7];exact a.2) (fun e=>?_)
    unfold m9 at b
    rw[OE O0,e]at b
    simpa using b
   ·exact a
  refine⟨by rw[Cx _ _ _ _ h,f];exact c.1,fun j=>?_⟩;rw[h2 j];have h3:=r j;have h4:=ip (n:=s.2.2) (A0 p.2 s.1) 0 (j:Int);by_cases d:(j:Int)∈A0 p.2 s.1
  ·have o:=l _ d
   rw[J7]at o
   omega
  ·have o:=iq (n:=s.2.2) (A0 p.2 s.1) 0 (j:Int) d
   omega


abbrev cE:=Int×Int
abbrev Sr:=List (List Int)×List (Int×Int)×(Int×Int)
def G3(tok:Int)(m:List Int):Bool:=m.any fun n=>decide (n>tok)
def BZ(m:List Int):List (List Int)→Nat
 |[]=>0
 |x::r=>if x=m then 0 else BZ m r+1
def Cy(tok st:Int)(s:Sr)(m:List Int)(fr:Int×Int):Sr×Int×Int:=
 if G3 tok m=true then((s.1,s.2.1,fr),0,7)
 else if m∈s.1 then((s.1,s.2.1,fr),(BZ m s.1:Int),0)
 else if(s.1.length:Int)=st then((s.1,s.2.1,fr),0,8)
 else((s.1++[m],s.2.1++[fr],fr),(s.1.length:Int),0)
noncomputable def mJ(p:cI)(tok st n:Int)(m:List Int):List Int→Sr→List cE→Sr×List cE×Int
 |[],s,out=>(s,out,0)
 |k::r,s,out=>
  if(pi p m k).2≠0 then((s.1,s.2.1,(n,k)),[],(pi p m k).2)
  else if(Cy tok st s (pi p m k).1 (n,k)).2.2≠0 then((Cy tok st s (pi p m k).1 (n,k)).1,[],(Cy tok st s (pi p m k).1 (n,k)).2.2)
  else mJ p tok st n m r (Cy tok st s (pi p m k).1 (n,k)).1 (out++[(k,(Cy tok st s (pi p m k).1 (n,k)).2.1)])
noncomputable def mH(p:cI)(tok st:Int)(n:Nat)(s:Sr):Sr×List cE×Int:=mJ p tok st (n:Int) (s.1.getD n []) (i4 p (s.1.getD n [])) s []
noncomputable def DF(p:cI)(tok st:Int):Nat→Nat→Sr→List (List cE)→Sr×List (List cE)×Int
 |0,n,s,nx=>(s,nx,0)
 |f+1,n,s,nx=>
  if n<s.1.length then
   (if(mH p tok st n s).2.2≠0 then((mH p tok st n s).1,nx,(mH p tok st n s).2.2)else DF p tok st f (n+1) (mH p tok st n s).1 (nx++[(mH p tok st n s).2.1]))
  else(s,nx,0)
def Dy(tok st:Int):Int:=if tok<1∨tok>9∨st<1∨st>200 then 1 else 0
noncomputable def runB(p:cI)(tok st:Int):Sr×List (List cE)×Int:=
 if(Cy tok st ([],[],(0,0)) (h_ p) (-1,-1)).2.2≠0 then((Cy tok st ([],[],(0,0)) (h_ p) (-1,-1)).1,[],(Cy tok st ([],[],(0,0)) (h_ p) (-1,-1)).2.2)
 else DF p tok st 201 0 (Cy tok st ([],[],(0,0)) (h_ p) (-1,-1)).1 []
noncomputable def DI(p:cI)(tok st:Int):Int:=if(FX p).2≠0 then(FX p).2 else Dy tok st
noncomputable def nZ(p:cI)(tok st:Int):(List (List Int)×List (List cE))×Int:=
 if DI p tok st≠0 then(([],[]),DI p tok st)
 else if(runB p tok st).2.2≠0 then(([],[]),(runB p tok st).2.2)else(((runB p tok st).1.1,(runB p tok st).2.1),0)
def wE(m:List Int):List Int:=(List.range 30).map fun i=>m.getD i 0
theorem wG(m:List Int):(wE m).length=30:=by simp[wE]
theorem wF{a b:List Int}(d:a.length≤30)(h:a.length=b.length)(c:wE a=wE b):a=b:=by
 refine Ky h fun i h1 h2=>?_
 have hi:i<30:=by omega
 have h3:(wE a)[i]'(by rw[wG];exact hi)=(wE b)[i]'(by rw[wG];exact hi):=by simp only[c]
 simp only[wE,K7,K9,KN,KT h1,KT h2,Ng]at h3
 exact h3
theorem B0{m:List Int}:∀{l:List (List Int)} {j:Nat} (b:j<l.length),l.Nodup→l[j]=m→BZ m l=j
 |x::r,0,_,_,h=>by
  unfold BZ;rw[OE (by simpa using h)]
 |x::r,j+1,b,hd,h=>by
  rw[LZ]at hd
  unfold BZ;have a:m∈r:=by
   rw[←h,K4];exact K8 _
  rw[OD (fun e=>hd.1 (by rw[e];exact a)),B0 (j:=j) (by simpa using b) hd.2 (by simpa using h)]
theorem n_{p:cI}{a b:Int}(h:(nZ p a b).2=0):(FX p).2=0∧1≤a∧1≤b∧b≤200∧(runB p a b).2.2=0∧nZ p a b=(((runB p a b).1.1,(runB p a b).2.1),0):=by
 unfold nZ at h⊢
 by_cases g1:DI p a b=0
 case neg=>rw[OE g1]at h;exact absurd h g1
 rw[OD (by simp[g1])]at h⊢
 by_cases g2:(runB p a b).2.2=0
 case neg=>rw[OE g2]at h;exact absurd h g2
 rw[OD (by simp[g2])];unfold DI at g1
 by_cases g3:(FX p).2=0
 case neg=>rw[OE g3]at g1;exact absurd g1 g3
 rw[OD (by simp[g3])]at g1
 unfold Dy at g1
 split at g1
 ·cases g1
 ·rename_i g4
  exact⟨g3,by omega,by omega,by omega,g2,rfl⟩
theorem B1{m:List Int}:∀{l:List (List Int)},m∈l→BZ m l<l.length∧l.getD (BZ m l) []=m
 |x::r,h=>by
  unfold BZ;by_cases e:x=m
  ·rw[OE e];exact⟨by simp,by simpa using e⟩
  ·rw[OD e]
   rcases LI.1 h with h|h
   ·exact absurd h.symm e
   ·obtain⟨h1,h2⟩:=B1 h
    exact⟨by simp;omega,by simpa using h2⟩
def EdgeOk(p:cI)(m:List Int)(l:List (List Int))(e:cE):Prop:=(pi p m e.1).2=0∧0≤e.2∧e.2<l.length∧l.getD e.2.toNat []=(pi p m e.1).1
theorem EdgeOk.more{p:cI}{m:List Int}{l t:List (List Int)}{e:cE}(h:EdgeOk p m l e):EdgeOk p m (l++t) e:=by
 obtain⟨h1,h2,h3,h4⟩:=h;refine⟨h1,h2,by rw[Lg];omega,?_⟩;rw[←h4,KN,KN,KO O0]
structure SrOk(p:cI)(tok st:Int)(l:List (List Int)):Prop where
 nd:l.Nodup
 ok:∀m∈l,cU p m
 le:∀m∈l,∀x∈m,x≤tok
 st:(l.length:Int)≤st
theorem CA{p:cI}{tok st:Int}{s:Sr}{m:List Int}{fr:Int×Int}(h:SrOk p tok st s.1)(k:cU p m)(d:(Cy tok st s m fr).2.2=0):
  SrOk p tok st (Cy tok st s m fr).1.1∧(∃t,(Cy tok st s m fr).1.1=s.1++t∧∀i:Nat,s.1.length≤i→i<(s.1++t).length→(Cy tok st s m fr).2.1=(i:Int))∧
   0≤(Cy tok st s m fr).2.1∧(Cy tok st s m fr).2.1<(Cy tok st s m fr).1.1.length∧(Cy tok st s m fr).1.1.getD (Cy tok st s m fr).2.1.toNat []=m:=by
 unfold Cy at d⊢
 by_cases g1:G3 tok m=true
 ·rw[OE g1]at d;cases d
 rw[OD g1]at d⊢
 by_cases g3:m∈s.1
 ·rw[OE g3]
  obtain⟨h1,h2⟩:=B1 g3;exact⟨h,⟨[],by simp,fun i h1 h2=>by simp at h2;omega⟩,by dsimp only;omega,by dsimp only;omega,by simpa using h2⟩
 rw[OD g3]at d⊢
 by_cases g4:(s.1.length:Int)=st
 ·rw[OE g4]at d;cases d
 rw[OD g4];have j:=h.st;refine⟨⟨?_,?_,?_,?_⟩,⟨[m],rfl,fun i h1 h2=>by simp at h2;dsimp only;omega⟩,by dsimp only;omega,by simp;omega,by simp⟩
 ·rw[LY]
  refine⟨h.nd,L6 _ _,?_⟩;intro a l b g e
  rw[LV]at g
  subst g;subst e;exact g3 l
 ·intro x c
  rcases LF.1 c with c|c
  ·exact h.ok x c
  ·rw[LV]at c;subst c;exact k
 ·intro x c
  rcases LF.1 c with c|c
  ·exact h.le x c
  ·rw[LV]at c;subst c
   intro n hn
   unfold G3 at g1
   rw[Kb]at g1
   have:¬n>tok:=fun f=>g1 ⟨n,hn,by simpa using f⟩
   omega
 ·simp;omega
theorem pj{p:cI}{m:List Int}{k:Int}(h:(pi p m k).2=0):cU p (pi p m k).1:=by
 obtain⟨h1,_,_,h3,h4⟩:=pm h;exact py (jX h1) h3 h4
theorem mL{p:cI}{tok st n:Int}{m:List Int}:∀(l:List Int) (s:Sr) (out:List cE),SrOk p tok st s.1→(∀e∈out,EdgeOk p m s.1 e)→(mJ p tok st n m l s out).2.2=0→
  SrOk p tok st (mJ p tok st n m l s out).1.1∧(mJ p tok st n m l s out).2.1.map Prod.fst=out.map Prod.fst++l∧(∀e∈(mJ p tok st n m l s out).2.1,EdgeOk p m (mJ p tok st n m l s out).1.1 e)∧
   (∃u,(mJ p tok st n m l s out).2.1=out++u)∧∃t,(mJ p tok st n m l s out).1.1=s.1++t∧∀i:Nat,s.1.length≤i→i<(s.1++t).length→∃e∈(mJ p tok st n m l s out).2.1,e.2=(i:Int)
 |[],s,out,o,z,a=>⟨o,by simp[mJ],z,⟨[],by simp[mJ]⟩,[],by simp[mJ],fun i h1 h2=>by simp at h2;omega⟩
 |k::r,s,out,o,z,a=>by
  rw[mJ]at a⊢
  by_cases g:(pi p m k).2=0
  case neg=>rw[OE g]at a;exact absurd a g
  rw[OD (by simp[g])]at a⊢
  by_cases g1:(Cy tok st s (pi p m k).1 (n,k)).2.2=0
  case neg=>rw[OE g1]at a;exact absurd a g1
  rw[OD (by simp[g1])]at a⊢
  obtain⟨j,⟨t,c,f⟩,x,w,v⟩:=CA o (pj g) g1;generalize Cy tok st s (pi p m k).1 (n,k)=q at*
  obtain⟨d,b,D⟩:=q;dsimp only at*
  have y:∀e∈out++[(k,b)],EdgeOk p m d.1 e:=by
   intro e h
   rcases LF.1 h with h|h
   ·rw[c];exact(z e h).more
   ·rw[LV]at h;subst h
    exact⟨g,x,w,v⟩
  obtain⟨a1,a2,a3,⟨u,a4⟩,A,C,B⟩:=mL r d (out++[(k,b)]) j y a;refine⟨a1,by rw[a2];simp,a3,⟨(k,b)::u,by rw[a4];simp⟩,t++A,by rw[C,c];simp,fun i h1 h2=>?_⟩;by_cases hi:i<d.1.length
  ·refine⟨(k,b),by rw[a4];simp,?_⟩
   exact f i h1 (by rw[←c];exact hi)
  ·exact B i O0 (by rw[c];simpa using h2)
structure SpOk(p:cI)(l:List (List Int))(nx:List (List cE)):Prop where
 le:nx.length≤l.length
 can:∀j,j<nx.length→(nx.getD j []).map Prod.fst=i4 p (l.getD j [])
 ed:∀j,j<nx.length→∀e∈nx.getD j [],EdgeOk p (l.getD j []) l e
 fr:∀i:Nat,1≤i→i<l.length→∃j,j<i∧j<nx.length∧∃e∈nx.getD j [],e.2=(i:Int)
theorem qI{α:Type}{l t:List α}{j:Nat}{d:α}(h:j<l.length):(l++t).getD j d=l.getD j d:=by rw[KN,KN,KO h]
theorem qH{α:Type}{l:List α}{x d:α}:(l++[x]).getD l.length d=x:=by rw[KN,KP Pm];simp
theorem DG{p:cI}{tok st:Int}:∀(f n:Nat) (s:Sr) (nx:List (List cE)),f+n=201→st≤200→nx.length=n→SrOk p tok st s.1→SpOk p s.1 nx→(DF p tok st f n s nx).2.2=0→
  SrOk p tok st (DF p tok st f n s nx).1.1∧SpOk p (DF p tok st f n s nx).1.1 (DF p tok st f n s nx).2.1∧(DF p tok st f n s nx).2.1.length=(DF p tok st f n s nx).1.1.length∧∃t,(DF p tok st f n s nx).1.1=s.1++t
 |0,n,s,nx,hf,d,hn,k,b,c=>by have:=b.le;have:=k.st;omega
 |f+1,n,s,nx,hf,d,hn,k,b,c=>by
  rw[DF]at c⊢
  by_cases g:n<s.1.length
  case neg=>
   rw[OD g]at c⊢
   exact⟨k,b,by have:=b.le;dsimp only;omega,[],by simp⟩
  rw[OE g]at c⊢
  by_cases g1:(mH p tok st n s).2.2=0
  case neg=>rw[OE g1]at c;exact absurd c g1
  rw[OD (by simp[g1])]at c⊢
  obtain⟨a1,a2,a3,_,t,a,y⟩:=mL (p:=p) (tok:=tok) (st:=st) (n:=(n:Int)) (m:=s.1.getD n []) (i4 p (s.1.getD n [])) s [] k (fun e h=>by cases h) g1
  change SrOk p tok st (mH p tok st n s).1.1 at a1
  change (mH p tok st n s).2.1.map Prod.fst=_ at a2
  change∀e∈(mH p tok st n s).2.1,EdgeOk p _ (mH p tok st n s).1.1 e at a3
  change (mH p tok st n s).1.1=_ at a
  change∀i:Nat,_→_→∃e∈(mH p tok st n s).2.1,_ at y
  generalize mH p tok st n s=q at*
  obtain⟨v,w,er⟩:=q;dsimp only at*
  have r:SpOk p v.1 (nx++[w]):=by
   have C:=b.le;refine⟨by rw[a];simp;omega,fun j u=>?_,fun j u=>?_,fun i h1 h2=>?_⟩
   ·simp at u
    by_cases e:j<nx.length
    ·rw[qI e,a,qI O0];exact b.can j e
    ·obtain rfl:j=nx.length:=by omega
     rw[qH,a2,a,qI O0,hn];simp
   ·simp at u
    by_cases e:j<nx.length
    ·rw[qI e,a,qI O0];exact fun x h=>(b.ed j e x h).more
    ·obtain rfl:j=nx.length:=by omega
     rw[qH,a,qI O0,hn,←a];exact a3
   ·by_cases e:i<s.1.length
    ·obtain⟨j,B,A,x,o,l⟩:=b.fr i h1 e
     exact⟨j,B,by simp;omega,x,by rw[qI A];exact o,l⟩
    ·obtain⟨x,o,l⟩:=y i O0 (by rw[←a];exact h2)
     exact⟨nx.length,by omega,by simp,x,by rw[qH];exact o,l⟩
  obtain⟨b1,b2,E,z,D⟩:=DG f (n+1) v (nx++[w]) O0 d (by simp[hn]) a1 r c;exact⟨b1,b2,E,t++z,by rw[D,a];simp⟩
theorem od{p:cI}{tok st:Int}(h:(nZ p tok st).2=0):
  (FX p).2=0∧SrOk p tok st (nZ p tok st).1.1∧SpOk p (nZ p tok st).1.1 (nZ p tok st).1.2∧(nZ p tok st).1.2.length=(nZ p tok st).1.1.length∧0<(nZ p tok st).1.1.length∧(nZ p tok st).1.1.getD 0 []=h_ p∧st≤200:=by
 obtain⟨f,h1,h2,h3,a,g⟩:=n_ h;rw[g];dsimp only;unfold runB at a⊢
 by_cases g1:(Cy tok st ([],[],(0,0)) (h_ p) (-1,-1)).2.2=0
 case neg=>rw[OE g1]at a;exact absurd a g1
 rw[OD (by simp[g1])]at a⊢
 have b:SrOk p tok st ([]:List (List Int)):=⟨List.Pairwise.nil,fun m h=>(by cases h),fun m h=>(by cases h),by simp;omega⟩;obtain⟨a1,⟨t,a2,a2i⟩,a3,a4,n⟩:=CA (s:=([],[],(0,0))) b (ia (p:=p)) g1;have hd:(Cy tok st ([],[],(0,0)) (h_ p) (-1,-1)).1.1=[h_ p]:=by
  unfold Cy at g1⊢
  by_cases d:G3 tok (h_ p)=true
  ·rw[OE d]at g1;cases g1
  rw[OD d,OD O3]at g1⊢
  by_cases c:(([]:List (List Int)).length:Int)=st
  ·rw[OE c]at g1;cases g1
  rw[OD c];rfl
 generalize Cy tok st ([],[],(0,0)) (h_ p) (-1,-1)=q at*
 obtain⟨b1,b2,k,l,e⟩:=DG 201 0 q.1 [] rfl h3 rfl a1 ⟨by simp,fun j h=>absurd h O3,fun j h=>absurd h O3,fun i h1 h2=>by rw[hd]at h2;simp at h2;omega⟩ a;refine⟨f,b1,b2,k,by rw[e,hd];simp,by rw[e,hd];simp,h3⟩
abbrev cO:=List Int×List (List Int)×List Nat×List (List Int)
def Ai(l:List cE)(n:Nat):List cE:=if l=[]then [(-1,(n:Int))]else l.map fun x=>(x.1,(n:Int))
def Ag(nx:List (List cE))(k:Nat):List cE:=(List.range k).flatMap fun n=>Ai (nx.getD n []) n
def yN(nx:List (List cE))(n:Nat):Nat:=max 1 (nx.getD n []).length
def gA(nx:List (List cE))(n:Nat):Nat:=(Ag nx n).length
theorem qe{α:Type}{l t:List α}{j:Nat}{d:α}(h:j<l.length):(l++t).getD j d=l.getD j d:=by simp[KN,KO h]
theorem qg{α:Type}{l t:List α}{i:Nat}{d:α}:(l++t).getD (l.length+i) d=t.getD i d:=by simp[KN,KP]
theorem qf{α β:Type}{f:α→β}{l:List α}{i:Nat}{d:α}{e:β}(h:i<l.length):(l.map f).getD i e=f (l.getD i d):=by simp[KN,KT h]
section
variable {nx:List (List cE)}
theorem Aj{l:List cE}{n:Nat}:(Ai l n).length=max 1 l.length:=by
 unfold Ai;split
 ·rename_i h;subst h;rfl
 ·rename_i h
  have:0<l.length:=Lp.2 h;rw[Ln];omega
theorem Ah{k:Nat}:Ag nx (k+1)=Ag nx k++Ai (nx.getD k []) k:=by
 unfold Ag;rw[L7,KH];simp
theorem gF:gA nx 0=0:=rfl
theorem gE{n:Nat}:gA nx (n+1)=gA nx n+yN nx n:=by unfold gA yN;rw[Ah,Lg,Aj]
theorem gD{a b:Nat}(h:a≤b):gA nx a≤gA nx b:=by
 induction b with
 |zero=>rw[show a=0 by omega];exact MF _
 |succ b c=>
  by_cases e:a=b+1
  ·rw[e];exact MF _
  ·rw[gE];exact MH (c O0) (Nat.le_add_right _ _)
theorem yO{n:Nat}:1≤yN nx n:=Nat.le_max_left _ _
theorem gC{n K i:Nat}(hn:n<K)(hi:i<yN nx n):gA nx n+i<gA nx K:=by
 have h1:=gD (nx:=nx) (show n+1≤K by omega);rw[gE]at h1
 omega
theorem An{n i:Nat}:∀{K:Nat},n<K→i<yN nx n→(Ag nx K).getD (gA nx n+i) (0,0)=(Ai (nx.getD n []) n).getD i (0,0)
 |0,h,_=>absurd h O0
 |K+1,hn,hi=>by
  by_cases e:n=K
  ·subst e
   rw[Ah];exact qg
  ·have a:=gC (nx:=nx) (show n<K by omega) hi
   have b:=An (K:=K) (show n<K by omega) hi;rw[←b,Ah];exact qe a
theorem Ao{j:Nat}:∀{K:Nat},j<gA nx K→∃n i,n<K∧i<yN nx n∧j=gA nx n+i
 |0,h=>absurd h (by rw[gF];omega)
 |K+1,h=>by
  rw[gE]at h
  by_cases e:j<gA nx K
  ·obtain⟨n,i,h1,h2,h3⟩:=Ao e
   exact⟨n,i,by omega,h2,h3⟩
  ·exact⟨K,j -gA nx K,by omega,by omega,by omega⟩
def Ak(nx:List (List cE))(j:Nat):cE:=(Ag nx nx.length).getD j (0,0)
theorem Al{n i:Nat}(hn:n<nx.length)(hi:i<yN nx n):Ak nx (gA nx n+i)=(if nx.getD n []=[]then(-1,(n:Int))else(((nx.getD n []).getD i (0,0)).1,(n:Int))):=by
 unfold Ak;rw[An hn hi];unfold Ai;by_cases h:nx.getD n []=[]
 ·rw[OE h,OE h]
  unfold yN at hi
  rw[h]at hi
  have:i=0:=by simp at hi;omega
  subst this;rfl
 ·rw[OD h,OD h]
  unfold yN at hi
  have:0<(nx.getD n []).length:=Lp.2 h;have a:i<(nx.getD n []).length:=by omega
  exact qf (d:=(0,0)) a
end
def gx(nx:List (List cE))(k:Nat):List Int:=(List.range k).map fun n=>((gA nx n:Nat):Int)
def yp(nx:List (List cE))(k:Nat):List Int:=(List.range k).map fun n=>((yN nx n:Nat):Int)
def fW(nx:List (List cE))(m:Nat):List Int:=(List.range (yN nx m)).map fun i:Nat=>((gA nx m+i:Nat):Int)
def GQ(nx:List (List cE))(j:Nat):cE:=(nx.getD (Ak nx j).2.toNat []).getD (j -gA nx (Ak nx j).2.toNat) (0,0)
def za(nx:List (List cE))(j:Nat):List Int:=if(Ak nx j).1<0 then [(j:Int)]else fW nx (GQ nx j).2.toNat
def xg(sl:List cK)(nx:List (List cE))(j:Nat):Nat:=if(Ak nx j).1<0 then 9223372036854775808 else 2 ^ (sl.getD (Ak nx j).1.toNat (0,0,0)).1.toNat
def i6(nx:List (List cE))(j:Nat)(k:Int):Bool:=(nx.getD (Ak nx j).2.toNat []).any fun y=>y.1==k
def vk(nx:List (List cE))(k:Int)(j:Nat):Bool:=!i6 nx j k||(Ak nx j).1==k
def ow(nx:List (List cE))(k:Int)(n:Nat):List Int:=((List.range n).filter (vk nx k)).map fun j:Nat=>(j:Int)
def ot(nx:List (List cE))(k:Int):List Int:=ow nx k (gA nx nx.length)
def Eh(sl:List cK)(nx:List (List cE)):cO:=(fW nx 0,(List.range (gA nx nx.length)).map (za nx),(List.range (gA nx nx.length)).map (xg sl nx),(List.range sl.length).map fun k:Nat=>ot nx (k:Int))
def zh:cO:=([],[],[],[])
noncomputable def Ec(p:cI)(tok st:Int):(cO×List cE)×Int:=
 if(nZ p tok st).2≠0 then((zh,[]),(nZ p tok st).2)else if 600<gA (nZ p tok st).1.2 (nZ p tok st).1.2.length then((zh,[]),2)
 else((Eh (FX p).1 (nZ p tok st).1.2,Ag (nZ p tok st).1.2 (nZ p tok st).1.2.length),0)
theorem oz{nx:List (List cE)}{k:Int}{n:Nat}:ow nx k (n+1)=ow nx k n++if vk nx k n=true then [(n:Int)]else []:=by
 unfold ow;rw[L7,KA,Lz]
 congr 1
 rw[KB];split<;>simp
theorem ox{nx:List (List cE)}{k:Int}{n:Nat}:(ow nx k n).length≤n:=by
 unfold ow;rw[Ln];exact MH (Lm _ _) O3
structure NxOk(sl:List cK)(nx:List (List cE)):Prop where
 ed:∀j,j<nx.length→∀e∈nx.getD j [],0≤e.1∧e.1<sl.length∧0≤e.2∧e.2<nx.length
 row:∀j,(nx.getD j []).length≤60
 n:nx.length≤200
 pos:0<nx.length
 node:∀s∈sl,0≤s.1∧s.1<62
 sl:sl.length≤60
theorem ja{p:cI}{m:List Int}{k:Int}(h:k∈i4 p m):0≤k∧k<(F4 p).length:=by
 unfold i4 at h
 split at h
 ·unfold i7 i9 at h
  obtain⟨i,hi,rfl⟩:=LP.1 h;have:=LU.1 (LM.1 hi).1;omega
 ·cases h
theorem F6{p:cI}:∀s∈F4 p,0≤s.1∧s.1<p.1.length:=fun s a=>by
 obtain⟨n,hn,a⟩:=stepsP_mem.1 a;have:=F2 s a;rw[this];omega
theorem oe{p:cI}{tok st:Int}(h:(nZ p tok st).2=0):NxOk (FX p).1 (nZ p tok st).1.2:=by
 obtain⟨l,hS,d,o,q,_,k⟩:=od h;obtain⟨n,f,c⟩:=FY l;have m:=hS.st;have b:∀j,j<(nZ p tok st).1.2.length→((nZ p tok st).1.2.getD j []).length=(i4 p ((nZ p tok st).1.1.getD j [])).length:=fun j a=>by
  rw[←d.can j a,Ln]
 refine⟨fun j a e i=>?_,fun j=>?_,by omega,by omega,fun s g=>?_,by rw[f];exact c⟩
 ·have h1:=d.ed j a e i
  have h2:e.1∈i4 p ((nZ p tok st).1.1.getD j []):=by rw[←d.can j a];exact LP.2 ⟨e,i,rfl⟩
  have h3:=ja h2;rw[f];exact⟨h3.1,h3.2,h1.2.1,by have:=h1.2.2.1;omega⟩
 ·by_cases a:j<(nZ p tok st).1.2.length
  ·rw[b j a]
   unfold i4;split
   ·unfold i7 i9
    rw[Ln];exact MH (Lm _ _) (by simp;exact c)
   ·simp
  ·rw[KN,KU O0];simp
 ·rw[f]at g
  have h1:=F6 s g;have h2:=(jN n).n;omega
class IsA(P:Program)(t:TypeId)(k:outParam Nat)(e:outParam TypeId):Prop where
 ok:P.underlying t=some (.array k e)
section
variable {P:Program}{Q:Exit→Act→World→Prop}{n:Nat}{σ:Sg}{w:World}{L rest:List Oper}{d:Nat}{ty:TypeId}{pos:String}{af:Array Edge}{g:Option (Nat×Bool)}{t e:TypeId}{x y:Operand}{b o:Nat}{cells:List Value}
theorem eI{ix:Operand}{i k:Nat}{kd:IntKind}{l:TypeId}(p:gd L σ ⟨some d,.indexAddr t x ix,ty,pos,af,g⟩=some true)(hd:Nat.ble (d+1) n=true)(m:ev σ x=some (.pointer (some ⟨b,o,none⟩)))(hi:ev σ ix=some (.int kd (i:Int)))
  [r:IsA P t k l] [q:IsC P l 1 false] (h1:i<k) (h:WL P L Q rest n ((d,.pointer (some ⟨b,o+i,none⟩))::σ) w):WL P L Q (⟨some d,.indexAddr t x ix,ty,pos,af,g⟩::rest) n σ w:=by
 obtain⟨inf,dd,j,f,_,_⟩:=q.ok;refine WL.run p hd (fun a c=>?_) h;simp[execOp,c.ev m,c.ev hi,Instr.indexAt,asIntOf,OP r.ok,Instr.sureAddr,h1,sizeOf,typeInfo,j,f,Od]
theorem fx{v:Value}(s:gd L σ ⟨none,.store t x y,ty,pos,af,g⟩=some true)(p:ev σ x=some (.pointer (some ⟨b,o,none⟩)))(m:ev σ y=some v)[u:IsC P t 1 false](k:Blk w b e cells)
  (r:o<cells.length) (q:jd v=[v]) (h1:v.oneCell'=true)
  (h:∀w',Blk w' b e (cells.set o v)→w.grownBy w' (some b)→WL P L Q rest n σ w'):WL P L Q (⟨none,.store t x y,ty,pos,af,g⟩::rest) n σ w:=by
 obtain⟨i,dd,j,f,_,_⟩:=u.ok;have c:=OO P b o e [v] 0 cells.toArray w k O6 (by simpa using h1);simp only[Ms]at c
 have z:cells.take o++[v]++cells.drop (o+[v].length)=cells.set o v:=by
  rw[L_,OE r];simp
 refine fp s (fun a l=>?_) (h _ (by
  have:=OQ w b cells.toArray (cells.set o v).toArray e (0,0) k;exact this) (rI w b _))
 simp only[execOp,l.ev p,l.ev m,Instr.storeAt,Nr,Instr.sureAddr,Ns,Nq,storeVar,sizeOf,typeInfo,ON,j,f,je,q];rw[←z];simp;simp[c]
theorem DU{k:Nat}(w:World)(m:Blk w b e cells)(h:cells.length=k)[l:IsC P t k true]:(Instr.loadAt t (.pointer (some ⟨b,0,none⟩))).run P w=.ok (.agg cells.toArray) w:=by
 obtain⟨i,dd,h1,h2,h3,h4⟩:=l.ok;have c:(isAgg t).run P w=.ok true w:=by
  unfold isAgg;rw[Nr,OP h3 w,←h4];cases dd<;>rfl
 have a:=OM (P:=P) w ⟨b,0,none⟩ cells (fun j u f=>by rw[Od,M8];exact m.cell f);rw[h]at a
 simp[Instr.loadAt,Instr.sureAddr,loadVar,c,sizeOf,typeInfo,h1,h2,a]
theorem eN{k:Nat}(i:gd L σ ⟨some d,.load t x,ty,pos,af,g⟩=some true)(hd:Nat.ble (d+1) n=true)(c:ev σ x=some (.pointer (some ⟨b,0,none⟩)))[m:IsC P t k true](j:Blk w b e cells)(f:cells.length=k)
  (h:WL P L Q rest n ((d,.agg cells.toArray)::σ) w):WL P L Q (⟨some d,.load t x,ty,pos,af,g⟩::rest) n σ w:=by
 refine WL.run i hd (fun a l=>?_) h;simp[execOp,l.ev c,DU (P:=P) (t:=t) w j f]
theorem fy{k:Nat}{cs:List Value}(s:gd L σ ⟨none,.store t x y,ty,pos,af,g⟩=some true)(q:ev σ x=some (.pointer (some ⟨b,0,none⟩)))(p:ev σ y=some (.agg cs.toArray))[v:IsC P t k true](l:Blk w b e cells)
  (r:cs.length=k) (A:cells.length=k) (h1:∀u∈cs,u.oneCell'=true)
  (h:∀w',Blk w' b e cs→w.grownBy w' (some b)→WL P L Q rest n σ w'):WL P L Q (⟨none,.store t x y,ty,pos,af,g⟩::rest) n σ w:=by
 obtain⟨i,dd,j,f,_,_⟩:=v.ok;subst r;have c:=OO P b 0 e cs 0 cells.toArray w l O6 h1;simp only[Ms,M8,Mk,LX]at c
 have z:cells.toArray.toList.drop cs.length=[]:=Kt O6;rw[z,Kd]at c
 refine fp s (fun a m=>?_) (h _ (by
  have:=OQ w b cells.toArray cs.toArray e (0,0) l;exact this) (rI w b _))
 simp only[execOp,m.ev q,m.ev p,Instr.storeAt,Nr,Instr.sureAddr,Ns,Nq,storeVar,sizeOf,typeInfo,ON,j,f,Value.cells];simp;simp[c]
theorem bj{fn:Func}{a:Nat}{k:Nat}{R:Value→World→Prop}(q:fn.results=#[.cell a t])(A:fnd σ a=some (.pointer (some ⟨b,0,none⟩)))[s:IsC P t k true](z:Blk w b e cells)(r:cells.length=k)(h:R (.agg cells.toArray) w):
  EX (bodyPost P fn fun e w'=>∃v,e=.returned v∧R v w') .ret n σ w:=by
 unfold EX;intro ac l
 refine On ?_ l.defers ⟨_,rfl,h⟩;have c:=OM (P:=P) w ⟨b,0,none⟩ cells (fun j u p=>by rw[Od,M8];exact z.cell p);obtain⟨i,dd,h1,h2,h3,h4⟩:=s.ok;have f:(isAgg t).run P w=.ok true w:=by
  unfold isAgg;rw[Nr,OP h3 w,←h4];cases dd<;>rfl
 rw[r]at c
 have m:=l.slot a _ A;simp only[Jn]at m
 simp[results,q,m,asAddr,loadVar,f,sizeOf,typeInfo,h1,h2,c]
end
theorem yA{α β:Type}{f:α→Option β}{g:α→β}:∀(l:List α),(∀x∈l,f x=some (g x))→l.mapM f=some (l.map g)
 |[],_=>rfl
 |x::r,h=>by
  rw[Lx,h x O3,yA r (fun y a=>h y (by simp[a]))];rfl
theorem KeyV.arr{P:Program}{k e:TypeId}{n:Nat}{q:IntKind}(j:P.underlying k=some (.array n e))(z:P.underlying e=some (.int q))(p:P.cellsOf e=1)(h:P.cellsOf k=n)(m:P.keyType k=true)(l:Nat.ble 1 P.types.size=true)
  {xs:List Int} (r:xs.length=n) (u:∀x∈xs,(Lit.int q x).wf=true):KeyV P k (.agg (xs.map fun x=>.int q x).toArray):=by
 obtain⟨s,v⟩:∃s,P.types.size=s+1:=⟨P.types.size -1,by have:=MA l;omega⟩;have a:P.keyLits (P.types.size+1) k (xs.map fun x=>.int q x)=some (((List.range n).map fun i=>[Lit.int q (xs.getD i 0)]).flatten):=by
  rw[v,Nn];simp only[j];rw[OE (by rw[h];simpa using r),yA (g:=fun i=>[Lit.int q (xs.getD i 0)])]
  ·rfl
  ·intro i hi
   have hi:=LU.1 hi;have c:i<xs.length:=by omega
   have f:((xs.map fun x=>Value.int q x).drop (i*P.cellsOf e)).take (P.cellsOf e)=[.int q xs[i]]:=by
    rw[p,MU,Ks (by simpa using c)];simp
   rw[f,Nn];simp only[z];rw[OE ⟨trivial,u _ (K8 c)⟩,KN,KT c];rfl
 refine⟨.string (keyBytes (((List.range n).map fun i=>[Lit.int q (xs.getD i 0)]).flatten)),?_⟩;unfold keyOf;rw[j];dsimp only;have hf:Value.formed P k (.agg (xs.map fun x=>Value.int q x).toArray)=true:=by
  unfold Value.formed;rw[j,h];simp[r]
 rw[m,hf];show Option.map _ (P.keyLits (P.types.size+1) k (xs.map fun x=>Value.int q x))=_;rw[a];rfl
section
variable {P:Program}{Q:Exit→Act→World→Prop}{n:Nat}{σ:Sg}{w:World}{L rest:List Oper}{d:Nat}{ty:TypeId}{pos:String}{af:Array Edge}{g:Option (Nat×Bool)}
variable {α:Type}[Rep α]{e t:TypeId}{x0:α}{bytes:Nat}{F:Nat→Prop}
end
def Cel(w:World)(b n:Nat):Prop:=∃cur e,w.heap[b]?=some (.cells cur e (0,0))∧n≤cur.size
theorem Cel.lt{w:World}{b n:Nat}(h:Cel w b n):b<w.heap.size:=by
 obtain⟨cur,e,h,_⟩:=h;exact(Jq.1 h).1
theorem Cel.at{w w':World}{b n:Nat}(h:Cel w b n)(a:w'.heap[b]?=w.heap[b]?):Cel w' b n:=by
 obtain⟨cur,e,h1,h2⟩:=h;exact⟨cur,e,a.trans h1,h2⟩
def RowT(F:Nat→Prop)(w:World)(z:Nat)(v:Value):Prop:=∃ao len cap,v=.slice ao len cap∧cap≤maxLen∧len≤cap∧(0<cap→∃b off,ao=some ⟨b,off,none⟩∧F b∧Cel w b (off+cap*z))
section
variable {α:Type}[Rep α]{w w':World}{B:Nat}{e:TypeId}{F F':Nat→Prop}{v:Value}{xs:List α}{z:Nat}
theorem Own.rowT(h:Own w B e cZ v xs)(hF:∀g,v.ownBlock=some g→F g):RowT F w (sz α) v:=by
 rcases h with⟨rfl,rfl⟩|⟨g,off,cap,cur,rfl,a⟩
 ·exact⟨none,0,0,rfl,by simp[maxLen],MF _,fun h=>absurd h O3⟩
 ·exact⟨_,_,_,rfl,a.mx,a.le,fun _=>⟨g,off,rfl,hF g rfl,cur,e,a.blk,a.fit⟩⟩
theorem RowT.to(h:RowT F w z v)(hF:∀b,F b→b<w.heap.size→F' b∧w'.heap[b]?=w.heap[b]?):RowT F' w' z v:=by
 obtain⟨ao,len,cap,h1,h2,h3,h4⟩:=h;refine⟨ao,len,cap,h1,h2,h3,fun a=>?_⟩;obtain⟨b,off,k1,k2,k3⟩:=h4 a;have:=hF b k2 k3.lt;exact⟨b,off,k1,this.1,k3.at this.2⟩
end
section
variable {P:Program}{Q:Exit→Act→World→Prop}{n:Nat}{σ:Sg}{w:World}{L rest:List Oper}{d:Nat}{ty:TypeId}{pos:String}{af:Array Edge}{g:Option (Nat×Bool)}
variable {α:Type}[Rep α]{e t:TypeId}{F:Nat→Prop}
end
instance uy:IsFd Tryz.prog 124 0 0:=IsFd.of O1
instance uB:IsFd Tryz.prog 124 1 2:=IsFd.of O1
instance uC:IsFd Tryz.prog 124 2 3:=IsFd.of O1
instance uD:IsFd Tryz.prog 124 3 4:=IsFd.of O1
instance uE:IsFd Tryz.prog 124 4 6:=IsFd.of O1
instance uF:IsFd Tryz.prog 124 5 7:=IsFd.of O1
instance uG:IsFd Tryz.prog 124 6 8:=IsFd.of O1
instance uH:IsZC Tryz.prog 124 [.slice none 0 0,.slice none 0 0,.int .i64 0,.int .i64 0,.slice none 0 0,.slice none 0 0,.map none,.slice none 0 0,.int .i64 0,.int .i64 0]:=IsZC.of (z:=.agg #[.slice none 0 0,.slice none 0 0,.int .i64 0,.int .i64 0,.slice none 0 0,.slice none 0 0,.map none,.slice none 0 0,.int .i64 0,.int .i64 0]) O1 rfl
instance uk:IsBd Tryz.prog 124 [(0,2),(2,1),(3,1),(4,2),(6,1),(7,1),(8,2)]:=IsBd.of O1
instance ul:IsC Tryz.prog 239 30 true:=IsC.of O1 NL rfl
abbrev zKey:List Value:=[.int .i8 0,.int .i8 0,.int .i8 0,.int .i8 0,.int .i8 0,.int .i8 0,.int .i8 0,.int .i8 0,.int .i8 0,.int .i8 0,.int .i8 0,.int .i8 0,.int .i8 0,.int .i8 0,.int .i8 0,.int .i8 0,.int .i8 0,.int .i8 0,.int .i8 0,.int .i8 0,.int .i8 0,.int .i8 0,.int .i8 0,.int .i8 0,.int .i8 0,.int .i8 0,.int .i8 0,.int .i8 0,.int .i8 0,.int .i8 0]
instance um:IsZC Tryz.prog 239 zKey:=IsZC.of (z:=.agg zKey.toArray) O1 rfl
instance uq:IsA Tryz.prog 239 30 237:=⟨NL⟩
instance ur:IsC Tryz.prog 237 1 false:=IsC.of O1 NK rfl
instance ut:IsI Tryz.prog 237 .i8:=⟨NK⟩
instance uu:IsM Tryz.prog 119 239 3:=⟨Tryz.underlying119⟩
instance uv:IsC Tryz.prog 119 1 false:=IsC.of O1 Tryz.underlying119 rfl
instance uw:IsZ0 Tryz.prog 3:=⟨by kernel_rfl⟩
theorem Fy:laidOutB Tryz.prog=true:=by kernel_rfl
instance ux:IsKy Tryz.prog 239:=IsKy.of (m:=2) Fy O2 O1 O1 NL rfl
abbrev wB(m:List Int):Value:=.agg ((wE m).map fun x=>.int .i8 x).toArray
def Tok(m:List Int):Prop:=∀x∈m,0≤x∧x≤9
theorem Tok.at{m:List Int}(h:Tok m)(j:Nat):0≤m.getD j 0∧m.getD j 0≤9:=by
 rw[KN];cases a:m[j]? with
 |none=>exact⟨J3 _,by decide⟩
 |some x=>exact h x (LR a)
theorem wD{m:List Int}(b:Tok m):KeyV Tryz.prog 239 (wB m):=
 KeyV.arr (n:=30) NL NK O1 O1 O1 O1 (wG m) (fun x a=>by
  unfold wE at a
  obtain⟨i,_,rfl⟩:=LP.1 a;have:=b.at i;rw[KN]at this
  simp[Lit.wf,IntKind.min,IntKind.max,IntKind.signed,IntKind.bits];omega)
theorem wC{a b:List Int}(d:a.length≤30)(h:a.length=b.length)(c:wB a=wB b):a=b:=by
 refine wF d h ?_;have h1:((wE a).map fun x=>Value.int .i8 x).toArray=((wE b).map fun x=>Value.int .i8 x).toArray:=by injection c
 have h2:(wE a).map (fun x=>Value.int .i8 x)=(wE b).map (fun x=>Value.int .i8 x):=by simpa using h1
 exact List.map_inj_right (fun x y e=>by injection e)|>.1 h2
theorem rS{x:Int}(h:0≤x∧x≤9):IntKind.i8.wrap x=x:=by
 simp[IntKind.wrap,IntKind.bits,IntKind.signed];omega
@[irreducible] def wv (m:List Int) (i:Nat):List Value:=(List.range 30).map fun j=>.int .i8 (if j<i then m.getD j 0 else 0)
theorem wx{m:List Int}{i:Nat}:(wv m i).length=30:=by simp[wv]
theorem wA{m:List Int}:wv m 0=zKey:=by
 unfold wv;simp only[MV,OC];rfl
theorem wz{m:List Int}{i:Nat}(hi:i<m.length):(wv m i).set i (.int .i8 m[i])=wv m (i+1):=by
 unfold wv;refine Ky O3 fun j h1 h2=>?_
 rw[La];simp only[K7,K9];by_cases e:i=j
 ·subst e
  rw[OE rfl,OE O0,KN,KT hi];rfl
 ·rw[OD e]
  by_cases a:j<i
  ·rw[OE a,OE O0]
  ·rw[OD a,OD O0]
theorem ww{m:List Int}:wv m m.length=(wE m).map fun x=>.int .i8 x:=by
 unfold wv wE;rw[LC];refine LA fun j _=>?_
 show Value.int .i8 _=Value.int .i8 _
 congr 1
 split
 ·rfl
 ·show(0:Int)=m.getD j 0
  rw[KN,KU O0];rfl
theorem wy{m:List Int}{i:Nat}:∀u∈wv m i,u.oneCell'=true:=by
 intro u a
 unfold wv at a
 obtain⟨j,_,rfl⟩:=LP.1 a;rfl
theorem wu(w0:World){mo:Option Addr}{mc:Nat}{m:List Int}(x:Sl w0 (c7 w0) mo mc m)(C:m.length≤30)(u:Tok m):
  Rt Tryz.prog 170 [.slice mo m.length mc].toArray w0 fun v w'=>v=wB m∧Ext w0 w':=by
 refine dD Tryz.func170 Tryz.ntmps170 rfl rfl ?_;refine Pu ?_;refine WL.alloc rfl rfl (fun n a t=>?_);refine Qm ?_;refine WL.alloc rfl rfl (fun B b s=>?_);have y:=a.lt;have a:=a.ext s;have j:=t.trans s;have o:=t.size;have p:w0.heap.size≠n.heap.size:=by omega
 rw[←wA (m:=m)]at b
 refine QZ ?_;refine CW.loop (S:=Nat) (fun i=>[(2,.pointer (some ⟨w0.heap.size,0,none⟩)),(3,.pointer (some ⟨n.heap.size,0,none⟩)),(6,.slice mo m.length mc),(7,.int .i64 m.length),(8,.int .i64 i)])
  (fun i w=>i≤m.length∧Ext w0 w∧Blk w w0.heap.size 239 zKey∧Blk w n.heap.size 239 (wv m i)) (fun i=>m.length -i) 0 OZ ⟨M9 _,j,a,b⟩ ?_
 clear a b j;rintro i A ⟨hi,j,a,b⟩
 refine Qm ?_;refine CW.cond rfl (fun h=>?_) (fun h=>?_)
 ·have c:i<m.length:=by simp at h;omega
  have r:=u _ (K8 c);refine PP ?_;refine eB rfl rfl rfl rfl rfl (x.up j) c rfl O_ (fun q=>?_);refine Qj ?_;refine eg (k':=.i8) rfl rfl rfl ?_;rw[rS r];refine eI rfl rfl rfl rfl O0 ?_;refine fx rfl rfl rfl b (by rw[wx];omega) rfl rfl (fun l f d=>?_);rw[M8,wz c]at f
  have a:=a.kept d (fun e=>p (Nj e));have k:Ext w0 l:=j.grown d j.size (fun g z=>by cases z;exact o);refine P6 ?_;exact EX.back (i+1) OZ ⟨c,k,a,f⟩ O0
 ·obtain rfl:i=m.length:=by simp at h;omega
  refine Qh ?_;refine eN rfl rfl rfl b wx ?_;refine fy rfl rfl rfl a wx rfl wy (fun l f d=>?_);have k:Ext w0 l:=j.grown d j.size Pb;refine PH ?_;exact bj rfl rfl f wx ⟨by rw[ww],k⟩
structure SC where
 sb:Nat
 mb:Nat
 mv:Value
 nv:Value
 ov:Value
 mvs:List Raw
 nvs:List Raw
 p1:Value
 p2:Value
 tok:Int
 st:Int
 N:Nat
 xt:Value
 lo:Nat
def iP(c:SC):Nat→Prop:=fun b=>b=c.sb∨b=c.mb∨c.mv.ownBlock=some b∨c.nv.ownBlock=some b∨c.ov.ownBlock=some b∨c.xt.ownBlock=some b
def Fb(c:SC)(w:World):Nat→Prop:=fun b=>c.lo≤b∧b<w.heap.size∧¬iP c b
structure Inn{α:Type}[Rep α](w:World)(c:SC)(vs:List Raw)(xs:List (List α)):Prop where
 len:vs.length=xs.length
 el:∀i (h:i<vs.length) (h':i<xs.length),∃ao cap,vs[i].v=.slice ao xs[i].length cap∧Sl w (Fb c w) ao cap xs[i]
 ty:∀i (h:i<vs.length),RowT (Fb c w) w (sz α) vs[i].v
theorem Fb.toT{w w':World}{c c':SC}{z:Nat}{v:Value}(h:RowT (Fb c w) w z v)(d:Chg (iP c) w w')(f:∀b,iP c' b→iP c b∨w.heap.size≤b)(e:c'.lo≤c.lo:=by exact MF _):RowT (Fb c' w') w' z v:=
 h.to fun b a _=>⟨⟨MH e a.1,MK a.2.1 d.size,fun h=>(f b h).elim a.2.2 (fun h=>by have:=a.2.1;omega)⟩,d.block b a.2.1 a.2.2⟩
theorem Fb.to{α:Type}[Rep α]{w w':World}{c c':SC}{ao:Option Addr}{cap:Nat}{xs:List α}(h:Sl w (Fb c w) ao cap xs)(d:Chg (iP c) w w')(f:∀b,iP c' b→iP c b∨w.heap.size≤b)(e:c'.lo≤c.lo:=by exact MF _):Sl w' (Fb c' w') ao cap xs:=
 h.mono (fun b a=>d.block b a.2.1 a.2.2) fun b a=>⟨MH e a.1,MK a.2.1 d.size,fun h=>(f b h).elim a.2.2 (fun h=>by have:=a.2.1;omega)⟩
theorem Inn.to{α:Type}[Rep α]{w w':World}{c c':SC}{vs:List Raw}{xs:List (List α)}(h:Inn w c vs xs)(d:Chg (iP c) w w')(f:∀b,iP c' b→iP c b∨w.heap.size≤b)(a:c'.lo≤c.lo:=by exact MF _):Inn w' c' vs xs:=
 ⟨h.len,fun i h1 h2=>by
  obtain⟨ao,cap,e,g⟩:=h.el i h1 h2;exact⟨ao,cap,e,Fb.to g d f a⟩,fun i h1=>Fb.toT (h.ty i h1) d f a⟩
theorem Inn.push{α:Type}[Rep α]{w:World}{c:SC}{vs:List Raw}{xs:List (List α)}{ao:Option Addr}{cap:Nat}{m:List α}(h:Inn w c vs xs)(l:Sl w (Fb c w) ao cap m)(f:RowT (Fb c w) w (sz α) (.slice ao m.length cap)):Inn w c (vs++[⟨.slice ao m.length cap⟩]) (xs++[m]):=by
 refine⟨by simp[h.len],fun i h1 h2=>?_,fun i h1=>?_⟩
 case refine_2=>
  by_cases hi:i<vs.length
  ·rw[K2 hi];exact h.ty i hi
  ·have b:i=vs.length:=by simp at h1;omega
   subst b;rw[K3 Pm];simpa using f
 by_cases hi:i<vs.length
 ·have d:i<xs.length:=by rw[←h.len];exact hi
  obtain⟨a,k,e,j⟩:=h.el i hi d;refine⟨a,k,?_,?_⟩
  ·rw[K2 hi,e];simp only[K2 d]
  ·rw[K2 d];exact j
 ·have b:i=vs.length:=by simp at h1;omega
  have g:i=xs.length:=by rw[←h.len];exact b
  refine⟨ao,cap,?_,?_⟩
  ·rw[K3 O0,K3 O0]
   simp[b,h.len]
  ·rw[K3 O0]
   simp only[g,M4,K5];exact l
def ap(a b:Option Nat):Prop:=∀g,a=some g→b=some g→False
theorem ap.new{a c b:Option Nat}{k:Nat}(h:ap a b)(hn:∀g,c=some g→a=some g∨k≤g)(d:∀g,b=some g→g<k):ap c b:=fun g h1 h2=>by
 rcases hn g h1 with h3|h3
 ·exact h g h3 h2
 ·have:=d g h2;omega
theorem ap.sym{a b:Option Nat}(h:ap a b):ap b a:=fun g h1 h2=>h g h2 h1
structure ApartS(c:SC):Prop where
 d01:c.sb≠c.mb
 d02:ap (some c.sb) c.mv.ownBlock
 d03:ap (some c.sb) c.nv.ownBlock
 d04:ap (some c.sb) c.ov.ownBlock
 d12:ap (some c.mb) c.mv.ownBlock
 d13:ap (some c.mb) c.nv.ownBlock
 d14:ap (some c.mb) c.ov.ownBlock
 d23:ap c.mv.ownBlock c.nv.ownBlock
 d24:ap c.mv.ownBlock c.ov.ownBlock
 d34:ap c.nv.ownBlock c.ov.ownBlock
 d05:ap (some c.sb) c.xt.ownBlock
 d15:ap (some c.mb) c.xt.ownBlock
 d25:ap c.mv.ownBlock c.xt.ownBlock
 d35:ap c.nv.ownBlock c.xt.ownBlock
 d45:ap c.ov.ownBlock c.xt.ownBlock
structure Srch(w:World)(B:Nat)(c:SC)(s:Sr)(nx:List (List cE)):Prop where
 blk:Blk w c.sb 124 [c.p1,c.p2,.int .i64 c.tok,.int .i64 c.st,c.mv,c.nv,.map (some c.mb),c.ov,.int .i64 s.2.2.1,.int .i64 s.2.2.2]
 num:NumM Tryz.prog 239 w c.mb (s.1.map wB)
 mo:Own w B 39 cZ c.mv c.mvs
 no:Own w B 52 cZ c.nv c.nvs
 oo:Own w B 122 cZ c.ov s.2.1
 mi:Inn w c c.mvs s.1
 ni:Inn w c c.nvs nx
 ge:B≤c.sb∧B≤c.mb
 lob:c.lo≤B
 xo:∀g,c.xt.ownBlock=some g→B≤g∧g<w.heap.size
 dis:ApartS c
 ok:∀m∈s.1,m.length=c.N∧Tok m
 nd:s.1.Nodup
 lim:(s.1.length:Int)≤c.st∧0<c.st∧c.st≤200∧s.2.1.length=s.1.length∧c.N≤30
theorem iQ{w:World}{B:Nat}{c:SC}{s:Sr}{nx:List (List cE)}(h:Srch w B c s nx):∀b,iP c b→B≤b∧b<w.heap.size:=fun b a=>by
 rcases a with rfl|rfl|a|a|a|a
 ·exact⟨h.ge.1,h.blk.lt⟩
 ·exact⟨h.ge.2,h.num.lt⟩
 ·exact⟨(h.mo.lt b a).1,(h.mo.lt b a).2.1⟩
 ·exact⟨(h.no.lt b a).1,(h.no.lt b a).2.1⟩
 ·exact⟨(h.oo.lt b a).1,(h.oo.lt b a).2.1⟩
 ·exact h.xo b a
theorem Chg.ofExt{S:Nat→Prop}{w w':World}(h:Ext w w'):Chg S w w':=⟨h.os,h.tape,h.output,h.size,fun b a _=>h.block b a⟩
theorem Srch.ext{w w':World}{B:Nat}{c:SC}{s:Sr}{nx:List (List cE)}(h:Srch w B c s nx)(a:Ext w w'):Srch w' B c s nx:=
 ⟨h.blk.ext a,h.num.ext a,h.mo.extN a,h.no.extN a,h.oo.extN a,h.mi.to (.ofExt a) (fun _ h=>.inl h),h.ni.to (.ofExt a) (fun _ h=>.inl h),h.ge,h.lob,(fun g b=>⟨(h.xo g b).1,MK (h.xo g b).2 a.size⟩),h.dis,h.ok,h.nd,h.lim⟩
def busyI(c:SC):Nat→Prop:=fun b=>b=c.sb∨b=c.mb∨c.mv.ownBlock=some b∨c.nv.ownBlock=some b∨c.ov.ownBlock=some b∨False
theorem busyI.to{c:SC}{b:Nat}(h:busyI c b):iP c b:=by
 rcases h with h|h|h|h|h|h
 ·exact .inl h
 ·exact .inr (.inl h)
 ·exact .inr (.inr (.inl h))
 ·exact .inr (.inr (.inr (.inl h)))
 ·exact .inr (.inr (.inr (.inr (.inl h))))
 ·exact h.elim
theorem bI{c:SC}{w w':World}(h:Chg (busyI c) w w'):Chg (iP c) w w':=⟨h.os,h.tape,h.output,h.size,fun b a hn=>h.block b a (fun k=>hn k.to)⟩
theorem G2(w:World)(a:Nat){c:SC}{u v:Value}{vs:List Value}(x:Int)(h3:Blk w a 116 [Pr c.sb])(b:Blk w c.sb 124 (u::v:: Pq c.tok::vs)):
  Rt Tryz.prog 169 [Pq x,Pr a].toArray w fun v w'=>v=.bool (decide (x>c.tok))∧Ext w w':=by
 refine dE Tryz.func169 Tryz.ntmps169 rfl rfl ?_;refine QW ?_;exact be rfl rfl ⟨rfl,Ext.refl w⟩
def dJ(c c':SC):Prop:=c'.sb=c.sb∧c'.p1=c.p1∧c'.p2=c.p2∧c'.tok=c.tok∧c'.st=c.st∧c'.N=c.N∧c'.xt=c.xt∧c'.lo=c.lo
theorem Srch.last{w w':World}{B:Nat}{c:SC}{s:Sr}{nx:List (List cE)}{fr:Int×Int}(h:Srch w B c s nx)(a:w.grownBy w' (some c.sb))(d:Blk w' c.sb 124 [c.p1,c.p2,Pq c.tok,Pq c.st,c.mv,c.nv,.map (some c.mb),c.ov,Pq fr.1,Pq fr.2]):Srch w' B c (s.1,s.2.1,fr) nx:=by
 have b:Chg (iP c) w w':=(Chg.refl _ w).grown a Pi;exact⟨d,h.num.kept a (fun e=>h.dis.d01 (Nj e).symm),h.mo.keptN a (fun g a e=>h.dis.d02 g e.symm a),h.no.keptN a (fun g a e=>h.dis.d03 g e.symm a),h.oo.keptN a (fun g a e=>h.dis.d04 g e.symm a),h.mi.to b (fun _ h=>.inl h),h.ni.to b (fun _ h=>.inl h),h.ge,h.lob,(fun g k=>⟨(h.xo g k).1,MK (h.xo g k).2 a.size⟩),h.dis,h.ok,h.nd,h.lim⟩
theorem wH{m:List Int}{l:List (List Int)}{N:Nat}(d:N≤30)(b:∀x∈l,x.length=N∧Tok x)(c:m.length=N):wB m∈l.map wB↔m∈l:=by
 constructor
 ·intro h
  obtain⟨x,a,e⟩:=LP.1 h;obtain rfl:=wC (by rw[(b x a).1];exact d) (by rw[(b x a).1,c]) e;exact a
 ·exact fun h=>LP.2 ⟨m,h,rfl⟩
set_option maxHeartbeats 1000000 in
theorem FT{B:Nat}(w0:World){c:SC}{s:Sr}{nx:List (List cE)}(hS:Srch w0 B c s nx)(hBw:B≤w0.heap.size){mo:Option Addr}{mc:Nat}{m:List Int}(hm:Sl w0 (Fb c w0) mo mc m)(hmT:RowT (Fb c w0) w0 1 (.slice mo m.length mc))(hN:m.length=c.N)(hT:Tok m)(fr:Int×Int):
  Rt Tryz.prog 99 [Pr c.sb,.slice mo m.length mc,.agg [Pq fr.1,Pq fr.2].toArray].toArray w0 fun v w'=>∃c',v=.tuple ⟨[Pq (Cy c.tok c.st s m fr).2.1,Pq (Cy c.tok c.st s m fr).2.2]⟩∧
   Srch w' B c' (Cy c.tok c.st s m fr).1 nx∧dJ c c'∧Chg (busyI c) w0 w'∧∀b,iP c' b→iP c b∨w0.heap.size≤b:=by
 have same:dJ c c:=⟨rfl,rfl,rfl,rfl,rfl,rfl,rfl,rfl⟩;have hbg:=iQ hS;refine dF Tryz.func99 Tryz.ntmps99 rfl rfl ?_;refine Pu ?_;refine dX rfl rfl rfl fun w1 o e1=>?_
 skip;refine dX rfl rfl rfl fun w2 t e2=>?_
 have hl3:=o.lt;have o:=o.ext e2;have e2:=e1.trans e2;have hS2:=hS.ext e2;have hm2:=Fb.to hm (.ofExt e2) (fun _ h=>.inl h);have f:=hS2.blk;have hz1:=e1.size;have T:∀b,iP c b→b≠w0.heap.size:=fun b p e=>by have:=hbg b p;omega
 have hn5:∀b,iP c b→b≠w1.heap.size:=fun b p e=>by have:=hbg b p;omega
 refine QH ?_;refine WL.st rfl rfl rfl f rfl rfl Pk (fun w3 p hg3=>?_);have o:=o.kept hg3 (fun e=>T c.sb (.inl rfl) (Nj e).symm);have t:=t.kept hg3 (fun e=>hn5 c.sb (.inl rfl) (Nj e).symm);have hS3:=hS2.last hg3 p;have hC3:Chg (busyI c) w0 w3:=(Chg.ofExt e2).grown hg3 Pi;have hm3:=Fb.to hm (bI hC3) (fun _ h=>.inl h);clear f hg3 hm2 hS2;refine QE ?_;refine WL.call rfl rfl rfl (kE w3 (fun x=>decide (x>c.tok)) (hm3.mono Pj (fun b p=>p.2.1)) (fun w hE i hi=>FnV.mk (cs:=[_]) (G2 w _ _ (o.ext hE) (p.ext hE)))) ?_;rintro _ w4 ⟨rfl,e4⟩
 have o:=o.ext e4;have t:=t.ext e4;have O:=hS3.ext e4;have A:Chg (busyI c) w0 w4:=⟨e4.os.trans hC3.os,e4.tape.trans hC3.tape,e4.output.trans hC3.output,MH hC3.size e4.size,fun b p hn=>(e4.block b (MK p hC3.size)).trans (hC3.block b p hn)⟩;have hm4:=Fb.to hm (bI A) (fun _ h=>.inl h);clear p hS3 hm3 e4;unfold Cy;refine PM ?_;apply CW.cond rfl<;>intro h
 ·rw[OE (show G3 c.tok m=true from h)]
  refine QJ ?_;exact bf rfl rfl rfl ⟨c,rfl,O,same,A,fun _ h=>.inl h⟩
 rw[OD (show¬G3 c.tok m=true by rw[show G3 c.tok m=false from h];decide)];have hkey:=wD hT;have hmem:=wH O.lim.2.2.2.2 O.ok hN;have hmold:Sl w4 (c7 w4) mo mc m:=hm4.mono Pj (fun b p=>p.2.1);have h30:m.length≤30:=by rw[hN];exact O.lim.2.2.2.2
 have f:=O.blk;dsimp only at f hmem
 refine Q8 ?_;refine QL.call rfl rfl rfl (fun w hE=>wu w (hmold.up hE) h30 hT) ?_;by_cases hin:m∈s.1
 ·rw[OE hin]
  obtain⟨j,hj,hjm⟩:=LO.1 hin;rw[B0 hj hS.nd hjm];refine dw (j:=j) (by simpa using hj) (by rw[K7,hjm]) rfl rfl rfl rfl O.num hkey ?_;refine Rf ?_;refine QL.nil (fun W Z=>?_);have J:Chg (busyI c) w0 W:=⟨Z.os.trans A.os,Z.tape.trans A.tape,Z.output.trans A.output,MH A.size Z.size,fun b p hn=>(Z.block b (MK p A.size)).trans (A.block b p hn)⟩;refine Q3 ?_;exact bf rfl rfl rfl ⟨c,rfl,O.ext Z,same,J,fun _ h=>.inl h⟩
 rw[OD hin];refine dv rfl rfl rfl rfl O.num hkey (fun h=>hin (hmem.1 h)) ?_;refine Rf ?_;refine QL.nil (fun W Z=>?_);have o:=o.ext Z;have t:=t.ext Z;have J:Chg (busyI c) w0 W:=⟨Z.os.trans A.os,Z.tape.trans A.tape,Z.output.trans A.output,MH A.size Z.size,fun b p hn=>(Z.block b (MK p A.size)).trans (A.block b p hn)⟩;have V:=O.ext Z;clear f hm4 hmold O Z;obtain⟨sb,mb,mv,nv,ov,mvs,nvs,p1,p2,tok,st,N,xt,lo⟩:=c;dsimp only at*
 have hmoA:=V.mo;have hooA:=V.oo;dsimp only at hmoA hooA
 obtain⟨ao,ac,rfl⟩:=hmoA.val;obtain⟨oo,oc,rfl⟩:=hooA.val;have U:=V.mi.len;dsimp only at U
 have f:=V.blk;have hlim:=V.lim;dsimp only at hlim f
 rw[U]at f
 refine QD ?_;apply CW.cond rfl<;>intro h
 ·have h:(s.1.length:Int)=st:=by simpa using h
  rw[OE h];refine QJ ?_;exact bf rfl rfl rfl ⟨_,rfl,V,same,J,fun _ h=>.inl h⟩
 have h:¬(s.1.length:Int)=st:=by simpa using h
 rw[OD h];have hm5:=Fb.to hm (bI J) (fun _ h=>.inl h);have hmo5:Sl W (c7 W) mo mc m:=hm5.mono Pj (fun b p=>p.2.1);have d:=V.dis;have n:Ext W (drew W):=Ext.drew W;have q:=f.lt;have hlmb:=V.num.lt;have hl35:=o.lt;have hz5:=J.size;have R:=o.ext n;have r:=f.ext n;have hK3:∀u,(fun x:World=>x.heap[w0.heap.size]?=(drew W).heap[w0.heap.size]?∧x.heap[sb]?=(drew W).heap[sb]?) u→u.heap[w0.heap.size]?=(drew W).heap[w0.heap.size]?:=fun _ h=>h.1
 have hKs:∀u,(fun x:World=>x.heap[w0.heap.size]?=(drew W).heap[w0.heap.size]?∧x.heap[sb]?=(drew W).heap[sb]?) u→u.heap[sb]?=(drew W).heap[sb]?:=fun _ h=>h.2
 refine QT ?_;refine aF (fun x:World=>x.heap[w0.heap.size]?=(drew W).heap[w0.heap.size]?∧x.heap[sb]?=(drew W).heap[sb]?) [(0,true),(1,true),(2,true),(3,true),(4,true),(6,true),(5,false),(7,false)] mixed O1 ⟨rfl,rfl⟩ ?_;refine RC ?_;refine cr rfl (WL.call rfl rfl rfl (wu (drew W) (hmo5.up n) h30 hT) ?_);rintro _ w6 ⟨rfl,e6⟩
 have P:=n.trans e6;refine WL.nil (a_ ⟨e6.block _ (MK hl35 n.size),e6.block _ (MK q n.size)⟩ ?_);have hS6:=V.ext P;have hnum6:=hS6.num;dsimp only at hnum6
 skip;refine cr rfl (fk (ks:=s.1.map wB) rfl rfl rfl (by simp[ev,fnd,Ln]) hnum6 hkey (fun h=>hin (hmem.1 h)) (fun K hnum7 M=>?_));have hl31:w0.heap.size≠mb:=fun e=>T mb (.inr (.inl rfl)) e.symm
 refine WL.nil (a_ ⟨?_,?_⟩ (HL.nil ?_))
 ·exact(M.block _ (MK hl35 P.size) (fun e=>hl31 (Nj e))).trans (e6.block _ (MK hl35 n.size))
 ·exact(M.block _ (MK q P.size) (fun e=>d.d01 (Nj e))).trans (e6.block _ (MK q n.size))
 have o:Blk K w0.heap.size 116 [Pr sb]:=(R.ext e6).kept M (fun e=>hl31 (Nj e));have t:Blk K w1.heap.size 122 [Pq fr.1,Pq fr.2]:=(t.ext P).kept M (fun e=>hn5 mb (.inr (.inl rfl)) (Nj e).symm);have f:Blk K sb 124 _:=(r.ext e6).kept M (fun e=>d.d01 (Nj e));have hmo:=hS6.mo.keptN M (fun g k e=>d.d12 g e.symm k);have L:=hS6.no.keptN M (fun g k e=>d.d13 g e.symm k);have hoo:=hS6.oo.keptN M (fun g k e=>d.d14 g e.symm k);dsimp only at hmo L hoo
 rw[U]at hmo
 have hC7:Chg (busyI ⟨sb,mb,.slice ao mvs.length ac,nv,.slice oo s.2.1.length oc,mvs,nvs,p1,p2,tok,st,N,xt,lo⟩) w0 K:=
  (⟨P.os.trans J.os,P.tape.trans J.tape,P.output.trans J.output,MH J.size P.size,fun b p hn=>(P.block b (MK p J.size)).trans (J.block b p hn)⟩:Chg _ w0 w6).grown M (fun g k=>by cases k;exact .inr (.inl rfl))
 rw[U]at hC7 T hn5 hbg d
 have hz7:=hC7.size;clear hnum6 hS6 hK3 hKs R r M e6 P n;have n:Ext K (drew K):=Ext.drew K;have q:=f.lt;have X:=o.lt;have hl57:=t.lt;have R:=o.ext n;have hb5d:=t.ext n;have r:=f.ext n;have hK3:∀u,(fun x:World=>x.heap[w0.heap.size]?=(drew K).heap[w0.heap.size]?∧x.heap[sb]?=(drew K).heap[sb]?) u→u.heap[w0.heap.size]?=(drew K).heap[w0.heap.size]?:=fun _ h=>h.1
 have hKs:∀u,(fun x:World=>x.heap[w0.heap.size]?=(drew K).heap[w0.heap.size]?∧x.heap[sb]?=(drew K).heap[sb]?) u→u.heap[sb]?=(drew K).heap[sb]?:=fun _ h=>h.2
 have hlen200:s.1.length≤200:=by omega
 refine QT ?_;refine aE (fun x:World=>x.heap[w0.heap.size]?=(drew K).heap[w0.heap.size]?∧x.heap[sb]?=(drew K).heap[sb]?) [(0,true),(1,true),(2,true),(3,true),(4,true),(5,true),(6,true),(7,false),(8,false),(9,false),(10,false),(11,false)] 12 mixed O1 ⟨rfl,rfl⟩ ?_;refine RC ?_;refine bV (α:=Raw) (F:=cZ) (bytes:=24) (yv:=(⟨.slice mo m.length mc⟩:Raw)) rfl rfl rfl rfl O_ rfl rfl O_ (hmo.extN n) (Rd.mkRaw _ _ _ rfl) (MH hBw (MH hz7 n.size)) Pc O2 (by rw[U];unfold maxLen;omega) (by rw[U];omega)
  (fun z hz=>⟨hz.block _ (MK X n.size) (fun e=>T _ (.inr (.inr (.inl e.symm))) rfl),hz.block _ (MK q n.size) (fun e=>d.d02 _ rfl e.symm)⟩) (fun mv' w9 p9 ho9 H hnb9=>?_)
 obtain⟨ao',ac',rfl⟩:=ho9.val;have o:=R.kept H (fun e=>T _ (.inr (.inr (.inl e.symm))) rfl);have t:=hb5d.kept H (fun e=>hn5 _ (.inr (.inr (.inl e.symm))) rfl);have f:=r.kept H (fun e=>d.d02 _ rfl e.symm);have G:=(hnum7.ext n).kept H (fun e=>d.d12 _ rfl e.symm);have L:=(L.extN n).keptN H (fun g k e=>d.d23 g e.symm k);have hoo:=(hoo.extN n).keptN H (fun g k e=>d.d24 g e.symm k);have hS9:w9.heap[w0.heap.size]?=(drew K).heap[w0.heap.size]?∧w9.heap[sb]?=(drew K).heap[sb]?:=⟨H.block _ (MK X n.size) (fun e=>T _ (.inr (.inr (.inl e.symm))) rfl),H.block _ (MK q n.size) (fun e=>d.d02 _ rfl e.symm)⟩;refine cr rfl (fh rfl rfl rfl (WL.nil (a_ hS9 ?_)));refine cr rfl (eG rfl rfl rfl (WL.nil (a_ hS9 ?_)));refine cr rfl (eG rfl rfl rfl (WL.nil (a_ hS9 (HL.nil ?_))));refine bp rfl (WL.st rfl rfl rfl f rfl rfl Pk (fun l f y=>WL.nil (bu ?_)));have hz9:=H.size;have hzd:=n.size;have Q:∀g,Value.ownBlock (.slice ao' (mvs++[(⟨.slice mo m.length mc⟩:Raw)]).length ac')=some g→Value.ownBlock (.slice ao s.1.length ac)=some g∨K.heap.size≤g:=fun g k=>(hnb9 g k).imp id (fun h=>MH hzd h)
 have D:∀b,iP ⟨sb,mb,.slice ao s.1.length ac,nv,.slice oo s.2.1.length oc,mvs,nvs,p1,p2,tok,st,N,xt,lo⟩ b→b<K.heap.size:=fun b p=>MK (hbg b p).2 hz7
 have n2:ap (Value.ownBlock (.slice ao' (mvs++[(⟨.slice mo m.length mc⟩:Raw)]).length ac')) (some sb):=d.d02.sym.new Q (fun g k=>by cases k;exact D _ (.inl rfl));have n12:ap (Value.ownBlock (.slice ao' (mvs++[(⟨.slice mo m.length mc⟩:Raw)]).length ac')) (some mb):=d.d12.sym.new Q (fun g k=>by cases k;exact D _ (.inr (.inl rfl)));have n23:ap (Value.ownBlock (.slice ao' (mvs++[(⟨.slice mo m.length mc⟩:Raw)]).length ac')) nv.ownBlock:=d.d23.new Q (fun g k=>D _ (.inr (.inr (.inr (.inl k)))));have n24:ap (Value.ownBlock (.slice ao' (mvs++[(⟨.slice mo m.length mc⟩:Raw)]).length ac')) (Value.ownBlock (.slice oo s.2.1.length oc)):=d.d24.new Q (fun g k=>D _ (.inr (.inr (.inr (.inr (.inl k))))));have n25:ap (Value.ownBlock (.slice ao' (mvs++[(⟨.slice mo m.length mc⟩:Raw)]).length ac')) xt.ownBlock:=d.d25.new Q (fun g k=>D _ (.inr (.inr (.inr (.inr (.inr k))))));have o:=o.kept y (fun e=>T sb (.inl rfl) (Nj e).symm);have t:=t.kept y (fun e=>hn5 sb (.inl rfl) (Nj e).symm);have G:=G.kept y (fun e=>d.d01 (Nj e).symm);have ho10:=ho9.keptN y (fun g k e=>n2 g k e.symm);have L:=L.keptN y (fun g k e=>d.d03 g e.symm k);have hoo:=hoo.keptN y (fun g k e=>d.d04 g e.symm k);have hC10:=((hC7.grown (⟨n.os,n.tape,n.output,n.size,fun b p _=>n.block b p⟩:K.grownBy (drew K) none) (fun g k=>by cases k)).grown H (fun g k=>.inr (.inr (.inl k)))).grown y Pi;have hz10:=hC10.size;have hz710:K.heap.size≤l.heap.size:=MH hzd (MH hz9 y.size);have hlt10:∀g,Value.ownBlock (.slice ao' (mvs++[(⟨.slice mo m.length mc⟩:Raw)]).length ac')=some g→g<l.heap.size:=fun g k=>(ho10.lt g k).2.1
 clear hmo hnum7 r R hb5d hK3 hKs n H y ho9 hS9;have n:Ext l (drew l):=Ext.drew l;have q:=f.lt;have X:=o.lt;have hl57:=t.lt;have R:=o.ext n;have hb5d:=t.ext n;have r:=f.ext n;have hK3:∀u,(fun x:World=>x.heap[w0.heap.size]?=(drew l).heap[w0.heap.size]?∧x.heap[sb]?=(drew l).heap[sb]?∧x.heap[w1.heap.size]?=(drew l).heap[w1.heap.size]?) u→u.heap[w0.heap.size]?=(drew l).heap[w0.heap.size]?:=fun _ h=>h.1
 have hKs:∀u,(fun x:World=>x.heap[w0.heap.size]?=(drew l).heap[w0.heap.size]?∧x.heap[sb]?=(drew l).heap[sb]?∧x.heap[w1.heap.size]?=(drew l).heap[w1.heap.size]?) u→u.heap[sb]?=(drew l).heap[sb]?:=fun _ h=>h.2.1
 have hK5:∀u,(fun x:World=>x.heap[w0.heap.size]?=(drew l).heap[w0.heap.size]?∧x.heap[sb]?=(drew l).heap[sb]?∧x.heap[w1.heap.size]?=(drew l).heap[w1.heap.size]?) u→u.heap[w1.heap.size]?=(drew l).heap[w1.heap.size]?:=fun _ h=>h.2.2
 refine QT ?_;refine aE (fun x:World=>x.heap[w0.heap.size]?=(drew l).heap[w0.heap.size]?∧x.heap[sb]?=(drew l).heap[sb]?∧x.heap[w1.heap.size]?=(drew l).heap[w1.heap.size]?) [(0,true),(1,true),(2,true),(3,true),(4,true),(5,true),(6,false),(7,false),(8,false),(9,false)] 10 mixed O1 ⟨rfl,rfl,rfl⟩ ?_;refine RC ?_;refine cf hK5 rfl rfl rfl rfl hb5d rfl ?_;refine bV (α:=Int×Int) (F:=cZ) (bytes:=16) (yv:=fr) rfl rfl rfl rfl O_ rfl rfl O_ (hoo.extN n) (Rd.mkPr (c1:=[Pq fr.1]) (c2:=[Pq fr.2]) (CZ _ _ _) (CZ _ _ _)) (MH hBw (MH hz10 n.size)) Pc O2 (by rw[hlim.2.2.2.1];unfold maxLen;omega) (by rw[hlim.2.2.2.1];omega)
  (fun z hz=>⟨hz.block _ (MK X n.size) (fun e=>T _ (.inr (.inr (.inr (.inr (.inl e.symm))))) rfl),hz.block _ (MK q n.size) (fun e=>d.d04 _ rfl e.symm),hz.block _ (MK hl57 n.size) (fun e=>hn5 _ (.inr (.inr (.inr (.inr (.inl e.symm))))) rfl)⟩) (fun ov' w12 p12 ho12 E hnb12=>?_)
 obtain⟨oo',oc',rfl⟩:=ho12.val;have f:=r.kept E (fun e=>d.d04 _ rfl e.symm);have G:=(G.ext n).kept E (fun e=>d.d14 _ rfl e.symm);have L:=(L.extN n).keptN E (fun g k e=>d.d34 g k e.symm);have ho10:=(ho10.extN n).keptN E (fun g k e=>n24 g k e.symm);have hS12:w12.heap[w0.heap.size]?=(drew l).heap[w0.heap.size]?∧w12.heap[sb]?=(drew l).heap[sb]?∧w12.heap[w1.heap.size]?=(drew l).heap[w1.heap.size]?:=⟨E.block _ (MK X n.size) (fun e=>T _ (.inr (.inr (.inr (.inr (.inl e.symm))))) rfl),E.block _ (MK q n.size) (fun e=>d.d04 _ rfl e.symm),E.block _ (MK hl57 n.size) (fun e=>hn5 _ (.inr (.inr (.inr (.inr (.inl e.symm))))) rfl)⟩;refine cr rfl (fh rfl rfl rfl (WL.nil (a_ hS12 ?_)));refine cr rfl (eG rfl rfl rfl (WL.nil (a_ hS12 (HL.nil ?_))));refine bp rfl (WL.st rfl rfl rfl f rfl rfl Pk (fun w13 f Y=>WL.nil (bu ?_)));have hzd:=n.size;have C:∀g,Value.ownBlock (.slice oo' (s.2.1++[fr]).length oc')=some g→Value.ownBlock (.slice oo s.2.1.length oc)=some g∨l.heap.size≤g:=fun g k=>(hnb12 g k).imp id (fun h=>MH hzd h)
 have m4:ap (Value.ownBlock (.slice oo' (s.2.1++[fr]).length oc')) (some sb):=d.d04.sym.new C (fun g k=>by cases k;exact q);have m14:ap (Value.ownBlock (.slice oo' (s.2.1++[fr]).length oc')) (some mb):=d.d14.sym.new C (fun g k=>by cases k;exact MK (D _ (.inr (.inl rfl))) hz710);have m34:ap (Value.ownBlock (.slice oo' (s.2.1++[fr]).length oc')) nv.ownBlock:=d.d34.sym.new C (fun g k=>MK (D _ (.inr (.inr (.inr (.inl k))))) hz710);have m24:ap (Value.ownBlock (.slice oo' (s.2.1++[fr]).length oc')) (Value.ownBlock (.slice ao' (mvs++[(⟨.slice mo m.length mc⟩:Raw)]).length ac')):=n24.sym.new C hlt10;have m45:ap (Value.ownBlock (.slice oo' (s.2.1++[fr]).length oc')) xt.ownBlock:=d.d45.new C (fun g k=>MK (D _ (.inr (.inr (.inr (.inr (.inr k)))))) hz710);have L:=L.keptN Y (fun g k e=>d.d03 g e.symm k);have G:=G.kept Y (fun e=>d.d01 (Nj e).symm);have hmoF:=ho10.keptN Y (fun g k e=>n2 g k e.symm);have hooF:=ho12.keptN Y (fun g k e=>m4 g k e.symm);have S:=((hC10.grown (⟨n.os,n.tape,n.output,n.size,fun b p _=>n.block b p⟩:l.grownBy (drew l) none) (fun g k=>by cases k)).grown E (fun g k=>.inr (.inr (.inr (.inr (.inl k)))))).grown Y Pi;have I:∀b,iP ⟨sb,mb,.slice ao' (mvs++[(⟨.slice mo m.length mc⟩:Raw)]).length ac',nv,.slice oo' (s.2.1++[fr]).length oc',mvs++[(⟨.slice mo m.length mc⟩:Raw)],nvs,p1,p2,tok,st,N,xt,lo⟩ b→
   iP ⟨sb,mb,.slice ao s.1.length ac,nv,.slice oo s.2.1.length oc,mvs,nvs,p1,p2,tok,st,N,xt,lo⟩ b∨w0.heap.size≤b:=by
  intro b p
  rcases p with h|h|h|h|h|h
  ·exact .inl (.inl h)
  ·exact .inl (.inr (.inl h))
  ·exact(Q b h).imp (fun h=>.inr (.inr (.inl h))) (fun h=>by omega)
  ·exact .inl (.inr (.inr (.inr (.inl h))))
  ·exact(C b h).imp (fun h=>.inr (.inr (.inr (.inr (.inl h))))) (fun h=>by omega)
  ·exact .inl (.inr (.inr (.inr (.inr (.inr h)))))
 rw[U]at hS hm hmT same
 have hmi:=(hS.mi.to (bI S) I).push (Fb.to hm (bI S) I) (Fb.toT hmT (bI S) I);have hni:=hS.ni.to (bI S) I;dsimp only at hmi hni
 have hml2:(mvs++[(⟨.slice mo m.length mc⟩:Raw)]).length=s.1.length+1:=by rw[Lg,U];rfl
 refine QJ ?_;rw[U];refine bf rfl rfl rfl ⟨⟨sb,mb,.slice ao' (mvs++[(⟨.slice mo m.length mc⟩:Raw)]).length ac',nv,.slice oo' (s.2.1++[fr]).length oc',mvs++[(⟨.slice mo m.length mc⟩:Raw)],nvs,p1,p2,tok,st,N,xt,lo⟩,rfl,?_,same,S,I⟩;refine⟨f,?_,hmoF,L,hooF,hmi,hni,hS.ge,hS.lob,(fun g k=>⟨(hS.xo g k).1,MK (hS.xo g k).2 S.size⟩),⟨d.d01,n2.sym,d.d03,m4.sym,n12.sym,d.d13,m14.sym,n23,m24.sym,m34.sym,d.d05,d.d15,n25,d.d35,m45⟩,?_,?_,?_⟩
 ·dsimp only
  rw[Lz];exact G
 ·intro x hx
  rcases LF.1 hx with hx|hx
  ·exact hS.ok x hx
  ·rw[LV]at hx;subst hx;exact⟨hN,hT⟩
 ·rw[LY]
  refine⟨hS.nd,by simp,fun a ha b p e=>?_⟩;rw[LV]at p
  subst p;subst e;exact hin ha
 ·have:=hlim
  dsimp only;simp only[Lg,Lh,Lo];omega
end Go.Proofs.YtodmkmobdmcfbaaGreatDoor
