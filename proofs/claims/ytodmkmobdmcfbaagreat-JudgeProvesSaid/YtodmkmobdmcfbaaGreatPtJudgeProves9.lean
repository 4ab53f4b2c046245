import Derived.Test.YtodmkmobdmcfbaaGreatPtJudgeProves8
set_option linter.unusedVariables false
set_option linter.unusedSimpArgs false
set_option linter.defProp false
namespace Go.Proofs.YtodmkmobdmcfbaaGreat
open Go.RowKit
instance u_:IsFd Tryz.prog 160 0 0:=IsFd.of OT
instance vb:IsFd Tryz.prog 160 1 1:=IsFd.of OT
instance vd:IsZC Tryz.prog 160 [.slice none 0 0,.slice none 0 0]:=IsZC.of (z:=.agg #[.slice none 0 0,.slice none 0 0]) OT rfl
instance ve:IsBd Tryz.prog 160 [(0,1),(1,1)]:=IsBd.of OT
structure MkA(w:World)(sb:Nat)(m:cY):Prop where
 ok:∃ao ac po pc,Blk w sb 160 [.slice ao m.1.length ac,.slice po m.2.length pc]∧Sl w (c9 w) ao ac m.1∧Sl w (c9 w) po pc m.2
theorem MkA.ext{w w':World}{sb:Nat}{m:cY}(h:MkA w sb m)(a:Ext w w'):MkA w' sb m:=by
 obtain⟨ao,ac,b,c,h1,h2,h3⟩:=h.ok;exact⟨ao,ac,b,c,h1.ext a,h2.up a,h3.up a⟩
theorem By(w:World)(b:Nat){t g:Ltl}{ao go:Option Addr}{ac gc:Nat}(d:Blk w b 32 [Pj t.k,Pj t.n,.slice ao t.kids.length ac])(e:Sl w (c9 w) ao ac t.kids)(f:Sl w (c9 w) go gc g.kids):
  Rt Tryz.prog 197 [yj g.k g.n go g.kids.length gc,Pk b].toArray w fun v w'=>v=.bool (EB t g)∧Ext w w':=by
 refine dH Tryz.func197 Tryz.ntmps197 rfl rfl ?_;refine Pm ?_;refine dZ rfl rfl rfl fun c h a=>?_
 have d:=d.ext a;refine Pw ?_;refine WL.call rfl rfl rfl (Cq _ t g Pf c (c9 c) ao go ac gc (e.up a) (f.up a) O8) ?_;rintro _ j ⟨rfl,i⟩
 refine Pr ?_;exact be rfl rfl ⟨rfl,a.trans i⟩
theorem BH(w:World){sb:Nat}{m:cY}{t:Ltl}{ko:Option Addr}{kc:Nat}(n:MkA w sb m)(j:Sl w (c9 w) ko kc t.kids):
  Rt Tryz.prog 150 [Pk sb,yj t.k t.n ko t.kids.length kc].toArray w fun v w'=>v=Pj (BB m t)∧Ext w w':=by
 refine dH Tryz.func150 Tryz.ntmps150 rfl rfl ?_;refine Pm ?_;refine dZ rfl rfl rfl fun g c d=>?_
 obtain⟨ao,ac,p,q,f,h1,h2⟩:=(n.ext d).ok;refine Qq ?_;refine WL.call rfl rfl rfl (vJ g (EB t) h2 (fun e a i hi u h=>?_)) ?_
 ·obtain⟨go,gc,rfl,k⟩:=Rd.ltl h
  exact FnV.mk (cs:=[_]) (By e _ (c.ext a) (j.up (d.trans a)) (k.mono Pc (fun b l=>MQ l a.size)))
 rintro _ e ⟨rfl,o⟩
 refine Pr ?_;exact be rfl rfl ⟨rfl,d.trans o⟩
theorem kp{s i:Nat}:((((s >>> i&&&1:Nat):Int))==1)=s.testBit i:=by
 rw[JO,←Ft];simp only[Ob];omega
theorem kq(w0:World){sb:Nat}{m:cY}{t:Ltl}{s:Nat}{ko:Option Addr}{kc:Nat}(o:MkA w0 sb m)(r:Sl w0 (c9 w0) ko kc t.kids)(A:s<1048576)(B:m.1.length≤20∧m.2.length≤20)(h3:t.k=3→t.n∈m.1)(q:t.k≠3→t∈m.2):
  Rt Tryz.prog 153 [Pk sb,yj t.k t.n ko t.kids.length kc,Pj (s:Int)].toArray w0 fun v w'=>v=.bool (kj m s t)∧Ext w0 w':=by
 refine dI Tryz.func153 Tryz.ntmps153 rfl rfl ?_;refine Pm ?_;refine dZ rfl rfl rfl fun a l g=>?_
 obtain⟨ao,ac,w,x,e,h1,h2⟩:=(o.ext g).ok;have c:∀i:Nat,s >>> i<4611686018427387904:=fun i=>by have:=M7 s i;omega
 have b:=Ext.drew a;have u:∀z,(fun z:World=>Ext (drew a) z) z→Ext (drew a) z:=fun _ h=>h
 have k:=e.ext b;have n:=l.ext b;refine QE ?_;apply CW.cond rfl<;>intro h
 ·have h:t.k=3:=by simpa using h
  obtain⟨i,hi,d,_⟩:=gK (h3 h);have j:kj m s t=s.testBit i:=by unfold kj;rw[Ov h,d,Kd]
  rw[j];refine PD ?_;refine aF (fun z:World=>Ext (drew a) z) [(0,true),(1,true),(2,true),(3,true),(4,true),(5,true),(6,true),(7,false),(8,true),(9,true),(10,true),(11,true)] mixed OT Ph ?_;refine Ra ?_;refine cu rfl (WL.call rfl rfl rfl (vM (drew a) t.n (h1.up b)) ?_);rintro _ p ⟨rfl,f⟩
  refine WL.nil (a_ f ?_);rw[show idxOf (fun y=>t.n==y) m.1=(i:Int) from d];skip;refine cB rfl rfl rfl rfl rfl OS ?_;refine Rf ?_;rw[show bits .and .i64 ((s >>> i:Nat):Int) 1=((s >>> i&&&1:Nat):Int) from iF _ 1 (c i) OS,kp];skip;refine PN ?_;exact be rfl rfl ⟨rfl,(g.trans b).trans f⟩
 ·have h:t.k≠3:=by simpa using h
  obtain⟨i,hi,d,_⟩:=BD (q h);have j:kj m s t=s.testBit (m.1.length+i):=by unfold kj;rw[Ou h,d,Kd]
  rw[j];refine P8 ?_;refine aF (fun z:World=>Ext (drew a) z) [(0,true),(1,true),(2,true),(3,true),(4,true),(5,true),(6,true),(7,true),(8,false),(9,true),(10,true),(11,true),(12,true),(13,true)] mixed OT Ph ?_;refine Q9 ?_;refine cu rfl (WL.call rfl rfl rfl (BH (drew a) (t:=t) ((o.ext g).ext b) (r.up (g.trans b))) ?_);rintro _ p ⟨rfl,f⟩
  refine WL.nil (a_ f ?_);rw[d];refine Q8 ?_;rw[show((m.1.length:Nat):Int)+(i:Int)=((m.1.length+i:Nat):Int) by omega];refine cB rfl rfl rfl rfl rfl OS ?_;refine Rf ?_;rw[show bits .and .i64 ((s >>> (m.1.length+i):Nat):Int) 1=((s >>> (m.1.length+i)&&&1:Nat):Int) from iF _ 1 (c _) OS,kp];skip;refine Pz ?_;exact be rfl rfl ⟨rfl,(g.trans b).trans f⟩
theorem IN:∀t,IK t→t=.mk 1 0 []∨t=.mk 2 0 []∨(∃n,t=.mk 3 n [])∨(∃k a,(k=4∨k=7∨k=10∨k=11)∧t=.mk k 0 [a])∨∃k a b,(k=5∨k=6∨k=8∨k=9)∧t=.mk k 0 [a,b]:=
 IP (M:=fun t=>t=.mk 1 0 []∨t=.mk 2 0 []∨(∃n,t=.mk 3 n [])∨(∃k a,(k=4∨k=7∨k=10∨k=11)∧t=.mk k 0 [a])∨∃k a b,(k=5∨k=6∨k=8∨k=9)∧t=.mk k 0 [a,b])
  (.inl rfl) (.inr (.inl rfl)) (fun n _ _=>.inr (.inr (.inl ⟨n,rfl⟩))) (fun k a c _ _=>.inr (.inr (.inr (.inl ⟨k,a,c,rfl⟩)))) (fun k a b c _ _ _ _=>.inr (.inr (.inr (.inr ⟨k,a,b,c,rfl⟩))))
set_option maxHeartbeats 2000000 in
theorem G7:∀(d:Nat) (t:Ltl),t.nodes≤d→∀(w0:World) {sb:Nat} {m:cY} {s:Nat} {ko:Option Addr} {kc:Nat},MkA w0 sb m→OkF m t→Sl w0 (c9 w0) ko kc t.kids→s<1048576→(m.1.length≤20∧m.2.length≤20)→
  Rt Tryz.prog 81 [Pk sb,yj t.k t.n ko t.kids.length kc,Pj (s:Int)].toArray w0 fun v w'=>v=.bool (sa m s t)∧Ext w0 w':=by
 intro d
 induction d with
 |zero=>intro t h;have:=t.nodes_pos;omega
 |succ d D=>
  intro t hd w0 sb m s ko kc A hF y w x
  have J:=hF.cov;rcases IN t hF.wf with rfl|rfl|⟨n,rfl⟩|⟨k,a,G,rfl⟩|⟨k,a,b,G,rfl⟩
  ·refine dI Ny NA rfl rfl ?_
   rw[ho1];refine Pm ?_;refine dZ rfl rfl rfl fun p c e=>?_
   refine Qs ?_;exact be rfl rfl ⟨rfl,e⟩
  ·refine dI Ny NA rfl rfl ?_
   rw[ho2];refine Pm ?_;refine dZ rfl rfl rfl fun p c e=>?_
   refine Qs ?_;exact be rfl rfl ⟨rfl,e⟩
  ·simp only[Cov]at J
   have h3:=ho3 (m:=m) (s:=s) (n:=n);refine dI Ny NA rfl rfl ?_;refine Pm ?_;refine dZ rfl rfl rfl fun p c e=>?_
   refine Qh ?_;refine WL.call rfl rfl rfl (kq p (t:=.mk 3 n []) (A.ext e) (y.up e) w x (fun _=>J.1 trivial) (fun h=>absurd rfl h)) ?_;rintro _ C ⟨rfl,f⟩
   refine Pr ?_;exact be rfl rfl ⟨by rw[h3];rfl,e.trans f⟩
  ·have H:=hF.un
   have z:a.nodes≤d:=by simp only[Ltl.nodes,Ltl.nodesL]at hd;omega
   rcases G with rfl|rfl|rfl|rfl
   ·refine dI Ny NA rfl rfl ?_
    rw[ho4];refine Pm ?_;refine dZ rfl rfl rfl fun p c e=>?_
    refine PM ?_;refine eE (i:=0) rfl rfl rfl rfl rfl (y.up e) (by simp[Ltl.kids]) O3 (fun u q o=>?_);obtain⟨uo,uc,rfl,g⟩:=Rd.ltl (t:=a) o;refine QO ?_;refine WL.call rfl rfl rfl (D a z p (A.ext e) H g w x) ?_;rintro _ C ⟨rfl,f⟩
    refine P4 ?_;exact be rfl rfl ⟨rfl,e.trans f⟩
   ·simp only[Cov]at J
    have N:=ho7 (m:=m) (s:=s) (n:=0) (a:=a);refine dI Ny NA rfl rfl ?_;refine Pm ?_;refine dZ rfl rfl rfl fun p c e=>?_
    refine Qh ?_;refine WL.call rfl rfl rfl (kq p (t:=.mk 7 0 [a]) (A.ext e) (y.up e) w x (fun h=>by cases h) (fun _=>J.2.1 OW)) ?_;rintro _ C ⟨rfl,f⟩
    refine Pr ?_;exact be rfl rfl ⟨by rw[N];rfl,e.trans f⟩
   ·have:=hF.h10;simp[r9]at this
   ·have:=hF.h11;simp[r9]at this
  ·have H:=hF.b1
   have K:=hF.b2;have z:a.nodes≤d:=by simp only[Ltl.nodes,Ltl.nodesL]at hd;omega
   have E:b.nodes≤d:=by simp only[Ltl.nodes,Ltl.nodesL]at hd;omega
   rcases G with rfl|rfl|rfl|rfl
   ·refine dI Ny NA rfl rfl ?_
    rw[ho5];refine Pm ?_;refine dZ rfl rfl rfl fun p c e=>?_
    refine PM ?_;refine eE (i:=0) rfl rfl rfl rfl rfl (y.up e) (by simp[Ltl.kids]) O3 (fun u q o=>?_);obtain⟨uo,uc,rfl,g⟩:=Rd.ltl (t:=a) o;refine QO ?_;refine WL.call rfl rfl rfl (D a z p (A.ext e) H g w x) ?_;rintro _ C ⟨rfl,f⟩
    have c:=c.ext f;cases sa m s a
    ·refine PH ?_
     exact be rfl rfl ⟨rfl,e.trans f⟩
    ·refine QV ?_
     refine eE (i:=1) rfl rfl rfl rfl rfl (y.up (e.trans f)) (by simp[Ltl.kids]) O3 (fun u q o=>?_);obtain⟨vo,vc,rfl,r⟩:=Rd.ltl (t:=b) o;refine QO ?_;refine WL.call rfl rfl rfl (D b E C (A.ext (e.trans f)) K r w x) ?_;rintro _ I ⟨rfl,F⟩
     refine P4 ?_;exact be rfl rfl ⟨rfl,(e.trans f).trans F⟩
   ·refine dI Ny NA rfl rfl ?_
    rw[ho6];refine Pm ?_;refine dZ rfl rfl rfl fun p c e=>?_
    refine PM ?_;refine eE (i:=0) rfl rfl rfl rfl rfl (y.up e) (by simp[Ltl.kids]) O3 (fun u q o=>?_);obtain⟨uo,uc,rfl,g⟩:=Rd.ltl (t:=a) o;refine QO ?_;refine WL.call rfl rfl rfl (D a z p (A.ext e) H g w x) ?_;rintro _ C ⟨rfl,f⟩
    have c:=c.ext f;cases sa m s a
    ·refine QV ?_
     refine eE (i:=1) rfl rfl rfl rfl rfl (y.up (e.trans f)) (by simp[Ltl.kids]) O3 (fun u q o=>?_);obtain⟨vo,vc,rfl,r⟩:=Rd.ltl (t:=b) o;refine QO ?_;refine WL.call rfl rfl rfl (D b E C (A.ext (e.trans f)) K r w x) ?_;rintro _ I ⟨rfl,F⟩
     refine P4 ?_;exact be rfl rfl ⟨rfl,(e.trans f).trans F⟩
    ·refine PH ?_
     exact be rfl rfl ⟨rfl,e.trans f⟩
   ·have B:=hF.cov
    simp only[Cov]at B
    refine dI Ny NA rfl rfl ?_;rw[ho8];refine Pm ?_;refine dZ rfl rfl rfl fun p c e=>?_
    refine PM ?_;refine eE (i:=1) rfl rfl rfl rfl rfl (y.up e) (by simp[Ltl.kids]) O3 (fun u q o=>?_);obtain⟨uo,uc,rfl,r⟩:=Rd.ltl (t:=b) o;refine QO ?_;refine WL.call rfl rfl rfl (D b E p (A.ext e) K r w x) ?_;rintro _ C ⟨rfl,f⟩
    have c:=c.ext f;have l:=e.trans f;cases sa m s b
    ·refine QV ?_
     refine eE (i:=0) rfl rfl rfl rfl rfl (y.up l) (by simp[Ltl.kids]) O3 (fun u q o=>?_);obtain⟨vo,vc,rfl,g⟩:=Rd.ltl (t:=a) o;refine QO ?_;refine WL.call rfl rfl rfl (D a z C (A.ext l) H g w x) ?_;rintro _ I ⟨rfl,F⟩
     have c:=c.ext F;have j:=l.trans F;cases sa m s a
     ·refine PH ?_
      exact be rfl rfl ⟨rfl,j⟩
     ·refine QY ?_
      refine WL.call rfl rfl rfl (kq I (t:=.mk 8 0 [a,b]) (A.ext j) (y.up j) w x (fun h=>by cases h) (fun _=>B.2.1 OW)) ?_;rintro _ M ⟨rfl,L⟩
      refine P4 ?_;exact be rfl rfl ⟨rfl,j.trans L⟩
    ·refine PH ?_
     exact be rfl rfl ⟨rfl,l⟩
   ·have B:=hF.cov
    simp only[Cov]at B
    refine dI Ny NA rfl rfl ?_;rw[ho9];refine Pm ?_;refine dZ rfl rfl rfl fun p c e=>?_
    refine PM ?_;refine eE (i:=1) rfl rfl rfl rfl rfl (y.up e) (by simp[Ltl.kids]) O3 (fun u q o=>?_);obtain⟨uo,uc,rfl,r⟩:=Rd.ltl (t:=b) o;refine QO ?_;refine WL.call rfl rfl rfl (D b E p (A.ext e) K r w x) ?_;rintro _ C ⟨rfl,f⟩
    have c:=c.ext f;have l:=e.trans f;cases sa m s b
    ·refine PH ?_
     exact be rfl rfl ⟨rfl,l⟩
    ·refine QV ?_
     refine eE (i:=0) rfl rfl rfl rfl rfl (y.up l) (by simp[Ltl.kids]) O3 (fun u q o=>?_);obtain⟨vo,vc,rfl,g⟩:=Rd.ltl (t:=a) o;refine QO ?_;refine WL.call rfl rfl rfl (D a z C (A.ext l) H g w x) ?_;rintro _ I ⟨rfl,F⟩
     have c:=c.ext F;have j:=l.trans F;cases sa m s a
     ·refine QY ?_
      refine WL.call rfl rfl rfl (kq I (t:=.mk 9 0 [a,b]) (A.ext j) (y.up j) w x (fun h=>by cases h) (fun _=>B.2.1 OW)) ?_;rintro _ M ⟨rfl,L⟩
      refine P4 ?_;exact be rfl rfl ⟨rfl,j.trans L⟩
     ·refine PH ?_
      exact be rfl rfl ⟨rfl,j⟩
theorem Bn(w:World){sb:Nat}{m:cY}{s:Nat}(b:MkA w sb m)(e:m.1.length≤20):Rt Tryz.prog 83 [Pk sb,Pj (s:Int)].toArray w fun v w'=>v=Pj ((s >>> m.1.length:Nat):Int)∧w=w':=by
 obtain⟨ao,ac,c,d,a,h1,h2⟩:=b.ok;refine dH Tryz.func83 Tryz.ntmps83 rfl rfl ?_;refine QH ?_;refine fx rfl rfl rfl rfl OS ?_;refine Pr ?_;exact be rfl rfl ⟨rfl,rfl⟩
theorem gt{n:Int}{a:Ltl}:gr (.mk 7 n [a])=a:=rfl
theorem gu{k n:Int}{l:List Ltl}(h:k=8∨k=9):gr (.mk k n l)=.mk k n l:=by
 unfold gr;rw[Ou (by simp only[Ltl.k];omega)]
set_option maxHeartbeats 1000000 in
theorem wy(w0:World){sb:Nat}{m:cY}{s:Nat}(R:MkA w0 sb m)(Q:OkT m)(X:s<1048576)(Y:m.1.length≤20∧m.2.length≤20):
  Rt Tryz.prog 80 [Pk sb,Pj (s:Int)].toArray w0 fun v w'=>v=Pj ((ww m s:Nat):Int)∧Ext w0 w':=by
 obtain⟨ao,ac,po,pc,Z,h1,h2⟩:=R.ok;have hpl:=h2.len63;refine dH Tryz.func80 Tryz.ntmps80 rfl rfl ?_;refine QH ?_;refine CW.loop (S:=Nat) (fun i=>[(0,Pk sb),(1,Pj (s:Int)),(5,Pj ((Bp (fun i=>sa m s (gr (m.2.getD i zC))) i:Nat):Int)),(12,.slice po m.2.length pc),(13,Pj m.2.length),(14,Pj i)])
  (fun i w=>i≤m.2.length∧Ext w0 w) (fun i=>m.2.length -i) 0 OR ⟨Nc _,Ext.refl _⟩ ?_
 rintro i w ⟨hi,I⟩
 have hpk:=Br (f:=fun i=>sa m s (gr (m.2.getD i zC))) (c:=i);have y:2 ^ i≤2 ^ 20:=M4 OS OS;refine Qw ?_;apply CW.cond rfl<;>intro h
 ·have j:i<m.2.length:=by simp at h;omega
  have F:m.2[i]∈m.2:=Lb j;have P:m.2.getD i zC=m.2[i]:=ru j;have hF:=Q.arg F;have N:=BI (Q.part F).wf (Q.ok.wp _ F).2.1;have d:Bp (fun i=>sa m s (gr (m.2.getD i zC))) (i+1)=if sa m s (gr m.2[i])=true then Bp (fun i=>sa m s (gr (m.2.getD i zC))) i|||(1 <<< i)else Bp (fun i=>sa m s (gr (m.2.getD i zC))) i:=by
   rw[Bp,P]
  have T:2 ^ i<4611686018427387904:=MP y OU;generalize Bp (fun i=>sa m s (gr (m.2.getD i zC))) i=acc at*
  have z:=iH acc (1 <<< i) OS (by rw[M2];exact T);refine Qv ?_;refine eE rfl rfl rfl rfl rfl (h2.up I) j O3 (fun u q M=>?_);generalize m.2[i]=g at*
  obtain⟨go,gc,rfl,C⟩:=Rd.ltl M;skip;refine WL.alloc rfl rfl (fun w1 l e1=>?_);have z1:=l.lt;refine QO ?_;refine WL.st rfl rfl rfl l rfl rfl Pd (fun W l E=>?_);have K:Ext w W:=e1.grown E e1.size O5;refine PV ?_;refine WL.alloc rfl rfl (fun w3 o V=>?_);have l:=l.ext V;skip;refine WL.st rfl rfl rfl o rfl rfl Pd (fun L o D=>?_);have J:Ext W L:=V.grown D V.size O5;have z2:=E.size;have n:=(I.trans K).trans J;have B:=C.up (K.trans J);have l:=l.kept D Pa;rcases N with⟨a,rfl⟩|⟨k,a,b,hk,rfl⟩
  ·rw[gt]at hF d
   refine Qm ?_;refine eE (i:=0) rfl rfl rfl rfl rfl (C.mono (w':=L) (fun b r=>(K.trans J).block b r) (F':=c9 w) O8) (by simp[Ltl.kids]) O3 (fun u q M=>?_);obtain⟨uo,uc,rfl,O⟩:=Rd.ltl (t:=a) M;skip;refine WL.st rfl rfl rfl o rfl rfl Pd (fun x o p=>?_);have U:Ext w0 x:=n.grown p n.size (fun g F=>by cases F;have:=I.size;omega);have z4:=(K.trans J).size;have z5:=p.size;have A:Sl x (c9 x) uo uc a.kids:=O.mono (fun b r=>p.block b (by have G:b<w.heap.size:=r;omega) (fun e=>by have:=Nn e;have G:b<w.heap.size:=r;omega)) (fun b r=>by have G:b<w.heap.size:=r;exact(show b<x.heap.size by omega));refine Pw ?_;refine WL.call rfl rfl rfl (G7 _ a Pf x (R.ext U) hF A X Y) ?_;rintro _ w6 ⟨rfl,H⟩
   cases hh:sa m s a
   ·rw[hh,Ou OU]at d
    refine QD ?_;refine EX.back (i+1) ?_ ⟨j,U.trans H⟩ OS;rw[d];exact OR
   ·rw[hh,Ov rfl]at d
    refine QD ?_;rw[Fq (show i<62 by omega),z];skip;refine EX.back (i+1) ?_ ⟨j,U.trans H⟩ OS;rw[d];exact OR
  ·rw[gu hk]at hF d
   have h7:(k==7)=false:=by
    rw[Oa];omega
   refine QE ?_;refine CW.cond rfl (fun h=>by rw[show((Ltl.mk k 0 [a,b]).k==7)=false from h7]at h;cases h) (fun _=>?_);refine Qt ?_;refine WL.call rfl rfl rfl (G7 _ (.mk k 0 [a,b]) Pf L (R.ext n) hF B X Y) ?_;rintro _ w6 ⟨rfl,H⟩
   cases hh:sa m s (.mk k 0 [a,b])
   ·rw[hh,Ou OU]at d
    refine QD ?_;refine EX.back (i+1) ?_ ⟨j,n.trans H⟩ OS;rw[d];exact OR
   ·rw[hh,Ov rfl]at d
    refine QD ?_;rw[Fq (show i<62 by omega),z];skip;refine EX.back (i+1) ?_ ⟨j,n.trans H⟩ OS;rw[d];exact OR
 ·obtain rfl:i=m.2.length:=by simp at h;omega
  refine PG ?_;exact be rfl rfl ⟨rfl,I⟩
theorem G5{s i:Nat}(a:s<1048576)(is:Bool):((((bits .and .i64 ((s >>> i:Nat):Int) 1:Int)==1))==is)=(s.testBit i==is):=by
 rw[show bits .and .i64 ((s >>> i:Nat):Int) 1=((s >>> i&&&1:Nat):Int) from iF _ 1 (by have:=M7 s i;omega) OS,kp]
set_option maxHeartbeats 1000000 in
theorem iG(w0:World){sb:Nat}{m:cY}{s:Nat}(is:Bool)(u:MkA w0 sb m)(l:OkM m)(r:s<1048576)(B:m.1.length≤20):
  Rt Tryz.prog 84 [Pk sb,Pj (s:Int),.bool is].toArray w0 fun v w'=>v=.int .u64 ((iE m s is:Nat):Int)∧Ext w0 w':=by
 obtain⟨ao,ac,z,A,n,h1,h2⟩:=u.ok;refine dI Tryz.func84 Tryz.ntmps84 rfl rfl ?_;refine QH ?_;refine CW.loop (S:=Nat) (fun i=>[(1,Pj (s:Int)),(2,.bool is),(7,.int .u64 ((iA m.1 s is i:Nat):Int)),(13,.slice ao m.1.length ac),(14,Pj m.1.length),(15,Pj i)])
  (fun i w=>i≤m.1.length∧Ext w0 w) (fun i=>m.1.length -i) 0 OR ⟨Nc _,Ext.refl _⟩ ?_
 rintro i w ⟨hi,f⟩
 have t:=iB (s:=s) (is:=is) (fun x p=>(l.ra x p).2) hi;refine Qw ?_;apply CW.cond rfl<;>intro h
 ·have c:i<m.1.length:=by simp at h;omega
  have j:=l.ra _ (Lb c);have k:m.1.getD i 0=m.1[i]:=by rw[KR,KX c];rfl
  have b:iA m.1 s is (i+1)=if s.testBit i=is then iA m.1 s is i|||(1 <<< (m.1.getD i 0).toNat)else iA m.1 s is i:=rfl
  rw[k]at b
  generalize iA m.1 s is i=acc at*
  obtain⟨a,o⟩:=J9 j.1;have d:a<64:=by omega
  rw[o,Kd]at b
  have y:2 ^ a<2 ^ 64:=M5 OS d;have g:=iI acc (1 <<< a) OS (by rw[M2];omega);refine Qv ?_;refine eD rfl rfl rfl rfl rfl (h1.up f) c o O3 (fun q=>?_);refine Qw ?_;refine fx rfl rfl rfl rfl OS ?_;refine Qk ?_;rw[G5 r];by_cases e:s.testBit i=is
  ·rw[Ov e]at b
   rw[show(s.testBit i==is)=true by rw[e];simp];refine QD ?_;rw[Fs d,g];skip;refine EX.back (i+1) ?_ ⟨c,f⟩ OS;rw[b];exact OR
  ·rw[Ou e]at b
   rw[show(s.testBit i==is)=false by rw[Oa];exact e];refine QD ?_;refine EX.back (i+1) ?_ ⟨c,f⟩ OS;rw[b];exact OR
 ·obtain rfl:i=m.1.length:=by simp at h;omega
  refine PG ?_;exact be rfl rfl ⟨rfl,f⟩
set_option maxHeartbeats 1000000 in
theorem G6(w0:World){sb:Nat}{m:cY}{s:Nat}{k:Int}{a b:Ltl}{ko:Option Addr}{kc:Nat}(l:MkA w0 sb m)(hF:OkF m (.mk k 0 [a,b]))(y:k=8∨k=9)(f:Sl w0 (c9 w0) ko kc [a,b])(h:s<1048576)(j:m.1.length≤20∧m.2.length≤20):
  Rt Tryz.prog 85 [Pk sb,yj k 0 ko 2 kc,Pj (s:Int)].toArray w0 fun v w'=>v=.bool (oD m (.mk k 0 [a,b]) s)∧Ext w0 w':=by
 have r:oD m (.mk k 0 [a,b]) s=if k=8 then !(sa m s (.mk k 0 [a,b]))||sa m s b else sa m s (.mk k 0 [a,b])||!(sa m s b):=rfl
 rw[r];rcases y with rfl|rfl
 ·rw[Ov rfl]
  refine dI Tryz.func85 Tryz.ntmps85 rfl rfl ?_;refine Pm ?_;refine dZ rfl rfl rfl fun o d c=>?_
  refine Qm ?_;refine WL.call rfl rfl rfl (G7 _ (.mk 8 0 [a,b]) Pf o (l.ext c) hF (f.up c) h j) ?_;rintro _ n ⟨rfl,e⟩
  have d:=d.ext e;cases sa m s (.mk 8 0 [a,b])
  ·refine PH ?_
   exact be rfl rfl ⟨rfl,c.trans e⟩
  ·refine QV ?_
   refine eE (i:=1) rfl rfl rfl rfl rfl (f.up (c.trans e)) OW O3 (fun u q p=>?_);obtain⟨vo,vc,rfl,g⟩:=Rd.ltl (t:=b) p;refine QO ?_;refine WL.call rfl rfl rfl (G7 _ b Pf n (l.ext (c.trans e)) hF.b2 g h j) ?_;rintro _ x ⟨rfl,w⟩
   refine PL ?_;exact be rfl rfl ⟨rfl,(c.trans e).trans w⟩
 ·rw[Ou OU]
  refine dI Tryz.func85 Tryz.ntmps85 rfl rfl ?_;refine Pm ?_;refine dZ rfl rfl rfl fun o d c=>?_
  refine Qh ?_;refine WL.call rfl rfl rfl (G7 _ (.mk 9 0 [a,b]) Pf o (l.ext c) hF (f.up c) h j) ?_;rintro _ n ⟨rfl,e⟩
  have d:=d.ext e;cases sa m s (.mk 9 0 [a,b])
  ·refine QV ?_
   refine eE (i:=1) rfl rfl rfl rfl rfl (f.up (c.trans e)) OW O3 (fun u q p=>?_);obtain⟨vo,vc,rfl,g⟩:=Rd.ltl (t:=b) p;refine QO ?_;refine WL.call rfl rfl rfl (G7 _ b Pf n (l.ext (c.trans e)) hF.b2 g h j) ?_;rintro _ x ⟨rfl,w⟩
   refine Pr ?_;exact be rfl rfl ⟨rfl,(c.trans e).trans w⟩
  ·refine Pt ?_
   exact be rfl rfl ⟨rfl,c.trans e⟩
def A8(L:List Oper)(c:Nat)(B:Array Bool→Bool):List (Nat×Nat)→Array Bool→Bool
 |[],a=>B a
 |(i,k)::r,a=>match k with
  |0=>decide (Region.ready .any L.toArray a=[i])&&A8 L c B r (a.setIfInBounds i true)
  |1=>(Region.ready .any L.toArray a).contains i&&Region.free .any L.toArray a i&&decide (i≠c)&&decide (i≠L.length)&&A8 L c B r (a.setIfInBounds i true)
  |2=>(Region.ready .any L.toArray a).contains i&&Region.free .any L.toArray a i&&decide (i≠c)&&decide (i≠L.length)&&im L c i&&A8 L c B r (a.setIfInBounds i true)
  |_=>false
theorem Jj{P:Program}{L:List Oper}{c n0:Nat}{Sw Ss:World→Prop}{Q Q':Act→World→Prop}{Bc:Array Bool→Bool}(F:Region.noSelect L.toArray=true)
  (m:∀(ph:Bool) (b:Array Bool) (a:Act) (w:World),Bc b=true→Cls L b→b.getD c false=ph→SG c L.length Sw Ss b w→Q' a w→I5 P L.toArray (fun e a w=>e=.normal∧Q a w) (SG c L.length Sw Ss) n0 b a w):
  ∀(ord:List (Nat×Nat)) (ph:Bool) (b:Array Bool) (a:Act) (w:World),A8 L c Bc ord b=true→Cls L b→(b.getD c false=ph)→SG c L.length Sw Ss b w→Jg P L c L.length Sw Ss Q' ph ord a w→
   I5 P L.toArray (fun e a w=>e=.normal∧Q a w) (SG c L.length Sw Ss) (ord.length+n0) b a w
 |[],ph,b,a,w,y,u,p,hS,h=>by
  rw[Lr,Nb];exact m ph b a w y u p hS h
 |(i,0)::r,ph,b,a,w,y,u,p,hS,⟨o,B,h⟩=>by
  simp only[A8,JM,Om]at y
  obtain⟨K,J⟩:=y;have g:i∈Region.ready .any L.toArray b:=by rw[K];simp
  have I:=u.put g;have H:i<L.length:=(KZ.1 B).1;have d:(b.setIfInBounds i true).getD c false=(ph||Nat.beq i c):=by
   cases e:Nat.beq i c with
   |true=>
    obtain rfl:=MD e;have:=u.size;simp[Jt,show i<b.size by omega]
   |false=>
    have f:i≠c:=fun h=>by subst h;rw[MA]at e;cases e
    rw[rl f,p,JY]
  rw[Ll,Mx];refine⟨fun S=>(by rw[S]at g;cases g),fun j G=>?_⟩;rw[K,L0]at G
  subst G;have s:L.toArray[j]?=some o:=by simpa using B
  unfold wpOp;simp only[s];split
  ·rename_i D
   rw[Ov D]at h
   refine .inl (Jk (fun x a w f hf=>absurd hf.1 f) (Ng (fun T w' M=>⟨fun _=>⟨M.1,fun C=>M.2.1 (d▸C)⟩,Jj F m r _ _ _ _ J I d (fun _=>⟨M.1,fun C=>M.2.1 (d▸C)⟩) M.2.2⟩) h))
  ·rename_i D
   rw[Ou D]at h
   exact⟨fun _=>⟨h.1,fun C=>h.2.1 (d▸C)⟩,Jj F m r _ _ _ _ J I d (fun _=>⟨h.1,fun C=>h.2.1 (d▸C)⟩) h.2.2⟩
 |(i,1)::r,ph,b,a,w,y,u,p,hS,⟨o,v,B,N,h⟩=>by
  simp only[A8,JM,Om]at y
  obtain⟨⟨⟨⟨h1,h2⟩,f⟩,q⟩,h3⟩:=y;have g:i∈Region.ready .any L.toArray b:=by simpa using h1
  have s:L.toArray[i]?=some o:=by simpa using B
  have d:(b.setIfInBounds i true).getD c false=ph:=by rw[rl f];exact p
  have H:i<L.length:=(KZ.1 B).1;have E:b.getD i false=false:=by
   have:=(Ox.1 g).1;have O:=u.size;rw[rm OS]at this
   simpa using this
  have A:∀l:Array Bool,Cls L l→l.getD L.length false=false:=fun l t=>by
   have:=t.size;simp[Jt,Jv (show l.size≤L.length by omega)]
  rw[Ll,Mx];exact I6 s (Nt F) (fun _ _ _ h=>by cases h.1) (fun l=>Cls L l∧l.getD i false=false) (fun l j t z G=>⟨t.1.put G,by rw[rl z];exact t.2⟩) (fun l w=>dL f q l w) (r.length+n0) b a w ⟨u,E⟩ (Ns s h2) g
   (Jo N fun w ⟨l,t,D⟩=>(D (A l t.1)).1) hS (Jj F m r ph _ _ _ h3 (u.put g) d ((dL f q _ _).2 hS) h)
 |(i,2)::r,ph,b,a,w,y,u,p,hS,⟨o,v,B,N,h⟩=>by
  simp only[A8,JM,Om]at y
  obtain⟨⟨⟨⟨⟨h1,h2⟩,f⟩,q⟩,R⟩,h3⟩:=y;have g:i∈Region.ready .any L.toArray b:=by simpa using h1
  have s:L.toArray[i]?=some o:=by simpa using B
  have d:(b.setIfInBounds i true).getD c false=ph:=by rw[rl f];exact p
  have H:i<L.length:=(KZ.1 B).1;have E:b.getD i false=false:=by
   have:=(Ox.1 g).1;have O:=u.size;rw[rm OS]at this
   simpa using this
  have A:∀l:Array Bool,Cls L l→l.getD L.length false=false:=fun l t=>by
   have:=t.size;simp[Jt,Jv (show l.size≤L.length by omega)]
  rw[Ll,Mx];exact I6 s (Nt F) (fun _ _ _ h=>by cases h.1) (fun l=>Cls L l∧l.getD i false=false) (fun l j t z G=>⟨t.1.put G,by rw[rl z];exact t.2⟩) (fun l w=>dL f q l w) (r.length+n0) b a w ⟨u,E⟩ (Ns s h2) g
   (Jo N fun w ⟨l,t,D⟩=>(D (A l t.1)).2 (ip R t.1 t.2)) hS (Jj F m r ph _ _ _ h3 (u.put g) d ((dL f q _ _).2 hS) h)
 |(i,k+3)::r,ph,b,a,w,y,u,p,hS,_=>by simp[A8]at y
def AY(P:Program)(ops:List Oper)(o:Oper)(a:Act)(w:World)(K:Act→World→Prop):Prop:=
 if Region.wanted o (yielded ops.toArray a.tmps)=true then o.wp P a w K (fun e _ _=>e=.normal)else K (a.put o.dst undef) w
def Bs(L:List Oper)(i c:Nat)(a:Array Bool):Bool:=
 (decide (Region.ready .any L.toArray a=[i,c])||decide (Region.ready .any L.toArray a=[c,i]))&&decide (Region.ready .any L.toArray (a.setIfInBounds i true)=[c])&&decide (Region.ready .any L.toArray (a.setIfInBounds c true)=[i])&&
  (Region.ready .any L.toArray ((a.setIfInBounds i true).setIfInBounds c true)).isEmpty&&(Region.ready .any L.toArray ((a.setIfInBounds c true).setIfInBounds i true)).isEmpty&&decide (i≠c)
def Bt(P:Program)(L:List Oper)(i c:Nat)(Sw Ss:World→Prop)(Q:Act→World→Prop)(a:Act)(w:World):Prop:=
 ∃oi oc,L[i]?=some oi∧L[c]?=some oc∧AY P L oi a w (fun d w'=>Sw w'∧Ss w'∧AY P L oc d w' (fun b w''=>Sw w''∧Q b w''))∧AY P L oc a w (fun d w'=>Sw w'∧True∧AY P L oi d w' (fun b w''=>Sw w''∧Q b w''))
theorem A0{P:Program}{L:List Oper}{i:Nat}{o:Oper}{Q:Act→World→Prop}{K K':Act→World→Prop}{a:Act}{w:World}(j:L[i]?=some o)(h:AY P L o a w K)(g:∀a w,K a w→K' a w):wpOp P L.toArray (fun e a w=>e=.normal∧Q a w) i K' a w:=by
 have d:L.toArray[i]?=some o:=by simpa using j
 unfold AY at h
 unfold wpOp;simp only[d];split
 ·rename_i b
  rw[Ov b]at h
  exact .inl (Jk (fun x a w f hf=>absurd hf f) (Ng g h))
 ·rename_i b
  rw[Ou b]at h
  exact g _ _ h
theorem Bu{P:Program}{L:List Oper}{i c:Nat}{Sw Ss:World→Prop}{Q:Act→World→Prop}(b:Array Bool)(a:Act)(w:World)(x:Bs L i c b=true)(E:Cls L b)(h:Bt P L i c Sw Ss Q a w):
  I5 P L.toArray (fun e a w=>e=.normal∧Q a w) (SG c L.length Sw Ss) 2 b a w:=by
 unfold Bs at x
 simp only[JM,JX,Om,Lj]at x
 obtain⟨⟨⟨⟨⟨h1,h2⟩,h3⟩,h4⟩,F⟩,u⟩:=x;obtain⟨oi,oc,m,f,k1,k2⟩:=h;have q:i∈Region.ready .any L.toArray b:=by rcases h1 with h1|h1<;>rw[h1]<;>simp
 have D:c∈Region.ready .any L.toArray b:=by rcases h1 with h1|h1<;>rw[h1]<;>simp
 have z:=E.size;have C:c<L.length:=(KZ.1 f).1;have d:(b.setIfInBounds c true).getD c false=true:=by simp[Jt,show c<b.size by omega]
 have last:∀(l:Array Bool) (j:Nat) (o:Oper) (g:Act) (w':World),L[j]?=some o→Region.ready .any L.toArray l=[j]→Region.ready .any L.toArray (l.setIfInBounds j true)=[]→(l.setIfInBounds j true).getD c false=true→AY P L o g w' (fun r w''=>Sw w''∧Q r w'')→
   I5 P L.toArray (fun e a w=>e=.normal∧Q a w) (SG c L.length Sw Ss) 1 l g w':=fun l j o g w' A y t B ho1=>by
  refine⟨fun s=>(by rw[y]at s;cases s),fun G p=>?_⟩;rw[y,L0]at p
  subst p;exact A0 A ho1 fun r w'' hq=>⟨fun _=>⟨hq.1,fun k=>by rw[B]at k;cases k⟩,t,rfl,hq.2⟩
 refine⟨fun s=>(by rw[s]at q;cases q),fun j p=>?_⟩;have v:j=i∨j=c:=by rcases h1 with h1|h1<;>rw[h1]at p<;>simp at p<;>omega
 rcases v with rfl|rfl
 ·refine A0 m k1 fun g w' hq=>⟨fun _=>⟨hq.1,fun _=>hq.2.1⟩,last _ c oc g w' f h2 h4 ?_ hq.2.2⟩
  simp[Jt,show c<b.size by omega]
 ·refine A0 f k2 fun g w' hq=>⟨fun _=>⟨hq.1,fun k=>by rw[d]at k;cases k⟩,last _ i oi g w' m h3 F ?_ hq.2.2⟩
  rw[rl u];exact d
section
variable {P:Program}{Q:Exit→Act→World→Prop}{n:Nat}{σ:Sg}{w:World}{L:List Oper}{i c:Nat}{Sw Ss:World→Prop}
def da(P:Program)(L:List Oper)(i c:Nat)(Sw Ss:World→Prop)(Q:Exit→Act→World→Prop):Exit→Act→World→Prop:=fun x a w=>x=.normal∧Bt P L i c Sw Ss (fun a w=>Q .normal a w) a w
theorem aI{id:Nat}(i c:Nat)(Sw Ss:World→Prop)(ord:List (Nat×Nat))(l:P.follows .mixedOrders=true)(d:(Region.noSelect L.toArray&&decide (ord.length+2=L.length)&&A8 L c (Bs L i c) ord (Array.replicate L.length false))=true)(g:Sw (drew w))(hS:Ss (drew w))
  (h:HP P L c L.length Sw Ss (da P L i c Sw Ss Q) false ord n σ (drew w)):CW P (.region id L.toArray true) Q n σ w:=by
 unfold CW;unfold HP at h;intro a s
 simp only[JM,Om]at d
 obtain⟨⟨j,m⟩,d⟩:=d;have f:∀k,(Array.replicate L.length false).getD k false=false:=fun k=>by
  simp[Jt,Jz];split<;>rfl
 have h1:=Jj (n0:=2) (Bc:=Bs L i c) (Q:=fun a w=>Q .normal a w) j (fun ph b a w r q _ _ hq=>Bu b a w r q hq.2) ord false (Array.replicate L.length false) a (Go.Proofs.YtodmkmobdmcfbaaGreat.drew w) d ⟨by simp,fun k o e=>by rw[f k]at e;cases e⟩ (f c) (fun _=>⟨g,fun _=>hS⟩) (h a s);rw[m]at h1
 have h2:(Code.region id L.toArray true).wp P (fun x a w=>x=.normal∧Q .normal a w) a w:=OQ l (by simpa using I9 _ _ _ _ h1);exact OP h2 (fun x t w' ⟨p,hq⟩=>by subst p;exact hq)
theorem AZ{o:Oper}{K:Act→World→Prop}{a:Act}(h:wpList P L.toArray (fun x a w=>x=.normal∧K a w) [o] a w):AY P L o a w K:=by
 simp only[wpList]at h
 unfold AY;split
 ·rename_i b
  rw[Ov b]at h
  rcases h with h2|⟨_,f⟩
  ·refine Ng (fun j w' g=>g.2) (Jk (fun x a w d hf=>absurd hf.1 d) h2)
  ·obtain⟨_,_,e⟩:=f
   exact absurd e.1 OW
 ·rename_i b
  rw[Ou b]at h
  exact h.2
def dU(P:Program)(L:List Oper)(Sw S1:World→Prop)(o:Oper)(Q:Exit→Act→World→Prop):Exit→Act→World→Prop:=fun x a w=>x=.normal∧Sw w∧S1 w∧AY P L o a w (fun a w=>Sw w∧Q .normal a w)
def bC(Sw:World→Prop)(Q:Exit→Act→World→Prop):Exit→Act→World→Prop:=fun x a w=>x=.normal∧Sw w∧Q .normal a w
theorem EX.pair{oi oc:Oper}(hi:Ac L i=some oi)(b:Ac L c=some oc)(h1:WL P L (dU P L Sw Ss oc Q) [oi] n σ w)(h2:WL P L (dU P L Sw (fun _=>True) oi Q) [oc] n σ w):EX (da P L i c Sw Ss Q) .normal n σ w:=by
 unfold EX;unfold WL at h1 h2
 intro a d
 rw[Ad]at hi b
 exact⟨rfl,oi,oc,hi,b,AZ (h1 a d),AZ (h2 a d)⟩
theorem bu{S1:World→Prop}{o:Oper}(b:Sw w)(d:S1 w)(h:WL P L (bC Sw Q) [o] n σ w):EX (dU P L Sw S1 o Q) .normal n σ w:=by
 unfold EX;unfold WL at h
 exact fun a e=>⟨rfl,b,d,AZ (h a e)⟩
theorem aW(b:Sw w)(h:EX Q .normal n σ w):EX (bC Sw Q) .normal n σ w:=by
 unfold EX at*
 exact fun a d=>⟨rfl,b,h a d⟩
theorem HP.app1f{α:Type}[Rep α]{x0:α}{bytes:Nat}{F:Nat→Prop}{e i z d d1:Nat}{ty ty1:TypeId}{pos pos1:String}{af af1:Array Edge}{g g1:Option (Nat×Bool)}{t et:TypeId}{x y:Operand}{rest:List (Nat×Nat)}{v u:Value}{xs:List α}{yv:α}{B:Nat}{wc:World}
  (ho1:Ac L z=some ⟨some d1,.buildSlice t 1 [(0,y)].toArray,ty1,pos1,af1,g1⟩) (O:Ac L i=some ⟨some d,.call ⟨.builtin .append,#[x,.tmp d1],#[t,t]⟩,ty,pos,af,g⟩)
  (G:Nat.beq z c=false) (E:Nat.beq i c=false)
  (H:gd L σ ⟨some d1,.buildSlice t 1 [(0,y)].toArray,ty1,pos1,af1,g1⟩=some true) (J:Nat.ble (d1+1) n=true)
  (I:∀u,gd L ((d1,.slice u 1 1)::σ) ⟨some d,.call ⟨.builtin .append,#[x,.tmp d1],#[t,t]⟩,ty,pos,af,g⟩=some true) (hd:Nat.ble (d+1) n=true)
  (K:ev σ y=some u) (M:∀u,ev ((d1,.slice u 1 1)::σ) x=some v) [V:IsS P t et] [U:IsT P et α] [T:IsZ P et x0 bytes] (o:Own wc B et F v xs) (N:Rd wc F u yv) (S:B≤wc.heap.size) (hF:∀b,F b→b<wc.heap.size)
  (A:sz α≤16777216) (R:xs.length+1≤maxLen) (q:(xs.length+1)*bytes≤140737488355328) (hS:∀w',wc.grownBy w' v.ownBlock→Sw w'∧Ss w')
  (h:∀m w' p,Own w' B et F m (xs++[yv])→wc.grownBy w' v.ownBlock→(∀g,m.ownBlock=some g→v.ownBlock=some g∨wc.heap.size≤g)→HP P L c e Sw Ss Q false rest n ((d,m)::(d1,.slice p 1 1)::σ) w'):
  HP P L c e Sw Ss Q false ((z,0)::(i,0)::rest) n σ wc:=by
 refine HP.mut ho1 ?_;rw[G];refine WL.lit (vs:=[u]) (ys:=[yv]) H J rfl (by simp[FJ,oe,K]) rfl ⟨N,trivial⟩ (by simpa using A) hF (fun s ho1 a=>?_);have f:wc.heap.size≤s.heap.size:=a.size;have l:Own s B et F v xs:=o.kept a (fun _ _ h=>by cases h) fun b q=>⟨hF b q,fun h=>by cases h⟩
 have g2:wc.grownBy s v.ownBlock:=⟨a.os,a.tape,a.output,a.size,fun k r _=>a.block k r (fun h=>by cases h)⟩;refine WL.nil (ba (ph:=false||false) (hS _ g2).1 (fun _=>(hS _ g2).2) ?_);refine HP.mut O ?_;rw[E];refine WL.app (ys:=[yv]) (I _) hd (M _) pW l ho1.src (MN S f) (fun b q=>MQ (hF b q) f) (by simpa using R) (by simpa using q) (fun m w' C j hnb=>?_);have g3:wc.grownBy w' v.ownBlock:=⟨j.os.trans a.os,j.tape.trans a.tape,j.output.trans a.output,MN f j.size,fun k r D=>(j.block k (MQ r f) D).trans (a.block k r (fun h=>by cases h))⟩;exact WL.nil (ba (ph:=false||false||false) (hS _ g3).1 (fun _=>(hS _ g3).2) (h m w' _ C g3 (fun g I=>(hnb g I).imp id (fun h=>MN f h))))
end
section
variable {P:Program}{Q:Exit→Act→World→Prop}{n:Nat}{σ:Sg}{w:World}{L rest:List Oper}{α:Type}[Rep α]{F:Nat→Prop}{e:TypeId}{ty:TypeId}{pos:String}{af:Array Edge}{g:Option (Nat×Bool)}
theorem fC{x y:Operand}{u:Value}{B b off cap:Nat}{xs:List α}{yv:α}{i:Nat}(z:gd L σ ⟨none,.store e x y,ty,pos,af,g⟩=some true)
  (q:ev σ x=some (.pointer (some ⟨b,off+i*sz α,none⟩))) (p:ev σ y=some u) [D:IsT P e α] (c:Own w B e F (.slice (some ⟨b,off,none⟩) xs.length cap) xs) (h1:i<xs.length) (r:Rd w F u yv)
  (h:∀w',Own w' B e F (.slice (some ⟨b,off,none⟩) xs.length cap) (xs.set i yv)→w.grownBy w' (some b)→WL P L Q rest n σ w'):WL P L Q (⟨none,.store e x y,ty,pos,af,g⟩::rest) n σ w:=by
 rcases c with⟨m,d⟩|⟨E,off',cap',cur,m,t⟩
 ·subst d;simp at h1
 ·obtain⟨j,_,f⟩:=N5 m
  cases j;subst f
  obtain⟨w',s,k,l⟩:=En (P:=P) (v:=u) (i:=i) t h1 r;refine fq z (fun a o=>?_) (h w' k l);have C:=o.ev q;have A:=o.ev p;simp[execOp,C,A,Instr.storeAt,Instr.sureAddr,s]
end
theorem qx(k n:Int)(t:Ltl)(m:cY):(qI k n t m).1.length+(qI k n t m).2.length≤m.1.length+m.2.length+1:=by
 unfold qI;split
 ·dsimp only;split<;>simp;omega
 ·split
  ·dsimp only;split<;>simp;omega
  ·omega
mutual
theorem qw:∀(t:Ltl) (m:cY),(qs t m).1.length+(qs t m).2.length≤m.1.length+m.2.length+t.nodes
 |.mk k n kids,m=>by
  simp only[qs,Ltl.nodes];have h1:=qx k n (.mk k n kids) m;have h2:=qE kids (qI k n (.mk k n kids) m);omega
theorem qE:∀(l:List Ltl) (m:cY),(qB l m).1.length+(qB l m).2.length≤m.1.length+m.2.length+Ltl.nodesL l
 |[],m=>by simp[qB]
 |x::r,m=>by
  simp only[qB,Ltl.nodesL];have h1:=qw x m;have h2:=qE r (qs x m);omega
end
theorem qH{kids:List Ltl}{m:cY}{i:Nat}(h:i<kids.length):qB (kids.take (i+1)) m=qs kids[i] (qB (kids.take i) m):=by
 have:∀(l:List Ltl) (m:cY) (x:Ltl),qB (l++[x]) m=qs x (qB l m):=by
  intro l
  induction l with
  |nil=>intro m x;simp[qB]
  |cons y r a=>intro m x;simp only[Km,qB];exact a _ x
 rw[Mp h,this]
theorem qz(k n:Int)(kids:List Ltl)(m:cY):qs (.mk k n kids) m=qB kids (qI k n (.mk k n kids) m):=by simp only[qs]
structure MkO(w:World)(B:Nat)(F:Nat→Prop)(sb:Nat)(av pv:Value)(m:cY):Prop where
 blk:Blk w sb 160 [av,pv]
 a:Own w B 3 c7 av m.1
 p:Own w B 32 F pv m.2
 ge:B≤sb
 na:∀g,av.ownBlock=some g→g≠sb
 np:∀g,pv.ownBlock=some g→g≠sb
 nap:∀g,av.ownBlock=some g→pv.ownBlock≠some g
 hF:∀b,F b→b<B
def yU(sb:Nat)(av pv:Value):Nat→Prop:=fun b=>b=sb∨av.ownBlock=some b∨pv.ownBlock=some b
theorem MkO.ext{w w':World}{B:Nat}{F:Nat→Prop}{sb:Nat}{av pv:Value}{m:cY}(h:MkO w B F sb av pv m)(d:B≤w.heap.size)(a:Ext w w'):MkO w' B F sb av pv m:=
 ⟨h.blk.ext a,h.a.extN a,h.p.ext a (fun b c=>MQ (h.hF b c) d),h.ge,h.na,h.np,h.nap,h.hF⟩
theorem MkO.lo{w:World}{B:Nat}{F:Nat→Prop}{sb:Nat}{av pv:Value}{m:cY}(h:MkO w B F sb av pv m):∀b,yU sb av pv b→B≤b∧b<w.heap.size:=fun b c=>by
 rcases c with a|a|a
 ·have:=h.ge;have:=h.blk.lt;omega
 ·exact⟨(h.a.lt b a).1,(h.a.lt b a).2.1⟩
 ·exact⟨(h.p.lt b a).1,(h.p.lt b a).2.1⟩
theorem MkO.rd{w:World}{B:Nat}{F:Nat→Prop}{sb:Nat}{av pv:Value}{m:cY}(h:MkO w B F sb av pv m)(i:B≤w.heap.size):MkA w sb m:=by
 obtain⟨ao,ac,rfl,h1⟩:=h.a.oldN.sl;obtain⟨a,c,rfl,h2⟩:=h.p.slF (F':=c9 w) (fun b f=>MQ (h.hF b f) i) (fun g d=>(h.p.lt g d).2.1);exact⟨ao,ac,a,c,h.blk,h1,h2⟩
theorem Ff{l:List Ltl}{x y:Ltl}:(l++[x]).set l.length y=l++[y]:=by
 rw[List.set_append_right _ _ Pf];simp
set_option maxHeartbeats 4000000 in
theorem qM:∀(d:Nat) (t:Ltl),t.nodes≤d→IK t→∀(w:World) {B sb:Nat} {F:Nat→Prop} {av pv:Value} {m:cY} {ko:Option Addr} {kc:Nat},MkO w B F sb av pv m→B≤w.heap.size→Sl w F ko kc t.kids→m.1.length+m.2.length+t.nodes≤1000→
  Rt Tryz.prog 78 [Pk sb,yj t.k t.n ko t.kids.length kc].toArray w fun v w'=>∃av' pv',MkO w' B F sb av' pv' (qs t m)∧Chg (yU sb av pv) w w'∧(∀g,av'.ownBlock=some g→av.ownBlock=some g∨w.heap.size≤g)∧∀g,pv'.ownBlock=some g→pv.ownBlock=some g∨w.heap.size≤g:=by
 intro d
 induction d with
 |zero=>intro t h;have:=t.nodes_pos;omega
 |succ d ih=>
  rintro⟨k,n,kids⟩ hd hwf w B sb F av pv m ko kc hM hB hk hsz
  simp only[Ltl.k,Ltl.n,Ltl.kids]at hk⊢
  have hkl:=wY hwf;have hlo:=hM.lo;have hF:=hM.hF;refine dH Tryz.func78 Tryz.ntmps78 rfl rfl ?_;rw[qz];have hlen1:=qx k n (.mk k n kids) m;refine Pm ?_;refine dZ rfl rfl rfl fun H hb3 e1=>?_
  have l3:=hb3.lt;have y1:=e1.size;have Y:=hM.ext hB e1;apply WL.nil;apply bx;refine aB (S:=Value×Value) (fun s=>[(0,Pk sb),(3,Pk w.heap.size)])
   (fun s w'=>MkO w' B F sb s.1 s.2 (qI k n (.mk k n kids) m)∧Chg (yU sb av pv) H w'∧(∀g,s.1.ownBlock=some g→av.ownBlock=some g∨H.heap.size≤g)∧∀g,s.2.ownBlock=some g→pv.ownBlock=some g∨H.heap.size≤g) ?_ ?_
  ·have skip:∀(A:World) (e2:Ext H A),qI k n (.mk k n kids) m=m→MkO A B F sb av pv (qI k n (.mk k n kids) m)∧Chg (yU sb av pv) H A∧(∀g,av.ownBlock=some g→av.ownBlock=some g∨H.heap.size≤g)∧∀g,pv.ownBlock=some g→pv.ownBlock=some g∨H.heap.size≤g:=fun A e2 W=>by
    rw[W];exact⟨Y.ext OS e2,Chg.of_ext _ e2,fun g f=>.inl f,fun g f=>.inl f⟩
   by_cases h3:k=3
   ·have W:qI k n (.mk k n kids) m=(if n∈m.1 then m.1 else m.1++[n],m.2):=by unfold qI;rw[Ov h3]
    subst h3;obtain⟨ao,ac,hav,h1⟩:=Y.a.oldN.sl;subst hav;have hD:=Ext.drew H;have hSE:∀z,(fun z:World=>Ext (drew H) z) z→Ext (drew H) z:=fun _ h=>h
    have hblkd:=Y.blk.ext hD;have hb3d:=hb3.ext hD;refine PM ?_;refine aF (fun z:World=>Ext (drew H) z) [(0,true),(1,true),(2,true),(3,true),(4,true),(5,true),(6,false),(7,true)] mixed OT Ph ?_;refine Ra ?_;refine cu rfl (WL.call rfl rfl rfl (lh (drew H) n (h1.up hD)) ?_);rintro _ A ⟨rfl,e2⟩
    refine WL.nil (a_ e2 ?_);have G:Ext H A:=hD.trans e2;cases hc:m.1.contains n with
    |true=>
     have hin:n∈m.1:=by simpa using hc
     rw[Ov hin]at W
     refine Rf ?_;refine Qz ?_;exact aU (.slice ao m.1.length ac,pv) OR (skip A G W)
    |false=>
     have hin:n∉m.1:=by simpa using hc
     rw[Ou hin]at W
     refine Rf ?_;have a:=Y.ext OS G;have J:=a.blk;have V:=hb3.ext G;have z12:=G.size;have lsb:=J.lt;have y:=Ext.drew A;have O:=J.ext y;have hb3d2:=V.ext y;have hna:=a.na;have hnap:=a.nap;have E:=a.lo;have hK5:∀u,(fun x:World=>x.heap[w.heap.size]?=(drew A).heap[w.heap.size]?∧x.heap[sb]?=(drew A).heap[sb]?) u→u.heap[w.heap.size]?=(drew A).heap[w.heap.size]?:=fun _ h=>h.1
     have hKs:∀u,(fun x:World=>x.heap[w.heap.size]?=(drew A).heap[w.heap.size]?∧x.heap[sb]?=(drew A).heap[sb]?) u→u.heap[sb]?=(drew A).heap[sb]?:=fun _ h=>h.2
     have K:∀g,(Value.slice ao m.1.length ac).ownBlock=some g→g≠w.heap.size:=fun g f=>by have:=(hlo g (.inr (.inl f))).2;omega
     refine Qb ?_;refine aE (fun x:World=>x.heap[w.heap.size]?=(drew A).heap[w.heap.size]?∧x.heap[sb]?=(drew A).heap[sb]?) [(0,true),(1,true),(2,true),(3,true),(4,true),(5,true),(6,true),(7,false),(8,false),(9,false),(10,false)] 11 mixed OT ⟨rfl,rfl⟩ ?_;refine Q7 ?_;refine bV (α:=Int) (F:=c7) (bytes:=8) (yv:=n) rfl rfl rfl rfl O3 rfl rfl O3 (a.a.extN y) Pe (by have:=y.size;omega) O6 OU OY OS
      (fun z hz=>⟨hz.block _ (by have:=y.size;omega) (fun e=>K _ e.symm rfl),hz.block _ (by have:=y.size;omega) (fun e=>hna _ e.symm rfl)⟩) (fun cl Z q5 ho5 C D=>?_)
     obtain⟨lo',lc',rfl⟩:=ho5.val;have R:=O.kept C (fun e=>hna _ e.symm rfl);have T:Z.heap[w.heap.size]?=(drew A).heap[w.heap.size]?∧Z.heap[sb]?=(drew A).heap[sb]?:=⟨C.block _ (by have:=y.size;omega) (fun e=>K _ e.symm rfl),C.block _ (by have:=y.size;omega) (fun e=>hna _ e.symm rfl)⟩;refine cu rfl (fi rfl rfl rfl (WL.nil (a_ T ?_)));refine cu rfl (eI rfl rfl rfl (WL.nil (a_ T (HL.nil ?_))));refine bm rfl (WL.st rfl rfl rfl R rfl rfl Pd (fun w6 I p=>WL.nil (bp ?_)));have hC6:Chg (yU sb (.slice ao m.1.length ac) pv) H w6:=(((Chg.of_ext (yU sb (.slice ao m.1.length ac) pv) (G.trans y)).grown C (fun g f=>.inr (.inl f)))).grown p Pb;have hp6:Own w6 B 32 F pv m.2:=((a.p.ext y (fun b j=>by have:=hF b j;omega)).kept C (fun g f e=>hnap g e.symm f) (fun b j=>⟨by have:=hF b j;have:=y.size;omega,fun e=>by have:=(E b (.inr (.inl e.symm))).1;have:=hF b j;omega⟩)).kept p (fun g f e=>a.np g f (Nn e)) (fun b j=>⟨by have:=hF b j;have:=y.size;have:=C.size;omega,fun e=>by have:=Nn e;have:=hF b j;have:=a.ge;omega⟩);have z5:=C.size;have zd:=y.size;have hns:∀g,(Value.slice lo' (m.1++[n]).length lc').ownBlock=some g→g≠sb:=fun g f=>(D g f).elim (hna g) (fun h=>by omega)
     refine Qe ?_;refine aU (.slice lo' (m.1++[n]).length lc',pv) OR ?_;rw[W];refine⟨⟨I,ho5.keptN p (fun g f e=>hns g f (Nn e)),hp6,a.ge,hns,a.np,fun g f hg2=>?_,hF⟩,hC6,fun g f=>(D g f).imp id (fun h=>by omega),fun g f=>.inl f⟩;rcases D g f with h|h
     ·exact hnap g h hg2
     ·have:=(E g (.inr (.inr hg2))).2;omega
   by_cases h7:k=7∨k=8∨k=9
   ·have W:qI k n (.mk k n kids) m=(m.1,if m.2.any (EB (.mk k n kids))=true then m.2 else m.2++[.mk k n kids]):=by unfold qI;rw[Ou h3,Ov h7]
    have b3:(k==3)=false:=by rw[Oa];exact h3
    have hkk:(k==7)=true∨((k==7)=false∧(k==8)=true)∨((k==7)=false∧(k==8)=false∧(k==9)=true):=by
     simp only[Ob,Oa];omega
    refine QH ?_;rw[b3];apply aw;rfl;refine az [(0,Pk sb),(3,Pk w.heap.size),(29,.bool true)] ?_ ?_
    ·refine Qw ?_
     rcases hkk with h|⟨h,h2⟩|⟨h,h2,h3⟩
     ·rw[h]
      refine PE ?_;exact aS OR
     ·rw[h]
      refine PW ?_;rw[h2];refine PE ?_;exact aS OR
     ·rw[h]
      refine PW ?_;rw[h2];refine PW ?_;rw[h3];skip;exact aS OR
    have hpart:=BH H (t:=.mk k n kids) (Y.rd OS) (hk.mono (w':=H) (fun b j=>e1.block b (by have:=hF b j;omega)) (fun b j=>by have:=hF b j;exact(show b<H.heap.size by omega)));refine P0 ?_;refine WL.call rfl rfl rfl hpart ?_;rintro _ A ⟨rfl,G⟩
    have a:=Y.ext OS G;have hany:=vk (EB (.mk k n kids)) m.2;by_cases ha:m.2.any (EB (.mk k n kids))=true
    ·rw[Ov ha]at W
     rw[ha,Om]at hany
     have hlt:decide (BB m (.mk k n kids)<0)=false:=Oj (by unfold BB;omega);refine Pv ?_;rw[hlt];refine Qz ?_;exact aU (av,pv) OR (skip A G W)
    ·rw[Ou ha]at W
     rw[JS]at ha
     rw[ha,Ok]at hany
     have hlt:decide (BB m (.mk k n kids)<0)=true:=Ol (by unfold BB;omega);refine Pv ?_;rw[hlt];have J:=a.blk;have V:=hb3.ext G;have z12:=G.size;have lsb:=J.lt;have y:=Ext.drew A;have zd:(drew A).heap.size=A.heap.size:=rfl;have O:=J.ext y;have hb3d2:=V.ext y;have E:=a.lo;obtain⟨po,pc,rfl⟩:=a.p.val;have hpd:=a.p.ext y (fun b j=>by have:=hF b j;omega);have K:∀g,(Value.slice po m.2.length pc).ownBlock=some g→g≠w.heap.size:=fun g f=>by have:=(hlo g (.inr (.inr f))).2;omega
     have hKs:∀u,(fun x:World=>x.heap[sb]?=(drew A).heap[sb]?∧x.heap[w.heap.size]?=(drew A).heap[w.heap.size]?) u→u.heap[sb]?=(drew A).heap[sb]?:=fun _ h=>h.1
     have hK3:∀u,(fun x:World=>x.heap[w.heap.size]?=(drew A).heap[w.heap.size]?) u→u.heap[w.heap.size]?=(drew A).heap[w.heap.size]?:=fun _ h=>h
     refine P6 ?_;refine aI 9 12 (fun x:World=>x.heap[w.heap.size]?=(drew A).heap[w.heap.size]?) (fun x:World=>x.heap[sb]?=(drew A).heap[sb]?∧x.heap[w.heap.size]?=(drew A).heap[w.heap.size]?)
      (Ha 1 [(0,true),(1,true),(2,true),(4,true)]++(Ha 2 [(3,true),(5,true)]++((6,0)::(7,0)::(Ha 1 [(8,true),(10,true),(11,true)]++[])))) mixed OT rfl ⟨rfl,rfl⟩ ?_
     refine HP.weak [(0,true),(1,true),(2,true),(4,true)] rfl ?_;refine Ra ?_;refine cg hK3 rfl rfl rfl rfl hb3d2 rfl ?_;refine Rf ?_;refine bd ?_;refine HP.early [(3,true),(5,true)] rfl ?_;refine Rg ?_;refine bd ?_;refine HP.app1f (α:=Ltl) (F:=F) (bytes:=40) (yv:=(.mk 0 0 []:Ltl)) rfl rfl rfl rfl rfl rfl O3 rfl rfl O3 hpd (Rd.mkLtl (kids:=[]) (Sl.zero _ _)) OS (fun b j=>by have:=hF b j;omega) OU OY OS
      (fun z hz=>⟨hz.block _ OS (fun e=>K _ e.symm rfl),hz.block _ OS (fun e=>a.np _ e.symm rfl),hz.block _ OS (fun e=>K _ e.symm rfl)⟩) (fun cl Z q5 ho5 C D=>?_)
     have z5:=C.size;obtain⟨g5,off,c5,rfl⟩:∃g5 off c5,cl=.slice (some ⟨g5,off,none⟩) (m.2++[(.mk 0 0 []:Ltl)]).length c5:=by
      rcases ho5 with⟨_,h⟩|⟨g,o,c,cur,h,_⟩
      ·simp at h
      ·exact⟨g,o,c,h⟩
     have hlt5:=(ho5.lt g5 rfl);have M:g5≠sb:=fun e=>(D g5 rfl).elim (fun h=>a.np g5 h e) (fun h=>by omega)
     have U:g5≠w.heap.size:=fun e=>(D g5 rfl).elim (fun h=>K g5 h e) (fun h=>by omega)
     have R:=O.kept C (fun e=>a.np _ e.symm rfl);have T:Z.heap[w.heap.size]?=(drew A).heap[w.heap.size]?:=C.block _ OS (fun e=>K _ e.symm rfl);have hS5s:Z.heap[sb]?=(drew A).heap[sb]?:=C.block _ OS (fun e=>a.np _ e.symm rfl);have hkF:∀{z:World},(∀b,F b→z.heap[b]?=w.heap[b]?)→Rd z F (yj k n ko kids.length kc) (Ltl.mk k n kids):=fun {z} hz=>Rd.mkLtl (hk.mono hz O8)
     have hF5:∀b,F b→Z.heap[b]?=w.heap[b]?:=fun b j=>by
      have h1:=hF b j;exact(C.block b OS (fun e=>by have:=(E b (.inr (.inr e.symm))).1;omega)).trans (((e1.trans G).trans y).block b OS)
     have hB5:B≤g5:=hlt5.1;refine HP.weak [(8,true),(10,true),(11,true)] rfl ?_;skip;refine cb (α:=Ltl) rfl rfl rfl rfl rfl OS OZ ?_;rw[Kd];refine Re ?_;refine bd ?_;refine HP.nil ?_;have done:∀{z:World},Blk z sb 160 [av,.slice (some ⟨g5,off,none⟩) (m.2++[(.mk 0 0 []:Ltl)]).length c5]→Own z B 32 F (.slice (some ⟨g5,off,none⟩) (m.2++[(.mk 0 0 []:Ltl)]).length c5) ((m.2++[(.mk 0 0 []:Ltl)]).set m.2.length (.mk k n kids))→Own z B 3 c7 av m.1→Chg (yU sb av (.slice po m.2.length pc)) H z→
       MkO z B F sb av (.slice (some ⟨g5,off,none⟩) (m.2++[(.mk 0 0 []:Ltl)]).length c5) (qI k n (.mk k n kids) m)∧Chg (yU sb av (.slice po m.2.length pc)) H z∧(∀g,av.ownBlock=some g→av.ownBlock=some g∨H.heap.size≤g)∧∀g,(Value.slice (some ⟨g5,off,none⟩) (m.2++[(.mk 0 0 []:Ltl)]).length c5).ownBlock=some g→(Value.slice po m.2.length pc).ownBlock=some g∨H.heap.size≤g:=by
      intro z hbz hoz haz hcz
      rw[W];rw[Ff]at hoz
      refine⟨⟨hbz,haz,?_,a.ge,a.na,fun g f=>by cases f;exact M,fun g f hg2=>?_,hF⟩,hcz,fun g f=>.inl f,fun g f=>(D g f).imp id (fun h=>by omega)⟩
      ·rw[show(m.2++[(.mk 0 0 []:Ltl)]).length=(m.2++[(.mk k n kids:Ltl)]).length by simp]at*
       exact hoz
      ·rcases D g hg2 with h|h
       ·exact a.nap g f h
       ·have:=(E g (.inr (.inl f))).2;omega
     have ha5:Own Z B 3 c7 av m.1:=(a.a.extN y).keptN C (fun g f e=>a.nap g f e.symm);have hC5:Chg (yU sb av (.slice po m.2.length pc)) H Z:=(Chg.of_ext (yU sb av (.slice po m.2.length pc)) (G.trans y)).grown C (fun g f=>.inr (.inr f));have hag5:∀g,av.ownBlock=some g→g≠g5:=fun g f e=>by
      subst e;rcases D g rfl with h|h
      ·exact a.nap g f h
      ·have:=(E g (.inr (.inl f))).2;omega
     have hgM:yU sb av (.slice po m.2.length pc) g5∨H.heap.size≤g5:=(D g5 rfl).imp (fun h=>.inr (.inr h)) (fun h=>by omega);refine EX.pair rfl rfl ?_ ?_
     ·refine fC (α:=Ltl) (i:=m.2.length) (yv:=(.mk k n kids:Ltl)) rfl rfl rfl ho5 OW (hkF hF5) (fun w6 ho6 p=>WL.nil (bu ?_ ⟨?_,?_⟩ ?_))
      ·exact(p.block _ OS (fun e=>U (Nn e).symm)).trans T
      ·exact(p.block _ OS (fun e=>M (Nn e).symm)).trans hS5s
      ·exact(p.block _ OS (fun e=>U (Nn e).symm)).trans T
      ·have I:=R.kept p (fun e=>M (Nn e).symm)
       refine WL.st rfl rfl rfl I rfl rfl Pd (fun w7 hblk7 N=>WL.nil (aW ?_ ?_))
       ·have z6:=p.size
        exact(N.block _ OS (fun e=>by have:=Nn e;have:=hM.blk.lt;omega)).trans ((p.block _ OS (fun e=>U (Nn e).symm)).trans T)
       ·refine Qe ?_
        refine aU (av,_) OR (done hblk7 (ho6.kept N (fun g f e=>by cases f;exact M (Nn e)) (fun b j=>⟨by have:=hF b j;have:=p.size;omega,fun e=>by have:=Nn e;have:=hF b j;have:=a.ge;omega⟩)) ((ha5.keptN p (fun g f e=>hag5 g f (Nn e))).keptN N (fun g f e=>a.na g f (Nn e))) ?_);exact(hC5.then (Chg.of_grown p) (fun b j=>by cases j;exact hgM)).grown N Pb
     ·refine WL.st rfl rfl rfl R rfl rfl Pd (fun w6 I p=>WL.nil (bu ?_ trivial ?_))
      ·exact(p.block _ OS (fun e=>by have:=Nn e;have:=(E sb (.inl rfl)).2;have:=hM.blk.lt;omega)).trans T
      ·have z6:=p.size
       have ho6:=ho5.kept p (fun g f e=>by cases f;exact M (Nn e)) (fun b j=>⟨by have:=hF b j;omega,fun e=>by have:=Nn e;have:=hF b j;have:=a.ge;omega⟩);refine fC (α:=Ltl) (i:=m.2.length) (yv:=(.mk k n kids:Ltl)) rfl rfl rfl ho6 OW (hkF (fun b j=>(p.block b (by have:=hF b j;omega) (fun e=>by have:=Nn e;have:=hF b j;have:=a.ge;omega)).trans (hF5 b j))) (fun w7 ho7 N=>WL.nil (aW ?_ ?_))
       ·exact(N.block _ OS (fun e=>U (Nn e).symm)).trans ((p.block _ OS (fun e=>by have:=Nn e;have:=hM.blk.lt;omega)).trans T)
       ·refine Qe ?_
        refine aU (av,_) OR (done (I.kept N (fun e=>M (Nn e).symm)) ho7 ((ha5.keptN p (fun g f e=>a.na g f (Nn e))).keptN N (fun g f e=>hag5 g f (Nn e))) ?_);exact(hC5.grown p Pb).then (Chg.of_grown N) (fun b j=>by cases j;exact hgM)
   ·have W:qI k n (.mk k n kids) m=m:=by unfold qI;rw[Ou h3,Ou h7]
    have b3:(k==3)=false:=by rw[Oa];exact h3
    have b7:(k==7)=false:=by rw[Oa];omega
    have b8:(k==8)=false:=by rw[Oa];omega
    have b9:(k==9)=false:=by rw[Oa];omega
    refine QH ?_;rw[b3];refine PW ?_;rw[b7];refine PW ?_;rw[b8];refine PW ?_;rw[b9];refine Qz ?_;exact aU (av,pv) OR (skip H Ph W)
  ·rintro⟨av1,pv1⟩ A ⟨a,hC2,na2,np2⟩
   dsimp only at a hC2 na2 np2⊢
   have z2:=hC2.size;have V:Blk A w.heap.size 32 [Pj k,Pj n,.slice ko kids.length kc]:=(hC2.block _ l3 (fun j=>by have:=(hlo _ j).2;omega)).trans hb3;have E:=a.lo;have hk2:Sl A F ko kc kids:=hk.mono (fun b j=>(hC2.block b (by have:=hF b j;omega) (fun hs=>by have:=(hlo b hs).1;have:=hF b j;omega)).trans (e1.block b (by have:=hF b j;omega))) O8;have hmk:(qI k n (.mk k n kids) m).1.length+(qI k n (.mk k n kids) m).2.length+Ltl.nodesL kids≤1000:=by
    simp only[Ltl.nodes]at hsz;omega
   generalize qI k n (.mk k n kids) m=m1 at*
   refine QH ?_;refine CW.loop (S:=Nat×Value×Value) (fun s=>[(0,Pk sb),(49,.slice ko kids.length kc),(50,Pj kids.length),(51,Pj s.1)])
    (fun s w'=>s.1≤kids.length∧MkO w' B F sb s.2.1 s.2.2 (qB (kids.take s.1) m1)∧Chg (yU sb av1 pv1) A w'∧(∀g,s.2.1.ownBlock=some g→av1.ownBlock=some g∨A.heap.size≤g)∧∀g,s.2.2.ownBlock=some g→pv1.ownBlock=some g∨A.heap.size≤g) (fun s=>kids.length -s.1) (0,av1,pv1) OR
    ⟨Nc _,by simpa[qB]using a,Chg.refl _ _,fun g f=>.inl f,fun g f=>.inl f⟩ ?_
   rintro⟨i,cv,qv⟩ w3 ⟨hi,hM3,hC3,na3,np3⟩
   dsimp only at hi hM3 hC3 na3 np3⊢
   have z3:=hC3.size;have hlo3:=hM3.lo;have hk3:Sl w3 F ko kc kids:=hk2.mono (fun b j=>hC3.block b (by have:=hF b j;omega) (fun hs=>by have:=(E b hs).1;have:=hF b j;omega)) O8;refine Qw ?_;apply CW.cond rfl<;>intro h
   ·have X:i<kids.length:=by simp at h;omega
    have hwk:=IQ hwf X;have hnk:=zU hd X;have hlen3:=qE (kids.take i) m1;have htk:=qH (m:=m1) X;have hnn:Ltl.nodesL (kids.take i)+kids[i].nodes≤Ltl.nodesL kids:=by
     have:∀(l:List Ltl) (i:Nat) (h:i<l.length),Ltl.nodesL (l.take i)+l[i].nodes≤Ltl.nodesL l:=by
      intro l
      induction l with
      |nil=>intro i h;simp at h
      |cons x r ih2=>
       intro i h
       cases i with
       |zero=>simp[Ltl.nodesL]
       |succ i=>
        have:=ih2 i (by simpa using h);simp only[Mo,Ltl.nodesL,K8];omega
     exact this kids i X
    refine Qo ?_;refine eE rfl rfl rfl rfl rfl hk3 X O3 (fun u q hu=>?_);obtain⟨uo,uc,rfl,hku⟩:=Rd.ltl hu;generalize kids[i]=x at*
    skip;refine WL.alloc rfl rfl (fun w4 hb5 e4=>?_);skip;refine WL.st rfl rfl rfl hb5 rfl rfl Pd (fun Z hb5 C=>?_);have e5:Ext w3 Z:=e4.grown C e4.size O5;have z5:=e5.size;refine Qm ?_;refine WL.call rfl rfl rfl (ih x hnk hwk Z (hM3.ext OS e5) OS (hku.mono (fun b j=>e5.block b (by have:=hF b j;omega)) O8) OS) ?_;rintro _ w6 ⟨cv',qv',hM6,hC6,na6,np6⟩
    rw[←htk]at hM6
    refine PI ?_;refine EX.back (i+1,cv',qv') OR ⟨X,hM6,(hC3.trans (Chg.of_ext _ e5)).then hC6 (fun b j=>?_),fun g f=>?_,fun g f=>?_⟩ OX
    ·rcases j with h|h|h
     ·exact .inl (.inl h)
     ·exact(na3 b h).imp (fun h=>.inr (.inl h)) id
     ·exact(np3 b h).imp (fun h=>.inr (.inr h)) id
    ·exact(na6 g f).elim (na3 g) (fun h=>.inr OS)
    ·exact(np6 g f).elim (np3 g) (fun h=>.inr OS)
   ·obtain rfl:i=kids.length:=by simp at h;omega
    rw[Ml]at hM3
    refine PZ ?_;refine aV rfl ⟨cv,qv,hM3,((Chg.of_ext _ e1).trans hC2).then hC3 (fun b j=>?_),fun g f=>?_,fun g f=>?_⟩
    ·rcases j with h|h|h
     ·exact .inl (.inl h)
     ·exact(na2 b h).imp (fun h=>.inr (.inl h)) (fun h=>by omega)
     ·exact(np2 b h).imp (fun h=>.inr (.inr h)) (fun h=>by omega)
    ·exact(na3 g f).elim (fun h=>(na2 g h).imp id (fun h=>by omega)) (fun h=>.inr OS)
    ·exact(np3 g f).elim (fun h=>(np2 g h).imp id (fun h=>by omega)) (fun h=>.inr OS)
structure MkF(w:World)(F:Nat→Prop)(sb:Nat)(m:cY):Prop where
 ok:∃ao ac po pc,Blk w sb 160 [.slice ao m.1.length ac,.slice po m.2.length pc]∧Sl w F ao ac m.1∧Sl w F po pc m.2
 sb:F sb
theorem MkF.to{w w':World}{F:Nat→Prop}{sb:Nat}{m:cY}(h:MkF w F sb m)(a:∀b,F b→w'.heap[b]?=w.heap[b]?):MkF w' F sb m:=by
 obtain⟨ao,ac,d,e,h1,h2,h3⟩:=h.ok;exact⟨⟨ao,ac,d,e,(a sb h.sb).trans h1,h2.mono a O8,h3.mono a O8⟩,h.sb⟩
theorem MkF.rd{w:World}{F:Nat→Prop}{sb:Nat}{m:cY}(h:MkF w F sb m)(hF:∀b,F b→b<w.heap.size):MkA w sb m:=by
 obtain⟨ao,ac,a,d,h1,h2,h3⟩:=h.ok;exact⟨ao,ac,a,d,h1,h2.mono Pc hF,h3.mono Pc hF⟩
structure OutA(w:World)(B b7:Nat)(c:Nat→Value)(xs:List Int)(vs:List Raw)(mu no:List Nat)(us:List Raw):Prop where
 blk:Blk w b7 104 [c 0,c 1,c 2,c 3,c 4]
 o0:Own w B 3 c7 (c 0) xs
 o1:Own w B 38 c7 (c 1) vs
 o2:Own w B 95 c7 (c 2) mu
 o3:Own w B 95 c7 (c 3) no
 o4:Own w B 38 c7 (c 4) us
 dj:∀i j,i<5→j<5→i≠j→∀g,(c i).ownBlock=some g→(c j).ownBlock≠some g
 lb:b7<B
def oM(b2 b7:Nat)(c:Nat→Value):Nat→Prop:=fun b=>b=b2∨b=b7∨∃i,i<5∧(c i).ownBlock=some b
def It(c:Nat→Value)(i:Nat)(v:Value):Nat→Value:=fun j=>if j=i then v else c j
section
variable {w w' w'':World}{B b2 b7:Nat}{c:Nat→Value}{xs:List Int}{vs us:List Raw}{mu no:List Nat}{i:Nat}{v':Value}
theorem OutA.lt(h:OutA w B b7 c xs vs mu no us):∀j,j<5→∀g,(c j).ownBlock=some g→B≤g∧g<w.heap.size:=fun j b g a=>by
 match j,b with
 |0,_=>exact⟨(h.o0.lt g a).1,(h.o0.lt g a).2.1⟩
 |1,_=>exact⟨(h.o1.lt g a).1,(h.o1.lt g a).2.1⟩
 |2,_=>exact⟨(h.o2.lt g a).1,(h.o2.lt g a).2.1⟩
 |3,_=>exact⟨(h.o3.lt g a).1,(h.o3.lt g a).2.1⟩
 |4,_=>exact⟨(h.o4.lt g a).1,(h.o4.lt g a).2.1⟩
theorem OutA.ext(h:OutA w B b7 c xs vs mu no us)(a:Ext w w'):OutA w' B b7 c xs vs mu no us:=
 ⟨h.blk.ext a,h.o0.extN a,h.o1.extN a,h.o2.extN a,h.o3.extN a,h.o4.extN a,h.dj,h.lb⟩
theorem OutA.step(h:OutA w B b7 c xs vs mu no us)(hi:i<5)(q:w.grownBy w' (c i).ownBlock)(p:w'.grownBy w'' (some b7))(m:∀g,v'.ownBlock=some g→(c i).ownBlock=some g∨w.heap.size≤g)(y:B≤w.heap.size):
  (∀j,j<5→j≠i→∀{α:Type} [Rep α] {e:TypeId} {ys:List α},Own w B e c7 (c j) ys→Own w'' B e c7 (c j) ys)∧(∀{α:Type} [Rep α] {e:TypeId} {ys:List α},Own w' B e c7 v' ys→Own w'' B e c7 v' ys)∧
   (∀j k,j<5→k<5→j≠k→∀g,(It c i v' j).ownBlock=some g→(It c i v' k).ownBlock≠some g)∧Chg (oM b2 b7 c) w w''∧(∀b,oM b2 b7 (It c i v') b→oM b2 b7 c b∨w.heap.size≤b)∧Chg (fun b=>b=b7∨B≤b) w w'':=by
 have o:=h.lt;have hlb:=h.lb;have x:=q.size;refine⟨fun j n l α _ e ys s=>(s.keptN q (fun g d r=>h.dj j i n hi l g d r.symm)).keptN p (fun g d r=>by have:=(o j n g d).1;have:=Nn r;omega),
  fun s=>s.keptN p (fun g d r=>by have:=(s.lt g d).1;have:=Nn r;omega),fun j k n t l g d a=>?_,((Chg.of_grown q).wk (fun b f=>.inr (.inr ⟨i,hi,f⟩))).grown p (fun g d=>by cases d;exact .inr (.inl rfl)),fun b f=>?_,?_⟩
 ·unfold It at d a
  by_cases v:j=i
  ·subst v
   rw[Ov rfl]at d
   rw[Ou (fun e=>l e.symm)]at a
   rcases m g d with h1|h1
   ·exact h.dj j k n t l g h1 a
   ·have:=(o k t g a).2;omega
  ·rw[Ou v]at d
   by_cases u:k=i
   ·subst u
    rw[Ov rfl]at a
    rcases m g a with h1|h1
    ·exact h.dj j k n t l g d h1
    ·have:=(o j n g d).2;omega
   ·rw[Ou u]at a
    exact h.dj j k n t l g d a
 ·rcases f with f|f|⟨j,n,f⟩
  ·exact .inl (.inl f)
  ·exact .inl (.inr (.inl f))
  ·unfold It at f
   by_cases e:j=i
   ·subst e
    rw[Ov rfl]at f
    exact(m b f).imp (fun h=>.inr (.inr ⟨j,n,h⟩)) id
   ·rw[Ou e]at f
    exact .inl (.inr (.inr ⟨j,n,f⟩))
 ·exact((Chg.of_grown q).wk (fun b f=>.inr (o i hi b f).1)).grown p Pb
end
def iV(m:cY)(K i:Nat):List (List Int):=(List.range K).map fun k=>((List.range i).filter fun t=>decide (ww m t=k)).map fun t:Nat=>(t:Int)
theorem iX{m:cY}{K i:Nat}:(iV m K i).length=K:=by unfold iV;rw[Lq,Lt]
theorem iW{m:cY}{K i k:Nat}(h:k<(iV m K i).length):(iV m K i)[k]=((List.range i).filter fun t=>decide (ww m t=k)).map fun t:Nat=>(t:Int):=by
 simp only[iV,La,Lc]
theorem iZ{m:cY}{K i k:Nat}(h:k<(iV m K i).length):(iV m K i)[k].length≤i:=by
 rw[iW,Lq];exact MN (Lp _ _) (by rw[Lt];exact MM _)
theorem i2{m:cY}{K:Nat}:iV m K 0=List.replicate K []:=by
 unfold iV;refine KE OW fun i h1 h2=>?_
 simp
theorem iY{m:cY}{K i:Nat}(h:ww m i<(iV m K i).length):(iV m K i).set (ww m i) ((iV m K i)[ww m i]++[(i:Int)])=iV m K (i+1):=by
 refine KE (by rw[Lx,iX,iX]) fun j h1 h2=>?_
 rw[Le,iW h2,Mb,KG,LC];by_cases e:ww m i=j
 ·subst e
  rw[Ov rfl,iW];simp
 ·rw[Ou e,iW]
  simp[e]
def EN(p:Nat→Bool)(i:Nat):List Int:=((List.range i).filter p).map fun s:Nat=>(s:Int)
theorem EP{p:Nat→Bool}{i:Nat}:EN p (i+1)=if p i=true then EN p i++[(i:Int)]else EN p i:=by
 unfold EN;rw[Mb,KG,LC,KH,KK];cases p i<;>simp
theorem EO{p:Nat→Bool}{i:Nat}:(EN p i).length≤i:=by
 unfold EN;rw[Lq];exact MN (Lp _ _) (by rw[Lt];exact MM _)
theorem rngM_next{α:Type}{f:Nat→α}{i:Nat}:(List.range (i+1)).map f=(List.range i).map f++[f i]:=by rw[Mb,LC];rfl
theorem CY(w:World)(F:Nat→Prop)(x:Nat)(h:x<18446744073709551616):Rd w F (.int .u64 (x:Int)) x:=⟨_,rfl,C3 _ _ x h⟩
theorem zB(w:World):AutoAt w (c9 w) (.agg #[.slice none 0 0,.slice none 0 0,.slice none 0 0,.slice none 0 0,.slice none 0 0]) nilA5:=
 ⟨none,0,none,0,none,0,none,0,none,0,rfl,Sl.zero w _,Sl.zero w _,Sl.zero w _,Sl.zero w _,Sl.zero w _⟩
set_option maxHeartbeats 4000000 in
theorem cW(w0:World){t:Ltl}{ko:Option Addr}{kc:Nat}(hk:Sl w0 (c9 w0) ko kc t.kids):
  Rt Tryz.prog 36 [yj t.k t.n ko t.kids.length kc].toArray w0 fun v w'=>(∃rv,v=.tuple ⟨[rv,Pj (yp t).2]⟩∧AutoAt w' (c9 w') rv (yp t).1)∧Ext w0 w':=by
 refine dG Tryz.func36 Tryz.ntmps36 rfl rfl ?_;have hE:=Ext.refl w0;refine Pm ?_;refine dZ rfl rfl rfl fun n M e1=>?_
 have hE:=hE.trans e1;have l1:=M.lt;skip;refine WL.alloc rfl rfl (fun w2 hb2 V=>?_);have M:=M.ext V;have hE:=hE.trans V;have l2:=hb2.lt;have y2:=V.size;refine Pw ?_;refine WL.call rfl rfl rfl (db w2 (hk.up hE) O8) ?_;rintro _ w3 ⟨x,rfl,hx,e3⟩
 unfold yp;have hpl:=BZ (t:=t);have hhas:=B4 t;generalize (BY t).2=err at*
 generalize (BY t).1=f at*
 obtain⟨fo,fc,rfl,hfk⟩:=Rd.ltl hx;have M:=M.ext e3;have hb2:=hb2.ext e3;have hE:=hE.trans e3;have y3:=e3.size;refine QO ?_;refine WL.st rfl rfl rfl M rfl rfl Pd (fun w4 M hg4=>?_);have y4:=hg4.size;have hE4:Ext w0 w4:=hE.grown hg4 hE.size O7;have hb24:=hb2.kept hg4 Pa;have hfk4:Sl w4 (Nw w2 w3) fo fc f.kids:=hfk.mono (fun b d=>hg4.block b d.2 (fun e=>by have:=Nn e;have:=d.1;omega)) O8;clear hfk hx hg4 hb2 e1 V e3 hE;refine Qw ?_;apply CW.cond rfl<;>intro h
 ·have h:err≠0:=by simpa using h
  rw[Ov h];refine Pm ?_;refine WL.build (parts:=[]) rfl rfl rfl rfl ?_;refine QO ?_;refine WL.st rfl rfl rfl hb24 rfl rfl Pd (fun w5 hb5 hg5=>?_);have hE5:Ext w0 w5:=hE4.grown hg5 hE4.size O7;refine PL ?_;exact bh rfl rfl rfl hb5 rfl ⟨⟨_,rfl,zB _⟩,hE5⟩
 have h:err=0:=by simpa using h
 obtain⟨hw,rfl,hwp,hn60⟩:=hpl h;have hhas:=hhas hw;rw[Ou (by simp[h])];clear h hpl;generalize B0 t=f at*
 obtain⟨hT,hF⟩:=GK hwp hhas.1 hhas.2;have hga:=qw f ([],[]);have hmlen:=GI f;refine P1 ?_;refine WL.build (parts:=[]) rfl rfl rfl rfl ?_;refine dZ rfl rfl rfl fun w5 hsb e5=>?_
 have l5:=hsb.lt;have y5:=e5.size;have hM5:MkO w5 w4.heap.size (Nw w2 w3) w4.heap.size (.slice none 0 0) (.slice none 0 0) ([],[]):=
  ⟨hsb,Own.nil,Own.nil,MM _,(fun g H=>by cases H),(fun g H=>by cases H),(fun g H=>by cases H),fun b d=>by have:=d.2;omega⟩
 have hb15:=M.ext e5;have hb25:=hb24.ext e5;have hE5:=hE4.trans e5;refine Pw ?_;refine WL.call rfl rfl rfl (qM _ f Pf hwp w5 hM5 y5 (hfk4.mono (fun b d=>e5.block b (by have:=d.2;omega)) O8) OZ) ?_;rintro _ w6 ⟨av,pv,L,hC6,na6,np6⟩
 have y6:=hC6.size;have hlo6:=L.lo;have hC6':Chg (fun b=>b=w4.heap.size) w5 w6:=hC6.wk (fun b d=>by
  rcases d with h|h|h
  ·exact h
  ·cases h
  ·cases h)
 have hblk6:=L.blk;refine Qn ?_;refine WL.call rfl rfl rfl (FP w6 L.a (by simp at hga;omega)) ?_;rintro _ w7 ⟨rfl,hso,hg7⟩
 have y7:=hg7.size;have hsbE:w4.heap.size<w5.heap.size:=l5;have hM7:MkO w7 w4.heap.size (Nw w2 w3) w4.heap.size av pv (GH f):=
  ⟨L.blk.kept hg7 (fun e=>L.na _ e.symm rfl),hso,L.p.kept hg7 (fun g H e=>L.nap g e.symm H) (fun b d=>⟨by have:=d.2;omega,fun e=>by have:=(hlo6 b (.inr (.inl e.symm))).1;have:=d.2;omega⟩),L.ge,L.na,L.np,L.nap,L.hF⟩
 have Z:∀b,b<w4.heap.size→w7.heap[b]?=w4.heap[b]?:=fun b d=>(hg7.block b OS (fun e=>by have:=(hlo6 b (.inr (.inl e.symm))).1;omega)).trans ((hC6'.block b OS OS).trans (e5.block b d))
 have hb17:Blk w7 _ _ _:=(Z _ OS).trans M;have hb27:Blk w7 _ _ _:=(Z _ OS).trans hb24;have hE7:Ext w0 w7:=by
  have h1:Ext w4 w7:=⟨hg7.os.trans (hC6.os.trans e5.os),hg7.tape.trans (hC6.tape.trans e5.tape),hg7.output.trans (hC6.output.trans e5.output),by omega,Z⟩;exact hE4.trans h1
 have hfk7:Sl w7 (Nw w2 w3) fo fc f.kids:=hfk4.mono (fun b d=>Z b (by have:=d.2;omega)) O8;clear L hC6 na6 np6 hC6' hblk6 hso hg7 hM5 hsb hb15 hb25 hfk4 hb24 M e5 hE5 hlo6;obtain⟨ao,ac,rfl⟩:=hM7.a.val;obtain⟨po,pc,rfl⟩:=hM7.p.val;have hblk7:=hM7.blk;have hml:(GH f).1.length+(GH f).2.length≤60:=by rw[hmlen.1,hmlen.2];simp at hga;omega
 refine QK ?_;refine QL.nil (fun w8 e8=>?_);have hE8:=hE7.trans e8;have hb18:=hb17.ext e8;have hb28:=hb27.ext e8;have y8:=e8.size;have hM8:=hM7.ext OS e8;have hfk8:=hfk7.mono (w':=w8) (fun b d=>e8.block b (by have:=d.2;omega)) (F':=fun b=>b<w8.heap.size) (fun b d=>by have:=d.2;omega);rw[show(((GH f).1.length:Nat):Int)+(((GH f).2.length:Nat):Int)=((Ai (GH f):Nat):Int) by unfold Ai;omega];refine Qw ?_;apply CW.cond rfl<;>intro h
 ·have h:Ai (GH f)>10:=by exact_mod_cast OC h
  rw[Ov h];refine Pm ?_;refine WL.build (parts:=[]) rfl rfl rfl rfl ?_;skip;refine WL.st rfl rfl rfl hb28 rfl rfl Pd (fun w9 hb9 hg9=>?_);have hE9:Ext w0 w9:=hE8.grown hg9 hE8.size O7;refine PL ?_;exact bh rfl rfl rfl hb9 rfl ⟨⟨_,rfl,zB _⟩,hE9⟩
 have h10:¬Ai (GH f)>10:=by exact_mod_cast OA h
 rw[Ou h10];clear h;have hlo8:=hM8.lo;have hMk8:MkF w8 (fun b=>b<w8.heap.size) w4.heap.size (GH f):=by
  obtain⟨po',pc',ep,hps⟩:=hM8.p.slF (F':=fun b=>b<w8.heap.size) (fun b d=>by have:=d.2;omega) (fun g H=>(hM8.p.lt g H).2.1);obtain⟨ao',ac',ea,has⟩:=hM8.a.slF (F':=fun b=>b<w8.heap.size) (fun b d=>d.elim) (fun g H=>(hM8.a.lt g H).2.1);obtain⟨rfl,_,rfl⟩:=N5 ep;obtain⟨rfl,_,rfl⟩:=N5 ea;exact⟨⟨ao,ac,po,pc,hM8.blk,has,hps⟩,by omega⟩
 have hmk:=hMk8;clear hM7 hM8 hblk7 hE7 hb17 hb27 hfk7 Z hlo8 hmlen hga e8;generalize GH f=m at*
 generalize hsbn:w4.heap.size=sb at*
 have X:m.1.length≤20∧m.2.length≤20:=by unfold Ai at h10;omega
 have hpN:(1 <<< Ai m)=2 ^ Ai m:=M2 _;have hp10:2 ^ Ai m≤2 ^ 10:=M4 OS OS;have hpK:(1 <<< m.2.length)=2 ^ m.2.length:=M2 _;have hpK10:2 ^ m.2.length≤2 ^ 10:=M4 OS (by unfold Ai at h10;omega);refine P1 ?_;refine WL.alloc rfl rfl (fun w9 hb7 e9=>?_);have l9:=hb7.lt;have hb19:=hb18.ext e9;have hb29:=hb28.ext e9;have hmk9:=hmk.to (w':=w9) (fun b d=>e9.block b d);have hfk9:=hfk8.mono (w':=w9) (fun b d=>e9.block b d) (F':=fun b=>b<w8.heap.size) O8;have hE9:=hE8.trans e9;obtain⟨ao',ac',po',pc',hblk9,has9,hps9⟩:=hmk9.ok;generalize hb7n:w8.heap.size=b7 at*
 refine QH ?_;rw[Fq (show m.2.length<62 by omega)];generalize 1 <<< m.2.length=K at*
 refine eY (α:=Raw) rfl rfl rfl rfl OS OY (fun w10 ho10 hg10=>?_);have e10:Ext w9 w10:=(JJ _ _).grown hg10 Pf O_;generalize hbv:Value.slice (some ⟨w9.heap.size,0,none⟩) (K) (K)=bv at*
 have hN10:OwnN w10 w9.heap.size 38 3 bv _ (List.replicate (K) ([]:List Int)):=OwnN.made ho10;rw[←i2 (m:=m)]at hN10
 clear ho10 hg10;refine Qu ?_;rw[Fq (show Ai m<62 by omega)];generalize 1 <<< Ai m=N at*
 refine CW.loop (S:=Nat×List Raw) (fun s=>[(1,Pk w0.heap.size),(2,Pk n.heap.size),(5,Pk sb),(6,Pj ((Ai m:Nat):Int)),(7,Pk b7),(8,bv),(57,Pj (N:Int)),(58,Pj s.1)])
  (fun s w=>s.1≤N∧OwnN w w9.heap.size 38 3 bv s.2 (iV m (K) s.1)∧Ext w9 w) (fun s=>N -s.1) (0,_) OR ⟨Nc _,hN10,e10⟩ ?_
 clear hN10 e10;rintro⟨i,vs⟩ w ⟨hi,hN,e⟩
 dsimp only at hi hN e⊢
 have hvl:=hN.len;rw[iX]at hvl
 refine Qw ?_;apply CW.cond rfl<;>intro h
 ·have I:i<N:=by have h:=OC h;omega
  clear h;refine PA ?_;refine WL.call rfl rfl rfl (wy w ((hmk9.rd (fun b d=>by omega)).ext e) hT (by rw[hpN]at I;omega) X) ?_;rintro _ w11 ⟨rfl,e11⟩
  have hN11:=hN.ext e11;have e911:=e.trans e11;have hkl:ww m i<K:=by rw[hpK];exact Br
  have hkv:ww m i<vs.length:=by omega
  have hkb:ww m i<(iV m (K) i).length:=by rw[iX];exact hkl
  have hin:=hN11.inn (ww m i) hkv hkb;have hrow:=iZ (m:=m) hkb;have A:=iY (m:=m) hkb;generalize ww m i=k at*
  refine PP ?_;refine eG rfl rfl rfl rfl rfl hN11.out hkv O3 (fun u q hu=>?_);obtain⟨rfl,_⟩:=hu.raw;refine QO ?_;refine dY (F:=c7) (yv:=(i:Int)) rfl rfl O3 rfl rfl O3 hin Pe e911.size O6 OU OY OS (fun v' w12 p ho12 hg12 hnb=>?_);have hmid:=hN11.mid hkv hg12;skip;refine fu (u:=v') (yv:=⟨v'⟩) rfl rfl rfl rfl hmid hkv O3 O3 (Rd.mkRaw _ _ _ ?_) (fun w13 q ho13 hg13=>?_)
  ·obtain⟨a,b,rfl⟩:=ho12.val;rfl
  have hN13:=hN11.set hkv ho12 hg12 hnb ho13 hg13;rw[A]at hN13
  have e13:Ext w9 w13:=(e911.grown hg12 e911.size (fun b d=>(hin.lt b d).1)).grown hg13 (MN e911.size hg12.size) (fun b d=>(hN11.out.lt b d).1);refine PI ?_;exact EX.back (i+1,vs.set k ⟨v'⟩) OR ⟨I,hN13,e13⟩ OX
 obtain rfl:N=i:=by have h:=OA h;omega
 clear h hi;have hlN:=hN.lt;obtain⟨bo,bc,rfl,hby⟩:=hN.sl;have yw:=e.size;have hbyL:=hby.mono (w':=w) Pc (F':=fun b=>w9.heap.size≤b∧b<w.heap.size) (fun b d=>hlN b d);have hmkL:=hmk9.to (w':=w) (fun b d=>e.block b OS);have hfkL:=hfk9.mono (w':=w) (fun b d=>e.block b OS) (F':=fun b=>b<b7) O8;have hb7L:=hb7.ext e;have hb1L:=hb19.ext e;have hb2L:=hb29.ext e;have hEL:=hE9.trans e;have hNlt:N≤1024:=by rw[hpN];exact hp10
 clear hN hvl hby hlN hb7 hb19 hb29 hmk9 hfk9 e9 hE9 hE8 hb18 hb28 hmk hfk8 hblk9 has9 hps9 e;generalize hwLn:w.heap.size=wn at*
 have r:∀{z:World},Chg (fun b=>b=b7∨wn≤b) w z→∀b,b<wn→b≠b7→z.heap[b]?=w.heap[b]?:=fun {z} U b d hne=>U.block b OS OS
 have hMA:∀{z:World},Chg (fun b=>b=b7∨wn≤b) w z→MkA z sb m∧Sl z (c9 z) fo fc f.kids∧Blk z w0.heap.size 32 [Pj f.k,Pj f.n,.slice fo f.kids.length fc]∧Sl z (fun b=>w9.heap.size≤b∧b<wn) bo bc (iV m K N):=fun {z} U=>by
  have hz:=U.size;exact⟨(hmkL.to (fun b d=>r U b OS OS)).rd (fun b d=>by omega),hfkL.mono (fun b d=>r U b OS OS) (fun b d=>by exact(show b<z.heap.size by omega)),(r U _ OS OS).trans hb1L,hbyL.mono (fun b d=>r U b d.2 OS) O8⟩
 refine P5 ?_;rw[Fq (show Ai m<62 by omega),show(1 <<< Ai m:Nat)=N by rw[M2,hpN]];refine CW.loop (S:=Nat×(Nat→Value)×List Raw) (fun s=>[(1,Pk w0.heap.size),(2,Pk n.heap.size),(5,Pk sb),(6,Pj ((Ai m:Nat):Int)),(7,Pk b7),(8,.slice bo (iV m K N).length bc),(76,Pj (N:Int)),(77,Pj s.1)])
  (fun s z=>s.1≤N∧OutA z wn b7 s.2.1 (EN (fun x=>sa m x f) s.1) s.2.2 ((List.range s.1).map fun x=>iE m x true) ((List.range s.1).map fun x=>iE m x false) []∧InnR z (oM n.heap.size b7 s.2.1) s.2.2 ((List.range s.1).map fun x=>EN (fun t=>decide (ww m t=x >>> m.1.length)) N)∧Chg (fun b=>b=b7∨wn≤b) w z)
  (fun s=>N -s.1) (0,(fun _=>.slice none 0 0),[]) OR ⟨Nc _,⟨hb7L,Own.nil,Own.nil,Own.nil,Own.nil,Own.nil,(fun i j _ _ _ g H=>by cases H),by omega⟩,InnR.nil,Chg.refl _ _⟩ ?_
 rintro⟨i,c,vs⟩ z ⟨hi,Y,hR,U⟩
 dsimp only at hi Y hR U⊢
 obtain⟨kMA,kfk,kb1,kby⟩:=hMA U;have hz:=U.size;have hlt:=Y.lt;have hRl:=hR.len;rw[Lq,Lt]at hRl
 refine Qw ?_;apply CW.cond rfl<;>intro h
 ·have I:i<N:=by have h:=OC h;omega
  clear h;have hs20:i<1048576:=by omega
  apply CW.skip;apply bx;apply CW.seq;apply CW.block;apply CW.seq;apply CW.region;refine QO ?_;apply WL.nil;apply bx;refine aB (S:=Nat→Value) (fun c'=>[(1,Pk w0.heap.size),(2,Pk n.heap.size),(5,Pk sb),(6,Pj ((Ai m:Nat):Int)),(7,Pk b7),(8,.slice bo (iV m K N).length bc),(11,Pj (i:Int)),(76,Pj (N:Int)),(77,Pj (i:Int))])
   (fun c' z'=>OutA z' wn b7 c' (EN (fun x=>sa m x f) (i+1)) vs ((List.range i).map fun x=>iE m x true) ((List.range i).map fun x=>iE m x false) []∧InnR z' (oM n.heap.size b7 c') vs ((List.range i).map fun x=>EN (fun t=>decide (ww m t=x >>> m.1.length)) N)∧Chg (fun b=>b=b7∨wn≤b) w z') ?_ ?_
  ·refine P0 ?_
   refine WL.call rfl rfl rfl (G7 _ f Pf z kMA hF kfk hs20 X) ?_;rintro _ z1 ⟨rfl,e1⟩
   have O:=Y.ext e1;have hR1:=hR.to (Chg.of_ext (oM n.heap.size b7 c) e1) (fun b d=>.inl d);have hC1:=U.trans (Chg.of_ext _ e1);have A:=EP (p:=fun x=>sa m x f) (i:=i);have hxl:=EO (p:=fun x=>sa m x f) (i:=i);have hz1:=e1.size;cases hh:sa m i f with
   |false=>
    simp only[hh]at A
    rw[Ou OU]at A
    refine PT ?_;exact aU c OR ⟨by rw[A];exact O,hR1,hC1⟩
   |true=>
    simp only[hh]at A
    rw[Ov trivial]at A
    have hblk1:=O.blk;have hlt1:=O.lt;refine Qm ?_;refine dY (F:=c7) (yv:=(i:Int)) rfl rfl O3 rfl rfl O3 O.o0 Pe OS O6 OU OY OS (fun v' z2 p ho2 hg2 hnb=>?_);obtain⟨so,sc,rfl⟩:=ho2.val;have hblk2:=hblk1.kept hg2 (fun e=>by have:=(hlt1 0 OS b7 e.symm).1;have:=Y.lb;omega);refine QR ?_;refine WL.st rfl rfl rfl hblk2 rfl rfl Pd (fun z3 J hg3=>?_);obtain⟨kk,kn,kd,kc,km,kw⟩:=O.step (b2:=n.heap.size) (i:=0) (by omega) hg2 hg3 hnb OS;have ho3:=kn ho2;rw[←A]at ho3
    refine QB ?_;refine aU (It c 0 _) OR ⟨⟨J,?_,kk 1 OS OS O.o1,kk 2 OS OS O.o2,kk 3 OS OS O.o3,kk 4 OS OS O.o4,kd,Y.lb⟩,hR1.to kc km,hC1.then kw (fun b d=>.inl d)⟩;rw[show(EN (fun x=>sa m x f) i++[(i:Int)]).length=(EN (fun x=>sa m x f) (i+1)).length by rw[A]]at*
    exact ho3
  rintro c1 z1 ⟨O,hR1,hC1⟩
  have hs20':i<2 ^ 20:=by omega
  have hD:Ext z1 (drew z1):=Ext.drew z1;have hzd:=hD.size;have hz1:=hC1.size;have D:=O.ext hD;have hRd:=hR1.to (Chg.of_ext (oM n.heap.size b7 c1) hD) (fun b d=>.inl d);have T:=hC1.trans (Chg.of_ext _ hD);have o:=D.blk;have hltd:=D.lt;have lb:=D.lb;obtain⟨kMA,kfk,kb1,kby⟩:=hMA T;have howe:i >>> m.1.length<K:=by
   rw[hpK,M6,MC (Nat.two_pow_pos _),←Nat.pow_add];rw[hpN]at I
   unfold Ai at I
   rw[Mu];exact I
  have hkb:i >>> m.1.length<(iV m K N).length:=by rw[iX];exact howe
  have hrowN:(iV m K N)[i >>> m.1.length]=EN (fun t=>decide (ww m t=i >>> m.1.length)) N:=iW hkb;have hrowl:=EO (p:=fun t=>decide (ww m t=i >>> m.1.length)) (i:=N);refine PD ?_;refine aE (fun x:World=>∀b,b<wn→x.heap[b]?=(drew z1).heap[b]?) [(0,true),(1,true),(2,true),(3,true),(4,true),(5,false),(6,true),(7,true),(8,false),(9,false),(10,false),(11,false)] 12 mixed OT Pc ?_;refine Q4 ?_;refine cm (fun u h=>h b7 lb) rfl rfl rfl rfl o rfl ?_;refine Q3 ?_;refine cu rfl (WL.call rfl rfl rfl (Bn _ kMA X.1) ?_);rintro _ _ ⟨rfl,rfl⟩
  refine WL.nil (a_ Pc ?_);skip;refine bY (k:=i >>> m.1.length) (fun u h b d=>h b d.2) rfl rfl rfl rfl rfl rfl rfl kby hkb O3 (fun u q hu=>?_);rw[hrowN]at hu
  obtain⟨ro,rc,rfl,hrow⟩:=hu.sl;refine cu rfl (WL.call rfl rfl rfl (kA (drew z1) (hrow.mono Pc (fun b d=>by have:=d.2;exact(show b<(drew z1).heap.size by omega))) OS) ?_);rintro rv z2 ⟨hrv,V⟩
  have hz2:=V.size;refine WL.nil (a_ (fun b d=>V.block b OS) ?_);obtain⟨ro',rc',rfl⟩:=hrv.val;have G:=D.ext V;have hR2:=hRd.to (Chg.of_ext (oM n.heap.size b7 c1) V) (fun b d=>.inl d);have hC2:=T.trans (Chg.of_ext _ V);have hlt2:=G.lt;have hlo1:=G.o1.lt;refine bV (α:=Raw) (F:=c7) (bytes:=24) (yv:=(⟨.slice ro' (EN (fun t=>decide (ww m t=i >>> m.1.length)) N).length rc'⟩:Raw)) rfl rfl rfl rfl O3 rfl rfl O3 G.o1 (Rd.mkRaw _ _ _ rfl) OS O6 OU OY OS
   (fun u hu b d=>(hu.block b OS (fun e=>by have:=(hlo1 b e.symm).1;omega)).trans (V.block b OS)) (fun v' z3 p ho3 hg3 hnb=>?_)
  obtain⟨so,sc,rfl⟩:=ho3.val;have J:=G.blk.kept hg3 (fun e=>by have:=(hlo1 b7 e.symm).1;omega);have hz3:z2.heap.size≤z3.heap.size:=hg3.size;refine cu rfl (eI rfl rfl rfl (WL.nil (a_ (fun b d=>(hg3.block b OS (fun e=>by have:=(hlo1 b e.symm).1;omega)).trans (V.block b OS)) (HL.nil ?_))));refine bm rfl (WL.st rfl rfl rfl J rfl rfl Pd (fun z4 hblk4 hg4=>WL.nil (bp ?_)));obtain⟨kk,kn,kd,kc,km,kw⟩:=G.step (b2:=n.heap.size) (i:=1) (by omega) hg3 hg4 hnb OS;have hrvR:Rd z2 (Fz z2 (oM n.heap.size b7 c1)) _ _:=hrv.rd.mono Pc (fun g H=>H.elim (fun h=>h.elim) (fun H=>⟨(hrv.lt g H).2.1,fun h=>by
   have h1:=(hrv.lt g H).1;rcases h with h|h|⟨j,hj,h⟩
   ·omega
   ·omega
   ·have:=(hltd j hj g h).2;omega⟩))
  have hR4:=(hR2.push hrvR).to kc km;rw[←rngM_next]at hR4
  have hA4:OutA z4 wn b7 (It c1 1 _) _ _ _ _ _:=⟨hblk4,kk 0 OS OS G.o0,kn ho3,kk 2 OS OS G.o2,kk 3 OS OS G.o3,kk 4 OS OS G.o4,kd,lb⟩;have hC4:=hC2.then kw (fun b d=>.inl d);generalize hc2:It c1 1 _=c2 at hA4 hR4
  clear kk kn kd kc km kw hrvR hblk4 hg4 J hlt2 hlo1 hg3 hnb ho3 G hR2 hC2 V hrv hrow o hltd kMA kfk kb1 kby D hRd T hD O hR1 hC1;apply bx;have hD:Ext z4 (drew z4):=Ext.drew z4;have hzd:=hD.size;have hzi:=hC4.size;have D:=hA4.ext hD;have T:=hC4.trans (Chg.of_ext _ hD);have o:=D.blk;have lb:=D.lb;obtain⟨kMA,kfk,kb1,kby⟩:=hMA T;refine PD ?_;refine aE (fun x:World=>∀b,b<wn→x.heap[b]?=(drew z4).heap[b]?) [(0,true),(1,true),(2,true),(3,true),(4,false),(5,false),(6,false),(7,false)] 8 mixed OT Pc ?_;refine Q4 ?_;refine cm (fun u h=>h b7 lb) rfl rfl rfl rfl o rfl ?_;refine Q3 ?_;refine cu rfl (WL.call rfl rfl rfl (iG _ true kMA hT.ok hs20 X.1) ?_);rintro _ zc ⟨rfl,ec⟩
  have hzc:=ec.size;refine WL.nil (a_ (fun b d=>ec.block b OS) ?_);have l:=D.ext ec;have hRc:=hR4.to (Chg.of_ext (oM n.heap.size b7 c2) (hD.trans ec)) (fun b d=>.inl d);have hCc:=T.trans (Chg.of_ext _ ec);have E:=l.o2.lt;refine bV (α:=Nat) (F:=c7) (bytes:=8) (yv:=iE m i true) rfl rfl rfl rfl O3 rfl rfl O3 l.o2 (CY _ _ _ (iB (fun x hx=>(hT.ok.ra x hx).2) Pf)) OS O6 OU (by unfold maxLen;rw[Lq,Lt];omega) (by rw[Lq,Lt];omega)
   (fun u hu b d=>(hu.block b OS (fun e=>by have:=(E b e.symm).1;omega)).trans (ec.block b OS)) (fun v' zA p hoA Q hnb=>?_)
  obtain⟨so,sc,rfl⟩:=hoA.val;have R:=l.blk.kept Q (fun e=>by have:=(E b7 e.symm).1;omega);have hzA:zc.heap.size≤zA.heap.size:=Q.size;refine cu rfl (eI rfl rfl rfl (WL.nil (a_ (fun b d=>(Q.block b OS (fun e=>by have:=(E b e.symm).1;omega)).trans (ec.block b OS)) (HL.nil ?_))));refine bm rfl (WL.st rfl rfl rfl R rfl rfl Pd (fun z5 C hgB=>WL.nil (bp ?_)));obtain⟨kk,kn,kd,kc,km,kw⟩:=l.step (b2:=n.heap.size) (i:=2) (by omega) Q hgB hnb OS;have hR5:=hRc.to kc km;have P:=hoA;rw[show((List.range i).map fun x=>iE m x true)++[iE m i true]=(List.range (i+1)).map fun x=>iE m x true from rngM_next.symm]at P C kd km hR5 kn
  have hA5:OutA z5 wn b7 (It c2 2 _) _ _ _ _ _:=⟨C,kk 0 OS OS l.o0,kk 1 OS OS l.o1,kn P,kk 3 OS OS l.o3,kk 4 OS OS l.o4,kd,lb⟩;have hC5:=hCc.then kw (fun b d=>.inl d);generalize hcv5:It c2 2 _=c3 at hA5 hR5
  clear kk kn kd kc km kw Q hgB hnb hoA P l hRc hCc ec o kMA kfk kb1 kby D T hD hA4 hR4 hC4 R C E;apply bx;have hD:Ext z5 (drew z5):=Ext.drew z5;have hzd:=hD.size;have hzi:=hC5.size;have D:=hA5.ext hD;have T:=hC5.trans (Chg.of_ext _ hD);have o:=D.blk;have lb:=D.lb;obtain⟨kMA,kfk,kb1,kby⟩:=hMA T;skip;refine aE (fun x:World=>∀b,b<wn→x.heap[b]?=(drew z5).heap[b]?) [(0,true),(1,true),(2,true),(3,true),(4,false),(5,false),(6,false),(7,false)] 8 mixed OT Pc ?_;refine Q4 ?_;refine cm (fun u h=>h b7 lb) rfl rfl rfl rfl o rfl ?_;refine Q3 ?_;refine cu rfl (WL.call rfl rfl rfl (iG _ false kMA hT.ok hs20 X.1) ?_);rintro _ zc ⟨rfl,ec⟩
  have hzc:=ec.size;refine WL.nil (a_ (fun b d=>ec.block b OS) ?_);have l:=D.ext ec;have hRc:=hR5.to (Chg.of_ext (oM n.heap.size b7 c3) (hD.trans ec)) (fun b d=>.inl d);have hCc:=T.trans (Chg.of_ext _ ec);have E:=l.o3.lt;refine bV (α:=Nat) (F:=c7) (bytes:=8) (yv:=iE m i false) rfl rfl rfl rfl O3 rfl rfl O3 l.o3 (CY _ _ _ (iB (fun x hx=>(hT.ok.ra x hx).2) Pf)) OS O6 OU (by unfold maxLen;rw[Lq,Lt];omega) (by rw[Lq,Lt];omega)
   (fun u hu b d=>(hu.block b OS (fun e=>by have:=(E b e.symm).1;omega)).trans (ec.block b OS)) (fun v' zA p hoA Q hnb=>?_)
  obtain⟨so,sc,rfl⟩:=hoA.val;have R:=l.blk.kept Q (fun e=>by have:=(E b7 e.symm).1;omega);have hzA:zc.heap.size≤zA.heap.size:=Q.size;refine cu rfl (eI rfl rfl rfl (WL.nil (a_ (fun b d=>(Q.block b OS (fun e=>by have:=(E b e.symm).1;omega)).trans (ec.block b OS)) (HL.nil ?_))));refine bm rfl (WL.st rfl rfl rfl R rfl rfl Pd (fun z6 C hgB=>WL.nil (bp ?_)));obtain⟨kk,kn,kd,kc,km,kw⟩:=l.step (b2:=n.heap.size) (i:=3) (by omega) Q hgB hnb OS;have hR6:=hRc.to kc km;have P:=hoA;rw[show((List.range i).map fun x=>iE m x false)++[iE m i false]=(List.range (i+1)).map fun x=>iE m x false from rngM_next.symm]at P C kd km hR6 kn
  have hA6:OutA z6 wn b7 (It c3 3 _) _ _ _ _ _:=⟨C,kk 0 OS OS l.o0,kk 1 OS OS l.o1,kk 2 OS OS l.o2,kn P,kk 4 OS OS l.o4,kd,lb⟩;have hC6:=hCc.then kw (fun b d=>.inl d);generalize hcv6:It c3 3 _=c4 at hA6 hR6
  clear kk kn kd kc km kw Q hgB hnb hoA P l hRc hCc ec o kMA kfk kb1 kby D T hD hA5 hR5 hC5 R C E;refine PI ?_;exact EX.back (i+1,c4,_) OR ⟨I,hA6,hR6,hC6⟩ OX
 obtain rfl:N=i:=by have h:=OA h;omega
 clear h hi hRl;obtain⟨mao,mac,mpo,mpc,hblkw,hasw,hpsw⟩:=hmkL.ok;have hblkz:Blk z _ _ _:=(r U sb OS OS).trans hblkw;refine Qc ?_;refine CW.loop (S:=Nat×(Nat→Value)×List Raw) (fun s=>[(2,Pk n.heap.size),(5,Pk sb),(6,Pj ((Ai m:Nat):Int)),(7,Pk b7),(122,.slice mpo m.2.length mpc),(123,Pj m.2.length),(124,Pj s.1)])
  (fun s z=>s.1≤m.2.length∧OutA z wn b7 s.2.1 (EN (fun x=>sa m x f) N) vs ((List.range N).map fun x=>iE m x true) ((List.range N).map fun x=>iE m x false) s.2.2∧InnR z (oM n.heap.size b7 s.2.1) vs ((List.range N).map fun x=>EN (fun t=>decide (ww m t=x >>> m.1.length)) N)∧
   InnR z (oM n.heap.size b7 s.2.1) s.2.2 (((m.2.take s.1).filter fun g=>decide (g.k≠7)).map fun g=>EN (oD m g) N)∧Chg (fun b=>b=b7∨wn≤b) w z)
  (fun s=>m.2.length -s.1) (0,c,[]) OR ⟨Nc _,Y,hR,InnR.nil,U⟩ ?_
 clear hblkz Y hR U kMA kfk kb1 kby hlt hz c z;rintro⟨i,c,us⟩ z ⟨hi,Y,hR,hU,U⟩
 dsimp only at hi Y hR hU U⊢
 have hz:=U.size;have hlt:=Y.lt;have hUl:=hU.len;have hfl:((m.2.take i).filter fun g=>decide (g.k≠7)).length≤i:=MN (Lp _ _) (by rw[Lz];omega);rw[Lq]at hUl
 refine Qw ?_;apply CW.cond rfl<;>intro h
 ·have I:i<m.2.length:=by have h:=OC h;omega
  clear h;have hpsz:Sl z (fun b=>b<b7) mpo mpc m.2:=hpsw.mono (fun b d=>r U b (by have d:b<b7:=d;omega) (by have d:b<b7:=d;omega)) O8;have htk:(m.2.take (i+1))=m.2.take i++[m.2[i]]:=by rw[Mj,KX I];rfl
  have hmem:m.2[i]∈m.2:=Lb I;refine Qo ?_;refine eE (i:=i) rfl rfl rfl rfl rfl hpsz I O3 (fun u q hu=>?_);generalize m.2[i]=g at*
  obtain⟨go,gc,rfl,hgk⟩:=Rd.ltl hu;clear hu hpsz;skip;refine WL.alloc rfl rfl (fun z1 hg1 e1=>?_);skip;refine WL.st rfl rfl rfl hg1 rfl rfl Pd (fun z2 hg2 hgg2=>?_);have V:Ext z z2:=JH e1 hgg2 e1.size O5;have hz2:=V.size;have G:=Y.ext V;have hR2:=hR.to (Chg.of_ext (oM n.heap.size b7 c) V) (fun b d=>.inl d);have hU2:=hU.to (Chg.of_ext (oM n.heap.size b7 c) V) (fun b d=>.inl d);have hC2:=U.trans (Chg.of_ext _ V);have lg:=hg2.lt;have hgk2:=hgk.mono (w':=z2) (F':=fun b=>b<b7) (fun b d=>V.block b (by have d:b<b7:=d;omega)) O8;have hOg:=hT.part hmem;clear hg1 e1 hgg2 Y hR hU U hgk;refine QE ?_;apply CW.cond rfl<;>intro h
  ·have h:g.k=7:=by simpa using h
   refine PJ ?_;refine EX.back (i+1,c,us) OR ⟨I,G,hR2,?_,hC2⟩ OX;rw[htk,KG,show([g].filter fun g=>decide (g.k≠7))=[] by simp[h],Kk];exact hU2
  have hk7:g.k≠7:=by simpa using h
  have htk2:((m.2.take (i+1)).filter fun g=>decide (g.k≠7))=((m.2.take i).filter fun g=>decide (g.k≠7))++[g]:=by rw[htk,KG,show([g].filter fun g=>decide (g.k≠7))=[g] by simp[hk7]]
  clear h htk;obtain⟨a,rfl⟩|⟨k,a,b,hk,rfl⟩:=BI (hT.ok.wp g hmem).1 (hT.ok.wp g hmem).2.1
  ·exact absurd rfl hk7
  clear hk7;generalize hgd:Ltl.mk k 0 [a,b]=g at*
  refine PA ?_;rw[Fq (show Ai m<62 by omega),show(1 <<< Ai m:Nat)=N by rw[M2,hpN]];refine CW.loop (S:=Nat×Value) (fun s=>[(2,Pk n.heap.size),(5,Pk sb),(6,Pj ((Ai m:Nat):Int)),(7,Pk b7),(13,Pk z.heap.size),(14,s.2),(122,.slice mpo m.2.length mpc),(123,Pj m.2.length),(124,Pj i),(132,Pj (N:Int)),(133,Pj s.1)])
   (fun s y=>s.1≤N∧Own y z2.heap.size 3 c7 s.2 (EN (oD m g) s.1)∧Ext z2 y) (fun s=>N -s.1) (0,.slice none 0 0) OR ⟨Nc _,Own.nil,Ext.refl _⟩ ?_
  rintro⟨j,sv⟩ y ⟨hj,hs,ey⟩
  dsimp only at hj hs ey⊢
  have hy:=ey.size;have hsl:=EO (p:=oD m g) (i:=j);refine Qw ?_;apply CW.cond rfl<;>intro h
  ·have hj':j<N:=by have h:=OC h;omega
   clear h;have hgy:=hg2.ext ey;obtain⟨kMA,kfk,kb1,kby⟩:=hMA (hC2.trans (Chg.of_ext _ ey));have hgky:=hgk2.mono (w':=y) (F':=c9 y) (fun b d=>ey.block b (by have d:b<b7:=d;omega)) (fun b d=>(show b<y.heap.size by have d:b<b7:=d;omega));have A:=EP (p:=oD m g) (i:=j);subst hgd;refine Qt ?_;refine WL.call rfl rfl rfl (G6 _ (k:=k) (a:=a) (b:=b) kMA hOg hk hgky (show j<1048576 by omega) X) ?_;rintro v y1 ⟨hv,e1⟩
   have hs1:=hs.extN e1;have hey:=ey.trans e1;have hy1:=hey.size;generalize oD m (.mk k 0 [a,b]) j=bb at hv A
   subst hv;cases bb with
   |false=>
    rw[Ou OU]at A
    refine QD ?_;exact EX.back (j+1,sv) OR ⟨hj',by rw[A];exact hs1,hey⟩ OX
   |true=>
    rw[Ov rfl]at A
    refine Qb ?_;refine dY (F:=c7) (yv:=(j:Int)) rfl rfl O3 rfl rfl O3 hs1 Pe OS O6 OU OY OS (fun v' y2 p ho2 hgr2 hnb=>?_);rw[←A]at ho2
    refine PI ?_;exact EX.back (j+1,v') OR ⟨hj',ho2,hey.grown hgr2 hey.size (fun g H=>(hs1.lt g H).1)⟩ OX
  obtain rfl:N=j:=by have h:=OA h;omega
  clear h hj;have W:=G.ext ey;have hRy:=hR2.to (Chg.of_ext (oM n.heap.size b7 c) ey) (fun b d=>.inl d);have hUy:=hU2.to (Chg.of_ext (oM n.heap.size b7 c) ey) (fun b d=>.inl d);have hCy:=hC2.trans (Chg.of_ext _ ey);have hblky:=W.blk;have hlty:=W.lt;have lb:=W.lb;have hlo4:=W.o4.lt;obtain⟨ro,rc,rfl⟩:=hs.val;clear G hR2 hU2 hC2 hg2;refine Qc ?_;refine dY (α:=Raw) (F:=c7) (yv:=(⟨.slice ro (EN (oD m g) N).length rc⟩:Raw)) rfl rfl O3 rfl rfl O3 W.o4 (Rd.mkRaw _ _ _ rfl) OS O6 OU OY OS (fun v' y2 p ho2 hgr2 hnb=>?_);obtain⟨so,sc,rfl⟩:=ho2.val;have hblk2:=hblky.kept hgr2 (fun e=>by have:=(hlo4 b7 e.symm).1;omega);refine QR ?_;refine WL.st rfl rfl rfl hblk2 rfl rfl Pd (fun y3 J hgr3=>?_);obtain⟨kk,kn,kd,kc,km,kw⟩:=W.step (b2:=n.heap.size) (i:=4) (by omega) hgr2 hgr3 hnb OS;have hrvR:Rd y (Fz y (oM n.heap.size b7 c)) _ _:=hs.rd.mono Pc (fun g H=>H.elim (fun h=>h.elim) (fun H=>⟨(hs.lt g H).2.1,fun h=>by
   have h1:=(hs.lt g H).1;rcases h with h|h|⟨j,hj,h⟩
   ·omega
   ·omega
   ·have:=(hlt j hj g h).2;omega⟩))
  have hU3:=(hUy.push hrvR).to kc km;rw[show((m.2.take i).filter fun g=>decide (g.k≠7)).map (fun g=>EN (oD m g) N)++[EN (oD m g) N]=((m.2.take (i+1)).filter fun g=>decide (g.k≠7)).map (fun g=>EN (oD m g) N) by rw[htk2,LC];rfl]at hU3
  have hA3:OutA y3 wn b7 (It c 4 _) _ _ _ _ _:=⟨J,kk 0 OS OS W.o0,kk 1 OS OS W.o1,kk 2 OS OS W.o2,kk 3 OS OS W.o3,kn ho2,kd,lb⟩;refine PI ?_;exact EX.back (i+1,_,_) OR ⟨I,hA3,hRy.to kc km,hU3,hCy.then kw (fun b d=>.inl d)⟩ OX
 obtain rfl:i=m.2.length:=by have h:=OA h;omega
 rw[Ml]at hU
 clear h hi;have hblkz:=Y.blk;have lb:=Y.lb;have hb2z:Blk z _ _ _:=(r U n.heap.size OS OS).trans hb2L;have hE:Ext w0 z:=Chg.ext hEL U (fun b d=>by omega);have hFF:∀b,Fz z (oM n.heap.size b7 c) b→b<z.heap.size∧b≠n.heap.size:=fun b d=>⟨d.1,fun e=>d.2 (.inl e)⟩
 have hFo:∀j,j<5→∀g,(c j).ownBlock=some g→g<z.heap.size∧g≠n.heap.size:=fun j hj g H=>⟨(hlt j hj g H).2,by have:=(hlt j hj g H).1;omega⟩
 obtain⟨a1,d1,e1,s1⟩:=Y.o0.slF (F':=fun b=>b<z.heap.size∧b≠n.heap.size) O6 (hFo 0 OS);obtain⟨a2,d2,V,s2⟩:=hR.sl (F:=fun b=>b<z.heap.size∧b≠n.heap.size) Y.o1 hFF (hFo 1 OS);obtain⟨a3,d3,e3,s3⟩:=Y.o2.slF (F':=fun b=>b<z.heap.size∧b≠n.heap.size) O6 (hFo 2 OS);obtain⟨a4,d4,e4,s4⟩:=Y.o3.slF (F':=fun b=>b<z.heap.size∧b≠n.heap.size) O6 (hFo 3 OS);obtain⟨a5,d5,e5,s5⟩:=hU.sl (F:=fun b=>b<z.heap.size∧b≠n.heap.size) Y.o4 hFF (hFo 4 OS);rw[e1,V,e3,e4,e5]at hblkz
 clear Y hR hU;refine P9 ?_;refine WL.st rfl rfl rfl hb2z rfl rfl Pd (fun z1 M hg1=>?_);have hz1:=hg1.size;have hk1:∀b,b<z.heap.size∧b≠n.heap.size→z1.heap[b]?=z.heap[b]?:=fun b d=>hg1.block b d.1 (fun e=>d.2 (Nn e))
 have hk2:∀b,b<z.heap.size∧b≠n.heap.size→c9 z1 b:=fun b d=>(show b<z1.heap.size by omega)
 have hE1:Ext w0 z1:=hE.grown hg1 hE.size O7;refine Pr ?_;have hT5:GE m f=(EN (fun x=>sa m x f) N,(List.range N).map fun x=>EN (fun t=>decide (ww m t=x >>> m.1.length)) N,(List.range N).map fun x=>iE m x true,(List.range N).map fun x=>iE m x false,(m.2.filter fun g=>decide (g.k≠7)).map fun g=>EN (oD m g) N):=by rw[hpN];rfl
 refine bh rfl rfl rfl M rfl ⟨⟨_,rfl,?_⟩,hE1⟩;show AutoAt z1 (c9 z1) _ (GE m f);rw[hT5];exact⟨a1,d1,a2,d2,a3,d3,a4,d4,a5,d5,rfl,s1.mono hk1 hk2,s2.mono hk1 hk2,s3.mono hk1 hk2,s4.mono hk1 hk2,s5.mono hk1 hk2⟩

theorem Sl.notB{w:World}{F:Nat→Prop}{ao:Option Addr}{cap b:Nat}{xs:List Int}{e:TypeId}{cells:List Value}(h:Sl w F ao cap xs)(m:Blk w b e cells)(l:∀(k:Nat) (x:Int),cells[k]?≠some (Value.int IntKind.i64 x)):Sl w (fun c=>F c∧c≠b) ao cap xs:=by
 refine⟨h.le,h.mx,h.nil,fun i hi=>?_⟩;obtain⟨c,off,n,hf,f,d,g⟩:=h.el i hi;have a:f=[Value.int IntKind.i64 xs[i]]:=g;refine⟨c,off,n,⟨hf,fun j=>?_⟩,f,d,a⟩;subst a;have h1:=d 0 _ rfl;rw[j,Og w b _ cells.toArray e (0,0) m]at h1
 exact l _ _ (by simpa using h1)
def ai(W:cQ)(f:Ltl):Prop:=∀ρ,WWay W ρ→EQ (fun i=>W.2.2.1.getD (ρ i) 0) f 0
def Aa(f:Ltl):Ltl:=.mk 4 0 [f]
theorem sem_not{L:Nat→Nat}{f:Ltl}{i:Nat}:EQ L (Aa f) i↔¬EQ L f i:=by simp[Aa,EQ,E6,E2]
theorem oh{W:cQ}{f:Ltl}(d:df W)(h:(yp (Aa f)).2=0):aP W (yp (Aa f)).1↔¬ai W f:=by
 have b:=fun L=>(yq (L:=L) h).2.1
 have okA:=(yq (L:=fun _=>0) h).1;constructor
 ·rintro⟨r,c⟩ a
  obtain⟨h1,h2⟩:=ot d (Az okA) c;exact sem_not.1 ((b _).1 h2) (a _ h1)
 ·intro hn
  unfold ai at hn
  rw[J6]at hn
  obtain⟨ρ,hρ⟩:=hn;rw[Classical.not_imp]at hρ
  exact ol hρ.1 ((b _).2 (sem_not.2 hρ.2))
structure JudE(W:cQ)(f:Ltl)(s l:List Int)(is:Bool)(err:Int):Prop where
 bad:err≠0→is=false∧s=[]∧l=[]
 good:jB W=0→(jD f 1 0).1=0→(yp (Aa f)).2=0→err=0
 ok:err=0→jB W=0∧(jD f 1 0).1=0∧IK f∧(yp (Aa f)).2=0∧(is=true↔ai W f)∧(is=true→s=[]∧l=[])∧(is=false→PathE W (yp (Aa f)).1 s l)
theorem wr{W:cQ}{f:Ltl}{s l:List Int}{is:Bool}{err:Int}(hf:(jD f 1 0).1=0)(h:(yp (Aa f)).2=0)(hF:bM W (yp (Aa f)).1 s l is err):JudE W f s l (!is&&decide (err=0)) err:=by
 have c:=(yq (L:=fun _=>0) h).2.2;have g:IK f:=by
  have:=c;unfold Aa at this
  simp only[IK,IL]at this
  exact this.2.2.2.2.1
 have okA:=(yq (L:=fun _=>0) h).1;rcases hF with⟨i,rfl,rfl,rfl,d⟩|⟨rfl,a,n,⟨rfl,rfl,rfl,e⟩|⟨rfl,j,hP⟩⟩
 ·exact⟨fun _=>⟨by simp[i],rfl,rfl⟩,fun a _ _=>(d a (jq okA)).elim,fun m=>absurd m i⟩
 ·exact⟨fun h=>absurd rfl h,fun _ _ _=>rfl,fun _=>⟨a,hf,g,h,⟨fun _=>J7.1 (fun hn=>e ((oh (jC a) h).2 hn)),fun _=>by simp⟩,fun _=>⟨rfl,rfl⟩,fun b=>by simp at b⟩⟩
 ·exact⟨fun h=>absurd rfl h,fun _ _ _=>rfl,fun _=>⟨a,hf,g,h,⟨fun b=>by simp at b,fun k=>absurd k ((oh (jC a) h).1 j)⟩,fun b=>by simp at b,fun _=>hP⟩⟩
theorem wq{W:cQ}{f:Ltl}{err:Int}(h:err≠0)(d:jB W=0→(jD f 1 0).1=0→(yp (Aa f)).2=0→False):JudE W f [] [] false err:=
 ⟨fun _=>⟨rfl,rfl,rfl⟩,fun a b c=>(d a b c).elim,fun e=>absurd e h⟩
set_option maxHeartbeats 1000000 in
theorem vZ(w0:World){vf:Value}{W:cQ}{f:Ltl}{o1 o2 o3 o4:Option Addr}{c1 c2 c3 c4:Nat}(h1:Sl w0 (c9 w0) o1 c1 W.1)(h2:Sl w0 (c9 w0) o2 c2 W.2.1)(h3:Sl w0 (c9 w0) o3 c3 W.2.2.1)(h4:Sl w0 (c9 w0) o4 c4 W.2.2.2)(hf:RL w0 vf f)
  (sW:∀j,(W.2.1.getD j []).length≤1048576) (tW:W.1.length≤1048576):
  Rt Tryz.prog 13 [I2 o1 c1 o2 c2 o3 c3 o4 c4 W.1.length W.2.1.length W.2.2.1.length W.2.2.2.length,vf].toArray w0 fun v w'=>(∃s l is err so sc lo Z,v=.tuple ⟨[BM so sc lo Z s l,.bool is,Pj err]⟩∧Sl w' (c9 w') so sc s∧Sl w' (c9 w') lo Z l∧JudE W f s l is err)∧Ext w0 w':=by
 have hm3:=h3.len63;obtain⟨ko,kc,rfl,hk⟩:=Rd.ltl hf;refine dH Tryz.func13 Tryz.ntmps13 rfl rfl ?_;have c:=Ext.refl w0;refine Pm ?_;refine dZ rfl rfl rfl fun w1 d e1=>?_
 have c:=c.trans e1;skip;refine dZ rfl rfl rfl fun w2 g e2=>?_
 have d:=d.ext e2;have c:=c.trans e2;skip;refine WL.alloc rfl rfl (fun w3 a Y=>?_);have d:=d.ext Y;have g:=g.ext Y;have l2:=c.size;have c:=c.trans Y;have l4:=a.lt;refine Pw ?_;refine WL.call rfl rfl rfl (IB w3 (h1.up c) (h2.up c) hm3 (h4.up c)) ?_;rintro _ w4 ⟨rfl,R⟩
 have d:=d.ext R;have g:=g.ext R;have a:=a.ext R;have c:=c.trans R;clear e1 e2 Y;refine Qw ?_;apply CW.cond rfl<;>intro h
 ·have h:jB W≠0:=by simpa using h
  refine Pm ?_;refine WL.build (parts:=[]) rfl rfl rfl rfl ?_;refine QO ?_;refine WL.st rfl rfl rfl a rfl rfl Pd (fun U hb5 hg5=>?_);have hE5:Ext w0 U:=c.grown hg5 c.size O7;refine PL ?_;exact bl rfl rfl rfl rfl hb5 rfl ⟨⟨[],[],false,_,_,_,_,_,rfl,Sl.zero U _,Sl.zero U _,wq h (fun P _ _=>h P)⟩,hE5⟩
 have hW:jB W=0:=by simpa using h
 clear h;refine P1 ?_;refine WL.call rfl rfl rfl (yh w4 (hk.up c) O8) ?_;rintro _ U ⟨rfl,Q⟩
 have d:=d.ext Q;have g:=g.ext Q;have a:=a.ext Q;have c:=c.trans Q;refine Qw ?_;apply CW.cond rfl<;>intro h
 ·have h:(jD f 1 0).1≠0:=by simpa using h
  refine Pm ?_;refine WL.build (parts:=[]) rfl rfl rfl rfl ?_;refine QO ?_;refine WL.st rfl rfl rfl a rfl rfl Pd (fun C hb6 hg6=>?_);have hE6:Ext w0 C:=c.grown hg6 c.size O7;refine PL ?_;exact bl rfl rfl rfl rfl hb6 rfl ⟨⟨[],[],false,_,_,_,_,_,rfl,Sl.zero C _,Sl.zero C _,wq h (fun _ P _=>h P)⟩,hE6⟩
 have hcf:(jD f 1 0).1=0:=by simpa using h
 clear h;refine P1 ?_;refine eV [f] rfl rfl rfl rfl rfl ⟨RL.ext hf c,trivial⟩ (by show 1*3≤16777216;decide) (fun u C e6 hu _=>?_);obtain⟨fo,fc,rfl,H⟩:=hu.sl;skip;refine WL.build (parts:=[(0,_),(2,_)]) rfl rfl rfl rfl ?_;skip;refine WL.call rfl rfl rfl (cW C (t:=Aa f) H) ?_;rintro _ w7 ⟨⟨rv,rfl,hr⟩,e7⟩
 have n:=e6.trans e7;have d:=d.ext n;have g:=g.ext n;have a:=a.ext n;have c:=c.trans n;have D:=yr (Aa f);have I:=fun s l is err=>wr (W:=W) (s:=s) (l:=l) (is:=is) (err:=err) hcf
 have E:=fun err h=>wq (W:=W) (f:=f) (err:=err) h
 obtain⟨q1,f1,q2,f2,q3,f3,q4,f4,q5,f5,rfl,p1,p2,p3,p4,p5⟩:=hr.ok;generalize (yp (Aa f)).2=e at*
 generalize (yp (Aa f)).1=A at*
 clear hr;refine QO ?_;refine WL.alloc rfl rfl (fun w8 K e8=>?_);skip;refine WL.st rfl rfl rfl K rfl rfl Pd (fun T K F=>?_);have p:Ext w7 T:=e8.grown F e8.size O5;have d:=d.ext p;have a:=a.ext p;have c:=c.trans p;have hA:AutoAt T (c9 T) _ A:=⟨q1,f1,q2,f2,q3,f3,q4,f4,q5,f5,rfl,p1.up p,p2.up p,p3.up p,p4.up p,p5.up p⟩;clear R Q e6 e7 n e8 p F p1 p2 p3 p4 p5 H hu g;refine Qw ?_;apply CW.cond rfl<;>intro h
 ·have h:e≠0:=by simpa using h
  refine Pm ?_;refine WL.build (parts:=[]) rfl rfl rfl rfl ?_;refine QO ?_;refine WL.st rfl rfl rfl a rfl rfl Pd (fun i M G=>?_);have O:Ext w0 i:=c.grown G c.size O7;refine PL ?_;exact bl rfl rfl rfl rfl M rfl ⟨⟨[],[],false,_,_,_,_,_,rfl,Sl.zero i _,Sl.zero i _,E _ h (fun _ _ P=>h P)⟩,O⟩
 have he:e=0:=by simpa using h
 clear h;refine P1 ?_;refine WL.call rfl rfl rfl (pA T (W:=W) (A:=A) (h1.up c) (h2.up c) (h3.up c) (h4.up c) hA sW D.2.1 tW D.2.2) ?_;rintro _ i ⟨⟨s,l,is,err,so,sc,lo,Z,rfl,hs,hl,hF⟩,S⟩
 have a:=a.ext S;have c:=c.trans S;refine QO ?_;refine WL.alloc rfl rfl (fun w11 y B=>?_);skip;refine WL.st rfl rfl rfl y rfl rfl Pd (fun o y w=>?_);have q:Ext i o:=B.grown w B.size O5;have a:=a.ext q;have c:=c.trans q;have hs:=hs.up q;have hl:=hl.up q;have hJ:=I s l is err he hF;clear B w I E hF;have z4:w2.heap.size<o.heap.size:=a.lt;cases is<;>by_cases X:err=0
 all_goals
  first
   |rw[show decide (err=0)=true by simpa using X]at hJ
   |rw[show decide (err=0)=false by simpa using X]at hJ
  first
   |have J:(err==0)=true:=by simpa using X
   |have J:(err==0)=false:=by simpa using X
  refine Qi ?_
  try rw[J]
  skip;refine WL.st rfl rfl rfl a rfl rfl Pd (fun z L m=>?_);have N:Ext w0 z:=c.grown m c.size O7;have r:∀{ao:Option Addr} {cap:Nat} {xs:List Int},Sl o (c9 o) ao cap xs→Sl z (c9 z) ao cap xs:=fun h=>(h.notB a (fun k x=>by
   match k with
   |0=>simp
   |1=>simp
   |k+2=>simp)).mono (fun b V=>m.block b V.1 (fun e=>V.2 (Nn e))) (fun b V=>MQ V.1 m.size)
  refine Pr ?_;exact bl rfl rfl rfl rfl L rfl ⟨⟨s,l,_,err,_,_,_,_,rfl,r hs,r hl,hJ⟩,N⟩
theorem Es(P:Program)(w:World)(a:Int)(s:Nat)(b:s≤62)(t:TypeId):(binOp .shr t (Pj a) (Pj (s:Int))).run P w=.ok (Pj (a / 2 ^ s)) w:=by
 rw[binOp_shr,shift_shr_i64 (h₀:=by omega) (h₁:=by omega),Kd];rfl
section
variable {P:Program}{Q:Exit→Act→World→Prop}{n:Nat}{σ:Sg}{w:World}{L rest:List Oper}{d:Nat}{ty:TypeId}{pos:String}{af:Array Edge}{g:Option (Nat×Bool)}{t yt:TypeId}{x y:Operand}
theorem fy{a:Int}{s:Nat}(i:gd L σ ⟨some d,.binOp .shr t x y yt,ty,pos,af,g⟩=some true)(hd:Nat.ble (d+1) n=true)(e:ev σ x=some (Pj a))(c:ev σ y=some (Pj (s:Int)))(f:s≤62)
  (h:WL P L Q rest n ((d,Pj (a / 2 ^ s))::σ) w):WL P L Q (⟨some d,.binOp .shr t x y yt,ty,pos,af,g⟩::rest) n σ w:=by
 refine WL.run i hd (fun j b=>?_) h;have:=Es P w a s f t;simp[execOp,b.ev e,b.ev c,nL (op:=.shr) rfl,this]
end
abbrev cN:=Int×Int×Int
def Gd(kind n:Int)(ins:List Int)(o:Nat):List cN:=
 if kind=4∨kind=2∨kind=3 then ins.map fun f=>(n,f,(2:Int) ^ o -1)
 else if kind=5 then ins.flatMap fun f=>(List.range o).map fun k:Nat=>(n,f,(2:Int) ^ k)
 else if kind=6 then [(n,-1,(2:Int) ^ o -1)]
 else if kind=7 then(List.range (2 ^ o -1)).map fun k:Nat=>(n,-1,(k:Int)+1)
 else []
def w_(p:cL)(n:Nat):Int:=(p.1.getD n (⟨#[]⟩,0)).2
def Gl(p:cL)(n:Nat):List cN:=Gd (w_ p n) (n:Int) (vP p.2 (n:Int)) (Bd p.2 (n:Int)).length
def Gm(p:cL)(k:Nat):List cN:=(List.range k).flatMap (Gl p)
abbrev Gi(p:cL):List cN:=Gm p p.1.length
noncomputable def F_(p:cL):List cN×Int:=if jT p≠0 then([],jT p)else if(Gi p).length>60 then([],2)else(Gi p,0)
theorem Gp{p:cL}{k:Nat}:Gm p (k+1)=Gm p k++Gl p k:=by
 unfold Gm;rw[Mb,KN];simp
theorem Cg(o:Nat):(1:Int)≤2 ^ o:=by
 have:=M0 (n:=o)
 exact_mod_cast this
theorem Ce{o m:Nat}(h:o≤m):(2:Int) ^ o≤2 ^ m:=by
 have:=M4 (n:=2) OS h
 exact_mod_cast this
theorem Cf{o m:Nat}(h:o<m):(2:Int) ^ o<2 ^ m:=by
 have:=M5 (a:=2) OS h
 exact_mod_cast this
section
variable {kind n:Int}{ins:List Int}{o:Nat}
theorem Gg:∀s∈Gd kind n ins o,s.1=n:=by
 intro s a
 unfold Gd at a
 split at a
 ·obtain⟨f,_,rfl⟩:=LU.1 a;rfl
 split at a
 ·obtain⟨f,_,a⟩:=LS.1 a
  obtain⟨k,_,rfl⟩:=LU.1 a;rfl
 split at a
 ·rw[L0]at a;subst a;rfl
 split at a
 ·obtain⟨k,_,rfl⟩:=LU.1 a;rfl
 ·cases a
theorem Ge:∀s∈Gd kind n ins o,s.2.1= -1∨s.2.1∈ins:=by
 intro s a
 unfold Gd at a
 split at a
 ·obtain⟨f,h,rfl⟩:=LU.1 a;exact .inr h
 split at a
 ·obtain⟨f,h,a⟩:=LS.1 a
  obtain⟨k,_,rfl⟩:=LU.1 a;exact .inr h
 split at a
 ·rw[L0]at a;subst a;exact .inl rfl
 split at a
 ·obtain⟨k,_,rfl⟩:=LU.1 a;exact .inl rfl
 ·cases a
theorem Gh:∀s∈Gd kind n ins o,0≤s.2.2∧s.2.2<2 ^ o:=by
 intro s a
 have c:=Cg o;unfold Gd at a
 split at a
 ·obtain⟨f,h,rfl⟩:=LU.1 a;dsimp only;omega
 split at a
 ·obtain⟨f,h,a⟩:=LS.1 a
  obtain⟨k,b,rfl⟩:=LU.1 a;have:=Cf (LZ.1 b);have:=Cg k;dsimp only;omega
 split at a
 ·rw[L0]at a;subst a;dsimp only;omega
 split at a
 ·obtain⟨k,b,rfl⟩:=LU.1 a
  have b:=LZ.1 b;have:((2 ^ o:Nat):Int)=(2:Int) ^ o:=by push_cast;rfl
  dsimp only;omega
 ·cases a
theorem Gf(h:ins.length≤30)(d:o≤30)(e:kind=7→o≤4):(Gd kind n ins o).length≤900:=by
 unfold Gd;split
 ·rw[Lq];omega
 split
 ·rw[List.length_flatMap]
  have:∀l:List Int,(l.map fun f:Int=>((List.range o).map fun k:Nat=>((n,f,(2:Int) ^ k):cN)).length).sum=l.length*o:=fun l=>by
   induction l with
   |nil=>simp
   |cons a l c=>rw[LE,Mi,c,Lq,Lt,Ll,Mv];omega
  rw[this];exact MV h d
 split
 ·simp
 split
 ·rename_i b
  have:=e b;rw[Lq,Lt];have:2 ^ o≤2 ^ 4:=M4 OS this;omega
 ·simp
end
theorem vQ{fl:List cI}{n:Int}:(vP fl n).Nodup:=by
 unfold vP vR;rw[List.Nodup,L_];exact(L5.filter _).imp fun a e=>a OS
theorem AM{p:cL}(h:OkPr p){n:Nat}(hn:n<p.1.length)(a:w_ p n=7):(Bd p.2 (n:Int)).length≤4:=by
 have:=h.count n hn;unfold w_ at a
 rw[a]at this
 unfold ly at this
 simp at this
 omega
theorem Gn{p:cL}(h:OkPr p):∀k,k≤p.1.length→(Gm p k).length≤900*k
 |0,_=>by simp[Gm]
 |k+1,c=>by
  have b:=Gn h k OS;rw[Gp,Lk];have h1:(vP p.2 (k:Int)).length≤p.2.length:=vS;have h2:(Bd p.2 (k:Int)).length≤p.2.length:=Bg;have:=h.f;have:=Gf (kind:=w_ p k) (n:=(k:Int)) (ins:=vP p.2 (k:Int)) (o:=(Bd p.2 (k:Int)).length) OS OS (fun a=>AM h OS a);unfold Gl;omega
theorem stepsP_mem{p:cL}{k:Nat}{s:cN}:s∈Gm p k↔∃n,n<k∧s∈Gl p n:=by
 unfold Gm;rw[LS];exact exists_congr fun n=>by rw[LZ]
def ie(p:cL):List Int:=p.2.map fun f=>if w_ p f.1.toNat=1 then 1 else 0
def Hc(n:Int):Bool:=decide (n<0)||decide (n>9)
noncomputable def jO(p:cL)(m:List Int):Int:=if(F_ p).2≠0 then(F_ p).2 else if m.length≠p.2.length∨m.any Hc=true then 1 else 0
def kX(fl:List cI)(n:Int)(s:List Bool×List Int)(i:Nat):List Bool×List Int:=
 if(fl.getD i (0,0)).2=n∧s.1.getD i false=false then(s.1.set i true,s.2++[(i:Int)])else s
def kR(fl:List cI)(but:Int):Nat→List Bool→List Int→List Bool
 |0,out,_=>out
 |_+1,out,[]=>out
 |f+1,out,x::r=>
  if(fl.getD x.toNat (0,0)).1=but then kR fl but f out r
  else kR fl but f ((List.range fl.length).foldl (kX fl (fl.getD x.toNat (0,0)).1) (out,r)).1 ((List.range fl.length).foldl (kX fl (fl.getD x.toNat (0,0)).1) (out,r)).2
def kV(fl:List cI)(flow:Nat)(but:Int):List Bool:=kR fl but fl.length ((List.replicate fl.length false).set flow true) [(flow:Int)]
def oQ(l:List Bool):Nat:=l.countP fun b=>!b
theorem oT{l:List Bool}{k:Nat}(a:k<l.length)(h:l.getD k false=false):oQ (l.set k true)+1=oQ l:=by
 unfold oQ;rw[KR,KX a]at h
 have h:l[k]=false:=h;rw[Ku a,h];have:0<l.countP fun b=>!b:=Ks.2 ⟨l[k],Lb a,by simp[h]⟩
 simp;omega
theorem oS{n:Nat}:oQ (List.replicate n false)=n:=by simp[oQ,Kt]
theorem oR{l:List Bool}:oQ l≤l.length:=Kr
structure ComeI(fl:List cI)(out:List Bool)(todo:List Int):Prop where
 len:out.length=fl.length
 ok:∀x∈todo,0≤x∧x<fl.length
theorem kY{fl:List cI}{n:Int}{out:List Bool}{a:List Int}{i:Nat}(hi:i<fl.length)(h:ComeI fl out a):
  ComeI fl (kX fl n (out,a) i).1 (kX fl n (out,a) i).2∧(kX fl n (out,a) i).2.length+oQ (kX fl n (out,a) i).1=a.length+oQ out:=by
 unfold kX;split
 ·rename_i c
  have:=oT (l:=out) (k:=i) (by rw[h.len];exact hi) c.2;refine⟨⟨by simpa using h.len,fun x b=>?_⟩,by simp only[Lk,Ll,Lr];omega⟩;rcases LK.1 b with b|b
  ·exact h.ok x b
  ·rw[L0]at b;omega
 ·exact⟨h,rfl⟩
theorem kU{fl:List cI}{but:Int}{f:Nat}{out:List Bool}:kR fl but f out []=out:=by cases f<;>rfl
theorem kT{fl:List cI}{but:Int}:∀(f:Nat) (out:List Bool) (b:List Int),out.length=fl.length→(kR fl but f out b).length=fl.length
 |0,out,_,h=>h
 |_+1,out,[],h=>h
 |f+1,out,x::r,h=>by
  unfold kR;split
  ·exact kT f _ _ h
  ·refine kT f _ _ ?_
   have:∀(l:List Nat) (s:List Bool×List Int),s.1.length=fl.length→(l.foldl (kX fl (fl.getD x.toNat (0,0)).1) s).1.length=fl.length:=by
    intro l
    induction l with
    |nil=>intro s h;exact h
    |cons a l c=>
     intro s h
     refine c _ ?_;unfold kX;split
     ·simpa using h
     ·exact h
   exact this _ _ h
theorem kW{fl:List cI}{flow:Nat}{but:Int}:(kV fl flow but).length=fl.length:=kT _ _ _ OW
def gY(p:cL)(m:List Int)(node f:Int):Bool:=(List.range p.2.length).any fun i=>(kV p.2 f.toNat node).getD i false&&decide (m.getD i 0>0)&&decide ((p.2.getD i (0,0)).2≠node)
def wi(p:cL)(m:List Int)(node:Int):Bool:=
 if(vP p.2 node).any (fun f=>!decide (m.getD f.toNat 0>0)&&gY p m node f)=true then false else(vP p.2 node).any fun f=>decide (m.getD f.toNat 0>0)
def nB(p:cL)(m:List Int)(s:cN):Bool:=
 if 0≤s.2.1 then decide (m.getD s.2.1.toNat 0>0)else if w_ p s.1.toNat=7 then wi p m s.1 else !(vP p.2 s.1).any fun f=>m.getD f.toNat 0==0
def jd(p:cL)(m:List Int)(k:Nat):List Int:=((List.range k).filter fun i=>nB p m ((Gi p).getD i (0,0,0))).map fun i:Nat=>(i:Int)
abbrev jc(p:cL)(m:List Int):List Int:=jd p m (Gi p).length
theorem je{p:cL}{m:List Int}{k:Nat}:jd p m (k+1)=jd p m k++(if nB p m ((Gi p).getD k (0,0,0))=true then [(k:Int)]else []):=by
 unfold jd;rw[Mb,KG,LC]
 congr 1
 by_cases h:nB p m ((Gi p).getD k (0,0,0))=true
 ·rw[Ov h,KJ (p:=fun i=>nB p m ((Gi p).getD i (0,0,0))) h];rfl
 ·rw[Ou h,KI (p:=fun i=>nB p m ((Gi p).getD i (0,0,0))) h];rfl
def G1(m:List Int)(s:cN)(f:Int):Int:=if s.2.1=f∨s.2.1<0∧m.getD f.toNat 0>0 then m.getD f.toNat 0 -1 else m.getD f.toNat 0
def GS(s:cN):List Int→List Int→List Int
 |m,[]=>m
 |m,f::r=>GS s (m.set f.toNat (G1 m s f)) r
def iw(n:Int)(k:Nat):Int:=(n / 2 ^ k) % 2
def Cv(n:Int):Nat→List Int→List Int→Option (List Int)
 |_,m,[]=>some m
 |k,m,f::r=>if iw n k=1 then(if m.getD f.toNat 0+1>9 then none else Cv n (k+1) (m.set f.toNat (m.getD f.toNat 0+1)) r)else Cv n (k+1) m r
def pE(p:cL)(m:List Int)(s:cN):Option (List Int):=
 if w_ p s.1.toNat=3 then some (m.map fun _=>0)else Cv s.2.2 0 (GS s m (vP p.2 s.1)) (Bd p.2 s.1)
noncomputable def pB(p:cL)(m:List Int)(k:Int):List Int×Int:=
 if jO p m≠0 then([],jO p m)else if k<0∨k≥(Gi p).length then([],1)
 else if nB p m ((Gi p).getD k.toNat (0,0,0))=false then([],9)
 else((pE p m ((Gi p).getD k.toNat (0,0,0))).getD [],if(pE p m ((Gi p).getD k.toNat (0,0,0))).isSome then 0 else 7)
noncomputable def i6(p:cL)(m:List Int):List Int:=if jO p m=0 then jc p m else []
theorem vK(w0:World){ao:Option Addr}{cap:Nat}{xs:List (ByteArray×Int)}{fv:Value}(p:(ByteArray×Int)→Bool)(f:Sl w0 (c9 w0) ao cap xs)
  (hf:∀w,Ext w0 w→∀i (h:i<xs.length) u,Rd w (c9 w0) u xs[i]→FnV Tryz.prog fv [u] w fun v w'=>v=.bool (p xs[i])∧Ext w w'):
  Rt Tryz.prog 215 [.slice ao xs.length cap,fv].toArray w0 fun v w'=>v=Pj (idxOf p xs)∧Ext w0 w':=by
 have m:=f.len63;refine dH Tryz.func215 Tryz.ntmps215 rfl rfl ?_;refine Qp ?_;refine CW.loop (S:=Nat) (fun k=>[(0,.slice ao xs.length cap),(1,fv),(7,Pj xs.length),(8,Pj k)])
  (fun k w=>k≤xs.length∧Ext w0 w∧∀j (h:j<xs.length),j<k→p xs[j]=false) (fun k=>xs.length -k) 0 OR ⟨by omega,Ext.refl _,by omega⟩ ?_
 rintro k w ⟨n,b,hn⟩
 refine Qw ?_;apply CW.cond rfl<;>intro h
 ·simp at h
  refine PA ?_;refine eE rfl rfl rfl rfl rfl (f.at b) h O3 (fun u q g=>?_);refine d8 rfl rfl rfl rfl (hf w b k h u g) ?_;rintro v w' ⟨rfl,a⟩
  refine QB ?_;refine CW.cond rfl (fun d=>?_) (fun d=>?_)
  ·refine Pl ?_
   refine be rfl rfl ⟨?_,b.trans a⟩;rw[vm h hn d]
  ·refine Pq ?_
   refine EX.back (k+1) OR ⟨h,b.trans a,?_⟩ OS;intro j c l
   by_cases e:j=k
   ·subst e;exact d
   ·exact hn j c OS
 ·simp at h
  refine PG ?_;refine be rfl rfl ⟨?_,b⟩;rw[vt (fun j c=>hn j c OS)]
theorem k9(w0:World){ao:Option Addr}{cap:Nat}{xs:List (ByteArray×Int)}{fv:Value}(p:(ByteArray×Int)→Bool)(a:Sl w0 (c9 w0) ao cap xs)
  (hf:∀w,Ext w0 w→∀i (h:i<xs.length) u,Rd w (c9 w0) u xs[i]→FnV Tryz.prog fv [u] w fun v w'=>v=.bool (p xs[i])∧Ext w w'):
  Rt Tryz.prog 182 [.slice ao xs.length cap,fv].toArray w0 fun v w'=>v=.bool (xs.any p)∧Ext w0 w':=by
 refine dH Tryz.func182 Tryz.ntmps182 rfl rfl ?_;refine Qw ?_;refine WL.call rfl rfl rfl (vK w0 p a hf) ?_;rintro v w' ⟨rfl,b⟩
 refine Pr ?_;refine be rfl rfl ⟨?_,b⟩;rw[←vk]
class IsStr(P:Program)(t:TypeId):Prop where
 ok:P.underlying t=some .string
instance uX:IsStr Tryz.prog 9:=⟨N0⟩
section
variable {P:Program}{Q:Exit→Act→World→Prop}{n:Nat}{σ:Sg}{w:World}{L rest:List Oper}{d:Nat}{op:Op}{ty:TypeId}{pos:String}{af:Array Edge}{g:Option (Nat×Bool)}{t:TypeId}{x ix:Operand}
theorem eS{s:ByteArray}(e:gd L σ ⟨some d,.call ⟨.builtin .len,#[x],#[t]⟩,ty,pos,af,g⟩=some true)(hd:Nat.ble (d+1) n=true)
  (b:ev σ x=some (.string s)) [c:IsStr P t] (h:WL P L Q rest n ((d,Pj (s.size:Int))::σ) w):WL P L Q (⟨some d,.call ⟨.builtin .len,#[x],#[t]⟩,ty,pos,af,g⟩::rest) n σ w:=by
 refine WL.run e hd (fun a f=>?_) h;simp[execOp,resolve,invoke,builtin,f.ev b,Builtin.len_,OI c.ok,goInt]
theorem d7{s:ByteArray}{i:Nat}{kd:IntKind}(j:gd L σ ⟨some d,.index t x ix,ty,pos,af,g⟩=some true)(hd:Nat.ble (d+1) n=true)
  (c:ev σ x=some (.string s)) (hi:ev σ ix=some (.int kd (i:Int))) [f:IsStr P t] (h1:i<s.size) (h:WL P L Q rest n ((d,.int .u8 ((s[i]).toNat:Int))::σ) w):WL P L Q (⟨some d,.index t x ix,ty,pos,af,g⟩::rest) n σ w:=by
 refine WL.run j hd (fun a b=>?_) h;have e:s[i]?=some s[i]:=by simp[h1]
 simp[execOp,b.ev c,b.ev hi,Instr.index,asIntOf,OI f.ok,e]
end
abbrev Ck(so:Option Addr)(sc:Nat)(fo:Option Addr)(fc:Nat)(n m:Nat):Value:=.agg [.slice so n sc,.slice fo m fc].toArray
theorem Rd.proc{w:World}{F:Nat→Prop}{v:Value}{x:cL}(h:Rd w F v x):∃so sc fo fc,v=Ck so sc fo fc x.1.length x.2.length∧Sl w F so sc x.1∧Sl w F fo fc x.2:=by
 obtain⟨c1,c2,rfl,h1,h2⟩:=h.pr;obtain⟨so,sc,rfl,k1⟩:=C6 h1;obtain⟨lo,a,rfl,k2⟩:=C6 h2;exact⟨so,sc,lo,a,rfl,k1,k2⟩
theorem Rd.flow{w:World}{F:Nat→Prop}{v:Value}{x:cI}(h:Rd w F v x):v=.agg [Pj x.1,Pj x.2].toArray:=by
 obtain⟨c1,c2,rfl,h1,h2⟩:=h.pr;rw[C0 h1,C0 h2];rfl
theorem Rd.node{w:World}{F:Nat→Prop}{v:Value}{x:cJ}(h:Rd w F v x):v=.agg [.string x.1,Pj x.2].toArray:=by
 obtain⟨c1,c2,rfl,h1,h2⟩:=h.pr;rw[C0 h2,h1.1];rfl
theorem qQ{l:List cI}{j:Nat}(h:j<l.length):l.getD j (0,0)=l[j]:=by rw[KR,KX h];rfl
theorem qU{l:List cJ}{j:Nat}(h:j<l.length):l.getD j (⟨#[]⟩,0)=l[j]:=by rw[KR,KX h];rfl
theorem FH(s:ByteArray):s.data.toList.length=s.size:=by simp
theorem cZ(w0:World)(s:ByteArray):Rt Tryz.prog 30 [.string s].toArray w0 fun v w'=>v=.bool (y_ s)∧Ext w0 w':=by
 refine dG Tryz.func30 Tryz.ntmps30 rfl rfl ?_;unfold y_ za;refine Qw ?_;by_cases h1:(s.data.toList==[])=true
 ·rw[show(s.data.toList==(ByteArray.mk #[]).data.toList)=true from h1]
  refine Qr ?_;refine be rfl rfl ⟨?_,Ext.refl _⟩;rfl
 have h1:(s.data.toList==[])=false:=by simpa using h1
 rw[show(s.data.toList==(ByteArray.mk #[]).data.toList)=false from h1]
 try rw[h1]
 refine QO ?_;refine eS rfl rfl rfl ?_;rw[←FH];refine QO ?_;by_cases h2:decide ((s.data.toList.length:Int)>8)=true
 ·rw[h2]
  refine Qr ?_;exact be rfl rfl ⟨rfl,Ext.refl _⟩
 have h2:decide ((s.data.toList.length:Int)>8)=false:=by simpa using h2
 rw[h2];refine QO ?_;by_cases h3:(s.data.toList==[116,114,117,101])=true
 ·rw[show(s.data.toList==(ByteArray.mk #[116,114,117,101]).data.toList)=true from h3]
  try rw[h3]
  refine Qr ?_;exact be rfl rfl ⟨rfl,Ext.refl _⟩
 have h3:(s.data.toList==[116,114,117,101])=false:=by simpa using h3
 rw[show(s.data.toList==(ByteArray.mk #[116,114,117,101]).data.toList)=false from h3]
 try rw[h3]
 refine QO ?_;by_cases h4:(s.data.toList==[102,97,108,115,101])=true
 ·rw[show(s.data.toList==(ByteArray.mk #[102,97,108,115,101]).data.toList)=true from h4]
  try rw[h4]
  refine Qr ?_;exact be rfl rfl ⟨rfl,Ext.refl _⟩
 have h4:(s.data.toList==[102,97,108,115,101])=false:=by simpa using h4
 rw[show(s.data.toList==(ByteArray.mk #[102,97,108,115,101]).data.toList)=false from h4]
 try rw[h4]
 refine Pv ?_;by_cases g:(s.data.toList==[115,105,108,101,110,116])=true
 ·rw[show(s.data.toList==(ByteArray.mk #[115,105,108,101,110,116]).data.toList)=true from g]
  try rw[g]
  refine Qr ?_;exact be rfl rfl ⟨rfl,Ext.refl _⟩
 have g:(s.data.toList==[115,105,108,101,110,116])=false:=by simpa using g
 rw[show(s.data.toList==(ByteArray.mk #[115,105,108,101,110,116]).data.toList)=false from g]
 try rw[g]
 simp only[JU,J0];have o:s.size≤8:=by have:=FH s;simp at h2;omega
 refine PT ?_;refine eS rfl rfl rfl ?_;refine PS ?_;refine CW.loop (S:=Nat) (fun i=>[(0,.string s),(24,Pj s.size),(25,Pj i)])
  (fun i w=>i≤s.size∧w=w0∧∀j (h:j<s.size),j<i→yd s[j]=true) (fun i=>s.size -i) 0 OR ⟨by omega,rfl,by omega⟩ ?_
 rintro i w ⟨hi,rfl,hn⟩
 have c:∀j (h:j<s.size),s.data.toList[j]'(by rw[FH];exact h)=s[j]:=fun j h=>by simp;rfl
 refine Qw ?_;apply CW.cond rfl<;>intro h
 ·have a:i<s.size:=by simp at h;omega
  have d:yd s[i]=false→s.data.toList.all yd=false:=fun n=>by
   rw[List.all_eq_false];exact⟨_,Lb (by rw[FH];exact a),by rw[c i a,n];simp⟩
  refine PA ?_;refine d7 rfl rfl rfl rfl a ?_;refine QO ?_;by_cases b:decide (((s[i].toNat:Nat):Int)<97)=true
  ·rw[b]
   refine Pu ?_;refine be rfl rfl ⟨?_,Ext.refl _⟩;rw[d (by unfold yd;rw[b];rfl)]
  have b:decide (((s[i].toNat:Nat):Int)<97)=false:=by simpa using b
  rw[b];refine QO ?_;refine d7 rfl rfl rfl rfl a ?_;refine Pv ?_;apply CW.cond rfl<;>intro k
  ·refine Pl ?_
   refine be rfl rfl ⟨?_,Ext.refl _⟩;rw[d (by unfold yd;rw[b,k];rfl)]
  ·refine Pq ?_
   refine EX.back (i+1) OR ⟨a,rfl,fun j f m=>?_⟩ OS;by_cases e:j=i
   ·subst e;unfold yd;rw[b,k];rfl
   ·exact hn j f OS
 ·have a:i=s.size:=by simp at h;omega
  subst a;refine PG ?_;refine be rfl rfl ⟨?_,Ext.refl _⟩;rw[Kf.2];intro x l
  obtain⟨j,f,rfl⟩:=LT.1 l;rw[FH]at f
  rw[c j f];exact hn j f f
theorem lz(w0:World)(k:Int)(i o:Nat):Rt Tryz.prog 128 [Pj k,Pj (i:Int),Pj (o:Int)].toArray w0 fun v w'=>v=.bool (ly k i o)∧w0=w':=by
 refine dI Tryz.func128 Tryz.ntmps128 rfl rfl ?_;have d:∀(a:Nat) (b:Nat),(((a:Int))==(b:Int))=decide (a=b):=fun a b=>by rw[JO];simp;omega
 have c:∀(a:Nat),decide ((a:Int)>0)=decide (0<a):=fun a=>by rw[JO];simp
 unfold ly;refine Qu ?_;by_cases h1:k=1
 ·subst h1
  refine Ql ?_;by_cases hi:i=0
  ·subst hi
   refine P4 ?_;refine be rfl rfl ⟨?_,rfl⟩;rw[show((o:Int)==1)=decide (o=1) from d o 1];simp
  ·have:((i:Int)==0)=false:=by simpa using hi
   rw[this];refine PH ?_;refine be rfl rfl ⟨?_,rfl⟩;simp[hi]
 have b1:(k==1)=false:=by simpa using h1
 rw[Ou h1,b1];refine PT ?_;by_cases h2:k=2
 ·subst h2
  refine Ql ?_;by_cases hi:0<i
  ·rw[c i,Ol hi]
   refine P4 ?_;refine be rfl rfl ⟨?_,rfl⟩;rw[show((o:Int)==0)=decide (o=0) from d o 0];simp
  ·rw[c i,Oj hi]
   refine PH ?_;refine be rfl rfl ⟨?_,rfl⟩;simp
 have b2:(k==2)=false:=by simpa using h2
 rw[b2];refine PW ?_;by_cases h3:k=3
 ·subst h3
  refine Ql ?_;by_cases hi:0<i
  ·rw[c i,Ol hi]
   refine P4 ?_;refine be rfl rfl ⟨?_,rfl⟩;rw[show((o:Int)==0)=decide (o=0) from d o 0];simp
  ·rw[c i,Oj hi]
   refine PH ?_;refine be rfl rfl ⟨?_,rfl⟩;simp
 have p:(k==3)=false:=by simpa using h3
 rw[Ou OS,p];refine PT ?_;by_cases h4:k=4
 ·subst h4
  refine Ql ?_;by_cases hi:0<i
  ·rw[c i,Ol hi]
   refine P4 ?_;refine be rfl rfl ⟨?_,rfl⟩;rw[show((o:Int)==1)=decide (o=1) from d o 1];simp
  ·rw[c i,Oj hi]
   refine PH ?_;refine be rfl rfl ⟨?_,rfl⟩;simp
 have n:(k==4)=false:=by simpa using h4
 rw[Ou h4,n];refine PT ?_;by_cases e:k=7
 ·subst e
  refine Ql ?_;apply CW.cond rfl<;>intro f
  ·refine Pl ?_
   refine be rfl rfl ⟨?_,rfl⟩;simp at f
   simp;omega
  simp at f
  refine Qg ?_;by_cases hi:0<i
  ·rw[c i,Ol hi]
   refine P4 ?_;refine be rfl rfl ⟨?_,rfl⟩;rw[c o];simp;omega
  ·rw[c i,Oj hi]
   refine PH ?_;refine be rfl rfl ⟨?_,rfl⟩;simp
 have j:(k==7)=false:=by simpa using e
 rw[Ou e,j];refine PT ?_;by_cases h:k=5
 ·subst h
  refine Ql ?_;by_cases hi:0<i
  ·rw[c i,Ol hi]
   refine P4 ?_;refine be rfl rfl ⟨?_,rfl⟩;rw[c o];simp
  ·rw[c i,Oj hi]
   refine PH ?_;refine be rfl rfl ⟨?_,rfl⟩;simp
 have m:(k==5)=false:=by simpa using h
 rw[m];refine PW ?_;by_cases g:k=6
 ·subst g
  refine Ql ?_;by_cases hi:0<i
  ·rw[c i,Ol hi]
   refine P4 ?_;refine be rfl rfl ⟨?_,rfl⟩;rw[c o];simp
  ·rw[c i,Oj hi]
   refine PH ?_;refine be rfl rfl ⟨?_,rfl⟩;simp
 have l:(k==6)=false:=by simpa using g
 rw[Ou OS,l];refine QC ?_;exact be rfl rfl ⟨rfl,rfl⟩
theorem vU(w0:World){so fo:Option Addr}{sc fc k:Nat}{fl:List cI}(hf:Sl w0 (c9 w0) fo fc fl)(n:Int)(I:fl.length≤1000):
  Rt Tryz.prog 129 [Ck so sc fo fc k fl.length,Pj n].toArray w0 fun v w'=>Own w' w0.heap.size 3 c7 v (vP fl n)∧Ext w0 w':=by
 refine dH Tryz.func129 Tryz.ntmps129 rfl rfl ?_;refine Pm ?_;refine dZ rfl rfl rfl fun g D t=>?_
 refine QH ?_;refine CW.loop (S:=Nat×Value) (fun s=>[(1,Pj n),(2,Pk w0.heap.size),(5,s.2),(9,.slice fo fl.length fc),(10,Pj fl.length),(11,Pj s.1)])
  (fun s w=>s.1≤fl.length∧Own w g.heap.size 3 c7 s.2 (vR fl n s.1)∧Ext g w) (fun s=>fl.length -s.1) (0,.slice none 0 0) OR ⟨Nc _,Own.nil,Ext.refl _⟩ ?_
 rintro⟨i,ov⟩ z ⟨hi,d,r⟩
 dsimp only at hi d⊢
 have m:=t.trans r;have C:=vS (fl:=fl) (n:=n) (k:=i);have a:=vT (fl:=fl) (n:=n) (k:=i);refine Qw ?_;apply CW.cond rfl<;>intro h
 ·have c:i<fl.length:=by simp at h;omega
  rw[qQ c]at a
  refine Qv ?_;refine eE rfl rfl rfl rfl rfl (hf.at m) c O3 (fun u q B=>?_);obtain rfl:=B.flow;skip;refine WL.alloc rfl rfl (fun H f o=>?_);refine QO ?_;refine WL.st rfl rfl rfl f rfl rfl Pd (fun y f l=>?_);have e:Ext z y:=o.grown l o.size O5;have d:=d.extN e;have e:=r.trans e;refine QE ?_;apply CW.cond rfl<;>intro h2
  ·rw[Ov h2]at a
   refine PC ?_;refine dY (F:=c7) (yv:=(i:Int)) rfl rfl O3 rfl rfl O3 d Pe e.size O6 OU OY OS (fun A x p ho5 j hnb=>?_);rw[←a]at ho5
   have G:Ext g x:=e.grown j e.size (fun b E=>(d.lt b E).1);refine PI ?_;exact EX.back (i+1,A) OR ⟨c,ho5,G⟩ OX
  ·rw[Ou (by rw[h2];simp),Kk]at a
   refine Pq ?_;exact EX.back (i+1,ov) OR ⟨c,by dsimp only;rw[a];exact d,e⟩ OX
 ·obtain rfl:i=fl.length:=by simp at h;omega
  refine PG ?_;exact be rfl rfl ⟨d.low t.size,m⟩
theorem Bi(w0:World){so fo:Option Addr}{sc fc k:Nat}{fl:List cI}(hf:Sl w0 (c9 w0) fo fc fl)(n:Int)(I:fl.length≤1000):
  Rt Tryz.prog 130 [Ck so sc fo fc k fl.length,Pj n].toArray w0 fun v w'=>Own w' w0.heap.size 3 c7 v (Bd fl n)∧Ext w0 w':=by
 refine dH Tryz.func130 Tryz.ntmps130 rfl rfl ?_;refine Pm ?_;refine dZ rfl rfl rfl fun g D t=>?_
 refine QH ?_;refine CW.loop (S:=Nat×Value) (fun s=>[(1,Pj n),(2,Pk w0.heap.size),(5,s.2),(9,.slice fo fl.length fc),(10,Pj fl.length),(11,Pj s.1)])
  (fun s w=>s.1≤fl.length∧Own w g.heap.size 3 c7 s.2 (Bf fl n s.1)∧Ext g w) (fun s=>fl.length -s.1) (0,.slice none 0 0) OR ⟨Nc _,Own.nil,Ext.refl _⟩ ?_
 rintro⟨i,ov⟩ z ⟨hi,d,r⟩
 dsimp only at hi d⊢
 have m:=t.trans r;have C:=Bg (fl:=fl) (n:=n) (k:=i);have a:=Bh (fl:=fl) (n:=n) (k:=i);refine Qw ?_;apply CW.cond rfl<;>intro h
 ·have c:i<fl.length:=by simp at h;omega
  rw[qQ c]at a
  refine Qv ?_;refine eE rfl rfl rfl rfl rfl (hf.at m) c O3 (fun u q B=>?_);obtain rfl:=B.flow;skip;refine WL.alloc rfl rfl (fun H f o=>?_);refine QO ?_;refine WL.st rfl rfl rfl f rfl rfl Pd (fun y f l=>?_);have e:Ext z y:=o.grown l o.size O5;have d:=d.extN e;have e:=r.trans e;refine QE ?_;apply CW.cond rfl<;>intro h2
  ·rw[Ov h2]at a
   refine PC ?_;refine dY (F:=c7) (yv:=(i:Int)) rfl rfl O3 rfl rfl O3 d Pe e.size O6 OU OY OS (fun A x p ho5 j hnb=>?_);rw[←a]at ho5
   have G:Ext g x:=e.grown j e.size (fun b E=>(d.lt b E).1);refine PI ?_;exact EX.back (i+1,A) OR ⟨c,ho5,G⟩ OX
  ·rw[Ou (by rw[h2];simp),Kk]at a
   refine Pq ?_;exact EX.back (i+1,ov) OR ⟨c,by dsimp only;rw[a];exact d,e⟩ OX
 ·obtain rfl:i=fl.length:=by simp at h;omega
  refine PG ?_;exact be rfl rfl ⟨d.low t.size,m⟩
end Go.Proofs.YtodmkmobdmcfbaaGreat
