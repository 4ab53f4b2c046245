import Derived.Test.YtodmkmobdmcfbaaGreatPtJudgeProves12
set_option linter.unusedVariables false
set_option linter.unusedSimpArgs false
set_option linter.defProp false
namespace Go.Proofs.YtodmkmobdmcfbaaGreat
open Go.RowKit
mutual
theorem jA:∀(t:Ltl) (d c:Int),(jt t d c).1=0→ShT wS t∧(jt t d c).2=c+t.nodes
 |.mk k n kids,d,c,h=>by
  simp only[jt]at h⊢
  split at h
  ·cases h
  split at h
  ·cases h
  split at h
  ·cases h
  rename_i h1 h2 h3;rw[Ou h1,Ou h2,Ou h3];have⟨g1,g2⟩:=jx kids (d+1) (c+1) h;simp only[Oz]at h3
  refine⟨.mk k n kids OS OS OS g1,?_⟩;rw[g2];simp only[Ltl.nodes];omega
theorem jx:∀(l:List Ltl) (d c:Int),(ju l d c).1=0→(∀x∈l,ShT wS x)∧(ju l d c).2=c+Ltl.nodesL l
 |[],d,c,h=>⟨fun x a=>by(cases a),by simp[ju,Ltl.nodesL]⟩
 |y::r,d,c,h=>by
  simp only[ju]at h⊢
  split at h
  ·rename_i h1;exact absurd h h1
  rename_i h1;rw[Ou h1];have⟨g1,g2⟩:=jA y d c (by simpa using h1);have⟨g3,g4⟩:=jx r d _ h;refine⟨fun x a=>?_,?_⟩
  ·rcases LN.1 a with rfl|a
   ·exact g1
   ·exact g3 x a
  ·rw[g4,g2];simp only[Ltl.nodesL];omega
end
theorem txtC_bin{nm:Int→ar}{n:Int}{x y:Ltl}:
  HY nm (.mk 5 n [x,y])=wP (hZ 5 0 x.k) (HY nm x)++[32,38,32]++wP (hZ 5 1 y.k) (HY nm y)∧HY nm (.mk 6 n [x,y])=wP (hZ 6 0 x.k) (HY nm x)++[32,47,32]++wP (hZ 6 1 y.k) (HY nm y)∧
  HY nm (.mk 10 n [x,y])=[69,32,91]++HY nm x++[32,85,32]++HY nm y++[93]∧HY nm (.mk 14 n [x,y])=[65,32,91]++HY nm x++[32,85,32]++HY nm y++[93]:=by
 refine⟨?_,?_,?_,?_⟩<;>simp[HY,H1,wd]
theorem H0{nm:Int→ar}{k n:Int}{x:Ltl}(a:k=4∨k=7∨k=8∨k=9∨k=11∨k=12∨k=13):HY nm (.mk k n [x])=Fw k++wP (hZ k 0 x.k) (HY nm x):=by
 rcases a with rfl|rfl|rfl|rfl|rfl|rfl|rfl<;>simp[HY,H1,wd]
theorem gT{nm:Int→ar}{k n:Int}{x y:Ltl}(a:k≠3)(b:Bool):(b||gW nm (.mk k n [x,y]))=(b||gW nm x||gW nm y):=by
 have:(k==3)=false:=by simpa using a
 simp[gW,gX,this,Bool.or_assoc]
theorem gS{nm:Int→ar}{k n:Int}{x:Ltl}(a:k≠3)(b:Bool):(b||gW nm (.mk k n [x]))=(b||gW nm x):=by
 have:(k==3)=false:=by simpa using a
 simp[gW,gX,this]
instance uf:IsFd Tryz.prog 207 0 0:=IsFd.of OT
instance ug:IsFd Tryz.prog 207 1 1:=IsFd.of OT
instance uh:IsBd Tryz.prog 207 [(0,1),(1,1)]:=IsBd.of OT
instance ui:IsZC Tryz.prog 207 [.slice none 0 0,.bool false]:=IsZC.of (z:=.agg #[.slice none 0 0,.bool false]) OT rfl
instance uj:IsAr Tryz.prog 268 14 9:=⟨Tryz.underlying268⟩
abbrev zK:Value:=.string ⟨#[]⟩
instance uk:IsZC Tryz.prog 268 [zK,zK,zK,zK,zK,zK,zK,zK,zK,zK,zK,zK,zK,zK]:=IsZC.of (z:=.agg #[zK,zK,zK,zK,zK,zK,zK,zK,zK,zK,zK,zK,zK,zK]) OT rfl
theorem lD(w0:World){k:Int}(c:k=4∨k=7∨k=8∨k=9∨k=11∨k=12∨k=13):Rt Tryz.prog 191 [Pj k].toArray w0 fun v w'=>v=tV (Fw k)∧Ext w0 w':=by
 obtain⟨ki,rfl,b,a⟩:∃i:Nat,k=(i:Int)∧i<14∧Ag [zK,zK,zK,zK,tV [33],zK,zK,tV [69,88,32],tV [69,70,32],tV [69,71,32],zK,tV [65,88,32],tV [65,70,32],tV [65,71,32]] i=some (tV (Fw k)):=by
  rcases c with rfl|rfl|rfl|rfl|rfl|rfl|rfl
  ·exact⟨4,rfl,by decide,rfl⟩
  ·exact⟨7,rfl,by decide,rfl⟩
  ·exact⟨8,rfl,by decide,rfl⟩
  ·exact⟨9,rfl,by decide,rfl⟩
  ·exact⟨11,rfl,by decide,rfl⟩
  ·exact⟨12,rfl,by decide,rfl⟩
  ·exact⟨13,rfl,by decide,rfl⟩
 generalize Fw (ki:Int)=sg at*
 refine dG Tryz.func191 Tryz.ntmps191 rfl rfl ?_;refine Qw ?_;refine d6 (out:=[zK,zK,zK,zK,tV [33],zK,zK,tV [69,88,32],tV [69,70,32],tV [69,71,32],zK,tV [65,88,32],tV [65,70,32],tV [65,71,32]]) rfl rfl rfl rfl ?_;refine QO ?_;refine eL rfl rfl rfl rfl b a ?_;refine Pr ?_;exact be rfl rfl ⟨rfl,Ext.refl _⟩
theorem jh(w0:World)(k i x:Int):Rt Tryz.prog 218 [Pj k,Pj i,Pj x].toArray w0 fun v w'=>v=.bool (hZ k i x)∧w0=w':=by
 refine dI Tryz.func218 Tryz.ntmps218 rfl rfl ?_;unfold hZ;refine Qu ?_;apply CW.cond rfl<;>intro h
 ·have a:x=5:=by simpa using h
  rw[Ov a];clear h;refine PB ?_
  (refine eX rfl rfl (fun h=>?_) (fun h=>?_))
  ·refine PH ?_
   exact be rfl rfl ⟨by rw[h];rfl,rfl⟩
  ·rw[h]
   clear h;refine QO ?_
   (refine eX rfl rfl (fun h=>?_) (fun h=>?_))
   ·refine P4 ?_
    exact be rfl rfl ⟨by rw[h];rfl,rfl⟩
   ·refine PH ?_
    exact be rfl rfl ⟨by rw[h];rfl,rfl⟩
 have c:¬x=5:=by simpa using h
 rw[Ou c];refine Qw ?_;apply CW.cond rfl<;>intro h
 ·have h:x=6:=by simpa using h
  rw[Ov h];clear h;refine PB ?_
  (refine eX rfl rfl (fun h=>?_) (fun h=>?_))
  ·refine P4 ?_
   exact be rfl rfl ⟨by rw[h];rfl,rfl⟩
  ·refine PH ?_
   exact be rfl rfl ⟨by rw[h];rfl,rfl⟩
 have b:¬x=6:=by simpa using h
 rw[Ou b];refine Qd ?_;exact be rfl rfl ⟨rfl,rfl⟩
abbrev fH(w:World)(bw:Nat)(no:Option Addr)(len a:Nat)(b:Bool):Prop:=Blk w bw 207 [.slice no len a,.bool b]
def au(t:Ltl):Prop:=∀(w:World) (F:Nat→Prop) (bw:Nat) (ao:Option Addr) (cap:Nat) (no:Option Addr) (c:Nat) (a:List ByteArray) (b:Bool),Sl w F ao cap t.kids→Sl w F no c a→(∀k,F k→k<w.heap.size)→¬F bw→fH w bw no a.length c b→
 Rt Tryz.prog 136 [.pointer (some ⟨bw,0,none⟩),yj t.k t.n ao t.kids.length cap].toArray w fun v w'=>v=tV (HY (zF a) t)∧fH w' bw no a.length c (b||gW (zF a) t)∧w.grownBy w' (some bw)
theorem kr{t:Ltl}{i:Nat}(hi:i<t.kids.length)(N:au t.kids[i])(V:t.kids[i].nodes≤1000)(w:World)(F:Nat→Prop)(bw:Nat)(ao:Option Addr)(cap:Nat)(no:Option Addr)(m:Nat)(c:List ByteArray)(b:Bool)
  (z:Sl w F ao cap t.kids) (hn:Sl w F no m c) (hF:∀k,F k→k<w.heap.size) (hnb:¬F bw) (K:fH w bw no c.length m b):
  Rt Tryz.prog 190 [Pk bw,yj t.k t.n ao t.kids.length cap,Pj (i:Int)].toArray w fun v w'=>v=tV (wP (hZ t.k i t.kids[i].k) (HY (zF c) t.kids[i]))∧fH w' bw no c.length m (b||gW (zF c) t.kids[i])∧w.grownBy w' (some bw):=by
 have U:=z.len63;have R:=K.lt;have Q:=HZ (zG c) t.kids[i];obtain⟨kb,koff,rfl,g,X,D,A⟩:=z.el i hi;refine dI Tryz.func190 Tryz.ntmps190 rfl rfl ?_;refine Pm ?_;refine dZ rfl rfl rfl fun s G l=>?_
 have j:∀k,F k→k<s.heap.size:=fun k d=>MQ (hF k d) l.size
 have x:Sl s F _ cap t.kids:=z.mono (fun k d=>l.block k (hF k d)) fun _ h=>h
 have B:Sl s F no m c:=hn.mono (fun k d=>l.block k (hF k d)) fun _ h=>h
 refine QE ?_;refine eE rfl rfl rfl rfl rfl x hi O3 (fun u q P=>?_);obtain⟨ao',cap',rfl,O⟩:=P.ltl;skip;refine WL.call rfl rfl rfl (N s F bw ao' cap' no m c b O B j hnb (K.ext l)) ?_;rintro _ r ⟨rfl,H,f⟩
 have J:=G.kept f Pa;have o:∀k,F k→k<r.heap.size:=fun k d=>MQ (j k d) f.size
 have C:r.heap[kb]?=w.heap[kb]?:=(f.block kb (j kb g) (fun e=>by cases e;exact hnb g)).trans (l.block kb (hF kb g));have E:Cells r kb (koff+i*sz Ltl) [Pj t.kids[i].k]:=wR (Rep.mono A (fun k d=>(f.block k (j k d) (fun e=>by cases e;exact hnb d)).trans (l.block k (hF k d))) fun _ h=>h) (D.mono C);have S:w.grownBy r (some bw):=r4 (l.grw (some bw)) f;generalize W:HY (zF c) t.kids[i]=T at*
 refine QJ ?_;refine dq (α:=Ltl) rfl rfl rfl rfl OS OS ?_;refine QT ?_;refine QL.load (α:=Int) (F:=F) (y:=t.kids[i].k) rfl rfl rfl (o kb g) o (by rw[Kd];exact E) rfl ?_;rw[show Iu Int [Pj t.kids[i].k]=Pj t.kids[i].k from rfl];skip;refine QL.call rfl rfl rfl (fun w' h=>Rt.mono (jh w' t.k i t.kids[i].k) (fun v w'' I=>⟨I.1,I.2▸Ext.refl _⟩)) ?_;refine QL.nil (fun M L=>?_);have p:w.grownBy M (some bw):=r4 S (L.grw (some bw));have n:=H.ext L;unfold wP;refine Pn ?_;apply CW.cond rfl<;>intro h
 ·rw[Ov h]
  refine P7 ?_;exact be rfl rfl ⟨rfl,n,p⟩
 ·rw[Ou (by rw[h];decide)]
  refine Qv ?_;refine d_ (a:=[40]) (b:=T) rfl rfl rfl rfl O0 ?_;refine d_ (a:=[40]++T) (b:=[41]) rfl rfl rfl rfl O1 ?_;refine Pr ?_;exact be rfl rfl ⟨rfl,n,p⟩
theorem kD(w:World){F:Nat→Prop}{no:Option Addr}{o bw:Nat}{a:List ByteArray}{b:Bool}(q:Sl w F no o a)(hF:∀k,F k→k<w.heap.size)(m:fH w bw no a.length o b)(n:Int)(z:0≤n):
  Rt Tryz.prog 189 [Pk bw,Pj n].toArray w fun v w'=>v=tV (zF a n)∧fH w' bw no a.length o (b||zF a n==[])∧w.grownBy w' (some bw):=by
 have hn:=q.lift hF;have A:=hn.len63;refine dH Tryz.func189 Tryz.ntmps189 rfl rfl ?_;obtain⟨i,rfl⟩:=J9 z;refine Qw ?_;apply CW.cond rfl<;>intro h
 ·have d:(i:Int)=63:=by simpa using h
  refine P7 ?_;refine be rfl rfl ?_;unfold zF;rw[Ov d];exact⟨rfl,by rw[show(b||GC==[])=b by simp[GC]];exact m,World.grownBy.refl _ _⟩
 have d:¬(i:Int)=63:=by simpa using h
 have y:∀{w':World} {σ:Sg},zF a (i:Int)=[]→Ext w w'→True:=fun _ _=>trivial
 refine QK ?_
 (refine dw rfl rfl (fun h=>?_) (fun h=>?_))
 ·have h1:(i:Int)≥(a.length:Int):=by simpa using h
  refine QS ?_;refine QL.nil (fun s l=>?_);have c:=m.ext l;refine P3 ?_;refine WL.st rfl rfl rfl c rfl rfl Pd (fun r j g=>?_);refine P7 ?_;refine be rfl rfl ?_;unfold zF;rw[Ou d,Ov h1];exact⟨rfl,by simpa using j,r4 (l.grw _) g⟩
 have h1:¬(i:Int)≥(a.length:Int):=by simpa using h
 have hi:i<a.length:=by omega
 refine Q0 ?_;refine dn rfl rfl rfl rfl rfl O8 hn hi O3 (fun t u f=>?_);obtain⟨rfl,_⟩:=f.str;skip;refine QL.call rfl rfl rfl (fun w' h=>cZ w' a[i]) ?_;refine QP ?_
 (refine dw rfl rfl (fun h=>?_) (fun h=>?_))
 ·refine QS ?_
  refine QL.nil (fun s l=>?_);have c:=m.ext l;refine P3 ?_;refine WL.st rfl rfl rfl c rfl rfl Pd (fun r j g=>?_);refine P7 ?_;refine be rfl rfl ?_;unfold zF;rw[Ou d,Ou h1,Ov (by rw[Kd,qV hi];simpa using h)];exact⟨rfl,by simpa using j,r4 (l.grw _) g⟩
 have h2:¬y_ a[i]=false:=by simpa using h
 refine Q0 ?_;refine dn rfl rfl rfl rfl rfl O8 hn hi O3 (fun t u f=>?_);obtain⟨rfl,_⟩:=f.str;skip;refine QL.call rfl rfl rfl (fun w' h=>Rt.mono (vN w' a[i] (hn.up h)) (fun v w'' x=>⟨x.1,x.2▸Ext.refl _⟩)) ?_;refine QP ?_;refine QL.nil (fun s l=>?_);have c:=m.ext l;refine Pn ?_;apply CW.cond rfl<;>intro h
 ·refine P3 ?_
  refine WL.st rfl rfl rfl c rfl rfl Pd (fun r j g=>?_);refine P7 ?_;refine be rfl rfl ?_;unfold zF;rw[Ou d,Ou h1,Ou (by rw[Kd,qV hi];exact h2),Ov (by rw[Kd,qV hi,←vh];simpa using h)];exact⟨rfl,by simpa using j,r4 (l.grw _) g⟩
 refine P2 ?_;refine eE rfl rfl rfl rfl rfl (hn.up l) hi O3 (fun t u f=>?_);obtain⟨rfl,_⟩:=f.str;refine Pr ?_;refine be rfl rfl ?_;have p:za a[i].data.toList=true:=by simpa using h2
 have e:zF a (i:Int)=a[i].data.toList:=by
  unfold zF;rw[Ou d,Ou h1,Ou (by rw[Kd,qV hi];exact h2),Ou (by rw[Kd,qV hi,←vh];simpa using h)];rw[Kd,qV hi]
 rw[e];exact⟨by rw[tV,HV],by rw[show(a[i].data.toList==[])=false from by rw[Oa];exact(zb p).1,JY];exact c,l.grw _⟩
set_option maxHeartbeats 2000000 in
theorem lE:∀(m:Nat) (t:Ltl),t.nodes≤m→m≤1000→ShT wS t→au t
 |0,t,hm,_,_=>by have:=t.nodes_pos;omega
 |m+1,.mk k n kids,hm,hm1,hsh=>by
  intro w F bw ao cap no J g b hs hn hF hnb hb
  obtain⟨r,h0,h63,X⟩:=Fk hsh;simp only[Ltl.nodes]at hm
  have G:∀i (hi:i<kids.length),kids[i].nodes≤m:=fun i hi=>by have:=Ltl.nodes_kid kids _ (Lb hi);omega
  have ihk:∀i (hi:i<kids.length),au kids[i]:=fun i hi=>lE m kids[i] (G i hi) OS (X _ (Lb hi))
  have C:∀i (hi:i<kids.length),(HY (zF g) kids[i]).length≤8000:=fun i hi=>by have:=HZ (zG g) kids[i];have:=G i hi;omega
  have hbl:=hb.lt;simp only[yS]at hs
  simp only[yR,yT,yS];refine dH Tryz.func136 Tryz.ntmps136 rfl rfl ?_;refine Pm ?_;refine dZ rfl rfl rfl fun d hb3 Y=>?_
  have B:∀k,F k→k<d.heap.size:=fun k r=>MQ (hF k r) Y.size
  have hs1:Sl d F ao cap kids:=hs.mono (fun k r=>Y.block k (hF k r)) fun _ h=>h
  have hn1:Sl d F no J g:=hn.mono (fun k r=>Y.block k (hF k r)) fun _ h=>h
  have U:=hb.ext Y;have T:w.grownBy d (some bw):=Y.grw (some bw);have hl3:=hb3.lt;have I:∀K,wS K=2→k=K→∃x y,kids=[x,y]:=fun K hK e=>by
   have:kids.length=2:=by rw[e]at r;omega
   match kids,this with
   |[x,y],_=>exact⟨x,y,rfl⟩
  have hD:Ext d (drew d):=Ext.drew d;have hb3d:=hb3.ext hD;have P:=U.ext hD;have D:Sl (drew d) F ao cap kids:=hs1.mono (fun k r=>hD.block k (B k r)) fun _ h=>h
  have j:Sl (drew d) F no J g:=hn1.mono (fun k r=>hD.block k (B k r)) fun _ h=>h
  have V:∀k,F k→k<(drew d).heap.size:=B;have O:w.grownBy (drew d) (some bw):=r4 T (hD.grw _);have hw3:w.heap.size≠bw:=by omega
  have s:∀{z Z:World},(z.heap[w.heap.size]?=(drew d).heap[w.heap.size]?∧d.heap.size≤z.heap.size∧∀k,F k→z.heap[k]?=(drew d).heap[k]?)→z.grownBy Z (some bw)→(Z.heap[w.heap.size]?=(drew d).heap[w.heap.size]?∧d.heap.size≤Z.heap.size∧∀k,F k→Z.heap[k]?=(drew d).heap[k]?):=
   fun {z Z} R hg=>⟨(hg.block _ OS (fun e=>hw3 (Nn e))).trans R.1,MN R.2.1 hg.size,fun k r=>(hg.block k (MQ (B k r) R.2.1) (fun e=>by cases e;exact hnb r)).trans (R.2.2 k r)⟩
  have A:∀z:World,(fun z:World=>z.heap[w.heap.size]?=(drew d).heap[w.heap.size]?∧d.heap.size≤z.heap.size∧∀k,F k→z.heap[k]?=(drew d).heap[k]?) z→Blk z w.heap.size 35 [Pj k,Pj n,.slice ao kids.length cap]:=fun z R=>R.1.trans hb3d
  have v:(fun z:World=>z.heap[w.heap.size]?=(drew d).heap[w.heap.size]?∧d.heap.size≤z.heap.size∧∀k,F k→z.heap[k]?=(drew d).heap[k]?) (drew d):=⟨rfl,MM _,fun _ _=>rfl⟩;refine QH ?_;apply CW.cond rfl<;>intro h
  ·obtain rfl:k=1:=by simpa using h
   obtain rfl:kids=[]:=KD (by have:wS 1=0:=rfl;omega);refine Pl ?_;exact be rfl rfl ⟨rfl,by simpa[gW,gX]using U,T⟩
  have k1:¬k=1:=by simpa using h
  clear h;refine Qw ?_;apply CW.cond rfl<;>intro h
  ·obtain rfl:k=2:=by simpa using h
   obtain rfl:kids=[]:=KD (by have:wS 2=0:=rfl;omega);refine Pl ?_;exact be rfl rfl ⟨rfl,by simpa[gW,gX]using U,T⟩
  have k2:¬k=2:=by simpa using h
  clear h;refine Qw ?_;apply CW.cond rfl<;>intro h
  ·obtain rfl:k=3:=by simpa using h
   obtain rfl:kids=[]:=KD (by have:wS 3=0:=rfl;omega);refine Qj ?_;refine WL.call rfl rfl rfl (kD d hn1 B U n h0) ?_;rintro _ Q ⟨rfl,p,o⟩
   refine P4 ?_;exact be rfl rfl ⟨by simp[HY,wd],by simpa[gW,gX]using p,r4 T o⟩
  have k3:¬k=3:=by simpa using h
  clear h;refine Qw ?_;apply CW.cond rfl<;>intro h
  ·obtain rfl:k=5:=by simpa using h
   obtain⟨x,y,rfl⟩:=I 5 rfl rfl;have E:=C 0 OW;have H:=C 1 OW;simp only[K9,K8]at E H
   have hkx:=wQ (hZ 5 ((0:Nat):Int) x.k) (HY (zF g) x);have hky:=wQ (hZ 5 ((1:Nat):Int) y.k) (HY (zF g) y);refine PD ?_;refine aF (fun z:World=>z.heap[w.heap.size]?=(drew d).heap[w.heap.size]?∧d.heap.size≤z.heap.size∧∀k,F k→z.heap[k]?=(drew d).heap[k]?) [(0,true),(1,true),(4,true),(5,true),(2,false),(3,true),(6,false),(7,true),(8,true)] mixed OT v ?_;refine Q3 ?_;refine cj A rfl rfl rfl rfl rfl ?_;refine Q3 ?_;refine cj A rfl rfl rfl rfl rfl ?_;refine cu rfl (WL.call rfl rfl rfl (kr (t:=.mk 5 n [x,y]) (i:=0) (by simp[yS]) (ihk 0 OW) (by have:=G 0 OW;show x.nodes≤1000;simp only[K9]at this;omega) (drew d) F bw ao cap no J g b D j V hnb P) ?_);rintro _ Q ⟨rfl,p,o⟩
   have c:=s v o;refine WL.nil (a_ c ?_);simp only[yR,yS,K9]at p⊢
   refine bW (b:=[32,38,32]) rfl rfl rfl rfl rfl O0 ?_;refine cu rfl (WL.call rfl rfl rfl (kr (t:=.mk 5 n [x,y]) (i:=1) (by simp[yS]) (ihk 1 OW) (by have:=G 1 OW;show y.nodes≤1000;simp only[K8,K9]at this;omega) Q F bw ao cap no J g _ (D.mono c.2.2 fun _ h=>h) (j.mono c.2.2 fun _ h=>h) (fun k r=>MQ (B k r) c.2.1) hnb p) ?_);rintro _ w3 ⟨rfl,f,l⟩
   refine WL.nil (a_ (s c l) ?_);simp only[yR,yS,K8,K9]at f⊢
   refine bW rfl rfl rfl rfl rfl O1 ?_;refine Rf ?_;refine PN ?_;refine be rfl rfl ⟨by rw[txtC_bin.1];rfl,?_,r4 (r4 O o) l⟩;rw[gT OU];exact f
  have k5:¬k=5:=by simpa using h
  clear h;refine Qw ?_;apply CW.cond rfl<;>intro h
  ·obtain rfl:k=6:=by simpa using h
   obtain⟨x,y,rfl⟩:=I 6 rfl rfl;have E:=C 0 OW;have H:=C 1 OW;simp only[K9,K8]at E H
   have hkx:=wQ (hZ 6 ((0:Nat):Int) x.k) (HY (zF g) x);have hky:=wQ (hZ 6 ((1:Nat):Int) y.k) (HY (zF g) y);refine PD ?_;refine aF (fun z:World=>z.heap[w.heap.size]?=(drew d).heap[w.heap.size]?∧d.heap.size≤z.heap.size∧∀k,F k→z.heap[k]?=(drew d).heap[k]?) [(0,true),(1,true),(4,true),(5,true),(2,false),(3,true),(6,false),(7,true),(8,true)] mixed OT v ?_;refine Q3 ?_;refine cj A rfl rfl rfl rfl rfl ?_;refine Q3 ?_;refine cj A rfl rfl rfl rfl rfl ?_;refine cu rfl (WL.call rfl rfl rfl (kr (t:=.mk 6 n [x,y]) (i:=0) (by simp[yS]) (ihk 0 OW) (by have:=G 0 OW;show x.nodes≤1000;simp only[K9]at this;omega) (drew d) F bw ao cap no J g b D j V hnb P) ?_);rintro _ Q ⟨rfl,p,o⟩
   have c:=s v o;refine WL.nil (a_ c ?_);simp only[yR,yS,K9]at p⊢
   refine bW (b:=[32,47,32]) rfl rfl rfl rfl rfl O0 ?_;refine cu rfl (WL.call rfl rfl rfl (kr (t:=.mk 6 n [x,y]) (i:=1) (by simp[yS]) (ihk 1 OW) (by have:=G 1 OW;show y.nodes≤1000;simp only[K8,K9]at this;omega) Q F bw ao cap no J g _ (D.mono c.2.2 fun _ h=>h) (j.mono c.2.2 fun _ h=>h) (fun k r=>MQ (B k r) c.2.1) hnb p) ?_);rintro _ w3 ⟨rfl,f,l⟩
   refine WL.nil (a_ (s c l) ?_);simp only[yR,yS,K8,K9]at f⊢
   refine bW rfl rfl rfl rfl rfl O1 ?_;refine Rf ?_;refine PN ?_;refine be rfl rfl ⟨by rw[txtC_bin.2.1];rfl,?_,r4 (r4 O o) l⟩;rw[gT OU];exact f
  have k6:¬k=6:=by simpa using h
  clear h;refine Qw ?_;apply CW.cond rfl<;>intro h
  ·obtain rfl:k=10:=by simpa using h
   obtain⟨x,y,rfl⟩:=I 10 rfl rfl;have E:=C 0 OW;have H:=C 1 OW;simp only[K9,K8]at E H
   have N:∀z:World,(fun z:World=>z.heap[w.heap.size]?=(drew d).heap[w.heap.size]?∧d.heap.size≤z.heap.size∧∀k,F k→z.heap[k]?=(drew d).heap[k]?) z→∀b,F b→z.heap[b]?=(drew d).heap[b]?:=fun z R=>R.2.2
   refine PD ?_;refine aF (fun z:World=>z.heap[w.heap.size]?=(drew d).heap[w.heap.size]?∧d.heap.size≤z.heap.size∧∀k,F k→z.heap[k]?=(drew d).heap[k]?) [(0,true),(1,true),(2,true),(3,true),(4,true),(8,true),(9,true),(10,true),(11,true),(12,true),(5,false),(6,true),(7,true),(13,false),(14,true),(15,true),(16,true)] mixed OT v ?_;refine Ra ?_;refine cq A rfl rfl rfl rfl rfl ?_;refine bY (w:=drew d) (k:=0) N rfl rfl rfl rfl rfl rfl rfl D OW O3 (fun u q W=>?_);obtain⟨ao0,cap0,rfl,M⟩:=W.ltl;refine Ra ?_;refine cq A rfl rfl rfl rfl rfl ?_;refine bY (w:=drew d) (k:=1) N rfl rfl rfl rfl rfl rfl rfl D OW O3 (fun u q W=>?_);obtain⟨ao1,cap1,rfl,L⟩:=W.ltl;simp only[K8,K9]at M L⊢
   refine cu rfl (WL.call rfl rfl rfl (ihk 0 OW (drew d) F bw ao0 cap0 no J g b M j V hnb P) ?_);rintro _ Q ⟨rfl,p,o⟩
   have c:=s v o;refine WL.nil (a_ c ?_);simp only[K9]at p⊢
   refine bW (a:=[69,32,91]) rfl rfl rfl rfl rfl O0 ?_;refine bW (b:=[32,85,32]) rfl rfl rfl rfl rfl O1 ?_;refine cu rfl (WL.call rfl rfl rfl (ihk 1 OW Q F bw ao1 cap1 no J g _ (L.mono c.2.2 fun _ h=>h) (j.mono c.2.2 fun _ h=>h) (fun k r=>MQ (B k r) c.2.1) hnb p) ?_);rintro _ w3 ⟨rfl,f,l⟩
   refine WL.nil (a_ (s c l) ?_);simp only[K8,K9]at f⊢
   refine bW rfl rfl rfl rfl rfl O1 ?_;refine bW (b:=[93]) rfl rfl rfl rfl rfl O1 ?_;refine Rf ?_;refine PN ?_;refine be rfl rfl ⟨by rw[txtC_bin.2.2.1],?_,r4 (r4 O o) l⟩;rw[gT OU];exact f
  have k10:¬k=10:=by simpa using h
  clear h;refine Qw ?_;apply CW.cond rfl<;>intro h
  ·obtain rfl:k=14:=by simpa using h
   obtain⟨x,y,rfl⟩:=I 14 rfl rfl;have E:=C 0 OW;have H:=C 1 OW;simp only[K9,K8]at E H
   have N:∀z:World,(fun z:World=>z.heap[w.heap.size]?=(drew d).heap[w.heap.size]?∧d.heap.size≤z.heap.size∧∀k,F k→z.heap[k]?=(drew d).heap[k]?) z→∀b,F b→z.heap[b]?=(drew d).heap[b]?:=fun z R=>R.2.2
   refine PD ?_;refine aF (fun z:World=>z.heap[w.heap.size]?=(drew d).heap[w.heap.size]?∧d.heap.size≤z.heap.size∧∀k,F k→z.heap[k]?=(drew d).heap[k]?) [(0,true),(1,true),(2,true),(3,true),(4,true),(8,true),(9,true),(10,true),(11,true),(12,true),(5,false),(6,true),(7,true),(13,false),(14,true),(15,true),(16,true)] mixed OT v ?_;refine Ra ?_;refine cq A rfl rfl rfl rfl rfl ?_;refine bY (w:=drew d) (k:=0) N rfl rfl rfl rfl rfl rfl rfl D OW O3 (fun u q W=>?_);obtain⟨ao0,cap0,rfl,M⟩:=W.ltl;refine Ra ?_;refine cq A rfl rfl rfl rfl rfl ?_;refine bY (w:=drew d) (k:=1) N rfl rfl rfl rfl rfl rfl rfl D OW O3 (fun u q W=>?_);obtain⟨ao1,cap1,rfl,L⟩:=W.ltl;simp only[K8,K9]at M L⊢
   refine cu rfl (WL.call rfl rfl rfl (ihk 0 OW (drew d) F bw ao0 cap0 no J g b M j V hnb P) ?_);rintro _ Q ⟨rfl,p,o⟩
   have c:=s v o;refine WL.nil (a_ c ?_);simp only[K9]at p⊢
   refine bW (a:=[65,32,91]) rfl rfl rfl rfl rfl O0 ?_;refine bW (b:=[32,85,32]) rfl rfl rfl rfl rfl O1 ?_;refine cu rfl (WL.call rfl rfl rfl (ihk 1 OW Q F bw ao1 cap1 no J g _ (L.mono c.2.2 fun _ h=>h) (j.mono c.2.2 fun _ h=>h) (fun k r=>MQ (B k r) c.2.1) hnb p) ?_);rintro _ w3 ⟨rfl,f,l⟩
   refine WL.nil (a_ (s c l) ?_);simp only[K8,K9]at f⊢
   refine bW rfl rfl rfl rfl rfl O1 ?_;refine bW (b:=[93]) rfl rfl rfl rfl rfl O1 ?_;refine Rf ?_;refine PN ?_;refine be rfl rfl ⟨by rw[txtC_bin.2.2.2],?_,r4 (r4 O o) l⟩;rw[gT OU];exact f
  have k14:¬k=14:=by simpa using h
  clear h;have S:(k=4∨k=7∨k=8∨k=9∨k=11∨k=12∨k=13)∧kids.length=1:=by
   rcases wT r with⟨_,e⟩|⟨Y,e⟩|⟨_,e⟩
   ·omega
   ·exact⟨e,Y⟩
   ·omega
  obtain⟨S,hk1⟩:=S;obtain⟨x,rfl⟩:=Ln.1 hk1;have E:=C 0 OW;simp only[K9]at E
  have hkx:=wQ (hZ k ((0:Nat):Int) x.k) (HY (zF g) x);have hsl:(Fw k).length≤3:=by unfold Fw;(repeat' split)<;>decide
  refine Qz ?_;refine aF (fun z:World=>z.heap[w.heap.size]?=(drew d).heap[w.heap.size]?∧d.heap.size≤z.heap.size∧∀k,F k→z.heap[k]?=(drew d).heap[k]?) [(0,true),(1,true),(3,true),(4,true),(2,false),(5,false),(6,true),(7,true)] mixed OT v ?_;refine Q4 ?_;refine cq A rfl rfl rfl rfl rfl ?_;refine Q3 ?_;refine cj A rfl rfl rfl rfl rfl ?_;refine cu rfl (WL.call rfl rfl rfl (lD (drew d) S) ?_);rintro _ Q ⟨rfl,e2⟩
  have c:=s v (e2.grw (some bw));refine WL.nil (a_ c ?_);refine cu rfl (WL.call rfl rfl rfl (kr (t:=.mk k n [x]) (i:=0) (by simp[yS]) (ihk 0 OW) (by have:=G 0 OW;show x.nodes≤1000;simp only[K9]at this;omega) Q F bw ao cap no J g b (D.mono c.2.2 fun _ h=>h) (j.mono c.2.2 fun _ h=>h) (fun k r=>MQ (B k r) c.2.1) hnb (P.ext e2)) ?_);rintro _ w3 ⟨rfl,f,l⟩
  refine WL.nil (a_ (s c l) ?_);simp only[yR,yS,K9]at f⊢
  refine bW rfl rfl rfl rfl rfl OS ?_;refine Rf ?_;refine Pz ?_;refine be rfl rfl ⟨by rw[H0 S];rfl,?_,r4 (r4 O (e2.grw _)) l⟩;rw[gS k3];exact f
theorem lA(w0:World){ao no:Option Addr}{cap i:Nat}{t:Ltl}{a:List ByteArray}(p:Sl w0 (c9 w0) ao cap t.kids)(hn:Sl w0 (c9 w0) no i a):
  Rt Tryz.prog 57 [yj t.k t.n ao t.kids.length cap,.slice no a.length i].toArray w0 fun v w'=>v=.tuple ⟨[tV (Ci t a).1,Pj (Ci t a).2]⟩∧Ext w0 w':=by
 refine dH Tryz.func57 Tryz.ntmps57 rfl rfl ?_;unfold Ci;refine Pm ?_;refine dZ rfl rfl rfl fun y c u=>?_
 refine Pw ?_;refine WL.call rfl rfl rfl (lF y (p.up u) O8) ?_;rintro _ o ⟨rfl,s⟩
 have c:=c.ext s;have f:=u.trans s;refine Qw ?_;apply CW.cond rfl<;>intro h
 ·rw[Ov (by simpa using h)]
  refine P7 ?_;exact bf rfl rfl rfl ⟨rfl,f⟩
 have q:(jt t 1 0).1=0:=by simpa using h
 rw[Ou (by simpa using h)];obtain⟨j,z⟩:=jA t 1 0 q;have A:=(jy t 1 0 q).2;refine Qv ?_;refine WL.build rfl rfl rfl rfl ?_;refine dZ rfl rfl rfl fun x d r=>?_
 have c:=c.ext r;have b:=f.trans r;refine Pw ?_;refine WL.call rfl rfl rfl (lE t.nodes t Pf OS j x (c9 w0) o.heap.size ao cap no i a false (p.at b) (hn.at b) (fun k l=>MQ l b.size) (fun l=>by have h1:o.heap.size<w0.heap.size:=l;have:=f.size;omega) d) ?_;rintro _ w ⟨rfl,n,m⟩
 have e:Ext w0 w:=b.grown m b.size (fun g B=>by cases B;exact f.size);rw[JR]at n
 refine Qn ?_;apply CW.cond rfl<;>intro h
 ·rw[Ov h]
  refine P7 ?_;exact bf rfl rfl rfl ⟨rfl,e⟩
 ·rw[Ou (by rw[h];decide)]
  refine Qd ?_;exact bf rfl rfl rfl ⟨rfl,e⟩
abbrev DM(r:cM)(lo:Option Addr)(a:Nat)(b:Option Addr)(c:Nat):Value:=.agg [.string r.1,.int .i64 r.2.1,
 .int .i64 r.2.2.1.1,.int .i64 r.2.2.1.2.1,.int .i64 r.2.2.1.2.2.1,.int .i64 r.2.2.1.2.2.2.1,.int .i64 r.2.2.1.2.2.2.2.1,.int .i64 r.2.2.1.2.2.2.2.2.1,.int .i64 r.2.2.1.2.2.2.2.2.2,
 .int .i64 r.2.2.2.1.1,.int .i64 r.2.2.2.1.2.1,.int .i64 r.2.2.2.1.2.2.1,.int .i64 r.2.2.2.1.2.2.2,
 .int .i64 r.2.2.2.2.1.k,.int .i64 r.2.2.2.2.1.n,.slice lo r.2.2.2.2.1.kids.length a,.int .i64 r.2.2.2.2.2.k,.int .i64 r.2.2.2.2.2.n,.slice b r.2.2.2.2.2.kids.length c].toArray
theorem Rd.rule{w:World}{F:Nat→Prop}{v:Value}{r:cM}(h:Rd w F v r):∃lo a b c,v=DM r lo a b c∧Sl w F lo a r.2.2.2.2.1.kids∧Sl w F b c r.2.2.2.2.2.kids∧r.1.size≤maxLen:=by
 obtain⟨c1,d1,rfl,h1,k1⟩:=h.pr;obtain⟨c2,d2,rfl,h2,k2⟩:=C5 k1;obtain⟨c3,d3,rfl,h3,k3⟩:=C5 k2;obtain⟨c4,d4,rfl,h4,k4⟩:=C5 k3;obtain⟨N,d5,rfl,t,k5⟩:=C5 k4;obtain⟨lo,a,rfl,q⟩:=RdT.sl t;obtain⟨b,c,rfl,s⟩:=RdT.sl k5;obtain⟨p1,M,rfl,p,g1⟩:=C5 h3;obtain⟨p2,L,rfl,o,g2⟩:=C5 g1;obtain⟨D,K,rfl,n,g3⟩:=C5 g2;obtain⟨C,J,rfl,m,g4⟩:=C5 g3;obtain⟨B,I,rfl,l,g5⟩:=C5 g4;obtain⟨A,H,rfl,k,u⟩:=C5 g5;obtain⟨z,G,rfl,j,f⟩:=C5 h4;obtain⟨y,E,rfl,i,e⟩:=C5 f;obtain⟨x,f3,rfl,g,d⟩:=C5 e;refine⟨lo,a,b,c,?_,q,s,h1.2⟩;rw[h1.1,C0 h2,C0 p,C0 o,C0 n,C0 m,C0 l,C0 k,C0 u,C0 j,C0 i,C0 g,C0 d];rfl
instance uv:IsFd Tryz.prog 37 0 0:=IsFd.of OT
instance uw:IsFd Tryz.prog 37 1 1:=IsFd.of OT
instance ux:IsFd Tryz.prog 37 2 2:=IsFd.of OT
instance uy:IsFd Tryz.prog 37 3 9:=IsFd.of OT
instance uz:IsFd Tryz.prog 37 4 13:=IsFd.of OT
instance uA:IsFd Tryz.prog 37 5 16:=IsFd.of OT
instance uB:IsC Tryz.prog 37 19 true:=IsC.of OT NQ rfl
theorem Dw(w0:World){no:Option Addr}{l:Nat}{a:List ByteArray}(hn:Sl w0 (c9 w0) no l a)(n:Int)(s:Bool):
  Rt Tryz.prog 60 [Pj n,.slice no a.length l,.bool s].toArray w0 fun v w'=>v=tV (Dy a n s)∧Ext w0 w':=by
 have t:=hn.len63;refine dI Tryz.func60 Tryz.ntmps60 rfl rfl ?_;have b:(n<0∨n≥(a.length:Int)∨n≥63)→¬(n=63∧s=true)→Dy a n s=[]:=fun h q=>by
  unfold Dy;rw[Ou q,Ov];rcases h with h|h|h
  ·exact .inl h
  ·exact .inr (.inl h)
  ·exact .inr (.inr (.inl h))
 refine Qw ?_
 (refine eX rfl rfl (fun h=>?_) (fun h=>?_))
 ·have e:n=63:=by simpa using h
  cases s with
  |true=>
   refine Qr ?_;exact be rfl rfl ⟨by unfold Dy;rw[Ov ⟨e,rfl⟩];rfl,Ext.refl _⟩
  |false=>
   rw[b (.inr (.inr OS)) OW];have hd:decide (n<0)=false:=Oj OS;have o:decide (n≥63)=true:=Ol OS;refine PT ?_;rw[hd];refine QY ?_
   (refine eX rfl rfl (fun h=>?_) (fun h=>?_))
   ·refine Qr ?_
    exact be rfl rfl ⟨rfl,Ext.refl _⟩
   ·refine QO ?_
    rw[o];refine Qr ?_;exact be rfl rfl ⟨rfl,Ext.refl _⟩
 have e:¬n=63:=by simpa using h
 have d:¬(n=63∧s=true):=fun h=>e h.1
 refine QF ?_
 (refine eX rfl rfl (fun h=>?_) (fun h=>?_))
 ·rw[b (.inl (by simpa using h)) d]
  refine Qr ?_;exact be rfl rfl ⟨rfl,Ext.refl _⟩
 have p:¬n<0:=by simpa using h
 obtain⟨i,rfl⟩:=J9 (show 0≤n by omega);clear h;refine QY ?_
 (refine eX rfl rfl (fun h=>?_) (fun h=>?_))
 ·rw[b (.inr (.inl (by simpa using h))) d]
  refine Qr ?_;exact be rfl rfl ⟨rfl,Ext.refl _⟩
 have h1:¬(i:Int)≥(a.length:Int):=by simpa using h
 have hi:i<a.length:=by omega
 clear h;refine QO ?_
 (refine eX rfl rfl (fun h=>?_) (fun h=>?_))
 ·rw[b (.inr (.inr (by simpa using h))) d]
  refine Qr ?_;exact be rfl rfl ⟨rfl,Ext.refl _⟩
 have h2:¬(i:Int)≥63:=by simpa using h
 clear h b;have g:a.getD (i:Int).toNat ⟨#[]⟩=a[i]:=by rw[Kd,qV hi]
 unfold Dy;rw[Ou d,g];refine QO ?_;refine eE rfl rfl rfl rfl rfl hn hi O3 (fun j k c=>?_);obtain⟨rfl,_⟩:=c.str;skip;refine WL.call rfl rfl rfl (cZ w0 a[i]) ?_;rintro _ m ⟨rfl,f⟩
 refine QO ?_
 (refine eX rfl rfl (fun h=>?_) (fun h=>?_))
 ·rw[Ov (.inr (.inr (.inr (.inl (by simpa using h)))))]
  refine Qr ?_;exact be rfl rfl ⟨rfl,f⟩
 have h3:¬y_ a[i]=false:=by simpa using h
 clear h;refine QO ?_;refine eE rfl rfl rfl rfl rfl (hn.up f) hi O3 (fun j k c=>?_);obtain⟨rfl,_⟩:=c.str;skip;refine WL.call rfl rfl rfl (vN m a[i] (hn.up f)) ?_;rintro _ r ⟨rfl,rfl⟩
 rw[vh];refine Pv ?_;apply CW.cond rfl<;>intro h
 ·rw[Ov (.inr (.inr (.inr (.inr (by simpa using h)))))]
  refine P7 ?_;exact be rfl rfl ⟨rfl,f⟩
 have h4:¬vg a a[i].data.toList≠(i:Int):=by simpa using h
 rw[Ou (by simp only[Oz];exact⟨p,h1,h2,h3,h4⟩)];refine Qv ?_;refine eE rfl rfl rfl rfl rfl (hn.up f) hi O3 (fun j k c=>?_);obtain⟨rfl,_⟩:=c.str;refine Pr ?_;exact be rfl rfl ⟨by rw[tV,HV],f⟩
theorem gg(w0:World)(k:Int):Rt Tryz.prog 55 [Pj k].toArray w0 fun v w'=>v=.bool (gf k)∧w0=w':=by
 refine dG Tryz.func55 Tryz.ntmps55 rfl rfl ?_;refine P7 ?_;exact be rfl rfl ⟨rfl,rfl⟩
theorem DI(w0:World){no:Option Addr}{b d c:Nat}{a:List ByteArray}{s:Bool}(hn:Sl w0 (c9 w0) no b a)(h3:Blk w0 d 59 [.slice no a.length b])(g:Blk w0 c 4 [.bool s])(n:Int):
  Rt Tryz.prog 59 [Pj n,Pk d,Pk c].toArray w0 fun v w'=>v=.bool (Dy a n s==[])∧Ext w0 w':=by
 refine dI Tryz.func59 Tryz.ntmps59 rfl rfl ?_;refine QE ?_;refine WL.call rfl rfl rfl (Dw w0 hn n s) ?_;rintro _ f ⟨rfl,e⟩
 refine Pr ?_;exact be rfl rfl ⟨by rw[show(HT (Dy a n s)).data.toList=Dy a n s from HW _],e⟩
set_option maxHeartbeats 1000000 in
theorem gN(w0:World)(pt:cK):Rt Tryz.prog 54 [BK pt].toArray w0 fun v w'=>(∃x u,v=.tuple ⟨[x,u]⟩∧Own w' w0.heap.size 3 c7 x (Bo pt)∧Own w' w0.heap.size 3 c7 u (EJ pt))∧Ext w0 w':=by
 obtain⟨k,sc,P,S,Q,R,c⟩:=pt;refine dG Tryz.func54 Tryz.ntmps54 rfl rfl ?_;refine Pm ?_;refine dZ rfl rfl rfl fun t y r=>?_
 refine QE ?_;refine WL.lit (F:=c7) (ys:=[P]) rfl rfl rfl rfl rfl ⟨Rd.mkInt _ _ _,trivial⟩ (by show 1*1≤16777216;decide) O6 (fun j ho2 l=>?_);have q:Ext t j:=(JJ _ _).grown l Pf O_;have f:=y.ext q;have a:=r.trans q;have s:=r.size;generalize n:Value.slice (some ⟨t.heap.size,0,none⟩) 1 1=ov at*
 refine QO ?_;apply WL.nil;apply bx;refine aB (S:=Value) (fun v=>[(1,Pk w0.heap.size),(2,v),(3,.slice none 0 0)])
  (fun v w=>Own w w0.heap.size 3 c7 v (Bo (k,sc,P,S,Q,R,c))∧Blk w w0.heap.size 27 [Pj k,Pj sc,Pj P,Pj S,Pj Q,Pj R,Pj c]∧Ext w0 w) ?_ ?_
 ·refine Qj ?_
  have i:(k=5∨k=6)→Bo (k,sc,P,S,Q,R,c)=[S,P]:=fun h=>by unfold Bo;rw[Ov h]
  have o:¬(k=5∨k=6)→Bo (k,sc,P,S,Q,R,c)=[P]:=fun h=>by unfold Bo;rw[Ou h]
  (refine eX rfl rfl (fun h=>?_) (fun h=>?_))
  ·refine Qm ?_
   refine WL.lit (F:=c7) (ys:=[S,P]) rfl rfl rfl rfl rfl ⟨Rd.mkInt _ _ _,Rd.mkInt _ _ _,trivial⟩ (by show 2*1≤16777216;decide) O6 (fun g ho3 d=>?_);have e:Ext j g:=(JJ _ _).grown d Pf O_;refine Qf ?_;exact aU _ OR ⟨by rw[i (.inl (by simpa using h))];exact ho3.low a.size,f.ext e,a.trans e⟩
  ·have A:¬k=5:=by simpa using h
   refine P_ ?_;apply CW.cond rfl<;>intro h
   ·have z:k=6:=by simpa using h
    refine Qx ?_;refine WL.lit (F:=c7) (ys:=[S,P]) rfl rfl rfl rfl rfl ⟨Rd.mkInt _ _ _,Rd.mkInt _ _ _,trivial⟩ (by show 2*1≤16777216;decide) O6 (fun g ho3 d=>?_);have e:Ext j g:=(JJ _ _).grown d Pf O_;refine Qf ?_;exact aU _ OR ⟨by rw[i (.inr z)];exact ho3.low a.size,f.ext e,a.trans e⟩
   ·have z:¬k=6:=by simpa using h
    refine Po ?_;exact aU ov OR ⟨by rw[o OS];exact ho2.low s,f,a⟩
 clear ho2 l f a q n ov y r s;rintro ov j ⟨ho2,f,a⟩
 refine aB (S:=Value) (fun v=>[(2,ov),(3,v)]) (fun v w=>Own w w0.heap.size 3 c7 ov (Bo (k,sc,P,S,Q,R,c))∧Own w w0.heap.size 3 c7 v (EJ (k,sc,P,S,Q,R,c))∧Ext w0 w) ?_ ?_
 ·refine QH ?_
  apply CW.cond rfl<;>intro h
  ·have h2:sc=2:=by simpa using h
   refine Qx ?_;refine WL.lit (F:=c7) (ys:=[R]) rfl rfl rfl rfl rfl ⟨Rd.mkInt _ _ _,trivial⟩ (by show 1*1≤16777216;decide) O6 (fun g ho3 d=>?_);have e:Ext j g:=(JJ _ _).grown d Pf O_;refine Qf ?_;exact aU _ OR ⟨ho2.extN e,by unfold EJ;rw[Ov h2];exact ho3.low a.size,a.trans e⟩
  have h2:¬sc=2:=by simpa using h
  clear h;refine Qw ?_;apply CW.cond rfl<;>intro h
  ·have h3:sc=3:=by simpa using h
   refine Qx ?_;refine WL.lit (F:=c7) (ys:=[Q]) rfl rfl rfl rfl rfl ⟨Rd.mkInt _ _ _,trivial⟩ (by show 1*1≤16777216;decide) O6 (fun g ho3 d=>?_);have e:Ext j g:=(JJ _ _).grown d Pf O_;refine Qf ?_;exact aU _ OR ⟨ho2.extN e,by unfold EJ;rw[Ou h2,Ov h3];exact ho3.low a.size,a.trans e⟩
  have h3:¬sc=3:=by simpa using h
  clear h;refine az [(1,Pk w0.heap.size),(2,ov),(3,.slice none 0 0),(32,.bool (decide (sc=4∨sc=5)))] ?_ ?_
  ·refine Qw ?_
   apply CW.cond rfl<;>intro h
   ·refine Po ?_
    refine aS ⟨rfl,rfl,rfl,?_,trivial⟩;refine Oh (fun b=>some (Value.bool b)) ?_;have:sc=4:=by simpa using h
    simp[this]
   ·refine PP ?_
    refine aS ⟨rfl,rfl,rfl,?_,trivial⟩;refine Oh (fun b=>some (Value.bool b)) ?_;have:¬sc=4:=by simpa using h
    rw[JO];simp[this]
  apply CW.cond rfl<;>intro h
  ·have h4:sc=4∨sc=5:=by simpa using h
   refine Qx ?_;refine WL.lit (F:=c7) (ys:=[Q,R]) rfl rfl rfl rfl rfl ⟨Rd.mkInt _ _ _,Rd.mkInt _ _ _,trivial⟩ (by show 2*1≤16777216;decide) O6 (fun g ho3 d=>?_);have e:Ext j g:=(JJ _ _).grown d Pf O_;refine Qf ?_;exact aU _ OR ⟨ho2.extN e,by unfold EJ;rw[Ou h2,Ou h3,Ov h4];exact ho3.low a.size,a.trans e⟩
  ·have h4:¬(sc=4∨sc=5):=by simpa using h
   refine Qe ?_;exact aU _ OR ⟨ho2,by unfold EJ;rw[Ou h2,Ou h3,Ou h4];exact Own.nil,a⟩
 rintro v g ⟨ho3,m,p⟩
 refine P7 ?_;exact bf rfl rfl rfl ⟨⟨_,_,rfl,ho3,m⟩,p⟩
theorem nM(x:cK)(w:World):(Op.equalIn 10000 27 (BK x) (BK BL)).run Tryz.prog w=.ok (x==BL) w:=by
 have m:=NM;have a3:=Nz;have l:=NB;have hS:Tryz.prog.underlying 27=some (.struct (Tryz.prog.fieldsOf 27)):=by kernel_rfl
 have j:Tryz.prog.stoodInHeld 27=false:=by kernel_rfl
 obtain⟨a,b,c,d,e,f,g⟩:=x;simp only[BK,BL];rw[show(10000:Nat)=9999+1 from rfl,run_equalIn_agg w 9999 27 _ _ hS j];simp only[Program.fieldsOf,NK]
 go_simp
 by_cases h1:a=0
 ·by_cases h2:b=0
  ·by_cases h3:c=0
   ·by_cases h4:d=0
    ·by_cases h:e=0
     ·by_cases i:f=0
      ·by_cases k:g=0<;>simp[h1,h2,h3,h4,h,i,k]
      ·simp[h1,h2,h3,h4,h,i]
     ·simp[h1,h2,h3,h4,h]
    ·simp[h1,h2,h3,h4]
   ·simp[h1,h2,h3]
  ·simp[h1,h2]
 ·simp[h1]
theorem Ef(x:cK)(p q:Operand)(w:World):((do eqGuard .neq 27 p q (BK x) (BK BL);binOp .neq 27 (BK x) (BK BL):Sem Value)).run Tryz.prog w=.ok (.bool (x != BL)) w:=by
 have a:Tryz.prog.eqGuardType Tryz.prog.depth 27=false:=by kernel_rfl
 rw[Nv];have b:(eqGuard .neq 27 p q (BK x) (BK BL)).run Tryz.prog w=.ok () w:=run_eqGuard_agg w .neq 27 p q _ _ a;have h:=nM x w;rw[b,Nu];unfold BK at h⊢
 rw[run_neq_struct,h];rfl
theorem nN(x:cP)(w:World):(Op.equalIn 10000 29 (Hm x) (Hm Hn)).run Tryz.prog w=.ok (x==Hn) w:=by
 have h:=NM;have a3:=Nz;have f:=NB;have hS:Tryz.prog.underlying 29=some (.struct (Tryz.prog.fieldsOf 29)):=by kernel_rfl
 have e:Tryz.prog.stoodInHeld 29=false:=by kernel_rfl
 obtain⟨a,b,c,d⟩:=x;simp only[Hm,Hn];rw[show(10000:Nat)=9999+1 from rfl,run_equalIn_agg w 9999 29 _ _ hS e];simp only[Program.fieldsOf,NL]
 go_simp
 by_cases h1:a=0
 ·by_cases h2:b=0
  ·by_cases h3:c=0
   ·by_cases h4:d=0<;>simp[h1,h2,h3,h4]
   ·simp[h1,h2,h3]
  ·simp[h1,h2]
 ·simp[h1]
theorem Eh(x:cP)(p q:Operand)(w:World):((do eqGuard .neq 29 p q (Hm x) (Hm Hn);binOp .neq 29 (Hm x) (Hm Hn):Sem Value)).run Tryz.prog w=.ok (.bool (x != Hn)) w:=by
 have a:Tryz.prog.eqGuardType Tryz.prog.depth 29=false:=by kernel_rfl
 rw[Nv];have b:(eqGuard .neq 29 p q (Hm x) (Hm Hn)).run Tryz.prog w=.ok () w:=run_eqGuard_agg w .neq 29 p q _ _ a;have h:=nN x w;rw[b,Nu];unfold Hm at h⊢
 rw[run_neq_struct,h];rfl
section
variable {Q:Exit→Act→World→Prop}{n:Nat}{σ:Sg}{w:World}{L rest:List Oper}{d:Nat}{ty:TypeId}{pos:String}{af:Array Edge}{g:Option (Nat×Bool)}{yt:TypeId}{x y:Operand}
theorem fj{a:cK}(i:gd L σ ⟨some d,.binOp .neq 27 x y yt,ty,pos,af,g⟩=some true)(hd:Nat.ble (d+1) n=true)(f:ev σ x=some (BK a))(e:ev σ y=some (BK BL))
  (h:WL Tryz.prog L Q rest n ((d,.bool (a != BL))::σ) w):WL Tryz.prog L Q (⟨some d,.binOp .neq 27 x y yt,ty,pos,af,g⟩::rest) n σ w:=by
 refine WL.run i hd (fun c b=>?_) h;have:=Ef a x y w;simp only[execOp,b.ev f,b.ev e];rw[Nv,this];rfl
theorem fk{a:cP}(i:gd L σ ⟨some d,.binOp .neq 29 x y yt,ty,pos,af,g⟩=some true)(hd:Nat.ble (d+1) n=true)(f:ev σ x=some (Hm a))(e:ev σ y=some (Hm Hn))
  (h:WL Tryz.prog L Q rest n ((d,.bool (a != Hn))::σ) w):WL Tryz.prog L Q (⟨some d,.binOp .neq 29 x y yt,ty,pos,af,g⟩::rest) n σ w:=by
 refine WL.run i hd (fun c b=>?_) h;have:=Eh a x y w;simp only[execOp,b.ev f,b.ev e];rw[Nv,this];rfl
end
set_option maxHeartbeats 2000000 in
theorem DJ(w0:World){r:cM}{lo co no:Option Addr}{lc cc Z:Nat}{l:List ByteArray}(hl:Sl w0 (c9 w0) lo lc r.2.2.2.2.1.kids)(hc:Sl w0 (c9 w0) co cc r.2.2.2.2.2.kids)(hn:Sl w0 (c9 w0) no Z l):
  Rt Tryz.prog 31 [DM r lo lc co cc,.slice no l.length Z].toArray w0 fun v w'=>v=Pj (Bz r l)∧Ext w0 w':=by
 obtain⟨nm,so,pt,tp,lt,ct⟩:=r;dsimp only at hl hc⊢
 refine dH Tryz.func31 Tryz.ntmps31 rfl rfl ?_;refine Pm ?_;refine dZ rfl rfl rfl fun X c e1=>?_
 skip;refine dZ rfl rfl rfl fun J a e2=>?_
 have c:=c.ext e2;have T:=e1.trans e2;have l3:=a.lt;refine Qw ?_;refine WL.alloc rfl rfl (fun w3 j e3=>?_);refine WL.st rfl rfl rfl j rfl rfl Pd (fun I j K=>?_);have V:Ext J I:=e3.grown K e3.size O5;have c:=c.ext V;have a:=a.ext V;have D:=T.trans V;have z1:=e1.size;have z2:=e2.size;have l7:=j.lt;clear K e3;apply WL.nil;apply bx;have R:so=1→gM (nm,so,pt,tp,lt,ct)=Bo pt++EJ pt:=fun h=>by unfold gM;rw[Ov h]
 have G:so=2→gM (nm,so,pt,tp,lt,ct)=(if gf tp.1=true then [tp.2.1]else [tp.2.1,tp.2.2.1]):=fun h=>by unfold gM;rw[Ou (by show¬so=1;omega),Ov h]
 have z:so≠1→so≠2→gM (nm,so,pt,tp,lt,ct)=[]:=fun h h'=>by unfold gM;rw[Ou h,Ou h']
 refine aB (S:=Value) (fun v=>[(2,Pk w0.heap.size),(3,Pk X.heap.size),(5,Pj (BA (nm,so,pt,tp,lt,ct) l)),(6,v),(7,Pk J.heap.size)])
  (fun v w=>Rd w (c9 w) v (gM (nm,so,pt,tp,lt,ct))∧Blk w X.heap.size 59 [.slice no l.length Z]∧Blk w J.heap.size 4 [.bool (decide (so=1))]∧Ext w0 w) ?_ ?_
 ·have s:∀w:World,Rd w (c9 w) (Value.slice none 0 0) ([]:List Int):=fun w=>(Sl.zero (α:=Int) w (c9 w)).rd
  refine QH ?_;apply CW.cond rfl<;>intro h
  ·have h1:so=1:=by simpa using h
   clear h;refine Qx ?_;refine WL.call rfl rfl rfl (mR I pt) ?_;rintro _ A ⟨rfl,f⟩
   have c:=c.ext f;have a:=a.ext f;have j:=j.ext f;have k:=D.trans f;refine Qm ?_;refine WL.call rfl rfl rfl (gN A pt) ?_;rintro _ U ⟨⟨u1,u2,rfl,ho1,ho2⟩,o⟩
   have c:=c.ext o;have a:=a.ext o;have j:=j.ext o;have p:=k.trans o;have hl1:(Bo pt).length≤2:=by unfold Bo;split<;>simp
   have hl2:(EJ pt).length≤2:=by unfold EJ;(repeat' split)<;>simp
   obtain⟨so2,sc2,rfl,hs2⟩:=ho2.oldN.sl;have z5:=f.size;have z4:=V.size;refine PP ?_;refine WL.app (F:=c7) rfl rfl rfl rfl ho1 hs2.srcN o.size O6 OY OS (fun Y W ho7 m _=>?_);have hnb:∀g,u1.ownBlock=some g→A.heap.size≤g:=fun g B=>(ho1.lt g B).1
   have u:=a.kept m (fun e=>by have:=hnb _ e.symm;omega);have t:=j.kept m (fun e=>by have:=hnb _ e.symm;omega);have C:Ext w0 W:=p.grown m p.size (fun g B=>by have:=hnb g B;omega);refine QO ?_;refine WL.st rfl rfl rfl t rfl rfl Pd (fun w8 M H=>?_);have O:=u.kept H Pa;have hE8:Ext w0 w8:=C.grown H C.size (fun g B=>by cases B;have:=T.size;omega);have ho8:=ho7.keptN H (fun g B e=>by have:=(ho7.lt g B).1;have:=Nn e;omega);refine Qf ?_;refine aU Y ⟨rfl,rfl,?_,rfl,rfl,trivial⟩ ⟨by rw[R h1];exact ho8.oldN,O,by rw[Ol h1];exact M,hE8⟩;unfold BA;rw[Ov h1];rfl
  have h1:¬so=1:=by simpa using h
  clear h;have b:Blk I J.heap.size 4 [.bool (decide (so=1))]:=by rw[Oj h1];exact j
  refine Qw ?_;apply CW.cond rfl<;>intro h
  ·have h2:so=2:=by simpa using h
   clear h;refine Qx ?_;refine WL.call rfl rfl rfl (mn I tp) ?_;rintro _ A ⟨rfl,f⟩
   have c:=c.ext f;have a:=a.ext f;have b:=b.ext f;have k:=D.trans f;refine QE ?_;refine WL.lit (F:=c7) (ys:=[tp.2.1]) rfl rfl rfl rfl rfl ⟨Rd.mkInt _ _ _,trivial⟩ (by show 1*1≤16777216;decide) O6 (fun U ho6 hg6=>?_);have o:Ext A U:=(JJ _ _).grown hg6 Pf O_;have c:=c.ext o;have a:=a.ext o;have b:=b.ext o;have p:=k.trans o;refine QE ?_;refine WL.call rfl rfl rfl (gg U tp.1) ?_;rintro _ _ ⟨rfl,rfl⟩
   refine Pv ?_;apply CW.cond rfl<;>intro h
   ·have ha:¬gf tp.1=true:=by simpa using h
    refine Qj ?_;refine dY (F:=c7) (yv:=tp.2.2.1) rfl rfl O3 rfl rfl O3 ho6 Pe o.size O6 OU (by unfold maxLen;simp) OW (fun Y W q ho7 m hnb=>?_);have u:=a.kept m (fun e=>by have:=Nn e;have:X.heap.size=A.heap.size:=this;have:=f.size;omega);have t:=b.kept m (fun e=>by have:=Nn e;have:J.heap.size=A.heap.size:=this;have:=f.size;omega);have C:Ext w0 W:=p.grown m p.size (fun g B=>by cases B;exact k.size);refine Qf ?_;refine aU Y ⟨rfl,rfl,?_,rfl,rfl,trivial⟩ ⟨by rw[G h2,Ou ha];exact ho7.oldN,u,t,C⟩;unfold BA;rw[Ou h1,Ov h2];rfl
   ·have ha:gf tp.1=true:=by simpa using h
    refine Qe ?_;refine aU _ ⟨rfl,rfl,?_,rfl,rfl,trivial⟩ ⟨by rw[G h2,Ov ha];exact ho6.oldN,a,b,p⟩;unfold BA;rw[Ou h1,Ov h2];rfl
  have h2:¬so=2:=by simpa using h
  clear h;refine Qw ?_;apply CW.cond rfl<;>intro h
  ·have h3:so=3:=by simpa using h
   clear h;refine Qx ?_;refine WL.call rfl rfl rfl (yf I (hl.up D) (hn.up D)) ?_;rintro _ A ⟨rfl,f⟩
   refine Qf ?_;refine aU (.slice none 0 0) ⟨rfl,rfl,?_,rfl,rfl,trivial⟩ ⟨by rw[z h1 h2];exact s _,a.ext f,b.ext f,D.trans f⟩;unfold BA;rw[Ou h1,Ou h2,Ov h3];rfl
  have h3:¬so=3:=by simpa using h
  clear h;refine Qw ?_;apply CW.cond rfl<;>intro h
  ·have h4:so=4:=by simpa using h
   clear h;refine Qx ?_;refine WL.call rfl rfl rfl (lA I (hc.up D) (hn.up D)) ?_;rintro _ A ⟨rfl,f⟩
   refine Qf ?_;refine aU (.slice none 0 0) ⟨rfl,rfl,?_,rfl,rfl,trivial⟩ ⟨by rw[z h1 h2];exact s _,a.ext f,b.ext f,D.trans f⟩;unfold BA;rw[Ou h1,Ou h2,Ou h3,Ov h4];rfl
  ·have h4:¬so=4:=by simpa using h
   refine Qe ?_;refine aU (.slice none 0 0) ⟨rfl,rfl,?_,rfl,rfl,trivial⟩ ⟨by rw[z h1 h2];exact s _,a,b,D⟩;unfold BA;rw[Ou h1,Ou h2,Ou h3,Ou h4];rfl
 rintro lv A ⟨hlv,P,N,k⟩
 obtain⟨ao,cap,rfl,hsl⟩:=hlv.sl;unfold Bz;generalize BA (nm,so,pt,tp,lt,ct) l=E at*
 generalize gM (nm,so,pt,tp,lt,ct)=at' at*
 dsimp only;refine PB ?_
 (refine eX rfl rfl (fun h=>?_) (fun h=>?_))
 ·have h0:E=0:=by simpa using h
  clear h;refine QX ?_;refine WL.call rfl rfl rfl (k7 A (fun n=>Dy l n (decide (so=1))==[]) hsl (fun w hw i hi=>FnV.mk (cs:=[_,_]) (DI w (hn.up (k.trans hw)) (P.ext hw) (N.ext hw) at'[i]))) ?_;rintro _ U ⟨rfl,o⟩
  refine Pv ?_;apply CW.cond rfl<;>intro h
  ·rw[Ov ⟨h0,h⟩]
   refine P7 ?_;exact be rfl rfl ⟨rfl,k.trans o⟩
  ·rw[Ou (by rw[h];simp)]
   refine Qd ?_;exact be rfl rfl ⟨rfl,k.trans o⟩
 ·have h0:¬E=0:=by simpa using h
  rw[Ou (fun h=>h0 h.1)];refine QF ?_;exact be rfl rfl ⟨rfl,k⟩
def A9(r:cM):Bool:=(r.2.1 != 1&&r.2.2.1 != BL)||(r.2.1 != 2&&r.2.2.2.1 != Hn)
def A_(r:cM):Bool:=A9 r||(r.2.1 != 3&&o6 r.2.2.2.2.1)
theorem Bb(r:cM):Ba r=(A_ r||(r.2.1 != 4&&o6 r.2.2.2.2.2)):=rfl
set_option maxHeartbeats 2000000 in
theorem CT(w0:World){r:cM}{lo p no:Option Addr}{l q k:Nat}{e:List ByteArray}(m:Sl w0 (c9 w0) lo l r.2.2.2.2.1.kids)(n:Sl w0 (c9 w0) p q r.2.2.2.2.2.kids)(hn:Sl w0 (c9 w0) no k e):
  Rt Tryz.prog 10 [DM r lo l p q,.slice no e.length k].toArray w0 fun v w'=>v=Pj (jX r e)∧Ext w0 w':=by
 refine dH Tryz.func10 Tryz.ntmps10 rfl rfl ?_;have u:=m.len63;have w:=n.len63;refine Pm ?_;refine dZ rfl rfl rfl fun t f o=>?_
 refine QE ?_;refine WL.call rfl rfl rfl (cZ t r.1) ?_;rintro _ s ⟨rfl,j⟩
 have f:=f.ext j;have c:=o.trans j;unfold jX;have d:(y_ r.1=false∨r.2.1<1∨r.2.1>4)→(if y_ r.1=false∨r.2.1<1∨r.2.1>4 then 1 else if Bz r e≠0 then Bz r e else if Ba r=true then 1 else 0)=(1:Int):=fun h=>Ov h
 refine QO ?_
 (refine eX rfl rfl (fun h=>?_) (fun h=>?_))
 ·rw[d (.inl (by simpa using h))]
  refine Qr ?_;exact be rfl rfl ⟨rfl,c⟩
 have h1:¬y_ r.1=false:=by simpa using h
 clear h;refine QV ?_
 (refine eX rfl rfl (fun h=>?_) (fun h=>?_))
 ·rw[d (.inr (.inl (by simpa using h)))]
  refine Qr ?_;exact be rfl rfl ⟨rfl,c⟩
 have h2:¬r.2.1<1:=by simpa using h
 clear h;refine P_ ?_;apply CW.cond rfl<;>intro h
 ·rw[d (.inr (.inr (by simpa using h)))]
  refine P7 ?_;exact be rfl rfl ⟨rfl,c⟩
 have h3:¬r.2.1>4:=by simpa using h
 clear h d;rw[Ou (by simp only[Oz];exact⟨h1,h2,h3⟩)];refine Qt ?_;refine WL.call rfl rfl rfl (DJ s (r:=r) (m.up c) (n.up c) (hn.up c)) ?_;rintro _ y ⟨rfl,i⟩
 have x:=f.ext i;have g:=c.trans i;generalize Bz r e=E at*
 refine Qw ?_;apply CW.cond rfl<;>intro h
 ·rw[Ov (by simpa using h)]
  refine P7 ?_;exact be rfl rfl ⟨rfl,g⟩
 rw[Ou (by simpa using h)];clear h f i j o c;apply CW.skip;apply bx;refine az [(2,Pk w0.heap.size),(6,.bool (A9 r))] ?_ ?_
 ·unfold A9
  refine Qj ?_
  (refine eX rfl rfl (fun h=>?_) (fun h=>?_))
  ·rw[h]
   refine QY ?_;refine WL.build (parts:=[]) rfl rfl rfl rfl ?_;refine fj (a:=r.2.2.1) rfl rfl rfl rfl ?_;refine QO ?_
   (refine eX rfl rfl (fun h=>?_) (fun h=>?_))
   ·rw[h]
    refine Pp ?_;exact aS OR
   ·rw[h]
    refine QV ?_
    (refine eX rfl rfl (fun h=>?_) (fun h=>?_))
    ·rw[h]
     refine QY ?_;refine WL.build (parts:=[]) rfl rfl rfl rfl ?_;refine fk (a:=r.2.2.2.1) rfl rfl rfl rfl ?_;refine Qf ?_;exact aS OR
    ·rw[h]
     refine Pp ?_;exact aS OR
  ·rw[h]
   refine QU ?_
   (refine eX rfl rfl (fun h=>?_) (fun h=>?_))
   ·rw[h]
    refine QY ?_;refine WL.build (parts:=[]) rfl rfl rfl rfl ?_;refine fk (a:=r.2.2.2.1) rfl rfl rfl rfl ?_;refine Qf ?_;exact aS OR
   ·rw[h]
    refine Pp ?_;exact aS OR
 refine az [(2,Pk w0.heap.size),(6,.bool (A_ r))] ?_ ?_
 ·unfold A_ o6
  refine PC ?_
  (refine eX rfl rfl (fun h=>?_) (fun h=>?_))
  ·rw[h]
   refine Pp ?_;exact aS OR
  rw[h];refine QV ?_
  (refine eX rfl rfl (fun h=>?_) (fun h=>?_))
  ·rw[h]
   refine QV ?_
   (refine eX rfl rfl (fun h=>?_) (fun h=>?_))
   ·rw[h]
    refine Pp ?_;exact aS OR
   rw[h];refine QV ?_
   (refine eX rfl rfl (fun h=>?_) (fun h=>?_))
   ·rw[h]
    refine Pp ?_;exact aS OR
   rw[h];refine PY ?_;refine aS ⟨rfl,?_,trivial⟩;refine Oh (fun b=>some (Value.bool b)) ?_;rw[JO];simp
  ·rw[h]
   refine Pp ?_;exact aS OR
 rw[Bb];unfold o6;refine PB ?_
 (refine eX rfl rfl (fun h=>?_) (fun h=>?_))
 ·rw[h]
  refine Qr ?_;exact be rfl rfl ⟨rfl,g⟩
 rw[h];clear h;refine QV ?_
 (refine eX rfl rfl (fun h=>?_) (fun h=>?_))
 ·rw[h]
  refine QV ?_
  (refine eX rfl rfl (fun h=>?_) (fun h=>?_))
  ·rw[h]
   refine Qr ?_;exact be rfl rfl ⟨rfl,g⟩
  rw[h];refine QV ?_
  (refine eX rfl rfl (fun h=>?_) (fun h=>?_))
  ·rw[h]
   refine Qr ?_;exact be rfl rfl ⟨rfl,g⟩
  rw[h];refine PY ?_;apply CW.cond rfl<;>intro h
  ·rw[Ov (by simpa using h)]
   refine P7 ?_;exact be rfl rfl ⟨rfl,g⟩
  ·rw[Ou (by simpa using h)]
   refine Qd ?_;exact be rfl rfl ⟨rfl,g⟩
 ·rw[h]
  refine QF ?_;exact be rfl rfl ⟨rfl,g⟩
theorem Grow.low{α:Type}[Rep α]{B B':Nat}{e:TypeId}{w:World}{v:Value}{xs:List α}(h:Grow B e w v xs)(c:B'≤B):Grow B' e w v xs:=by
 obtain⟨F,h1,h2⟩:=h;exact⟨F,fun b a=>⟨MN c (h1 b a).1,(h1 b a).2⟩,h2.low c⟩
instance sX:IsC Tryz.prog 37 19 true:=IsC.of OT NQ rfl
instance sY:IsFd Tryz.prog 37 1 1:=IsFd.of OT
instance sZ:IsFd Tryz.prog 37 4 13:=IsFd.of OT
theorem lj:∀(m:Nat) (t:Ltl),t.nodes≤m→IK t→∀(w:World) (F:Nat→Prop) (ao:Option Addr) (cap:Nat),Sl w F ao cap t.kids→(∀b,F b→b<w.heap.size)→
  Rt Tryz.prog 18 [yj t.k t.n ao t.kids.length cap].toArray w fun v w'=>(∃kv,v=.agg [Pj t.k,Pj t.n,kv].toArray∧Grow w.heap.size 32 w' kv t.kids)∧Ext w w':=by
 intro m
 induction m with
 |zero=>intro t h;have:=t.nodes_pos;omega
 |succ m ih=>
  rintro⟨k,n,kids⟩ hm K w F ao cap hs hF
  simp only[Ltl.k,Ltl.n,Ltl.kids]at hs⊢
  have hkl:=wY K;refine dG Tryz.func18 Tryz.ntmps18 rfl rfl ?_;refine Pm ?_;refine dZ rfl rfl rfl fun w1 hf hE1=>?_
  refine WL.alloc rfl rfl (fun p hr hE2=>?_);have hf:=hf.ext hE2;have s:=hE1.trans hE2;have hz1:w.heap.size≤w1.heap.size:=hE1.size;have hlf:=hf.lt;have hlr:=hr.lt;refine QE ?_;refine WL.build rfl rfl rfl rfl ?_;refine WL.alloc rfl rfl (fun w3 ho G=>?_);refine WL.st rfl rfl rfl ho rfl rfl Pd (fun I ho4 T=>?_);have e4:Ext p I:=G.grown T G.size O5;have W:=hf.ext e4;have M:=hr.ext e4;have hE4:=s.trans e4;have hlo:=ho4.lt;have hsz:=s.size;clear hf hr ho T G e4 s;refine QH ?_;refine CW.loop (S:=Nat×Value) (fun x=>[(1,Pk w.heap.size),(2,Pk w1.heap.size),(3,Pk p.heap.size),(12,.slice ao kids.length cap),(13,Pj kids.length),(14,Pj x.1)])
   (fun x w'=>x.1≤kids.length∧Ext w w'∧I.heap.size≤w'.heap.size∧Blk w' w.heap.size 32 [Pj k,Pj n,.slice ao kids.length cap]∧Blk w' w1.heap.size 32 [Pj 0,Pj 0,.slice none 0 0]∧
    Blk w' p.heap.size 32 [Pj k,Pj n,x.2]∧Grow I.heap.size 32 w' x.2 (kids.take x.1)) (fun x=>kids.length -x.1) (0,.slice none 0 0) OR ⟨by simp,hE4,MM _,W,M,ho4,by simpa using Grow.nil⟩ ?_
  rintro⟨i,kv⟩ z ⟨hi,o,A,V,B,ho5,l⟩
  dsimp only at hi o A V B ho5 l⊢
  clear W M ho4;refine Qw ?_;apply CW.cond rfl<;>intro h
  ·have h:i<kids.length:=by simpa using h
   refine Qo ?_;refine eE rfl rfl rfl rfl rfl (hs.up0 o hF) h O3 (fun u q hu=>?_);obtain⟨uo,uc,rfl,hku⟩:=Rd.ltl hu;refine WL.alloc rfl rfl (fun w6 hx hE6=>?_);refine WL.st rfl rfl rfl hx rfl rfl Pd (fun c J hg7=>?_);have H:Ext z c:=hE6.grown hg7 hE6.size O5;have hE7:=o.trans H;have ed:=Ext.drew c;have hd:=hE7.trans ed;have ho7:=(ho5.ext H).ext ed;have hxd:=J.ext ed;have X:=(l.ext H).ext ed;have P:=J.lt;have hz7:=H.size;have hKo:∀x,(fun x:World=>x.heap[p.heap.size]?=(drew c).heap[p.heap.size]?∧x.heap[z.heap.size]?=(drew c).heap[z.heap.size]?) x→x.heap[p.heap.size]?=(drew c).heap[p.heap.size]?:=fun _ h=>h.1
   have hKx:∀x,(fun x:World=>x.heap[p.heap.size]?=(drew c).heap[p.heap.size]?∧x.heap[z.heap.size]?=(drew c).heap[z.heap.size]?) x→x.heap[z.heap.size]?=(drew c).heap[z.heap.size]?:=fun _ h=>h.2
   refine QB ?_;refine aE (fun x:World=>x.heap[p.heap.size]?=(drew c).heap[p.heap.size]?∧x.heap[z.heap.size]?=(drew c).heap[z.heap.size]?) [(0,true),(1,true),(2,true),(3,false),(4,false),(5,false),(6,true)] 7 mixed OT ⟨rfl,rfl⟩ ?_;refine Q8 ?_;refine cf hKx rfl rfl rfl rfl hxd rfl ?_;skip;have hFd:∀b,F b→b<(drew c).heap.size:=fun b j=>MQ (hF b j) hd.size
   have Q:Sl (drew c) F uo uc (kids[i]).kids:=hku.up0 (H.trans ed) (fun b j=>MQ (hF b j) o.size);refine cu rfl (WL.call rfl rfl rfl (ih kids[i] (zU hm h) (IQ K h) (drew c) F uo uc Q hFd) ?_);rintro v w8 ⟨⟨kv8,rfl,hK8⟩,y⟩
   obtain⟨ko,kc,rfl,hks⟩:=hK8.sl;have hv:Rd w8 (Nw (drew c) w8) (yj (kids[i]).k (kids[i]).n ko (kids[i]).kids.length kc) kids[i]:=by
    have:=Rd.mkLtl (k:=(kids[i]).k) (n:=(kids[i]).n) hks;rwa[show Ltl.mk (kids[i]).k (kids[i]).n (kids[i]).kids=kids[i] by cases kids[i];rfl]at this
   have ho8:=ho7.ext y;have hG8:=X.ext y;have hsz8:c.heap.size≤w8.heap.size:=y.size;refine WL.nil (a_ ⟨y.block _ ho7.lt,y.block _ P⟩ ?_);have hgl:=X.lt;obtain⟨F',E,hO,L⟩:=hG8.open (Fu:=Nw (drew c) w8) (fun b j=>⟨MN A (MN hz7 j.1),j.2⟩) (fun g hg j=>by have:=(hgl g hg).2;have:=j.1;omega);have O:(kids.take i).length=i:=by rw[Lz];omega
   have d:=l.lt;refine bV (bytes:=40) (F:=F') rfl rfl rfl rfl O3 rfl rfl O3 hO (hv.wk L) OS (fun b j=>(E b j).2) OU (by rw[O];unfold maxLen;omega) (by rw[O];omega)
    (fun w' U=>⟨(U.block _ ho8.lt (fun e=>?_)).trans (y.block _ ho7.lt),(U.block _ OS (fun e=>?_)).trans (y.block _ P)⟩) (fun cV w9 q2 hO9 f hnb=>?_)
   ·have:=(d _ e.symm).1;omega
   ·have:=(d _ e.symm).2;omega
   have D:Grow I.heap.size 32 w9 cV (kids.take i++[kids[i]]):=⟨F',fun b j=>⟨(E b j).1,MQ (E b j).2 f.size⟩,hO9⟩;rw[show kids.take i++[kids[i]]=kids.take (i+1) by rw[Mp h]]at D
   obtain⟨co,cc,rfl,_⟩:=D.sl;have C:∀r,r<I.heap.size→some r≠kv.ownBlock:=fun r hr e=>by have:=(d _ e.symm).1;omega
   have ho9:=ho8.kept f (C _ OS);have hf9:=((((V.ext H).ext ed).ext y)).kept f (C _ OS);have hr9:=((((B.ext H).ext ed).ext y)).kept f (C _ OS);have Z:=hd.trans y;have Y:Ext w w9:=Z.grown f Z.size (fun g hg=>by have:=(d g hg).1;omega);refine Re ?_;refine bm rfl (WL.st rfl rfl rfl ho9 rfl rfl Pd (fun w10 N a=>WL.nil (bp ?_)));have hE10:Ext w w10:=Y.grown a Y.size O7;have hsz9:=f.size;have hsz10:=a.size;refine PI ?_;exact EX.back (i+1,.slice co (kids.take (i+1)).length cc) OR ⟨h,hE10,by omega,hf9.kept a Pa,hr9.kept a Pa,N,D.kept a OS⟩ OX
  ·have h:¬i<kids.length:=by simpa using h
   have hik:i=kids.length:=by omega
   subst hik;rw[Ml]at l
   obtain⟨co,cc,rfl,hsl⟩:=l.sl;refine P9 ?_;refine WL.st rfl rfl rfl B rfl rfl Pd (fun w6 hr6 R=>?_);have hG6:=l.kept R OS;refine Px ?_;exact bg rfl rfl hr6 rfl ⟨⟨_,rfl,hG6.low OS⟩,o.grown R o.size O7⟩
set_option maxHeartbeats 1000000 in
theorem Dp(w:World){r:cM}{lo I:Option Addr}{y J:Nat}(A:Sl w (c9 w) lo y r.2.2.2.2.1.kids):
  Rt Tryz.prog 7 [DM r lo y I J].toArray w fun u w'=>∃x,u=.tuple ⟨[x,Pj (pZ r).2]⟩∧GL w.heap.size w' x (pZ r).1∧Ext w w':=by
 refine dG Tryz.func7 Tryz.ntmps7 rfl rfl ?_;have F:=A.len63;refine Pm ?_;refine dZ rfl rfl rfl fun L hf t=>?_
 refine WL.alloc rfl rfl (fun v m s=>?_);have hf:=hf.ext s;have g:=t.trans s;have E:=t.size;have o:=m.lt;unfold pZ;refine QH ?_;apply CW.cond rfl<;>intro h
 ·rw[Ov (by simpa using h)]
  refine Qx ?_;refine WL.call rfl rfl rfl (mB v r.2.2.1) ?_;rintro _ j ⟨x,rfl,e,d⟩
  obtain⟨uo,uc,rfl,_⟩:=Rd.ltl e;have a:=g.trans d;refine QO ?_;refine WL.st rfl rfl rfl (m.ext d) rfl rfl Pd (fun i c b=>?_);refine P4 ?_;exact bh rfl rfl rfl c rfl ⟨_,rfl,(e.st b o).low OS,a.grown b a.size O7⟩
 have h1:¬r.2.1=1:=by simpa using h
 rw[Ou h1];clear h;refine Qw ?_;apply CW.cond rfl<;>intro h
 ·rw[Ov (by simpa using h)]
  refine Qx ?_;refine WL.call rfl rfl rfl (lQ v r.2.2.2.1) ?_;rintro _ j ⟨x,rfl,e,d⟩
  obtain⟨uo,uc,rfl,_⟩:=Rd.ltl e;have a:=g.trans d;refine QO ?_;refine WL.st rfl rfl rfl (m.ext d) rfl rfl Pd (fun i c b=>?_);refine P4 ?_;exact bh rfl rfl rfl c rfl ⟨_,rfl,(e.st b o).low OS,a.grown b a.size O7⟩
 have h2:¬r.2.1=2:=by simpa using h
 rw[Ou h2];clear h;refine Qw ?_;apply CW.cond rfl<;>intro h
 ·rw[Ov (by simpa using h)]
  clear h;refine Qx ?_;refine WL.call rfl rfl rfl (yh v (A.up g) O8) ?_;rintro _ j ⟨rfl,d⟩
  have G:=hf.ext d;have l:=m.ext d;have a:=g.trans d;have D:=d.size;refine Qw ?_;apply CW.cond rfl<;>intro f
  ·have f:(jD r.2.2.2.2.1 1 0).1≠0:=by simpa using f
   rw[Ov f];refine Pm ?_;refine WL.build (parts:=[]) rfl rfl rfl rfl ?_;refine QO ?_;refine WL.st rfl rfl rfl l rfl rfl Pd (fun i c b=>?_);refine P4 ?_;exact bh rfl rfl rfl c rfl ⟨_,rfl,Rd.mkLtl (kids:=[]) (Sl.zero _ _),a.grown b a.size O7⟩
  ·have f:(jD r.2.2.2.2.1 1 0).1=0:=by simpa using f
   rw[Ou (by simp[f])];refine QG ?_;refine WL.call rfl rfl rfl (lj r.2.2.2.2.1.nodes r.2.2.2.2.1 Pf (jK r.2.2.2.2.1 1 0 f) j (c9 j) lo y (A.up a) O8) ?_;rintro _ i ⟨⟨kv,rfl,H⟩,C⟩
   obtain⟨ko,kc,rfl,B⟩:=H.sl;have q:=a.trans C;have e:GL j.heap.size i (yj r.2.2.2.2.1.k r.2.2.2.2.1.n ko r.2.2.2.2.1.kids.length kc) r.2.2.2.2.1:=by
    have:=Rd.mkLtl (k:=r.2.2.2.2.1.k) (n:=r.2.2.2.2.1.n) B;rwa[show Ltl.mk r.2.2.2.2.1.k r.2.2.2.2.1.n r.2.2.2.2.1.kids=r.2.2.2.2.1 by cases r.2.2.2.2.1;rfl]at this
   refine WL.st rfl rfl rfl (l.ext C) rfl rfl Pd (fun K z p=>?_);refine P4 ?_;exact bh rfl rfl rfl z rfl ⟨_,rfl,(e.st p OS).low OS,q.grown p q.size O7⟩
 ·rw[Ou (by simpa using h)]
  refine Qz ?_;refine WL.build (parts:=[]) rfl rfl rfl rfl ?_;skip;refine WL.st rfl rfl rfl m rfl rfl Pd (fun i c b=>?_);refine Pr ?_;exact bh rfl rfl rfl c rfl ⟨_,rfl,Rd.mkLtl (kids:=[]) (Sl.zero _ _),g.grown b g.size O7⟩
def dW(w:World)(v:Value)(p:cL)(r:cM)(tok st:Int):Prop:=∃b s l e so sc lo a,v=.tuple ⟨[Iw b so sc lo a s l,.int .i64 e]⟩∧Sl w (c9 w) so sc s∧Sl w (c9 w) lo a l∧JdgR p r tok st b s l e
set_option maxHeartbeats 4000000 in
theorem wt(w0:World){so fo lo co:Option Addr}{sc fc lc cc:Nat}{ns:List cJ}{fl:List cI}{r:cM}(hs:Sl w0 (c9 w0) so sc ns)(hf:Sl w0 (c9 w0) fo fc fl)(hl:Sl w0 (c9 w0) lo lc r.2.2.2.2.1.kids)(hc:Sl w0 (c9 w0) co cc r.2.2.2.2.2.kids)(tok st:Int):
  Rt Tryz.prog 4 [Ck so sc fo fc ns.length fl.length,DM r lo lc co cc,Pj tok,Pj st].toArray w0 fun v w'=>dW w' v (ns,fl) r tok st∧Ext w0 w':=by
 refine dJ Tryz.func4 Tryz.ntmps4 rfl rfl ?_;refine QI ?_;refine dZ rfl rfl rfl fun w1 f e1=>?_
 refine QI ?_;refine dZ rfl rfl rfl fun w2 p e2=>?_
 have f:=f.ext e2;refine QI ?_;refine WL.alloc rfl rfl (fun w3 a e3=>?_);have f:=f.ext e3;have p:=p.ext e3;have d:=(e1.trans e2).trans e3;have z1:=e1.size;have z2:=e2.size;have l8:=a.lt;generalize hb8n:w2.heap.size=b8 at*
 clear e1 e2 e3;refine QI ?_;refine WL.call rfl rfl rfl (Ex w3 (hs.up d) (hf.up d) tok st) ?_;rintro _ w4 ⟨⟨x,oo,oc,rfl,W,D⟩,e4⟩
 have f:=f.ext e4;have p:=p.ext e4;have a:=a.ext e4;have d:=d.trans e4;obtain⟨a1,c1,a2,c2,a3,c3,a4,c4,rfl,g1,g2,g3,g4⟩:=W.ok;have z4:=e4.size;clear W e4;refine QI ?_;refine WL.alloc rfl rfl (fun w5 c e5=>?_);refine WL.st rfl rfl rfl c rfl rfl Pd (fun w6 c hg6=>?_);have R:Ext w4 w6:=e5.grown hg6 e5.size O5;have f:=f.ext R;have p:=p.ext R;have a:=a.ext R;have d:=d.trans R;have g1:=g1.up R;have g2:=g2.up R;have g3:=g3.up R;have g4:=g4.up R;have D:=D.up R;have z6:=R.size;generalize hb10n:w4.heap.size=b10 at*
 clear e5 R hg6;refine QI ?_;apply CW.cond rfl<;>intro h
 ·have h:(Eu (ns,fl) tok st).2≠0:=by simpa using h
  refine QI ?_;refine WL.build (parts:=[]) rfl rfl rfl rfl ?_;refine QI ?_;refine WL.st rfl rfl rfl a rfl rfl Pd (fun w7 N hg7=>?_);refine QI ?_;exact bh rfl rfl rfl N rfl ⟨⟨false,[],[],_,none,0,none,0,rfl,Sl.zero _ _,Sl.zero _ _,v_ h (fun I _=>h I)⟩,d.grown hg7 d.size O7⟩
 have C:(Eu (ns,fl) tok st).2=0:=by simpa using h
 have Z:=Ew C;clear h;have hz0:=d.size;refine Py ?_;have G:Ext w6 (drew w6):=Ext.drew w6;have hb4d:=f.ext G;have hb5d:=p.ext G;refine aF (fun z:World=>Ext (drew w6) z) [(0,true),(1,true),(2,false),(3,false),(4,true)] mixed OT Ph ?_;refine cj (fun z hz=>hb5d.ext hz) rfl rfl rfl rfl rfl ?_;refine cj (fun z hz=>hb4d.ext hz) rfl rfl rfl rfl rfl ?_;refine cu rfl (WL.call rfl rfl rfl (wb (drew w6) ((hs.up d).up G) (by have:ns.length≤20:=Z.n;omega)) ?_);rintro nv w7 ⟨hnv,e7⟩
 refine WL.nil (a_ e7 ?_);obtain⟨no,nc,rfl,hn⟩:=hnv.oldN.sl;have hE7:=(d.trans G).trans e7;refine cu rfl (WL.call rfl rfl rfl (CT w7 (hl.up hE7) (hc.up hE7) hn) ?_);rintro _ w8 ⟨rfl,e8⟩
 have J:=(G.trans e7).trans e8;refine WL.nil (a_ (e7.trans e8) ?_);have f:=f.ext J;have p:=p.ext J;have a:=a.ext J;have c:=c.ext J;have d:=d.trans J;have g1:=g1.up J;have g2:=g2.up J;have g3:=g3.up J;have g4:=g4.up J;have D:=D.up J;have z8:=J.size;clear e7 e8 J hnv hn hb4d hb5d G hE7;refine Rg ?_;refine QI ?_;apply CW.cond rfl<;>intro h
 ·have h:jX r (zI (ns,fl))≠0:=by simpa using h
  refine QI ?_;refine WL.build (parts:=[]) rfl rfl rfl rfl ?_;refine QI ?_;refine WL.st rfl rfl rfl a rfl rfl Pd (fun w7 N hg7=>?_);refine QI ?_;exact bh rfl rfl rfl N rfl ⟨⟨false,[],[],_,none,0,none,0,rfl,Sl.zero _ _,Sl.zero _ _,v_ h (fun _ I=>h I)⟩,d.grown hg7 d.size O7⟩
 have X:jX r (zI (ns,fl))=0:=by simpa using h
 clear h;refine QI ?_;apply CW.cond rfl<;>intro h
 ·
  have h4:r.2.1=4:=by simpa using h
  clear h;refine QI ?_;refine WL.call rfl rfl rfl (cS w8 (t:=r.2.2.2.2.2) g1 g2 g3 g4 (hc.up d) Z.ed) ?_;rintro _ w9 ⟨x,rfl,W,s⟩
  have a:=a.ext s;have c:=c.ext s;have g1:=g1.up s;have hE9:=d.trans s;have z9:=s.size;have hlab:xg (rW (ns,fl) tok st).1 (rW (ns,fl) tok st).2.1 (rW (ns,fl) tok st).2.2.1.length (rW (ns,fl) tok st).2.2.2 r.2.2.2.2.2=0:=by
   unfold xg;rw[Ou (by have:=Z.chk;simpa using this)];exact jY X h4
  rw[hlab]at W⊢
  rw[Ov rfl]at W
  have hst:AG (rW (ns,fl) tok st).2.1.length (rW (ns,fl) tok st).1:=(j8 Z.chk).2.2.2.1;have hbl:=iN (n:=(rW (ns,fl) tok st).2.1.length) (P:=lG (rW (ns,fl) tok st).2.1 (rW (ns,fl) tok st).2.2.1 (rW (ns,fl) tok st).2.2.2 r.2.2.2.2.2);obtain⟨xo,xc,rfl,hxs⟩:=W.oldN.sl;have hm1:(rW (ns,fl) tok st).1.length≤1048576:=Z.start;refine QI ?_;refine CW.loop (S:=Nat) (fun i=>[(8,Pk b8),(14,.slice xo (iK (rW (ns,fl) tok st).2.1.length (lG (rW (ns,fl) tok st).2.1 (rW (ns,fl) tok st).2.2.1 (rW (ns,fl) tok st).2.2.2 r.2.2.2.2.2)).length xc),(56,.slice a1 (rW (ns,fl) tok st).1.length c1),(57,Pj (rW (ns,fl) tok st).1.length),(58,Pj i)])
   (fun i w=>i≤(rW (ns,fl) tok st).1.length∧(∀n∈(rW (ns,fl) tok st).1.take i,lG (rW (ns,fl) tok st).2.1 (rW (ns,fl) tok st).2.2.1 (rW (ns,fl) tok st).2.2.2 r.2.2.2.2.2 n.toNat)∧w=w9) (fun i=>(rW (ns,fl) tok st).1.length -i) 0 OR ⟨Nc _,(fun n hn=>by simp at hn),rfl⟩ ?_
  rintro i _ ⟨hi,Q,rfl⟩
  have hjr:∀(b:Bool),(b=true↔∀n∈(rW (ns,fl) tok st).1,lG (rW (ns,fl) tok st).2.1 (rW (ns,fl) tok st).2.2.1 (rW (ns,fl) tok st).2.2.2 r.2.2.2.2.2 n.toNat)→JdgR (ns,fl) r tok st b [] [] 0:=fun b hb=>
   ⟨fun h=>absurd rfl h,fun _=>⟨C,X⟩,fun _ _=>⟨rfl,rfl,hb⟩,fun _ h=>absurd h4 h,fun _ _ h _ _=>absurd h4 h,fun _ _ _=>rfl⟩
  refine QI ?_;apply CW.cond rfl<;>intro h
  ·have K:i<(rW (ns,fl) tok st).1.length:=by simpa using h
   clear h;have hk:=hst _ (Lb K);obtain⟨m,em⟩:=J9 hk.1;have hm:m<(rW (ns,fl) tok st).2.1.length:=by omega
   have hm':m<(iK (rW (ns,fl) tok st).2.1.length (lG (rW (ns,fl) tok st).2.1 (rW (ns,fl) tok st).2.2.1 (rW (ns,fl) tok st).2.2.2 r.2.2.2.2.2)).length:=by rw[hbl];exact hm
   have hiff:=iM (P:=lG (rW (ns,fl) tok st).2.1 (rW (ns,fl) tok st).2.2.1 (rW (ns,fl) tok st).2.2.2 r.2.2.2.2.2) hm;refine QI ?_;refine eD rfl rfl rfl rfl rfl g1 K em O3 (fun q=>?_);refine QI ?_;refine eC rfl rfl rfl rfl rfl hxs hm' (IR hm').symm O3 (fun q=>?_);refine QI ?_;apply CW.cond rfl<;>intro h
   ·have hno:¬lG (rW (ns,fl) tok st).2.1 (rW (ns,fl) tok st).2.2.1 (rW (ns,fl) tok st).2.2.2 r.2.2.2.2.2 m:=fun hp=>by rw[hiff.2 hp]at h;cases h
    refine QI ?_;refine WL.build (parts:=[]) rfl rfl rfl rfl ?_;refine WL.st rfl rfl rfl a rfl rfl Pd (fun w10 y M=>?_);refine QI ?_;exact bh rfl rfl rfl y rfl ⟨⟨false,[],[],_,none,0,none,0,rfl,Sl.zero _ _,Sl.zero _ _,hjr false ⟨fun h=>by(cases h),fun hp=>absurd (by have:=hp _ (Lb K);rwa[em,Kd]at this) hno⟩⟩,hE9.grown M hE9.size O7⟩
   ·have hyes:lG (rW (ns,fl) tok st).2.1 (rW (ns,fl) tok st).2.2.1 (rW (ns,fl) tok st).2.2.2 r.2.2.2.2.2 m:=hiff.1 (by simpa using h)
    refine QI ?_;refine EX.back (i+1) OR ⟨K,fun n hn=>?_,rfl⟩ OS;rw[Mp K]at hn
    rcases LK.1 hn with hn|hn
    ·exact Q n hn
    ·rw[L0.1 hn,em,Kd];exact hyes
  ·obtain rfl:i=(rW (ns,fl) tok st).1.length:=by simp at h;omega
   rw[Ml]at Q
   refine QI ?_;refine WL.build (parts:=[(0,.const (.bool true))]) rfl rfl rfl rfl ?_;refine WL.st rfl rfl rfl a rfl rfl Pd (fun w10 y M=>?_);refine QI ?_;exact bh rfl rfl rfl y rfl ⟨⟨true,[],[],_,none,0,none,0,rfl,Sl.zero _ _,Sl.zero _ _,hjr true ⟨fun _=>Q,fun _=>rfl⟩⟩,hE9.grown M hE9.size O7⟩
 have h4:¬r.2.1=4:=by simpa using h
 clear h;refine QI ?_;refine WL.call rfl rfl rfl (Dp w8 (hl.up d)) ?_;rintro _ w9 ⟨x,rfl,W,s⟩
 obtain⟨ko,kc,rfl,Y⟩:=Rd.ltl W.old;have a:=a.ext s;have c:=c.ext s;have d:=d.trans s;have g1:=g1.up s;have g2:=g2.up s;have g3:=g3.up s;have g4:=g4.up s;have D:=D.up s;have z9:=s.size;clear s W;refine QI ?_;refine WL.alloc rfl rfl (fun w10 O e10=>?_);refine WL.st rfl rfl rfl O rfl rfl Pd (fun w11 O hg11=>?_);have j:Ext w9 w11:=e10.grown hg11 e10.size O5;have a:=a.ext j;have c:=c.ext j;have d:=d.trans j;have g1:=g1.up j;have g2:=g2.up j;have g3:=g3.up j;have g4:=g4.up j;have D:=D.up j;have Y:=Y.up j;have z11:=j.size;clear e10 j hg11;refine QI ?_;apply CW.cond rfl<;>intro h
 ·have h:(pZ r).2≠0:=by simpa using h
  refine QI ?_;refine WL.build (parts:=[]) rfl rfl rfl rfl ?_;refine QI ?_;refine WL.st rfl rfl rfl a rfl rfl Pd (fun o hb812 hg12=>?_);refine QI ?_;exact bh rfl rfl rfl hb812 rfl ⟨⟨false,[],[],_,none,0,none,0,rfl,Sl.zero _ _,Sl.zero _ _,⟨fun _=>⟨rfl,rfl,rfl⟩,fun I=>absurd I h,fun I=>absurd I h,fun I=>absurd I h,fun _ _ _ I _=>absurd I h,fun _ _ I=>absurd I h4⟩⟩,d.grown hg12 d.size O7⟩
 have hfm:(pZ r).2=0:=by simpa using h
 clear h;have hRL:RL w11 (yj (pZ r).1.k (pZ r).1.n ko (pZ r).1.kids.length kc) (pZ r).1:=by
  have:=Rd.mkLtl (k:=(pZ r).1.k) (n:=(pZ r).1.n) Y;rwa[show Ltl.mk (pZ r).1.k (pZ r).1.n (pZ r).1.kids=(pZ r).1 by cases (pZ r).1;rfl]at this
 refine QI ?_;refine WL.call rfl rfl rfl (vZ w11 g1 g2 g3 g4 hRL Z.row Z.start) ?_;rintro _ o ⟨⟨ps,pl,is,err,po,pc,qo,qc,rfl,hps,hpl,hJ⟩,U⟩
 have a:=a.ext U;have d:=d.trans U;have D:=D.up U;have z12:=U.size;clear g1 g2 g3 g4 c O hRL Y;refine QI ?_;refine WL.alloc rfl rfl (fun w13 F e13=>?_);refine WL.st rfl rfl rfl F rfl rfl Pd (fun l F hg14=>?_);have B:Ext o l:=e13.grown hg14 e13.size O5;have a:=a.ext B;have d:=d.trans B;have D:=D.up B;have hps:=hps.up B;have hpl:=hpl.up B;have z14:=B.size;clear U e13 B hg14;have hend:(err≠0∨is=true)→JdgR (ns,fl) r tok st is [] [] err:=fun h=>by
  refine⟨fun he=>⟨(hJ.bad he).1,rfl,rfl⟩,fun _=>⟨C,X⟩,fun _ h=>absurd h h4,fun he _=>?_,fun _ _ _ _ hm=>hJ.good Z.chk (p_ hfm) hm,fun _ _ h=>absurd h h4⟩;obtain⟨_,j1,j2,j3,j4,j5,_⟩:=hJ.ok he;have his:is=true:=h.resolve_left (fun h=>h he);exact⟨hfm,j1,j2,j3,j4,fun _=>⟨rfl,rfl⟩,fun h=>by rw[his]at h;cases h⟩
 refine QI ?_
 (first|(refine eX rfl rfl (fun h=>?_) (fun h=>?_))|(refine WL.lookP rfl (fun h=>?_) (fun h=>?_))|(refine dw rfl rfl (fun h=>?_) (fun h=>?_))|(refine QL.lookP rfl (fun h=>?_) (fun h=>?_))|(refine CW.cond rfl (fun h=>?_) (fun h=>?_))|(refine HL.lookG rfl rfl rfl rfl (fun h=>?_) (fun h=>?_))|(refine HL.lookP rfl rfl (fun h=>?_) (fun h=>?_)))
 ·have h:err≠0:=by simpa using h
  refine QI ?_;refine WL.build (parts:=[(0,.tmp 91)]) rfl rfl rfl rfl ?_;refine QI ?_;refine WL.st rfl rfl rfl a rfl rfl Pd (fun V u L=>?_);refine QI ?_;exact bh rfl rfl rfl u rfl ⟨⟨is,[],[],_,none,0,none,0,rfl,Sl.zero _ _,Sl.zero _ _,hend (.inl h)⟩,d.grown L d.size O7⟩
 have he0:err=0:=by simpa using h
 clear h;refine QI ?_;apply CW.cond rfl<;>intro h
 ·refine QI ?_
  refine WL.build (parts:=[(0,.tmp 91)]) rfl rfl rfl rfl ?_;refine QI ?_;refine WL.st rfl rfl rfl a rfl rfl Pd (fun V u L=>?_);refine QI ?_;exact bh rfl rfl rfl u rfl ⟨⟨is,[],[],_,none,0,none,0,rfl,Sl.zero _ _,Sl.zero _ _,hend (.inr h)⟩,d.grown L d.size O7⟩
 obtain⟨_,j1,j2,j3,j4,j5,j6⟩:=hJ.ok he0;have hP:=j6 h;have hof:=Z.of;have hfin:JdgR (ns,fl) r tok st false (ps.map fun n=>((rO (ns,fl) tok st).getD n.toNat (0,0)).1) (pl.map fun n=>((rO (ns,fl) tok st).getD n.toNat (0,0)).1) 0:=
  ⟨fun h=>absurd rfl h,fun _=>⟨C,X⟩,fun _ h=>absurd h h4,fun _ _=>⟨hfm,j1,j2,j3,by rw[←h];exact j4,(fun h=>by cases h),fun _=>⟨ps,pl,hP,rfl,rfl⟩⟩,fun _ _ _ _ _=>rfl,fun _ _ h=>absurd h h4⟩
 have hso:AG (rO (ns,fl) tok st).length ps:=by rw[hof];exact hP.so
 have hlo:AG (rO (ns,fl) tok st).length pl:=by rw[hof];exact hP.lo
 have l19:=F.lt;have z0:=d.size;refine Py ?_;have G:Ext l (drew l):=Ext.drew l;have hb19d:=F.ext G;have hb8d:=a.ext G;refine aF (fun z:World=>z.heap[o.heap.size]?=(drew l).heap[o.heap.size]?) [(0,true),(1,true),(2,true),(4,true),(5,true),(6,true),(3,false),(7,false),(8,true),(9,false),(10,true)] mixed OT rfl ?_;have hKS:∀z:World,(fun z:World=>z.heap[o.heap.size]?=(drew l).heap[o.heap.size]?) z→Blk z o.heap.size 65 [.slice po ps.length pc,.slice qo pl.length qc]:=fun z hz=>hz.trans hb19d
 refine Rg ?_;refine cq hKS rfl rfl rfl rfl rfl ?_;refine Rg ?_;refine cq hKS rfl rfl rfl rfl rfl ?_;refine cu rfl (WL.call rfl rfl rfl (gh (drew l) (D.up G) (hps.up G) hso hP.sz.1) ?_);rintro sv V ⟨H,A⟩
 refine WL.nil (a_ (A.block _ l19) ?_);refine cu rfl (WL.call rfl rfl rfl (gh V (D.up (G.trans A)) (hpl.up (G.trans A)) hlo hP.sz.2) ?_);rintro lv w16 ⟨hlv,T⟩
 have z15:l.heap.size≤V.heap.size:=A.size;have hS16:w16.heap[o.heap.size]?=(drew l).heap[o.heap.size]?:=(T.block _ OS).trans (A.block _ l19);refine WL.nil (a_ hS16 ?_);have H:=H.extN T;have hE16:=d.trans (G.trans (A.trans T));obtain⟨so2,sc2,rfl⟩:=H.val;obtain⟨lo2,lc2,rfl⟩:=hlv.val;refine HL.build (parts:=[(1,.tmp 97),(2,.tmp 101)]) rfl rfl rfl rfl rfl ?_;refine cu rfl (WL.st rfl rfl rfl (hb8d.ext (A.trans T)) rfl rfl Pd (fun w17 hb17 E=>WL.nil (a_ ?_ ?_)))
 ·exact(E.block _ (by have:=T.size;omega) Pa).trans hS16
 have hsv17:=H.keptN E (fun g hg e=>by have:=(H.lt g hg).1;have:=Nn e;have:l.heap.size≤g:=(H.lt g hg).1;omega);have hlv17:=hlv.keptN E (fun g hg e=>by have:=(hlv.lt g hg).1;have:=Nn e;omega);obtain⟨_,_,he1,hs17⟩:=hsv17.oldN.sl;obtain⟨_,_,he2,hl17⟩:=hlv17.oldN.sl;cases he1
 cases he2
 refine Rg ?_;refine QI ?_;exact bh rfl rfl rfl hb17 rfl ⟨⟨false,_,_,_,_,_,_,_,rfl,hs17,hl17,hfin⟩,hE16.grown E hE16.size O7⟩
section
variable {p:cL}{ms:List (List Int)}{nx:List (List cH)}{sl:List cN}
def Fj(nx:List (List cH))(j:Nat):Int:=(At nx j).1
def yQ(ms:List (List Int))(nx:List (List cH))(j:Nat):List Int:=ms.getD (At nx j).2.toNat []
def mz(ms:List (List Int))(nx:List (List cH))(j:Nat):List Int:=if Fj nx j<0 then yQ ms nx j else ms.getD (G9 nx j).2.toNat []
structure SpAll(p:cL)(ms:List (List Int))(nx:List (List cH))(sl:List cN):Prop where
 sp:SpOk p ms nx
 len:nx.length=ms.length
 mark:∀m∈ms,cX p m
 first:ms.getD 0 []=ie p
 pos:0<ms.length
 nok:NxOk sl nx
 z:(F_ p).2=0
 sl:(F_ p).1=sl
theorem FQ{tok st:Int}(h:(ow p tok st).2=0):SpAll p (ow p tok st).1.1 (ow p tok st).1.2 (F_ p).1:=by
 obtain⟨a,c,b,d,e,hf,_⟩:=oz h;exact⟨b,d,c.ok,hf,e,oA h,a,rfl⟩
theorem F3(h:SpAll p ms nx sl){j:Nat}(c:j<gD nx nx.length):∃n i,n<nx.length∧i<yV nx n∧j=gD nx n+i∧yQ ms nx j=ms.getD n []∧
  ((nx.getD n []=[]∧Fj nx j= -1)∨(i<(nx.getD n []).length∧Fj nx j=((nx.getD n []).getD i (0,0)).1∧G9 nx j=(nx.getD n []).getD i (0,0))):=by
 obtain⟨n,i,hn,hi,rfl⟩:=Ax c;have a:=Au hn hi;refine⟨n,i,hn,hi,rfl,?_,?_⟩
 ·unfold yQ;rw[a];split<;>simp
 ·by_cases e:nx.getD n []=[]
  ·left;rw[Ov e]at a;exact⟨e,by unfold Fj;rw[a]⟩
  ·right
   rw[Ou e]at a
   have b:i<(nx.getD n []).length:=by
    have h1:0<(nx.getD n []).length:=Ls.2 e;unfold yV at hi;omega
   refine⟨b,by unfold Fj;rw[a],?_⟩;unfold G9;rw[a];simp
theorem qp{α:Type}{l:List α}{i:Nat}{d:α}(h:i<l.length):l.getD i d∈l:=by
 rw[KR,KX h];exact Lb h
theorem jg(h:SpAll p ms nx sl){n:Nat}(hn:n<nx.length):i6 p (ms.getD n [])=(nx.getD n []).map Prod.fst:=(h.sp.can n hn).symm
theorem DH(h:SpAll p ms nx sl){n i:Nat}(hn:n<nx.length)(hi:i<(nx.getD n []).length):EdgeOk p (ms.getD n []) ms ((nx.getD n []).getD i (0,0)):=by
 have a:(nx.getD n []).getD i (0,0)∈nx.getD n []:=by exact qp hi
 exact h.sp.ed n hn _ a
theorem F6(h:SpAll p ms nx sl){j:Nat}(f:j<gD nx nx.length):(AO p (yQ ms nx j) (Fj nx j)).2=0∧(AO p (yQ ms nx j) (Fj nx j)).1=mz ms nx j:=by
 obtain⟨n,i,hn,hi,rfl,c,⟨g,b⟩|⟨a,b,e⟩⟩:=F3 h f
 ·unfold AO mz
  rw[b,Ou OW,c,jg h hn,g];simp
 ·have d:=DH h hn a
  have k:=h.nok.ed n hn _ (qp a:(nx.getD n []).getD i (0,0)∈nx.getD n []);unfold AO mz;rw[b,Ov OS,Ou OS,c,e];exact⟨d.1,d.2.2.2.symm⟩
theorem F4(h:SpAll p ms nx sl){j a:Nat}(f:j<gD nx nx.length)(hn:(a:Int)∈zt nx j):yQ ms nx a=mz ms nx j:=by
 unfold zt at hn
 unfold mz;split at hn
 ·rename_i b
  rw[Ov (show Fj nx j<0 from b)];simp only[L0]at hn
  rw[show a=j by omega]
 ·rename_i b
  rw[Ou (show¬Fj nx j<0 from b)];have c:=G_ h.nok f b;obtain⟨i,hi,e⟩:=LU.1 hn;have hi:=LZ.1 hi;have d:=Au c hi;have:a=gD nx (G9 nx j).2.toNat+i:=by omega
  subst this;unfold yQ;rw[d];split<;>rfl
theorem B7(h:SpAll p ms nx sl):∀(js:List Nat) (m:List Int),(∀j∈js,j<gD nx nx.length)→(∀i,i+1<js.length→((js.getD (i+1) 0:Nat):Int)∈zt nx (js.getD i 0))→(0<js.length→yQ ms nx (js.getD 0 0)=m)→
  AJ p m (js.map (Fj nx))∧(0<js.length→xr p m (js.map (Fj nx))=mz ms nx (js.getD (js.length -1) 0))
 |[],m,_,_,_=>⟨trivial,fun h=>absurd h OW⟩
 |j::r,m,b,e,k=>by
  have d:=b j OW;obtain⟨h1,h2⟩:=F6 h d;have g:yQ ms nx j=m:=k OW;rw[g]at h1 h2
  have a:=B7 h r (mz ms nx j) (fun x f=>b x (by simp[f])) (fun i hi=>by simpa using e (i+1) (by simpa using hi)) (fun c=>by
   have:=e 0 OZ;exact F4 h d (by simpa using this))
  refine⟨⟨h1,by rw[h2];exact a.1⟩,fun _=>?_⟩;show xr p (AO p m (Fj nx j)).1 (r.map (Fj nx))=_;rw[h2];by_cases c:0<r.length
  ·rw[a.2 c]
   congr 1
   rw[show(j::r).length -1=(r.length -1)+1 by simp;omega];simp
  ·obtain rfl:r=[]:=KD OS
   simp[xr]
end
section
variable {p:cL}{tok st:Int}{A:cG}{s l:List Int}
structure GoodR(p:cL)(ms:List (List Int))(nx:List (List cH))(K:Nat)(s l:List Nat):Prop where
 l0:0<l.length
 rg:∀j∈s++l,j<gD nx nx.length
 st:(At nx ((s++l).getD 0 0)).2=0
 ed:∀i,i+1<(s++l).length→(((s++l).getD (i+1) 0:Nat):Int)∈zt nx ((s++l).getD i 0)
 cl:((l.getD 0 0:Nat):Int)∈zt nx ((s++l).getD ((s++l).length -1) 0)
 fr:∀k,k<K→∃j∈l,vv nx (k:Int) j=true
theorem rI{ms:List (List Int)}{nx:List (List cH)}{sl:List cN}(h:SpAll p ms nx sl){K:Nat}{s l:List Nat}(b:GoodR p ms nx K s l)(k:s.length≤60000∧l.length≤60000 -s.length):
  (qh p (s.map (Fj nx)) (l.map (Fj nx))).2=0:=by
 have f:=b.l0;have a:yQ ms nx ((s++l).getD 0 0)=ie p:=by unfold yQ;rw[b.st];exact h.first
 have c:=B7 h (s++l) (ie p) b.rg b.ed (fun _=>a);have g:(s++l).length=s.length+l.length:=Lk;have d:=B7 h s (ie p) (fun j q=>b.rg j (LK.2 (.inl q))) (fun i hi=>by
  have:=b.ed i OS;rwa[qm OS,qm OS]at this) (fun n=>by rw[←qm (t:=l) n];exact a)
 have o:l.getD 0 0<gD nx nx.length:=b.rg _ (LK.2 (.inr (qp f)));have e:(s++l).getD ((s++l).length -1) 0<gD nx nx.length:=b.rg _ (qp OS);refine qi h.z (by simpa using f) (by simpa using k) (by rw[←LC];exact c.1) ?_;rw[←LC,c.2 OS,←F4 h e b.cl];by_cases m:0<s.length
 ·rw[d.2 m]
  have h1:s.getD (s.length -1) 0<gD nx nx.length:=b.rg _ (LK.2 (.inl (qp OS)));have h2:=b.ed (s.length -1) OS;rw[qm OS,show s.length -1+1=s.length+0 by omega,qr]at h2
  exact(F4 h h1 h2).symm
 ·obtain rfl:s=[]:=KD OS
  exact a.symm
theorem rJ{ms:List (List Int)}{nx:List (List cH)}{sl:List cN}(h:SpAll p ms nx sl){K:Nat}{s l:List Nat}(b:GoodR p ms nx K s l)(e:s.length≤60000∧l.length≤60000 -s.length){i:Nat}(hi:i<(s++l).length):
  yY p (s.map (Fj nx)) (l.map (Fj nx)) i=yQ ms nx ((s++l).getD i 0):=by
 have hF:=qj (rI h b e);rw[yZ hF (by rw[Lq,Lq,←Lk];omega),←LC,←List.map_take];have a:yQ ms nx ((s++l).getD 0 0)=ie p:=by unfold yQ;rw[b.st];exact h.first
 cases i with
 |zero=>simpa[xr]using a.symm
 |succ i=>
  have f:=B7 h ((s++l).take (i+1)) (ie p) (fun j d=>b.rg j (LY d)) (fun k g=>by
   rw[Lz]at g
   have:=b.ed k OS;rw[KR,K5 OS,KR,K5 OS];simpa[KR]using this) (fun _=>by
   rw[KR,K5 OS,←KR];exact a)
  rw[f.2 (by rw[Lz];omega)];have c:((s++l).take (i+1)).length -1=i:=by rw[Lz];omega
  rw[c,KR,K5 OS,←KR];have d:(s++l).getD i 0<gD nx nx.length:=b.rg _ (qp OS);exact(F4 h d (b.ed i hi)).symm
theorem jb{ms:List (List Int)}{nx:List (List cH)}{sl:List cN}(h:SpAll p ms nx sl){j:Nat}(d:j<gD nx nx.length){k:Int}:ja nx j k=true↔k∈i6 p (yQ ms nx j):=by
 obtain⟨n,i,hn,hi,rfl,c,_⟩:=F3 h d;have b:=Au hn hi;have h2:(At nx (gD nx n+i)).2=(n:Int):=by rw[b];split<;>rfl
 rw[c,jg h hn];unfold ja;rw[h2,Kd,Ki,LU];constructor
 ·rintro⟨y,a,e⟩;exact⟨y,a,by simpa using e⟩
 ·rintro⟨y,a,e⟩;exact⟨y,a,by simpa using e⟩
theorem rH{ms:List (List Int)}{nx:List (List cH)}{sl:List cN}(h:SpAll p ms nx sl){s l:List Nat}(g:GoodR p ms nx sl.length s l)(m:s.length≤60000∧l.length≤60000 -s.length):
  oL p (s.map (Fj nx)) (l.map (Fj nx))=true:=by
 unfold oL;rw[Kf];intro k b
 have b:=LZ.1 b;rw[h.sl]at b
 rw[JT,Bool.and_eq_false_iff];by_cases f:kF p (s.map (Fj nx)) (l.map (Fj nx)) k (l.map (Fj nx)).length=(l.map (Fj nx)).length
 ·right
  rw[kN]at f
  obtain⟨j,d,hf⟩:=g.fr k b;obtain⟨i,hi,rfl⟩:=LT.1 d;have c:=g.rg l[i] (LK.2 (.inr d));have a:=f i (by simpa using hi);rw[Lq,rJ h g m (by rw[Lk];omega),qr]at a
  rw[show l.getD i 0=l[i] by rw[KR,KX hi];rfl]at a
  have e:=(jb h c).2 a;unfold vv at hf
  rw[e]at hf
  have n:Fj nx l[i]=(k:Int):=by simpa[Fj]using hf
  rw[Bool.not_eq_false'];simp only[Ko];exact LU.2 ⟨l[i],d,n⟩
 ·left
  exact Oj f
theorem xM{nx:List (List cH)}{sl:List cN}(h:(F_ p).1=sl)(js:List Nat):xK p (js.map (Fj nx))=js.map (xl sl nx):=by
 unfold xK;rw[LG];refine LD fun j _=>?_
 show xI p (Fj nx j)=xl sl nx j;unfold xI xl Fj;rw[h]
theorem BP{tok st:Int}{f:Ltl}(h:(ow p tok st).2=0)(hf:(jD f 1 0).1=0)(J:IK f)(y:(yp (Aa f)).2=0){s l:List Int}(hP:PathE (Ey (F_ p).1 (ow p tok st).1.2) (yp (Aa f)).1 s l)(I:s.length≤60000∧l.length≤60000 -s.length):
  Cl p (s.map fun n=>(At (ow p tok st).1.2 n.toNat).1) (l.map fun n=>(At (ow p tok st).1.2 n.toNat).1) f=(true,0):=by
 have t:=FQ h;generalize (ow p tok st).1.2=nx at*
 generalize (ow p tok st).1.1=ms at*
 generalize (F_ p).1=sl at*
 have O:(Ey sl nx).2.1.length=gD nx nx.length:=by show((List.range (gD nx nx.length)).map _).length=_;rw[Lq,Lt]
 have q:=hP.so;have g:=hP.lo;rw[O]at q g
 have w:AG (gD nx nx.length) (s++l):=fun x o=>(LK.1 o).elim (q x) (g x)
 have v:∀j,j<gD nx nx.length→(Ey sl nx).2.1.getD j []=zt nx j:=fun j r=>by
  show((List.range (gD nx nx.length)).map (zt nx)).getD j []=_;rw[KR,K0,K1 r];rfl
 have B:=hP.good;unfold rG at B
 simp only[JM,Kf]at B
 obtain⟨⟨g1,g2⟩,g3⟩:=B;have b:=hP.l0;have E:(s++l).length=s.length+l.length:=Lk;have a:∀i,i<(s++l).length→((s++l).map Int.toNat).getD i 0=((s++l).getD i 0).toNat:=fun i hi=>by
  rw[KR,K0,KX hi,KR,KX hi];rfl
 have c:∀i,i<(s++l).length→0≤(s++l).getD i 0∧(s++l).getD i 0<(gD nx nx.length:Int):=fun i hi=>by
  rw[KR,KX hi];exact w _ (Lb hi)
 have M:0≤l.getD 0 0:=by rw[KR,KX b];exact(g _ (Lb b)).1
 have F:GoodR p ms nx sl.length (s.map Int.toNat) (l.map Int.toNat):=by
  refine⟨by rw[Lq];exact b,fun j r=>?_,?_,fun i hi=>?_,?_,fun k N=>?_⟩
  ·rw[←LC]at r
   obtain⟨x,o,rfl⟩:=LU.1 r;have:=w x o;omega
  ·rw[←LC,a 0 OS]
   have L:(s++l).getD 0 0∈fY nx 0:=by
    have g1:(Ey sl nx).1.contains ((s++l).getD 0 0)=true:=g1;rw[Ko]at g1
    exact g1
   obtain⟨i,hi,e⟩:=LU.1 L;have K:=Au (nx:=nx) (n:=0) (by have:=t.pos;have:=t.len;omega) (LZ.1 hi);rw[←e,Kd,K];split<;>rfl
  ·rw[←LC,Lq]at hi
   rw[←LC,a (i+1) hi,a i OS];have h2:=g2 i (LZ.2 OS);unfold F8 Hb at h2
   rw[Ov OS,v _ (by have:=c i OS;omega)]at h2
   have h3:=c (i+1) hi;rw[show(((s++l).getD (i+1) 0).toNat:Int)=(s++l).getD (i+1) 0 by omega];simpa using h2
  ·rw[←LC,Lq,a _ OS]
   have h2:=g2 ((s++l).length -1) (LZ.2 OS);unfold F8 Hb at h2
   rw[Ou OS,v _ (by have:=c ((s++l).length -1) OS;omega)]at h2
   have h3:((l.map Int.toNat).getD 0 0:Nat)=(l.getD 0 0).toNat:=by
    rw[KR,K0,KX b,KR,KX b];rfl
   rw[h3,show(((l.getD 0 0).toNat:Nat):Int)=l.getD 0 0 by omega];simpa using h2
  ·have h2:=g3 (oE nx (k:Int)) (LU.2 ⟨k,LZ.2 N,rfl⟩)
   obtain⟨x,o,m⟩:=Ki.1 h2;have m:x∈l:=by simpa using m
   obtain⟨j,r,rfl⟩:=LU.1 o;exact⟨j,LU.2 ⟨(j:Int),m,by simp⟩,(LR.1 r).2⟩
 have u:(s.map Int.toNat).length≤60000∧(l.map Int.toNat).length≤60000 -(s.map Int.toNat).length:=by rw[Lq,Lq];exact I
 have H:∀x:List Int,x.map (fun n=>(At nx n.toNat).1)=(x.map Int.toNat).map (Fj nx):=fun x=>by rw[LG];rfl
 rw[H,H];have C:=rI t F u;have D:=rH t F u;unfold Cl;rw[Ou (by simpa using C),Ou (by simpa using hf),D];rw[xM t.sl,xM t.sl];have G:∀{x:List Int},AG (gD nx nx.length) x→(x.map Int.toNat).map (xl sl nx)=xi (Ey sl nx).2.2.1 x:=fun {x} o=>by
  unfold xi;rw[LG];refine LD fun n hn=>?_
  have:=o n hn;show xl sl nx n.toNat=((List.range (gD nx nx.length)).map (xl sl nx)).getD n.toNat 0;rw[KR,K0,K1 OS];rfl
 rw[G q,G g];have d:=hP.acc;rw[(yq y).2.1,sem_not]at d
 have z:0<(xi (Ey sl nx).2.2.1 l).length:=by unfold xi;rw[Lq];exact b
 rw[←sr z f J 0 OS]at d
 rw[show(se (xi (Ey sl nx).2.2.1 s) (xi (Ey sl nx).2.2.1 l) f).getD 0 false=false by simpa using d];rfl
theorem BO{s l:List Int}{f:Ltl}(a:(F_ p).2=0)(b:0<l.length)(c:¬(s.length≤60000∧l.length≤60000 -s.length)):(Cl p s l f).2=2:=by
 have:qh p s l=([],2):=by
  unfold qh;rw[Ou (by simp[a]),Ou OS,Ov OS]
 unfold Cl;rw[Ov (by rw[this];decide),this]
end
section
variable {p:cL}{ms:List (List Int)}{nx:List (List cH)}{sl:List cN}{s l:List Int}
end
def zi:cM:=(⟨#[110]⟩,1,(1,1,1,0,0,0,0),(0,0,0,0),.mk 0 0 [],.mk 0 0 [])
instance tH:IsZC Tryz.prog 37 [.string ⟨#[]⟩,Pj 0,Pj 0,Pj 0,Pj 0,Pj 0,Pj 0,Pj 0,Pj 0,Pj 0,Pj 0,Pj 0,Pj 0,Pj 0,Pj 0,.slice none 0 0,Pj 0,Pj 0,.slice none 0 0]:=
 IsZC.of (z:=.agg #[.string ⟨#[]⟩,Pj 0,Pj 0,Pj 0,Pj 0,Pj 0,Pj 0,Pj 0,Pj 0,Pj 0,Pj 0,Pj 0,Pj 0,Pj 0,Pj 0,.slice none 0 0,Pj 0,Pj 0,.slice none 0 0]) OT rfl
instance tI:IsBd Tryz.prog 37 [(0,1),(1,1),(2,7),(9,4),(13,3),(16,3)]:=IsBd.of OT
instance tJ:IsF Tryz.prog 6:=⟨_,Tryz.func6,rfl,by decide⟩
theorem zp(w0:World):Rt Tryz.prog 6 [].toArray w0 fun v w'=>v=DM zi none 0 none 0∧Ext w0 w':=by
 refine dF Tryz.func6 Tryz.ntmps6 rfl ?_;refine Pm ?_;refine WL.alloc rfl rfl (fun f d c=>?_);refine PV ?_;refine WL.build (parts:=[(0,.const (Pj 1)),(1,.const (Pj 1)),(2,.const (Pj 1))]) rfl rfl rfl rfl ?_;refine WL.build rfl rfl rfl rfl ?_;refine WL.st rfl rfl rfl d rfl rfl Pd (fun e b a=>?_);refine Px ?_;exact bg rfl rfl b rfl ⟨rfl,c.grown a c.size O5⟩
theorem Gr:(Eu straightP 1 9).1.1=([0],[[1],[2],[2]],[2,4,9223372036854775808],[[0,1,2],[0,1,2]]):=by
 have a:F_ straightP=([(1,0,1),(2,1,0)],0):=Gv;unfold Eu;rw[straight_sp.2.2,a];dsimp only;rw[Ou OU,Ou OU];decide
theorem zk:pZ zi=(.mk 11 0 [.mk 4 0 [.mk 3 1 []]],0):=by rfl
theorem zj:jX zi (zI straightP)=0:=by decide+kernel
theorem zm:(yp (Aa (.mk 11 0 [.mk 4 0 [.mk 3 1 []]]))).2=0:=by decide+kernel
theorem zn:¬ai (rW straightP 1 9) (.mk 11 0 [.mk 4 0 [.mk 3 1 []]]):=by
 unfold rW;rw[Gr];intro h
 have h1:=h (fun i=>min i 2) ⟨by decide,fun i=>?_,fun F hF i=>?_⟩
 ·have h2:¬Til (fun _=>True) (fun j=>(([2,4,9223372036854775808]:List Nat).getD (min j 2) 0 >>> (1:Int).toNat&&&1=1)) 0:=by
   simpa[EQ,E6,E2]using h1
  exact h2 ⟨0,by omega,by decide,fun _ _ _=>trivial⟩
 ·rcases i with _|_|i
  ·decide
  ·decide
  ·rw[show min (i+1+1+1) 2=2 by omega,show min (i+1+1) 2=2 by omega];decide
 ·have hF:F=[0,1,2]:=by simpa using hF
  subst hF;exact⟨i,MM _,by
   rcases i with _|_|i
   ·decide
   ·decide
   ·rw[show min (i+1+1) 2=2 by omega];decide⟩
theorem zl{h:Bool}{s l:List Int}{e:Int}(b:JdgR straightP zi 1 9 h s l e):e=0∧h=false∧0<l.length:=by
 have a:=b.good straight_runs.1 zj OU (by rw[zk]) (by rw[zk];exact zm);obtain⟨_,_,_,_,h1,_,h2⟩:=b.ltl a OU;rw[zk]at h1 h2
 cases h with
 |true=>exact absurd (h1.1 rfl) zn
 |false=>
  obtain⟨ps,pl,hP,_,rfl⟩:=h2 rfl;exact⟨a,rfl,by rw[Lq];exact hP.l0⟩
theorem Ga{p:cL}(h:(F_ p).2=0):(F_ p).1=Gi p∧(Gi p).length≤60:=by
 unfold F_ at h⊢
 split at h
 ·rename_i h1;exact absurd h h1
 ·rename_i h1
  rw[Ou h1];split at h
  ·cases h
  ·rename_i h2;rw[Ou h2];exact⟨rfl,by omega⟩
theorem xJ{p:cL}(a:(F_ p).2=0){k:Int}(c:k<(Gi p).length):xI p k<18446744073709551616:=by
 unfold xI;split
 ·decide
 ·rename_i h
  obtain⟨e,_⟩:=Ga a;have b:=jU (Gb a);have hi:k.toNat<(Gi p).length:=by omega
  have:=Gk _ (Lb hi);have:=b.n;rw[e,ry hi];have h2:(2:Nat) ^ (Gi p)[k.toNat].1.toNat<2 ^ 64:=M5 OU OS;exact h2
theorem xL(w0:World){so fo lo:Option Addr}{sc fc E:Nat}{ns:List cJ}{fl:List cI}{l:List Int}(R:Sl w0 (c9 w0) so sc ns)(hf:Sl w0 (c9 w0) fo fc fl)(V:Sl w0 (c9 w0) lo E l)(C:(F_ (ns,fl)).2=0)(W:∀k∈l,k<(Gi (ns,fl)).length)(U:l.length≤60000):
  Rt Tryz.prog 22 [Ck so sc fo fc ns.length fl.length,.slice lo l.length E].toArray w0 fun v w'=>Own w' w0.heap.size 95 c7 v (xK (ns,fl) l)∧Ext w0 w':=by
 obtain⟨u,Y⟩:=Ga C;have T:=jU (Gb C);have B:=T.n;refine dH Tryz.func22 Tryz.ntmps22 rfl rfl ?_;have c:=Ext.refl w0;refine Pm ?_;refine dZ rfl rfl rfl fun P X e1=>?_
 have c:=c.trans e1;refine Pw ?_;refine WL.call rfl rfl rfl (c8 P (R.up c) (hf.up c)) ?_;rintro _ L ⟨x,rfl,e,Z⟩
 have c:=c.trans Z;rw[u]at e
 rw[C];obtain⟨xo,xc,rfl,G⟩:=e.oldN.sl;clear e;refine Qp ?_;refine CW.loop (S:=Nat×Value) (fun s=>[(5,.slice xo (Gi (ns,fl)).length xc),(7,s.2),(15,.slice lo l.length E),(16,Pj l.length),(17,Pj s.1)])
  (fun s w=>s.1≤l.length∧Own w L.heap.size 95 c7 s.2 (xK (ns,fl) (l.take s.1))∧Ext L w) (fun s=>l.length -s.1) (0,.slice none 0 0) OR ⟨Nc _,by simpa[xK]using Own.nil,Ext.refl _⟩ ?_
 rintro⟨i,ov⟩ w3 ⟨hi,f,d⟩
 dsimp only at hi f d⊢
 have z:=c.trans d;have K:=d.size;refine Qw ?_;apply CW.cond rfl<;>intro h
 ·have a:i<l.length:=by simp at h;omega
  have I:=W _ (Lb a);have b:xK (ns,fl) (l.take (i+1))=xK (ns,fl) (l.take i)++[xI (ns,fl) l[i]]:=by
   unfold xK;exact GY _ a
  have N:(xK (ns,fl) (l.take i)).length=i:=by unfold xK;rw[Lq,Lz];omega
  have A:=xJ C I;refine Qo ?_;refine eD rfl rfl rfl rfl rfl (V.up z) a rfl O3 (fun q=>?_);generalize l[i]=k at*
  refine Qw ?_;apply CW.cond rfl<;>intro h
  ·have h:k<0:=by simpa using h
   have o:xI (ns,fl) k=9223372036854775808:=by unfold xI;rw[Ov h]
   rw[o]at b
   refine PC ?_;refine dY (α:=Nat) (F:=c7) (yv:=9223372036854775808) rfl rfl O3 rfl rfl O3 f ⟨_,rfl,C3 _ _ _ OU⟩ K O6 OU OY OS (fun D O p ho4 m _=>?_);refine PI ?_;exact EX.back (i+1,D) OR ⟨a,by rw[b];exact ho4,d.grown m d.size (fun g J=>(f.lt g J).1)⟩ OX
  ·have h:¬k<0:=by simpa using h
   obtain⟨n,rfl⟩:∃n:Nat,k=(n:Int):=⟨k.toNat,by omega⟩;have j:n<(Gi (ns,fl)).length:=by omega
   have H:=Gk _ (Lb j);have M:(Gi (ns,fl))[n].1<ns.length:=H.2;have B:ns.length≤20:=B;have o:xI (ns,fl) (n:Int)=2 ^ (Gi (ns,fl))[n].1.toNat:=by
    unfold xI;rw[Ou h,u,Kd,ry j]
   obtain⟨t,Q⟩:∃t:Nat,(Gi (ns,fl))[n].1=(t:Int):=⟨((Gi (ns,fl))[n].1).toNat,by omega⟩;obtain⟨lb,lf,rfl,hlb,r⟩:=(G.up d).step0 j;rw[Q]at r o
   rw[Kd]at o
   rw[o]at b A
   refine PC ?_;refine eJ (α:=cN) rfl rfl rfl rfl OS OS ?_;refine QR ?_;refine WL.load (α:=Int) (F:=c7) (y:=(t:Int)) rfl rfl rfl (by rw[Kd];exact r) rfl ?_;rw[show Iu Int [Pj (t:Int)]=Pj (t:Int) from rfl];refine QO ?_;rw[Fm (show t<62 by omega)];refine dY (α:=Nat) (F:=c7) (yv:=2 ^ t) rfl rfl O3 rfl rfl O3 f ⟨_,rfl,C3 _ _ _ A⟩ K O6 OU OY OS (fun D O p ho4 m _=>?_);refine PI ?_;exact EX.back (i+1,D) OR ⟨a,by rw[b];exact ho4,d.grown m d.size (fun g J=>(f.lt g J).1)⟩ OX
 ·obtain rfl:i=l.length:=by simp at h;omega
  rw[Ml]at f
  refine PG ?_;exact be rfl rfl ⟨f.low c.size,z⟩
noncomputable def kE(p:cL)(s l:List Int)(i:Nat)(c:List Int)(k:Nat):Int:=(kF p s l k i:Int)+if(k:Int)∈c then 1 else 0
noncomputable def kH(p:cL)(s l:List Int)(i:Nat)(c:List Int):List Int:=(List.range (Gi p).length).map (kE p s l i c)
section
variable {p:cL}{s l:List Int}
theorem kG{k i:Nat}:kF p s l k i≤i:=by
 unfold kF;have:=Kr (p:=fun i=>decide ((k:Int)∈i6 p (yY p s l (s.length+i)))) (l:=List.range i);rwa[Lt]at this
theorem kJ{i:Nat}{c:List Int}:(kH p s l i c).length=(Gi p).length:=by unfold kH;simp
theorem kM:kH p s l 0 []=List.replicate (Gi p).length 0:=by
 unfold kH kE kF;simp;rw[LF,Lt]
theorem kK{i:Nat}:kH p s l i (i6 p (yY p s l (s.length+i)))=kH p s l (i+1) []:=by
 unfold kH;refine LD fun k _=>?_
 unfold kE kF;rw[Mb,Kp,List.countP_singleton];by_cases h:(k:Int)∈i6 p (yY p s l (s.length+i))<;>simp[h]
theorem kI{i:Nat}{c:List Int}{k:Nat}(h:k<(Gi p).length):(kH p s l i c)[k]'(by rw[kJ];exact h)=kE p s l i c k:=by
 unfold kH;simp
theorem yK{n:Nat}{f g:Nat→Int}{a:Nat}(h:∀k,k≠a→g k=f k):((List.range n).map f).set a (g a)=(List.range n).map g:=by
 refine KE OW fun k h1 h2=>?_
 rw[Le];split
 ·rename_i e;subst e;simp
 ·rename_i e;simp[h k (fun h=>e h.symm)]
theorem kL{i:Nat}{c:List Int}{a:Nat}(d:(a:Int)∉c):(kH p s l i c).set a (kE p s l i c a+1)=kH p s l i (c++[(a:Int)]):=by
 unfold kH;have e:kE p s l i c a+1=kE p s l i (c++[(a:Int)]) a:=by
  unfold kE;rw[Ou d,Ov OW];omega
 rw[e];refine yK fun k b=>?_
 unfold kE;have:((k:Int)∈c++[(a:Int)])↔(k:Int)∈c:=by
  rw[LK,L0];exact⟨fun h=>h.elim id (fun h=>absurd (Int.ofNat.inj h) b),.inl⟩
 simp only[this]
theorem i9{m:List Int}:(i6 p m).Pairwise (·<·):=by
 unfold i6;split
 ·unfold jc jd
  rw[L_];refine(List.pairwise_lt_range.filter _).imp fun h=>?_
  omega
 ·exact .nil
theorem i_{m:List Int}{j:Nat}(h:j<(i6 p m).length):(i6 p m)[j]∉(i6 p m).take j:=by
 intro a
 obtain⟨i,hi,e⟩:=LT.1 a;rw[Lz]at hi
 rw[Lg]at e
 have:=L9.1 (i9 (p:=p) (m:=m)) i j OS h OS;omega
theorem oN{k:Nat}(a:(F_ p).2=0)(b:k<(Gi p).length)(h:(decide (kE p s l l.length [] k=l.length)&&!l.contains (k:Int))=true):oL p s l=false:=by
 rw[JN];intro hf
 unfold oL at hf
 rw[Kf,(Ga a).1]at hf
 have:=hf k (by rw[LZ];exact b);unfold kE at h
 simp at h this
 exact this.elim (fun g=>g OS) h.2
end
set_option maxHeartbeats 1000000 in
theorem Do(w0:World){so fo ao bo mo:Option Addr}{sc fc ac bc mc:Nat}{hb:Bool}{ns:List cJ}{fl:List cI}{s l:List Int}(hs:Sl w0 (c9 w0) so sc ns)(hf:Sl w0 (c9 w0) fo fc fl)(hst:Sl w0 (c9 w0) ao ac s)(hlp:Sl w0 (c9 w0) bo bc l)
  (hm:Sl w0 (c9 w0) mo mc (qh (ns,fl) s l).1) (K:FrOk (ns,fl) s l):
  Rt Tryz.prog 20 [Ck so sc fo fc ns.length fl.length,Iw hb ao ac bo bc s l,.slice mo (qh (ns,fl) s l).1.length mc].toArray w0 fun v w'=>v=.bool (oL (ns,fl) s l)∧Ext w0 w':=by
 have hz:=K.z;obtain⟨hSL,h60⟩:=Ga hz;have hsz:=K.sz;have hxl:(qh (ns,fl) s l).1.length=s.length+l.length+1:=by rw[K.eq,Ll,EI,Lk]
 have hmk:∀i (h:i<(qh (ns,fl) s l).1.length),(qh (ns,fl) s l).1[i]=yY (ns,fl) s l i:=fun i h=>by unfold yY;rw[KR,KX h];rfl
 generalize hX:(qh (ns,fl) s l).1=X at*
 refine dI Tryz.func20 Tryz.ntmps20 rfl rfl ?_;have E:=Ext.refl w0;refine Pm ?_;refine dZ rfl rfl rfl fun w1 d e1=>?_
 have E:=E.trans e1;skip;refine dZ rfl rfl rfl fun w1' B e1'=>?_
 have d:=d.ext e1';have E:=E.trans e1';refine Pw ?_;refine WL.call rfl rfl rfl (c8 w1' (hs.up E) (hf.up E)) ?_;rintro _ J ⟨x,rfl,a,e2⟩
 have E:=E.trans e2;have d:=d.ext e2;have B:=B.ext e2;rw[hSL]at a
 rw[hz];obtain⟨xo,xc,rfl,hxs⟩:=a.oldN.sl;clear a hxs;refine Qp ?_;refine eY (α:=Int) rfl rfl rfl rfl OS OY (fun w3 ho3 hg3=>?_);have e3:Ext J w3:=(Ext.refl _).grown hg3 Pf O_;generalize Value.slice (some ⟨J.heap.size,0,none⟩) (Gi (ns,fl)).length (Gi (ns,fl)).length=cv at*
 rw[←kM (s:=s) (l:=l)]at ho3
 have hgb:∀g,cv.ownBlock=some g→J.heap.size≤g:=fun g hg=>(ho3.lt g hg).1
 obtain⟨Q,R,hcv⟩:=ho3.val;rw[kJ]at hcv
 subst hcv;have hb33:=d.ext e3;have hb43:=B.ext e3;refine QH ?_;refine CW.loop (S:=Nat) (fun i=>[(2,.slice mo X.length mc),(3,Pk w0.heap.size),(4,Pk w1.heap.size),(9,.slice Q (Gi (ns,fl)).length R),(27,Pj l.length),(28,Pj i)])
  (fun i w=>i≤l.length∧Own w J.heap.size 3 c7 (.slice Q (Gi (ns,fl)).length R) (kH (ns,fl) s l i [])∧Ext J w) (fun i=>l.length -i) 0 OR ⟨Nc _,ho3,e3⟩ ?_
 clear ho3 hg3 e3;rintro i o ⟨hi,ho,e4⟩
 have G:=E.trans e4;have hb34:=d.ext e4;have I:=B.ext e4;refine Qw ?_;apply CW.cond rfl<;>intro h
 ·have hi':i<l.length:=by simp at h;omega
  have V:s.length+i<X.length:=by omega
  refine PA ?_;have hSE:∀z,(fun z:World=>Ext o z) z→Ext o z:=fun _ h=>h
  refine aF (fun x=>Ext o x) [(0,true),(1,true),(2,true),(3,true),(4,true),(5,true),(6,true),(7,true),(8,true),(9,false),(10,true),(11,true),(12,true),(13,true),(14,true)] mixed OT (Ext.drew o) ?_;refine Q9 ?_;refine b_ (α:=List Int) (k:=s.length+i) hSE rfl rfl rfl rfl rfl rfl rfl O8 (hm.up G) V O3 (fun u p t=>?_);obtain⟨uo,uc,rfl,U⟩:=t.sl;rw[hmk _ V]at U⊢
  skip;refine cu rfl (WL.call rfl rfl rfl (bB (drew o) ((hs.up G).at (Ext.drew o)) ((hf.up G).at (Ext.drew o)) (U.at (Ext.drew o))) ?_);rintro _ T ⟨x,rfl,a,O⟩
  have D:Ext o T:=(Ext.drew o).trans O;refine WL.nil (a_ D ?_);have hce:(if jO (ns,fl) (yY (ns,fl) s l (s.length+i))=0 then jc (ns,fl) (yY (ns,fl) s l (s.length+i))else [])=i6 (ns,fl) (yY (ns,fl) s l (s.length+i)):=rfl;rw[hce]at a
  have hcl:=i7 (p:=(ns,fl)) (m:=yY (ns,fl) s l (s.length+i));have hnew:=@i_ (ns,fl) (yY (ns,fl) s l (s.length+i));have W:=@jf (ns,fl) (yY (ns,fl) s l (s.length+i));have L:=@kK (ns,fl) s l i;generalize i6 (ns,fl) (yY (ns,fl) s l (s.length+i))=c at*
  obtain⟨no,nc,rfl,hns⟩:=(a.slF (F':=fun b=>b<T.heap.size∧o.heap.size≤b) O6 (fun g hg=>⟨(a.lt g hg).2.1,(a.lt g hg).1⟩));refine Rf ?_;have e05:=e4.trans D;have ho5:=ho.extN D;have hb35:=hb34.ext D;have hb45:=I.ext D;refine Qp ?_;refine CW.loop (S:=Nat) (fun j=>[(2,.slice mo X.length mc),(3,Pk w0.heap.size),(4,Pk w1.heap.size),(9,.slice Q (Gi (ns,fl)).length R),(27,Pj l.length),(28,Pj i),(44,.slice no c.length nc),(45,Pj c.length),(46,Pj j)])
   (fun j w=>j≤c.length∧Own w J.heap.size 3 c7 (.slice Q (Gi (ns,fl)).length R) (kH (ns,fl) s l i (c.take j))∧T.grownBy w (Value.slice Q (Gi (ns,fl)).length R).ownBlock) (fun j=>c.length -j) 0 OR ⟨Nc _,by simpa using ho5,(Ext.refl _).grw _⟩ ?_
  rintro j w6 ⟨hj,ho6,M⟩
  have H:Ext J w6:=e05.grown M e05.size hgb;have hE6:=E.trans H;have hb36:=d.ext H;have hb46:=B.ext H;refine Qw ?_;apply CW.cond rfl<;>intro h
  ·have A:j<c.length:=by simp at h;omega
   have Z:=hns.mono (w':=w6) (fun b hb=>M.block b hb.1 (fun e=>by have:=(ho.lt b e.symm).2.1;omega)) O8;have hnw:=hnew A;obtain⟨g0,g1⟩:=W (Lb A);have htk:c.take (j+1)=c.take j++[c[j]]:=Mp A;refine Qo ?_;refine eD rfl rfl rfl rfl rfl Z A rfl O3 (fun q=>?_);generalize c[j]=k at*
   obtain⟨P,rfl⟩:∃n:Nat,k=(n:Int):=⟨k.toNat,by omega⟩;have hk0:P<(Gi (ns,fl)).length:=by omega
   have F:P<(kH (ns,fl) s l i (c.take j)).length:=by rw[kJ];exact hk0
   have Y:=kL (p:=(ns,fl)) (s:=s) (l:=l) (i:=i) hnw;have r:=kI (p:=(ns,fl)) (s:=s) (l:=l) (i:=i) (c:=c.take j) hk0;have hcb:0≤kE (ns,fl) s l i (c.take j) P∧kE (ns,fl) s l i (c.take j) P≤60001:=by
    have:=kG (p:=(ns,fl)) (s:=s) (l:=l) (k:=P) (i:=i);unfold kE;split<;>omega
   refine PP ?_;refine eG rfl rfl rfl rfl rfl ho6 F O3 (fun u q t=>?_);rw[r]at t
   have t:=t.int;subst t;refine QW ?_;refine fu (α:=Int) (yv:=kE (ns,fl) s l i (c.take j) P+1) rfl rfl rfl rfl ho6 F O3 O3 Pe (fun w7 q2 ho7 hg7=>?_);rw[Y,←htk]at ho7
   refine PI ?_;exact EX.back (j+1) OR ⟨A,ho7,r4 M hg7⟩ OS
  ·obtain rfl:j=c.length:=by simp at h;omega
   rw[Ml,L]at ho6
   refine PJ ?_;exact EX.back (i+1) OR ⟨hi',ho6,H⟩ OS
 ·obtain rfl:i=l.length:=by simp at h;omega
  have hfr:oL (ns,fl) s l=(List.range (Gi (ns,fl)).length).all fun k=>!(decide (kE (ns,fl) s l l.length [] k=l.length)&&!l.contains (k:Int)):=by
   unfold oL;rw[hSL]
   congr 1
   funext k
   have:decide (kE (ns,fl) s l l.length [] k=l.length)=decide (kF (ns,fl) s l k l.length=l.length):=by
    rw[JO,On,On];unfold kE;rw[Ou OW];omega
   rw[this]
  refine P5 ?_;refine CW.loop (S:=Nat) (fun k=>[(4,Pk w1.heap.size),(58,.slice Q (Gi (ns,fl)).length R),(59,Pj (Gi (ns,fl)).length),(60,Pj k)])
   (fun k w=>k≤(Gi (ns,fl)).length∧(∀j,j<k→(decide (kE (ns,fl) s l l.length [] j=l.length)&&!l.contains (j:Int))=false)∧Ext o w) (fun k=>(Gi (ns,fl)).length -k) 0 OR ⟨Nc _,fun j h=>absurd h OS,Ext.refl _⟩ ?_
  rintro k T ⟨hk,C,O⟩
  have N:=G.trans O;have hb45:=I.ext O;have ho5:=ho.extN O;refine Qw ?_;apply CW.cond rfl<;>intro h
  ·have y:k<(Gi (ns,fl)).length:=by simp at h;omega
   have F:k<(kH (ns,fl) s l l.length []).length:=by rw[kJ];exact y
   have r:=kI (p:=(ns,fl)) (s:=s) (l:=l) (i:=l.length) (c:=[]) y;have hcb:0≤kE (ns,fl) s l l.length [] k∧kE (ns,fl) s l l.length [] k≤60001:=by
    have:=kG (p:=(ns,fl)) (s:=s) (l:=l) (k:=k) (i:=l.length);unfold kE;split<;>omega
   have hfa:=oN (p:=(ns,fl)) (s:=s) (l:=l) hz y;refine Qv ?_;refine eG rfl rfl rfl rfl rfl ho5 F O3 (fun u q t=>?_);rw[r]at t
   have t:=t.int;subst t;refine QH ?_;by_cases hc:kE (ns,fl) s l l.length [] k=l.length
   ·rw[show(kE (ns,fl) s l l.length [] k==(l.length:Int))=true by simpa using hc]
    refine QV ?_;refine WL.call rfl rfl rfl (lh T (k:Int) (hlp.up N)) ?_;rintro _ w6 ⟨rfl,e6⟩
    by_cases f:l.contains (k:Int)=true
    ·rw[f]
     refine QD ?_;exact EX.back (k+1) OR ⟨y,fun j hj=>by
      by_cases e:j=k
      ·subst e;rw[f];simp
      ·exact C j OS,O.trans e6⟩ OS
    ·have f:l.contains (k:Int)=false:=by simpa using f
     rw[f];refine Qa ?_;exact be rfl rfl ⟨by rw[hfa (by rw[f,Ol hc];rfl)],N.trans e6⟩
   ·rw[show(kE (ns,fl) s l l.length [] k==(l.length:Int))=false by simpa using hc]
    refine QF ?_;exact EX.back (k+1) OR ⟨y,fun j hj=>by
     by_cases e:j=k
     ·subst e;rw[Oj hc];rfl
     ·exact C j OS,O⟩ OS
  ·obtain rfl:k=(Gi (ns,fl)).length:=by simp at h;omega
   refine PG ?_;exact be rfl rfl ⟨by
    rw[hfr,show((List.range (Gi (ns,fl)).length).all fun k=>!(decide (kE (ns,fl) s l l.length [] k=l.length)&&!l.contains (k:Int)))=true from Kf.2 fun j hj=>by rw[C j (by simpa using hj)];rfl],N⟩
set_option maxHeartbeats 2000000 in
theorem CJ(w0:World){F:Nat→Prop}{ao O:Option Addr}{cap rc:Nat}{k n:Int}{kids:List Ltl}{ks:List (List Bool)}{N i nx c:Nat}{later:Bool}(l:Sl w0 F O rc ks)(m:wU k=ks.length)(z:∀x∈ks,x.length=N)(hF:∀b,F b→b<w0.heap.size)
  (hi:i<N) (P:nx<N) (y:c<18446744073709551616) (D:0≤n):
  Rt Tryz.prog 50 [yj k n ao kids.length cap,.slice O ks.length rc,Pj (i:Int),.int .u64 (c:Int),.bool later,Pj (nx:Int)].toArray w0 fun v w'=>v=.bool (gy k n ks i c later nx)∧Ext w0 w':=by
 have get0:∀(h:0<ks.length),ks.getD 0 []=ks[0]∧(ks[0]).length=N:=fun h=>⟨by rw[KR,KX h];rfl,z _ (Lb h)⟩
 have get1:∀(h:1<ks.length),ks.getD 1 []=ks[1]∧(ks[1]).length=N:=fun h=>⟨by rw[KR,KX h];rfl,z _ (Lb h)⟩
 have getB:∀(x:List Bool) (j:Nat) (h:j<x.length),x.getD j false=x[j]:=fun x j h=>by rw[KR,KX h];rfl
 have getC:∀(a x:List Bool) (j:Nat) (h:j<x.length),a=x→a.getD j false=x[j]:=fun a x j h e=>by subst e;exact getB a j h
 refine Rt.enter (vs:=[_,_,_,_,_,_]) Tryz.func50 rfl rfl rfl ?_;show CW _ _ _ _ [(0,_),(1,_),(2,_),(3,_),(4,_),(5,_)] _;refine Pm ?_;refine dZ rfl rfl rfl fun R S r=>?_
 have l:=l.mono (fun b h=>r.block b (hF b h)) O8;refine QH ?_;apply CW.cond rfl<;>intro h
 ·have s:k=1:=by simpa using h
  subst s;rw[show gy 1 n ks i c later nx=true from by unfold gy;rw[Ov rfl]];refine Pl ?_;exact be rfl rfl ⟨rfl,r⟩
 have M:¬k=1:=by simpa using h
 clear h;refine Qw ?_;apply CW.cond rfl<;>intro h
 ·have s:k=3:=by simpa using h
  subst s;rw[show gy 3 n ks i c later nx=(((c >>> n.toNat&&&1:Nat):Int)==1) from by
   unfold gy;rw[Ou OU,Ov rfl,JO];simp only[Ob,Om];omega]
  refine Qj ?_;refine fw rfl rfl rfl rfl y D ?_;refine dX rfl rfl rfl rfl (MP (M7 _ _) y) ?_;refine P4 ?_;exact be rfl rfl ⟨rfl,r⟩
 have L:¬k=3:=by simpa using h
 clear h;refine Qw ?_;apply CW.cond rfl<;>intro h
 ·have s:k=4:=by simpa using h
  subst s;have g:0<ks.length:=by simp[wU]at m;omega
  have g0:=get0 g;have t:(ks.getD 0 []).getD i false=(ks[0])[i]'(by have:=g0.2;omega):=getC _ _ _ (by have:=g0.2;omega) g0.1;have f:gy 4 n ks i c later nx=(!(ks[0])[i]'(by have:=g0.2;omega)):=by
   unfold gy;rw[Ou OU,Ou OU,Ov rfl,t]
  rw[f];clear f;refine PB ?_;refine eE (α:=List Bool) (i:=0) rfl rfl rfl rfl rfl l g O3 (fun u q o=>?_);obtain⟨a1,c1,rfl,d⟩:=o.sl;refine QO ?_;refine eC (i:=i) rfl rfl rfl rfl rfl d (by have:=g0.2;omega) rfl O3 (fun q=>?_);refine P4 ?_;exact be rfl rfl ⟨rfl,r⟩
 have K:¬k=4:=by simpa using h
 clear h;refine Qw ?_;apply CW.cond rfl<;>intro h
 ·have s:k=5:=by simpa using h
  subst s;have g:0<ks.length:=by simp[wU]at m;omega
  have g0:=get0 g;have p:1<ks.length:=by simp[wU]at m;omega
  have g1:=get1 p;have t:(ks.getD 0 []).getD i false=(ks[0])[i]'(by have:=g0.2;omega):=getC _ _ _ (by have:=g0.2;omega) g0.1;have w:(ks.getD 1 []).getD i false=(ks[1])[i]'(by have:=g1.2;omega):=getC _ _ _ (by have:=g1.2;omega) g1.1;have f:gy 5 n ks i c later nx=((ks[0])[i]'(by have:=g0.2;omega)&&(ks[1])[i]'(by have:=g1.2;omega)):=by
   unfold gy;rw[Ou OU,Ou OU,Ou OU,Ov rfl,t,w]
  rw[f];clear f;refine PB ?_;refine eE (α:=List Bool) (i:=0) rfl rfl rfl rfl rfl l g O3 (fun u q o=>?_);obtain⟨a1,c1,rfl,d⟩:=o.sl;refine QO ?_;refine eC (i:=i) rfl rfl rfl rfl rfl d (by have:=g0.2;omega) rfl O3 (fun q=>?_);cases C:(ks[0])[i]'(by have:=g0.2;omega)
  ·refine PH ?_
   exact be rfl rfl ⟨rfl,r⟩
  ·refine QO ?_
   refine eE (α:=List Bool) (i:=1) rfl rfl rfl rfl rfl l p O3 (fun u q o=>?_);obtain⟨a1,c1,rfl,d⟩:=o.sl;refine QO ?_;refine eC (i:=i) rfl rfl rfl rfl rfl d (by have:=g1.2;omega) rfl O3 (fun q=>?_);refine P4 ?_;exact be rfl rfl ⟨rfl,r⟩
 have J:¬k=5:=by simpa using h
 clear h;refine Qw ?_;apply CW.cond rfl<;>intro h
 ·have s:k=6:=by simpa using h
  subst s;have g:0<ks.length:=by simp[wU]at m;omega
  have g0:=get0 g;have p:1<ks.length:=by simp[wU]at m;omega
  have g1:=get1 p;have t:(ks.getD 0 []).getD i false=(ks[0])[i]'(by have:=g0.2;omega):=getC _ _ _ (by have:=g0.2;omega) g0.1;have w:(ks.getD 1 []).getD i false=(ks[1])[i]'(by have:=g1.2;omega):=getC _ _ _ (by have:=g1.2;omega) g1.1;have f:gy 6 n ks i c later nx=((ks[0])[i]'(by have:=g0.2;omega)||(ks[1])[i]'(by have:=g1.2;omega)):=by
   unfold gy;rw[Ou OU,Ou OU,Ou OU,Ou OU,Ov rfl,t,w]
  rw[f];clear f;refine PB ?_;refine eE (α:=List Bool) (i:=0) rfl rfl rfl rfl rfl l g O3 (fun u q o=>?_);obtain⟨a1,c1,rfl,d⟩:=o.sl;refine QO ?_;refine eC (i:=i) rfl rfl rfl rfl rfl d (by have:=g0.2;omega) rfl O3 (fun q=>?_);cases C:(ks[0])[i]'(by have:=g0.2;omega)
  ·refine QO ?_
   refine eE (α:=List Bool) (i:=1) rfl rfl rfl rfl rfl l p O3 (fun u q o=>?_);obtain⟨a1,c1,rfl,d⟩:=o.sl;refine QO ?_;refine eC (i:=i) rfl rfl rfl rfl rfl d (by have:=g1.2;omega) rfl O3 (fun q=>?_);refine P4 ?_;exact be rfl rfl ⟨rfl,r⟩
  ·refine PH ?_
   exact be rfl rfl ⟨rfl,r⟩
 have I:¬k=6:=by simpa using h
 clear h;refine Qw ?_;apply CW.cond rfl<;>intro h
 ·have s:k=7:=by simpa using h
  subst s;have g:0<ks.length:=by simp[wU]at m;omega
  have g0:=get0 g;have t:(ks.getD 0 []).getD nx false=(ks[0])[nx]'(by have:=g0.2;omega):=getC _ _ _ (by have:=g0.2;omega) g0.1;have f:gy 7 n ks i c later nx=((ks[0])[nx]'(by have:=g0.2;omega)):=by
   unfold gy;rw[Ou OU,Ou OU,Ou OU,Ou OU,Ou OU,Ov rfl,t]
  rw[f];clear f;refine PB ?_;refine eE (α:=List Bool) (i:=0) rfl rfl rfl rfl rfl l g O3 (fun u q o=>?_);obtain⟨a1,c1,rfl,d⟩:=o.sl;refine QO ?_;refine eC (i:=nx) rfl rfl rfl rfl rfl d (by have:=g0.2;omega) rfl O3 (fun q=>?_);refine P4 ?_;exact be rfl rfl ⟨rfl,r⟩
 have H:¬k=7:=by simpa using h
 clear h;refine Qw ?_;apply CW.cond rfl<;>intro h
 ·have s:k=10:=by simpa using h
  subst s;have g:0<ks.length:=by simp[wU]at m;omega
  have g0:=get0 g;have t:(ks.getD 0 []).getD i false=(ks[0])[i]'(by have:=g0.2;omega):=getC _ _ _ (by have:=g0.2;omega) g0.1;have f:gy 10 n ks i c later nx=((ks[0])[i]'(by have:=g0.2;omega)||later):=by
   unfold gy;rw[Ou OU,Ou OU,Ou OU,Ou OU,Ou OU,Ou OU,Ov rfl,t]
  rw[f];clear f;refine PB ?_;refine eE (α:=List Bool) (i:=0) rfl rfl rfl rfl rfl l g O3 (fun u q o=>?_);obtain⟨a1,c1,rfl,d⟩:=o.sl;refine QO ?_;refine eC (i:=i) rfl rfl rfl rfl rfl d (by have:=g0.2;omega) rfl O3 (fun q=>?_);cases C:(ks[0])[i]'(by have:=g0.2;omega)
  ·refine P4 ?_
   exact be rfl rfl ⟨rfl,r⟩
  ·refine PH ?_
   exact be rfl rfl ⟨rfl,r⟩
 have B:¬k=10:=by simpa using h
 clear h;refine Qw ?_;apply CW.cond rfl<;>intro h
 ·have s:k=11:=by simpa using h
  subst s;have g:0<ks.length:=by simp[wU]at m;omega
  have g0:=get0 g;have t:(ks.getD 0 []).getD i false=(ks[0])[i]'(by have:=g0.2;omega):=getC _ _ _ (by have:=g0.2;omega) g0.1;have f:gy 11 n ks i c later nx=((ks[0])[i]'(by have:=g0.2;omega)&&later):=by
   unfold gy;rw[Ou OU,Ou OU,Ou OU,Ou OU,Ou OU,Ou OU,Ou OU,Ov rfl,t]
  rw[f];clear f;refine PB ?_;refine eE (α:=List Bool) (i:=0) rfl rfl rfl rfl rfl l g O3 (fun u q o=>?_);obtain⟨a1,c1,rfl,d⟩:=o.sl;refine QO ?_;refine eC (i:=i) rfl rfl rfl rfl rfl d (by have:=g0.2;omega) rfl O3 (fun q=>?_);cases C:(ks[0])[i]'(by have:=g0.2;omega)
  ·refine PH ?_
   exact be rfl rfl ⟨rfl,r⟩
  ·refine P4 ?_
   exact be rfl rfl ⟨rfl,r⟩
 have A:¬k=11:=by simpa using h
 clear h;refine Qw ?_;apply CW.cond rfl<;>intro h
 ·have s:k=8:=by simpa using h
  subst s;have g:0<ks.length:=by simp[wU]at m;omega
  have g0:=get0 g;have p:1<ks.length:=by simp[wU]at m;omega
  have g1:=get1 p;have t:(ks.getD 1 []).getD i false=(ks[1])[i]'(by have:=g1.2;omega):=getC _ _ _ (by have:=g1.2;omega) g1.1;have w:(ks.getD 0 []).getD i false=(ks[0])[i]'(by have:=g0.2;omega):=getC _ _ _ (by have:=g0.2;omega) g0.1;have f:gy 8 n ks i c later nx=((ks[1])[i]'(by have:=g1.2;omega)||((ks[0])[i]'(by have:=g0.2;omega)&&later)):=by
   unfold gy;rw[Ou OU,Ou OU,Ou OU,Ou OU,Ou OU,Ou OU,Ou OU,Ou OU,Ov rfl,t,w]
  rw[f];clear f;refine PB ?_;refine eE (α:=List Bool) (i:=1) rfl rfl rfl rfl rfl l p O3 (fun u q o=>?_);obtain⟨a1,c1,rfl,d⟩:=o.sl;refine QO ?_;refine eC (i:=i) rfl rfl rfl rfl rfl d (by have:=g1.2;omega) rfl O3 (fun q=>?_);cases C:(ks[1])[i]'(by have:=g1.2;omega)
  ·refine QO ?_
   refine eE (α:=List Bool) (i:=0) rfl rfl rfl rfl rfl l g O3 (fun u q o=>?_);obtain⟨a1,c1,rfl,d⟩:=o.sl;refine QO ?_;refine eC (i:=i) rfl rfl rfl rfl rfl d (by have:=g0.2;omega) rfl O3 (fun q=>?_);cases Q:(ks[0])[i]'(by have:=g0.2;omega)
   ·refine PH ?_
    exact be rfl rfl ⟨rfl,r⟩
   ·refine P4 ?_
    exact be rfl rfl ⟨rfl,r⟩
  ·refine PH ?_
   exact be rfl rfl ⟨rfl,r⟩
 have G:¬k=8:=by simpa using h
 clear h;refine Qw ?_;apply CW.cond rfl<;>intro h
 ·have s:k=9:=by simpa using h
  subst s;have g:0<ks.length:=by simp[wU]at m;omega
  have g0:=get0 g;have p:1<ks.length:=by simp[wU]at m;omega
  have g1:=get1 p;have t:(ks.getD 1 []).getD i false=(ks[1])[i]'(by have:=g1.2;omega):=getC _ _ _ (by have:=g1.2;omega) g1.1;have w:(ks.getD 0 []).getD i false=(ks[0])[i]'(by have:=g0.2;omega):=getC _ _ _ (by have:=g0.2;omega) g0.1;have f:gy 9 n ks i c later nx=((ks[1])[i]'(by have:=g1.2;omega)&&((ks[0])[i]'(by have:=g0.2;omega)||later)):=by
   unfold gy;rw[Ou OU,Ou OU,Ou OU,Ou OU,Ou OU,Ou OU,Ou OU,Ou OU,Ou OU,Ov rfl,t,w]
  rw[f];clear f;refine PB ?_;refine eE (α:=List Bool) (i:=1) rfl rfl rfl rfl rfl l p O3 (fun u q o=>?_);obtain⟨a1,c1,rfl,d⟩:=o.sl;refine QO ?_;refine eC (i:=i) rfl rfl rfl rfl rfl d (by have:=g1.2;omega) rfl O3 (fun q=>?_);cases C:(ks[1])[i]'(by have:=g1.2;omega)
  ·refine PH ?_
   exact be rfl rfl ⟨rfl,r⟩
  ·refine QO ?_
   refine eE (α:=List Bool) (i:=0) rfl rfl rfl rfl rfl l g O3 (fun u q o=>?_);obtain⟨a1,c1,rfl,d⟩:=o.sl;refine QO ?_;refine eC (i:=i) rfl rfl rfl rfl rfl d (by have:=g0.2;omega) rfl O3 (fun q=>?_);cases Q:(ks[0])[i]'(by have:=g0.2;omega)
   ·refine P4 ?_
    exact be rfl rfl ⟨rfl,r⟩
   ·refine PH ?_
    exact be rfl rfl ⟨rfl,r⟩
 have E:¬k=9:=by simpa using h
 clear h;refine Qd ?_;rw[show gy k n ks i c later nx=false from by
  unfold gy;rw[Ou M,Ou L,Ou K,Ou J,Ou I,Ou H,Ou B,Ou A,Ou G,Ou E]]
 exact be rfl rfl ⟨rfl,r⟩
theorem DK(w:World)(a b:Nat){so:Option Addr}{sc N:Nat}{s l:List Nat}(c:N=s.length+l.length)(e:N≤120000)(d:Blk w a 3 [Pj (N:Int)])(h4:Blk w b 52 [.slice so s.length sc]){i:Nat}(hi:i<N):
  Rt Tryz.prog 49 [Pj (i:Int),Pk a,Pk b].toArray w fun v w'=>v=Pj (zx s l i:Int)∧Ext w w':=by
 refine dI Tryz.func49 Tryz.ntmps49 rfl rfl ?_;refine PQ ?_;unfold zx;apply CW.cond rfl<;>intro h
 ·have h:i+1=s.length+l.length:=by simp at h;omega
  rw[Ov h];refine Qs ?_;exact be rfl rfl ⟨rfl,Ext.refl _⟩
 ·have h:¬i+1=s.length+l.length:=by simp at h;omega
  rw[Ou h];refine QC ?_;exact be rfl rfl ⟨rfl,Ext.refl _⟩
def DF(s l:List Nat)(k n:Int)(ks:List (List Bool)):Nat→List Bool→List Bool
 |0,o=>o
 |m+1,o=>DF s l k n ks m (DA s l k n ks (s.length+l.length) o)
theorem Du{s l:List Nat}{i:Nat}(h:i<(s++l).length):(s++l)[i]=xu s l i:=by
 unfold xu;rw[Lk]at h
 split
 ·rename_i h1
  rw[K6 h1,KR,KX h1];rfl
 ·rename_i h1
  rw[K7 OS,MT OS,KR,KX OS];rfl
set_option maxHeartbeats 4000000 in
theorem Dq:∀(m:Nat) (t:Ltl),t.nodes≤m→IK t→∀(w:World) (F:Nat→Prop) (ao:Option Addr) (cap:Nat) (so lo:Option Addr) (sc lc:Nat) (s l:List Nat),Sl w F ao cap t.kids→Sl w F so sc s→Sl w F lo lc l→(∀b,F b→b<w.heap.size)→s.length≤60000→l.length≤60000→0<l.length→
  Rt Tryz.prog 21 [yj t.k t.n ao t.kids.length cap,.slice so s.length sc,.slice lo l.length lc].toArray w fun v w'=>Own w' w.heap.size 4 c7 v (se s l t)∧Ext w w'
 |0,t,hm=>by have:=t.nodes_pos;omega
 |m+1,.mk k n kids,hm=>by
  intro hwf w F ao cap so lo sc lc s l hkids hs hl hF hs6 hl6 h0
  simp only[Ltl.kids,Ltl.k,Ltl.n]at*
  simp only[IK]at hwf
  obtain⟨hkk,hn0,hn63,hn3,hwk⟩:=hwf;have hlen:=hkids.len63;refine dI Tryz.func21 Tryz.ntmps21 rfl rfl ?_;refine Pm ?_;refine dZ rfl rfl rfl fun Y hf hE1=>?_
  refine dZ rfl rfl rfl fun w2 hw J=>?_
  have hf:=hf.ext J;have J:=hE1.trans J;have hwl:=hw.lt;refine QE ?_;refine WL.call rfl rfl rfl (kB w2 (F:=F) (hs.mono (fun b a=>J.block b (hF b a)) fun _ h=>h) (fun b a=>MQ (hF b a) J.size) OS) ?_;rintro cv w3 ⟨hoc,A⟩
  have hE3:=J.trans A;refine QO ?_;refine WL.app (F:=c7) rfl rfl rfl rfl hoc (hl.mono (fun b a=>hE3.block b (hF b a)) fun _ h=>h).srcN A.size O6 OY OS (fun wv C how hg4 _=>?_);have hE24:Ext w2 C:=A.grown hg4 A.size (fun b a=>(hoc.lt b a).1);obtain⟨wo,wc,rfl,hws⟩:=(how.slF (F':=fun b=>b<C.heap.size∧w2.heap.size≤b) O6 (fun g P=>⟨(how.lt g P).2.1,(how.lt g P).1⟩));clear hoc how hg4 hE3 A;refine Qp ?_;rw[show(((s++l).length:Nat):Int)=((s.length+l.length:Nat):Int) by rw[Lk]];generalize H:s.length+l.length=N at*
  have hsl:(s++l).length=N:=by rw[Lk];exact H
  refine WL.alloc rfl rfl (fun w5 hb8 hE5=>?_);refine WL.st rfl rfl rfl hb8 rfl rfl Pd (fun w6 hb8 hgr6=>?_);have U:Ext C w6:=hE5.grown hgr6 hE5.size O5;have hE26:=hE24.trans U;have hE6:=J.trans hE26;have hf:=hf.ext hE26;have hw:=hw.ext hE26;have hws:=hws.mono (F':=fun b=>b<C.heap.size∧w2.heap.size≤b) (fun b a=>U.block b a.1) O8;have z46:=U.size;have z24:=hE24.size;clear hE5 hgr6 U hE24;refine Qq ?_;refine CW.loop (S:=Nat×Value) (fun x=>[(2,.slice lo l.length lc),(3,Pk w.heap.size),(4,Pk Y.heap.size),(7,.slice wo (s++l).length wc),(8,Pk C.heap.size),(9,.func (.func 49) #[] #[Pk C.heap.size,Pk Y.heap.size]),(10,x.2),(25,.slice ao kids.length cap),(26,Pj (kids.length:Int)),(27,Pj (x.1:Int))])
   (fun x w'=>Ext w6 w'∧x.1≤kids.length∧∃G,Own w' w6.heap.size 61 G x.2 (sh s l (kids.take x.1))∧(∀b,G b→b<w'.heap.size)∧∀b,G b→w6.heap.size≤b) (fun x=>kids.length -x.1) (0,.slice none 0 0) OR ⟨Ext.refl _,by omega,c7,Own.nil,fun _ h=>h.elim,fun _ h=>h.elim⟩ ?_
  rintro⟨i,v7⟩ K ⟨e,hi,G,ho7,hG,hGl⟩
  simp only at ho7 hi
  have T:=hE6.trans e;have hk7:=hkids.mono (fun b a=>T.block b (hF b a)) fun _ h=>h
  have hF7:∀b,F b→b<K.heap.size:=fun b a=>MQ (hF b a) T.size
  have hkl:kids.length≤2:=by have:=wW k;omega
  have hw7:=hw.ext e;have hf7:=hf.ext e;have hb87:=hb8.ext e;refine Qw ?_;refine CW.cond rfl (fun h=>?_) (fun h=>?_)<;>simp at h
  ·refine Qo ?_
   refine eE rfl rfl rfl rfl rfl hk7 h O3 (fun u q hu=>?_);have hnode:(kids[i]).nodes≤m:=by
    have:=Ltl.nodes_kid kids _ (Lb h);simp only[Ltl.nodes]at hm;omega
   have hwx:=IM kids i h hwk;have htk:=sk s l kids i h;generalize kids[i]=x at*
   obtain⟨ao',cap',rfl,hx⟩:=hu.ltl;refine WL.alloc rfl rfl (fun w8 hb12 hE8=>?_);refine WL.st rfl rfl rfl hb12 rfl rfl Pd (fun B hb12 hgr9=>?_);have f:Ext K B:=hE8.grown hgr9 hE8.size O5;have d:=e.trans f;have c:=T.trans f;have hw9:=hw7.ext f;have ho9:=ho7.ext f hG;refine Qm ?_;refine WL.call rfl rfl rfl (Dq m x hnode hwx B F ao' cap' so lo sc lc s l (hx.mono (fun b a=>f.block b (hF7 b a)) fun _ h=>h) (hs.mono (fun b a=>c.block b (hF b a)) fun _ h=>h) (hl.mono (fun b a=>c.block b (hF b a)) fun _ h=>h) (fun b a=>MQ (hF b a) c.size) hs6 hl6 h0) ?_;rintro u V ⟨hou,I⟩
   have hE10:=d.trans I;have hG9:∀b,G b→b<B.heap.size:=fun b a=>MQ (hG b a) f.size
   have M:=ho9.ext I hG9;have ho11:Own V w6.heap.size 61 (fun b=>G b∨u.ownBlock=some b) v7 (sh s l (kids.take i)):=by
    refine M.wk (fun b a=>.inl a) (fun g P h=>?_);rcases h with h|h
    ·exact(M.lt g P).2.2 h
    ·have h1:=(ho9.lt g P).2.1
     have h2:=(hou.lt g h).1;omega
   have hru:Rd V (fun b=>G b∨u.ownBlock=some b) u (se s l x):=hou.rd.mono Pc (fun b a=>a.elim (fun h=>h.elim) .inr);have hGG:∀b,(G b∨u.ownBlock=some b)→b<V.heap.size:=by
    rintro b (a|a)
    ·exact MQ (hG9 b a) I.size
    ·exact(hou.lt b a).2.1
   skip;refine dY (α:=List Bool) (yv:=se s l x) rfl rfl O3 rfl rfl O3 ho11 hru hE10.size hGG (by show 1≤16777216;decide) (by rw[si,Lz];unfold maxLen;omega) (by rw[si,Lz];omega) (fun v' w11 p L hgr11 _=>?_);have hE11:Ext w6 w11:=hE10.grown hgr11 hE10.size (fun g P=>(ho11.lt g P).1);refine PI ?_;refine EX.back (i+1,v') OR ⟨hE11,by simp only;omega,_,by rw[←htk]at L;exact L,fun b a=>MQ (hGG b a) hgr11.size,fun b a=>a.elim (hGl b) (fun h=>MN d.size (hou.lt b h).1)⟩ (by simp only;omega)
  ·have hik:i=kids.length:=by omega
   subst hik;rw[Ml]at ho7
   have hksl:=si s l kids;have E:=sj (s:=s) (l:=l) kids hwk;have hrep:=Dc (s:=s) (l:=l) (k:=k) (n:=n) (ks:=sh s l kids) h0 (by rw[hkk,hksl]) E;simp only[se];rw[←hrep];rw[H]at E
   rw[←hksl]at hkk
   have hlt7:=fun g P=>(ho7.lt g P)
   generalize sh s l kids=ks at*
   obtain⟨ko,kc,rfl,hks⟩:=ho7.slF (F':=fun b=>w6.heap.size≤b∧b<K.heap.size) (fun b a=>⟨hGl b a,hG b a⟩) (fun g P=>⟨(hlt7 g P).1,(hlt7 g P).2.1⟩);clear ho7 hlt7;refine QG ?_;refine eY (α:=Bool) (x0:=false) (bytes:=1) rfl rfl rfl rfl OS OY (fun w8 hout hgr=>?_);have o:Ext K w8:=(Ext.refl K).grown hgr Pf O_;have hf8:=hf7.ext o;have hw8:=hw7.ext o;have hb88:=hb87.ext o;have hE68:=e.trans o;have z67:=e.size;generalize hov:Value.slice (some ⟨K.heap.size,0,none⟩) N N=ov at*
   have hovb:∀g,ov.ownBlock=some g→K.heap.size≤g:=fun g P=>(hout.lt g P).1
   clear hgr hf7 hw7 hb87 T hF7 hk7;refine QO ?_;apply WL.nil;apply bx;refine az [(2,.slice lo l.length lc),(3,Pk w.heap.size),(4,Pk Y.heap.size),(7,.slice wo (s++l).length wc),(8,Pk C.heap.size),(9,.func (.func 49) #[] #[Pk C.heap.size,Pk Y.heap.size]),(10,.slice ko ks.length kc),(13,ov),(14,.bool (rM k))] ?_ ?_
   ·refine Qj ?_
    by_cases h9:k=9
    ·subst h9
     refine Pp ?_;exact aS OR
    ·have h9':(k==9)=false:=by simpa using h9
     rw[h9',show rM k=(k==11) by unfold rM;rw[h9'];rfl];refine P_ ?_;exact aS OR
   refine Qu ?_;rw[Lu];refine CW.loop (S:=Nat×List Bool) (fun x=>[(2,.slice lo l.length lc),(3,Pk w.heap.size),(4,Pk Y.heap.size),(7,.slice wo (s++l).length wc),(8,Pk C.heap.size),(9,.func (.func 49) #[] #[Pk C.heap.size,Pk Y.heap.size]),(10,.slice ko ks.length kc),(13,ov),(14,.bool (rM k)),(50,Pj (N:Int)),(51,Pj (x.1:Int))])
    (fun x w'=>x.1≤N∧x.2.length=N∧(∀j (h:j<x.2.length),j<x.1→x.2[j]=rM k)∧Own w' K.heap.size 4 c7 ov x.2∧Ext K w') (fun x=>N -x.1) (0,List.replicate N false) OR ⟨Nc _,by simp,fun j _ h=>absurd h OS,hout,o⟩ ?_
   clear hout o hf8 hw8 hb88 hE68;rintro⟨i,xs⟩ B ⟨hi,Z,hxs,O,c⟩
   dsimp only at hi Z hxs O⊢
   have d:=e.trans c;refine Qw ?_;refine CW.cond rfl (fun h=>?_) (fun h=>?_)<;>simp at h
   ·refine PA ?_
    refine fu (α:=Bool) (i:=i) (yv:=rM k) rfl rfl rfl rfl O OS O3 O3 (Rd.mkBool _ _ _) (fun V p M hg10=>?_);refine PI ?_;refine EX.back (i+1,xs.set i (rM k)) OR ⟨by dsimp only;omega,by simpa using Z,fun j hj hji=>?_,M,c.grown hg10 c.size hovb⟩ OX;dsimp only at hj hji⊢
    rw[Le];split
    ·rfl
    ·exact hxs j (by simpa using hj) OS
   obtain rfl:i=N:=by omega
   obtain rfl:xs=List.replicate i (rM k):=by
    refine KE (by simpa using Z) fun j h1 h2=>?_
    rw[hxs j h1 OS,Ld]
   have hR:DF s l k n ks 2 (List.replicate i (rM k))=Db s l k n ks:=by
    unfold DF DF DF Db;rw[H]
   generalize Db s l k n ks=R at*
   generalize List.replicate i (rM k)=o0 at*
   clear hxs hrep;refine P5 ?_;refine CW.loop (S:=Nat×List Bool) (fun x=>[(2,.slice lo l.length lc),(3,Pk w.heap.size),(4,Pk Y.heap.size),(7,.slice wo (s++l).length wc),(8,Pk C.heap.size),(9,.func (.func 49) #[] #[Pk C.heap.size,Pk Y.heap.size]),(10,.slice ko ks.length kc),(13,ov),(59,Pj (x.1:Int))])
    (fun x w'=>x.1≤2∧x.2.length=i∧DF s l k n ks (2 -x.1) x.2=R∧Own w' K.heap.size 4 c7 ov x.2∧Ext K w') (fun x=>2 -x.1) (0,o0) OR ⟨Nc _,Z,hR,O,c⟩ ?_
   clear O c d Z hR;rintro⟨j,o1⟩ B ⟨hj,D,hR,O,c⟩
   dsimp only at hj D hR O⊢
   have d:=e.trans c;have Q:=hb8.ext d;refine Qw ?_;refine CW.cond rfl (fun h=>?_) (fun h=>?_)<;>simp at h
   ·refine PO ?_
    rw[show 2 -j=(2 -(j+1))+1 by omega,DF,H]at hR
    generalize r:DA s l k n ks i o1=o2 at*
    refine CW.loop (S:=Nat×List Bool) (fun x=>[(2,.slice lo l.length lc),(3,Pk w.heap.size),(4,Pk Y.heap.size),(7,.slice wo (s++l).length wc),(8,Pk C.heap.size),(9,.func (.func 49) #[] #[Pk C.heap.size,Pk Y.heap.size]),(10,.slice ko ks.length kc),(13,ov),(59,Pj (j:Int)),(16,Pj ((x.1:Int) -1))])
     (fun x w'=>x.1≤i∧x.2.length=i∧DA s l k n ks x.1 x.2=o2∧Own w' K.heap.size 4 c7 ov x.2∧Ext K w') (fun x=>x.1) (i,o1) OR ⟨MM _,D,r,O,c⟩ ?_
    clear O c d Q r D;rintro⟨x,o3⟩ B ⟨hx,D,r,O,c⟩
    dsimp only at hx D r O⊢
    have d:=e.trans c;have Q:=hb8.ext d;have hw9:=hw.ext d;have hf9:=hf.ext d;have z79:=c.size;have hws9:=(hws.mono (F':=c9 B) (fun b a=>d.block b OS) (fun b a=>(show b<B.heap.size by omega)));have hks9:=(hks.mono (F':=c9 B) (fun b a=>c.block b a.2) (fun b a=>(show b<B.heap.size by omega)));refine Qw ?_;refine CW.cond rfl (fun h=>?_) (fun h=>?_)<;>simp at h
    ·obtain⟨y,rfl⟩:∃y,x=y+1:=⟨x -1,by omega⟩
     have hy:y<i:=by omega
     have hny:=zy (s:=s) h0 (show y<s.length+l.length by omega);rw[H]at hny
     rw[show(((y+1:Nat):Int) -1)=(y:Int) by omega];rw[DA]at r
     have hlat:=Du (s:=s) (l:=l) (i:=y) OS;obtain⟨po,pc,hpv,hos⟩:=O.oldN.sl;have hnx:zx s l y<o3.length:=by omega
     have hgo:o3.getD (zx s l y) false=o3[zx s l y]:=by rw[KR,KX hnx];rfl
     have hSE:∀z,(fun z:World=>Ext B z) z→Ext B z:=fun _ h=>h
     refine Qo ?_;refine aE (fun z:World=>Ext B z) [(0,true),(1,true),(2,true),(3,true),(4,true),(5,true),(6,true),(7,true),(8,true),(9,true),(10,true),(11,true),(15,true),(16,true),(12,false),(13,true),(14,true),(17,false),(18,false),(19,true)] 20 mixed OT (Ext.drew B) ?_;refine Rb ?_;refine b_ (α:=Nat) (k:=y) hSE rfl rfl rfl rfl rfl rfl rfl O8 hws9 OS O3 (fun u q hu=>?_);obtain⟨rfl,hlt⟩:=hu.u64;rw[hlat]at hlt⊢
     refine Q3 ?_;have hd:=Ext.drew B;refine cu rfl (d9 (fv:=[]) rfl rfl rfl rfl (DK (drew B) C.heap.size Y.heap.size (s:=s) (l:=l) H.symm OS (Q.ext hd) (hw9.ext hd) hy) ?_);rintro _ V ⟨rfl,X⟩
     have X:=hd.trans X;refine WL.nil (a_ X ?_);skip;rw[hpv];refine b_ (α:=Bool) (k:=zx s l y) hSE rfl rfl rfl rfl rfl rfl rfl O8 hos hnx O3 (fun u q hu=>?_);obtain rfl:=hu.bool;rw[←hpv];skip;refine cu rfl (d9 (fv:=[]) rfl rfl rfl rfl (DK V C.heap.size Y.heap.size (s:=s) (l:=l) H.symm OS (Q.ext X) (hw9.ext X) hy) ?_);rintro _ w11 ⟨rfl,e11⟩
     have e11:=X.trans e11;refine WL.nil (a_ e11 ?_);skip;refine cu rfl (WL.call rfl rfl rfl (CJ w11 (F:=c9 w11) (N:=i) (hks9.up e11) hkk E O8 hy hny hlt hn0) ?_);rintro _ w12 ⟨rfl,W⟩
     have W:=e11.trans W;refine WL.nil (a_ W ?_);skip;have L:=O.extN W;refine cA (α:=Bool) (k:=y) (yv:=gy k n ks y (xu s l y) o3[zx s l y] (zx s l y)) rfl rfl rfl rfl rfl rfl L OS O3 O3 (Rd.mkBool _ _ _) (fun w13 q ho13 hg13=>?_);have e13:Ext K w13:=(c.trans W).grown hg13 (c.trans W).size hovb;have hat:gC s l k n ks y o3=gy k n ks y (xu s l y) o3[zx s l y] (zx s l y):=by unfold gC;rw[hgo]
     rw[←hat]at ho13
     refine QA ?_;exact EX.back (y,o3.set y (gC s l k n ks y o3)) OR ⟨by dsimp only;omega,by simpa using D,r,ho13,e13⟩ OX
    ·obtain rfl:x=0:=by omega
     rw[DA]at r
     subst r;refine PJ ?_;exact EX.back (j+1,o3) OR ⟨by dsimp only;omega,D,hR,O,c⟩ OX
   ·obtain rfl:j=2:=by omega
    rw[show 2 -2=0 from rfl,DF]at hR
    subst hR;refine PG ?_;exact be rfl rfl ⟨O.low (by have:=hE6.size;omega),(hE6.trans e).trans c⟩
end Go.Proofs.YtodmkmobdmcfbaaGreat
