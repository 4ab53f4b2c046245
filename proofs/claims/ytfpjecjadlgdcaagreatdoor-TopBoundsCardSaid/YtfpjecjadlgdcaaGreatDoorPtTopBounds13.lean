import Derived.Test.YtfpjecjadlgdcaaGreatDoorPtTopBounds12
set_option linter.unusedVariables false
set_option linter.unusedSimpArgs false
set_option linter.defProp false
namespace Go.Proofs.YtfpjecjadlgdcaaGreatDoor
open Go.RowKit
theorem nu(x:cH)(w:World):(Op.equalIn 10000 27 (BJ x) (BJ BK)).run Tryz.prog w=.ok (x==BK) w:=by
 have m:=NU;have a3:=NA;have l:=NE;have hS:Tryz.prog.underlying 27=some (.struct (Tryz.prog.fieldsOf 27)):=by kernel_rfl
 have j:Tryz.prog.stoodInHeld 27=false:=by kernel_rfl
 obtain⟨a,b,c,d,e,f,g⟩:=x;simp only[BJ,BK];rw[show(10000:Nat)=9999+1 from rfl,run_equalIn_agg w 9999 27 _ _ hS j];simp only[Program.fieldsOf,NR]
 go_simp
 by_cases h1:a=0
 ·by_cases h2:b=0
  ·by_cases h3:c=0
   ·by_cases h4:d=0
    ·by_cases h:e=0
     ·by_cases i:f=0
      ·by_cases k:g=0<;>simp[h1,h2,h3,h4,h,i,k]
      ·simp[h1,h2,h3,h4,h,i]
     ·simp[h1,h2,h3,h4,h]
    ·simp[h1,h2,h3,h4]
   ·simp[h1,h2,h3]
  ·simp[h1,h2]
 ·simp[h1]
theorem D9(x:cH)(p q:Operand)(w:World):((do eqGuard .neq 27 p q (BJ x) (BJ BK);binOp .neq 27 (BJ x) (BJ BK):Sem Value)).run Tryz.prog w=.ok (.bool (x != BK)) w:=by
 have a:Tryz.prog.eqGuardType Tryz.prog.depth 27=false:=by kernel_rfl
 rw[Nv];have b:(eqGuard .neq 27 p q (BJ x) (BJ BK)).run Tryz.prog w=.ok () w:=run_eqGuard_agg w .neq 27 p q _ _ a;have h:=nu x w;rw[b,Nu];unfold BJ at h⊢
 rw[run_neq_struct,h];rfl
theorem nw(x:cM)(w:World):(Op.equalIn 10000 29 (Ha x) (Ha Hb)).run Tryz.prog w=.ok (x==Hb) w:=by
 have h:=NU;have a3:=NA;have f:=NE;have hS:Tryz.prog.underlying 29=some (.struct (Tryz.prog.fieldsOf 29)):=by kernel_rfl
 have e:Tryz.prog.stoodInHeld 29=false:=by kernel_rfl
 obtain⟨a,b,c,d⟩:=x;simp only[Ha,Hb];rw[show(10000:Nat)=9999+1 from rfl,run_equalIn_agg w 9999 29 _ _ hS e];simp only[Program.fieldsOf,NT]
 go_simp
 by_cases h1:a=0
 ·by_cases h2:b=0
  ·by_cases h3:c=0
   ·by_cases h4:d=0<;>simp[h1,h2,h3,h4]
   ·simp[h1,h2,h3]
  ·simp[h1,h2]
 ·simp[h1]
theorem D_(x:cM)(p q:Operand)(w:World):((do eqGuard .neq 29 p q (Ha x) (Ha Hb);binOp .neq 29 (Ha x) (Ha Hb):Sem Value)).run Tryz.prog w=.ok (.bool (x != Hb)) w:=by
 have a:Tryz.prog.eqGuardType Tryz.prog.depth 29=false:=by kernel_rfl
 rw[Nv];have b:(eqGuard .neq 29 p q (Ha x) (Ha Hb)).run Tryz.prog w=.ok () w:=run_eqGuard_agg w .neq 29 p q _ _ a;have h:=nw x w;rw[b,Nu];unfold Ha at h⊢
 rw[run_neq_struct,h];rfl
section
variable {Q:Exit→Act→World→Prop}{n:Nat}{σ:Sg}{w:World}{L rest:List Oper}{d:Nat}{ty:TypeId}{pos:String}{af:Array Edge}{g:Option (Nat×Bool)}{yt:TypeId}{x y:Operand}
theorem fi{a:cH}(i:gd L σ ⟨some d,.binOp .neq 27 x y yt,ty,pos,af,g⟩=some true)(hd:Nat.ble (d+1) n=true)(f:ev σ x=some (BJ a))(e:ev σ y=some (BJ BK))
  (h:WL Tryz.prog L Q rest n ((d,.bool (a != BK))::σ) w):WL Tryz.prog L Q (⟨some d,.binOp .neq 27 x y yt,ty,pos,af,g⟩::rest) n σ w:=by
 refine WL.run i hd (fun c b=>?_) h;have:=D9 a x y w;simp only[execOp,b.ev f,b.ev e];rw[Nv,this];rfl
theorem fj{a:cM}(i:gd L σ ⟨some d,.binOp .neq 29 x y yt,ty,pos,af,g⟩=some true)(hd:Nat.ble (d+1) n=true)(f:ev σ x=some (Ha a))(e:ev σ y=some (Ha Hb))
  (h:WL Tryz.prog L Q rest n ((d,.bool (a != Hb))::σ) w):WL Tryz.prog L Q (⟨some d,.binOp .neq 29 x y yt,ty,pos,af,g⟩::rest) n σ w:=by
 refine WL.run i hd (fun c b=>?_) h;have:=D_ a x y w;simp only[execOp,b.ev f,b.ev e];rw[Nv,this];rfl
end
set_option maxHeartbeats 2000000 in
theorem DC(w0:World){r:cJ}{lo co no:Option Addr}{lc cc Z:Nat}{l:List ByteArray}(hl:Sl w0 (c7 w0) lo lc r.2.2.2.2.1.kids)(hc:Sl w0 (c7 w0) co cc r.2.2.2.2.2.kids)(hn:Sl w0 (c7 w0) no Z l):
  Rt Tryz.prog 52 [DD r lo lc co cc,.slice no l.length Z].toArray w0 fun v w'=>v=Py (By r l)∧Ext w0 w':=by
 obtain⟨nm,so,pt,tp,lt,ct⟩:=r;dsimp only at hl hc⊢
 refine dE Tryz.func52 Tryz.ntmps52 rfl rfl ?_;refine PB ?_;refine dX rfl rfl rfl fun X c e1=>?_
 skip;refine dX rfl rfl rfl fun J a e2=>?_
 have c:=c.ext e2;have T:=e1.trans e2;have l3:=a.lt;refine Qt ?_;refine WL.alloc rfl rfl (fun w3 j e3=>?_);refine WL.st rfl rfl rfl j rfl rfl Pr (fun I j K=>?_);have V:Ext J I:=e3.grown K e3.size Pi;have c:=c.ext V;have a:=a.ext V;have D:=T.trans V;have z1:=e1.size;have z2:=e2.size;have l7:=j.lt;clear K e3;apply WL.nil;apply bz;have R:so=1→gI (nm,so,pt,tp,lt,ct)=Bi pt++Ez pt:=fun h=>by unfold gI;rw[OK h]
 have G:so=2→gI (nm,so,pt,tp,lt,ct)=(if f_ tp.1=true then [tp.2.1]else [tp.2.1,tp.2.2.1]):=fun h=>by unfold gI;rw[OJ (by show¬so=1;omega),OK h]
 have z:so≠1→so≠2→gI (nm,so,pt,tp,lt,ct)=[]:=fun h h'=>by unfold gI;rw[OJ h,OJ h']
 refine aB (S:=Value) (fun v=>[(2,Pz w0.heap.size),(3,Pz X.heap.size),(5,Py (Bz (nm,so,pt,tp,lt,ct) l)),(6,v),(7,Pz J.heap.size)])
  (fun v w=>Rd w (c7 w) v (gI (nm,so,pt,tp,lt,ct))∧Blk w X.heap.size 66 [.slice no l.length Z]∧Blk w J.heap.size 4 [.bool (decide (so=1))]∧Ext w0 w) ?_ ?_
 ·have s:∀w:World,Rd w (c7 w) (Value.slice none 0 0) ([]:List Int):=fun w=>(Sl.zero (α:=Int) w (c7 w)).rd
  refine QX ?_;apply CW.cond rfl<;>intro h
  ·have h1:so=1:=by simpa using h
   clear h;refine P7 ?_;refine WL.call rfl rfl rfl (mB I pt) ?_;rintro _ A ⟨rfl,f⟩
   have c:=c.ext f;have a:=a.ext f;have j:=j.ext f;have k:=D.trans f;refine Q7 ?_;refine WL.call rfl rfl rfl (gJ A pt) ?_;rintro _ U ⟨⟨u1,u2,rfl,ho1,ho2⟩,o⟩
   have c:=c.ext o;have a:=a.ext o;have j:=j.ext o;have p:=k.trans o;have hl1:(Bi pt).length≤2:=by unfold Bi;split<;>simp
   have hl2:(Ez pt).length≤2:=by unfold Ez;(repeat' split)<;>simp
   obtain⟨so2,sc2,rfl,hs2⟩:=ho2.oldN.sl;have z5:=f.size;have z4:=V.size;refine Qq ?_;refine WL.app (F:=cZ) rfl rfl rfl rfl ho1 hs2.srcN o.size Pj Pb O7 (fun Y W ho7 m _=>?_);have hnb:∀g,u1.ownBlock=some g→A.heap.size≤g:=fun g B=>(ho1.lt g B).1
   have u:=a.kept m (fun e=>by have:=hnb _ e.symm;omega);have t:=j.kept m (fun e=>by have:=hnb _ e.symm;omega);have C:Ext w0 W:=p.grown m p.size (fun g B=>by have:=hnb g B;omega);refine Ri ?_;refine WL.st rfl rfl rfl t rfl rfl Pr (fun w8 M H=>?_);have O:=u.kept H Po;have hE8:Ext w0 w8:=C.grown H C.size (fun g B=>by cases B;have:=T.size;omega);have ho8:=ho7.keptN H (fun g B e=>by have:=(ho7.lt g B).1;have:=Nn e;omega);refine Q0 ?_;refine aU Y ⟨rfl,rfl,?_,rfl,rfl,trivial⟩ ⟨by rw[R h1];exact ho8.oldN,O,by rw[OC h1];exact M,hE8⟩;unfold Bz;rw[OK h1];rfl
  have h1:¬so=1:=by simpa using h
  clear h;have b:Blk I J.heap.size 4 [.bool (decide (so=1))]:=by rw[Oz h1];exact j
  refine Qt ?_;apply CW.cond rfl<;>intro h
  ·have h2:so=2:=by simpa using h
   clear h;refine P7 ?_;refine WL.call rfl rfl rfl (lS I tp) ?_;rintro _ A ⟨rfl,f⟩
   have c:=c.ext f;have a:=a.ext f;have b:=b.ext f;have k:=D.trans f;refine QR ?_;refine WL.lit (F:=cZ) (ys:=[tp.2.1]) rfl rfl rfl rfl rfl ⟨Rd.mkInt _ _ _,trivial⟩ (by show 1*1≤16777216;decide) Pj (fun U ho6 hg6=>?_);have o:Ext A U:=(JI _ _).grown hg6 Pu Pn;have c:=c.ext o;have a:=a.ext o;have b:=b.ext o;have p:=k.trans o;refine QR ?_;refine WL.call rfl rfl rfl (ga U tp.1) ?_;rintro _ _ ⟨rfl,rfl⟩
   refine PN ?_;apply CW.cond rfl<;>intro h
   ·have ha:¬f_ tp.1=true:=by simpa using h
    refine Q1 ?_;refine dW (F:=cZ) (yv:=tp.2.2.1) rfl rfl Pg rfl rfl Pg ho6 Pt o.size Pj O9 (by unfold maxLen;simp) O_ (fun Y W q ho7 m hnb=>?_);have u:=a.kept m (fun e=>by have:=Nn e;have:X.heap.size=A.heap.size:=this;have:=f.size;omega);have t:=b.kept m (fun e=>by have:=Nn e;have:J.heap.size=A.heap.size:=this;have:=f.size;omega);have C:Ext w0 W:=p.grown m p.size (fun g B=>by cases B;exact k.size);refine Q0 ?_;refine aU Y ⟨rfl,rfl,?_,rfl,rfl,trivial⟩ ⟨by rw[G h2,OJ ha];exact ho7.oldN,u,t,C⟩;unfold Bz;rw[OJ h1,OK h2];rfl
   ·have ha:f_ tp.1=true:=by simpa using h
    refine QZ ?_;refine aU _ ⟨rfl,rfl,?_,rfl,rfl,trivial⟩ ⟨by rw[G h2,OK ha];exact ho6.oldN,a,b,p⟩;unfold Bz;rw[OJ h1,OK h2];rfl
  have h2:¬so=2:=by simpa using h
  clear h;refine Qt ?_;apply CW.cond rfl<;>intro h
  ·have h3:so=3:=by simpa using h
   clear h;refine QG ?_;refine WL.call rfl rfl rfl (yi I (hl.up D) (hn.up D)) ?_;rintro _ A ⟨rfl,f⟩
   refine Q0 ?_;refine aU (.slice none 0 0) ⟨rfl,rfl,?_,rfl,rfl,trivial⟩ ⟨by rw[z h1 h2];exact s _,a.ext f,b.ext f,D.trans f⟩;unfold Bz;rw[OJ h1,OJ h2,OK h3];rfl
  have h3:¬so=3:=by simpa using h
  clear h;refine Qt ?_;apply CW.cond rfl<;>intro h
  ·have h4:so=4:=by simpa using h
   clear h;refine QG ?_;refine WL.call rfl rfl rfl (kR I (hc.up D) (hn.up D)) ?_;rintro _ A ⟨rfl,f⟩
   refine Q0 ?_;refine aU (.slice none 0 0) ⟨rfl,rfl,?_,rfl,rfl,trivial⟩ ⟨by rw[z h1 h2];exact s _,a.ext f,b.ext f,D.trans f⟩;unfold Bz;rw[OJ h1,OJ h2,OJ h3,OK h4];rfl
  ·have h4:¬so=4:=by simpa using h
   refine QZ ?_;refine aU (.slice none 0 0) ⟨rfl,rfl,?_,rfl,rfl,trivial⟩ ⟨by rw[z h1 h2];exact s _,a,b,D⟩;unfold Bz;rw[OJ h1,OJ h2,OJ h3,OJ h4];rfl
 rintro lv A ⟨hlv,P,N,k⟩
 obtain⟨ao,cap,rfl,hsl⟩:=hlv.sl;unfold By;generalize Bz (nm,so,pt,tp,lt,ct) l=E at*
 generalize gI (nm,so,pt,tp,lt,ct)=at' at*
 dsimp only;refine PW ?_
 (refine eV rfl rfl (fun h=>?_) (fun h=>?_))
 ·have h0:E=0:=by simpa using h
  clear h;refine Rq ?_;refine WL.call rfl rfl rfl (kD A (fun n=>Dz l n (decide (so=1))==[]) hsl (fun w hw i hi=>FnV.mk (cs:=[_,_]) (DB w (hn.up (k.trans hw)) (P.ext hw) (N.ext hw) at'[i]))) ?_;rintro _ U ⟨rfl,o⟩
  refine PN ?_;apply CW.cond rfl<;>intro h
  ·rw[OK ⟨h0,h⟩]
   refine QO ?_;exact be rfl rfl ⟨rfl,k.trans o⟩
  ·rw[OJ (by rw[h];simp)]
   refine QU ?_;exact be rfl rfl ⟨rfl,k.trans o⟩
 ·have h0:¬E=0:=by simpa using h
  rw[OJ (fun h=>h0 h.1)];refine Qh ?_;exact be rfl rfl ⟨rfl,k⟩
def A4(r:cJ):Bool:=(r.2.1 != 1&&r.2.2.1 != BK)||(r.2.1 != 2&&r.2.2.2.1 != Hb)
def A5(r:cJ):Bool:=A4 r||(r.2.1 != 3&&oR r.2.2.2.2.1)
theorem A7(r:cJ):A6 r=(A5 r||(r.2.1 != 4&&oR r.2.2.2.2.2)):=rfl
set_option maxHeartbeats 2000000 in
theorem CY(w0:World){r:cJ}{lo p no:Option Addr}{l q k:Nat}{e:List ByteArray}(m:Sl w0 (c7 w0) lo l r.2.2.2.2.1.kids)(n:Sl w0 (c7 w0) p q r.2.2.2.2.2.kids)(hn:Sl w0 (c7 w0) no k e):
  Rt Tryz.prog 22 [DD r lo l p q,.slice no e.length k].toArray w0 fun v w'=>v=Py (jP r e)∧Ext w0 w':=by
 refine dE Tryz.func22 Tryz.ntmps22 rfl rfl ?_;have u:=m.len63;have w:=n.len63;refine PB ?_;refine dX rfl rfl rfl fun t f o=>?_
 refine QR ?_;refine WL.call rfl rfl rfl (cX t r.1) ?_;rintro _ s ⟨rfl,j⟩
 have f:=f.ext j;have c:=o.trans j;unfold jP;have d:(yZ r.1=false∨r.2.1<1∨r.2.1>4)→(if yZ r.1=false∨r.2.1<1∨r.2.1>4 then 1 else if By r e≠0 then By r e else if A6 r=true then 1 else 0)=(1:Int):=fun h=>OK h
 refine Ri ?_
 (refine eV rfl rfl (fun h=>?_) (fun h=>?_))
 ·rw[d (.inl (by simpa using h))]
  refine Q6 ?_;exact be rfl rfl ⟨rfl,c⟩
 have h1:¬yZ r.1=false:=by simpa using h
 clear h;refine Rs ?_
 (refine eV rfl rfl (fun h=>?_) (fun h=>?_))
 ·rw[d (.inr (.inl (by simpa using h)))]
  refine Q6 ?_;exact be rfl rfl ⟨rfl,c⟩
 have h2:¬r.2.1<1:=by simpa using h
 clear h;refine QM ?_;apply CW.cond rfl<;>intro h
 ·rw[d (.inr (.inr (by simpa using h)))]
  refine QO ?_;exact be rfl rfl ⟨rfl,c⟩
 have h3:¬r.2.1>4:=by simpa using h
 clear h d;rw[OJ (by simp only[OO];exact⟨h1,h2,h3⟩)];refine P4 ?_;refine WL.call rfl rfl rfl (DC s (r:=r) (m.up c) (n.up c) (hn.up c)) ?_;rintro _ y ⟨rfl,i⟩
 have x:=f.ext i;have g:=c.trans i;generalize By r e=E at*
 refine Qt ?_;apply CW.cond rfl<;>intro h
 ·rw[OK (by simpa using h)]
  refine QO ?_;exact be rfl rfl ⟨rfl,g⟩
 rw[OJ (by simpa using h)];clear h f i j o c;apply CW.skip;apply bz;refine az [(2,Pz w0.heap.size),(6,.bool (A4 r))] ?_ ?_
 ·unfold A4
  refine Q1 ?_
  (refine eV rfl rfl (fun h=>?_) (fun h=>?_))
  ·rw[h]
   refine Rp ?_;refine WL.build (parts:=[]) rfl rfl rfl rfl ?_;refine fi (a:=r.2.2.1) rfl rfl rfl rfl ?_;refine Ri ?_
   (refine eV rfl rfl (fun h=>?_) (fun h=>?_))
   ·rw[h]
    refine PH ?_;exact aS O6
   ·rw[h]
    refine Rs ?_
    (refine eV rfl rfl (fun h=>?_) (fun h=>?_))
    ·rw[h]
     refine Rp ?_;refine WL.build (parts:=[]) rfl rfl rfl rfl ?_;refine fj (a:=r.2.2.2.1) rfl rfl rfl rfl ?_;refine Q0 ?_;exact aS O6
    ·rw[h]
     refine PH ?_;exact aS O6
  ·rw[h]
   refine Rr ?_
   (refine eV rfl rfl (fun h=>?_) (fun h=>?_))
   ·rw[h]
    refine Rp ?_;refine WL.build (parts:=[]) rfl rfl rfl rfl ?_;refine fj (a:=r.2.2.2.1) rfl rfl rfl rfl ?_;refine Q0 ?_;exact aS O6
   ·rw[h]
    refine PH ?_;exact aS O6
 refine az [(2,Pz w0.heap.size),(6,.bool (A5 r))] ?_ ?_
 ·unfold A5 oR
  refine PY ?_
  (refine eV rfl rfl (fun h=>?_) (fun h=>?_))
  ·rw[h]
   refine PH ?_;exact aS O6
  rw[h];refine Rs ?_
  (refine eV rfl rfl (fun h=>?_) (fun h=>?_))
  ·rw[h]
   refine Rs ?_
   (refine eV rfl rfl (fun h=>?_) (fun h=>?_))
   ·rw[h]
    refine PH ?_;exact aS O6
   rw[h];refine Rs ?_
   (refine eV rfl rfl (fun h=>?_) (fun h=>?_))
   ·rw[h]
    refine PH ?_;exact aS O6
   rw[h];refine Q_ ?_;refine aS ⟨rfl,?_,trivial⟩;refine Ox (fun b=>some (Value.bool b)) ?_;rw[JN];simp
  ·rw[h]
   refine PH ?_;exact aS O6
 rw[A7];unfold oR;refine PW ?_
 (refine eV rfl rfl (fun h=>?_) (fun h=>?_))
 ·rw[h]
  refine Q6 ?_;exact be rfl rfl ⟨rfl,g⟩
 rw[h];clear h;refine Rs ?_
 (refine eV rfl rfl (fun h=>?_) (fun h=>?_))
 ·rw[h]
  refine Rs ?_
  (refine eV rfl rfl (fun h=>?_) (fun h=>?_))
  ·rw[h]
   refine Q6 ?_;exact be rfl rfl ⟨rfl,g⟩
  rw[h];refine Rs ?_
  (refine eV rfl rfl (fun h=>?_) (fun h=>?_))
  ·rw[h]
   refine Q6 ?_;exact be rfl rfl ⟨rfl,g⟩
  rw[h];refine Q_ ?_;apply CW.cond rfl<;>intro h
  ·rw[OK (by simpa using h)]
   refine QO ?_;exact be rfl rfl ⟨rfl,g⟩
  ·rw[OJ (by simpa using h)]
   refine QU ?_;exact be rfl rfl ⟨rfl,g⟩
 ·rw[h]
  refine Qh ?_;exact be rfl rfl ⟨rfl,g⟩
theorem Grow.low{α:Type}[Rep α]{B B':Nat}{e:TypeId}{w:World}{v:Value}{xs:List α}(h:Grow B e w v xs)(c:B'≤B):Grow B' e w v xs:=by
 obtain⟨F,h1,h2⟩:=h;exact⟨F,fun b a=>⟨MN c (h1 b a).1,(h1 b a).2⟩,h2.low c⟩
instance sB:IsC Tryz.prog 37 19 true:=IsC.of O8 NY rfl
instance sC:IsFd Tryz.prog 37 1 1:=IsFd.of O8
instance sD:IsFd Tryz.prog 37 4 13:=IsFd.of O8
theorem kI:∀(m:Nat) (t:Ltl),t.nodes≤m→IG t→∀(w:World) (F:Nat→Prop) (ao:Option Addr) (cap:Nat),Sl w F ao cap t.kids→(∀b,F b→b<w.heap.size)→
  Rt Tryz.prog 59 [ym t.k t.n ao t.kids.length cap].toArray w fun v w'=>(∃kv,v=.agg [Py t.k,Py t.n,kv].toArray∧Grow w.heap.size 32 w' kv t.kids)∧Ext w w':=by
 intro m
 induction m with
 |zero=>intro t h;have:=t.nodes_pos;omega
 |succ m ih=>
  rintro⟨k,n,kids⟩ hm K w F ao cap hs hF
  simp only[Ltl.k,Ltl.n,Ltl.kids]at hs⊢
  have hkl:=w_ K;refine dD Tryz.func59 Tryz.ntmps59 rfl rfl ?_;refine PB ?_;refine dX rfl rfl rfl fun w1 hf hE1=>?_
  refine WL.alloc rfl rfl (fun p hr hE2=>?_);have hf:=hf.ext hE2;have s:=hE1.trans hE2;have hz1:w.heap.size≤w1.heap.size:=hE1.size;have hlf:=hf.lt;have hlr:=hr.lt;refine QR ?_;refine WL.build rfl rfl rfl rfl ?_;refine WL.alloc rfl rfl (fun w3 ho G=>?_);refine WL.st rfl rfl rfl ho rfl rfl Pr (fun I ho4 T=>?_);have e4:Ext p I:=G.grown T G.size Pi;have W:=hf.ext e4;have M:=hr.ext e4;have hE4:=s.trans e4;have hlo:=ho4.lt;have hsz:=s.size;clear hf hr ho T G e4 s;refine QX ?_;refine CW.loop (S:=Nat×Value) (fun x=>[(1,Pz w.heap.size),(2,Pz w1.heap.size),(3,Pz p.heap.size),(12,.slice ao kids.length cap),(13,Py kids.length),(14,Py x.1)])
   (fun x w'=>x.1≤kids.length∧Ext w w'∧I.heap.size≤w'.heap.size∧Blk w' w.heap.size 32 [Py k,Py n,.slice ao kids.length cap]∧Blk w' w1.heap.size 32 [Py 0,Py 0,.slice none 0 0]∧
    Blk w' p.heap.size 32 [Py k,Py n,x.2]∧Grow I.heap.size 32 w' x.2 (kids.take x.1)) (fun x=>kids.length -x.1) (0,.slice none 0 0) O6 ⟨by simp,hE4,MM _,W,M,ho4,by simpa using Grow.nil⟩ ?_
  rintro⟨i,kv⟩ z ⟨hi,o,A,V,B,ho5,l⟩
  dsimp only at hi o A V B ho5 l⊢
  clear W M ho4;refine Qt ?_;apply CW.cond rfl<;>intro h
  ·have h:i<kids.length:=by simpa using h
   refine Rb ?_;refine eC rfl rfl rfl rfl rfl (hs.up0 o hF) h Pg (fun u q hu=>?_);obtain⟨uo,uc,rfl,hku⟩:=Rd.ltl hu;refine WL.alloc rfl rfl (fun w6 hx hE6=>?_);refine WL.st rfl rfl rfl hx rfl rfl Pr (fun c J hg7=>?_);have H:Ext z c:=hE6.grown hg7 hE6.size Pi;have hE7:=o.trans H;have ed:=Ext.drew c;have hd:=hE7.trans ed;have ho7:=(ho5.ext H).ext ed;have hxd:=J.ext ed;have X:=(l.ext H).ext ed;have P:=J.lt;have hz7:=H.size;have hKo:∀x,(fun x:World=>x.heap[p.heap.size]?=(drew c).heap[p.heap.size]?∧x.heap[z.heap.size]?=(drew c).heap[z.heap.size]?) x→x.heap[p.heap.size]?=(drew c).heap[p.heap.size]?:=fun _ h=>h.1
   have hKx:∀x,(fun x:World=>x.heap[p.heap.size]?=(drew c).heap[p.heap.size]?∧x.heap[z.heap.size]?=(drew c).heap[z.heap.size]?) x→x.heap[z.heap.size]?=(drew c).heap[z.heap.size]?:=fun _ h=>h.2
   refine PU ?_;refine aE (fun x:World=>x.heap[p.heap.size]?=(drew c).heap[p.heap.size]?∧x.heap[z.heap.size]?=(drew c).heap[z.heap.size]?) [(0,true),(1,true),(2,true),(3,false),(4,false),(5,false),(6,true)] 7 mixed O8 ⟨rfl,rfl⟩ ?_;refine RP ?_;refine ce hKx rfl rfl rfl rfl hxd rfl ?_;skip;have hFd:∀b,F b→b<(drew c).heap.size:=fun b j=>MQ (hF b j) hd.size
   have Q:Sl (drew c) F uo uc (kids[i]).kids:=hku.up0 (H.trans ed) (fun b j=>MQ (hF b j) o.size);refine cr rfl (WL.call rfl rfl rfl (ih kids[i] (zT hm h) (IL K h) (drew c) F uo uc Q hFd) ?_);rintro v w8 ⟨⟨kv8,rfl,hK8⟩,y⟩
   obtain⟨ko,kc,rfl,hks⟩:=hK8.sl;have hv:Rd w8 (Nw (drew c) w8) (ym (kids[i]).k (kids[i]).n ko (kids[i]).kids.length kc) kids[i]:=by
    have:=Rd.mkLtl (k:=(kids[i]).k) (n:=(kids[i]).n) hks;rwa[show Ltl.mk (kids[i]).k (kids[i]).n (kids[i]).kids=kids[i] by cases kids[i];rfl]at this
   have ho8:=ho7.ext y;have hG8:=X.ext y;have hsz8:c.heap.size≤w8.heap.size:=y.size;refine WL.nil (a_ ⟨y.block _ ho7.lt,y.block _ P⟩ ?_);have hgl:=X.lt;obtain⟨F',E,hO,L⟩:=hG8.open (Fu:=Nw (drew c) w8) (fun b j=>⟨MN A (MN hz7 j.1),j.2⟩) (fun g hg j=>by have:=(hgl g hg).2;have:=j.1;omega);have O:(kids.take i).length=i:=by rw[LB];omega
   have d:=l.lt;refine bV (bytes:=40) (F:=F') rfl rfl rfl rfl Pg rfl rfl Pg hO (hv.wk L) O7 (fun b j=>(E b j).2) O9 (by rw[O];unfold maxLen;omega) (by rw[O];omega)
    (fun w' U=>⟨(U.block _ ho8.lt (fun e=>?_)).trans (y.block _ ho7.lt),(U.block _ O7 (fun e=>?_)).trans (y.block _ P)⟩) (fun cV w9 q2 hO9 f hnb=>?_)
   ·have:=(d _ e.symm).1;omega
   ·have:=(d _ e.symm).2;omega
   have D:Grow I.heap.size 32 w9 cV (kids.take i++[kids[i]]):=⟨F',fun b j=>⟨(E b j).1,MQ (E b j).2 f.size⟩,hO9⟩;rw[show kids.take i++[kids[i]]=kids.take (i+1) by rw[Mo h]]at D
   obtain⟨co,cc,rfl,_⟩:=D.sl;have C:∀r,r<I.heap.size→some r≠kv.ownBlock:=fun r hr e=>by have:=(d _ e.symm).1;omega
   have ho9:=ho8.kept f (C _ O7);have hf9:=((((V.ext H).ext ed).ext y)).kept f (C _ O7);have hr9:=((((B.ext H).ext ed).ext y)).kept f (C _ O7);have Z:=hd.trans y;have Y:Ext w w9:=Z.grown f Z.size (fun g hg=>by have:=(d g hg).1;omega);refine RT ?_;refine bp rfl (WL.st rfl rfl rfl ho9 rfl rfl Pr (fun w10 N a=>WL.nil (bu ?_)));have hE10:Ext w w10:=Y.grown a Y.size Pk;have hsz9:=f.size;have hsz10:=a.size;refine Qc ?_;exact EX.back (i+1,.slice co (kids.take (i+1)).length cc) O6 ⟨h,hE10,by omega,hf9.kept a Po,hr9.kept a Po,N,D.kept a O7⟩ Pa
  ·have h:¬i<kids.length:=by simpa using h
   have hik:i=kids.length:=by omega
   subst hik;rw[Mk]at l
   obtain⟨co,cc,rfl,hsl⟩:=l.sl;refine QT ?_;refine WL.st rfl rfl rfl B rfl rfl Pr (fun w6 hr6 R=>?_);have hG6:=l.kept R O7;refine PO ?_;exact bg rfl rfl hr6 rfl ⟨⟨_,rfl,hG6.low O7⟩,o.grown R o.size Pk⟩
set_option maxHeartbeats 1000000 in
theorem Ds(w:World){r:cJ}{lo I:Option Addr}{y J:Nat}(A:Sl w (c7 w) lo y r.2.2.2.2.1.kids):
  Rt Tryz.prog 25 [DD r lo y I J].toArray w fun u w'=>∃x,u=.tuple ⟨[x,Py (pY r).2]⟩∧GL w.heap.size w' x (pY r).1∧Ext w w':=by
 refine dD Tryz.func25 Tryz.ntmps25 rfl rfl ?_;have F:=A.len63;refine PB ?_;refine dX rfl rfl rfl fun L hf t=>?_
 refine WL.alloc rfl rfl (fun v m s=>?_);have hf:=hf.ext s;have g:=t.trans s;have E:=t.size;have o:=m.lt;unfold pY;refine QX ?_;apply CW.cond rfl<;>intro h
 ·rw[OK (by simpa using h)]
  refine P7 ?_;refine WL.call rfl rfl rfl (l_ v r.2.2.1) ?_;rintro _ j ⟨x,rfl,e,d⟩
  obtain⟨uo,uc,rfl,_⟩:=Rd.ltl e;have a:=g.trans d;refine Ri ?_;refine WL.st rfl rfl rfl (m.ext d) rfl rfl Pr (fun i c b=>?_);refine P2 ?_;exact bh rfl rfl rfl c rfl ⟨_,rfl,(e.st b o).low O7,a.grown b a.size Pk⟩
 have h1:¬r.2.1=1:=by simpa using h
 rw[OJ h1];clear h;refine Qt ?_;apply CW.cond rfl<;>intro h
 ·rw[OK (by simpa using h)]
  refine P7 ?_;refine WL.call rfl rfl rfl (lz v r.2.2.2.1) ?_;rintro _ j ⟨x,rfl,e,d⟩
  obtain⟨uo,uc,rfl,_⟩:=Rd.ltl e;have a:=g.trans d;refine Ri ?_;refine WL.st rfl rfl rfl (m.ext d) rfl rfl Pr (fun i c b=>?_);refine P2 ?_;exact bh rfl rfl rfl c rfl ⟨_,rfl,(e.st b o).low O7,a.grown b a.size Pk⟩
 have h2:¬r.2.1=2:=by simpa using h
 rw[OJ h2];clear h;refine Qt ?_;apply CW.cond rfl<;>intro h
 ·rw[OK (by simpa using h)]
  clear h;refine P7 ?_;refine WL.call rfl rfl rfl (yk v (A.up g) Pl) ?_;rintro _ j ⟨rfl,d⟩
  have G:=hf.ext d;have l:=m.ext d;have a:=g.trans d;have D:=d.size;refine Qt ?_;apply CW.cond rfl<;>intro f
  ·have f:(jv r.2.2.2.2.1 1 0).1≠0:=by simpa using f
   rw[OK f];refine PB ?_;refine WL.build (parts:=[]) rfl rfl rfl rfl ?_;refine Ri ?_;refine WL.st rfl rfl rfl l rfl rfl Pr (fun i c b=>?_);refine P2 ?_;exact bh rfl rfl rfl c rfl ⟨_,rfl,Rd.mkLtl (kids:=[]) (Sl.zero _ _),a.grown b a.size Pk⟩
  ·have f:(jv r.2.2.2.2.1 1 0).1=0:=by simpa using f
   rw[OJ (by simp[f])];refine Qw ?_;refine WL.call rfl rfl rfl (kI r.2.2.2.2.1.nodes r.2.2.2.2.1 Pu (jC r.2.2.2.2.1 1 0 f) j (c7 j) lo y (A.up a) Pl) ?_;rintro _ i ⟨⟨kv,rfl,H⟩,C⟩
   obtain⟨ko,kc,rfl,B⟩:=H.sl;have q:=a.trans C;have e:GL j.heap.size i (ym r.2.2.2.2.1.k r.2.2.2.2.1.n ko r.2.2.2.2.1.kids.length kc) r.2.2.2.2.1:=by
    have:=Rd.mkLtl (k:=r.2.2.2.2.1.k) (n:=r.2.2.2.2.1.n) B;rwa[show Ltl.mk r.2.2.2.2.1.k r.2.2.2.2.1.n r.2.2.2.2.1.kids=r.2.2.2.2.1 by cases r.2.2.2.2.1;rfl]at this
   refine WL.st rfl rfl rfl (l.ext C) rfl rfl Pr (fun K z p=>?_);refine P2 ?_;exact bh rfl rfl rfl z rfl ⟨_,rfl,(e.st p O7).low O7,q.grown p q.size Pk⟩
 ·rw[OJ (by simpa using h)]
  refine Qr ?_;refine WL.build (parts:=[]) rfl rfl rfl rfl ?_;skip;refine WL.st rfl rfl rfl m rfl rfl Pr (fun i c b=>?_);refine PK ?_;exact bh rfl rfl rfl c rfl ⟨_,rfl,Rd.mkLtl (kids:=[]) (Sl.zero _ _),g.grown b g.size Pk⟩
def dU(w:World)(v:Value)(p:cI)(r:cJ)(tok st:Int):Prop:=∃b s l e so sc lo a,v=.tuple ⟨[Is b so sc lo a s l,.int .i64 e]⟩∧Sl w (c7 w) so sc s∧Sl w (c7 w) lo a l∧JdgR p r tok st b s l e
set_option maxHeartbeats 4000000 in
theorem wx(w0:World){so fo lo co:Option Addr}{sc fc lc cc:Nat}{ns:List cG}{fl:List cF}{r:cJ}(hs:Sl w0 (c7 w0) so sc ns)(hf:Sl w0 (c7 w0) fo fc fl)(hl:Sl w0 (c7 w0) lo lc r.2.2.2.2.1.kids)(hc:Sl w0 (c7 w0) co cc r.2.2.2.2.2.kids)(tok st:Int):
  Rt Tryz.prog 7 [Cq so sc fo fc ns.length fl.length,DD r lo lc co cc,Py tok,Py st].toArray w0 fun v w'=>dU w' v (ns,fl) r tok st∧Ext w0 w':=by
 refine dG Tryz.func7 Tryz.ntmps7 rfl rfl ?_;refine PB ?_;refine dX rfl rfl rfl fun w1 f e1=>?_
 skip;refine dX rfl rfl rfl fun w2 p e2=>?_
 have f:=f.ext e2;skip;refine WL.alloc rfl rfl (fun w3 a e3=>?_);have f:=f.ext e3;have p:=p.ext e3;have d:=(e1.trans e2).trans e3;have z1:=e1.size;have z2:=e2.size;have l8:=a.lt;generalize hb8n:w2.heap.size=b8 at*
 clear e1 e2 e3;refine Q4 ?_;refine WL.call rfl rfl rfl (Ep w3 (hs.up d) (hf.up d) tok st) ?_;rintro _ w4 ⟨⟨x,oo,oc,rfl,W,D⟩,e4⟩
 have f:=f.ext e4;have p:=p.ext e4;have a:=a.ext e4;have d:=d.trans e4;obtain⟨a1,c1,a2,c2,a3,c3,a4,c4,rfl,g1,g2,g3,g4⟩:=W.ok;have z4:=e4.size;clear W e4;refine Ri ?_;refine WL.alloc rfl rfl (fun w5 c e5=>?_);refine WL.st rfl rfl rfl c rfl rfl Pr (fun w6 c hg6=>?_);have R:Ext w4 w6:=e5.grown hg6 e5.size Pi;have f:=f.ext R;have p:=p.ext R;have a:=a.ext R;have d:=d.trans R;have g1:=g1.up R;have g2:=g2.up R;have g3:=g3.up R;have g4:=g4.up R;have D:=D.up R;have z6:=R.size;generalize hb10n:w4.heap.size=b10 at*
 clear e5 R hg6;refine Qt ?_;apply CW.cond rfl<;>intro h
 ·have h:(El (ns,fl) tok st).2≠0:=by simpa using h
  refine PB ?_;refine WL.build (parts:=[]) rfl rfl rfl rfl ?_;refine Ri ?_;refine WL.st rfl rfl rfl a rfl rfl Pr (fun w7 N hg7=>?_);refine PS ?_;exact bh rfl rfl rfl N rfl ⟨⟨false,[],[],_,none,0,none,0,rfl,Sl.zero _ _,Sl.zero _ _,we h (fun I _=>h I)⟩,d.grown hg7 d.size Pk⟩
 have C:(El (ns,fl) tok st).2=0:=by simpa using h
 have Z:=Eo C;clear h;have hz0:=d.size;refine QY ?_;have G:Ext w6 (drew w6):=Ext.drew w6;have hb4d:=f.ext G;have hb5d:=p.ext G;refine aF (fun z:World=>Ext (drew w6) z) [(0,true),(1,true),(2,false),(3,false),(4,true)] mixed O8 Pw ?_;refine cg (fun z hz=>hb5d.ext hz) rfl rfl rfl rfl rfl ?_;refine cg (fun z hz=>hb4d.ext hz) rfl rfl rfl rfl rfl ?_;refine cr rfl (WL.call rfl rfl rfl (wg (drew w6) ((hs.up d).up G) (by have:ns.length≤20:=Z.n;omega)) ?_);rintro nv w7 ⟨hnv,e7⟩
 refine WL.nil (a_ e7 ?_);obtain⟨no,nc,rfl,hn⟩:=hnv.oldN.sl;have hE7:=(d.trans G).trans e7;refine cr rfl (WL.call rfl rfl rfl (CY w7 (hl.up hE7) (hc.up hE7) hn) ?_);rintro _ w8 ⟨rfl,e8⟩
 have J:=(G.trans e7).trans e8;refine WL.nil (a_ (e7.trans e8) ?_);have f:=f.ext J;have p:=p.ext J;have a:=a.ext J;have c:=c.ext J;have d:=d.trans J;have g1:=g1.up J;have g2:=g2.up J;have g3:=g3.up J;have g4:=g4.up J;have D:=D.up J;have z8:=J.size;clear e7 e8 J hnv hn hb4d hb5d G hE7;refine RR ?_;refine Qt ?_;apply CW.cond rfl<;>intro h
 ·have h:jP r (zB (ns,fl))≠0:=by simpa using h
  refine PB ?_;refine WL.build (parts:=[]) rfl rfl rfl rfl ?_;refine Ri ?_;refine WL.st rfl rfl rfl a rfl rfl Pr (fun w7 N hg7=>?_);refine PS ?_;exact bh rfl rfl rfl N rfl ⟨⟨false,[],[],_,none,0,none,0,rfl,Sl.zero _ _,Sl.zero _ _,we h (fun _ I=>h I)⟩,d.grown hg7 d.size Pk⟩
 have X:jP r (zB (ns,fl))=0:=by simpa using h
 clear h;refine QP ?_;apply CW.cond rfl<;>intro h
 ·
  have h4:r.2.1=4:=by simpa using h
  clear h;refine P7 ?_;refine WL.call rfl rfl rfl (cP w8 (t:=r.2.2.2.2.2) g1 g2 g3 g4 (hc.up d) Z.ed) ?_;rintro _ w9 ⟨x,rfl,W,s⟩
  have a:=a.ext s;have c:=c.ext s;have g1:=g1.up s;have hE9:=d.trans s;have z9:=s.size;have hlab:xk (rW (ns,fl) tok st).1 (rW (ns,fl) tok st).2.1 (rW (ns,fl) tok st).2.2.1.length (rW (ns,fl) tok st).2.2.2 r.2.2.2.2.2=0:=by
   unfold xk;rw[OJ (by have:=Z.chk;simpa using this)];exact jQ X h4
  rw[hlab]at W⊢
  rw[OK rfl]at W
  have hst:AF (rW (ns,fl) tok st).2.1.length (rW (ns,fl) tok st).1:=(jU Z.chk).2.2.2.1;have hbl:=iI (n:=(rW (ns,fl) tok st).2.1.length) (P:=kX (rW (ns,fl) tok st).2.1 (rW (ns,fl) tok st).2.2.1 (rW (ns,fl) tok st).2.2.2 r.2.2.2.2.2);obtain⟨xo,xc,rfl,hxs⟩:=W.oldN.sl;have hm1:(rW (ns,fl) tok st).1.length≤1048576:=Z.start;refine QI ?_;refine CW.loop (S:=Nat) (fun i=>[(8,Pz b8),(14,.slice xo (iF (rW (ns,fl) tok st).2.1.length (kX (rW (ns,fl) tok st).2.1 (rW (ns,fl) tok st).2.2.1 (rW (ns,fl) tok st).2.2.2 r.2.2.2.2.2)).length xc),(56,.slice a1 (rW (ns,fl) tok st).1.length c1),(57,Py (rW (ns,fl) tok st).1.length),(58,Py i)])
   (fun i w=>i≤(rW (ns,fl) tok st).1.length∧(∀n∈(rW (ns,fl) tok st).1.take i,kX (rW (ns,fl) tok st).2.1 (rW (ns,fl) tok st).2.2.1 (rW (ns,fl) tok st).2.2.2 r.2.2.2.2.2 n.toNat)∧w=w9) (fun i=>(rW (ns,fl) tok st).1.length -i) 0 O6 ⟨Nc _,(fun n hn=>by simp at hn),rfl⟩ ?_
  rintro i _ ⟨hi,Q,rfl⟩
  have hjr:∀(b:Bool),(b=true↔∀n∈(rW (ns,fl) tok st).1,kX (rW (ns,fl) tok st).2.1 (rW (ns,fl) tok st).2.2.1 (rW (ns,fl) tok st).2.2.2 r.2.2.2.2.2 n.toNat)→JdgR (ns,fl) r tok st b [] [] 0:=fun b hb=>
   ⟨fun h=>absurd rfl h,fun _=>⟨C,X⟩,fun _ _=>⟨rfl,rfl,hb⟩,fun _ h=>absurd h4 h,fun _ _ h _ _=>absurd h4 h,fun _ _ _=>rfl⟩
  refine Qt ?_;apply CW.cond rfl<;>intro h
  ·have K:i<(rW (ns,fl) tok st).1.length:=by simpa using h
   clear h;have hk:=hst _ (Lc K);obtain⟨m,em⟩:=J7 hk.1;have hm:m<(rW (ns,fl) tok st).2.1.length:=by omega
   have hm':m<(iF (rW (ns,fl) tok st).2.1.length (kX (rW (ns,fl) tok st).2.1 (rW (ns,fl) tok st).2.2.1 (rW (ns,fl) tok st).2.2.2 r.2.2.2.2.2)).length:=by rw[hbl];exact hm
   have hiff:=iH (P:=kX (rW (ns,fl) tok st).2.1 (rW (ns,fl) tok st).2.2.1 (rW (ns,fl) tok st).2.2.2 r.2.2.2.2.2) hm;refine Rb ?_;refine eB rfl rfl rfl rfl rfl g1 K em Pg (fun q=>?_);refine Qt ?_;refine eA rfl rfl rfl rfl rfl hxs hm' (IM hm').symm Pg (fun q=>?_);refine PN ?_;apply CW.cond rfl<;>intro h
   ·have hno:¬kX (rW (ns,fl) tok st).2.1 (rW (ns,fl) tok st).2.2.1 (rW (ns,fl) tok st).2.2.2 r.2.2.2.2.2 m:=fun hp=>by rw[hiff.2 hp]at h;cases h
    refine PB ?_;refine WL.build (parts:=[]) rfl rfl rfl rfl ?_;refine WL.st rfl rfl rfl a rfl rfl Pr (fun w10 y M=>?_);refine P2 ?_;exact bh rfl rfl rfl y rfl ⟨⟨false,[],[],_,none,0,none,0,rfl,Sl.zero _ _,Sl.zero _ _,hjr false ⟨fun h=>by(cases h),fun hp=>absurd (by have:=hp _ (Lc K);rwa[em,Kb]at this) hno⟩⟩,hE9.grown M hE9.size Pk⟩
   ·have hyes:kX (rW (ns,fl) tok st).2.1 (rW (ns,fl) tok st).2.2.1 (rW (ns,fl) tok st).2.2.2 r.2.2.2.2.2 m:=hiff.1 (by simpa using h)
    refine PI ?_;refine EX.back (i+1) O6 ⟨K,fun n hn=>?_,rfl⟩ O7;rw[Mo K]at hn
    rcases LK.1 hn with hn|hn
    ·exact Q n hn
    ·rw[L0.1 hn,em,Kb];exact hyes
  ·obtain rfl:i=(rW (ns,fl) tok st).1.length:=by simp at h;omega
   rw[Mk]at Q
   refine Qo ?_;refine WL.build (parts:=[(0,.const (.bool true))]) rfl rfl rfl rfl ?_;refine WL.st rfl rfl rfl a rfl rfl Pr (fun w10 y M=>?_);refine PS ?_;exact bh rfl rfl rfl y rfl ⟨⟨true,[],[],_,none,0,none,0,rfl,Sl.zero _ _,Sl.zero _ _,hjr true ⟨fun _=>Q,fun _=>rfl⟩⟩,hE9.grown M hE9.size Pk⟩
 have h4:¬r.2.1=4:=by simpa using h
 clear h;refine QH ?_;refine WL.call rfl rfl rfl (Ds w8 (hl.up d)) ?_;rintro _ w9 ⟨x,rfl,W,s⟩
 obtain⟨ko,kc,rfl,Y⟩:=Rd.ltl W.old;have a:=a.ext s;have c:=c.ext s;have d:=d.trans s;have g1:=g1.up s;have g2:=g2.up s;have g3:=g3.up s;have g4:=g4.up s;have D:=D.up s;have z9:=s.size;clear s W;refine Ri ?_;refine WL.alloc rfl rfl (fun w10 O e10=>?_);refine WL.st rfl rfl rfl O rfl rfl Pr (fun w11 O hg11=>?_);have j:Ext w9 w11:=e10.grown hg11 e10.size Pi;have a:=a.ext j;have c:=c.ext j;have d:=d.trans j;have g1:=g1.up j;have g2:=g2.up j;have g3:=g3.up j;have g4:=g4.up j;have D:=D.up j;have Y:=Y.up j;have z11:=j.size;clear e10 j hg11;refine Qt ?_;apply CW.cond rfl<;>intro h
 ·have h:(pY r).2≠0:=by simpa using h
  refine PB ?_;refine WL.build (parts:=[]) rfl rfl rfl rfl ?_;refine Ri ?_;refine WL.st rfl rfl rfl a rfl rfl Pr (fun o hb812 hg12=>?_);refine PS ?_;exact bh rfl rfl rfl hb812 rfl ⟨⟨false,[],[],_,none,0,none,0,rfl,Sl.zero _ _,Sl.zero _ _,⟨fun _=>⟨rfl,rfl,rfl⟩,fun I=>absurd I h,fun I=>absurd I h,fun I=>absurd I h,fun _ _ _ I _=>absurd I h,fun _ _ I=>absurd I h4⟩⟩,d.grown hg12 d.size Pk⟩
 have hfm:(pY r).2=0:=by simpa using h
 clear h;have hRL:RL w11 (ym (pY r).1.k (pY r).1.n ko (pY r).1.kids.length kc) (pY r).1:=by
  have:=Rd.mkLtl (k:=(pY r).1.k) (n:=(pY r).1.n) Y;rwa[show Ltl.mk (pY r).1.k (pY r).1.n (pY r).1.kids=(pY r).1 by cases (pY r).1;rfl]at this
 refine QH ?_;refine WL.call rfl rfl rfl (wd w11 g1 g2 g3 g4 hRL Z.row Z.start) ?_;rintro _ o ⟨⟨ps,pl,is,err,po,pc,qo,qc,rfl,hps,hpl,hJ⟩,U⟩
 have a:=a.ext U;have d:=d.trans U;have D:=D.up U;have z12:=U.size;clear g1 g2 g3 g4 c O hRL Y;refine Ri ?_;refine WL.alloc rfl rfl (fun w13 F e13=>?_);refine WL.st rfl rfl rfl F rfl rfl Pr (fun l F hg14=>?_);have B:Ext o l:=e13.grown hg14 e13.size Pi;have a:=a.ext B;have d:=d.trans B;have D:=D.up B;have hps:=hps.up B;have hpl:=hpl.up B;have z14:=B.size;clear U e13 B hg14;have hend:(err≠0∨is=true)→JdgR (ns,fl) r tok st is [] [] err:=fun h=>by
  refine⟨fun he=>⟨(hJ.bad he).1,rfl,rfl⟩,fun _=>⟨C,X⟩,fun _ h=>absurd h h4,fun he _=>?_,fun _ _ _ _ hm=>hJ.good Z.chk (pZ hfm) hm,fun _ _ h=>absurd h h4⟩;obtain⟨_,j1,j2,j3,j4,j5,_⟩:=hJ.ok he;have his:is=true:=h.resolve_left (fun h=>h he);exact⟨hfm,j1,j2,j3,j4,fun _=>⟨rfl,rfl⟩,fun h=>by rw[his]at h;cases h⟩
 refine Qt ?_
 (refine eV rfl rfl (fun h=>?_) (fun h=>?_))
 ·have h:err≠0:=by simpa using h
  refine Q6 ?_;refine WL.build (parts:=[(0,.tmp 91)]) rfl rfl rfl rfl ?_;refine Ri ?_;refine WL.st rfl rfl rfl a rfl rfl Pr (fun V u L=>?_);refine PS ?_;exact bh rfl rfl rfl u rfl ⟨⟨is,[],[],_,none,0,none,0,rfl,Sl.zero _ _,Sl.zero _ _,hend (.inl h)⟩,d.grown L d.size Pk⟩
 have he0:err=0:=by simpa using h
 clear h;refine PN ?_;apply CW.cond rfl<;>intro h
 ·refine PW ?_
  refine WL.build (parts:=[(0,.tmp 91)]) rfl rfl rfl rfl ?_;refine Ri ?_;refine WL.st rfl rfl rfl a rfl rfl Pr (fun V u L=>?_);refine PS ?_;exact bh rfl rfl rfl u rfl ⟨⟨is,[],[],_,none,0,none,0,rfl,Sl.zero _ _,Sl.zero _ _,hend (.inr h)⟩,d.grown L d.size Pk⟩
 obtain⟨_,j1,j2,j3,j4,j5,j6⟩:=hJ.ok he0;have hP:=j6 h;have hof:=Z.of;have hfin:JdgR (ns,fl) r tok st false (ps.map fun n=>((rO (ns,fl) tok st).getD n.toNat (0,0)).1) (pl.map fun n=>((rO (ns,fl) tok st).getD n.toNat (0,0)).1) 0:=
  ⟨fun h=>absurd rfl h,fun _=>⟨C,X⟩,fun _ h=>absurd h h4,fun _ _=>⟨hfm,j1,j2,j3,by rw[←h];exact j4,(fun h=>by cases h),fun _=>⟨ps,pl,hP,rfl,rfl⟩⟩,fun _ _ _ _ _=>rfl,fun _ _ h=>absurd h h4⟩
 have hso:AF (rO (ns,fl) tok st).length ps:=by rw[hof];exact hP.so
 have hlo:AF (rO (ns,fl) tok st).length pl:=by rw[hof];exact hP.lo
 have l19:=F.lt;have z0:=d.size;refine QY ?_;have G:Ext l (drew l):=Ext.drew l;have hb19d:=F.ext G;have hb8d:=a.ext G;refine aF (fun z:World=>z.heap[o.heap.size]?=(drew l).heap[o.heap.size]?) [(0,true),(1,true),(2,true),(4,true),(5,true),(6,true),(3,false),(7,false),(8,true),(9,false),(10,true)] mixed O8 rfl ?_;have hKS:∀z:World,(fun z:World=>z.heap[o.heap.size]?=(drew l).heap[o.heap.size]?) z→Blk z o.heap.size 86 [.slice po ps.length pc,.slice qo pl.length qc]:=fun z hz=>hz.trans hb19d
 refine RI ?_;refine cm hKS rfl rfl rfl rfl rfl ?_;refine RI ?_;refine cm hKS rfl rfl rfl rfl rfl ?_;refine cr rfl (WL.call rfl rfl rfl (gf (drew l) (D.up G) (hps.up G) hso hP.sz.1) ?_);rintro sv V ⟨H,A⟩
 refine WL.nil (a_ (A.block _ l19) ?_);refine cr rfl (WL.call rfl rfl rfl (gf V (D.up (G.trans A)) (hpl.up (G.trans A)) hlo hP.sz.2) ?_);rintro lv w16 ⟨hlv,T⟩
 have z15:l.heap.size≤V.heap.size:=A.size;have hS16:w16.heap[o.heap.size]?=(drew l).heap[o.heap.size]?:=(T.block _ O7).trans (A.block _ l19);refine WL.nil (a_ hS16 ?_);have H:=H.extN T;have hE16:=d.trans (G.trans (A.trans T));obtain⟨so2,sc2,rfl⟩:=H.val;obtain⟨lo2,lc2,rfl⟩:=hlv.val;refine HL.build (parts:=[(1,.tmp 97),(2,.tmp 101)]) rfl rfl rfl rfl rfl ?_;refine cr rfl (WL.st rfl rfl rfl (hb8d.ext (A.trans T)) rfl rfl Pr (fun w17 hb17 E=>WL.nil (a_ ?_ ?_)))
 ·exact(E.block _ (by have:=T.size;omega) Po).trans hS16
 have hsv17:=H.keptN E (fun g hg e=>by have:=(H.lt g hg).1;have:=Nn e;have:l.heap.size≤g:=(H.lt g hg).1;omega);have hlv17:=hlv.keptN E (fun g hg e=>by have:=(hlv.lt g hg).1;have:=Nn e;omega);obtain⟨_,_,he1,hs17⟩:=hsv17.oldN.sl;obtain⟨_,_,he2,hl17⟩:=hlv17.oldN.sl;cases he1
 cases he2
 refine RR ?_;refine PQ ?_;exact bh rfl rfl rfl hb17 rfl ⟨⟨false,_,_,_,_,_,_,_,rfl,hs17,hl17,hfin⟩,hE16.grown E hE16.size Pk⟩
abbrev bN:=ByteArray×ByteArray×Int
abbrev iY(s:ByteArray):ar:=s.data.toList
def IZ(k:Int):ar:=
 if k=1 then [115,116,97,114,116]else if k=2 then [101,110,100]else if k=3 then [115,116,111,112]else if k=4 then [116,97,115,107]
 else if k=5 then [120,111,114]else if k=6 then [97,110,100]else if k=7 then [111,114]else []
def pI:ar:=[102,108,111,119]
def zI(n:cG):ar:=IZ n.2++[32]++iY n.1++[10]
def zt(ns:List cG)(i:Int):ar:=iY (ns.getD i.toNat (⟨#[]⟩,0)).1
def xN(a b:ar):ar:=[102,108,111,119,32]++a++[32]++b++[10]
def pH(ns:List cG)(f:cF):ar:=xN (zt ns f.1) (zt ns f.2)
def Co(p:cI):ar:=(p.1.map zI).flatten++(p.2.map (pH p.1)).flatten
def FJ(c:UInt8):ar→List ar
 |[]=>[[]]
 |b::l=>if b=c then []::FJ c l else match FJ c l with
  |[]=>[[b]]
  |x::r=>(b::x)::r
def wm(c:UInt8):List ar→ar
 |[]=>[]
 |[x]=>x
 |x::y::r=>x++c::wm c (y::r)
theorem FL(c:UInt8):∀s,FJ c s≠[]
 |[]=>by simp[FJ]
 |b::l=>by
  unfold FJ;split
  ·simp
  ·split<;>simp
theorem FN{c:UInt8}:∀{a:ar},c∉a→FJ c a=[a]
 |[],_=>rfl
 |b::l,h=>by
  have f:¬b=c:=fun e=>h (by simp[e])
  have d:c∉l:=fun e=>h (by simp[e])
  unfold FJ;rw[OJ f,FN d]
theorem FK{c:UInt8}:∀{a b:ar},c∉a→FJ c (a++c::b)=a::FJ c b
 |[],b,_=>by simp[FJ]
 |d::l,b,h=>by
  have g:¬d=c:=fun e=>h (by simp[e])
  have f:c∉l:=fun e=>h (by simp[e])
  simp only[Kl];rw[FJ,OJ g,FK f]
theorem wo(c:UInt8):∀s,wm c (FJ c s)=s
 |[]=>rfl
 |b::l=>by
  have a:=wo c l;have d:=FL c l;unfold FJ;cases h:FJ c l with
  |nil=>exact absurd h d
  |cons x r=>
   rw[h]at a
   split
   ·rename_i e
    simp only[wm,L2];rw[a,e]
   ·cases r with
    |nil=>simp only[wm]at a⊢;rw[a]
    |cons y r=>simp only[wm,Kl]at a⊢;rw[a]
def k_(c:UInt8):ar→Option (ar×ar)
 |[]=>none
 |b::l=>if b=c then some ([],l)else(k_ c l).map fun x=>(b::x.1,x.2)
theorem lk{c:UInt8}:∀{s a r:ar},k_ c s=some (a,r)→s=a++c::r
 |[],a,r,h=>by cases h
 |b::l,a,r,h=>by
  unfold k_ at h
  split at h
  ·rename_i e
   injection h with h;injection h with h1 h2
   rw[←h1,←h2,e];rfl
  ·cases h2:k_ c l with
   |none=>rw[h2]at h;cases h
   |some x=>
    rw[h2]at h
    injection h with h;injection h with h3 h4
    have:=lk (a:=x.1) (r:=x.2) h2;rw[←h3,←h4,this];rfl
theorem lh{c:UInt8}:∀{a r:ar},c∉a→k_ c (a++c::r)=some (a,r)
 |[],r,_=>by simp[k_]
 |b::l,r,h=>by
  have f:¬b=c:=fun e=>h (by simp[e])
  have d:c∉l:=fun e=>h (by simp[e])
  simp only[Kl];rw[k_,OJ f,lh d];rfl
def xf(a:ar):Int:=if a=IZ 1 then 1 else if a=IZ 2 then 2 else if a=IZ 3 then 3 else if a=IZ 4 then 4 else if a=IZ 5 then 5 else if a=IZ 6 then 6 else if a=IZ 7 then 7 else 0
def xO(ns:List cG)(fs:List bN)(l:ar)(ln:Int):Option (List cG×List bN):=
 if(FJ 32 l).getD 0 []=pI then
  if(FJ 32 l).length=3∧y0 ((FJ 32 l).getD 1 [])=true∧y0 ((FJ 32 l).getD 2 [])=true then some (ns,fs++[(HW ((FJ 32 l).getD 1 []),HW ((FJ 32 l).getD 2 []),ln)])else none
 else if xf ((FJ 32 l).getD 0 [])=0 then none
 else if(FJ 32 l).length=2∧y0 ((FJ 32 l).getD 1 [])=true∧fs=[]then some (ns++[(HW ((FJ 32 l).getD 1 []),xf ((FJ 32 l).getD 0 []))],fs)else none
def Dc:Nat→ar→Int→List cG→List bN→Option (List cG×List bN)×Int
 |0,_,ln,ns,fs=>(some (ns,fs),ln)
 |f+1,s,ln,ns,fs=>if s=[]then(some (ns,fs),ln)else match k_ 10 s with
  |none=>(none,ln)
  |some x=>match xO ns fs x.1 ln with
   |none=>(none,ln)
   |some y=>Dc f x.2 (ln+1) y.1 y.2
def zH(ns:List cG)(nm:ByteArray):Int:=idxOf (fun n:cG=>yY n.1 nm) ns
def pQ(ns:List cG):List bN→List cF→Option (List cF)×Int
 |[],acc=>(some acc,0)
 |f::r,acc=>if zH ns f.1<0∨zH ns f.2.1<0 then(none,f.2.2)else pQ ns r (acc++[(zH ns f.1,zH ns f.2.1)])
noncomputable def Bv(s:ar):cI×Int×Int:=
 if s.length>4096 then(([],[]),0,2)else match Dc s.length s 1 [] []with
 |(none,ln)=>(([],[]),ln,3)
 |(some x,_)=>match pQ x.1 x.2 []with
  |(none,ln)=>(([],[]),ln,4)
  |(some fl,_)=>if jL (x.1,fl)≠0 then(([],[]),0,jL (x.1,fl))else((x.1,fl),0,0)
theorem I0{k:Int}(h1:1≤k)(h2:k≤7):xf (IZ k)=k∧IZ k≠pI∧(32:UInt8)∉IZ k∧(10:UInt8)∉IZ k∧(IZ k).length≤5:=by
 obtain rfl|rfl|rfl|rfl|rfl|rfl|rfl:k=1∨k=2∨k=3∨k=4∨k=5∨k=6∨k=7:=by omega
 all_goals decide
def flT(f:bN):ar:=xN (iY f.1) (iY f.2.1)
theorem zb{l:ar}(h:y0 l=true):(32:UInt8)∉l∧(10:UInt8)∉l∧l.length≤8:=by
 have a:=y_ h;exact⟨fun e=>by have:=a _ e;exact absurd this O9,fun e=>by have:=a _ e;exact absurd this O9,(za h).2.2.2.2⟩
theorem xR{ns:List cG}{n:cG}{ln:Int}(h1:1≤n.2)(h2:n.2≤7)(hn:yZ n.1=true):xO ns [] (IZ n.2++[32]++iY n.1) ln=some (ns++[n],[]):=by
 obtain⟨g1,g2,g3,g4,g5⟩:=I0 h1 h2;obtain⟨b,d,c⟩:=zb hn;have a:FJ 32 (IZ n.2++[32]++iY n.1)=[IZ n.2,iY n.1]:=by
  rw[Kh];show FJ 32 (IZ n.2++32::iY n.1)=_;rw[FK g3,FN b]
 unfold xO;rw[a];simp only[KR,KQ,Lm,Lt];rw[OJ g2,g1,OJ O7,OK (by simpa using hn)];rfl
theorem xQ{ns:List cG}{fs:List bN}{a b:ByteArray}{ln:Int}(d:yZ a=true)(c:yZ b=true):xO ns fs ([102,108,111,119,32]++iY a++[32]++iY b) ln=some (ns,fs++[(a,b,ln)]):=by
 obtain⟨g,k,j⟩:=zb d;obtain⟨f,i,h⟩:=zb c;have e:FJ 32 ([102,108,111,119,32]++iY a++[32]++iY b)=[pI,iY a,iY b]:=by
  rw[show [102,108,111,119,32]++iY a++[32]++iY b=pI++32::(iY a++32::iY b) by simp[pI],FK O9,FK g,FN f]
 unfold xO;rw[e];simp only[KR,KQ,Lm,Lt];rw[OK trivial,OK ⟨trivial,d,c⟩];rfl
theorem De{f:Nat}{l r:ar}{ln:Int}{ns:List cG}{fs:List bN}{y:List cG×List bN}(h:(10:UInt8)∉l)(a:xO ns fs l ln=some y):Dc (f+1) (l++10::r) ln ns fs=Dc f r (ln+1) y.1 y.2:=by
 rw[Dc,OJ O_,lh h];dsimp only;rw[a]
theorem Df{rest:ar}:∀(ms:List cG) (ns:List cG) (f:Nat) (ln:Int),(∀n∈ms,1≤n.2∧n.2≤7∧yZ n.1=true)→((ms.map zI).flatten++rest).length≤f→
  ∃a ln',rest.length≤a∧Dc f ((ms.map zI).flatten++rest) ln ns []=Dc a rest ln' (ns++ms) []
 |[],ns,f,ln,_,hf=>⟨f,ln,by simpa using hf,by simp⟩
 |n::ms,ns,f,ln,h,hf=>by
  obtain⟨h1,h2,h3⟩:=h n O_;obtain⟨g1,g2,g3,g4,g5⟩:=I0 h1 h2;obtain⟨i,c,g⟩:=zb h3;have e:((n::ms).map zI).flatten++rest=(IZ n.2++[32]++iY n.1)++10::((ms.map zI).flatten++rest):=by simp[zI]
  rw[e]at hf⊢
  have d:1≤f:=by simp at hf;omega
  obtain⟨f,rfl⟩:∃a,f=a+1:=⟨f -1,by omega⟩;rw[De (by simp only[LK,L0,OO];exact⟨⟨g4,by decide⟩,c⟩) (xR h1 h2 h3)];obtain⟨a,ln',k1,k2⟩:=Df (rest:=rest) ms (ns++[n]) f (ln+1) (fun m b=>h m (by simp[b])) (by simp only[Ll,Lm]at hf⊢;omega);exact⟨a,ln',k1,by rw[k2];simp⟩
theorem Dd{ns:List cG}:∀(fl:List cF) (fs:List bN) (f:Nat) (ln:Int),(∀x∈fl,y0 (zt ns x.1)=true∧y0 (zt ns x.2)=true)→((fl.map (pH ns)).flatten).length≤f→
  ∃gs ln',Dc f ((fl.map (pH ns)).flatten) ln ns fs=(some (ns,fs++gs),ln')∧gs.map (fun g=>(g.1,g.2.1))=fl.map fun x=>(HW (zt ns x.1),HW (zt ns x.2))
 |[],fs,f,ln,_,hf=>⟨[],ln,by cases f<;>simp[Dc],rfl⟩
 |x::fl,fs,f,ln,h,hf=>by
  obtain⟨h1,h2⟩:=h x O_;obtain⟨g1,g2,g3⟩:=zb h1;obtain⟨g4,g5,j⟩:=zb h2;have e:((x::fl).map (pH ns)).flatten=([102,108,111,119,32]++iY (HW (zt ns x.1))++[32]++iY (HW (zt ns x.2)))++10::((fl.map (pH ns)).flatten):=by simp[pH,xN,HW]
  rw[e]at hf⊢
  have i:1≤f:=by simp at hf;omega
  obtain⟨f,rfl⟩:∃d,f=d+1:=⟨f -1,by omega⟩;rw[De (by simp only[LK,L0,OO];exact⟨⟨⟨by decide,g2⟩,by decide⟩,g5⟩) (xQ (a:=HW (zt ns x.1)) (b:=HW (zt ns x.2)) h1 h2)];obtain⟨gs,ln',k1,k2⟩:=Dd fl (fs++[(HW (zt ns x.1),HW (zt ns x.2),ln)]) f (ln+1) (fun m c=>h m (by simp[c])) (by simp only[Ll,Lm]at hf⊢;omega);exact⟨(HW (zt ns x.1),HW (zt ns x.2),ln)::gs,ln',by rw[k1];simp,by simp[k2]⟩
theorem pS{ns:List cG}:∀(fl:List cF) (gs:List bN) (acc:List cF),gs.map (fun g=>(g.1,g.2.1))=fl.map (fun x=>(HW (zt ns x.1),HW (zt ns x.2)))→(∀x∈fl,zH ns (HW (zt ns x.1))=x.1∧zH ns (HW (zt ns x.2))=x.2∧0≤x.1∧0≤x.2)→
  pQ ns gs acc=(some (acc++fl),0)
 |[],[],acc,_,_=>by simp[pQ]
 |[],g::gs,acc,h,_=>by simp at h
 |x::fl,[],acc,h,_=>by simp at h
 |x::fl,g::gs,acc,h,a=>by
  simp only[LG,Kk,Nq]at h
  obtain⟨⟨h1,h2⟩,h3⟩:=h;obtain⟨k1,k2,k3,k4⟩:=a x O_;unfold pQ;rw[h1,h2,k1,k2,OJ O7,pS fl gs _ h3 (fun y b=>a y (by simp[b]))];simp
theorem zJ{ns:List cG}(h:∀i,i<ns.length→zG ns i=0):(∀n∈ns,1≤n.2∧n.2≤7∧yZ n.1=true)∧∀i (hi:i<ns.length),zH ns (ns[i]).1=(i:Int):=by
 have key:∀i (hi:i<ns.length),(1≤(ns[i]).2∧(ns[i]).2≤7∧yZ (ns[i]).1=true)∧∀j (b:j<ns.length),j<i→yY (ns[j]).1 (ns[i]).1=false:=by
  intro i hi
  have h1:=h i hi;have c:ns.getD i (⟨#[]⟩,0)=ns[i]:=by rw[KT,KY hi];rfl
  unfold zG at h1
  rw[c]at h1
  split at h1
  ·cases h1
  split at h1
  ·cases h1
  rename_i h2 h3;simp only[JW,OO,JS,OD,Bool.not_eq_false]at h2
  refine⟨⟨by omega,by omega,h2.1.1⟩,fun j b a=>?_⟩;simp only[Kg,not_exists,not_and,JR]at h3
  exact h3 ns[j] (List.mem_take_iff_getElem.2 ⟨j,by omega,rfl⟩)
 refine⟨fun n hn=>?_,fun i hi=>?_⟩
 ·obtain⟨i,hi,rfl⟩:=LT.1 hn
  exact(key i hi).1
 ·exact vq hi (fun j b a=>(key i hi).2 j b a) (by simp[yY])
theorem pF{α:Type}(g:α→ar)(c:Nat):∀l:List α,(∀x∈l,(g x).length≤c)→((l.map g).flatten).length≤c*l.length
 |[],_=>by simp
 |x::r,h=>by
  have h1:=pF g c r (fun y a=>h y (by simp[a]));have h2:=h x O_;simp only[LG,KO,Ll,Lm,Nat.mul_add,MY];omega
theorem zu{ns:List cG}{i:Nat}(hi:i<ns.length):zt ns (i:Int)=iY (ns[i]).1:=by
 unfold zt;rw[Kb,KT,KY hi];rfl
theorem AL{p:cI}(h:OkPr p):∀x∈p.2,(y0 (zt p.1 x.1)=true∧y0 (zt p.1 x.2)=true)∧zH p.1 (HW (zt p.1 x.1))=x.1∧zH p.1 (HW (zt p.1 x.2))=x.2∧0≤x.1∧0≤x.2:=by
 obtain⟨g1,g2⟩:=zJ h.nodes;intro x c
 obtain⟨h1,h2,h3,h4⟩:=h.flows x c;obtain⟨i,hi⟩:∃i:Nat,x.1=(i:Int):=⟨x.1.toNat,by omega⟩;obtain⟨j,d⟩:∃j:Nat,x.2=(j:Int):=⟨x.2.toNat,by omega⟩;have b:i<p.1.length:=by omega
 have a:j<p.1.length:=by omega
 rw[hi,d,zu b,zu a,HY,HY];exact⟨⟨(g1 _ (Lc b)).2.2,(g1 _ (Lc a)).2.2⟩,g2 i b,g2 j a,by omega,by omega⟩
theorem Cp{p:cI}(h:OkPr p):(Co p).length≤1000:=by
 obtain⟨g1,g2⟩:=zJ h.nodes;have h1:=pF zI 15 p.1 (fun n hn=>by
  obtain⟨k1,k2,k3⟩:=g1 n hn;have:=(I0 k1 k2).2.2.2.2;have:(iY n.1).length≤8:=(zb k3).2.2;simp only[zI,Ll,Lm,Lt];omega)
 have h2:=pF (pH p.1) 23 p.2 (fun x a=>by
  obtain⟨⟨k1,k2⟩,-⟩:=AL h x a;have:=(zb k1).2.2;have:=(zb k2).2.2;simp only[pH,xN,Ll,Lm,Lt];omega)
 have:=h.n;have:=h.f;unfold Co;rw[Ll];omega
theorem BO{p:cI}(h:jL p=0):Bv (Co p)=(p,0,0):=by
 have b:=jM h;have e:=Cp b;obtain⟨g1,g2⟩:=zJ b.nodes;have hn:=AL b;unfold Bv;rw[OJ O7];obtain⟨d,ln',k1,k2⟩:=Df (rest:=(p.2.map (pH p.1)).flatten) p.1 [] (Co p).length 1 g1 Pu;obtain⟨gs,ln2,k3,k4⟩:=Dd (ns:=p.1) p.2 [] d ln' (fun x a=>(hn x a).1) k1;have c:Dc (Co p).length (Co p) 1 [] []=(some (p.1,gs),ln2):=by
  show Dc (Co p).length ((p.1.map zI).flatten++(p.2.map (pH p.1)).flatten) 1 [] []=_;rw[k2,L2,k3,L2]
 rw[c];dsimp only;rw[pS p.2 gs [] k4 (fun x a=>(hn x a).2)];dsimp only;rw[L2,OJ (by simpa using h)]
def twP:cI:=([(⟨#[97]⟩,1),(⟨#[98]⟩,4),(⟨#[120]⟩,5),(⟨#[99]⟩,4),(⟨#[101]⟩,2)],[(0,1),(1,2),(2,1),(2,3),(3,4)])
def HI:ar:=[115,116,97,114,116,32,97,10,116,97,115,107,32,98,10,120,111,114,32,120,10,116,97,115,107,32,99,10,101,110,100,32,101,10,102,108,111,119,32,97,32,98,10,102,108,111,119,32,98,32,120,10,102,108,111,119,32,120,32,98,10,102,108,111,119,32,120,32,99,10,102,108,111,119,32,99,32,101,10]
theorem HM:jL twP=0:=by
 have a:FX twP.1 twP.1.length=[0]:=by decide
 have b:okG (pJ twP.1.length twP.2):=(jF (by decide:jD (pJ twP.1.length twP.2)=0)).1;have hR:jN twP=0:=by
  have:=jO (ns:=twP.1) (fl:=twP.2) a;rw[CS b (by intro x c;simp at c;subst c;decide) 20 O9]at this
  rw[show jN twP=jN (twP.1,twP.2) from rfl,this];decide
 unfold jL;rw[hR,OJ O9,OJ O9,OJ O9,OJ O9,OJ O9]
theorem HQ:Bv HI=(twP,0,0):=by
 rw[show HI=Co twP by decide];exact BO HM
theorem HU:Ga twP=[(1,0,1),(1,2,1),(2,1,1),(2,1,2),(3,3,1),(4,4,0)]:=by decide
theorem HT:F4 twP=([(1,0,1),(1,2,1),(2,1,1),(2,1,2),(3,3,1),(4,4,0)],0):=by
 unfold F4;rw[OJ (by simp[HM]),HU];rfl
def Cf:cJ:=(⟨#[114]⟩,1,(5,1,3,1,0,0,0),(0,0,0,0),.mk 0 0 [],.mk 0 0 [])
def nT:cJ:=(⟨#[114]⟩,1,(3,1,3,0,0,0,0),(0,0,0,0),.mk 0 0 [],.mk 0 0 [])
theorem Ch:jP Cf (zB twP)=0:=by decide+kernel
theorem nU:jP nT (zB twP)=0:=by decide+kernel
theorem HO(m:List Int)(b:m.length=5)(h:∀x∈m,0≤x∧x≤9):jG twP m=0:=
 yL (by rw[HT]) ⟨b,fun j=>by
  by_cases a:j<m.length
  ·rw[KT,KY a];exact h _ (Lc a)
  ·rw[KT,KZ O7];decide⟩
theorem HN{m a:List Int}{k:Int}(b:jG twP m=0)(h:(k<0∨k≥(Ga twP).length)∨m_ twP m ((Ga twP).getD k.toNat (0,0,0))=false→False)(c:pw twP m ((Ga twP).getD k.toNat (0,0,0))=some a):pj twP m k=(a,0):=by
 unfold pj;rw[OJ (by simp[b]),OJ (fun e=>h (.inl e)),OJ (fun e=>h (.inr e)),c];rfl
theorem HK{m:List Int}(a:jG twP m=0):i3 twP m=i6 twP m:=by
 unfold i3;rw[OK a]
theorem HS:n_ twP 1 20=(([[1,0,0,0,0],[0,1,0,0,0],[0,0,1,0,0],[0,0,0,1,0],[0,0,0,0,1],[0,0,0,0,0]],[[(0,1)],[(2,2),(3,3)],[(1,1)],[(4,4)],[(5,5)],[]]),0):=by
 have g:(F4 twP).2=0:=by rw[HT]
 have e:=HO [1,0,0,0,0] rfl O9;have a:=HO [0,1,0,0,0] rfl O9;have d:=HO [0,0,1,0,0] rfl O9;have c:=HO [0,0,0,1,0] rfl O9;have b:=HO [0,0,0,0,1] rfl O9;have f:=HO [0,0,0,0,0] rfl O9;have m:pj twP [1,0,0,0,0] 0=([0,1,0,0,0],0):=HN e (by rw[HU];decide) (by rw[HU];decide);have l:pj twP [0,1,0,0,0] 2=([0,0,1,0,0],0):=HN a (by rw[HU];decide) (by rw[HU];decide);have k:pj twP [0,1,0,0,0] 3=([0,0,0,1,0],0):=HN a (by rw[HU];decide) (by rw[HU];decide);have f3:pj twP [0,0,1,0,0] 1=([0,1,0,0,0],0):=HN d (by rw[HU];decide) (by rw[HU];decide);have j:pj twP [0,0,0,1,0] 4=([0,0,0,0,1],0):=HN c (by rw[HU];decide) (by rw[HU];decide);have i:pj twP [0,0,0,0,1] 5=([0,0,0,0,0],0):=HN b (by rw[HU];decide) (by rw[HU];decide);have c0:i3 twP [1,0,0,0,0]=[0]:=(HK e).trans O9;have c1:i3 twP [0,1,0,0,0]=[2,3]:=(HK a).trans O9;have c2:i3 twP [0,0,1,0,0]=[1]:=(HK d).trans O9;have c3:i3 twP [0,0,0,1,0]=[4]:=(HK c).trans O9;have c4:i3 twP [0,0,0,0,1]=[5]:=(HK b).trans O9;have n:i3 twP [0,0,0,0,0]=[]:=(HK f).trans O9;have h:hZ twP=[1,0,0,0,0]:=by decide
 simp[n_,DQ,g,DE,runB,h,CD,G_,DM,mH,mJ,c0,c1,c2,c3,c4,n,m,l,k,f3,j,i,B5]
theorem HR:(El twP 1 20).2=0:=by
 unfold El;rw[HS,HT];dsimp only;rw[OJ O9,OJ O9]
theorem HJ:(El twP 1 20).1.1=([0],[[1,2],[3],[4],[1,2],[5],[6],[6]],[2,4,4,2,8,16,9223372036854775808],[[0,1,2,3,4,5,6],[0,1,2,3,4,5,6],[0,1,3,4,5,6],[0,2,3,4,5,6],[0,1,2,3,4,5,6],[0,1,2,3,4,5,6]]):=by
 unfold El;rw[HS,HT];dsimp only;rw[OJ O9,OJ O9];decide+kernel
theorem Ci:pY Cf=(.mk 6 0 [.mk 8 0 [.mk 4 0 [.mk 3 3 []],.mk 3 1 []],.mk 11 0 [.mk 4 0 [.mk 3 3 []]]],0):=by rfl
theorem nW:pY nT=(.mk 10 0 [.mk 3 3 []],0):=by rfl
theorem yz{t:Ltl}(h1:(BW t).2=0)(h2:¬(qi (BW t).1 ([],[])).1.length+(qi (BW t).1 ([],[])).2.length>10):(yu t).2=0:=by
 unfold yu;rw[OJ (by simp[h1]),OJ (by show¬(FB _).length+_>10;rw[FC];exact h2)]
theorem Ck:(yu (z_ (.mk 6 0 [.mk 8 0 [.mk 4 0 [.mk 3 3 []],.mk 3 1 []],.mk 11 0 [.mk 4 0 [.mk 3 3 []]]]))).2=0:=yz (by decide+kernel) (by decide+kernel)
theorem nY:(yu (z_ (.mk 10 0 [.mk 3 3 []]))).2=0:=yz (by decide+kernel) (by decide+kernel)
theorem semK_atom{L:Nat→Nat}{n:Int}{i:Nat}:ES L 3 n [] i↔L i >>> n.toNat&&&1=1:=by simp[ES]
theorem Cg:ai (rW twP 1 20) (.mk 6 0 [.mk 8 0 [.mk 4 0 [.mk 3 3 []],.mk 3 1 []],.mk 11 0 [.mk 4 0 [.mk 3 3 []]]]):=by
 unfold rW;rw[HJ];rintro ρ ⟨a,_,_⟩
 have a:ρ 0=0:=by simpa using a
 simp only[EH,ET,ES];refine .inl ⟨0,MM _,?_,fun j h1 h2=>absurd h2 O7⟩;refine semK_atom.2 ?_;simp only[a];decide
def HG(i:Nat):Nat:=if i=0 then 0 else if i % 2=1 then 1 else 3
theorem HH(i:Nat):HG i=0∧i=0∨HG i=1∧i % 2=1∨HG i=3∧i % 2=0:=by
 unfold HG;split
 ·exact .inl ⟨rfl,by assumption⟩
 ·split
  ·exact .inr (.inl ⟨rfl,by assumption⟩)
  ·exact .inr (.inr ⟨rfl,by omega⟩)
theorem nZ:¬ai (rW twP 1 20) (.mk 10 0 [.mk 3 3 []]):=by
 unfold rW;rw[HJ];intro h
 have h1:=h HG ⟨by decide,fun i=>?_,fun F hF i=>?_⟩
 ·simp only[EH,ET,ES]at h1
  obtain⟨j,_,b,_⟩:=h1;have b:ES (fun i=>([2,4,4,2,8,16,9223372036854775808]:List Nat).getD (HG i) 0) 3 3 [] j:=b;have b:=semK_atom.1 b;rcases HH j with⟨e,_⟩|⟨e,_⟩|⟨e,_⟩<;>(rw[e]at b;revert b;decide)
 ·rcases HH i with⟨e,_⟩|⟨e,_⟩|⟨e,_⟩<;>rcases HH (i+1)with⟨a,_⟩|⟨a,_⟩|⟨a,_⟩<;>(rw[e,a];first|(exfalso;omega)|decide)
 ·rcases(by simpa using hF:F=_∨_)with rfl|rfl|rfl|rfl|rfl|rfl
  all_goals
   rcases HH (i+1)with⟨e,_⟩|⟨e,_⟩|⟨e,_⟩<;>rcases HH (i+2)with⟨a,_⟩|⟨a,_⟩|⟨a,_⟩
   all_goals first
    |(exfalso;omega)
    |exact⟨i+1,by omega,by rw[e];decide⟩
    |exact⟨i+2,by omega,by rw[a];decide⟩
theorem Cj{h:Bool}{s l:List Int}{e:Int}(b:JdgR twP Cf 1 20 h s l e):e=0∧h=true:=by
 have a:=b.good HR Ch O9 (by rw[Ci]) (by rw[Ci];exact Ck);obtain⟨_,_,_,_,h1,_⟩:=b.ltl a O9;rw[Ci]at h1
 exact⟨a,h1.2 Cg⟩
theorem nX{h:Bool}{s l:List Int}{e:Int}(b:JdgR twP nT 1 20 h s l e):e=0∧h=false∧0<l.length:=by
 have a:=b.good HR nU O9 (by rw[nW]) (by rw[nW];exact nY);obtain⟨_,_,_,_,h1,_,h2⟩:=b.ltl a O9;rw[nW]at h1 h2
 cases h with
 |true=>exact absurd (h1.1 rfl) nZ
 |false=>
  obtain⟨ps,pl,hP,_,rfl⟩:=h2 rfl;exact⟨a,rfl,by rw[Ls];exact hP.l0⟩
open Go.Shelf
def ye:List (Nat×Nat)→Nat→Nat
 |[],_=>0
 |(a,b)::r,x=>match Nat.beq a x with|true=>b|false=>ye r x
def E5:List (Nat×Nat):=
 (138,81)::
 (143,82)::
 (145,83)::
 (146,15)::
 (166,77)::
 (169,40)::
 (195,146)::
 (197,147)::
 (217,222)::
 (218,148)::
 (219,149)::
 (220,150)::
 (221,41)::
 (224,224)::
 (225,223)::
 (240,144)::
 (260,221)::
 (266,269)::
 (267,225)::
 (268,80)::
 (276,216)::
 (314,270)::
 []
def E_:List (Nat×Nat):=
 (0,0)::
 (3,3)::
 (4,4)::
 (5,5)::
 (9,9)::
 (20,20)::
 (21,21)::
 (31,66)::
 (37,110)::
 (46,275)::
 (51,315)::
 (59,182)::
 (70,109)::
 (72,112)::
 (75,171)::
 (76,172)::
 (80,121)::
 (105,246)::
 (119,325)::
 (127,175)::
 (138,327)::
 (139,328)::
 (146,329)::
 (164,288)::
 []
def E6:List (Nat×Nat):=
 (1,0)::
 (3,2)::
 (4,3)::
 []
def shR:Ren:=⟨fun x=>ye E5 x,fun x=>ye E_ x,fun x=>ye E6 x⟩
set_option maxRecDepth 100000 in
theorem E8:Lays.n145 Tryz.prog shR where
 mixed:=by kernel_rfl
 f145:=(Tryz.func83).trans (Ox some O8)
 f217:=(Tryz.func222).trans (Ox some O8)
 f219:=(Tryz.func149).trans (Ox some O8)
 f220:=(Tryz.func150).trans (Ox some O8)
 f224:=(Tryz.func224).trans (Ox some O8)
 f225:=(Tryz.func223).trans (Ox some O8)
 f266:=(Tryz.func269).trans (Ox some O8)
 f267:=(Tryz.func225).trans (Ox some O8)
 f314:=(Tryz.func270).trans (Ox some O8)
 t3:=NU
 a3:=NA
 z3:=NE
 v3:=Od
 t4:=N0
 a4:=NB
 z4:=NG
 v4:=Of
 t5:=N4
 a5:=Tryz.isAgg5
 z5:=Tryz.sizeOf5
 v5:=Og
 t9:=Oa
 a9:=Tryz.isAgg9
 z9:=Tryz.sizeOf9
 v9:=Oh
 t46:=NS
 a46:=Tryz.isAgg275
 z46:=ND
 v46:=Oc
 t51:=NW
 a51:=Tryz.isAgg315
 z51:=NF
 v51:=Oe
 t59:=Tryz.underlying182
 a59:=Tryz.isAgg182
 z59:=Tryz.sizeOf182
 v59:=Tryz.zeroValue182
 t146:=Tryz.underlying329
 a146:=Tryz.isAgg329
 z146:=Tryz.sizeOf329
 v146:=Tryz.zeroValue329
 g1:=by kernel_rfl
set_option maxRecDepth 100000 in
theorem E9:Lays.n146 Tryz.prog shR where
 mixed:=by kernel_rfl
 f138:=(Tryz.func81).trans (Ox some O8)
 f143:=(Tryz.func82).trans (Ox some O8)
 f146:=(Tryz.func15).trans (Ox some O8)
 f195:=(Tryz.func146).trans (Ox some O8)
 f197:=(Tryz.func147).trans (Ox some O8)
 f217:=(Tryz.func222).trans (Ox some O8)
 f218:=(Tryz.func148).trans (Ox some O8)
 f219:=(Tryz.func149).trans (Ox some O8)
 f221:=(Tryz.func41).trans (Ox some O8)
 f224:=(Tryz.func224).trans (Ox some O8)
 f225:=(Tryz.func223).trans (Ox some O8)
 f260:=(Tryz.func221).trans (Ox some O8)
 f266:=(Tryz.func269).trans (Ox some O8)
 f267:=(Tryz.func225).trans (Ox some O8)
 f268:=(Tryz.func80).trans (Ox some O8)
 f314:=(Tryz.func270).trans (Ox some O8)
 t0:=by kernel_rfl
 a0:=fun w=>rfl
 z0:=fun w=>rfl
 v0:=fun w=>rfl
 t3:=NU
 a3:=NA
 z3:=NE
 v3:=Od
 t4:=N0
 a4:=NB
 z4:=NG
 v4:=Of
 t5:=N4
 a5:=Tryz.isAgg5
 z5:=Tryz.sizeOf5
 v5:=Og
 t9:=Oa
 a9:=Tryz.isAgg9
 z9:=Tryz.sizeOf9
 v9:=Oh
 t21:=Tryz.underlying21
 a21:=Tryz.isAgg21
 z21:=Tryz.sizeOf21
 v21:=Tryz.zeroValue21
 t31:=N7
 a31:=Tryz.isAgg66
 z31:=Tryz.sizeOf66
 v31:=Tryz.zeroValue66
 t46:=NS
 a46:=Tryz.isAgg275
 z46:=ND
 v46:=Oc
 t51:=NW
 a51:=Tryz.isAgg315
 z51:=NF
 v51:=Oe
 t105:=Tryz.underlying246
 a105:=Tryz.isAgg246
 z105:=Tryz.sizeOf246
 v105:=Tryz.zeroValue246
 t119:=Tryz.underlying325
 a119:=Tryz.isAgg325
 z119:=Tryz.sizeOf325
 t138:=Tryz.underlying327
 a138:=Tryz.isAgg327
 z138:=Tryz.sizeOf327
 v138:=Tryz.zeroValue327
 t139:=Tryz.underlying328
 a139:=Tryz.isAgg328
 z139:=Tryz.sizeOf328
 v139:=Tryz.zeroValue328
 t146:=Tryz.underlying329
 a146:=Tryz.isAgg329
 z146:=Tryz.sizeOf329
 v146:=Tryz.zeroValue329
 g1:=by kernel_rfl
 g3:=by kernel_rfl
 g4:=by kernel_rfl
theorem E7:(Tryz.prog.info? (shR.t 9)).map (fun i=>(i.zero,i.size,i.bytes))=some (some (.string ByteArray.empty),1,16):=by kernel_rfl
def MaxH(w:World):Prop:=∃m,w.cell? ⟨0,0,none⟩=some (.int .i64 m)
theorem yO{w:World}(h:w.ShapedOpen Tryz.prog):MaxH w:=
 Go.Proofs.cell_of_shapedOpen_int (zero:=#[Py 0]) (t:=3) h (OQ O8) O8 rfl O8 O8 NU
theorem vK(c:UInt8):∀l:ar,(c∉l∧Lib.index l [c]= -1)∨∃a b,l=a++c::b∧c∉a∧Lib.index l [c]=(a.length:Int)
 |[]=>.inl ⟨by simp,by simp[Lib.index]⟩
 |d::l=>by
  by_cases h:d=c
  ·subst h
   exact .inr ⟨[],l,rfl,by simp,by simp[Lib.index,List.isPrefixOf]⟩
  ·have f:List.isPrefixOf [c] (d::l)=false:=by
    have:(c==d)=false:=by simpa using fun e:c=d=>h e.symm
    simp[List.isPrefixOf,this]
   rcases vK c l with⟨h1,h2⟩|⟨a,b,rfl,h1,h2⟩
   ·refine .inl ⟨by simp[h1,Nf h],?_⟩
    unfold Lib.index;rw[f,h2];rfl
   ·refine .inr ⟨d::a,b,rfl,by simp[h1,Nf h],?_⟩
    unfold Lib.index;have hn:((a.length:Int)== -1)=false:=by
     rw[Oo];omega
    rw[f,h2,hn];simp
theorem lj{c:UInt8}:∀{s:ar},c∉s→k_ c s=none
 |[],_=>rfl
 |b::l,h=>by
  have d:¬b=c:=fun e=>h (by simp[e])
  have a:c∉l:=fun e=>h (by simp[e])
  unfold k_;rw[OJ d,lj a];rfl
def lq(c:UInt8)(s:ar):ar×ar×Bool:=match k_ c s with
 |none=>(s,[],false)
 |some x=>(x.1,x.2,true)
theorem k9(c:UInt8)(s:ar):Lib.cut s [c]=lq c s:=by
 unfold Lib.cut lq;rcases vK c s with⟨h1,h2⟩|⟨a,b,rfl,h1,h2⟩
 ·rw[h2,lj h1];rfl
 ·rw[h2,lh h1,OK O7]
  simp
theorem FI(c:UInt8):∀(n:Nat) (s:ar),s.length≤n→∀k,Lib.count s [c]≤k→Lib.splitK [c] 0 k s=FJ c s:=by
 intro n
 induction n with
 |zero=>
  intro s d k g
  have:s=[]:=Lp.1 O7;subst this;cases k with
  |zero=>rfl
  |succ k=>simp[Lib.splitK,Lib.index,FJ]
 |succ n f=>
  intro s d k g
  rcases vK c s with⟨h1,h2⟩|⟨a,b,rfl,h1,h2⟩
  ·rw[FN h1]
   cases k with
   |zero=>rfl
   |succ k=>unfold Lib.splitK;rw[h2];rfl
  ·have h:=Lib.count_hit (sub:=[c]) O_ h2
   have hd:(a++c::b).drop (a.length+[c].length)=b:=by simp
   rw[hd]at h
   rw[FK h1];cases k with
   |zero=>omega
   |succ k=>
    unfold Lib.splitK;have hn:((a.length:Int)== -1)=false:=by
     rw[Oo];omega
    rw[h2,hn];simp only[Kb,JP,OI];rw[hd,f b (by simp at d;omega) k O7];simp
theorem FH(s:ar):Lib.splitB (HW [32]) 0 (Lib.countB (HW s) (HW [32])) (HW s)=(FJ 32 s).map HW:=by
 have h:=Lib.splitB_data (HW [32]) 0 (Lib.countB (HW s) (HW [32])) (HW s);rw[show(HW [32]).data.toList=[32] from rfl,HZ,FI 32 _ s Pu (Lib.countB (HW s) (HW [32])) (MI rfl)]at h
 rw[←h,LH];have:(HW∘fun x:ByteArray=>x.data.toList)=id:=by funext x;exact HY x
 rw[this,List.map_id]
theorem kL(s:ar):Lib.countB (HW s) (HW [32])+1=(FJ 32 s).length:=by
 have h:=Lib.splitB_all (HW [32]) O9 0 _ (HW s) rfl;rw[FH,Ls]at h
 omega
section
variable {α β:Type}[Rep α][Rep β]{w w':World}{B B':Nat}{e e':TypeId}{F F':Nat→Prop}{v v':Value}{xs:List α}{ys:List β}
theorem Bj(h:Own w B e F v xs)(a:Own w B' e' F' v' ys)(hn:e≠e'):∀g,v.ownBlock=some g→v'.ownBlock≠some g:=by
 intro g h1 h2
 rcases h with⟨rfl,_⟩|⟨g1,off,cap,cur,rfl,h⟩
 ·cases h1
 rcases a with⟨rfl,_⟩|⟨g2,off',cap',cur',rfl,a⟩
 ·cases h2
 injection h1 with h1
 injection h2 with h2
 dsimp only at h1 h2
 subst h1;subst h2;have:=h.blk.symm.trans a.blk
 injection this with this
 injection this with _ h3 _
 exact hn h3
theorem Bl{b:Nat}{T:TypeId}{cells:List Value}(h:Own w B e F v xs)(a:Blk w b T cells)(hn:e≠T):v.ownBlock≠some b:=by
 intro h1
 rcases h with⟨rfl,_⟩|⟨g1,off,cap,cur,rfl,h⟩
 ·cases h1
 injection h1 with h1
 dsimp only at h1
 subst h1;have:=h.blk.symm.trans a
 injection this with this
 injection this with _ h3 _
 exact hn h3
end
theorem MaxH.ext{w w':World}(h:MaxH w)(c:Ext w w'):MaxH w':=by
 obtain⟨m,b⟩:=h;refine⟨m,?_⟩;have a:0<w.heap.size:=by
  apply J1;intro hn
  simp[World.cell?,Ju (MK hn)]at b
 rw[c.cell (p:=⟨0,0,none⟩) a];exact b
theorem ol(w:World)(n:Nat):Ext w (w.drewN n):=⟨rfl,rfl,rfl,MM _,fun _ _=>rfl⟩
theorem lr(w:World)(s:ar)(c:s.length≤100000)(b:MaxH w):Rt Tryz.prog 83 [tV s,tV [10]].toArray w fun v w'=>v=.tuple ⟨[tV (lq 10 s).1,tV (lq 10 s).2.1,.bool (lq 10 s).2.2]⟩∧Ext w w':=by
 obtain⟨m,a⟩:=b;refine J0 (Any.strings_Cut E8 (HW s) (HW [10]) m w (by rw[H0];omega) a) ?_;rintro e w' ⟨rfl,n,rfl⟩
 refine⟨_,rfl,?_,ol w n⟩;rw[show(HW [10]).data.toList=[10] from rfl,HZ,k9];rfl
theorem FO(w:World)(s:ar)(q:s.length≤100000)(p:MaxH w):Rt Tryz.prog 15 [tV s,tV [32]].toArray w fun v w'=>(∃ao cap,v=.slice ao ((FJ 32 s).map HW).length cap∧Sl w' (fun b=>b=w.heap.size∧b<w'.heap.size) ao cap ((FJ 32 s).map HW))∧Ext w w':=by
 obtain⟨m,g⟩:=p;refine J0 (Any.strings_Split E9 E7 (HW s) (HW [32]) m w (by rw[H0];omega) g O9) ?_;rintro e w' ⟨rfl,rfl⟩
 have k:=kL s;rw[FH,k];have c:∀x∈FJ 32 s,x.length≤s.length:=by
  intro x f
  have h:=Lib.splitB_data (HW [32]) 0 (Lib.countB (HW s) (HW [32])) (HW s);clear h;have:∀(l:List ar),x∈l→x.length≤(wm 32 l).length:=by
   intro l
   induction l with
   |nil=>intro h;cases h
   |cons y r d=>
    intro h
    cases r with
    |nil=>simp only[wm];rw[L0.1 h];exact MM _
    |cons z r=>
     simp only[wm,Ll,Lm];rcases LN.1 h with rfl|h
     ·omega
     ·have:=d h;omega
  have:=this _ f;rwa[wo]at this
 have hn:(FJ 32 s).length≤100001:=by
  have:=Lib.countB_le (HW [32]) O9 _ (HW s) Pu;rw[H0]at this
  omega
 refine⟨_,rfl,⟨_,_,by rw[Ls],⟨by rw[Ls];exact MM _,by unfold maxLen;omega,(fun h=>by cases h),fun i hi=>?_⟩⟩,Ext.alloc w _⟩;rw[Ls]at hi
 refine⟨w.heap.size,0,rfl,⟨rfl,(Blk.alloc w (((FJ 32 s).map HW).map Value.string) 9).lt⟩,[.string (HW (FJ 32 s)[i])],?_,?_⟩
 ·have o:Blk (w.alloc (.cells (((FJ 32 s).map HW).map Value.string).toArray 9)) w.heap.size 9 (((FJ 32 s).map HW).map Value.string):=Blk.alloc w _ _
  intro j u a
  have n:j=0:=by
   cases j with
   |zero=>rfl
   |succ j=>simp at a
  subst n;refine o.cell ?_;simp only[List.getElem?_cons_zero,No]at a
  rw[←a];show(((FJ 32 s).map HW).map Value.string)[0+i*1+0]?=_;simp[KY hi]
 ·rw[Lb]
  obtain⟨cs,h1,h2⟩:=Rd.mkStr (w.alloc (.cells (((FJ 32 s).map HW).map Value.string).toArray 9)) (fun b=>b=w.heap.size∧b<(w.alloc (.cells (((FJ 32 s).map HW).map Value.string).toArray 9)).heap.size) (HW (FJ 32 s)[i]) (by
   rw[H0];have:=c _ (Lc hi);unfold maxLen;omega)
  obtain⟨v,rfl⟩:∃v,cs=[v]:=by
   have:=Rep.len h2
   match cs,this with
   |[v],_=>exact⟨v,rfl⟩
  have:v=.string (HW (FJ 32 s)[i]):=h1.symm;rw[←this];exact h2
instance ul:IsAr Tryz.prog 295 8 9:=⟨Tryz.underlying295⟩
abbrev zE:Value:=.string ⟨#[]⟩
instance um:IsZC Tryz.prog 295 [zE,zE,zE,zE,zE,zE,zE,zE]:=IsZC.of (z:=.agg #[zE,zE,zE,zE,zE,zE,zE,zE]) O8 rfl
abbrev IY:List Value:=[zE,tV (IZ 1),tV (IZ 2),tV (IZ 3),tV (IZ 4),tV (IZ 5),tV (IZ 6),tV (IZ 7)]
theorem CM(w0:World){k:Int}(h1:1≤k)(h2:k≤7):Rt Tryz.prog 151 [Py k].toArray w0 fun v w'=>v=tV (IZ k)∧Ext w0 w':=by
 obtain⟨ki,rfl,b,a⟩:∃i:Nat,k=(i:Int)∧i<8∧Af IY i=some (tV (IZ k)):=by
  obtain rfl|rfl|rfl|rfl|rfl|rfl|rfl:k=1∨k=2∨k=3∨k=4∨k=5∨k=6∨k=7:=by omega
  ·exact⟨1,rfl,by decide,rfl⟩
  ·exact⟨2,rfl,by decide,rfl⟩
  ·exact⟨3,rfl,by decide,rfl⟩
  ·exact⟨4,rfl,by decide,rfl⟩
  ·exact⟨5,rfl,by decide,rfl⟩
  ·exact⟨6,rfl,by decide,rfl⟩
  ·exact⟨7,rfl,by decide,rfl⟩
 generalize IZ (ki:Int)=sg at*
 refine dD Tryz.func151 Tryz.ntmps151 rfl rfl ?_;refine Qt ?_;refine dY (out:=IY) rfl rfl rfl rfl ?_;refine Ri ?_;refine eJ rfl rfl rfl rfl b a ?_;refine PK ?_;exact be rfl rfl ⟨rfl,Ext.refl _⟩
section
variable {P:Program}{Q:Exit→Act→World→Prop}{n:Nat}{σ:Sg}{w:World}{L rest:List Oper}{d:Nat}{op:Op}{ty:TypeId}{pos:String}{af:Array Edge}{g:Option (Nat×Bool)}{t yt:TypeId}{x y ix:Operand}
end
instance tU:IsT Tryz.prog 186 bN:=IsT.of O8 Tryz.underlying186 rfl
instance ud:IsC Tryz.prog 186 3 true:=IsC.of O8 Tryz.underlying186 rfl
instance ue:IsFd Tryz.prog 186 0 0:=IsFd.of O8
instance uf:IsFd Tryz.prog 186 1 1:=IsFd.of O8
instance ug:IsFd Tryz.prog 186 2 2:=IsFd.of O8
instance uh:IsZC Tryz.prog 186 [.string ⟨#[]⟩,.string ⟨#[]⟩,Py 0]:=IsZC.of (z:=.agg #[.string ⟨#[]⟩,.string ⟨#[]⟩,Py 0]) O8 rfl
instance ui:IsBd Tryz.prog 186 [(0,1),(1,1),(2,1)]:=IsBd.of O8
instance uj:IsZ Tryz.prog 186 ((⟨#[]⟩,⟨#[]⟩,0):bN) 40:=IsZ.of (z:=.agg #[.string ⟨#[]⟩,.string ⟨#[]⟩,Py 0]) O8 (fun w F=>⟨[.string ⟨#[]⟩],[.string ⟨#[]⟩,Py 0],rfl,⟨rfl,by decide⟩,⟨[.string ⟨#[]⟩],[Py 0],rfl,⟨rfl,by decide⟩,rfl⟩⟩)
instance uk:IsS Tryz.prog 179 186:=⟨Tryz.underlying179⟩
instance tX:IsC Tryz.prog 179 1 false:=IsC.of O8 Tryz.underlying179 rfl
instance tY:IsFd Tryz.prog 181 0 0:=IsFd.of O8
instance tZ:IsFd Tryz.prog 181 1 2:=IsFd.of O8
instance t6:IsZC Tryz.prog 181 [.slice none 0 0,.slice none 0 0,.slice none 0 0]:=IsZC.of (z:=.agg #[.slice none 0 0,.slice none 0 0,.slice none 0 0]) O8 rfl
instance t7:IsBd Tryz.prog 181 [(0,2),(2,1)]:=IsBd.of O8
instance ub:IsF Tryz.prog 151:=⟨_,Tryz.func151,rfl,by decide⟩
instance t8:IsF Tryz.prog 84:=⟨_,Tryz.func84,rfl,by decide⟩
instance t_:IsF Tryz.prog 85:=⟨_,Tryz.func85,rfl,by decide⟩
instance ua:IsF Tryz.prog 153:=⟨_,Tryz.func153,rfl,by decide⟩
structure PRd(w:World)(B b:Nat)(ns:List cG)(fs:List bN)(pf:List cF)(vn vp vf:Value):Prop where
 blk:Blk w b 181 [vn,vp,vf]
 ge:B≤b
 own:Own w B 123 cZ vn ns
 opf:Own w B 48 cZ vp pf
 ofl:Own w B 186 cZ vf fs
section
variable {w w' w2:World}{B b:Nat}{ns:List cG}{fs:List bN}{pf:List cF}{vn vp vf:Value}
theorem PRd.ext(h:PRd w B b ns fs pf vn vp vf)(a:Ext w w'):PRd w' B b ns fs pf vn vp vf:=⟨h.blk.ext a,h.ge,h.own.extN a,h.opf.extN a,h.ofl.extN a⟩
theorem PRd.dis(h:PRd w B b ns fs pf vn vp vf):(vn.ownBlock≠some b∧vp.ownBlock≠some b∧vf.ownBlock≠some b)∧(∀g,vn.ownBlock=some g→vf.ownBlock≠some g)∧(∀g,vp.ownBlock=some g→vf.ownBlock≠some g)∧∀g,vp.ownBlock=some g→vn.ownBlock≠some g:=
 ⟨⟨Bl h.own h.blk O9,Bl h.opf h.blk O9,Bl h.ofl h.blk O9⟩,Bj h.own h.ofl O9,Bj h.opf h.ofl O9,Bj h.opf h.own O9⟩
theorem PRd.pushF(h:PRd w B b ns fs pf vn vp vf){fs':List bN}{vf':Value}(d:Own w' B 186 cZ vf' fs')(f:w.grownBy w' vf.ownBlock)(i:Blk w2 b 181 [vn,vp,vf'])(a:w'.grownBy w2 (some b))(c:Blk w' b 181 [vn,vp,vf]):
  PRd w2 B b ns fs' pf vn vp vf':=by
 obtain⟨⟨d1,d2,d3⟩,d4,d5,l⟩:=h.dis;have e:=Bl d c O9;exact⟨i,h.ge,(h.own.keptN f (fun g k e=>d4 g k e.symm)).keptN a (fun g k e=>d1 (by rw[k,e])),(h.opf.keptN f (fun g k e=>d5 g k e.symm)).keptN a (fun g k e=>d2 (by rw[k,e])),d.keptN a (fun g k j=>e (by rw[k,j]))⟩
theorem PRd.pushN(h:PRd w B b ns fs pf vn vp vf){ns':List cG}{vn':Value}(d:Own w' B 123 cZ vn' ns')(f:w.grownBy w' vn.ownBlock)(i:Blk w2 b 181 [vn',vp,vf])(a:w'.grownBy w2 (some b))(c:Blk w' b 181 [vn,vp,vf]):
  PRd w2 B b ns' fs pf vn' vp vf:=by
 obtain⟨⟨d1,d2,d3⟩,d4,d5,l⟩:=h.dis;have e:=Bl d c O9;exact⟨i,h.ge,d.keptN a (fun g k j=>e (by rw[k,j])),(h.opf.keptN f (fun g k e=>l g k e.symm)).keptN a (fun g k e=>d2 (by rw[k,e])),(h.ofl.keptN f (fun g k e=>d4 g e.symm k)).keptN a (fun g k e=>d3 (by rw[k,e]))⟩
theorem PRd.pushP(h:PRd w B b ns fs pf vn vp vf){pf':List cF}{vp':Value}(d:Own w' B 48 cZ vp' pf')(f:w.grownBy w' vp.ownBlock)(i:Blk w2 b 181 [vn,vp',vf])(a:w'.grownBy w2 (some b))(c:Blk w' b 181 [vn,vp,vf]):
  PRd w2 B b ns fs pf' vn vp' vf:=by
 obtain⟨⟨d1,d2,d3⟩,d4,d5,l⟩:=h.dis;have e:=Bl d c O9;exact⟨i,h.ge,(h.own.keptN f (fun g k e=>l g e.symm k)).keptN a (fun g k e=>d1 (by rw[k,e])),d.keptN a (fun g k j=>e (by rw[k,j])),(h.ofl.keptN f (fun g k e=>d5 g e.symm k)).keptN a (fun g k e=>d3 (by rw[k,e]))⟩
end
theorem xg{a:ar}(h:∀j:Nat,1≤j→j<8→a≠IZ j):xf a=0:=by
 unfold xf;rw[OJ (show¬a=IZ 1 from h 1 O9 O9),OJ (show¬a=IZ 2 from h 2 O9 O9),OJ (show¬a=IZ 3 from h 3 O9 O9),OJ (show¬a=IZ 4 from h 4 O9 O9),OJ (show¬a=IZ 5 from h 5 O9 O9),OJ (show¬a=IZ 6 from h 6 O9 O9),OJ (show¬a=IZ 7 from h 7 O9 O9)]
def cQ(w w':World)(B b:Nat)(pf:List cF)(vp:Value)(v:Value):Option (List cG×List bN)→Prop
 |none=>v=.bool false∧Ext w w'
 |some x=>v=.bool true∧Below B w w'∧∃vn vf,PRd w' B b x.1 x.2 pf vn vp vf
theorem CZ(w:World)(F:Nat→Prop)(s:ByteArray)(k:Int)(h:s.size≤maxLen):Rd w F (.agg [.string s,Py k].toArray) ((s,k):cG):=Rd.mkPr (c1:=[.string s]) (c2:=[Py k]) ⟨rfl,h⟩ rfl
set_option maxHeartbeats 2000000 in
theorem xS(w:World){B b:Nat}{ns:List cG}{fs:List bN}{vn vf:Value}{s:ar}{ln:Int}(hM:MaxH w)(h:PRd w B b ns fs [] vn (.slice none 0 0) vf)(hs:s.length≤4096)(hl:ns.length+fs.length≤100000):
  Rt Tryz.prog 84 [Pz b,tV s,Py ln].toArray w fun v w'=>cQ w w' B b [] (.slice none 0 0) v (xO ns fs s ln):=by
 refine dF Tryz.func84 Tryz.ntmps84 rfl rfl ?_;refine Qt ?_;refine WL.call rfl rfl rfl (FO w s O7 hM) ?_;rintro _ w1 ⟨⟨ao,cap,rfl,I⟩,e1⟩
 have h1:=h.ext e1;have m:=FL 32 s;unfold xO;generalize FJ 32 s=ws at*
 have Z:(ws.map HW).length=ws.length:=Ls ..;have h0:0<(ws.map HW).length:=by rw[Z];exact Lu.2 m
 refine Qt ?_;refine eC (i:=0) rfl rfl rfl rfl rfl I h0 Pg (fun u q a=>?_);have d:∀i (h:i<(ws.map HW).length),(ws.map HW)[i]=HW (ws.getD i []):=fun i h=>by
  rw[Lb,KT,KY (by rwa[Z]at h)];rfl
 obtain⟨rfl,-⟩:=a.str;rw[d 0 h0];clear a;refine PN ?_;have hd0:=h1.dis;apply CW.cond rfl<;>intro h
 ·have hF:ws.getD 0 []=pI:=Oq.1 h
  clear h;rw[OK hF];refine Q3 ?_;cases h3:(((ws.map HW).length:Int) != 3)with
  |true=>
   have h3:ws.length≠3:=by simp at h3;omega
   rw[OJ (fun e=>h3 e.1)];refine Q6 ?_;exact be rfl rfl ⟨rfl,e1⟩
  |false=>
  have h3:ws.length=3:=by simp at h3;omega
  have J:1<(ws.map HW).length:=by omega
  have i2:2<(ws.map HW).length:=by omega
  refine Ri ?_;refine eC (i:=1) rfl rfl rfl rfl rfl I J Pg (fun u q1 a=>?_);obtain⟨rfl,-⟩:=a.str;rw[d 1 J];clear a;skip;refine WL.call rfl rfl rfl (cX w1 _) ?_;rintro _ w2 ⟨rfl,R⟩
  have I:=I.mono (F':=fun b=>b=w.heap.size∧b<w2.heap.size) (fun b f=>R.block b f.2) (fun b f=>⟨f.1,MQ f.2 R.size⟩);have h2:=h1.ext R;have hE2:=e1.trans R;have A:yZ (HW (ws.getD 1 []))=y0 (ws.getD 1 []):=rfl;rw[A];cases hn1:y0 (ws.getD 1 [])with
  |false=>
   rw[OJ (fun e=>by cases e.2.1)];refine Q6 ?_;exact be rfl rfl ⟨rfl,hE2⟩
  |true=>
  refine Ri ?_;refine eC (i:=2) rfl rfl rfl rfl rfl I i2 Pg (fun u q2 a=>?_);obtain⟨rfl,-⟩:=a.str;rw[d 2 i2];clear a;skip;refine WL.call rfl rfl rfl (cX w2 _) ?_;rintro _ l ⟨rfl,x⟩
  have I:=I.mono (F':=fun b=>b=w.heap.size∧b<l.heap.size) (fun b f=>x.block b f.2) (fun b f=>⟨f.1,MQ f.2 x.size⟩);have X:=h2.ext x;have H:=hE2.trans x;have hnb2:yZ (HW (ws.getD 2 []))=y0 (ws.getD 2 []):=rfl;rw[hnb2];cases hn2:y0 (ws.getD 2 [])with
  |false=>
   rw[OJ (fun e=>by cases e.2.2)];refine Q6 ?_;exact be rfl rfl ⟨rfl,H⟩
  |true=>
  rw[OK ⟨h3,rfl,rfl⟩];have O:=Ext.drew l;have Q:=X.ext O;have E:=X.dis;have G:=X.blk.lt;have T:∀g,vf.ownBlock=some g→g<w.heap.size:=fun g hg=>(h.ofl.lt g hg).2.1
  have hKs:∀u,(fun z:World=>∀c,c<l.heap.size→vf.ownBlock≠some c→z.heap[c]?=(drew l).heap[c]?) u→u.heap[b]?=(drew l).heap[b]?:=fun u a=>a _ G E.1.2.2
  have N:∀u,(fun z:World=>∀c,c<l.heap.size→vf.ownBlock≠some c→z.heap[c]?=(drew l).heap[c]?) u→∀c,(c=w.heap.size∧c<l.heap.size)→u.heap[c]?=(drew l).heap[c]?:=fun u a c n=>a c n.2 (fun e=>by have:=T _ e;omega)
  have hb3:=Q.blk;have K:=I.mono (w':=drew l) (F':=fun c=>c=w.heap.size∧c<l.heap.size) (fun c n=>O.block c n.2) (fun c n=>n);refine Qv ?_;refine aE (fun z:World=>∀c,c<l.heap.size→vf.ownBlock≠some c→z.heap[c]?=(drew l).heap[c]?) [(0,true),(1,true),(2,true),(3,true),(4,true),(5,true),(6,true),(7,true),(8,true),(9,true),(10,true),(11,true),(12,true),(13,false),(14,false),(15,false),(16,false)] 17 mixed O8 (fun _ _ _=>rfl) ?_;refine RJ ?_;refine bY (k:=1) N rfl rfl rfl rfl rfl rfl rfl K J Pg (fun u r1 a=>?_);obtain⟨rfl,y⟩:=a.str;rw[d 1 J]at y⊢
  refine RE ?_;refine bY (k:=2) N rfl rfl rfl rfl rfl rfl rfl K i2 Pg (fun u r2 a=>?_);obtain⟨rfl,Y⟩:=a.str;rw[d 2 i2]at Y⊢
  refine RM ?_;refine bV (α:=bN) (F:=cZ) (bytes:=40) (yv:=((HW (ws.getD 1 []),HW (ws.getD 2 []),ln):bN)) rfl rfl rfl rfl Pg rfl rfl Pg Q.ofl
   (Rd.mkPr (c1:=[.string (HW (ws.getD 1 []))]) (c2:=[.string (HW (ws.getD 2 [])),Py ln]) ⟨rfl,y⟩ ⟨[.string (HW (ws.getD 2 []))],[Py ln],rfl,⟨rfl,Y⟩,rfl⟩)
   (by have:=h.ge;have:=O.size;have:b<l.heap.size:=G;omega) Pj O9 Pb O7
   (fun z hz c n m=>hz.block c n (fun e=>m e.symm)) (fun vf2 o q3 ho4 C hnb4=>?_)
  have M:=hb3.kept C (fun e=>E.1.2.2 e.symm);have hS4:(fun z:World=>∀c,c<l.heap.size→vf.ownBlock≠some c→z.heap[c]?=(drew l).heap[c]?) o:=fun c n m=>C.block c n (fun e=>m e.symm)
  obtain⟨fo,fcap,hv4⟩:=ho4.val;subst hv4;refine cr rfl (fh rfl rfl rfl (WL.nil (a_ hS4 ?_)));refine cr rfl (eG rfl rfl rfl (WL.nil (a_ hS4 (HL.nil ?_))));refine bp rfl (WL.st rfl rfl rfl M rfl rfl Pr (fun w5 L p=>WL.nil (bu ?_)));have r:B≤w.heap.size:=MJ (MP h.ge h.blk.lt);have U:=(H.trans O).mono r;have hX5:=(U.grown C (MN r U.size) (fun k e=>(Q.ofl.lt k e).1)).grown p (MN (MN r U.size) C.size) (fun k e=>by cases e;exact h.ge);refine QO ?_;exact be rfl rfl ⟨rfl,hX5,vn,_,Q.pushF ho4 C L p M⟩
 ·have hF:¬ws.getD 0 []=pI:=fun e=>by rw[e]at h;exact absurd h O9
  clear h;rw[OJ hF];refine PT ?_;refine CW.loop (S:=Nat) (fun k=>[(0,Pz b),(7,.slice ao (ws.map HW).length cap),(8,Py (k:Int))])
   (fun k w'=>1≤k∧k≤8∧(∀j:Nat,1≤j→j<k→ws.getD 0 []≠IZ j)∧Ext w1 w') (fun k=>8 -k) 1 O6 ⟨by omega,by omega,(fun j h1 h2=>by omega),Ext.refl _⟩ ?_
  rintro k w2 ⟨hk1,hk8,hno,R⟩
  refine Qt ?_;apply CW.cond rfl<;>intro h
  ·have hk7:k≤7:=by simp at h;omega
   clear h;have hw2:=I.mono (F':=fun b=>b=w.heap.size∧b<w2.heap.size) (fun b f=>R.block b f.2) (fun b f=>⟨f.1,MQ f.2 R.size⟩);refine Rh ?_;refine dk (i:=0) rfl rfl rfl rfl rfl (fun _ h=>h.2) hw2 h0 Pg (fun u q0 a=>?_);obtain⟨rfl,-⟩:=a.str;rw[d 0 h0];clear a;refine Rl ?_;refine QL.call rfl rfl rfl (fun w' _=>CM w' O7 O7) ?_;refine Rl ?_;refine QL.nil (fun l x=>?_);have x:=R.trans x;refine PC ?_;apply CW.cond rfl<;>intro h
   ·have hW:ws.getD 0 []=IZ k:=Oq.1 h
    clear h;have hk:xf (ws.getD 0 [])=k:=by rw[hW];exact(I0 O7 O7).1
    rw[hk,OJ O7];have hw3:=I.mono (F':=fun b=>b=w.heap.size∧b<l.heap.size) (fun b f=>x.block b f.2) (fun b f=>⟨f.1,MQ f.2 x.size⟩);have H:=e1.trans x;obtain⟨fo0,fc0,hvf⟩:=h1.ofl.val;subst hvf;have h3:=h1.ext x;refine Q3 ?_;cases t:(((ws.map HW).length:Int) != 2)with
    |true=>
     have t:ws.length≠2:=by simp at t;omega
     rw[OJ (fun e=>t e.1)];refine PM ?_;exact be rfl rfl ⟨rfl,H⟩
    |false=>
    have t:ws.length=2:=by simp at t;omega
    have J:1<(ws.map HW).length:=by omega
    refine Ri ?_;refine eC (i:=1) rfl rfl rfl rfl rfl hw3 J Pg (fun u q1 a=>?_);obtain⟨rfl,-⟩:=a.str;rw[d 1 J];clear a;skip;refine WL.call rfl rfl rfl (cX l _) ?_;rintro _ o ⟨rfl,e4⟩
    have hw4:=hw3.mono (F':=fun b=>b=w.heap.size∧b<o.heap.size) (fun b f=>e4.block b f.2) (fun b f=>⟨f.1,MQ f.2 e4.size⟩);have h4:=h3.ext e4;have W:=H.trans e4;have A:yZ (HW (ws.getD 1 []))=y0 (ws.getD 1 []):=rfl;rw[A];cases hn1:y0 (ws.getD 1 [])with
    |false=>
     rw[OJ (fun e=>by cases e.2.1)];refine PM ?_;exact be rfl rfl ⟨rfl,W⟩
    |true=>
    have hb4':=h4.blk;refine QE ?_;cases D:decide ((fs.length:Int)>0)with
    |true=>
     rw[OJ (fun e=>by rw[e.2.2]at D;exact absurd D O9)];refine QK ?_;exact be rfl rfl ⟨rfl,W⟩
    |false=>
    have D:fs=[]:=Lp.1 (by have:=OP D;omega);rw[OK ⟨t,rfl,D⟩];clear hb4';have O:=Ext.drew o;have P:=h4.ext O;have E:=h4.dis;have G:=h4.blk.lt;obtain⟨no0,nc0,hvn⟩:=h1.own.val;subst hvn;have T:∀g,(Value.slice no0 ns.length nc0).ownBlock=some g→g<w.heap.size:=fun g hg=>(h.own.lt g hg).2.1
    have hKs:∀u,(fun z:World=>∀c,c<o.heap.size→(Value.slice no0 ns.length nc0).ownBlock≠some c→z.heap[c]?=(drew o).heap[c]?) u→u.heap[b]?=(drew o).heap[b]?:=fun u a=>a _ G E.1.1
    have N:∀u,(fun z:World=>∀c,c<o.heap.size→(Value.slice no0 ns.length nc0).ownBlock≠some c→z.heap[c]?=(drew o).heap[c]?) u→∀c,(c=w.heap.size∧c<o.heap.size)→u.heap[c]?=(drew o).heap[c]?:=fun u a c n=>a c n.2 (fun e=>by have:=T _ e;omega)
    have M:=P.blk;have K:=hw4.mono (w':=drew o) (F':=fun c=>c=w.heap.size∧c<o.heap.size) (fun c n=>O.block c n.2) (fun c n=>n);refine Q2 ?_;refine aE (fun z:World=>∀c,c<o.heap.size→(Value.slice no0 ns.length nc0).ownBlock≠some c→z.heap[c]?=(drew o).heap[c]?) [(0,true),(1,true),(2,true),(3,true),(4,true),(5,true),(6,true),(7,true),(8,true),(9,true),(10,true),(11,false),(12,false),(13,false),(14,false),(15,false)] 16 mixed O8 (fun _ _ _=>rfl) ?_;refine RJ ?_;refine bY (k:=1) N rfl rfl rfl rfl rfl rfl rfl K J Pg (fun u r1 a=>?_);obtain⟨rfl,y⟩:=a.str;rw[d 1 J]at y⊢
    refine RM ?_;refine bV (α:=cG) (F:=cZ) (bytes:=24) (yv:=((HW (ws.getD 1 []),(k:Int)):cG)) rfl rfl rfl rfl Pg rfl rfl Pg P.own (CZ _ _ _ _ y)
     (by have:=h.ge;have:=O.size;have:b<o.heap.size:=G;omega) Pj O9 Pb O7
     (fun z hz c n m=>hz.block c n (fun e=>m e.symm)) (fun vn2 w5 q3 ho5 p hnb5=>?_)
    have L:=M.kept p (fun e=>E.1.1 e.symm);have V:(fun z:World=>∀c,c<o.heap.size→(Value.slice no0 ns.length nc0).ownBlock≠some c→z.heap[c]?=(drew o).heap[c]?) w5:=fun c n m=>p.block c n (fun e=>m e.symm)
    obtain⟨fo,fcap,hv5⟩:=ho5.val;subst hv5;refine cr rfl (fh rfl rfl rfl (WL.nil (a_ V ?_)));refine cr rfl (eG rfl rfl rfl (WL.nil (a_ V ?_)));refine cr rfl (eG rfl rfl rfl (WL.nil (a_ V (HL.nil ?_))));refine bp rfl (WL.st rfl rfl rfl L rfl rfl Pr (fun w6 hb6 hg6=>WL.nil (bu ?_)));have r:B≤w.heap.size:=MJ (MP h.ge h.blk.lt);have U:=(W.trans O).mono r;have hX6:=(U.grown p (MN r U.size) (fun k e=>(P.own.lt k e).1)).grown hg6 (MN (MN r U.size) p.size) (fun k e=>by cases e;exact h.ge);refine PA ?_;exact be rfl rfl ⟨rfl,hX6,_,_,P.pushN ho5 p hb6 hg6 L⟩
   ·have hW:¬ws.getD 0 []=IZ k:=fun e=>by rw[e]at h;exact absurd h (by simp[HW])
    clear h;refine PI ?_;refine EX.back (k+1) O6 ⟨by omega,by omega,?_,x⟩ O7;intro j hj1 hj2
    by_cases e:j=k
    ·subst e;exact hW
    ·exact hno j hj1 O7
  ·obtain rfl:k=8:=by simp at h;omega
   rw[xg hno,OK rfl];refine P_ ?_;exact be rfl rfl ⟨rfl,e1.trans R⟩
theorem Dn{fn:Func}{a u s:Nat}{t:TypeId}(h:fn.results=#[.cell a t,.tmp u,.tmp s])(tmps:Array Value)(P:Program)(w:World){p:Addr}{v:Value}(b:tmps.getD a undef=.pointer (some p))(c:(loadVar t p).run P w=.ok v w):
  (results fn tmps).run P w=.ok (.tuple ⟨[v,tmps.getD u undef,tmps.getD s undef]⟩) w:=by
 simp only[Js]at b⊢
 simp[results,h,b,asAddr,c]
theorem bm{P:Program}{n:Nat}{σ:Sg}{w:World}{fn:Func}{a b u s:Nat}{t e:TypeId}{cells:List Value}{k:Nat}{x y:Value}{R:Value→World→Prop}(q:fn.results=#[.cell a t,.tmp u,.tmp s])(A:fnd σ a=some (Pz b))(m:fnd σ u=some x)(p:fnd σ s=some y)[r:IsC P t k true](z:Blk w b e cells)(o:xI cells=k)(h:R (.tuple ⟨[.agg cells.toArray,x,y]⟩) w):
  EX (bodyPost P fn fun e w'=>∃v,e=.returned v∧R v w') .ret n σ w:=by
 unfold EX;intro ac c
 refine Ov (Dn q _ _ _ (c.slot a _ A) (v:=.agg cells.toArray) ?_) c.defers ⟨_,by rw[c.slot u x m,c.slot s y p],h⟩;rw[xJ]at o
 have f:=OS (P:=P) w ⟨b,0,none⟩ cells (fun j u m=>by rw[Oj,Nb];exact z.cell m);obtain⟨i,dd,h1,h2,h3,h4⟩:=r.ok;have l:(isAgg t).run P w=.ok true w:=by
  unfold isAgg;rw[Nv,OW h3 w,←h4];cases dd<;>rfl
 rw[o]at f
 simp[loadVar,l,sizeOf,typeInfo,h1,h2,f]
section
variable {P:Program}{Q:Exit→Act→World→Prop}{n:Nat}{σ:Sg}{w:World}{L rest:List Oper}{d:Nat}{op:Op}{ty:TypeId}{pos:String}{af:Array Edge}{g:Option (Nat×Bool)}{t:TypeId}{x:Operand}
theorem eP{s:ar}(b:gd L σ ⟨some d,.call ⟨.builtin .len,#[x],#[t]⟩,ty,pos,af,g⟩=some true)(hd:Nat.ble (d+1) n=true)
  (a:ev σ x=some (tV s)) [c:IsStr P t] (h:WL P L Q rest n ((d,Py (s.length:Int))::σ) w):WL P L Q (⟨some d,.call ⟨.builtin .len,#[x],#[t]⟩,ty,pos,af,g⟩::rest) n σ w:=
 eR b hd a (by rw[H0];exact h)
end
theorem zF(w:World)(m:cG)(b:Nat)(nm:ByteArray)(a:Blk w b 9 [.string nm]):
  Rt Tryz.prog 153 [.agg [.string m.1,Py m.2].toArray,Pz b].toArray w fun v w'=>v=.bool (yY m.1 nm)∧Ext w w':=by
 refine dE Tryz.func153 Tryz.ntmps153 rfl rfl ?_;refine PB ?_;refine dX rfl rfl rfl fun f e c=>?_
 have a:=a.ext c;refine Q8 ?_;exact be rfl rfl ⟨rfl,c⟩
theorem zK(w:World){B b:Nat}{ns:List cG}{fs:List bN}{pf:List cF}{vn vp vf:Value}(h:PRd w B b ns fs pf vn vp vf)(nm:ByteArray):
  Rt Tryz.prog 85 [Pz b,.string nm].toArray w fun v w'=>v=Py (zH ns nm)∧Ext w w':=by
 refine dE Tryz.func85 Tryz.ntmps85 rfl rfl ?_;refine PB ?_;refine dX rfl rfl rfl fun f a e=>?_
 have h1:=h.ext e;have o:=h1.blk;obtain⟨ao,cap,m,l⟩:=h1.own.oldN.sl;subst m;refine QQ ?_;refine WL.call rfl rfl rfl (vO f (fun n:cG=>yY n.1 nm) l (fun c j i hi u k=>by
  obtain rfl:=k.node;exact FnV.mk (cs:=[_]) (zF c _ _ nm (a.ext j)))) ?_
 rintro _ c ⟨rfl,p⟩
 refine PK ?_;exact be rfl rfl ⟨rfl,e.trans p⟩
theorem xP{ns:List cG}{fs:List bN}{l:ar}{ln:Int}{x:List cG×List bN}(h:xO ns fs l ln=some x):x.1.length+x.2.length=ns.length+fs.length+1:=by
 unfold xO at h
 split at h
 ·split at h
  ·injection h with h;rw[←h];simp;omega
  ·cases h
 ·split at h
  ·cases h
  ·split at h
   ·injection h with h;rw[←h];simp;omega
   ·cases h
def PG(w:World)(v:Value)(p:cI):Prop:=∃so sc fo fc,v=Cq so sc fo fc p.1.length p.2.length∧Sl w (c7 w) so sc p.1∧Sl w (c7 w) fo fc p.2
theorem PG.zero(w:World):PG w (Cq none 0 none 0 0 0) ([],[]):=by
 have h1:Sl w (c7 w) none 0 ([]:List cG):=⟨MM _,by decide,Pg,fun i h=>by cases h⟩;have h2:Sl w (c7 w) none 0 ([]:List cF):=⟨MM _,by decide,Pg,fun i h=>by cases h⟩;exact⟨none,0,none,0,rfl,h1,h2⟩
theorem Rd.flT{w:World}{F:Nat→Prop}{v:Value}{x:bN}(h:Rd w F v x):v=.agg [.string x.1,.string x.2.1,Py x.2.2].toArray:=by
 obtain⟨c1,a,rfl,h1,k1⟩:=h.pr;obtain⟨c2,c3,rfl,h2,h3⟩:=C8 k1;rw[h1.1,h2.1,C3 h3];rfl
theorem pR{ns:List cG}{f:bN}{r:List bN}{acc:List cF}:pQ ns (f::r) acc=if zH ns f.1<0∨zH ns f.2.1<0 then(none,f.2.2)else pQ ns r (acc++[(zH ns f.1,zH ns f.2.1)]):=by rw[pQ]
noncomputable def o8:Option (List cG×List bN)×Int→cI×Int×Int
 |(none,ln)=>(([],[]),ln,3)
 |(some x,_)=>match pQ x.1 x.2 []with
  |(none,ln)=>(([],[]),ln,4)
  |(some fl,_)=>if jL (x.1,fl)≠0 then(([],[]),0,jL (x.1,fl))else((x.1,fl),0,0)
theorem Bw(s:ar):Bv s=if s.length>4096 then(([],[]),0,2)else o8 (Dc s.length s 1 [] []):=by
 unfold Bv;split
 ·rfl
 ·split<;>(rename_i h;rw[h];rfl)
set_option maxHeartbeats 4000000 in
theorem Ce(w0:World)(hM:MaxH w0){s:ar}:
  Rt Tryz.prog 45 [tV s].toArray w0 fun v w'=>∃x,v=.tuple ⟨[x,Py (Bv s).2.1,Py (Bv s).2.2]⟩∧PG w' x (Bv s).1∧Ext w0 w':=by
 refine dD Tryz.func45 Tryz.ntmps45 rfl rfl ?_;rw[Bw];refine PB ?_;refine WL.alloc rfl rfl (fun Y l e1=>?_);refine Qt ?_;refine eP rfl rfl rfl ?_;refine PN ?_;apply CW.cond rfl<;>intro h
 ·have h:s.length>4096:=by have:(s.length:Int)>4096:=by simpa using h
                           omega
  rw[OK h];refine PB ?_;refine WL.build (parts:=[]) rfl rfl rfl rfl ?_;skip;refine WL.st rfl rfl rfl l rfl rfl Pr (fun w2 hb22 hg2=>?_);refine PS ?_;exact bm rfl rfl rfl rfl hb22 rfl ⟨_,rfl,PG.zero _,e1.grown hg2 e1.size Pi⟩
 have hs:s.length≤4096:=by have:¬(s.length:Int)>4096:=by simpa using h
                           omega
 rw[OJ O7];clear h;have l2:=l.lt;refine QH ?_;refine WL.build (parts:=[]) rfl rfl rfl rfl ?_;refine dX rfl rfl rfl fun w2 hb5 e2=>?_
 have hP0:PRd w2 Y.heap.size Y.heap.size [] [] [] (.slice none 0 0) (.slice none 0 0) (.slice none 0 0):=⟨hb5,MM _,Own.nil,Own.nil,Own.nil⟩;have hM2:=(hM.ext e1).ext e2;generalize hb5e:Y.heap.size=K at*
 have O:∀w,Below K Y w→Blk w w0.heap.size 25 [.slice none 0 0,.slice none 0 0]∧Ext w0 w∧MaxH w:=fun w N=>by
  have hX':Ext Y w:=by unfold Ext;rw[hb5e];exact N
  exact⟨l.ext hX',e1.trans hX',(hM.ext e1).ext hX'⟩
 have e2:Below K Y w2:=by have:=e2;unfold Ext at this;rwa[hb5e]at this
 have fin:∀(ln:Int),Dc s.length s 1 [] []=(none,ln)→o8 (Dc s.length s 1 [] [])=(([],[]),ln,3):=fun ln h=>by rw[h];rfl
 refine Qj ?_;refine CW.loop (S:=ar×Int×List cG×List bN×Value×Value) (fun t=>[(0,tV t.1),(2,Pz w0.heap.size),(5,Pz K),(6,Py t.2.1)])
  (fun t w=>(∃f,t.1.length≤f∧Dc s.length s 1 [] []=Dc f t.1 t.2.1 t.2.2.1 t.2.2.2.1)∧PRd w K K t.2.2.1 t.2.2.2.1 [] t.2.2.2.2.1 (.slice none 0 0) t.2.2.2.2.2∧Below K Y w∧t.2.2.1.length+t.2.2.2.1.length+t.1.length≤4096∧0≤t.2.1∧t.2.1+t.1.length≤5000)
  (fun t=>t.1.length) (s,1,[],[],.slice none 0 0,.slice none 0 0) O6 ⟨⟨s.length,MM _,rfl⟩,hP0,e2,by simpa using hs,by dsimp only;omega,by dsimp only;omega⟩ ?_
 rintro⟨u,ln,ns,fs,vn,vf⟩ w ⟨⟨f,hf,B⟩,hP,N,hl,hl0,hl1⟩
 dsimp only at hf B hP N hl hl0 hl1⊢
 obtain⟨p,A,W⟩:=O w N;refine Qt ?_;apply CW.cond rfl<;>intro h
 ·have J:u≠[]:=fun e=>by rw[e]at h;exact absurd h O9
  clear h;have hu0:0<u.length:=Lu.2 J;obtain⟨f,rfl⟩:∃f',f=f'+1:=⟨f -1,by omega⟩;rw[Dc,OJ J]at B
  refine PX ?_;refine WL.call rfl rfl rfl (lr w u O7 W) ?_;rintro _ w3 ⟨rfl,D⟩
  have I:=hP.ext D;have hb3:=p.ext D;unfold lq;cases hc:k_ 10 u with
  |none=>
   rw[hc]at B
   dsimp only at B⊢
   rw[fin ln B];refine Q6 ?_;refine WL.build (parts:=[]) rfl rfl rfl rfl ?_;refine Ri ?_;refine WL.st rfl rfl rfl hb3 rfl rfl Pr (fun w4 E o=>?_);refine P2 ?_;exact bm rfl rfl rfl rfl E rfl ⟨_,rfl,PG.zero _,(A.trans D).grown o (A.trans D).size Pi⟩
  |some x=>
  rw[hc]at B
  dsimp only at B⊢
  have hcl:x.1.length+1+x.2.length=u.length:=by
   have:=Ox List.length (lk (a:=x.1) (r:=x.2) hc);simp at this;omega
  refine Qt ?_;refine WL.call rfl rfl rfl (xS w3 (s:=x.1) (ln:=ln) (W.ext D) I O7 O7) ?_;rintro v w4 hL
  cases hy:xO ns fs x.1 ln with
  |none=>
   rw[hy]at B hL
   dsimp only at B
   obtain⟨rfl,X⟩:=hL;have E:=hb3.ext X;rw[fin ln B];refine Ra ?_;refine WL.build (parts:=[]) rfl rfl rfl rfl ?_;refine Ri ?_;refine WL.st rfl rfl rfl E rfl rfl Pr (fun T hb5 hg5=>?_);refine P2 ?_;exact bm rfl rfl rfl rfl hb5 rfl ⟨_,rfl,PG.zero _,((A.trans D).trans X).grown hg5 ((A.trans D).trans X).size Pi⟩
  |some y=>
   have hyl:=xP hy;rw[hy]at B hL
   dsimp only at B
   obtain⟨rfl,X,vn',vf',V⟩:=hL;refine P0 ?_;have C:K≤w.heap.size:=by have:=hP.blk.lt;omega
   exact EX.back (x.2,ln+1,y.1,y.2,vn',vf') O6 ⟨⟨f,by dsimp only;omega,B⟩,V,(N.trans (D.mono C)).trans X,by dsimp only;omega,by dsimp only;omega,by dsimp only;omega⟩ Pa
 have J:u=[]:=by
  cases u with
  |nil=>rfl
  |cons c u=>exact absurd h (by simp[HW])
 subst J;have B:Dc s.length s 1 [] []=(some (ns,fs),ln):=by rw[B];cases f<;>simp[Dc]
 rw[B];clear h hf B fin hM2 hP0 p A W;obtain⟨fo0,fc0,hvf⟩:=hP.ofl.val;subst hvf;have G:=hP.blk;refine Qy ?_;have hfin:o8 (some (ns,fs),ln)=match pQ ns fs []with
   |(none,ln)=>(([],[]),ln,4)
   |(some fl,_)=>if jL (ns,fl)≠0 then(([],[]),0,jL (ns,fl))else((ns,fl),0,0):=rfl
 rw[hfin];refine CW.loop (S:=Nat×Value×List cF) (fun t=>[(2,Pz w0.heap.size),(5,Pz K),(46,.slice fo0 fs.length fc0),(47,Py fs.length),(48,Py t.1)])
  (fun t w=>t.1≤fs.length∧pQ ns fs []=pQ ns (fs.drop t.1) t.2.2∧t.2.2.length=t.1∧PRd w K K ns fs t.2.2 vn t.2.1 (.slice fo0 fs.length fc0)∧Below K Y w)
  (fun t=>fs.length -t.1) (0,.slice none 0 0,[]) O6 ⟨Nc _,by rw[KB],rfl,hP,N⟩ ?_
 clear hP N G;rintro⟨k,vp,pf⟩ w ⟨hk,j,hpl,hP,N⟩
 dsimp only at hk j hpl hP N⊢
 obtain⟨p,A,W⟩:=O w N;have C:K≤w.heap.size:=by have:=hP.blk.lt;omega
 refine Qt ?_;apply CW.cond rfl<;>intro h
 ·have hi:k<fs.length:=by simpa using h
  clear h;rw[Kx hi]at j
  rw[pR]at j
  generalize hff:fs[k]=ff at*
  refine Rb ?_;refine eE (i:=k) rfl rfl rfl rfl rfl hP.ofl hi Pg (fun u q J=>?_);rw[hff]at J
  rw[J.flT];clear J;skip;refine WL.alloc rfl rfl (fun w3 b D=>?_);skip;refine WL.st rfl rfl rfl b rfl rfl Pr (fun w4 b o=>?_);have X:Ext w w4:=D.grown o D.size Pi;have V:=hP.ext X;have hb2d:=p.ext X;clear D o;refine Re ?_;refine QL.call rfl rfl rfl (fun w' hw'=>zK w' (V.ext hw') ff.1) ?_;refine Ry ?_;refine QL.call rfl rfl rfl (fun w' hw'=>zK w' (V.ext hw') ff.2.1) ?_;refine Rl ?_;refine QL.nil (fun T R=>?_);have b:=b.ext R;have R:=X.trans R;have H:=hP.ext R;have l:=p.ext R;generalize zH ns ff.1=a at*
  generalize zH ns ff.2.1=c at*
  refine Qm ?_;cases ha:decide (a<0)with
  |true=>
   rw[OK (.inl (OQ ha))]at j
   refine Q6 ?_;have hD:=Ext.drew T;have l:=l.ext hD;have b:=b.ext hD;have M:=(A.trans R).trans hD;have l11:w0.heap.size<w.heap.size:=MQ l2 C;have hKs:∀u,(fun z:World=>z.heap[w.heap.size]?=(drew T).heap[w.heap.size]?) u→u.heap[w.heap.size]?=(drew T).heap[w.heap.size]?:=fun u J=>J
   rw[j];skip;refine aF (fun z:World=>z.heap[w.heap.size]?=(drew T).heap[w.heap.size]?) [(0,true),(1,true),(2,true),(3,false),(4,true),(5,true)] mixed O8 rfl ?_;refine RP ?_;refine cr rfl (WL.st rfl rfl rfl l rfl rfl Pr (fun w6 hb6 m=>?_));refine WL.nil (a_ (m.block _ b.lt Po) ?_);refine RR ?_;refine Qk ?_;exact bm rfl rfl rfl rfl hb6 rfl ⟨_,rfl,PG.zero _,M.grown m M.size Pi⟩
  |false=>
  refine PN ?_;cases hc:decide (c<0)with
  |true=>
   rw[OK (.inr (OQ hc))]at j
   refine Qu ?_;have hD:=Ext.drew T;have l:=l.ext hD;have b:=b.ext hD;have M:=(A.trans R).trans hD;have l11:w0.heap.size<w.heap.size:=MQ l2 C;have hKs:∀u,(fun z:World=>z.heap[w.heap.size]?=(drew T).heap[w.heap.size]?) u→u.heap[w.heap.size]?=(drew T).heap[w.heap.size]?:=fun u J=>J
   rw[j];skip;refine aF (fun z:World=>z.heap[w.heap.size]?=(drew T).heap[w.heap.size]?) [(0,true),(1,true),(2,true),(3,false),(4,true),(5,true)] mixed O8 rfl ?_;refine RP ?_;refine cr rfl (WL.st rfl rfl rfl l rfl rfl Pr (fun w6 hb6 m=>?_));refine WL.nil (a_ (m.block _ b.lt Po) ?_);refine RR ?_;refine Qk ?_;exact bm rfl rfl rfl rfl hb6 rfl ⟨_,rfl,PG.zero _,M.grown m M.size Pi⟩
  |false=>
  rw[OJ (fun h=>h.elim (OP ha) (OP hc))]at j
  have G:=H.blk;have hdi:=H.dis;refine QI ?_;refine WL.build (parts:=[(0,.tmp 75),(1,.tmp 76)]) rfl rfl rfl rfl ?_;refine dW (α:=cF) (F:=cZ) (yv:=((a,c):cF)) rfl rfl Pg rfl rfl Pg H.opf (Rd.mkPr (c1:=[Py a]) (c2:=[Py c]) rfl rfl) (MN C R.size) Pj O9 (by unfold maxLen;have:=H.ofl.oldN.sl;omega) O7 (fun vp2 w6 q6 ho6 m hnb=>?_);have Z:=G.kept m (fun e=>hdi.1.2.1 e.symm);obtain⟨po,pc,hv6⟩:=ho6.val;subst hv6;have hX6:=((N.trans (R.mono C)).grown m (MN C R.size) (fun k e=>(H.opf.lt k e).1));refine Rk ?_;refine WL.st rfl rfl rfl Z rfl rfl Pr (fun w7 hb7 hg7=>?_);refine Qc ?_;exact EX.back (k+1,_,pf++[(a,c)]) O6 ⟨hi,j,by simp[hpl],H.pushP ho6 m hb7 hg7 Z,hX6.grown hg7 (MN (MN C R.size) m.size) (fun k e=>by cases e;exact MM _)⟩ Pa
 ·obtain rfl:k=fs.length:=by simp at h;omega
  rw[Kz]at j
  have j:pQ ns fs []=(some pf,0):=by rw[j,pQ]
  rw[j];clear h hk;obtain⟨no,nc,hvn⟩:=hP.own.val;obtain⟨po,pc,hvp⟩:=hP.opf.val;subst hvn;subst hvp;obtain⟨xo,xc,he,hsn⟩:=hP.own.oldN.sl;obtain⟨rfl,_,rfl⟩:=Oi he;obtain⟨yo,yc,he,hsp⟩:=hP.opf.oldN.sl;obtain⟨rfl,_,rfl⟩:=Oi he;have G:=hP.blk;refine QT ?_;refine WL.call rfl rfl rfl (aK w hsn hsp) ?_;rintro _ w3 ⟨rfl,D⟩
  have G:=G.ext D;have l:=p.ext D;have U:=A.trans D;refine Qt ?_;apply CW.cond rfl<;>intro h
  ·have h:jL (ns,pf)≠0:=by simpa using h
   dsimp only;rw[OK h];refine PB ?_;refine WL.build (parts:=[]) rfl rfl rfl rfl ?_;refine Ri ?_;refine WL.st rfl rfl rfl l rfl rfl Pr (fun w4 E o=>?_);refine PS ?_;exact bm rfl rfl rfl rfl E rfl ⟨_,rfl,PG.zero _,U.grown o U.size Pi⟩
  ·have h:jL (ns,pf)=0:=by simpa using h
   dsimp only;rw[OJ (by simpa using h)];refine Q5 ?_;refine WL.st rfl rfl rfl l rfl rfl Pr (fun w4 E o=>?_);have I:=hP.ext D;have hn4:=I.own.keptN o (fun g k e=>by have:=(I.own.lt g k).1;have:=Nn e;omega);have hp4:=I.opf.keptN o (fun g k e=>by have:=(I.opf.lt g k).1;have:=Nn e;omega);obtain⟨xo,xc,he,hsn⟩:=hn4.oldN.sl;obtain⟨rfl,_,rfl⟩:=Oi he;obtain⟨yo,yc,he,hsp⟩:=hp4.oldN.sl;obtain⟨rfl,_,rfl⟩:=Oi he;refine PK ?_;exact bm rfl rfl rfl rfl E rfl ⟨_,rfl,⟨_,_,_,_,rfl,hsn,hsp⟩,U.grown o U.size Pi⟩
theorem Sl.notC{α:Type}[Rep α]{w:World}{F:Nat→Prop}{ao:Option Addr}{cap b:Nat}{xs:List α}{e:TypeId}{cells:List Value}(h:Sl w F ao cap xs)(o:Blk w b e cells)
  (n:∀a (x:α),Rep.rd w F a x→(∀F',Rep.rd w F' a x)∧∃v,a[0]?=some v∧∀k:Nat,cells[k]?≠some v):Sl w (fun c=>F c∧c≠b) ao cap xs:=by
 refine⟨h.le,h.mx,h.nil,fun i hi=>?_⟩;obtain⟨c,off,p,hf,a,d,j⟩:=h.el i hi;obtain⟨f,v,g,l⟩:=n a _ j;refine⟨c,off,p,⟨hf,fun m=>?_⟩,a,d,f _⟩;have h1:=d 0 _ g;rw[m,Ow w b _ cells.toArray e (0,0) o]at h1
 exact l _ (by simpa using h1)
instance u_:IsZC Tryz.prog 37 [.string ⟨#[]⟩,Py 0,Py 0,Py 0,Py 0,Py 0,Py 0,Py 0,Py 0,Py 0,Py 0,Py 0,Py 0,Py 0,Py 0,.slice none 0 0,Py 0,Py 0,.slice none 0 0]:=
 IsZC.of (z:=.agg #[.string ⟨#[]⟩,Py 0,Py 0,Py 0,Py 0,Py 0,Py 0,Py 0,Py 0,Py 0,Py 0,Py 0,Py 0,Py 0,Py 0,.slice none 0 0,Py 0,Py 0,.slice none 0 0]) O8 rfl
instance vb:IsBd Tryz.prog 37 [(0,1),(1,1),(2,7),(9,4),(13,3),(16,3)]:=IsBd.of O8
instance vd:IsF Tryz.prog 19:=⟨_,Tryz.func19,rfl,by decide⟩
instance ve:IsF Tryz.prog 20:=⟨_,Tryz.func20,rfl,by decide⟩
instance vg:IsF Tryz.prog 6:=⟨_,Tryz.func6,rfl,by decide⟩
theorem HV(w0:World)(D:MaxH w0):Rt Tryz.prog 19 [].toArray w0 fun v w'=>(∃so sc fo fc,v=Cq so sc fo fc 5 5∧Sl w' (c7 w') so sc twP.1∧Sl w' (c7 w') fo fc twP.2)∧Ext w0 w':=by
 refine dC Tryz.func19 Tryz.ntmps19 rfl ?_;refine PB ?_;refine WL.alloc rfl rfl (fun C a y=>?_);refine Qt ?_;obtain⟨T,G⟩:∃T,T=HI:=⟨_,rfl⟩;refine WL.call (vs:=[tV HI]) rfl rfl rfl (Ce C (D.ext y) (s:=HI)) ?_;rintro _ B ⟨x,rfl,t,w⟩
 rw[HQ]at t⊢
 obtain⟨so2,sc2,fo2,fc2,rfl,f,g⟩:=t;dsimp only at f g⊢
 have q:=y.trans w;have a:=a.ext w;refine Ri ?_;refine WL.alloc rfl rfl (fun F i u=>?_);skip;refine WL.st rfl rfl rfl i rfl rfl Pr (fun A i n=>?_);have l:Ext B A:=u.grown n u.size Pi;have a:=a.ext l;have j:=q.trans l;have m:=(f.up l).notC a (fun E x h=>by
  obtain⟨c1,c2,rfl,h1,h2⟩:=C8 h;obtain⟨rfl,h1⟩:=h1;exact⟨fun F'=>⟨_,_,rfl,⟨rfl,h1⟩,h2⟩,_,rfl,fun k=>by rcases k with _|_|k<;>simp⟩)
 have o:=(g.up l).notC a (fun E x h=>by
  obtain⟨c1,c2,rfl,h1,h2⟩:=C8 h;have r:c1=[Py x.1]:=h1;subst r;exact⟨fun F'=>⟨_,_,rfl,h1,h2⟩,_,rfl,fun k=>by rcases k with _|_|k<;>simp⟩)
 refine Q4 ?_;refine WL.st rfl rfl rfl a rfl rfl Pr (fun z a c=>?_);have p:Ext w0 z:=j.grown c j.size Pi;refine PO ?_;exact bg rfl rfl a rfl ⟨⟨so2,sc2,fo2,fc2,rfl,m.mono (fun b d=>c.block b d.1 (fun e=>d.2 (Nn e))) (fun b d=>MQ d.1 c.size),o.mono (fun b d=>c.block b d.1 (fun e=>d.2 (Nn e))) (fun b d=>MQ d.1 c.size)⟩,p⟩
theorem BN(w0:World)(k c p s q r:Int):Rt Tryz.prog 20 [Py k,Py c,Py p,Py s,Py q,Py r].toArray w0 fun v w'=>v=DD (⟨#[114]⟩,1,(k,c,p,s,q,r,0),(0,0,0,0),.mk 0 0 [],.mk 0 0 []) none 0 none 0∧Ext w0 w':=by
 refine Rt.enter Tryz.func20 rfl Tryz.ntmps20 rfl ?_
 change CW _ _ _ _ [(0,Py k),(1,Py c),(2,Py p),(3,Py s),(4,Py q),(5,Py r)] _
 refine PB ?_;refine WL.alloc rfl rfl (fun g e d=>?_);refine Qt ?_;refine WL.build rfl rfl rfl rfl ?_;refine WL.build rfl rfl rfl rfl ?_;refine WL.st rfl rfl rfl e rfl rfl Pr (fun f b a=>?_);refine PO ?_;exact bg rfl rfl b rfl ⟨rfl,d.grown a d.size Pi⟩
set_option maxHeartbeats 2000000 in
theorem Et(w0:World)(x:MaxH w0):Rt Tryz.prog 6 [].toArray w0 fun v w'=>v=.bool true∧Ext w0 w':=by
 refine dC Tryz.func6 Tryz.ntmps6 rfl ?_;refine Qt ?_;refine WL.call rfl rfl rfl (HV w0 x) ?_;rintro _ G ⟨⟨p1,I,p2,H,rfl,g1,g2⟩,A⟩
 skip;refine WL.call rfl rfl rfl (BN G 5 1 3 1 0 0) ?_;rintro _ F ⟨rfl,m⟩
 have b:=A.trans m;skip;refine WL.call rfl rfl rfl (wx F (ns:=twP.1) (fl:=twP.2) (r:=Cf) (g1.up m) (g2.up m) (Sl.zero _ _) (Sl.zero _ _) 1 20) ?_;rintro _ E ⟨⟨M,s,l,e,ao,ac,Q,bc,rfl,f,c,j⟩,z⟩
 obtain⟨rfl,rfl⟩:=Cj j;have b:=b.trans z;clear A m z g1 g2 j f c;refine Ri ?_;refine WL.alloc rfl rfl (fun O a u=>?_);refine WL.st rfl rfl rfl a rfl rfl Pr (fun w a h=>?_);have y:Ext E w:=u.grown h u.size Pi;have b:=b.trans y;clear u y h;refine Qt ?_;refine WL.call rfl rfl rfl (HV w (x.ext b)) ?_;rintro _ D ⟨⟨p1,I,p2,H,rfl,g1,g2⟩,t⟩
 have a:=a.ext t;have b:=b.trans t;skip;refine WL.call rfl rfl rfl (BN D 3 1 3 0 0 0) ?_;rintro _ C ⟨rfl,k⟩
 have a:=a.ext k;have b:=b.trans k;skip;refine WL.call rfl rfl rfl (wx C (ns:=twP.1) (fl:=twP.2) (r:=nT) (g1.up k) (g2.up k) (Sl.zero _ _) (Sl.zero _ _) 1 20) ?_;rintro _ B ⟨⟨M,P,J,e,ao',ac',bo',bc',rfl,f,c,j⟩,q⟩
 obtain⟨rfl,rfl,L⟩:=nX j;have a:=a.ext q;have b:=b.trans q;have K:=c.len63;clear t k q g1 g2 j f c;refine Ri ?_;refine WL.alloc rfl rfl (fun N i p=>?_);refine WL.st rfl rfl rfl i rfl rfl Pr (fun n i d=>?_);have g:Ext B n:=p.grown d p.size Pi;have a:=a.ext g;have b:=b.trans g;have o:decide ((J.length:Int)>0)=true:=OC O7;clear p g d;refine Qy ?_;rw[o];skip;exact be rfl rfl ⟨rfl,b⟩
theorem GS{p:cI}{a b c d:Int}(h1:(El p a b).2=0)(h2:(El p c d).2=0):rW p a b=rW p c d:=by
 obtain⟨f,_,h⟩:=En h1;obtain⟨e,_,g⟩:=En h2;unfold rW;rw[h,g,oe f e]
theorem GR{p:cI}{r:cJ}{a b c d:Int}{h f:Bool}{s l j k:List Int}(h1:JdgR p r a b h s l 0)(h2:JdgR p r c d f j k 0):h=f:=by
 have e:=GS (h1.pre rfl).1 (h2.pre rfl).1;rw[JN];by_cases h4:r.2.1=4
 ·rw[(h1.ctl rfl h4).2.2,(h2.ctl rfl h4).2.2,e]
 ·obtain⟨_,_,_,_,i,_⟩:=h1.ltl rfl h4
  obtain⟨_,_,_,_,g,_⟩:=h2.ltl rfl h4;rw[i,g,e]
set_option maxHeartbeats 2000000 in
theorem dS(w0:World)(S:MaxH w0){so fo lo E:Option Addr}{sc fc A F:Nat}{ns:List cG}{fl:List cF}{r:cJ}(H:Sl w0 (c7 w0) so sc ns)(hf:Sl w0 (c7 w0) fo fc fl)(I:Sl w0 (c7 w0) lo A r.2.2.2.2.1.kids)(J:Sl w0 (c7 w0) E F r.2.2.2.2.2.kids)(a b c d:Int):
  Rt Tryz.prog 3 [Cq so sc fo fc ns.length fl.length,DD r lo A E F,Py a,Py b,Py c,Py d].toArray w0 fun v w'=>v=.bool true∧Ext w0 w':=by
 refine Rt.enter Nz rfl Tryz.ntmps3 rfl ?_
 change CW _ _ _ _ [(0,Cq so sc fo fc ns.length fl.length),(1,DD r lo A E F),(2,Py a),(3,Py b),(4,Py c),(5,Py d)] _
 have f:=Ext.refl w0;refine PB ?_;refine dX rfl rfl rfl fun V h K=>?_
 have f:=f.trans K;skip;refine dX rfl rfl rfl fun O i D=>?_
 have h:=h.ext D;have f:=f.trans D;refine Qt ?_;refine WL.call rfl rfl rfl (Et O (S.ext f)) ?_;rintro _ N ⟨rfl,x⟩
 have h:=h.ext x;have i:=i.ext x;have f:=f.trans x;clear K D x;refine QN ?_;refine WL.call rfl rfl rfl (wx N (r:=r) (H.up f) (hf.up f) (I.up f) (J.up f) a b) ?_;rintro _ M ⟨⟨R,s,l,e,ao,ac,Y,bc,rfl,m,n,T⟩,w⟩
 have h:=h.ext w;have i:=i.ext w;have f:=f.trans w;clear m n w;refine Ri ?_;refine WL.alloc rfl rfl (fun U g C=>?_);refine WL.st rfl rfl rfl g rfl rfl Pr (fun G g t=>?_);have u:Ext M G:=C.grown t C.size Pi;have h:=h.ext u;have i:=i.ext u;have f:=f.trans u;clear C u t;refine Q4 ?_;refine WL.call rfl rfl rfl (wx G (r:=r) (H.up f) (hf.up f) (I.up f) (J.up f) c d) ?_;rintro _ z ⟨⟨Q,W,X,L,ao',ac',bo',bc',rfl,m,n,B⟩,q⟩
 have g:=g.ext q;have f:=f.trans q;clear m n q h i;refine Ri ?_;refine WL.alloc rfl rfl (fun P k p=>?_);refine WL.st rfl rfl rfl k rfl rfl Pr (fun y k j=>?_);have o:Ext z y:=p.grown j p.size Pi;have g:=g.ext o;have f:=f.trans o;clear p o j;by_cases h1:e=0
 case neg=>
  have h1:(e != 0)=true:=by simp[h1]
  refine Qt ?_;rw[h1];refine PL ?_;exact be rfl rfl ⟨rfl,f⟩
 subst h1;by_cases h2:L=0
 case neg=>
  have h2:(L != 0)=true:=by simp[h2]
  refine Qt ?_;rw[h2];refine PL ?_;exact be rfl rfl ⟨rfl,f⟩
 subst h2;obtain rfl:=GR T B;cases R with
 |false=>
  refine Q8 ?_;exact be rfl rfl ⟨rfl,f⟩
 |true=>
  refine Q8 ?_;exact be rfl rfl ⟨rfl,f⟩
open Go.ChangeShapes
open Go.WideShapes
open Go.ChangeAt
theorem iN{H:Type}(d:DataW H):1≤Rows.uptoBulk d:=by
 cases d with
 |lit l=>cases l<;>simp[Rows.uptoBulk]
 |nil=>simp[Rows.uptoBulk]
 |ptr d=>simp[Rows.uptoBulk]
 |slice elems spare=>simp[Rows.uptoBulk]
 |agg parts=>simp[Rows.uptoBulk]
 |iface t d=>simp[Rows.uptoBulk]
 |map entries=>simp[Rows.uptoBulk]
 |held h=>simp[Rows.uptoBulk]
theorem iM{H:Type}(l r:List (DataW H)):Rows.uptoBulkAll (l++r)=Rows.uptoBulkAll l+Rows.uptoBulkAll r:=by
 induction l with
 |nil=>simp[Rows.uptoBulkAll]
 |cons x l a=>simp only[Kl,Rows.uptoBulkAll,a];omega
class Bk(α:Type)where
 bk:α→Nat
abbrev bk{α:Type}[Bk α]:α→Nat:=Bk.bk
instance te:Bk Int:=⟨fun _=>1⟩
instance tf:Bk ByteArray:=⟨fun s=>s.size+1⟩
def iE{α:Type}[Bk α]:List α→Nat
 |[]=>0
 |x::r=>bk x+iE r
instance ti{α:Type}[Bk α]:Bk (List α):=⟨fun l=>iE l+1⟩
class Opn(P:Program)(t:TypeId)(α:Type)[Rep α][Bk α]:Prop where
 op:∀{H:Type} {enc:TypeId×Value→H} {w:World} {fuel:Nat} {cs:List Value} {d:DataW H} {ps:List MemPlace},DataW.trod enc P w 0 (fun _=>true) true fuel t cs=some (d,ps)→∃x:α,rd w (c7 w) cs x∧bk x≤Rows.uptoBulk d
theorem Opn.int{P:Program}{t:TypeId}(h:P.underlying t=some (.int .i64)):Opn P t Int where
 op:=by
  intro H enc w fuel cs d ps hd
  cases fuel with
  |zero=>simp[DataW.trod]at hd
  |succ fuel=>
   unfold DataW.trod at hd
   rw[h]at hd
   split at hd<;>try (simp at*;done)
   rename_i k k' n a;simp at a
   split at hd
   ·rename_i b
    simp at hd
    obtain⟨rfl,rfl⟩:=hd;exact⟨n,by rw[b.1,←a];rfl,iN _⟩
   ·cases hd
theorem Opn.string{P:Program}{t:TypeId}(h:P.underlying t=some .string):Opn P t ByteArray where
 op:=by
  intro H enc w fuel cs d ps hd
  cases fuel with
  |zero=>simp[DataW.trod]at hd
  |succ fuel=>
   unfold DataW.trod at hd
   rw[h]at hd
   split at hd<;>try (simp at*;done)
   rename_i s b;split at hd
   ·rename_i a
    simp at hd
    obtain⟨rfl,rfl⟩:=hd;refine⟨s,⟨rfl,a⟩,?_⟩;show s.size+1≤_;simp only[Rows.uptoBulk];have e:s.data.toList.length=s.size:=by rw[JC];rfl
    omega
   ·cases hd
theorem yH{β:Type}(f:Nat→Option β):∀(n:Nat) (a:List β),(List.range n).mapM f=some a→a.length=n∧∀i (h:i<a.length),f i=some a[i]
 |0,a,h=>by
  simp at h;subst h
  exact⟨rfl,fun i hi=>absurd hi O_⟩
 |n+1,a,h=>by
  rw[Mb,List.mapM_append]at h
  simp only[LC,LD,Nh,Nm]at h
  cases h1:(List.range n).mapM f with
  |none=>rw[h1]at h;cases h
  |some l=>
   rw[h1]at h
   cases h2:f n with
   |none=>rw[h2]at h;cases h
   |some y=>
    rw[h2]at h
    simp at h
    subst h;obtain⟨d,hi⟩:=yH f n l h1;refine⟨by simp[d],fun i c=>?_⟩;by_cases b:i<l.length
    ·rw[K7 b];exact hi i b
    ·have:i=n:=by simp at c;omega
     subst this;rw[K8 O7];simpa[d]using h2
theorem yG{w:World}{a:Addr}{n:Nat}{cs:List Value}(h:w.cells? 0 a n=some cs):cs.length=n∧∀j (b:j<cs.length),w.cell? (a.add j)=some cs[j]:=by
 unfold World.cells? at h
 rw[OK (Nc _)]at h
 exact yH _ n cs h
theorem Fy{P:Program}{t e:TypeId}{α:Type}[Rep α][Bk α][L:IsS P t e][V:IsT P e α]{H:Type}{enc:TypeId×Value→H}{w:World}{fuel:Nat}
  (N:∀{cs:List Value} {d:DataW H} {ps:List MemPlace},DataW.trod enc P w 0 (fun _=>true) true fuel e cs=some (d,ps)→∃x:α,rd w (c7 w) cs x∧bk x≤Rows.uptoBulk d)
  {cs:List Value} {d:DataW H} {ps:List MemPlace} (hd:DataW.trod enc P w 0 (fun _=>true) true (fuel+1) t cs=some (d,ps)):∃x:List α,rd w (c7 w) cs x∧bk x≤Rows.uptoBulk d:=by
 unfold DataW.trod at hd
 rw[L.ok]at hd
 obtain⟨U,D,C⟩:=IsT.info (P:=P) (t:=e) (α:=α);have v:P.cellsOf e=sz α:=by simp[Program.cellsOf,D,C]
 have W:0<sz α:=Rep.pos;split at hd<;>try (simp at*;done)
 ·simp at hd
  obtain⟨rfl,rfl⟩:=hd;exact⟨[],⟨none,0,rfl,by simp,by simp[maxLen],fun _=>rfl,fun i hi=>absurd hi O_⟩,iN _⟩
 ·rename_i e' a len cap T
  cases T
  simp only at hd
  split at hd
  ·rename_i q
   obtain⟨_,O,A⟩:=q;rw[v]at hd
   cases B:(List.range len).mapM (fun i=>(w.cells? 0 (a.add (i*sz α)) (sz α)).bind (DataW.trod enc P w 0 (fun _=>true) true fuel e))with
   |none=>rw[B]at hd;cases hd
   |some elems=>
    rw[B]at hd
    simp only[Nj,OL]at hd
    obtain⟨rest,_,p⟩:=Nl.1 hd;simp only[Nq]at p
    obtain⟨rfl,_⟩:=p;obtain⟨G,f⟩:=yH _ len elems B;have one:∀i (h:i<elems.length),∃x:α,(∃b off,some a=some ⟨b,off,none⟩∧c7 w b∧∃n,Cells w b (off+i*sz α) n∧rd w (c7 w) n x)∧bk x≤Rows.uptoBulk (elems[i]).1:=by
     intro i hi
     have h1:=f i hi;cases m:w.cells? 0 (a.add (i*sz α)) (sz α)with
     |none=>rw[m]at h1;cases h1
     |some n=>
      rw[m]at h1
      simp only[Nj]at h1
      obtain⟨x,M,F⟩:=N (d:=(elems[i]).1) (ps:=(elems[i]).2) h1;obtain⟨X,q⟩:=yG m;have I:=q 0 O7;have c:a.spot=none:=by
       cases z:a.spot with
       |none=>rfl
       |some k=>
        have h2:=f 0 O7;cases g:w.cells? 0 (a.add (0*sz α)) (sz α)with
        |none=>rw[g]at h2;cases h2
        |some es0=>
         obtain⟨Q,E⟩:=yG g;have h3:=E 0 O7;have S:(a.add (0*sz α)).add 0=a:=by simp[Addr.add]
         rw[S]at h3
         unfold World.cell? at h3
         split at h3
         ·simp[z]at h3
         ·cases h3
      obtain⟨b,off,sp⟩:=a;simp only at c
      subst c;rw[Oj]at q I
      have r:b<w.heap.size:=Ok w _ I;refine⟨x,⟨b,off,rfl,r,n,?_,M⟩,F⟩;intro j u K
      obtain⟨R,rfl⟩:=K0.1 K;have:=q j R;rwa[Oj]at this
    have all:∀k,k≤elems.length→∃xs:List α,xs.length=k∧(∀i (h:i<xs.length),∃b off,some a=some ⟨b,off,none⟩∧c7 w b∧∃n,Cells w b (off+i*sz α) n∧rd w (c7 w) n xs[i])∧iE xs≤Rows.uptoBulkAll ((elems.map (·.1)).take k):=by
     intro k
     induction k with
     |zero=>intro _;exact⟨[],rfl,fun i hi=>absurd hi O_,by simp[iE,Rows.uptoBulkAll]⟩
     |succ k s=>
      intro Y
      obtain⟨xs,h1,h2,h3⟩:=s O7;obtain⟨x,h4,Z⟩:=one k O7;refine⟨xs++[x],by simp[h1],?_,?_⟩
      ·intro i hi
       by_cases o:i<xs.length
       ·rw[K7 o];exact h2 i o
       ·have:i=k:=by simp at hi;omega
        subst this;rw[K8 O7];simpa[h1]using h4
      ·have F:∀(l:List α),iE (l++[x])=iE l+bk x:=by
        intro l;induction l with
        |nil=>simp[iE]
        |cons y l s=>simp only[Kl,iE,s];omega
       rw[F,Mo Pc,iM];simp only[Lb,Rows.uptoBulkAll];omega
    obtain⟨xs,h1,h2,h3⟩:=all elems.length Pu;have J:xs.length=len:=by omega
    refine⟨xs,⟨some a,cap,by rw[J],⟨by omega,A,(fun h=>by cases h),h2⟩⟩,?_⟩;show iE xs+1≤_;rw[Ml O_]at h3
    simp only[Rows.uptoBulk];omega
  ·cases hd
theorem Opn.slice{P:Program}{t e:TypeId}{α:Type}[Rep α][Bk α][c:IsS P t e][b:IsT P e α][a:Opn P e α]:Opn P t (List α)where
 op:=by
  intro H enc w fuel cs d ps hd
  cases fuel with
  |zero=>simp[DataW.trod]at hd
  |succ fuel=>exact Fy (e:=e) (fun h=>a.op h) hd
theorem AK{P:Program}{w:World}{r:Reach}{base:Nat}{t:TypeId}{v:Value}{d:TypeDesc}(a:P.underlying t=some d)(h:Value.okWide P w r base t v):
  (fP d=false→v.oneCell'=true)∧(fP d=true→∃cs,v=.agg cs):=by
 unfold Value.okWide at h
 rw[a]at h
 constructor
 ·intro hd
  cases v<;>first
   |rfl
   |(exfalso;cases d<;>simp[fP]at hd<;>simp[Cell.okWide,Cell.ok,a]at h)
 ·intro hd
  cases d<;>simp[fP]at hd<;>(obtain⟨cs,rfl,_⟩:=h;exact⟨cs,rfl⟩)
theorem Opn.arg{P:Program}{t:TypeId}{α:Type}[Rep α][Bk α][c:IsT P t α][f:Opn P t α]{H:Type}{enc:TypeId×Value→H}{w:World}{v:Value}{d:DataW H}{ps:List MemPlace}{r:Reach}{base:Nat}
  (b:Value.okWide P w r base t v) (h:DataW.Trod enc P w 0 (fun _=>true) true t v d ps):∃x:α,Rd w (c7 w) v x∧bk x≤Rows.uptoBulk d:=by
 obtain⟨i,dd,_,_,h3,h4⟩:=c.ok;obtain⟨k,j⟩:=AK h3 b;obtain⟨fuel,hf⟩:=h;obtain⟨x,e,g⟩:=f.op hf;refine⟨x,⟨v.cells.toList,?_,e⟩,g⟩;unfold Iq;split
 ·rename_i a
  obtain⟨cs,rfl⟩:=j (h4.trans a);simp[Value.cells]
 ·rename_i a
  have:=k (h4.trans a);cases v<;>first|rfl|(simp[Value.oneCell']at this)
theorem Hd{H:Type}{enc:TypeId×Value→H}{P:Program}(i:laidOutB P=true){W W':World}(j:Ext W W'):∀{c:List TypeId} {vs:List Value} {g:List (DataW H)} {ps:List MemPlace},
  (∀t∈c,P.readableRec t=true∧t<P.types.size)→DataW.TrodAll enc P W 0 (fun _=>true) true c vs g ps→(∀x∈ps,x.block<W.heap.size)→
  DataW.TrodAll enc P W' 0 (fun b=>decide (b<W.heap.size)) true c vs g ps
 |[],[],[],_,_,h,_=>h
 |t::c,v::vs,d::g,ps,f,h,a=>by
  obtain⟨p,q,h1,h2,rfl⟩:=h;exact⟨p,q,Below.trod i (f t O_).1 (f t O_).2 h1 j (fun x e=>a x (by simp[e])),
   Hd i j (fun t k=>f t (by simp[k])) h2 (fun x e=>a x (by simp[e])),rfl⟩
 |[],[],_::_,_,_,h,_=>h.elim
 |[],_::_,[],_,_,h,_=>h.elim
 |[],_::_,_::_,_,_,h,_=>h.elim
 |_::_,[],[],_,_,h,_=>h.elim
 |_::_,[],_::_,_,_,h,_=>h.elim
 |_::_,_::_,[],_,_,h,_=>h.elim
theorem law_post{H:Type}{enc:TypeId×Value→H}{P:Program}{fn:Func}{s:ChangeSpec}{W W':World}{args:Array Value}{a gs:List (DataW H)}{before:List MemPlace}{tb:TypeId}
  (l:laidOutB P=true) (f:DataW.Whole enc P fn.params.toList s.vars false W args.toList a gs before) (g:s.vars=[]) (k:∀t∈fn.params.toList,P.readableRec t=true∧t<P.types.size)
  (c:(s.fn H (a++gs)).results=[.lit (.bool true)]∧(s.fn H (a++gs)).args=a∧(s.fn H (a++gs)).vars=[]) (b:fn.resultTypes=#[tb]) (m:P.underlying tb=some .bool) (i:Ext W W'):
  s.post enc P fn false true false false W args (.bool true) W':=by
 have d:=f.lt;have e:=f;obtain⟨p,q,o,n,rfl,_,_⟩:=f;rw[g]at n
 obtain⟨v,u,r⟩:=c;refine⟨a,gs,p++q,[],p,[],e,?_,?_,?_,i.frame _,fun h=>by cases h⟩
 ·rw[v,b]
  exact trodAll_mk1 (shut_bool m true)
 ·rw[u]
  exact Hd l i k o (fun x j=>d x (by simp[j]))
 ·rw[r,g]
  exact rfl
instance tj{α β:Type}[Bk α][Bk β]:Bk (α×β):=⟨fun x=>bk x.1+bk x.2⟩
class OpnFs(P:Program)(fs:List (TypeId×Nat))(off:Nat)(α:Type)[Rep α][Bk α]:Prop where
 op:∀{H:Type} {enc:TypeId×Value→H} {w:World} {fuel:Nat} {cs:List Value} {xs:List (DataW H×List MemPlace)},off+sz α=cs.length→
  (fs.mapM fun f=>DataW.trod enc P w 0 (fun _=>true) true fuel f.1 ((cs.drop f.2).take (P.cellsOf f.1)))=some xs→∃x:α,rd w (c7 w) (cs.drop off) x∧bk x≤Rows.uptoBulkAll (xs.map (·.1))
theorem je{P:Program}{t:TypeId}{α:Type}[Rep α][a:IsT P t α]:P.cellsOf t=sz α:=by
 obtain⟨i,h1,h2⟩:=IsT.info (P:=P) (t:=t) (α:=α);simp[Program.cellsOf,h1,h2]
instance OpnFs.one{P:Program}{t:TypeId}{off:Nat}{α:Type}[Rep α][Bk α][e:IsT P t α][b:Opn P t α]:OpnFs P [(t,off)] off α where
 op:=by
  intro H enc w fuel cs xs f h
  simp only[LC,LD,Nh,Nm]at h
  cases h1:DataW.trod enc P w 0 (fun _=>true) true fuel t ((cs.drop off).take (P.cellsOf t))with
  |none=>rw[h1]at h;cases h
  |some d=>
   rw[h1]at h;simp at h;subst h
   obtain⟨d,ps⟩:=d;obtain⟨x,a,c⟩:=b.op h1;rw[je (α:=α),Ml (by rw[Ln];omega)]at a
   exact⟨x,a,by simpa[Rows.uptoBulkAll]using c⟩
instance OpnFs.cons{P:Program}{t:TypeId}{off:Nat}{f:TypeId×Nat}{fs:List (TypeId×Nat)}{α β:Type}[Rep α][Bk α][Rep β][Bk β][i:IsT P t α][g:Opn P t α][e:OpnFs P (f::fs) (off+sz α) β]:OpnFs P ((t,off)::f::fs) off (α×β)where
 op:=by
  intro H enc w fuel cs xs j h
  rw[LC]at h
  simp only[Nh,Nm]at h
  have a:off+sz α+sz β=cs.length:=by
   have:sz (α×β)=sz α+sz β:=rfl;omega
  cases h1:DataW.trod enc P w 0 (fun _=>true) true fuel t ((cs.drop off).take (P.cellsOf t))with
  |none=>rw[h1]at h;cases h
  |some d=>
   rw[h1]at h
   simp only[Nj]at h
   obtain⟨ys,h2,h3⟩:=Ni.1 h;cases h3
   obtain⟨d,ps⟩:=d;obtain⟨x,b,l⟩:=g.op h1;obtain⟨y,c,k⟩:=e.op a h2;rw[je (α:=α)]at b
   refine⟨(x,y),⟨(cs.drop off).take (sz α),cs.drop (off+sz α),?_,b,c⟩,?_⟩
   ·rw[←Kw,List.take_append_drop]
   ·show bk x+bk y≤_
    simp only[LG,Rows.uptoBulkAll];omega
def FU(P:Program)(t:TypeId):Option (List (TypeId×Nat)):=match P.underlying t with
 |some (.struct fs)=>some (fs.toList.map fun f=>(f.type,f.offset))
 |_=>none
theorem Opn.struct{P:Program}{t:TypeId}{fs:List (TypeId×Nat)}{α:Type}[Rep α][Bk α][e:IsT P t α][hf:OpnFs P fs 0 α](h:FU P t=some fs):Opn P t α where
 op:=by
  intro H enc w fuel cs d ps hd
  unfold FU at h
  split at h
  ·rename_i gs a
   cases h
   cases fuel with
   |zero=>simp[DataW.trod]at hd
   |succ fuel=>
    unfold DataW.trod at hd
    rw[a]at hd
    simp only at hd
    split at hd
    ·rename_i c
     obtain⟨xs,h1,h2⟩:=Nl.1 hd;cases h2
     have:=hf.op (enc:=enc) (w:=w) (fuel:=fuel) (cs:=cs) (xs:=xs) (by rw[c,je (α:=α)];omega) (by rw[List.mapM_map];exact h1);obtain⟨x,b,f⟩:=this;exact⟨x,by simpa using b,by simp only[Rows.uptoBulk];omega⟩
    ·cases hd
  ·cases h
instance tg:Opn Tryz.prog 3 Int:=Opn.int NU
instance tx:Opn Tryz.prog 9 ByteArray:=Opn.string Oa
instance tk:Opn Tryz.prog 123 (ByteArray×Int):=Opn.struct (fs:=[(9,0),(3,1)]) O8
instance tm:Opn Tryz.prog 48 (Int×Int):=Opn.struct (fs:=[(3,0),(3,1)]) O8
instance tn:Opn Tryz.prog 22 (List (ByteArray×Int)):=Opn.slice
instance tq:Opn Tryz.prog 23 (List (Int×Int)):=Opn.slice
instance tr:Opn Tryz.prog 27 (Int×Int×Int×Int×Int×Int×Int):=Opn.struct (fs:=[(3,0),(3,1),(3,2),(3,3),(3,4),(3,5),(3,6)]) O8
instance tu:Opn Tryz.prog 29 (Int×Int×Int×Int):=Opn.struct (fs:=[(3,0),(3,1),(3,2),(3,3)]) O8
instance tw:Opn Tryz.prog 25 (List (ByteArray×Int)×List (Int×Int)):=Opn.struct (fs:=[(22,0),(23,1)]) O8
instance tB:Bk Ltl:=⟨Ltl.nodes⟩
theorem xH{cs:List Value}(h:cs.length=3):∃c0 c1 c2,cs=[c0,c1,c2]:=by
 match cs,h with
 |[a,b,c],_=>exact⟨a,b,c,rfl⟩
theorem yn{H:Type}{enc:TypeId×Value→H}{w:World}:∀(fuel:Nat) {cs:List Value} {d:DataW H} {ps:List MemPlace},DataW.trod enc Tryz.prog w 0 (fun _=>true) true fuel 32 cs=some (d,ps)→∃x:Ltl,rd w (c7 w) cs x∧bk x≤Rows.uptoBulk d:=by
 intro fuel
 induction fuel using Nat.strongRecOn with
 |_ fuel u=>
  intro cs d ps hd
  have a:FU Tryz.prog 32=some [(3,0),(3,1),(30,2)]:=by kernel_rfl
  unfold FU at a
  split at a
  ·rename_i gs v
   have a:=Nn a;cases fuel with
   |zero=>simp[DataW.trod]at hd
   |succ fuel=>
    unfold DataW.trod at hd
    rw[v]at hd
    simp only at hd
    split at hd
    ·rename_i y
     obtain⟨xs,h1,h2⟩:=Nl.1 hd;cases h2
     have h3:(List.map (fun f:Field=>(f.type,f.offset)) gs.toList).mapM (fun f:TypeId×Nat=>DataW.trod enc Tryz.prog w 0 (fun _=>true) true fuel f.1 ((cs.drop f.2).take (Tryz.prog.cellsOf f.1)))=some xs:=by rw[List.mapM_map];exact h1
     rw[a]at h3
     rw[je (α:=Ltl)]at y
     have o:cs.length=3:=y;simp only[LC,LD,Nh,Nm]at h3
     obtain⟨B,s,h3⟩:=Ni.1 h3;obtain⟨K,h3,g⟩:=Ni.1 h3;obtain⟨A,q,h3⟩:=Ni.1 h3;obtain⟨J,h3,c⟩:=Ni.1 h3;obtain⟨z,i,h3⟩:=Ni.1 h3;simp at h3 c g
     subst h3 c g;obtain⟨d1,p1⟩:=B;obtain⟨d2,p2⟩:=A;obtain⟨d3,L⟩:=z;rw[je (α:=Int)]at s q
     rw[je (α:=List Ltl)]at i
     obtain⟨k,D,bk1⟩:=Opn.op (P:=Tryz.prog) (t:=3) (α:=Int) s;obtain⟨n,hn,bk2⟩:=Opn.op (P:=Tryz.prog) (t:=3) (α:=Int) q;cases fuel with
     |zero=>simp[DataW.trod]at i
     |succ fuel=>
      obtain⟨kids,b,bk3⟩:=Fy (α:=Ltl) (e:=32) (fun h=>u fuel O7 h) i;obtain⟨ao,cap,E,C⟩:=C9 b;have p:=C3 D;have m:=C3 hn;refine⟨.mk k n kids,?_,?_⟩
      ·clear v a h1 s q i u bk1 bk2 bk3
       obtain⟨c0,c1,c2,rfl⟩:=xH o;have I:[c0]=[.int .i64 k]:=p;have a1:[c1]=[.int .i64 n]:=m;have a2:[c2]=[.slice ao kids.length cap]:=E;rw[Kj I|>.1,Kj a1|>.1,Kj a2|>.1];exact RdT.of C
      ·have j:∀l:List Ltl,iE l=Ltl.nodesL l:=by
        intro l
        induction l with
        |nil=>rfl
        |cons x r ihl=>simp only[iE,Ltl.nodesL,ihl];rfl
       have G:bk kids=iE kids+1:=rfl;have F:bk (Ltl.mk k n kids)=1+Ltl.nodesL kids:=by show Ltl.nodes _=_;simp[Ltl.nodes]
       rw[F,←j];simp only[LG,LI,Rows.uptoBulk,Rows.uptoBulkAll];omega
    ·cases hd
  ·cases a
instance tC:Opn Tryz.prog 32 Ltl where
 op:=fun h=>yn _ h
theorem k7{H:Type}{enc:TypeId×Value→H}{w:World}:∀(fuel:Nat) {cs:List Value} {d:DataW H} {ps:List MemPlace},DataW.trod enc Tryz.prog w 0 (fun _=>true) true fuel 35 cs=some (d,ps)→∃x:Ltl,rd w (c7 w) cs x∧bk x≤Rows.uptoBulk d:=by
 intro fuel
 induction fuel using Nat.strongRecOn with
 |_ fuel u=>
  intro cs d ps hd
  have a:FU Tryz.prog 35=some [(3,0),(3,1),(33,2)]:=by kernel_rfl
  unfold FU at a
  split at a
  ·rename_i gs v
   have a:=Nn a;cases fuel with
   |zero=>simp[DataW.trod]at hd
   |succ fuel=>
    unfold DataW.trod at hd
    rw[v]at hd
    simp only at hd
    split at hd
    ·rename_i y
     obtain⟨xs,h1,h2⟩:=Nl.1 hd;cases h2
     have h3:(List.map (fun f:Field=>(f.type,f.offset)) gs.toList).mapM (fun f:TypeId×Nat=>DataW.trod enc Tryz.prog w 0 (fun _=>true) true fuel f.1 ((cs.drop f.2).take (Tryz.prog.cellsOf f.1)))=some xs:=by rw[List.mapM_map];exact h1
     rw[a]at h3
     rw[je (α:=Ltl)]at y
     have o:cs.length=3:=y;simp only[LC,LD,Nh,Nm]at h3
     obtain⟨B,s,h3⟩:=Ni.1 h3;obtain⟨K,h3,g⟩:=Ni.1 h3;obtain⟨A,q,h3⟩:=Ni.1 h3;obtain⟨J,h3,c⟩:=Ni.1 h3;obtain⟨z,i,h3⟩:=Ni.1 h3;simp at h3 c g
     subst h3 c g;obtain⟨d1,p1⟩:=B;obtain⟨d2,p2⟩:=A;obtain⟨d3,L⟩:=z;rw[je (α:=Int)]at s q
     rw[je (α:=List Ltl)]at i
     obtain⟨k,D,bk1⟩:=Opn.op (P:=Tryz.prog) (t:=3) (α:=Int) s;obtain⟨n,hn,bk2⟩:=Opn.op (P:=Tryz.prog) (t:=3) (α:=Int) q;cases fuel with
     |zero=>simp[DataW.trod]at i
     |succ fuel=>
      obtain⟨kids,b,bk3⟩:=Fy (α:=Ltl) (e:=35) (fun h=>u fuel O7 h) i;obtain⟨ao,cap,E,C⟩:=C9 b;have p:=C3 D;have m:=C3 hn;refine⟨.mk k n kids,?_,?_⟩
      ·clear v a h1 s q i u bk1 bk2 bk3
       obtain⟨c0,c1,c2,rfl⟩:=xH o;have I:[c0]=[.int .i64 k]:=p;have a1:[c1]=[.int .i64 n]:=m;have a2:[c2]=[.slice ao kids.length cap]:=E;rw[Kj I|>.1,Kj a1|>.1,Kj a2|>.1];exact RdT.of C
      ·have j:∀l:List Ltl,iE l=Ltl.nodesL l:=by
        intro l
        induction l with
        |nil=>rfl
        |cons x r ihl=>simp only[iE,Ltl.nodesL,ihl];rfl
       have G:bk kids=iE kids+1:=rfl;have F:bk (Ltl.mk k n kids)=1+Ltl.nodesL kids:=by show Ltl.nodes _=_;simp[Ltl.nodes]
       rw[F,←j];simp only[LG,LI,Rows.uptoBulk,Rows.uptoBulkAll];omega
    ·cases hd
  ·cases a
instance tz:Opn Tryz.prog 35 Ltl where
 op:=fun h=>k7 _ h
instance tD:IsT Tryz.prog 37 (ByteArray×Int×(Int×Int×Int×Int×Int×Int×Int)×(Int×Int×Int×Int)×Ltl×Ltl):=IsT.of O8 NY rfl
instance tE:Opn Tryz.prog 37 (ByteArray×Int×(Int×Int×Int×Int×Int×Int×Int)×(Int×Int×Int×Int)×Ltl×Ltl):=Opn.struct (fs:=[(9,0),(3,1),(27,2),(29,9),(32,13),(35,16)]) O8
theorem He{H:Type}{enc:TypeId×Value→H}{P:Program}{w:World}{base:Nat}{spare:Nat→Bool}{held:Bool}{r q p o n m:TypeId}{args:Array Value}{s:List (DataW H)}{ps:List MemPlace}
  (h:DataW.TrodAll enc P w base spare held [r,q,p,o,n,m] args.toList s ps):
  ∃f e d c b a l d1 d2 d3 d4 d5 k p1 p2 j i g,args=#[f,e,d,c,b,a]∧s=[l,d1,d2,d3,d4,d5]∧ps=k++p1++p2++j++i++g∧DataW.Trod enc P w base spare held r f l k∧DataW.Trod enc P w base spare held q e d1 p1∧DataW.Trod enc P w base spare held p d d2 p2∧DataW.Trod enc P w base spare held o c d3 j∧DataW.Trod enc P w base spare held n b d4 i∧DataW.Trod enc P w base spare held m a d5 g:=by
 obtain⟨f,vs,l,_,k,_,v,rfl,rfl,u,h⟩:=OZ h;obtain⟨e,vs1,d1,_,p1,_,rfl,rfl,rfl,h1,h⟩:=OZ h;obtain⟨d,vs2,d2,_,p2,_,rfl,rfl,rfl,h2,h⟩:=OZ h;obtain⟨c,vs3,d3,_,j,_,rfl,rfl,rfl,h3,h⟩:=OZ h;obtain⟨b,vs4,d4,_,i,_,rfl,rfl,rfl,h4,h⟩:=OZ h;obtain⟨a,vs5,d5,_,g,_,rfl,rfl,rfl,t,h⟩:=OZ h;obtain⟨rfl,rfl,rfl⟩:=trodAll_nil h;exact⟨f,e,d,c,b,a,l,d1,d2,d3,d4,d5,k,p1,p2,j,i,g,by cases args;simp_all,rfl,by simp,u,h1,h2,h3,h4,t⟩
end Go.Proofs.YtfpjecjadlgdcaaGreatDoor
