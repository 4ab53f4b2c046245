import Derived.Test.YtodmkmobdmcfbaaGreatDoorPtTopNot12
set_option linter.unusedVariables false
set_option linter.unusedSimpArgs false
set_option linter.defProp false
namespace Go.Proofs.YtodmkmobdmcfbaaGreatDoor
open Go.RowKit
theorem nt(x:cH)(w:World):(Op.equalIn 10000 31 (Bz x) (Bz BA)).run Tryz.prog w=.ok (x==BA) w:=by
 have m:=NP;have a3:=Nv;have l:=NB;have hS:Tryz.prog.underlying 31=some (.struct (Tryz.prog.fieldsOf 31)):=by kernel_rfl
 have j:Tryz.prog.stoodInHeld 31=false:=by kernel_rfl
 obtain⟨a,b,c,d,e,f,g⟩:=x;simp only[Bz,BA];rw[show(10000:Nat)=9999+1 from rfl,run_equalIn_agg w 9999 31 _ _ hS j];simp only[Program.fieldsOf,NQ]
 go_simp
 by_cases h1:a=0
 ·by_cases h2:b=0
  ·by_cases h3:c=0
   ·by_cases h4:d=0
    ·by_cases h:e=0
     ·by_cases i:f=0
      ·by_cases k:g=0<;>simp[h1,h2,h3,h4,h,i,k]
      ·simp[h1,h2,h3,h4,h,i]
     ·simp[h1,h2,h3,h4,h]
    ·simp[h1,h2,h3,h4]
   ·simp[h1,h2,h3]
  ·simp[h1,h2]
 ·simp[h1]
theorem D1(x:cH)(p q:Operand)(w:World):((do eqGuard .neq 31 p q (Bz x) (Bz BA);binOp .neq 31 (Bz x) (Bz BA):Sem Value)).run Tryz.prog w=.ok (.bool (x != BA)) w:=by
 have a:Tryz.prog.eqGuardType Tryz.prog.depth 31=false:=by kernel_rfl
 rw[Nr];have b:(eqGuard .neq 31 p q (Bz x) (Bz BA)).run Tryz.prog w=.ok () w:=run_eqGuard_agg w .neq 31 p q _ _ a;have h:=nt x w;rw[b,Nq];unfold Bz at h⊢
 rw[run_neq_struct,h];rfl
theorem nu(x:cM)(w:World):(Op.equalIn 10000 33 (G4 x) (G4 G5)).run Tryz.prog w=.ok (x==G5) w:=by
 have h:=NP;have a3:=Nv;have f:=NB;have hS:Tryz.prog.underlying 33=some (.struct (Tryz.prog.fieldsOf 33)):=by kernel_rfl
 have e:Tryz.prog.stoodInHeld 33=false:=by kernel_rfl
 obtain⟨a,b,c,d⟩:=x;simp only[G4,G5];rw[show(10000:Nat)=9999+1 from rfl,run_equalIn_agg w 9999 33 _ _ hS e];simp only[Program.fieldsOf,NR]
 go_simp
 by_cases h1:a=0
 ·by_cases h2:b=0
  ·by_cases h3:c=0
   ·by_cases h4:d=0<;>simp[h1,h2,h3,h4]
   ·simp[h1,h2,h3]
  ·simp[h1,h2]
 ·simp[h1]
theorem D2(x:cM)(p q:Operand)(w:World):((do eqGuard .neq 33 p q (G4 x) (G4 G5);binOp .neq 33 (G4 x) (G4 G5):Sem Value)).run Tryz.prog w=.ok (.bool (x != G5)) w:=by
 have a:Tryz.prog.eqGuardType Tryz.prog.depth 33=false:=by kernel_rfl
 rw[Nr];have b:(eqGuard .neq 33 p q (G4 x) (G4 G5)).run Tryz.prog w=.ok () w:=run_eqGuard_agg w .neq 33 p q _ _ a;have h:=nu x w;rw[b,Nq];unfold G4 at h⊢
 rw[run_neq_struct,h];rfl
section
variable {Q:Exit→Act→World→Prop}{n:Nat}{σ:Sg}{w:World}{L rest:List Oper}{d:Nat}{ty:TypeId}{pos:String}{af:Array Edge}{g:Option (Nat×Bool)}{yt:TypeId}{x y:Operand}
theorem fi{a:cH}(i:gd L σ ⟨some d,.binOp .neq 31 x y yt,ty,pos,af,g⟩=some true)(hd:Nat.ble (d+1) n=true)(f:ev σ x=some (Bz a))(e:ev σ y=some (Bz BA))
  (h:WL Tryz.prog L Q rest n ((d,.bool (a != BA))::σ) w):WL Tryz.prog L Q (⟨some d,.binOp .neq 31 x y yt,ty,pos,af,g⟩::rest) n σ w:=by
 refine WL.run i hd (fun c b=>?_) h;have:=D1 a x y w;simp only[execOp,b.ev f,b.ev e];rw[Nr,this];rfl
theorem fj{a:cM}(i:gd L σ ⟨some d,.binOp .neq 33 x y yt,ty,pos,af,g⟩=some true)(hd:Nat.ble (d+1) n=true)(f:ev σ x=some (G4 a))(e:ev σ y=some (G4 G5))
  (h:WL Tryz.prog L Q rest n ((d,.bool (a != G5))::σ) w):WL Tryz.prog L Q (⟨some d,.binOp .neq 33 x y yt,ty,pos,af,g⟩::rest) n σ w:=by
 refine WL.run i hd (fun c b=>?_) h;have:=D2 a x y w;simp only[execOp,b.ev f,b.ev e];rw[Nr,this];rfl
end
set_option maxHeartbeats 2000000 in
theorem Dw(w0:World){r:cJ}{lo co no:Option Addr}{lc cc Z:Nat}{l:List ByteArray}(hl:Sl w0 (c7 w0) lo lc r.2.2.2.2.1.kids)(hc:Sl w0 (c7 w0) co cc r.2.2.2.2.2.kids)(hn:Sl w0 (c7 w0) no Z l):
  Rt Tryz.prog 24 [Dx r lo lc co cc,.slice no l.length Z].toArray w0 fun v w'=>v=Pq (Bq r l)∧Ext w0 w':=by
 obtain⟨nm,so,pt,tp,lt,ct⟩:=r;dsimp only at hl hc⊢
 refine dE Tryz.func24 Tryz.ntmps24 rfl rfl ?_;refine Pu ?_;refine dX rfl rfl rfl fun X c e1=>?_
 skip;refine dX rfl rfl rfl fun J a e2=>?_
 have c:=c.ext e2;have T:=e1.trans e2;have l3:=a.lt;refine Qm ?_;refine WL.alloc rfl rfl (fun w3 j e3=>?_);refine WL.st rfl rfl rfl j rfl rfl Pk (fun I j K=>?_);have V:Ext J I:=e3.grown K e3.size Pb;have c:=c.ext V;have a:=a.ext V;have D:=T.trans V;have z1:=e1.size;have z2:=e2.size;have l7:=j.lt;clear K e3;apply WL.nil;apply bz;have R:so=1→gJ (nm,so,pt,tp,lt,ct)=A_ pt++Es pt:=fun h=>by unfold gJ;rw[OE h]
 have G:so=2→gJ (nm,so,pt,tp,lt,ct)=(if ga tp.1=true then [tp.2.1]else [tp.2.1,tp.2.2.1]):=fun h=>by unfold gJ;rw[OD (by show¬so=1;omega),OE h]
 have z:so≠1→so≠2→gJ (nm,so,pt,tp,lt,ct)=[]:=fun h h'=>by unfold gJ;rw[OD h,OD h']
 refine aB (S:=Value) (fun v=>[(2,Pr w0.heap.size),(3,Pr X.heap.size),(5,Pq (Br (nm,so,pt,tp,lt,ct) l)),(6,v),(7,Pr J.heap.size)])
  (fun v w=>Rd w (c7 w) v (gJ (nm,so,pt,tp,lt,ct))∧Blk w X.heap.size 56 [.slice no l.length Z]∧Blk w J.heap.size 4 [.bool (decide (so=1))]∧Ext w0 w) ?_ ?_
 ·have s:∀w:World,Rd w (c7 w) (Value.slice none 0 0) ([]:List Int):=fun w=>(Sl.zero (α:=Int) w (c7 w)).rd
  refine QS ?_;apply CW.cond rfl<;>intro h
  ·have h1:so=1:=by simpa using h
   clear h;refine P0 ?_;refine WL.call rfl rfl rfl (mB I pt) ?_;rintro _ A ⟨rfl,f⟩
   have c:=c.ext f;have a:=a.ext f;have j:=j.ext f;have k:=D.trans f;refine QH ?_;refine WL.call rfl rfl rfl (gK A pt) ?_;rintro _ U ⟨⟨u1,u2,rfl,ho1,ho2⟩,o⟩
   have c:=c.ext o;have a:=a.ext o;have j:=j.ext o;have p:=k.trans o;have hl1:(A_ pt).length≤2:=by unfold A_;split<;>simp
   have hl2:(Es pt).length≤2:=by unfold Es;(repeat' split)<;>simp
   obtain⟨so2,sc2,rfl,hs2⟩:=ho2.oldN.sl;have z5:=f.size;have z4:=V.size;refine Qj ?_;refine WL.app (F:=cZ) rfl rfl rfl rfl ho1 hs2.srcN o.size Pc O5 O0 (fun Y W ho7 m _=>?_);have hnb:∀g,u1.ownBlock=some g→A.heap.size≤g:=fun g B=>(ho1.lt g B).1
   have u:=a.kept m (fun e=>by have:=hnb _ e.symm;omega);have t:=j.kept m (fun e=>by have:=hnb _ e.symm;omega);have C:Ext w0 W:=p.grown m p.size (fun g B=>by have:=hnb g B;omega);refine Ra ?_;refine WL.st rfl rfl rfl t rfl rfl Pk (fun w8 M H=>?_);have O:=u.kept H Ph;have hE8:Ext w0 w8:=C.grown H C.size (fun g B=>by cases B;have:=T.size;omega);have ho8:=ho7.keptN H (fun g B e=>by have:=(ho7.lt g B).1;have:=Nj e;omega);refine QV ?_;refine aU Y ⟨rfl,rfl,?_,rfl,rfl,trivial⟩ ⟨by rw[R h1];exact ho8.oldN,O,by rw[Ov h1];exact M,hE8⟩;unfold Br;rw[OE h1];rfl
  have h1:¬so=1:=by simpa using h
  clear h;have b:Blk I J.heap.size 4 [.bool (decide (so=1))]:=by rw[Ot h1];exact j
  refine Qm ?_;apply CW.cond rfl<;>intro h
  ·have h2:so=2:=by simpa using h
   clear h;refine P0 ?_;refine WL.call rfl rfl rfl (lS I tp) ?_;rintro _ A ⟨rfl,f⟩
   have c:=c.ext f;have a:=a.ext f;have b:=b.ext f;have k:=D.trans f;refine QM ?_;refine WL.lit (F:=cZ) (ys:=[tp.2.1]) rfl rfl rfl rfl rfl ⟨Rd.mkInt _ _ _,trivial⟩ (by show 1*1≤16777216;decide) Pc (fun U ho6 hg6=>?_);have o:Ext A U:=(JD _ _).grown hg6 Pm Pg;have c:=c.ext o;have a:=a.ext o;have b:=b.ext o;have p:=k.trans o;refine QM ?_;refine WL.call rfl rfl rfl (gf U tp.1) ?_;rintro _ _ ⟨rfl,rfl⟩
   refine PE ?_;apply CW.cond rfl<;>intro h
   ·have ha:¬ga tp.1=true:=by simpa using h
    refine QX ?_;refine dW (F:=cZ) (yv:=tp.2.2.1) rfl rfl O_ rfl rfl O_ ho6 Pl o.size Pc O2 (by unfold maxLen;simp) O3 (fun Y W q ho7 m hnb=>?_);have u:=a.kept m (fun e=>by have:=Nj e;have:X.heap.size=A.heap.size:=this;have:=f.size;omega);have t:=b.kept m (fun e=>by have:=Nj e;have:J.heap.size=A.heap.size:=this;have:=f.size;omega);have C:Ext w0 W:=p.grown m p.size (fun g B=>by cases B;exact k.size);refine QV ?_;refine aU Y ⟨rfl,rfl,?_,rfl,rfl,trivial⟩ ⟨by rw[G h2,OD ha];exact ho7.oldN,u,t,C⟩;unfold Br;rw[OD h1,OE h2];rfl
   ·have ha:ga tp.1=true:=by simpa using h
    refine QU ?_;refine aU _ ⟨rfl,rfl,?_,rfl,rfl,trivial⟩ ⟨by rw[G h2,OE ha];exact ho6.oldN,a,b,p⟩;unfold Br;rw[OD h1,OE h2];rfl
  have h2:¬so=2:=by simpa using h
  clear h;refine Qm ?_;apply CW.cond rfl<;>intro h
  ·have h3:so=3:=by simpa using h
   clear h;refine QB ?_;refine WL.call rfl rfl rfl (xZ I (hl.up D) (hn.up D)) ?_;rintro _ A ⟨rfl,f⟩
   refine QV ?_;refine aU (.slice none 0 0) ⟨rfl,rfl,?_,rfl,rfl,trivial⟩ ⟨by rw[z h1 h2];exact s _,a.ext f,b.ext f,D.trans f⟩;unfold Br;rw[OD h1,OD h2,OE h3];rfl
  have h3:¬so=3:=by simpa using h
  clear h;refine Qm ?_;apply CW.cond rfl<;>intro h
  ·have h4:so=4:=by simpa using h
   clear h;refine QB ?_;refine WL.call rfl rfl rfl (kT I (hc.up D) (hn.up D)) ?_;rintro _ A ⟨rfl,f⟩
   refine QV ?_;refine aU (.slice none 0 0) ⟨rfl,rfl,?_,rfl,rfl,trivial⟩ ⟨by rw[z h1 h2];exact s _,a.ext f,b.ext f,D.trans f⟩;unfold Br;rw[OD h1,OD h2,OD h3,OE h4];rfl
  ·have h4:¬so=4:=by simpa using h
   refine QU ?_;refine aU (.slice none 0 0) ⟨rfl,rfl,?_,rfl,rfl,trivial⟩ ⟨by rw[z h1 h2];exact s _,a,b,D⟩;unfold Br;rw[OD h1,OD h2,OD h3,OD h4];rfl
 rintro lv A ⟨hlv,P,N,k⟩
 obtain⟨ao,cap,rfl,hsl⟩:=hlv.sl;unfold Bq;generalize Br (nm,so,pt,tp,lt,ct) l=E at*
 generalize gJ (nm,so,pt,tp,lt,ct)=at' at*
 dsimp only;refine PO ?_
 (refine eV rfl rfl (fun h=>?_) (fun h=>?_))
 ·have h0:E=0:=by simpa using h
  clear h;refine Rr ?_;refine WL.call rfl rfl rfl (kE A (fun n=>Dt l n (decide (so=1))==[]) hsl (fun w hw i hi=>FnV.mk (cs:=[_,_]) (Dv w (hn.up (k.trans hw)) (P.ext hw) (N.ext hw) at'[i]))) ?_;rintro _ U ⟨rfl,o⟩
  refine PE ?_;apply CW.cond rfl<;>intro h
  ·rw[OE ⟨h0,h⟩]
   refine QJ ?_;exact be rfl rfl ⟨rfl,k.trans o⟩
  ·rw[OD (by rw[h];simp)]
   refine QQ ?_;exact be rfl rfl ⟨rfl,k.trans o⟩
 ·have h0:¬E=0:=by simpa using h
  rw[OD (fun h=>h0 h.1)];refine Qa ?_;exact be rfl rfl ⟨rfl,k⟩
def AW(r:cJ):Bool:=(r.2.1 != 1&&r.2.2.1 != BA)||(r.2.1 != 2&&r.2.2.2.1 != G5)
def AX(r:cJ):Bool:=AW r||(r.2.1 != 3&&oQ r.2.2.2.2.1)
theorem AZ(r:cJ):AY r=(AX r||(r.2.1 != 4&&oQ r.2.2.2.2.2)):=rfl
set_option maxHeartbeats 2000000 in
theorem CR(w0:World){r:cJ}{lo p no:Option Addr}{l q k:Nat}{e:List ByteArray}(m:Sl w0 (c7 w0) lo l r.2.2.2.2.1.kids)(n:Sl w0 (c7 w0) p q r.2.2.2.2.2.kids)(hn:Sl w0 (c7 w0) no k e):
  Rt Tryz.prog 9 [Dx r lo l p q,.slice no e.length k].toArray w0 fun v w'=>v=Pq (jQ r e)∧Ext w0 w':=by
 refine dE Tryz.func9 Tryz.ntmps9 rfl rfl ?_;have u:=m.len63;have w:=n.len63;refine Pu ?_;refine dX rfl rfl rfl fun t f o=>?_
 refine QM ?_;refine WL.call rfl rfl rfl (cX t r.1) ?_;rintro _ s ⟨rfl,j⟩
 have f:=f.ext j;have c:=o.trans j;unfold jQ;have d:(yR r.1=false∨r.2.1<1∨r.2.1>4)→(if yR r.1=false∨r.2.1<1∨r.2.1>4 then 1 else if Bq r e≠0 then Bq r e else if AY r=true then 1 else 0)=(1:Int):=fun h=>OE h
 refine Ra ?_
 (refine eV rfl rfl (fun h=>?_) (fun h=>?_))
 ·rw[d (.inl (by simpa using h))]
  refine Q3 ?_;exact be rfl rfl ⟨rfl,c⟩
 have h1:¬yR r.1=false:=by simpa using h
 clear h;refine Rl ?_
 (refine eV rfl rfl (fun h=>?_) (fun h=>?_))
 ·rw[d (.inr (.inl (by simpa using h)))]
  refine Q3 ?_;exact be rfl rfl ⟨rfl,c⟩
 have h2:¬r.2.1<1:=by simpa using h
 clear h;refine QG ?_;apply CW.cond rfl<;>intro h
 ·rw[d (.inr (.inr (by simpa using h)))]
  refine QJ ?_;exact be rfl rfl ⟨rfl,c⟩
 have h3:¬r.2.1>4:=by simpa using h
 clear h d;rw[OD (by simp only[OI];exact⟨h1,h2,h3⟩)];refine PX ?_;refine WL.call rfl rfl rfl (Dw s (r:=r) (m.up c) (n.up c) (hn.up c)) ?_;rintro _ y ⟨rfl,i⟩
 have x:=f.ext i;have g:=c.trans i;generalize Bq r e=E at*
 refine Qm ?_;apply CW.cond rfl<;>intro h
 ·rw[OE (by simpa using h)]
  refine QJ ?_;exact be rfl rfl ⟨rfl,g⟩
 rw[OD (by simpa using h)];clear h f i j o c;apply CW.skip;apply bz;refine az [(2,Pr w0.heap.size),(6,.bool (AW r))] ?_ ?_
 ·unfold AW
  refine QX ?_
  (refine eV rfl rfl (fun h=>?_) (fun h=>?_))
  ·rw[h]
   refine Rj ?_;refine WL.build (parts:=[]) rfl rfl rfl rfl ?_;refine fi (a:=r.2.2.1) rfl rfl rfl rfl ?_;refine Ra ?_
   (refine eV rfl rfl (fun h=>?_) (fun h=>?_))
   ·rw[h]
    refine Py ?_;exact aS OZ
   ·rw[h]
    refine Rl ?_
    (refine eV rfl rfl (fun h=>?_) (fun h=>?_))
    ·rw[h]
     refine Rj ?_;refine WL.build (parts:=[]) rfl rfl rfl rfl ?_;refine fj (a:=r.2.2.2.1) rfl rfl rfl rfl ?_;refine QV ?_;exact aS OZ
    ·rw[h]
     refine Py ?_;exact aS OZ
  ·rw[h]
   refine Rk ?_
   (refine eV rfl rfl (fun h=>?_) (fun h=>?_))
   ·rw[h]
    refine Rj ?_;refine WL.build (parts:=[]) rfl rfl rfl rfl ?_;refine fj (a:=r.2.2.2.1) rfl rfl rfl rfl ?_;refine QV ?_;exact aS OZ
   ·rw[h]
    refine Py ?_;exact aS OZ
 refine az [(2,Pr w0.heap.size),(6,.bool (AX r))] ?_ ?_
 ·unfold AX oQ
  refine PQ ?_
  (refine eV rfl rfl (fun h=>?_) (fun h=>?_))
  ·rw[h]
   refine Py ?_;exact aS OZ
  rw[h];refine Rl ?_
  (refine eV rfl rfl (fun h=>?_) (fun h=>?_))
  ·rw[h]
   refine Rl ?_
   (refine eV rfl rfl (fun h=>?_) (fun h=>?_))
   ·rw[h]
    refine Py ?_;exact aS OZ
   rw[h];refine Rl ?_
   (refine eV rfl rfl (fun h=>?_) (fun h=>?_))
   ·rw[h]
    refine Py ?_;exact aS OZ
   rw[h];refine P2 ?_;refine aS ⟨rfl,?_,trivial⟩;refine Oq (fun b=>some (Value.bool b)) ?_;rw[JI];simp
  ·rw[h]
   refine Py ?_;exact aS OZ
 rw[AZ];unfold oQ;refine PO ?_
 (refine eV rfl rfl (fun h=>?_) (fun h=>?_))
 ·rw[h]
  refine Q3 ?_;exact be rfl rfl ⟨rfl,g⟩
 rw[h];clear h;refine Rl ?_
 (refine eV rfl rfl (fun h=>?_) (fun h=>?_))
 ·rw[h]
  refine Rl ?_
  (refine eV rfl rfl (fun h=>?_) (fun h=>?_))
  ·rw[h]
   refine Q3 ?_;exact be rfl rfl ⟨rfl,g⟩
  rw[h];refine Rl ?_
  (refine eV rfl rfl (fun h=>?_) (fun h=>?_))
  ·rw[h]
   refine Q3 ?_;exact be rfl rfl ⟨rfl,g⟩
  rw[h];refine P2 ?_;apply CW.cond rfl<;>intro h
  ·rw[OE (by simpa using h)]
   refine QJ ?_;exact be rfl rfl ⟨rfl,g⟩
  ·rw[OD (by simpa using h)]
   refine QQ ?_;exact be rfl rfl ⟨rfl,g⟩
 ·rw[h]
  refine Qa ?_;exact be rfl rfl ⟨rfl,g⟩
theorem Grow.low{α:Type}[Rep α]{B B':Nat}{e:TypeId}{w:World}{v:Value}{xs:List α}(h:Grow B e w v xs)(c:B'≤B):Grow B' e w v xs:=by
 obtain⟨F,h1,h2⟩:=h;exact⟨F,fun b a=>⟨MH c (h1 b a).1,(h1 b a).2⟩,h2.low c⟩
instance su:IsC Tryz.prog 38 19 true:=IsC.of O1 Tryz.underlying38 rfl
instance sw:IsFd Tryz.prog 38 1 1:=IsFd.of O1
instance sx:IsFd Tryz.prog 38 4 13:=IsFd.of O1
theorem kJ:∀(m:Nat) (t:Ltl),t.nodes≤m→IB t→∀(w:World) (F:Nat→Prop) (ao:Option Addr) (cap:Nat),Sl w F ao cap t.kids→(∀b,F b→b<w.heap.size)→
  Rt Tryz.prog 31 [ye t.k t.n ao t.kids.length cap].toArray w fun v w'=>(∃kv,v=.agg [Pq t.k,Pq t.n,kv].toArray∧Grow w.heap.size 28 w' kv t.kids)∧Ext w w':=by
 intro m
 induction m with
 |zero=>intro t h;have:=t.nodes_pos;omega
 |succ m ih=>
  rintro⟨k,n,kids⟩ hm K w F ao cap hs hF
  simp only[Ltl.k,Ltl.n,Ltl.kids]at hs⊢
  have hkl:=wQ K;refine dD Tryz.func31 Tryz.ntmps31 rfl rfl ?_;refine Pu ?_;refine dX rfl rfl rfl fun w1 hf hE1=>?_
  refine WL.alloc rfl rfl (fun p hr hE2=>?_);have hf:=hf.ext hE2;have s:=hE1.trans hE2;have hz1:w.heap.size≤w1.heap.size:=hE1.size;have hlf:=hf.lt;have hlr:=hr.lt;refine QM ?_;refine WL.build rfl rfl rfl rfl ?_;refine WL.alloc rfl rfl (fun w3 ho G=>?_);refine WL.st rfl rfl rfl ho rfl rfl Pk (fun I ho4 T=>?_);have e4:Ext p I:=G.grown T G.size Pb;have W:=hf.ext e4;have M:=hr.ext e4;have hE4:=s.trans e4;have hlo:=ho4.lt;have hsz:=s.size;clear hf hr ho T G e4 s;refine QS ?_;refine CW.loop (S:=Nat×Value) (fun x=>[(1,Pr w.heap.size),(2,Pr w1.heap.size),(3,Pr p.heap.size),(12,.slice ao kids.length cap),(13,Pq kids.length),(14,Pq x.1)])
   (fun x w'=>x.1≤kids.length∧Ext w w'∧I.heap.size≤w'.heap.size∧Blk w' w.heap.size 28 [Pq k,Pq n,.slice ao kids.length cap]∧Blk w' w1.heap.size 28 [Pq 0,Pq 0,.slice none 0 0]∧
    Blk w' p.heap.size 28 [Pq k,Pq n,x.2]∧Grow I.heap.size 28 w' x.2 (kids.take x.1)) (fun x=>kids.length -x.1) (0,.slice none 0 0) OZ ⟨by simp,hE4,MF _,W,M,ho4,by simpa using Grow.nil⟩ ?_
  rintro⟨i,kv⟩ z ⟨hi,o,A,V,B,ho5,l⟩
  dsimp only at hi o A V B ho5 l⊢
  clear W M ho4;refine Qm ?_;apply CW.cond rfl<;>intro h
  ·have h:i<kids.length:=by simpa using h
   refine Q6 ?_;refine eC rfl rfl rfl rfl rfl (hs.up0 o hF) h O_ (fun u q hu=>?_);obtain⟨uo,uc,rfl,hku⟩:=Rd.ltl hu;refine WL.alloc rfl rfl (fun w6 hx hE6=>?_);refine WL.st rfl rfl rfl hx rfl rfl Pk (fun c J hg7=>?_);have H:Ext z c:=hE6.grown hg7 hE6.size Pb;have hE7:=o.trans H;have ed:=Ext.drew c;have hd:=hE7.trans ed;have ho7:=(ho5.ext H).ext ed;have hxd:=J.ext ed;have X:=(l.ext H).ext ed;have P:=J.lt;have hz7:=H.size;have hKo:∀x,(fun x:World=>x.heap[p.heap.size]?=(drew c).heap[p.heap.size]?∧x.heap[z.heap.size]?=(drew c).heap[z.heap.size]?) x→x.heap[p.heap.size]?=(drew c).heap[p.heap.size]?:=fun _ h=>h.1
   have hKx:∀x,(fun x:World=>x.heap[p.heap.size]?=(drew c).heap[p.heap.size]?∧x.heap[z.heap.size]?=(drew c).heap[z.heap.size]?) x→x.heap[z.heap.size]?=(drew c).heap[z.heap.size]?:=fun _ h=>h.2
   refine PM ?_;refine aE (fun x:World=>x.heap[p.heap.size]?=(drew c).heap[p.heap.size]?∧x.heap[z.heap.size]?=(drew c).heap[z.heap.size]?) [(0,true),(1,true),(2,true),(3,false),(4,false),(5,false),(6,true)] 7 mixed O1 ⟨rfl,rfl⟩ ?_;refine RH ?_;refine ce hKx rfl rfl rfl rfl hxd rfl ?_;skip;have hFd:∀b,F b→b<(drew c).heap.size:=fun b j=>MK (hF b j) hd.size
   have Q:Sl (drew c) F uo uc (kids[i]).kids:=hku.up0 (H.trans ed) (fun b j=>MK (hF b j) o.size);refine cr rfl (WL.call rfl rfl rfl (ih kids[i] (zL hm h) (IG K h) (drew c) F uo uc Q hFd) ?_);rintro v w8 ⟨⟨kv8,rfl,hK8⟩,y⟩
   obtain⟨ko,kc,rfl,hks⟩:=hK8.sl;have hv:Rd w8 (Nw (drew c) w8) (ye (kids[i]).k (kids[i]).n ko (kids[i]).kids.length kc) kids[i]:=by
    have:=Rd.mkLtl (k:=(kids[i]).k) (n:=(kids[i]).n) hks;rwa[show Ltl.mk (kids[i]).k (kids[i]).n (kids[i]).kids=kids[i] by cases kids[i];rfl]at this
   have ho8:=ho7.ext y;have hG8:=X.ext y;have hsz8:c.heap.size≤w8.heap.size:=y.size;refine WL.nil (a_ ⟨y.block _ ho7.lt,y.block _ P⟩ ?_);have hgl:=X.lt;obtain⟨F',E,hO,L⟩:=hG8.open (Fu:=Nw (drew c) w8) (fun b j=>⟨MH A (MH hz7 j.1),j.2⟩) (fun g hg j=>by have:=(hgl g hg).2;have:=j.1;omega);have O:(kids.take i).length=i:=by rw[Lv];omega
   have d:=l.lt;refine bV (bytes:=40) (F:=F') rfl rfl rfl rfl O_ rfl rfl O_ hO (hv.wk L) O0 (fun b j=>(E b j).2) O2 (by rw[O];unfold maxLen;omega) (by rw[O];omega)
    (fun w' U=>⟨(U.block _ ho8.lt (fun e=>?_)).trans (y.block _ ho7.lt),(U.block _ O0 (fun e=>?_)).trans (y.block _ P)⟩) (fun cV w9 q2 hO9 f hnb=>?_)
   ·have:=(d _ e.symm).1;omega
   ·have:=(d _ e.symm).2;omega
   have D:Grow I.heap.size 28 w9 cV (kids.take i++[kids[i]]):=⟨F',fun b j=>⟨(E b j).1,MK (E b j).2 f.size⟩,hO9⟩;rw[show kids.take i++[kids[i]]=kids.take (i+1) by rw[Mj h]]at D
   obtain⟨co,cc,rfl,_⟩:=D.sl;have C:∀r,r<I.heap.size→some r≠kv.ownBlock:=fun r hr e=>by have:=(d _ e.symm).1;omega
   have ho9:=ho8.kept f (C _ O0);have hf9:=((((V.ext H).ext ed).ext y)).kept f (C _ O0);have hr9:=((((B.ext H).ext ed).ext y)).kept f (C _ O0);have Z:=hd.trans y;have Y:Ext w w9:=Z.grown f Z.size (fun g hg=>by have:=(d g hg).1;omega);refine RM ?_;refine bp rfl (WL.st rfl rfl rfl ho9 rfl rfl Pk (fun w10 N a=>WL.nil (bu ?_)));have hE10:Ext w w10:=Y.grown a Y.size Pd;have hsz9:=f.size;have hsz10:=a.size;refine P6 ?_;exact EX.back (i+1,.slice co (kids.take (i+1)).length cc) OZ ⟨h,hE10,by omega,hf9.kept a Ph,hr9.kept a Ph,N,D.kept a O0⟩ O4
  ·have h:¬i<kids.length:=by simpa using h
   have hik:i=kids.length:=by omega
   subst hik;rw[Mf]at l
   obtain⟨co,cc,rfl,hsl⟩:=l.sl;refine QP ?_;refine WL.st rfl rfl rfl B rfl rfl Pk (fun w6 hr6 R=>?_);have hG6:=l.kept R O0;refine PH ?_;exact bg rfl rfl hr6 rfl ⟨⟨_,rfl,hG6.low O0⟩,o.grown R o.size Pd⟩
set_option maxHeartbeats 1000000 in
theorem Dm(w:World){r:cJ}{lo I:Option Addr}{y J:Nat}(A:Sl w (c7 w) lo y r.2.2.2.2.1.kids):
  Rt Tryz.prog 12 [Dx r lo y I J].toArray w fun u w'=>∃x,u=.tuple ⟨[x,Pq (pX r).2]⟩∧GL w.heap.size w' x (pX r).1∧Ext w w':=by
 refine dD Tryz.func12 Tryz.ntmps12 rfl rfl ?_;have F:=A.len63;refine Pu ?_;refine dX rfl rfl rfl fun L hf t=>?_
 refine WL.alloc rfl rfl (fun v m s=>?_);have hf:=hf.ext s;have g:=t.trans s;have E:=t.size;have o:=m.lt;unfold pX;refine QS ?_;apply CW.cond rfl<;>intro h
 ·rw[OE (by simpa using h)]
  refine P0 ?_;refine WL.call rfl rfl rfl (l_ v r.2.2.1) ?_;rintro _ j ⟨x,rfl,e,d⟩
  obtain⟨uo,uc,rfl,_⟩:=Rd.ltl e;have a:=g.trans d;refine Ra ?_;refine WL.st rfl rfl rfl (m.ext d) rfl rfl Pk (fun i c b=>?_);refine PV ?_;exact bh rfl rfl rfl c rfl ⟨_,rfl,(e.st b o).low O0,a.grown b a.size Pd⟩
 have h1:¬r.2.1=1:=by simpa using h
 rw[OD h1];clear h;refine Qm ?_;apply CW.cond rfl<;>intro h
 ·rw[OE (by simpa using h)]
  refine P0 ?_;refine WL.call rfl rfl rfl (lz v r.2.2.2.1) ?_;rintro _ j ⟨x,rfl,e,d⟩
  obtain⟨uo,uc,rfl,_⟩:=Rd.ltl e;have a:=g.trans d;refine Ra ?_;refine WL.st rfl rfl rfl (m.ext d) rfl rfl Pk (fun i c b=>?_);refine PV ?_;exact bh rfl rfl rfl c rfl ⟨_,rfl,(e.st b o).low O0,a.grown b a.size Pd⟩
 have h2:¬r.2.1=2:=by simpa using h
 rw[OD h2];clear h;refine Qm ?_;apply CW.cond rfl<;>intro h
 ·rw[OE (by simpa using h)]
  clear h;refine P0 ?_;refine WL.call rfl rfl rfl (ya v (A.up g) Pe) ?_;rintro _ j ⟨rfl,d⟩
  have G:=hf.ext d;have l:=m.ext d;have a:=g.trans d;have D:=d.size;refine Qm ?_;apply CW.cond rfl<;>intro f
  ·have f:(jw r.2.2.2.2.1 1 0).1≠0:=by simpa using f
   rw[OE f];refine Pu ?_;refine WL.build (parts:=[]) rfl rfl rfl rfl ?_;refine Ra ?_;refine WL.st rfl rfl rfl l rfl rfl Pk (fun i c b=>?_);refine PV ?_;exact bh rfl rfl rfl c rfl ⟨_,rfl,Rd.mkLtl (kids:=[]) (Sl.zero _ _),a.grown b a.size Pd⟩
  ·have f:(jw r.2.2.2.2.1 1 0).1=0:=by simpa using f
   rw[OD (by simp[f])];refine Qq ?_;refine WL.call rfl rfl rfl (kJ r.2.2.2.2.1.nodes r.2.2.2.2.1 Pm (jD r.2.2.2.2.1 1 0 f) j (c7 j) lo y (A.up a) Pe) ?_;rintro _ i ⟨⟨kv,rfl,H⟩,C⟩
   obtain⟨ko,kc,rfl,B⟩:=H.sl;have q:=a.trans C;have e:GL j.heap.size i (ye r.2.2.2.2.1.k r.2.2.2.2.1.n ko r.2.2.2.2.1.kids.length kc) r.2.2.2.2.1:=by
    have:=Rd.mkLtl (k:=r.2.2.2.2.1.k) (n:=r.2.2.2.2.1.n) B;rwa[show Ltl.mk r.2.2.2.2.1.k r.2.2.2.2.1.n r.2.2.2.2.1.kids=r.2.2.2.2.1 by cases r.2.2.2.2.1;rfl]at this
   refine WL.st rfl rfl rfl (l.ext C) rfl rfl Pk (fun K z p=>?_);refine PV ?_;exact bh rfl rfl rfl z rfl ⟨_,rfl,(e.st p O0).low O0,q.grown p q.size Pd⟩
 ·rw[OD (by simpa using h)]
  refine Qk ?_;refine WL.build (parts:=[]) rfl rfl rfl rfl ?_;skip;refine WL.st rfl rfl rfl m rfl rfl Pk (fun i c b=>?_);refine PB ?_;exact bh rfl rfl rfl c rfl ⟨_,rfl,Rd.mkLtl (kids:=[]) (Sl.zero _ _),g.grown b g.size Pd⟩
def dU(w:World)(v:Value)(p:cI)(r:cJ)(tok st:Int):Prop:=∃b s l e so sc lo a,v=.tuple ⟨[In b so sc lo a s l,.int .i64 e]⟩∧Sl w (c7 w) so sc s∧Sl w (c7 w) lo a l∧JdgR p r tok st b s l e
set_option maxHeartbeats 4000000 in
theorem wl(w0:World){so fo lo co:Option Addr}{sc fc lc cc:Nat}{ns:List cG}{fl:List cF}{r:cJ}(hs:Sl w0 (c7 w0) so sc ns)(hf:Sl w0 (c7 w0) fo fc fl)(hl:Sl w0 (c7 w0) lo lc r.2.2.2.2.1.kids)(hc:Sl w0 (c7 w0) co cc r.2.2.2.2.2.kids)(tok st:Int):
  Rt Tryz.prog 5 [Cl so sc fo fc ns.length fl.length,Dx r lo lc co cc,Pq tok,Pq st].toArray w0 fun v w'=>dU w' v (ns,fl) r tok st∧Ext w0 w':=by
 refine dG Tryz.func5 Tryz.ntmps5 rfl rfl ?_;refine Pu ?_;refine dX rfl rfl rfl fun w1 f e1=>?_
 skip;refine dX rfl rfl rfl fun w2 p e2=>?_
 have f:=f.ext e2;skip;refine WL.alloc rfl rfl (fun w3 a e3=>?_);have f:=f.ext e3;have p:=p.ext e3;have d:=(e1.trans e2).trans e3;have z1:=e1.size;have z2:=e2.size;have l8:=a.lt;generalize hb8n:w2.heap.size=b8 at*
 clear e1 e2 e3;refine Q0 ?_;refine WL.call rfl rfl rfl (Ef w3 (hs.up d) (hf.up d) tok st) ?_;rintro _ w4 ⟨⟨x,oo,oc,rfl,W,D⟩,e4⟩
 have f:=f.ext e4;have p:=p.ext e4;have a:=a.ext e4;have d:=d.trans e4;obtain⟨a1,c1,a2,c2,a3,c3,a4,c4,rfl,g1,g2,g3,g4⟩:=W.ok;have z4:=e4.size;clear W e4;refine Ra ?_;refine WL.alloc rfl rfl (fun w5 c e5=>?_);refine WL.st rfl rfl rfl c rfl rfl Pk (fun w6 c hg6=>?_);have R:Ext w4 w6:=e5.grown hg6 e5.size Pb;have f:=f.ext R;have p:=p.ext R;have a:=a.ext R;have d:=d.trans R;have g1:=g1.up R;have g2:=g2.up R;have g3:=g3.up R;have g4:=g4.up R;have D:=D.up R;have z6:=R.size;generalize hb10n:w4.heap.size=b10 at*
 clear e5 R hg6;refine Qm ?_;apply CW.cond rfl<;>intro h
 ·have h:(Ec (ns,fl) tok st).2≠0:=by simpa using h
  refine Pu ?_;refine WL.build (parts:=[]) rfl rfl rfl rfl ?_;refine Ra ?_;refine WL.st rfl rfl rfl a rfl rfl Pk (fun w7 N hg7=>?_);refine PK ?_;exact bh rfl rfl rfl N rfl ⟨⟨false,[],[],_,none,0,none,0,rfl,Sl.zero _ _,Sl.zero _ _,vV h (fun I _=>h I)⟩,d.grown hg7 d.size Pd⟩
 have C:(Ec (ns,fl) tok st).2=0:=by simpa using h
 have Z:=Ee C;clear h;have hz0:=d.size;refine QT ?_;have G:Ext w6 (drew w6):=Ext.drew w6;have hb4d:=f.ext G;have hb5d:=p.ext G;refine aF (fun z:World=>Ext (drew w6) z) [(0,true),(1,true),(2,false),(3,false),(4,true)] mixed O1 Po ?_;refine cg (fun z hz=>hb5d.ext hz) rfl rfl rfl rfl rfl ?_;refine cg (fun z hz=>hb4d.ext hz) rfl rfl rfl rfl rfl ?_;refine cr rfl (WL.call rfl rfl rfl (vW (drew w6) ((hs.up d).up G) (by have:ns.length≤20:=Z.n;omega)) ?_);rintro nv w7 ⟨hnv,e7⟩
 refine WL.nil (a_ e7 ?_);obtain⟨no,nc,rfl,hn⟩:=hnv.oldN.sl;have hE7:=(d.trans G).trans e7;refine cr rfl (WL.call rfl rfl rfl (CR w7 (hl.up hE7) (hc.up hE7) hn) ?_);rintro _ w8 ⟨rfl,e8⟩
 have J:=(G.trans e7).trans e8;refine WL.nil (a_ (e7.trans e8) ?_);have f:=f.ext J;have p:=p.ext J;have a:=a.ext J;have c:=c.ext J;have d:=d.trans J;have g1:=g1.up J;have g2:=g2.up J;have g3:=g3.up J;have g4:=g4.up J;have D:=D.up J;have z8:=J.size;clear e7 e8 J hnv hn hb4d hb5d G hE7;refine RJ ?_;refine Qm ?_;apply CW.cond rfl<;>intro h
 ·have h:jQ r (zp (ns,fl))≠0:=by simpa using h
  refine Pu ?_;refine WL.build (parts:=[]) rfl rfl rfl rfl ?_;refine Ra ?_;refine WL.st rfl rfl rfl a rfl rfl Pk (fun w7 N hg7=>?_);refine PK ?_;exact bh rfl rfl rfl N rfl ⟨⟨false,[],[],_,none,0,none,0,rfl,Sl.zero _ _,Sl.zero _ _,vV h (fun _ I=>h I)⟩,d.grown hg7 d.size Pd⟩
 have X:jQ r (zp (ns,fl))=0:=by simpa using h
 clear h;refine QK ?_;apply CW.cond rfl<;>intro h
 ·
  have h4:r.2.1=4:=by simpa using h
  clear h;refine P0 ?_;refine WL.call rfl rfl rfl (cP w8 (t:=r.2.2.2.2.2) g1 g2 g3 g4 (hc.up d) Z.ed) ?_;rintro _ w9 ⟨x,rfl,W,s⟩
  have a:=a.ext s;have c:=c.ext s;have g1:=g1.up s;have hE9:=d.trans s;have z9:=s.size;have hlab:w_ (rW (ns,fl) tok st).1 (rW (ns,fl) tok st).2.1 (rW (ns,fl) tok st).2.2.1.length (rW (ns,fl) tok st).2.2.2 r.2.2.2.2.2=0:=by
   unfold w_;rw[OD (by have:=Z.chk;simpa using this)];exact jR X h4
  rw[hlab]at W⊢
  rw[OE rfl]at W
  have hst:Ax (rW (ns,fl) tok st).2.1.length (rW (ns,fl) tok st).1:=(jV Z.chk).2.2.2.1;have hbl:=iJ (n:=(rW (ns,fl) tok st).2.1.length) (P:=kY (rW (ns,fl) tok st).2.1 (rW (ns,fl) tok st).2.2.1 (rW (ns,fl) tok st).2.2.2 r.2.2.2.2.2);obtain⟨xo,xc,rfl,hxs⟩:=W.oldN.sl;have hm1:(rW (ns,fl) tok st).1.length≤1048576:=Z.start;refine QD ?_;refine CW.loop (S:=Nat) (fun i=>[(8,Pr b8),(14,.slice xo (iG (rW (ns,fl) tok st).2.1.length (kY (rW (ns,fl) tok st).2.1 (rW (ns,fl) tok st).2.2.1 (rW (ns,fl) tok st).2.2.2 r.2.2.2.2.2)).length xc),(56,.slice a1 (rW (ns,fl) tok st).1.length c1),(57,Pq (rW (ns,fl) tok st).1.length),(58,Pq i)])
   (fun i w=>i≤(rW (ns,fl) tok st).1.length∧(∀n∈(rW (ns,fl) tok st).1.take i,kY (rW (ns,fl) tok st).2.1 (rW (ns,fl) tok st).2.2.1 (rW (ns,fl) tok st).2.2.2 r.2.2.2.2.2 n.toNat)∧w=w9) (fun i=>(rW (ns,fl) tok st).1.length -i) 0 OZ ⟨M9 _,(fun n hn=>by simp at hn),rfl⟩ ?_
  rintro i _ ⟨hi,Q,rfl⟩
  have hjr:∀(b:Bool),(b=true↔∀n∈(rW (ns,fl) tok st).1,kY (rW (ns,fl) tok st).2.1 (rW (ns,fl) tok st).2.2.1 (rW (ns,fl) tok st).2.2.2 r.2.2.2.2.2 n.toNat)→JdgR (ns,fl) r tok st b [] [] 0:=fun b hb=>
   ⟨fun h=>absurd rfl h,fun _=>⟨C,X⟩,fun _ _=>⟨rfl,rfl,hb⟩,fun _ h=>absurd h4 h,fun _ _ h _ _=>absurd h4 h,fun _ _ _=>rfl⟩
  refine Qm ?_;apply CW.cond rfl<;>intro h
  ·have K:i<(rW (ns,fl) tok st).1.length:=by simpa using h
   clear h;have hk:=hst _ (K8 K);obtain⟨m,em⟩:=J2 hk.1;have hm:m<(rW (ns,fl) tok st).2.1.length:=by omega
   have hm':m<(iG (rW (ns,fl) tok st).2.1.length (kY (rW (ns,fl) tok st).2.1 (rW (ns,fl) tok st).2.2.1 (rW (ns,fl) tok st).2.2.2 r.2.2.2.2.2)).length:=by rw[hbl];exact hm
   have hiff:=iI (P:=kY (rW (ns,fl) tok st).2.1 (rW (ns,fl) tok st).2.2.1 (rW (ns,fl) tok st).2.2.2 r.2.2.2.2.2) hm;refine Q6 ?_;refine eB rfl rfl rfl rfl rfl g1 K em O_ (fun q=>?_);refine Qm ?_;refine eA rfl rfl rfl rfl rfl hxs hm' (IH hm').symm O_ (fun q=>?_);refine PE ?_;apply CW.cond rfl<;>intro h
   ·have hno:¬kY (rW (ns,fl) tok st).2.1 (rW (ns,fl) tok st).2.2.1 (rW (ns,fl) tok st).2.2.2 r.2.2.2.2.2 m:=fun hp=>by rw[hiff.2 hp]at h;cases h
    refine Pu ?_;refine WL.build (parts:=[]) rfl rfl rfl rfl ?_;refine WL.st rfl rfl rfl a rfl rfl Pk (fun w10 y M=>?_);refine PV ?_;exact bh rfl rfl rfl y rfl ⟨⟨false,[],[],_,none,0,none,0,rfl,Sl.zero _ _,Sl.zero _ _,hjr false ⟨fun h=>by(cases h),fun hp=>absurd (by have:=hp _ (K8 K);rwa[em,J7]at this) hno⟩⟩,hE9.grown M hE9.size Pd⟩
   ·have hyes:kY (rW (ns,fl) tok st).2.1 (rW (ns,fl) tok st).2.2.1 (rW (ns,fl) tok st).2.2.2 r.2.2.2.2.2 m:=hiff.1 (by simpa using h)
    refine Pz ?_;refine EX.back (i+1) OZ ⟨K,fun n hn=>?_,rfl⟩ O0;rw[Mj K]at hn
    rcases LF.1 hn with hn|hn
    ·exact Q n hn
    ·rw[LV.1 hn,em,J7];exact hyes
  ·obtain rfl:i=(rW (ns,fl) tok st).1.length:=by simp at h;omega
   rw[Mf]at Q
   refine Qh ?_;refine WL.build (parts:=[(0,.const (.bool true))]) rfl rfl rfl rfl ?_;refine WL.st rfl rfl rfl a rfl rfl Pk (fun w10 y M=>?_);refine PK ?_;exact bh rfl rfl rfl y rfl ⟨⟨true,[],[],_,none,0,none,0,rfl,Sl.zero _ _,Sl.zero _ _,hjr true ⟨fun _=>Q,fun _=>rfl⟩⟩,hE9.grown M hE9.size Pd⟩
 have h4:¬r.2.1=4:=by simpa using h
 clear h;refine QC ?_;refine WL.call rfl rfl rfl (Dm w8 (hl.up d)) ?_;rintro _ w9 ⟨x,rfl,W,s⟩
 obtain⟨ko,kc,rfl,Y⟩:=Rd.ltl W.old;have a:=a.ext s;have c:=c.ext s;have d:=d.trans s;have g1:=g1.up s;have g2:=g2.up s;have g3:=g3.up s;have g4:=g4.up s;have D:=D.up s;have z9:=s.size;clear s W;refine Ra ?_;refine WL.alloc rfl rfl (fun w10 O e10=>?_);refine WL.st rfl rfl rfl O rfl rfl Pk (fun w11 O hg11=>?_);have j:Ext w9 w11:=e10.grown hg11 e10.size Pb;have a:=a.ext j;have c:=c.ext j;have d:=d.trans j;have g1:=g1.up j;have g2:=g2.up j;have g3:=g3.up j;have g4:=g4.up j;have D:=D.up j;have Y:=Y.up j;have z11:=j.size;clear e10 j hg11;refine Qm ?_;apply CW.cond rfl<;>intro h
 ·have h:(pX r).2≠0:=by simpa using h
  refine Pu ?_;refine WL.build (parts:=[]) rfl rfl rfl rfl ?_;refine Ra ?_;refine WL.st rfl rfl rfl a rfl rfl Pk (fun o hb812 hg12=>?_);refine PK ?_;exact bh rfl rfl rfl hb812 rfl ⟨⟨false,[],[],_,none,0,none,0,rfl,Sl.zero _ _,Sl.zero _ _,⟨fun _=>⟨rfl,rfl,rfl⟩,fun I=>absurd I h,fun I=>absurd I h,fun I=>absurd I h,fun _ _ _ I _=>absurd I h,fun _ _ I=>absurd I h4⟩⟩,d.grown hg12 d.size Pd⟩
 have hfm:(pX r).2=0:=by simpa using h
 clear h;have hRL:RL w11 (ye (pX r).1.k (pX r).1.n ko (pX r).1.kids.length kc) (pX r).1:=by
  have:=Rd.mkLtl (k:=(pX r).1.k) (n:=(pX r).1.n) Y;rwa[show Ltl.mk (pX r).1.k (pX r).1.n (pX r).1.kids=(pX r).1 by cases (pX r).1;rfl]at this
 refine QC ?_;refine WL.call rfl rfl rfl (vU w11 g1 g2 g3 g4 hRL Z.row Z.start) ?_;rintro _ o ⟨⟨ps,pl,is,err,po,pc,qo,qc,rfl,hps,hpl,hJ⟩,U⟩
 have a:=a.ext U;have d:=d.trans U;have D:=D.up U;have z12:=U.size;clear g1 g2 g3 g4 c O hRL Y;refine Ra ?_;refine WL.alloc rfl rfl (fun w13 F e13=>?_);refine WL.st rfl rfl rfl F rfl rfl Pk (fun l F hg14=>?_);have B:Ext o l:=e13.grown hg14 e13.size Pb;have a:=a.ext B;have d:=d.trans B;have D:=D.up B;have hps:=hps.up B;have hpl:=hpl.up B;have z14:=B.size;clear U e13 B hg14;have hend:(err≠0∨is=true)→JdgR (ns,fl) r tok st is [] [] err:=fun h=>by
  refine⟨fun he=>⟨(hJ.bad he).1,rfl,rfl⟩,fun _=>⟨C,X⟩,fun _ h=>absurd h h4,fun he _=>?_,fun _ _ _ _ hm=>hJ.good Z.chk (pY hfm) hm,fun _ _ h=>absurd h h4⟩;obtain⟨_,j1,j2,j3,j4,j5,_⟩:=hJ.ok he;have his:is=true:=h.resolve_left (fun h=>h he);exact⟨hfm,j1,j2,j3,j4,fun _=>⟨rfl,rfl⟩,fun h=>by rw[his]at h;cases h⟩
 refine Qm ?_
 (refine eV rfl rfl (fun h=>?_) (fun h=>?_))
 ·have h:err≠0:=by simpa using h
  refine Q3 ?_;refine WL.build (parts:=[(0,.tmp 91)]) rfl rfl rfl rfl ?_;refine Ra ?_;refine WL.st rfl rfl rfl a rfl rfl Pk (fun V u L=>?_);refine PK ?_;exact bh rfl rfl rfl u rfl ⟨⟨is,[],[],_,none,0,none,0,rfl,Sl.zero _ _,Sl.zero _ _,hend (.inl h)⟩,d.grown L d.size Pd⟩
 have he0:err=0:=by simpa using h
 clear h;refine PE ?_;apply CW.cond rfl<;>intro h
 ·refine PO ?_
  refine WL.build (parts:=[(0,.tmp 91)]) rfl rfl rfl rfl ?_;refine Ra ?_;refine WL.st rfl rfl rfl a rfl rfl Pk (fun V u L=>?_);refine PK ?_;exact bh rfl rfl rfl u rfl ⟨⟨is,[],[],_,none,0,none,0,rfl,Sl.zero _ _,Sl.zero _ _,hend (.inr h)⟩,d.grown L d.size Pd⟩
 obtain⟨_,j1,j2,j3,j4,j5,j6⟩:=hJ.ok he0;have hP:=j6 h;have hof:=Z.of;have hfin:JdgR (ns,fl) r tok st false (ps.map fun n=>((rO (ns,fl) tok st).getD n.toNat (0,0)).1) (pl.map fun n=>((rO (ns,fl) tok st).getD n.toNat (0,0)).1) 0:=
  ⟨fun h=>absurd rfl h,fun _=>⟨C,X⟩,fun _ h=>absurd h h4,fun _ _=>⟨hfm,j1,j2,j3,by rw[←h];exact j4,(fun h=>by cases h),fun _=>⟨ps,pl,hP,rfl,rfl⟩⟩,fun _ _ _ _ _=>rfl,fun _ _ h=>absurd h h4⟩
 have hso:Ax (rO (ns,fl) tok st).length ps:=by rw[hof];exact hP.so
 have hlo:Ax (rO (ns,fl) tok st).length pl:=by rw[hof];exact hP.lo
 have l19:=F.lt;have z0:=d.size;refine QT ?_;have G:Ext l (drew l):=Ext.drew l;have hb19d:=F.ext G;have hb8d:=a.ext G;refine aF (fun z:World=>z.heap[o.heap.size]?=(drew l).heap[o.heap.size]?) [(0,true),(1,true),(2,true),(4,true),(5,true),(6,true),(3,false),(7,false),(8,true),(9,false),(10,true)] mixed O1 rfl ?_;have hKS:∀z:World,(fun z:World=>z.heap[o.heap.size]?=(drew l).heap[o.heap.size]?) z→Blk z o.heap.size 64 [.slice po ps.length pc,.slice qo pl.length qc]:=fun z hz=>hz.trans hb19d
 refine RB ?_;refine cm hKS rfl rfl rfl rfl rfl ?_;refine RB ?_;refine cm hKS rfl rfl rfl rfl rfl ?_;refine cr rfl (WL.call rfl rfl rfl (gg (drew l) (D.up G) (hps.up G) hso hP.sz.1) ?_);rintro sv V ⟨H,A⟩
 refine WL.nil (a_ (A.block _ l19) ?_);refine cr rfl (WL.call rfl rfl rfl (gg V (D.up (G.trans A)) (hpl.up (G.trans A)) hlo hP.sz.2) ?_);rintro lv w16 ⟨hlv,T⟩
 have z15:l.heap.size≤V.heap.size:=A.size;have hS16:w16.heap[o.heap.size]?=(drew l).heap[o.heap.size]?:=(T.block _ O0).trans (A.block _ l19);refine WL.nil (a_ hS16 ?_);have H:=H.extN T;have hE16:=d.trans (G.trans (A.trans T));obtain⟨so2,sc2,rfl⟩:=H.val;obtain⟨lo2,lc2,rfl⟩:=hlv.val;refine HL.build (parts:=[(1,.tmp 97),(2,.tmp 101)]) rfl rfl rfl rfl rfl ?_;refine cr rfl (WL.st rfl rfl rfl (hb8d.ext (A.trans T)) rfl rfl Pk (fun w17 hb17 E=>WL.nil (a_ ?_ ?_)))
 ·exact(E.block _ (by have:=T.size;omega) Ph).trans hS16
 have hsv17:=H.keptN E (fun g hg e=>by have:=(H.lt g hg).1;have:=Nj e;have:l.heap.size≤g:=(H.lt g hg).1;omega);have hlv17:=hlv.keptN E (fun g hg e=>by have:=(hlv.lt g hg).1;have:=Nj e;omega);obtain⟨_,_,he1,hs17⟩:=hsv17.oldN.sl;obtain⟨_,_,he2,hl17⟩:=hlv17.oldN.sl;cases he1
 cases he2
 refine RJ ?_;refine PJ ?_;exact bh rfl rfl rfl hb17 rfl ⟨⟨false,_,_,_,_,_,_,_,rfl,hs17,hl17,hfin⟩,hE16.grown E hE16.size Pd⟩
abbrev bN:=ByteArray×ByteArray×Int
abbrev iZ(s:ByteArray):ar:=s.data.toList
def IU(k:Int):ar:=
 if k=1 then [115,116,97,114,116]else if k=2 then [101,110,100]else if k=3 then [115,116,111,112]else if k=4 then [116,97,115,107]
 else if k=5 then [120,111,114]else if k=6 then [97,110,100]else if k=7 then [111,114]else []
def pH:ar:=[102,108,111,119]
def zy(n:cG):ar:=IU n.2++[32]++iZ n.1++[10]
def zj(ns:List cG)(i:Int):ar:=iZ (ns.getD i.toNat (⟨#[]⟩,0)).1
def xE(a b:ar):ar:=[102,108,111,119,32]++a++[32]++b++[10]
def pG(ns:List cG)(f:cF):ar:=xE (zj ns f.1) (zj ns f.2)
def Cj(p:cI):ar:=(p.1.map zy).flatten++(p.2.map (pG p.1)).flatten
def FC(c:UInt8):ar→List ar
 |[]=>[[]]
 |b::l=>if b=c then []::FC c l else match FC c l with
  |[]=>[[b]]
  |x::r=>(b::x)::r
def wa(c:UInt8):List ar→ar
 |[]=>[]
 |[x]=>x
 |x::y::r=>x++c::wa c (y::r)
theorem FE(c:UInt8):∀s,FC c s≠[]
 |[]=>by simp[FC]
 |b::l=>by
  unfold FC;split
  ·simp
  ·split<;>simp
theorem FF{c:UInt8}:∀{a:ar},c∉a→FC c a=[a]
 |[],_=>rfl
 |b::l,h=>by
  have f:¬b=c:=fun e=>h (by simp[e])
  have d:c∉l:=fun e=>h (by simp[e])
  unfold FC;rw[OD f,FF d]
theorem FD{c:UInt8}:∀{a b:ar},c∉a→FC c (a++c::b)=a::FC c b
 |[],b,_=>by simp[FC]
 |d::l,b,h=>by
  have g:¬d=c:=fun e=>h (by simp[e])
  have f:c∉l:=fun e=>h (by simp[e])
  simp only[Kg];rw[FC,OD g,FD f]
theorem wb(c:UInt8):∀s,wa c (FC c s)=s
 |[]=>rfl
 |b::l=>by
  have a:=wb c l;have d:=FE c l;unfold FC;cases h:FC c l with
  |nil=>exact absurd h d
  |cons x r=>
   rw[h]at a
   split
   ·rename_i e
    simp only[wa,LX];rw[a,e]
   ·cases r with
    |nil=>simp only[wa]at a⊢;rw[a]
    |cons y r=>simp only[wa,Kg]at a⊢;rw[a]
def k_(c:UInt8):ar→Option (ar×ar)
 |[]=>none
 |b::l=>if b=c then some ([],l)else(k_ c l).map fun x=>(b::x.1,x.2)
theorem lk{c:UInt8}:∀{s a r:ar},k_ c s=some (a,r)→s=a++c::r
 |[],a,r,h=>by cases h
 |b::l,a,r,h=>by
  unfold k_ at h
  split at h
  ·rename_i e
   injection h with h;injection h with h1 h2
   rw[←h1,←h2,e];rfl
  ·cases h2:k_ c l with
   |none=>rw[h2]at h;cases h
   |some x=>
    rw[h2]at h
    injection h with h;injection h with h3 h4
    have:=lk (a:=x.1) (r:=x.2) h2;rw[←h3,←h4,this];rfl
theorem lh{c:UInt8}:∀{a r:ar},c∉a→k_ c (a++c::r)=some (a,r)
 |[],r,_=>by simp[k_]
 |b::l,r,h=>by
  have f:¬b=c:=fun e=>h (by simp[e])
  have d:c∉l:=fun e=>h (by simp[e])
  simp only[Kg];rw[k_,OD f,lh d];rfl
def wU(a:ar):Int:=if a=IU 1 then 1 else if a=IU 2 then 2 else if a=IU 3 then 3 else if a=IU 4 then 4 else if a=IU 5 then 5 else if a=IU 6 then 6 else if a=IU 7 then 7 else 0
def xF(ns:List cG)(fs:List bN)(l:ar)(ln:Int):Option (List cG×List bN):=
 if(FC 32 l).getD 0 []=pH then
  if(FC 32 l).length=3∧yS ((FC 32 l).getD 1 [])=true∧yS ((FC 32 l).getD 2 [])=true then some (ns,fs++[(HR ((FC 32 l).getD 1 []),HR ((FC 32 l).getD 2 []),ln)])else none
 else if wU ((FC 32 l).getD 0 [])=0 then none
 else if(FC 32 l).length=2∧yS ((FC 32 l).getD 1 [])=true∧fs=[]then some (ns++[(HR ((FC 32 l).getD 1 []),wU ((FC 32 l).getD 0 []))],fs)else none
def C7:Nat→ar→Int→List cG→List bN→Option (List cG×List bN)×Int
 |0,_,ln,ns,fs=>(some (ns,fs),ln)
 |f+1,s,ln,ns,fs=>if s=[]then(some (ns,fs),ln)else match k_ 10 s with
  |none=>(none,ln)
  |some x=>match xF ns fs x.1 ln with
   |none=>(none,ln)
   |some y=>C7 f x.2 (ln+1) y.1 y.2
def zx(ns:List cG)(nm:ByteArray):Int:=idxOf (fun n:cG=>yQ n.1 nm) ns
def pP(ns:List cG):List bN→List cF→Option (List cF)×Int
 |[],acc=>(some acc,0)
 |f::r,acc=>if zx ns f.1<0∨zx ns f.2.1<0 then(none,f.2.2)else pP ns r (acc++[(zx ns f.1,zx ns f.2.1)])
noncomputable def Bn(s:ar):cI×Int×Int:=
 if s.length>4096 then(([],[]),0,2)else match C7 s.length s 1 [] []with
 |(none,ln)=>(([],[]),ln,3)
 |(some x,_)=>match pP x.1 x.2 []with
  |(none,ln)=>(([],[]),ln,4)
  |(some fl,_)=>if jM (x.1,fl)≠0 then(([],[]),0,jM (x.1,fl))else((x.1,fl),0,0)
theorem IV{k:Int}(h1:1≤k)(h2:k≤7):wU (IU k)=k∧IU k≠pH∧(32:UInt8)∉IU k∧(10:UInt8)∉IU k∧(IU k).length≤5:=by
 obtain rfl|rfl|rfl|rfl|rfl|rfl|rfl:k=1∨k=2∨k=3∨k=4∨k=5∨k=6∨k=7:=by omega
 all_goals decide
def flT(f:bN):ar:=xE (iZ f.1) (iZ f.2.1)
theorem yV{l:ar}(h:yS l=true):(32:UInt8)∉l∧(10:UInt8)∉l∧l.length≤8:=by
 have a:=yT h;exact⟨fun e=>by have:=a _ e;exact absurd this O2,fun e=>by have:=a _ e;exact absurd this O2,(yU h).2.2.2.2⟩
theorem xI{ns:List cG}{n:cG}{ln:Int}(h1:1≤n.2)(h2:n.2≤7)(hn:yR n.1=true):xF ns [] (IU n.2++[32]++iZ n.1) ln=some (ns++[n],[]):=by
 obtain⟨g1,g2,g3,g4,g5⟩:=IV h1 h2;obtain⟨b,d,c⟩:=yV hn;have a:FC 32 (IU n.2++[32]++iZ n.1)=[IU n.2,iZ n.1]:=by
  rw[Kc];show FC 32 (IU n.2++32::iZ n.1)=_;rw[FD g3,FF b]
 unfold xF;rw[a];simp only[KM,KL,Lh,Lo];rw[OD g2,g1,OD O0,OE (by simpa using hn)];rfl
theorem xH{ns:List cG}{fs:List bN}{a b:ByteArray}{ln:Int}(d:yR a=true)(c:yR b=true):xF ns fs ([102,108,111,119,32]++iZ a++[32]++iZ b) ln=some (ns,fs++[(a,b,ln)]):=by
 obtain⟨g,k,j⟩:=yV d;obtain⟨f,i,h⟩:=yV c;have e:FC 32 ([102,108,111,119,32]++iZ a++[32]++iZ b)=[pH,iZ a,iZ b]:=by
  rw[show [102,108,111,119,32]++iZ a++[32]++iZ b=pH++32::(iZ a++32::iZ b) by simp[pH],FD O2,FD g,FF f]
 unfold xF;rw[e];simp only[KM,KL,Lh,Lo];rw[OE trivial,OE ⟨trivial,d,c⟩];rfl
theorem C9{f:Nat}{l r:ar}{ln:Int}{ns:List cG}{fs:List bN}{y:List cG×List bN}(h:(10:UInt8)∉l)(a:xF ns fs l ln=some y):C7 (f+1) (l++10::r) ln ns fs=C7 f r (ln+1) y.1 y.2:=by
 rw[C7,OD O3,lh h];dsimp only;rw[a]
theorem C_{rest:ar}:∀(ms:List cG) (ns:List cG) (f:Nat) (ln:Int),(∀n∈ms,1≤n.2∧n.2≤7∧yR n.1=true)→((ms.map zy).flatten++rest).length≤f→
  ∃a ln',rest.length≤a∧C7 f ((ms.map zy).flatten++rest) ln ns []=C7 a rest ln' (ns++ms) []
 |[],ns,f,ln,_,hf=>⟨f,ln,by simpa using hf,by simp⟩
 |n::ms,ns,f,ln,h,hf=>by
  obtain⟨h1,h2,h3⟩:=h n O3;obtain⟨g1,g2,g3,g4,g5⟩:=IV h1 h2;obtain⟨i,c,g⟩:=yV h3;have e:((n::ms).map zy).flatten++rest=(IU n.2++[32]++iZ n.1)++10::((ms.map zy).flatten++rest):=by simp[zy]
  rw[e]at hf⊢
  have d:1≤f:=by simp at hf;omega
  obtain⟨f,rfl⟩:∃a,f=a+1:=⟨f -1,by omega⟩;rw[C9 (by simp only[LF,LV,OI];exact⟨⟨g4,by decide⟩,c⟩) (xI h1 h2 h3)];obtain⟨a,ln',k1,k2⟩:=C_ (rest:=rest) ms (ns++[n]) f (ln+1) (fun m b=>h m (by simp[b])) (by simp only[Lg,Lh]at hf⊢;omega);exact⟨a,ln',k1,by rw[k2];simp⟩
theorem C8{ns:List cG}:∀(fl:List cF) (fs:List bN) (f:Nat) (ln:Int),(∀x∈fl,yS (zj ns x.1)=true∧yS (zj ns x.2)=true)→((fl.map (pG ns)).flatten).length≤f→
  ∃gs ln',C7 f ((fl.map (pG ns)).flatten) ln ns fs=(some (ns,fs++gs),ln')∧gs.map (fun g=>(g.1,g.2.1))=fl.map fun x=>(HR (zj ns x.1),HR (zj ns x.2))
 |[],fs,f,ln,_,hf=>⟨[],ln,by cases f<;>simp[C7],rfl⟩
 |x::fl,fs,f,ln,h,hf=>by
  obtain⟨h1,h2⟩:=h x O3;obtain⟨g1,g2,g3⟩:=yV h1;obtain⟨g4,g5,j⟩:=yV h2;have e:((x::fl).map (pG ns)).flatten=([102,108,111,119,32]++iZ (HR (zj ns x.1))++[32]++iZ (HR (zj ns x.2)))++10::((fl.map (pG ns)).flatten):=by simp[pG,xE,HR]
  rw[e]at hf⊢
  have i:1≤f:=by simp at hf;omega
  obtain⟨f,rfl⟩:∃d,f=d+1:=⟨f -1,by omega⟩;rw[C9 (by simp only[LF,LV,OI];exact⟨⟨⟨by decide,g2⟩,by decide⟩,g5⟩) (xH (a:=HR (zj ns x.1)) (b:=HR (zj ns x.2)) h1 h2)];obtain⟨gs,ln',k1,k2⟩:=C8 fl (fs++[(HR (zj ns x.1),HR (zj ns x.2),ln)]) f (ln+1) (fun m c=>h m (by simp[c])) (by simp only[Lg,Lh]at hf⊢;omega);exact⟨(HR (zj ns x.1),HR (zj ns x.2),ln)::gs,ln',by rw[k1];simp,by simp[k2]⟩
theorem pR{ns:List cG}:∀(fl:List cF) (gs:List bN) (acc:List cF),gs.map (fun g=>(g.1,g.2.1))=fl.map (fun x=>(HR (zj ns x.1),HR (zj ns x.2)))→(∀x∈fl,zx ns (HR (zj ns x.1))=x.1∧zx ns (HR (zj ns x.2))=x.2∧0≤x.1∧0≤x.2)→
  pP ns gs acc=(some (acc++fl),0)
 |[],[],acc,_,_=>by simp[pP]
 |[],g::gs,acc,h,_=>by simp at h
 |x::fl,[],acc,h,_=>by simp at h
 |x::fl,g::gs,acc,h,a=>by
  simp only[LB,Kf,Nm]at h
  obtain⟨⟨h1,h2⟩,h3⟩:=h;obtain⟨k1,k2,k3,k4⟩:=a x O3;unfold pP;rw[h1,h2,k1,k2,OD O0,pR fl gs _ h3 (fun y b=>a y (by simp[b]))];simp
theorem zB{ns:List cG}(h:∀i,i<ns.length→zv ns i=0):(∀n∈ns,1≤n.2∧n.2≤7∧yR n.1=true)∧∀i (hi:i<ns.length),zx ns (ns[i]).1=(i:Int):=by
 have key:∀i (hi:i<ns.length),(1≤(ns[i]).2∧(ns[i]).2≤7∧yR (ns[i]).1=true)∧∀j (b:j<ns.length),j<i→yQ (ns[j]).1 (ns[i]).1=false:=by
  intro i hi
  have h1:=h i hi;have c:ns.getD i (⟨#[]⟩,0)=ns[i]:=by rw[KN,KT hi];rfl
  unfold zv at h1
  rw[c]at h1
  split at h1
  ·cases h1
  split at h1
  ·cases h1
  rename_i h2 h3;simp only[JR,OI,JN,Ow,Bool.not_eq_false]at h2
  refine⟨⟨by omega,by omega,h2.1.1⟩,fun j b a=>?_⟩;simp only[Kb,not_exists,not_and,JM]at h3
  exact h3 ns[j] (List.mem_take_iff_getElem.2 ⟨j,by omega,rfl⟩)
 refine⟨fun n hn=>?_,fun i hi=>?_⟩
 ·obtain⟨i,hi,rfl⟩:=LO.1 hn
  exact(key i hi).1
 ·exact vb hi (fun j b a=>(key i hi).2 j b a) (by simp[yQ])
theorem pE{α:Type}(g:α→ar)(c:Nat):∀l:List α,(∀x∈l,(g x).length≤c)→((l.map g).flatten).length≤c*l.length
 |[],_=>by simp
 |x::r,h=>by
  have h1:=pE g c r (fun y a=>h y (by simp[a]));have h2:=h x O3;simp only[LB,KJ,Lg,Lh,Nat.mul_add,MU];omega
theorem zk{ns:List cG}{i:Nat}(hi:i<ns.length):zj ns (i:Int)=iZ (ns[i]).1:=by
 unfold zj;rw[J7,KN,KT hi];rfl
theorem AD{p:cI}(h:OkPr p):∀x∈p.2,(yS (zj p.1 x.1)=true∧yS (zj p.1 x.2)=true)∧zx p.1 (HR (zj p.1 x.1))=x.1∧zx p.1 (HR (zj p.1 x.2))=x.2∧0≤x.1∧0≤x.2:=by
 obtain⟨g1,g2⟩:=zB h.nodes;intro x c
 obtain⟨h1,h2,h3,h4⟩:=h.flows x c;obtain⟨i,hi⟩:∃i:Nat,x.1=(i:Int):=⟨x.1.toNat,by omega⟩;obtain⟨j,d⟩:∃j:Nat,x.2=(j:Int):=⟨x.2.toNat,by omega⟩;have b:i<p.1.length:=by omega
 have a:j<p.1.length:=by omega
 rw[hi,d,zk b,zk a,HT,HT];exact⟨⟨(g1 _ (K8 b)).2.2,(g1 _ (K8 a)).2.2⟩,g2 i b,g2 j a,by omega,by omega⟩
theorem Ck{p:cI}(h:OkPr p):(Cj p).length≤1000:=by
 obtain⟨g1,g2⟩:=zB h.nodes;have h1:=pE zy 15 p.1 (fun n hn=>by
  obtain⟨k1,k2,k3⟩:=g1 n hn;have:=(IV k1 k2).2.2.2.2;have:(iZ n.1).length≤8:=(yV k3).2.2;simp only[zy,Lg,Lh,Lo];omega)
 have h2:=pE (pG p.1) 23 p.2 (fun x a=>by
  obtain⟨⟨k1,k2⟩,-⟩:=AD h x a;have:=(yV k1).2.2;have:=(yV k2).2.2;simp only[pG,xE,Lg,Lh,Lo];omega)
 have:=h.n;have:=h.f;unfold Cj;rw[Lg];omega
theorem BG{p:cI}(h:jM p=0):Bn (Cj p)=(p,0,0):=by
 have b:=jN h;have e:=Ck b;obtain⟨g1,g2⟩:=zB b.nodes;have hn:=AD b;unfold Bn;rw[OD O0];obtain⟨d,ln',k1,k2⟩:=C_ (rest:=(p.2.map (pG p.1)).flatten) p.1 [] (Cj p).length 1 g1 Pm;obtain⟨gs,ln2,k3,k4⟩:=C8 (ns:=p.1) p.2 [] d ln' (fun x a=>(hn x a).1) k1;have c:C7 (Cj p).length (Cj p) 1 [] []=(some (p.1,gs),ln2):=by
  show C7 (Cj p).length ((p.1.map zy).flatten++(p.2.map (pG p.1)).flatten) 1 [] []=_;rw[k2,LX,k3,LX]
 rw[c];dsimp only;rw[pR p.2 gs [] k4 (fun x a=>(hn x a).2)];dsimp only;rw[LX,OD (by simpa using h)]
def twP:cI:=([(⟨#[97]⟩,1),(⟨#[98]⟩,4),(⟨#[120]⟩,5),(⟨#[99]⟩,4),(⟨#[101]⟩,2)],[(0,1),(1,2),(2,1),(2,3),(3,4)])
def HD:ar:=[115,116,97,114,116,32,97,10,116,97,115,107,32,98,10,120,111,114,32,120,10,116,97,115,107,32,99,10,101,110,100,32,101,10,102,108,111,119,32,97,32,98,10,102,108,111,119,32,98,32,120,10,102,108,111,119,32,120,32,98,10,102,108,111,119,32,120,32,99,10,102,108,111,119,32,99,32,101,10]
theorem HG:jM twP=0:=by
 have a:FP twP.1 twP.1.length=[0]:=by decide
 have b:okG (pI twP.1.length twP.2):=(jG (by decide:jE (pI twP.1.length twP.2)=0)).1;have hR:jO twP=0:=by
  have:=jP (ns:=twP.1) (fl:=twP.2) a;rw[CM b (by intro x c;simp at c;subst c;decide) 20 O2]at this
  rw[show jO twP=jO (twP.1,twP.2) from rfl,this];decide
 unfold jM;rw[hR,OD O2,OD O2,OD O2,OD O2,OD O2]
theorem HJ:Bn HD=(twP,0,0):=by
 rw[show HD=Cj twP by decide];exact BG HG
theorem HO:F4 twP=[(1,0,1),(1,2,1),(2,1,1),(2,1,2),(3,3,1),(4,4,0)]:=by decide
theorem HN:FX twP=([(1,0,1),(1,2,1),(2,1,1),(2,1,2),(3,3,1),(4,4,0)],0):=by
 unfold FX;rw[OD (by simp[HG]),HO];rfl
def Ca:cJ:=(⟨#[114]⟩,1,(5,1,3,1,0,0,0),(0,0,0,0),.mk 0 0 [],.mk 0 0 [])
def nS:cJ:=(⟨#[114]⟩,1,(3,1,3,0,0,0,0),(0,0,0,0),.mk 0 0 [],.mk 0 0 [])
theorem Cc:jQ Ca (zp twP)=0:=by decide+kernel
theorem nT:jQ nS (zp twP)=0:=by decide+kernel
theorem HI(m:List Int)(b:m.length=5)(h:∀x∈m,0≤x∧x≤9):jH twP m=0:=
 yD (by rw[HN]) ⟨b,fun j=>by
  by_cases a:j<m.length
  ·rw[KN,KT a];exact h _ (K8 a)
  ·rw[KN,KU O0];decide⟩
theorem HH{m a:List Int}{k:Int}(b:jH twP m=0)(h:(k<0∨k≥(F4 twP).length)∨m9 twP m ((F4 twP).getD k.toNat (0,0,0))=false→False)(c:pn twP m ((F4 twP).getD k.toNat (0,0,0))=some a):pi twP m k=(a,0):=by
 unfold pi;rw[OD (by simp[b]),OD (fun e=>h (.inl e)),OD (fun e=>h (.inr e)),c];rfl
theorem HF{m:List Int}(a:jH twP m=0):i4 twP m=i7 twP m:=by
 unfold i4;rw[OE a]
theorem HM:nZ twP 1 20=(([[1,0,0,0,0],[0,1,0,0,0],[0,0,1,0,0],[0,0,0,1,0],[0,0,0,0,1],[0,0,0,0,0]],[[(0,1)],[(2,2),(3,3)],[(1,1)],[(4,4)],[(5,5)],[]]),0):=by
 have g:(FX twP).2=0:=by rw[HN]
 have e:=HI [1,0,0,0,0] rfl O2;have a:=HI [0,1,0,0,0] rfl O2;have d:=HI [0,0,1,0,0] rfl O2;have c:=HI [0,0,0,1,0] rfl O2;have b:=HI [0,0,0,0,1] rfl O2;have f:=HI [0,0,0,0,0] rfl O2;have m:pi twP [1,0,0,0,0] 0=([0,1,0,0,0],0):=HH e (by rw[HO];decide) (by rw[HO];decide);have l:pi twP [0,1,0,0,0] 2=([0,0,1,0,0],0):=HH a (by rw[HO];decide) (by rw[HO];decide);have k:pi twP [0,1,0,0,0] 3=([0,0,0,1,0],0):=HH a (by rw[HO];decide) (by rw[HO];decide);have f3:pi twP [0,0,1,0,0] 1=([0,1,0,0,0],0):=HH d (by rw[HO];decide) (by rw[HO];decide);have j:pi twP [0,0,0,1,0] 4=([0,0,0,0,1],0):=HH c (by rw[HO];decide) (by rw[HO];decide);have i:pi twP [0,0,0,0,1] 5=([0,0,0,0,0],0):=HH b (by rw[HO];decide) (by rw[HO];decide);have c0:i4 twP [1,0,0,0,0]=[0]:=(HF e).trans O2;have c1:i4 twP [0,1,0,0,0]=[2,3]:=(HF a).trans O2;have c2:i4 twP [0,0,1,0,0]=[1]:=(HF d).trans O2;have c3:i4 twP [0,0,0,1,0]=[4]:=(HF c).trans O2;have c4:i4 twP [0,0,0,0,1]=[5]:=(HF b).trans O2;have n:i4 twP [0,0,0,0,0]=[]:=(HF f).trans O2;have h:h_ twP=[1,0,0,0,0]:=by decide
 simp[nZ,DI,g,Dy,runB,h,Cy,G3,DF,mH,mJ,c0,c1,c2,c3,c4,n,m,l,k,f3,j,i,BZ]
theorem HK:(Ec twP 1 20).2=0:=by
 unfold Ec;rw[HM,HN];dsimp only;rw[OD O2,OD O2]
theorem HE:(Ec twP 1 20).1.1=([0],[[1,2],[3],[4],[1,2],[5],[6],[6]],[2,4,4,2,8,16,9223372036854775808],[[0,1,2,3,4,5,6],[0,1,2,3,4,5,6],[0,1,3,4,5,6],[0,2,3,4,5,6],[0,1,2,3,4,5,6],[0,1,2,3,4,5,6]]):=by
 unfold Ec;rw[HM,HN];dsimp only;rw[OD O2,OD O2];decide+kernel
theorem Cd:pX Ca=(.mk 6 0 [.mk 8 0 [.mk 4 0 [.mk 3 3 []],.mk 3 1 []],.mk 11 0 [.mk 4 0 [.mk 3 3 []]]],0):=by rfl
theorem nU:pX nS=(.mk 10 0 [.mk 3 3 []],0):=by rfl
theorem ym{t:Ltl}(h1:(BR t).2=0)(h2:¬(qh (BR t).1 ([],[])).1.length+(qh (BR t).1 ([],[])).2.length>10):(yj t).2=0:=by
 unfold yj;rw[OD (by simp[h1]),OD (by show¬(Fs _).length+_>10;rw[Ft];exact h2)]
theorem Cf:(yj (zS (.mk 6 0 [.mk 8 0 [.mk 4 0 [.mk 3 3 []],.mk 3 1 []],.mk 11 0 [.mk 4 0 [.mk 3 3 []]]]))).2=0:=ym (by decide+kernel) (by decide+kernel)
theorem nX:(yj (zS (.mk 10 0 [.mk 3 3 []]))).2=0:=ym (by decide+kernel) (by decide+kernel)
theorem semK_atom{L:Nat→Nat}{n:Int}{i:Nat}:EL L 3 n [] i↔L i >>> n.toNat&&&1=1:=by simp[EL]
theorem Cb:ai (rW twP 1 20) (.mk 6 0 [.mk 8 0 [.mk 4 0 [.mk 3 3 []],.mk 3 1 []],.mk 11 0 [.mk 4 0 [.mk 3 3 []]]]):=by
 unfold rW;rw[HE];rintro ρ ⟨a,_,_⟩
 have a:ρ 0=0:=by simpa using a
 simp only[Ez,EM,EL];refine .inl ⟨0,MF _,?_,fun j h1 h2=>absurd h2 O0⟩;refine semK_atom.2 ?_;simp only[a];decide
def HB(i:Nat):Nat:=if i=0 then 0 else if i % 2=1 then 1 else 3
theorem HC(i:Nat):HB i=0∧i=0∨HB i=1∧i % 2=1∨HB i=3∧i % 2=0:=by
 unfold HB;split
 ·exact .inl ⟨rfl,by assumption⟩
 ·split
  ·exact .inr (.inl ⟨rfl,by assumption⟩)
  ·exact .inr (.inr ⟨rfl,by omega⟩)
theorem nY:¬ai (rW twP 1 20) (.mk 10 0 [.mk 3 3 []]):=by
 unfold rW;rw[HE];intro h
 have h1:=h HB ⟨by decide,fun i=>?_,fun F hF i=>?_⟩
 ·simp only[Ez,EM,EL]at h1
  obtain⟨j,_,b,_⟩:=h1;have b:EL (fun i=>([2,4,4,2,8,16,9223372036854775808]:List Nat).getD (HB i) 0) 3 3 [] j:=b;have b:=semK_atom.1 b;rcases HC j with⟨e,_⟩|⟨e,_⟩|⟨e,_⟩<;>(rw[e]at b;revert b;decide)
 ·rcases HC i with⟨e,_⟩|⟨e,_⟩|⟨e,_⟩<;>rcases HC (i+1)with⟨a,_⟩|⟨a,_⟩|⟨a,_⟩<;>(rw[e,a];first|(exfalso;omega)|decide)
 ·rcases(by simpa using hF:F=_∨_)with rfl|rfl|rfl|rfl|rfl|rfl
  all_goals
   rcases HC (i+1)with⟨e,_⟩|⟨e,_⟩|⟨e,_⟩<;>rcases HC (i+2)with⟨a,_⟩|⟨a,_⟩|⟨a,_⟩
   all_goals first
    |(exfalso;omega)
    |exact⟨i+1,by omega,by rw[e];decide⟩
    |exact⟨i+2,by omega,by rw[a];decide⟩
theorem Ce{h:Bool}{s l:List Int}{e:Int}(b:JdgR twP Ca 1 20 h s l e):e=0∧h=true:=by
 have a:=b.good HK Cc O2 (by rw[Cd]) (by rw[Cd];exact Cf);obtain⟨_,_,_,_,h1,_⟩:=b.ltl a O2;rw[Cd]at h1
 exact⟨a,h1.2 Cb⟩
theorem nW{h:Bool}{s l:List Int}{e:Int}(b:JdgR twP nS 1 20 h s l e):e=0∧h=false∧0<l.length:=by
 have a:=b.good HK nT O2 (by rw[nU]) (by rw[nU];exact nX);obtain⟨_,_,_,_,h1,_,h2⟩:=b.ltl a O2;rw[nU]at h1 h2
 cases h with
 |true=>exact absurd (h1.1 rfl) nY
 |false=>
  obtain⟨ps,pl,hP,_,rfl⟩:=h2 rfl;exact⟨a,rfl,by rw[Ln];exact hP.l0⟩
open Go.Shelf
def xV:List (Nat×Nat)→Nat→Nat
 |[],_=>0
 |(a,b)::r,x=>match Nat.beq a x with|true=>b|false=>xV r x
def EY:List (Nat×Nat):=
 (138,215)::
 (143,216)::
 (145,35)::
 (146,88)::
 (195,232)::
 (197,233)::
 (217,210)::
 (218,234)::
 (219,163)::
 (220,87)::
 (221,164)::
 (224,212)::
 (225,211)::
 (260,239)::
 (266,230)::
 (267,213)::
 (268,214)::
 (314,231)::
 []
def E3:List (Nat×Nat):=
 (0,0)::
 (3,3)::
 (4,4)::
 (5,5)::
 (9,9)::
 (20,20)::
 (21,21)::
 (31,56)::
 (46,221)::
 (51,263)::
 (59,107)::
 (80,294)::
 (105,283)::
 (119,290)::
 (127,304)::
 (138,292)::
 (139,293)::
 (146,281)::
 (164,310)::
 []
def EZ:List (Nat×Nat):=
 (1,0)::
 (3,1)::
 (4,2)::
 []
def shR:Ren:=⟨fun x=>xV EY x,fun x=>xV E3 x,fun x=>xV EZ x⟩
set_option maxRecDepth 100000 in
theorem E1:Lays.n145 Tryz.prog shR where
 mixed:=by kernel_rfl
 f145:=(Tryz.func35).trans (Oq some O1)
 f217:=(Tryz.func210).trans (Oq some O1)
 f219:=(Tryz.func163).trans (Oq some O1)
 f220:=(Tryz.func87).trans (Oq some O1)
 f224:=(Tryz.func212).trans (Oq some O1)
 f225:=(Tryz.func211).trans (Oq some O1)
 f266:=(Tryz.func230).trans (Oq some O1)
 f267:=(Tryz.func213).trans (Oq some O1)
 f314:=(Tryz.func231).trans (Oq some O1)
 t3:=NP
 a3:=Nv
 z3:=NB
 v3:=N9
 t4:=NT
 a4:=Nx
 z4:=NC
 v4:=N_
 t5:=NW
 a5:=Tryz.isAgg5
 z5:=Tryz.sizeOf5
 v5:=Oa
 t9:=N6
 a9:=Tryz.isAgg9
 z9:=Tryz.sizeOf9
 v9:=Ob
 t46:=NI
 a46:=Tryz.isAgg221
 z46:=Nz
 v46:=N7
 t51:=NO
 a51:=Tryz.isAgg263
 z51:=NA
 v51:=N8
 t59:=Tryz.underlying107
 a59:=Tryz.isAgg107
 z59:=Tryz.sizeOf107
 v59:=Tryz.zeroValue107
 t146:=Tryz.underlying281
 a146:=Tryz.isAgg281
 z146:=Tryz.sizeOf281
 v146:=Tryz.zeroValue281
 g1:=by kernel_rfl
set_option maxRecDepth 100000 in
theorem E2:Lays.n146 Tryz.prog shR where
 mixed:=by kernel_rfl
 f138:=(Tryz.func215).trans (Oq some O1)
 f143:=(Tryz.func216).trans (Oq some O1)
 f146:=(Tryz.func88).trans (Oq some O1)
 f195:=(Tryz.func232).trans (Oq some O1)
 f197:=(Tryz.func233).trans (Oq some O1)
 f217:=(Tryz.func210).trans (Oq some O1)
 f218:=(Tryz.func234).trans (Oq some O1)
 f219:=(Tryz.func163).trans (Oq some O1)
 f221:=(Tryz.func164).trans (Oq some O1)
 f224:=(Tryz.func212).trans (Oq some O1)
 f225:=(Tryz.func211).trans (Oq some O1)
 f260:=(Tryz.func239).trans (Oq some O1)
 f266:=(Tryz.func230).trans (Oq some O1)
 f267:=(Tryz.func213).trans (Oq some O1)
 f268:=(Tryz.func214).trans (Oq some O1)
 f314:=(Tryz.func231).trans (Oq some O1)
 t0:=by kernel_rfl
 a0:=fun w=>rfl
 z0:=fun w=>rfl
 v0:=fun w=>rfl
 t3:=NP
 a3:=Nv
 z3:=NB
 v3:=N9
 t4:=NT
 a4:=Nx
 z4:=NC
 v4:=N_
 t5:=NW
 a5:=Tryz.isAgg5
 z5:=Tryz.sizeOf5
 v5:=Oa
 t9:=N6
 a9:=Tryz.isAgg9
 z9:=Tryz.sizeOf9
 v9:=Ob
 t21:=Tryz.underlying21
 a21:=Tryz.isAgg21
 z21:=Tryz.sizeOf21
 v21:=Tryz.zeroValue21
 t31:=NY
 a31:=Tryz.isAgg56
 z31:=Tryz.sizeOf56
 v31:=Tryz.zeroValue56
 t46:=NI
 a46:=Tryz.isAgg221
 z46:=Nz
 v46:=N7
 t51:=NO
 a51:=Tryz.isAgg263
 z51:=NA
 v51:=N8
 t105:=Tryz.underlying283
 a105:=Tryz.isAgg283
 z105:=Tryz.sizeOf283
 v105:=Tryz.zeroValue283
 t119:=Tryz.underlying290
 a119:=Tryz.isAgg290
 z119:=Tryz.sizeOf290
 t138:=Tryz.underlying292
 a138:=Tryz.isAgg292
 z138:=Tryz.sizeOf292
 v138:=Tryz.zeroValue292
 t139:=Tryz.underlying293
 a139:=Tryz.isAgg293
 z139:=Tryz.sizeOf293
 v139:=Tryz.zeroValue293
 t146:=Tryz.underlying281
 a146:=Tryz.isAgg281
 z146:=Tryz.sizeOf281
 v146:=Tryz.zeroValue281
 g1:=by kernel_rfl
 g3:=by kernel_rfl
 g4:=by kernel_rfl
theorem E0:(Tryz.prog.info? (shR.t 9)).map (fun i=>(i.zero,i.size,i.bytes))=some (some (.string ByteArray.empty),1,16):=by kernel_rfl
def MaxH(w:World):Prop:=∃m,w.cell? ⟨0,0,none⟩=some (.int .i64 m)
theorem yG{w:World}(h:w.ShapedOpen Tryz.prog):MaxH w:=
 Go.Proofs.cell_of_shapedOpen_int (zero:=#[Pq 0]) (t:=3) h (OK O1) O1 rfl O1 O1 NP
theorem vB(c:UInt8):∀l:ar,(c∉l∧Lib.index l [c]= -1)∨∃a b,l=a++c::b∧c∉a∧Lib.index l [c]=(a.length:Int)
 |[]=>.inl ⟨by simp,by simp[Lib.index]⟩
 |d::l=>by
  by_cases h:d=c
  ·subst h
   exact .inr ⟨[],l,rfl,by simp,by simp[Lib.index,List.isPrefixOf]⟩
  ·have f:List.isPrefixOf [c] (d::l)=false:=by
    have:(c==d)=false:=by simpa using fun e:c=d=>h e.symm
    simp[List.isPrefixOf,this]
   rcases vB c l with⟨h1,h2⟩|⟨a,b,rfl,h1,h2⟩
   ·refine .inl ⟨by simp[h1,Na h],?_⟩
    unfold Lib.index;rw[f,h2];rfl
   ·refine .inr ⟨d::a,b,rfl,by simp[h1,Na h],?_⟩
    unfold Lib.index;have hn:((a.length:Int)== -1)=false:=by
     rw[Oi];omega
    rw[f,h2,hn];simp
theorem lj{c:UInt8}:∀{s:ar},c∉s→k_ c s=none
 |[],_=>rfl
 |b::l,h=>by
  have d:¬b=c:=fun e=>h (by simp[e])
  have a:c∉l:=fun e=>h (by simp[e])
  unfold k_;rw[OD d,lj a];rfl
def lq(c:UInt8)(s:ar):ar×ar×Bool:=match k_ c s with
 |none=>(s,[],false)
 |some x=>(x.1,x.2,true)
theorem k9(c:UInt8)(s:ar):Lib.cut s [c]=lq c s:=by
 unfold Lib.cut lq;rcases vB c s with⟨h1,h2⟩|⟨a,b,rfl,h1,h2⟩
 ·rw[h2,lj h1];rfl
 ·rw[h2,lh h1,OE O0]
  simp
theorem FB(c:UInt8):∀(n:Nat) (s:ar),s.length≤n→∀k,Lib.count s [c]≤k→Lib.splitK [c] 0 k s=FC c s:=by
 intro n
 induction n with
 |zero=>
  intro s d k g
  have:s=[]:=Lk.1 O0;subst this;cases k with
  |zero=>rfl
  |succ k=>simp[Lib.splitK,Lib.index,FC]
 |succ n f=>
  intro s d k g
  rcases vB c s with⟨h1,h2⟩|⟨a,b,rfl,h1,h2⟩
  ·rw[FF h1]
   cases k with
   |zero=>rfl
   |succ k=>unfold Lib.splitK;rw[h2];rfl
  ·have h:=Lib.count_hit (sub:=[c]) O3 h2
   have hd:(a++c::b).drop (a.length+[c].length)=b:=by simp
   rw[hd]at h
   rw[FD h1];cases k with
   |zero=>omega
   |succ k=>
    unfold Lib.splitK;have hn:((a.length:Int)== -1)=false:=by
     rw[Oi];omega
    rw[h2,hn];simp only[J7,JK,OC];rw[hd,f b (by simp at d;omega) k O0];simp
theorem FA(s:ar):Lib.splitB (HR [32]) 0 (Lib.countB (HR s) (HR [32])) (HR s)=(FC 32 s).map HR:=by
 have h:=Lib.splitB_data (HR [32]) 0 (Lib.countB (HR s) (HR [32])) (HR s);rw[show(HR [32]).data.toList=[32] from rfl,HU,FB 32 _ s Pm (Lib.countB (HR s) (HR [32])) (MB rfl)]at h
 rw[←h,LC];have:(HR∘fun x:ByteArray=>x.data.toList)=id:=by funext x;exact HT x
 rw[this,List.map_id]
theorem kM(s:ar):Lib.countB (HR s) (HR [32])+1=(FC 32 s).length:=by
 have h:=Lib.splitB_all (HR [32]) O2 0 _ (HR s) rfl;rw[FA,Ln]at h
 omega
section
variable {α β:Type}[Rep α][Rep β]{w w':World}{B B':Nat}{e e':TypeId}{F F':Nat→Prop}{v v':Value}{xs:List α}{ys:List β}
theorem Ba(h:Own w B e F v xs)(a:Own w B' e' F' v' ys)(hn:e≠e'):∀g,v.ownBlock=some g→v'.ownBlock≠some g:=by
 intro g h1 h2
 rcases h with⟨rfl,_⟩|⟨g1,off,cap,cur,rfl,h⟩
 ·cases h1
 rcases a with⟨rfl,_⟩|⟨g2,off',cap',cur',rfl,a⟩
 ·cases h2
 injection h1 with h1
 injection h2 with h2
 dsimp only at h1 h2
 subst h1;subst h2;have:=h.blk.symm.trans a.blk
 injection this with this
 injection this with _ h3 _
 exact hn h3
theorem Bb{b:Nat}{T:TypeId}{cells:List Value}(h:Own w B e F v xs)(a:Blk w b T cells)(hn:e≠T):v.ownBlock≠some b:=by
 intro h1
 rcases h with⟨rfl,_⟩|⟨g1,off,cap,cur,rfl,h⟩
 ·cases h1
 injection h1 with h1
 dsimp only at h1
 subst h1;have:=h.blk.symm.trans a
 injection this with this
 injection this with _ h3 _
 exact hn h3
end
theorem MaxH.ext{w w':World}(h:MaxH w)(c:Ext w w'):MaxH w':=by
 obtain⟨m,b⟩:=h;refine⟨m,?_⟩;have a:0<w.heap.size:=by
  apply JW;intro hn
  simp[World.cell?,Jp (MD hn)]at b
 rw[c.cell (p:=⟨0,0,none⟩) a];exact b
theorem og(w:World)(n:Nat):Ext w (w.drewN n):=⟨rfl,rfl,rfl,MF _,fun _ _=>rfl⟩
theorem lr(w:World)(s:ar)(c:s.length≤100000)(b:MaxH w):Rt Tryz.prog 35 [tV s,tV [10]].toArray w fun v w'=>v=.tuple ⟨[tV (lq 10 s).1,tV (lq 10 s).2.1,.bool (lq 10 s).2.2]⟩∧Ext w w':=by
 obtain⟨m,a⟩:=b;refine JV (Any.strings_Cut E1 (HR s) (HR [10]) m w (by rw[HV];omega) a) ?_;rintro e w' ⟨rfl,n,rfl⟩
 refine⟨_,rfl,?_,og w n⟩;rw[show(HR [10]).data.toList=[10] from rfl,HU,k9];rfl
theorem FG(w:World)(s:ar)(q:s.length≤100000)(p:MaxH w):Rt Tryz.prog 88 [tV s,tV [32]].toArray w fun v w'=>(∃ao cap,v=.slice ao ((FC 32 s).map HR).length cap∧Sl w' (fun b=>b=w.heap.size∧b<w'.heap.size) ao cap ((FC 32 s).map HR))∧Ext w w':=by
 obtain⟨m,g⟩:=p;refine JV (Any.strings_Split E2 E0 (HR s) (HR [32]) m w (by rw[HV];omega) g O2) ?_;rintro e w' ⟨rfl,rfl⟩
 have k:=kM s;rw[FA,k];have c:∀x∈FC 32 s,x.length≤s.length:=by
  intro x f
  have h:=Lib.splitB_data (HR [32]) 0 (Lib.countB (HR s) (HR [32])) (HR s);clear h;have:∀(l:List ar),x∈l→x.length≤(wa 32 l).length:=by
   intro l
   induction l with
   |nil=>intro h;cases h
   |cons y r d=>
    intro h
    cases r with
    |nil=>simp only[wa];rw[LV.1 h];exact MF _
    |cons z r=>
     simp only[wa,Lg,Lh];rcases LI.1 h with rfl|h
     ·omega
     ·have:=d h;omega
  have:=this _ f;rwa[wb]at this
 have hn:(FC 32 s).length≤100001:=by
  have:=Lib.countB_le (HR [32]) O2 _ (HR s) Pm;rw[HV]at this
  omega
 refine⟨_,rfl,⟨_,_,by rw[Ln],⟨by rw[Ln];exact MF _,by unfold maxLen;omega,(fun h=>by cases h),fun i hi=>?_⟩⟩,Ext.alloc w _⟩;rw[Ln]at hi
 refine⟨w.heap.size,0,rfl,⟨rfl,(Blk.alloc w (((FC 32 s).map HR).map Value.string) 9).lt⟩,[.string (HR (FC 32 s)[i])],?_,?_⟩
 ·have o:Blk (w.alloc (.cells (((FC 32 s).map HR).map Value.string).toArray 9)) w.heap.size 9 (((FC 32 s).map HR).map Value.string):=Blk.alloc w _ _
  intro j u a
  have n:j=0:=by
   cases j with
   |zero=>rfl
   |succ j=>simp at a
  subst n;refine o.cell ?_;simp only[List.getElem?_cons_zero,Nk]at a
  rw[←a];show(((FC 32 s).map HR).map Value.string)[0+i*1+0]?=_;simp[KT hi]
 ·rw[K7]
  obtain⟨cs,h1,h2⟩:=Rd.mkStr (w.alloc (.cells (((FC 32 s).map HR).map Value.string).toArray 9)) (fun b=>b=w.heap.size∧b<(w.alloc (.cells (((FC 32 s).map HR).map Value.string).toArray 9)).heap.size) (HR (FC 32 s)[i]) (by
   rw[HV];have:=c _ (K8 hi);unfold maxLen;omega)
  obtain⟨v,rfl⟩:∃v,cs=[v]:=by
   have:=Rep.len h2
   match cs,this with
   |[v],_=>exact⟨v,rfl⟩
  have:v=.string (HR (FC 32 s)[i]):=h1.symm;rw[←this];exact h2
instance ua:IsAr Tryz.prog 233 8 9:=⟨Tryz.underlying233⟩
abbrev zt:Value:=.string ⟨#[]⟩
instance ub:IsZC Tryz.prog 233 [zt,zt,zt,zt,zt,zt,zt,zt]:=IsZC.of (z:=.agg #[zt,zt,zt,zt,zt,zt,zt,zt]) O1 rfl
abbrev IT:List Value:=[zt,tV (IU 1),tV (IU 2),tV (IU 3),tV (IU 4),tV (IU 5),tV (IU 6),tV (IU 7)]
theorem CG(w0:World){k:Int}(h1:1≤k)(h2:k≤7):Rt Tryz.prog 89 [Pq k].toArray w0 fun v w'=>v=tV (IU k)∧Ext w0 w':=by
 obtain⟨ki,rfl,b,a⟩:∃i:Nat,k=(i:Int)∧i<8∧zY IT i=some (tV (IU k)):=by
  obtain rfl|rfl|rfl|rfl|rfl|rfl|rfl:k=1∨k=2∨k=3∨k=4∨k=5∨k=6∨k=7:=by omega
  ·exact⟨1,rfl,by decide,rfl⟩
  ·exact⟨2,rfl,by decide,rfl⟩
  ·exact⟨3,rfl,by decide,rfl⟩
  ·exact⟨4,rfl,by decide,rfl⟩
  ·exact⟨5,rfl,by decide,rfl⟩
  ·exact⟨6,rfl,by decide,rfl⟩
  ·exact⟨7,rfl,by decide,rfl⟩
 generalize IU (ki:Int)=sg at*
 refine dD Tryz.func89 Tryz.ntmps89 rfl rfl ?_;refine Qm ?_;refine dY (out:=IT) rfl rfl rfl rfl ?_;refine Ra ?_;refine eJ rfl rfl rfl rfl b a ?_;refine PB ?_;exact be rfl rfl ⟨rfl,Ext.refl _⟩
section
variable {P:Program}{Q:Exit→Act→World→Prop}{n:Nat}{σ:Sg}{w:World}{L rest:List Oper}{d:Nat}{op:Op}{ty:TypeId}{pos:String}{af:Array Edge}{g:Option (Nat×Bool)}{t yt:TypeId}{x y ix:Operand}
end
instance tK:IsT Tryz.prog 111 bN:=IsT.of O1 Tryz.underlying111 rfl
instance tX:IsC Tryz.prog 111 3 true:=IsC.of O1 Tryz.underlying111 rfl
instance tY:IsFd Tryz.prog 111 0 0:=IsFd.of O1
instance tZ:IsFd Tryz.prog 111 1 1:=IsFd.of O1
instance t1:IsFd Tryz.prog 111 2 2:=IsFd.of O1
instance t6:IsZC Tryz.prog 111 [.string ⟨#[]⟩,.string ⟨#[]⟩,Pq 0]:=IsZC.of (z:=.agg #[.string ⟨#[]⟩,.string ⟨#[]⟩,Pq 0]) O1 rfl
instance t7:IsBd Tryz.prog 111 [(0,1),(1,1),(2,1)]:=IsBd.of O1
instance t8:IsZ Tryz.prog 111 ((⟨#[]⟩,⟨#[]⟩,0):bN) 40:=IsZ.of (z:=.agg #[.string ⟨#[]⟩,.string ⟨#[]⟩,Pq 0]) O1 (fun w F=>⟨[.string ⟨#[]⟩],[.string ⟨#[]⟩,Pq 0],rfl,⟨rfl,by decide⟩,⟨[.string ⟨#[]⟩],[Pq 0],rfl,⟨rfl,by decide⟩,rfl⟩⟩)
instance t_:IsS Tryz.prog 104 111:=⟨Tryz.underlying104⟩
instance tL:IsC Tryz.prog 104 1 false:=IsC.of O1 Tryz.underlying104 rfl
instance tM:IsFd Tryz.prog 106 0 0:=IsFd.of O1
instance tN:IsFd Tryz.prog 106 1 2:=IsFd.of O1
instance tO:IsZC Tryz.prog 106 [.slice none 0 0,.slice none 0 0,.slice none 0 0]:=IsZC.of (z:=.agg #[.slice none 0 0,.slice none 0 0,.slice none 0 0]) O1 rfl
instance tP:IsBd Tryz.prog 106 [(0,2),(2,1)]:=IsBd.of O1
instance tU:IsF Tryz.prog 89:=⟨_,Tryz.func89,rfl,by decide⟩
instance tQ:IsF Tryz.prog 36:=⟨_,Tryz.func36,rfl,by decide⟩
instance tR:IsF Tryz.prog 37:=⟨_,Tryz.func37,rfl,by decide⟩
instance tT:IsF Tryz.prog 91:=⟨_,Tryz.func91,rfl,by decide⟩
structure PRd(w:World)(B b:Nat)(ns:List cG)(fs:List bN)(pf:List cF)(vn vp vf:Value):Prop where
 blk:Blk w b 106 [vn,vp,vf]
 ge:B≤b
 own:Own w B 86 cZ vn ns
 opf:Own w B 114 cZ vp pf
 ofl:Own w B 111 cZ vf fs
section
variable {w w' w2:World}{B b:Nat}{ns:List cG}{fs:List bN}{pf:List cF}{vn vp vf:Value}
theorem PRd.ext(h:PRd w B b ns fs pf vn vp vf)(a:Ext w w'):PRd w' B b ns fs pf vn vp vf:=⟨h.blk.ext a,h.ge,h.own.extN a,h.opf.extN a,h.ofl.extN a⟩
theorem PRd.dis(h:PRd w B b ns fs pf vn vp vf):(vn.ownBlock≠some b∧vp.ownBlock≠some b∧vf.ownBlock≠some b)∧(∀g,vn.ownBlock=some g→vf.ownBlock≠some g)∧(∀g,vp.ownBlock=some g→vf.ownBlock≠some g)∧∀g,vp.ownBlock=some g→vn.ownBlock≠some g:=
 ⟨⟨Bb h.own h.blk O2,Bb h.opf h.blk O2,Bb h.ofl h.blk O2⟩,Ba h.own h.ofl O2,Ba h.opf h.ofl O2,Ba h.opf h.own O2⟩
theorem PRd.pushF(h:PRd w B b ns fs pf vn vp vf){fs':List bN}{vf':Value}(d:Own w' B 111 cZ vf' fs')(f:w.grownBy w' vf.ownBlock)(i:Blk w2 b 106 [vn,vp,vf'])(a:w'.grownBy w2 (some b))(c:Blk w' b 106 [vn,vp,vf]):
  PRd w2 B b ns fs' pf vn vp vf':=by
 obtain⟨⟨d1,d2,d3⟩,d4,d5,l⟩:=h.dis;have e:=Bb d c O2;exact⟨i,h.ge,(h.own.keptN f (fun g k e=>d4 g k e.symm)).keptN a (fun g k e=>d1 (by rw[k,e])),(h.opf.keptN f (fun g k e=>d5 g k e.symm)).keptN a (fun g k e=>d2 (by rw[k,e])),d.keptN a (fun g k j=>e (by rw[k,j]))⟩
theorem PRd.pushN(h:PRd w B b ns fs pf vn vp vf){ns':List cG}{vn':Value}(d:Own w' B 86 cZ vn' ns')(f:w.grownBy w' vn.ownBlock)(i:Blk w2 b 106 [vn',vp,vf])(a:w'.grownBy w2 (some b))(c:Blk w' b 106 [vn,vp,vf]):
  PRd w2 B b ns' fs pf vn' vp vf:=by
 obtain⟨⟨d1,d2,d3⟩,d4,d5,l⟩:=h.dis;have e:=Bb d c O2;exact⟨i,h.ge,d.keptN a (fun g k j=>e (by rw[k,j])),(h.opf.keptN f (fun g k e=>l g k e.symm)).keptN a (fun g k e=>d2 (by rw[k,e])),(h.ofl.keptN f (fun g k e=>d4 g e.symm k)).keptN a (fun g k e=>d3 (by rw[k,e]))⟩
theorem PRd.pushP(h:PRd w B b ns fs pf vn vp vf){pf':List cF}{vp':Value}(d:Own w' B 114 cZ vp' pf')(f:w.grownBy w' vp.ownBlock)(i:Blk w2 b 106 [vn,vp',vf])(a:w'.grownBy w2 (some b))(c:Blk w' b 106 [vn,vp,vf]):
  PRd w2 B b ns fs pf' vn vp' vf:=by
 obtain⟨⟨d1,d2,d3⟩,d4,d5,l⟩:=h.dis;have e:=Bb d c O2;exact⟨i,h.ge,(h.own.keptN f (fun g k e=>l g e.symm k)).keptN a (fun g k e=>d1 (by rw[k,e])),d.keptN a (fun g k j=>e (by rw[k,j])),(h.ofl.keptN f (fun g k e=>d5 g e.symm k)).keptN a (fun g k e=>d3 (by rw[k,e]))⟩
end
theorem wW{a:ar}(h:∀j:Nat,1≤j→j<8→a≠IU j):wU a=0:=by
 unfold wU;rw[OD (show¬a=IU 1 from h 1 O2 O2),OD (show¬a=IU 2 from h 2 O2 O2),OD (show¬a=IU 3 from h 3 O2 O2),OD (show¬a=IU 4 from h 4 O2 O2),OD (show¬a=IU 5 from h 5 O2 O2),OD (show¬a=IU 6 from h 6 O2 O2),OD (show¬a=IU 7 from h 7 O2 O2)]
def cQ(w w':World)(B b:Nat)(pf:List cF)(vp:Value)(v:Value):Option (List cG×List bN)→Prop
 |none=>v=.bool false∧Ext w w'
 |some x=>v=.bool true∧Below B w w'∧∃vn vf,PRd w' B b x.1 x.2 pf vn vp vf
theorem CS(w:World)(F:Nat→Prop)(s:ByteArray)(k:Int)(h:s.size≤maxLen):Rd w F (.agg [.string s,Pq k].toArray) ((s,k):cG):=Rd.mkPr (c1:=[.string s]) (c2:=[Pq k]) ⟨rfl,h⟩ rfl
set_option maxHeartbeats 2000000 in
theorem xJ(w:World){B b:Nat}{ns:List cG}{fs:List bN}{vn vf:Value}{s:ar}{ln:Int}(hM:MaxH w)(h:PRd w B b ns fs [] vn (.slice none 0 0) vf)(hs:s.length≤4096)(hl:ns.length+fs.length≤100000):
  Rt Tryz.prog 36 [Pr b,tV s,Pq ln].toArray w fun v w'=>cQ w w' B b [] (.slice none 0 0) v (xF ns fs s ln):=by
 refine dF Tryz.func36 Tryz.ntmps36 rfl rfl ?_;refine Qm ?_;refine WL.call rfl rfl rfl (FG w s O0 hM) ?_;rintro _ w1 ⟨⟨ao,cap,rfl,I⟩,e1⟩
 have h1:=h.ext e1;have m:=FE 32 s;unfold xF;generalize FC 32 s=ws at*
 have Z:(ws.map HR).length=ws.length:=Ln ..;have h0:0<(ws.map HR).length:=by rw[Z];exact Lp.2 m
 refine Qm ?_;refine eC (i:=0) rfl rfl rfl rfl rfl I h0 O_ (fun u q a=>?_);have d:∀i (h:i<(ws.map HR).length),(ws.map HR)[i]=HR (ws.getD i []):=fun i h=>by
  rw[K7,KN,KT (by rwa[Z]at h)];rfl
 obtain⟨rfl,-⟩:=a.str;rw[d 0 h0];clear a;refine PE ?_;have hd0:=h1.dis;apply CW.cond rfl<;>intro h
 ·have hF:ws.getD 0 []=pH:=Oj.1 h
  clear h;rw[OE hF];refine QZ ?_;cases h3:(((ws.map HR).length:Int) != 3)with
  |true=>
   have h3:ws.length≠3:=by simp at h3;omega
   rw[OD (fun e=>h3 e.1)];refine Q3 ?_;exact be rfl rfl ⟨rfl,e1⟩
  |false=>
  have h3:ws.length=3:=by simp at h3;omega
  have J:1<(ws.map HR).length:=by omega
  have i2:2<(ws.map HR).length:=by omega
  refine Ra ?_;refine eC (i:=1) rfl rfl rfl rfl rfl I J O_ (fun u q1 a=>?_);obtain⟨rfl,-⟩:=a.str;rw[d 1 J];clear a;skip;refine WL.call rfl rfl rfl (cX w1 _) ?_;rintro _ w2 ⟨rfl,R⟩
  have I:=I.mono (F':=fun b=>b=w.heap.size∧b<w2.heap.size) (fun b f=>R.block b f.2) (fun b f=>⟨f.1,MK f.2 R.size⟩);have h2:=h1.ext R;have hE2:=e1.trans R;have A:yR (HR (ws.getD 1 []))=yS (ws.getD 1 []):=rfl;rw[A];cases hn1:yS (ws.getD 1 [])with
  |false=>
   rw[OD (fun e=>by cases e.2.1)];refine Q3 ?_;exact be rfl rfl ⟨rfl,hE2⟩
  |true=>
  refine Ra ?_;refine eC (i:=2) rfl rfl rfl rfl rfl I i2 O_ (fun u q2 a=>?_);obtain⟨rfl,-⟩:=a.str;rw[d 2 i2];clear a;skip;refine WL.call rfl rfl rfl (cX w2 _) ?_;rintro _ l ⟨rfl,x⟩
  have I:=I.mono (F':=fun b=>b=w.heap.size∧b<l.heap.size) (fun b f=>x.block b f.2) (fun b f=>⟨f.1,MK f.2 x.size⟩);have X:=h2.ext x;have H:=hE2.trans x;have hnb2:yR (HR (ws.getD 2 []))=yS (ws.getD 2 []):=rfl;rw[hnb2];cases hn2:yS (ws.getD 2 [])with
  |false=>
   rw[OD (fun e=>by cases e.2.2)];refine Q3 ?_;exact be rfl rfl ⟨rfl,H⟩
  |true=>
  rw[OE ⟨h3,rfl,rfl⟩];have O:=Ext.drew l;have Q:=X.ext O;have E:=X.dis;have G:=X.blk.lt;have T:∀g,vf.ownBlock=some g→g<w.heap.size:=fun g hg=>(h.ofl.lt g hg).2.1
  have hKs:∀u,(fun z:World=>∀c,c<l.heap.size→vf.ownBlock≠some c→z.heap[c]?=(drew l).heap[c]?) u→u.heap[b]?=(drew l).heap[b]?:=fun u a=>a _ G E.1.2.2
  have N:∀u,(fun z:World=>∀c,c<l.heap.size→vf.ownBlock≠some c→z.heap[c]?=(drew l).heap[c]?) u→∀c,(c=w.heap.size∧c<l.heap.size)→u.heap[c]?=(drew l).heap[c]?:=fun u a c n=>a c n.2 (fun e=>by have:=T _ e;omega)
  have hb3:=Q.blk;have K:=I.mono (w':=drew l) (F':=fun c=>c=w.heap.size∧c<l.heap.size) (fun c n=>O.block c n.2) (fun c n=>n);refine Qp ?_;refine aE (fun z:World=>∀c,c<l.heap.size→vf.ownBlock≠some c→z.heap[c]?=(drew l).heap[c]?) [(0,true),(1,true),(2,true),(3,true),(4,true),(5,true),(6,true),(7,true),(8,true),(9,true),(10,true),(11,true),(12,true),(13,false),(14,false),(15,false),(16,false)] 17 mixed O1 (fun _ _ _=>rfl) ?_;refine RC ?_;refine bY (k:=1) N rfl rfl rfl rfl rfl rfl rfl K J O_ (fun u r1 a=>?_);obtain⟨rfl,y⟩:=a.str;rw[d 1 J]at y⊢
  refine Rx ?_;refine bY (k:=2) N rfl rfl rfl rfl rfl rfl rfl K i2 O_ (fun u r2 a=>?_);obtain⟨rfl,Y⟩:=a.str;rw[d 2 i2]at Y⊢
  refine RE ?_;refine bV (α:=bN) (F:=cZ) (bytes:=40) (yv:=((HR (ws.getD 1 []),HR (ws.getD 2 []),ln):bN)) rfl rfl rfl rfl O_ rfl rfl O_ Q.ofl
   (Rd.mkPr (c1:=[.string (HR (ws.getD 1 []))]) (c2:=[.string (HR (ws.getD 2 [])),Pq ln]) ⟨rfl,y⟩ ⟨[.string (HR (ws.getD 2 []))],[Pq ln],rfl,⟨rfl,Y⟩,rfl⟩)
   (by have:=h.ge;have:=O.size;have:b<l.heap.size:=G;omega) Pc O2 O5 O0
   (fun z hz c n m=>hz.block c n (fun e=>m e.symm)) (fun vf2 o q3 ho4 C hnb4=>?_)
  have M:=hb3.kept C (fun e=>E.1.2.2 e.symm);have hS4:(fun z:World=>∀c,c<l.heap.size→vf.ownBlock≠some c→z.heap[c]?=(drew l).heap[c]?) o:=fun c n m=>C.block c n (fun e=>m e.symm)
  obtain⟨fo,fcap,hv4⟩:=ho4.val;subst hv4;refine cr rfl (fh rfl rfl rfl (WL.nil (a_ hS4 ?_)));refine cr rfl (eG rfl rfl rfl (WL.nil (a_ hS4 (HL.nil ?_))));refine bp rfl (WL.st rfl rfl rfl M rfl rfl Pk (fun w5 L p=>WL.nil (bu ?_)));have r:B≤w.heap.size:=MC (MJ h.ge h.blk.lt);have U:=(H.trans O).mono r;have hX5:=(U.grown C (MH r U.size) (fun k e=>(Q.ofl.lt k e).1)).grown p (MH (MH r U.size) C.size) (fun k e=>by cases e;exact h.ge);refine QJ ?_;exact be rfl rfl ⟨rfl,hX5,vn,_,Q.pushF ho4 C L p M⟩
 ·have hF:¬ws.getD 0 []=pH:=fun e=>by rw[e]at h;exact absurd h O2
  clear h;rw[OD hF];refine PL ?_;refine CW.loop (S:=Nat) (fun k=>[(0,Pr b),(7,.slice ao (ws.map HR).length cap),(8,Pq (k:Int))])
   (fun k w'=>1≤k∧k≤8∧(∀j:Nat,1≤j→j<k→ws.getD 0 []≠IU j)∧Ext w1 w') (fun k=>8 -k) 1 OZ ⟨by omega,by omega,(fun j h1 h2=>by omega),Ext.refl _⟩ ?_
  rintro k w2 ⟨hk1,hk8,hno,R⟩
  refine Qm ?_;apply CW.cond rfl<;>intro h
  ·have hk7:k≤7:=by simp at h;omega
   clear h;have hw2:=I.mono (F':=fun b=>b=w.heap.size∧b<w2.heap.size) (fun b f=>R.block b f.2) (fun b f=>⟨f.1,MK f.2 R.size⟩);refine Q_ ?_;refine dk (i:=0) rfl rfl rfl rfl rfl (fun _ h=>h.2) hw2 h0 O_ (fun u q0 a=>?_);obtain⟨rfl,-⟩:=a.str;rw[d 0 h0];clear a;refine Rf ?_;refine QL.call rfl rfl rfl (fun w' _=>CG w' O0 O0) ?_;refine Rf ?_;refine QL.nil (fun l x=>?_);have x:=R.trans x;refine Pv ?_;apply CW.cond rfl<;>intro h
   ·have hW:ws.getD 0 []=IU k:=Oj.1 h
    clear h;have hk:wU (ws.getD 0 [])=k:=by rw[hW];exact(IV O0 O0).1
    rw[hk,OD O0];have hw3:=I.mono (F':=fun b=>b=w.heap.size∧b<l.heap.size) (fun b f=>x.block b f.2) (fun b f=>⟨f.1,MK f.2 x.size⟩);have H:=e1.trans x;obtain⟨fo0,fc0,hvf⟩:=h1.ofl.val;subst hvf;have h3:=h1.ext x;refine QZ ?_;cases t:(((ws.map HR).length:Int) != 2)with
    |true=>
     have t:ws.length≠2:=by simp at t;omega
     rw[OD (fun e=>t e.1)];refine PD ?_;exact be rfl rfl ⟨rfl,H⟩
    |false=>
    have t:ws.length=2:=by simp at t;omega
    have J:1<(ws.map HR).length:=by omega
    refine Ra ?_;refine eC (i:=1) rfl rfl rfl rfl rfl hw3 J O_ (fun u q1 a=>?_);obtain⟨rfl,-⟩:=a.str;rw[d 1 J];clear a;skip;refine WL.call rfl rfl rfl (cX l _) ?_;rintro _ o ⟨rfl,e4⟩
    have hw4:=hw3.mono (F':=fun b=>b=w.heap.size∧b<o.heap.size) (fun b f=>e4.block b f.2) (fun b f=>⟨f.1,MK f.2 e4.size⟩);have h4:=h3.ext e4;have W:=H.trans e4;have A:yR (HR (ws.getD 1 []))=yS (ws.getD 1 []):=rfl;rw[A];cases hn1:yS (ws.getD 1 [])with
    |false=>
     rw[OD (fun e=>by cases e.2.1)];refine PD ?_;exact be rfl rfl ⟨rfl,W⟩
    |true=>
    have hb4':=h4.blk;refine Qz ?_;cases D:decide ((fs.length:Int)>0)with
    |true=>
     rw[OD (fun e=>by rw[e.2.2]at D;exact absurd D O2)];refine QF ?_;exact be rfl rfl ⟨rfl,W⟩
    |false=>
    have D:fs=[]:=Lk.1 (by have:=OJ D;omega);rw[OE ⟨t,rfl,D⟩];clear hb4';have O:=Ext.drew o;have P:=h4.ext O;have E:=h4.dis;have G:=h4.blk.lt;obtain⟨no0,nc0,hvn⟩:=h1.own.val;subst hvn;have T:∀g,(Value.slice no0 ns.length nc0).ownBlock=some g→g<w.heap.size:=fun g hg=>(h.own.lt g hg).2.1
    have hKs:∀u,(fun z:World=>∀c,c<o.heap.size→(Value.slice no0 ns.length nc0).ownBlock≠some c→z.heap[c]?=(drew o).heap[c]?) u→u.heap[b]?=(drew o).heap[b]?:=fun u a=>a _ G E.1.1
    have N:∀u,(fun z:World=>∀c,c<o.heap.size→(Value.slice no0 ns.length nc0).ownBlock≠some c→z.heap[c]?=(drew o).heap[c]?) u→∀c,(c=w.heap.size∧c<o.heap.size)→u.heap[c]?=(drew o).heap[c]?:=fun u a c n=>a c n.2 (fun e=>by have:=T _ e;omega)
    have M:=P.blk;have K:=hw4.mono (w':=drew o) (F':=fun c=>c=w.heap.size∧c<o.heap.size) (fun c n=>O.block c n.2) (fun c n=>n);refine QY ?_;refine aE (fun z:World=>∀c,c<o.heap.size→(Value.slice no0 ns.length nc0).ownBlock≠some c→z.heap[c]?=(drew o).heap[c]?) [(0,true),(1,true),(2,true),(3,true),(4,true),(5,true),(6,true),(7,true),(8,true),(9,true),(10,true),(11,false),(12,false),(13,false),(14,false),(15,false)] 16 mixed O1 (fun _ _ _=>rfl) ?_;refine RC ?_;refine bY (k:=1) N rfl rfl rfl rfl rfl rfl rfl K J O_ (fun u r1 a=>?_);obtain⟨rfl,y⟩:=a.str;rw[d 1 J]at y⊢
    refine RE ?_;refine bV (α:=cG) (F:=cZ) (bytes:=24) (yv:=((HR (ws.getD 1 []),(k:Int)):cG)) rfl rfl rfl rfl O_ rfl rfl O_ P.own (CS _ _ _ _ y)
     (by have:=h.ge;have:=O.size;have:b<o.heap.size:=G;omega) Pc O2 O5 O0
     (fun z hz c n m=>hz.block c n (fun e=>m e.symm)) (fun vn2 w5 q3 ho5 p hnb5=>?_)
    have L:=M.kept p (fun e=>E.1.1 e.symm);have V:(fun z:World=>∀c,c<o.heap.size→(Value.slice no0 ns.length nc0).ownBlock≠some c→z.heap[c]?=(drew o).heap[c]?) w5:=fun c n m=>p.block c n (fun e=>m e.symm)
    obtain⟨fo,fcap,hv5⟩:=ho5.val;subst hv5;refine cr rfl (fh rfl rfl rfl (WL.nil (a_ V ?_)));refine cr rfl (eG rfl rfl rfl (WL.nil (a_ V ?_)));refine cr rfl (eG rfl rfl rfl (WL.nil (a_ V (HL.nil ?_))));refine bp rfl (WL.st rfl rfl rfl L rfl rfl Pk (fun w6 hb6 hg6=>WL.nil (bu ?_)));have r:B≤w.heap.size:=MC (MJ h.ge h.blk.lt);have U:=(W.trans O).mono r;have hX6:=(U.grown p (MH r U.size) (fun k e=>(P.own.lt k e).1)).grown hg6 (MH (MH r U.size) p.size) (fun k e=>by cases e;exact h.ge);refine Pt ?_;exact be rfl rfl ⟨rfl,hX6,_,_,P.pushN ho5 p hb6 hg6 L⟩
   ·have hW:¬ws.getD 0 []=IU k:=fun e=>by rw[e]at h;exact absurd h (by simp[HR])
    clear h;refine Pz ?_;refine EX.back (k+1) OZ ⟨by omega,by omega,?_,x⟩ O0;intro j hj1 hj2
    by_cases e:j=k
    ·subst e;exact hW
    ·exact hno j hj1 O0
  ·obtain rfl:k=8:=by simp at h;omega
   rw[wW hno,OE rfl];refine P3 ?_;exact be rfl rfl ⟨rfl,e1.trans R⟩
theorem Dh{fn:Func}{a u s:Nat}{t:TypeId}(h:fn.results=#[.cell a t,.tmp u,.tmp s])(tmps:Array Value)(P:Program)(w:World){p:Addr}{v:Value}(b:tmps.getD a undef=.pointer (some p))(c:(loadVar t p).run P w=.ok v w):
  (results fn tmps).run P w=.ok (.tuple ⟨[v,tmps.getD u undef,tmps.getD s undef]⟩) w:=by
 simp only[Jn]at b⊢
 simp[results,h,b,asAddr,c]
theorem bm{P:Program}{n:Nat}{σ:Sg}{w:World}{fn:Func}{a b u s:Nat}{t e:TypeId}{cells:List Value}{k:Nat}{x y:Value}{R:Value→World→Prop}(q:fn.results=#[.cell a t,.tmp u,.tmp s])(A:fnd σ a=some (Pr b))(m:fnd σ u=some x)(p:fnd σ s=some y)[r:IsC P t k true](z:Blk w b e cells)(o:xz cells=k)(h:R (.tuple ⟨[.agg cells.toArray,x,y]⟩) w):
  EX (bodyPost P fn fun e w'=>∃v,e=.returned v∧R v w') .ret n σ w:=by
 unfold EX;intro ac c
 refine On (Dh q _ _ _ (c.slot a _ A) (v:=.agg cells.toArray) ?_) c.defers ⟨_,by rw[c.slot u x m,c.slot s y p],h⟩;rw[xA]at o
 have f:=OM (P:=P) w ⟨b,0,none⟩ cells (fun j u m=>by rw[Od,M8];exact z.cell m);obtain⟨i,dd,h1,h2,h3,h4⟩:=r.ok;have l:(isAgg t).run P w=.ok true w:=by
  unfold isAgg;rw[Nr,OP h3 w,←h4];cases dd<;>rfl
 rw[o]at f
 simp[loadVar,l,sizeOf,typeInfo,h1,h2,f]
section
variable {P:Program}{Q:Exit→Act→World→Prop}{n:Nat}{σ:Sg}{w:World}{L rest:List Oper}{d:Nat}{op:Op}{ty:TypeId}{pos:String}{af:Array Edge}{g:Option (Nat×Bool)}{t:TypeId}{x:Operand}
theorem eP{s:ar}(b:gd L σ ⟨some d,.call ⟨.builtin .len,#[x],#[t]⟩,ty,pos,af,g⟩=some true)(hd:Nat.ble (d+1) n=true)
  (a:ev σ x=some (tV s)) [c:IsStr P t] (h:WL P L Q rest n ((d,Pq (s.length:Int))::σ) w):WL P L Q (⟨some d,.call ⟨.builtin .len,#[x],#[t]⟩,ty,pos,af,g⟩::rest) n σ w:=
 eR b hd a (by rw[HV];exact h)
end
theorem zu(w:World)(m:cG)(b:Nat)(nm:ByteArray)(a:Blk w b 9 [.string nm]):
  Rt Tryz.prog 91 [.agg [.string m.1,Pq m.2].toArray,Pr b].toArray w fun v w'=>v=.bool (yQ m.1 nm)∧Ext w w':=by
 refine dE Tryz.func91 Tryz.ntmps91 rfl rfl ?_;refine Pu ?_;refine dX rfl rfl rfl fun f e c=>?_
 have a:=a.ext c;refine Qv ?_;exact be rfl rfl ⟨rfl,c⟩
theorem zC(w:World){B b:Nat}{ns:List cG}{fs:List bN}{pf:List cF}{vn vp vf:Value}(h:PRd w B b ns fs pf vn vp vf)(nm:ByteArray):
  Rt Tryz.prog 37 [Pr b,.string nm].toArray w fun v w'=>v=Pq (zx ns nm)∧Ext w w':=by
 refine dE Tryz.func37 Tryz.ntmps37 rfl rfl ?_;refine Pu ?_;refine dX rfl rfl rfl fun f a e=>?_
 have h1:=h.ext e;have o:=h1.blk;obtain⟨ao,cap,m,l⟩:=h1.own.oldN.sl;subst m;refine QW ?_;refine WL.call rfl rfl rfl (vF f (fun n:cG=>yQ n.1 nm) l (fun c j i hi u k=>by
  obtain rfl:=k.node;exact FnV.mk (cs:=[_]) (zu c _ _ nm (a.ext j)))) ?_
 rintro _ c ⟨rfl,p⟩
 refine PB ?_;exact be rfl rfl ⟨rfl,e.trans p⟩
theorem xG{ns:List cG}{fs:List bN}{l:ar}{ln:Int}{x:List cG×List bN}(h:xF ns fs l ln=some x):x.1.length+x.2.length=ns.length+fs.length+1:=by
 unfold xF at h
 split at h
 ·split at h
  ·injection h with h;rw[←h];simp;omega
  ·cases h
 ·split at h
  ·cases h
  ·split at h
   ·injection h with h;rw[←h];simp;omega
   ·cases h
def PG(w:World)(v:Value)(p:cI):Prop:=∃so sc fo fc,v=Cl so sc fo fc p.1.length p.2.length∧Sl w (c7 w) so sc p.1∧Sl w (c7 w) fo fc p.2
theorem PG.zero(w:World):PG w (Cl none 0 none 0 0 0) ([],[]):=by
 have h1:Sl w (c7 w) none 0 ([]:List cG):=⟨MF _,by decide,O_,fun i h=>by cases h⟩;have h2:Sl w (c7 w) none 0 ([]:List cF):=⟨MF _,by decide,O_,fun i h=>by cases h⟩;exact⟨none,0,none,0,rfl,h1,h2⟩
theorem Rd.flT{w:World}{F:Nat→Prop}{v:Value}{x:bN}(h:Rd w F v x):v=.agg [.string x.1,.string x.2.1,Pq x.2.2].toArray:=by
 obtain⟨c1,a,rfl,h1,k1⟩:=h.pr;obtain⟨c2,c3,rfl,h2,h3⟩:=C2 k1;rw[h1.1,h2.1,CX h3];rfl
theorem pQ{ns:List cG}{f:bN}{r:List bN}{acc:List cF}:pP ns (f::r) acc=if zx ns f.1<0∨zx ns f.2.1<0 then(none,f.2.2)else pP ns r (acc++[(zx ns f.1,zx ns f.2.1)]):=by rw[pP]
noncomputable def o7:Option (List cG×List bN)×Int→cI×Int×Int
 |(none,ln)=>(([],[]),ln,3)
 |(some x,_)=>match pP x.1 x.2 []with
  |(none,ln)=>(([],[]),ln,4)
  |(some fl,_)=>if jM (x.1,fl)≠0 then(([],[]),0,jM (x.1,fl))else((x.1,fl),0,0)
theorem Bo(s:ar):Bn s=if s.length>4096 then(([],[]),0,2)else o7 (C7 s.length s 1 [] []):=by
 unfold Bn;split
 ·rfl
 ·split<;>(rename_i h;rw[h];rfl)
set_option maxHeartbeats 4000000 in
theorem B_(w0:World)(hM:MaxH w0){s:ar}:
  Rt Tryz.prog 15 [tV s].toArray w0 fun v w'=>∃x,v=.tuple ⟨[x,Pq (Bn s).2.1,Pq (Bn s).2.2]⟩∧PG w' x (Bn s).1∧Ext w0 w':=by
 refine dD Tryz.func15 Tryz.ntmps15 rfl rfl ?_;rw[Bo];refine Pu ?_;refine WL.alloc rfl rfl (fun Y l e1=>?_);refine Qm ?_;refine eP rfl rfl rfl ?_;refine PE ?_;apply CW.cond rfl<;>intro h
 ·have h:s.length>4096:=by have:(s.length:Int)>4096:=by simpa using h
                           omega
  rw[OE h];refine Pu ?_;refine WL.build (parts:=[]) rfl rfl rfl rfl ?_;skip;refine WL.st rfl rfl rfl l rfl rfl Pk (fun w2 hb22 hg2=>?_);refine PK ?_;exact bm rfl rfl rfl rfl hb22 rfl ⟨_,rfl,PG.zero _,e1.grown hg2 e1.size Pb⟩
 have hs:s.length≤4096:=by have:¬(s.length:Int)>4096:=by simpa using h
                           omega
 rw[OD O0];clear h;have l2:=l.lt;refine QC ?_;refine WL.build (parts:=[]) rfl rfl rfl rfl ?_;refine dX rfl rfl rfl fun w2 hb5 e2=>?_
 have hP0:PRd w2 Y.heap.size Y.heap.size [] [] [] (.slice none 0 0) (.slice none 0 0) (.slice none 0 0):=⟨hb5,MF _,Own.nil,Own.nil,Own.nil⟩;have hM2:=(hM.ext e1).ext e2;generalize hb5e:Y.heap.size=K at*
 have O:∀w,Below K Y w→Blk w w0.heap.size 25 [.slice none 0 0,.slice none 0 0]∧Ext w0 w∧MaxH w:=fun w N=>by
  have hX':Ext Y w:=by unfold Ext;rw[hb5e];exact N
  exact⟨l.ext hX',e1.trans hX',(hM.ext e1).ext hX'⟩
 have e2:Below K Y w2:=by have:=e2;unfold Ext at this;rwa[hb5e]at this
 have fin:∀(ln:Int),C7 s.length s 1 [] []=(none,ln)→o7 (C7 s.length s 1 [] [])=(([],[]),ln,3):=fun ln h=>by rw[h];rfl
 refine Qc ?_;refine CW.loop (S:=ar×Int×List cG×List bN×Value×Value) (fun t=>[(0,tV t.1),(2,Pr w0.heap.size),(5,Pr K),(6,Pq t.2.1)])
  (fun t w=>(∃f,t.1.length≤f∧C7 s.length s 1 [] []=C7 f t.1 t.2.1 t.2.2.1 t.2.2.2.1)∧PRd w K K t.2.2.1 t.2.2.2.1 [] t.2.2.2.2.1 (.slice none 0 0) t.2.2.2.2.2∧Below K Y w∧t.2.2.1.length+t.2.2.2.1.length+t.1.length≤4096∧0≤t.2.1∧t.2.1+t.1.length≤5000)
  (fun t=>t.1.length) (s,1,[],[],.slice none 0 0,.slice none 0 0) OZ ⟨⟨s.length,MF _,rfl⟩,hP0,e2,by simpa using hs,by dsimp only;omega,by dsimp only;omega⟩ ?_
 rintro⟨u,ln,ns,fs,vn,vf⟩ w ⟨⟨f,hf,B⟩,hP,N,hl,hl0,hl1⟩
 dsimp only at hf B hP N hl hl0 hl1⊢
 obtain⟨p,A,W⟩:=O w N;refine Qm ?_;apply CW.cond rfl<;>intro h
 ·have J:u≠[]:=fun e=>by rw[e]at h;exact absurd h O2
  clear h;have hu0:0<u.length:=Lp.2 J;obtain⟨f,rfl⟩:∃f',f=f'+1:=⟨f -1,by omega⟩;rw[C7,OD J]at B
  refine PP ?_;refine WL.call rfl rfl rfl (lr w u O0 W) ?_;rintro _ w3 ⟨rfl,D⟩
  have I:=hP.ext D;have hb3:=p.ext D;unfold lq;cases hc:k_ 10 u with
  |none=>
   rw[hc]at B
   dsimp only at B⊢
   rw[fin ln B];refine Q3 ?_;refine WL.build (parts:=[]) rfl rfl rfl rfl ?_;refine Ra ?_;refine WL.st rfl rfl rfl hb3 rfl rfl Pk (fun w4 E o=>?_);refine PV ?_;exact bm rfl rfl rfl rfl E rfl ⟨_,rfl,PG.zero _,(A.trans D).grown o (A.trans D).size Pb⟩
  |some x=>
  rw[hc]at B
  dsimp only at B⊢
  have hcl:x.1.length+1+x.2.length=u.length:=by
   have:=Oq List.length (lk (a:=x.1) (r:=x.2) hc);simp at this;omega
  refine Qm ?_;refine WL.call rfl rfl rfl (xJ w3 (s:=x.1) (ln:=ln) (W.ext D) I O0 O0) ?_;rintro v w4 hL
  cases hy:xF ns fs x.1 ln with
  |none=>
   rw[hy]at B hL
   dsimp only at B
   obtain⟨rfl,X⟩:=hL;have E:=hb3.ext X;rw[fin ln B];refine Q5 ?_;refine WL.build (parts:=[]) rfl rfl rfl rfl ?_;refine Ra ?_;refine WL.st rfl rfl rfl E rfl rfl Pk (fun T hb5 hg5=>?_);refine PV ?_;exact bm rfl rfl rfl rfl hb5 rfl ⟨_,rfl,PG.zero _,((A.trans D).trans X).grown hg5 ((A.trans D).trans X).size Pb⟩
  |some y=>
   have hyl:=xG hy;rw[hy]at B hL
   dsimp only at B
   obtain⟨rfl,X,vn',vf',V⟩:=hL;refine PT ?_;have C:K≤w.heap.size:=by have:=hP.blk.lt;omega
   exact EX.back (x.2,ln+1,y.1,y.2,vn',vf') OZ ⟨⟨f,by dsimp only;omega,B⟩,V,(N.trans (D.mono C)).trans X,by dsimp only;omega,by dsimp only;omega,by dsimp only;omega⟩ O4
 have J:u=[]:=by
  cases u with
  |nil=>rfl
  |cons c u=>exact absurd h (by simp[HR])
 subst J;have B:C7 s.length s 1 [] []=(some (ns,fs),ln):=by rw[B];cases f<;>simp[C7]
 rw[B];clear h hf B fin hM2 hP0 p A W;obtain⟨fo0,fc0,hvf⟩:=hP.ofl.val;subst hvf;have G:=hP.blk;refine Qo ?_;have hfin:o7 (some (ns,fs),ln)=match pP ns fs []with
   |(none,ln)=>(([],[]),ln,4)
   |(some fl,_)=>if jM (ns,fl)≠0 then(([],[]),0,jM (ns,fl))else((ns,fl),0,0):=rfl
 rw[hfin];refine CW.loop (S:=Nat×Value×List cF) (fun t=>[(2,Pr w0.heap.size),(5,Pr K),(46,.slice fo0 fs.length fc0),(47,Pq fs.length),(48,Pq t.1)])
  (fun t w=>t.1≤fs.length∧pP ns fs []=pP ns (fs.drop t.1) t.2.2∧t.2.2.length=t.1∧PRd w K K ns fs t.2.2 vn t.2.1 (.slice fo0 fs.length fc0)∧Below K Y w)
  (fun t=>fs.length -t.1) (0,.slice none 0 0,[]) OZ ⟨M9 _,by rw[Kw],rfl,hP,N⟩ ?_
 clear hP N G;rintro⟨k,vp,pf⟩ w ⟨hk,j,hpl,hP,N⟩
 dsimp only at hk j hpl hP N⊢
 obtain⟨p,A,W⟩:=O w N;have C:K≤w.heap.size:=by have:=hP.blk.lt;omega
 refine Qm ?_;apply CW.cond rfl<;>intro h
 ·have hi:k<fs.length:=by simpa using h
  clear h;rw[Ks hi]at j
  rw[pQ]at j
  generalize hff:fs[k]=ff at*
  refine Q6 ?_;refine eE (i:=k) rfl rfl rfl rfl rfl hP.ofl hi O_ (fun u q J=>?_);rw[hff]at J
  rw[J.flT];clear J;skip;refine WL.alloc rfl rfl (fun w3 b D=>?_);skip;refine WL.st rfl rfl rfl b rfl rfl Pk (fun w4 b o=>?_);have X:Ext w w4:=D.grown o D.size Pb;have V:=hP.ext X;have hb2d:=p.ext X;clear D o;refine Q7 ?_;refine QL.call rfl rfl rfl (fun w' hw'=>zC w' (V.ext hw') ff.1) ?_;refine Rp ?_;refine QL.call rfl rfl rfl (fun w' hw'=>zC w' (V.ext hw') ff.2.1) ?_;refine Rf ?_;refine QL.nil (fun T R=>?_);have b:=b.ext R;have R:=X.trans R;have H:=hP.ext R;have l:=p.ext R;generalize zx ns ff.1=a at*
  generalize zx ns ff.2.1=c at*
  refine Qf ?_;cases ha:decide (a<0)with
  |true=>
   rw[OE (.inl (OK ha))]at j
   refine Q3 ?_;have hD:=Ext.drew T;have l:=l.ext hD;have b:=b.ext hD;have M:=(A.trans R).trans hD;have l11:w0.heap.size<w.heap.size:=MK l2 C;have hKs:∀u,(fun z:World=>z.heap[w.heap.size]?=(drew T).heap[w.heap.size]?) u→u.heap[w.heap.size]?=(drew T).heap[w.heap.size]?:=fun u J=>J
   rw[j];skip;refine aF (fun z:World=>z.heap[w.heap.size]?=(drew T).heap[w.heap.size]?) [(0,true),(1,true),(2,true),(3,false),(4,true),(5,true)] mixed O1 rfl ?_;refine RH ?_;refine cr rfl (WL.st rfl rfl rfl l rfl rfl Pk (fun w6 hb6 m=>?_));refine WL.nil (a_ (m.block _ b.lt Ph) ?_);refine RJ ?_;refine Qd ?_;exact bm rfl rfl rfl rfl hb6 rfl ⟨_,rfl,PG.zero _,M.grown m M.size Pb⟩
  |false=>
  refine PE ?_;cases hc:decide (c<0)with
  |true=>
   rw[OE (.inr (OK hc))]at j
   refine Qn ?_;have hD:=Ext.drew T;have l:=l.ext hD;have b:=b.ext hD;have M:=(A.trans R).trans hD;have l11:w0.heap.size<w.heap.size:=MK l2 C;have hKs:∀u,(fun z:World=>z.heap[w.heap.size]?=(drew T).heap[w.heap.size]?) u→u.heap[w.heap.size]?=(drew T).heap[w.heap.size]?:=fun u J=>J
   rw[j];skip;refine aF (fun z:World=>z.heap[w.heap.size]?=(drew T).heap[w.heap.size]?) [(0,true),(1,true),(2,true),(3,false),(4,true),(5,true)] mixed O1 rfl ?_;refine RH ?_;refine cr rfl (WL.st rfl rfl rfl l rfl rfl Pk (fun w6 hb6 m=>?_));refine WL.nil (a_ (m.block _ b.lt Ph) ?_);refine RJ ?_;refine Qd ?_;exact bm rfl rfl rfl rfl hb6 rfl ⟨_,rfl,PG.zero _,M.grown m M.size Pb⟩
  |false=>
  rw[OD (fun h=>h.elim (OJ ha) (OJ hc))]at j
  have G:=H.blk;have hdi:=H.dis;refine QD ?_;refine WL.build (parts:=[(0,.tmp 75),(1,.tmp 76)]) rfl rfl rfl rfl ?_;refine dW (α:=cF) (F:=cZ) (yv:=((a,c):cF)) rfl rfl O_ rfl rfl O_ H.opf (Rd.mkPr (c1:=[Pq a]) (c2:=[Pq c]) rfl rfl) (MH C R.size) Pc O2 (by unfold maxLen;have:=H.ofl.oldN.sl;omega) O0 (fun vp2 w6 q6 ho6 m hnb=>?_);have Z:=G.kept m (fun e=>hdi.1.2.1 e.symm);obtain⟨po,pc,hv6⟩:=ho6.val;subst hv6;have hX6:=((N.trans (R.mono C)).grown m (MH C R.size) (fun k e=>(H.opf.lt k e).1));refine Re ?_;refine WL.st rfl rfl rfl Z rfl rfl Pk (fun w7 hb7 hg7=>?_);refine P6 ?_;exact EX.back (k+1,_,pf++[(a,c)]) OZ ⟨hi,j,by simp[hpl],H.pushP ho6 m hb7 hg7 Z,hX6.grown hg7 (MH (MH C R.size) m.size) (fun k e=>by cases e;exact MF _)⟩ O4
 ·obtain rfl:k=fs.length:=by simp at h;omega
  rw[Ku]at j
  have j:pP ns fs []=(some pf,0):=by rw[j,pP]
  rw[j];clear h hk;obtain⟨no,nc,hvn⟩:=hP.own.val;obtain⟨po,pc,hvp⟩:=hP.opf.val;subst hvn;subst hvp;obtain⟨xo,xc,he,hsn⟩:=hP.own.oldN.sl;obtain⟨rfl,_,rfl⟩:=Oc he;obtain⟨yo,yc,he,hsp⟩:=hP.opf.oldN.sl;obtain⟨rfl,_,rfl⟩:=Oc he;have G:=hP.blk;refine QP ?_;refine WL.call rfl rfl rfl (aK w hsn hsp) ?_;rintro _ w3 ⟨rfl,D⟩
  have G:=G.ext D;have l:=p.ext D;have U:=A.trans D;refine Qm ?_;apply CW.cond rfl<;>intro h
  ·have h:jM (ns,pf)≠0:=by simpa using h
   dsimp only;rw[OE h];refine Pu ?_;refine WL.build (parts:=[]) rfl rfl rfl rfl ?_;refine Ra ?_;refine WL.st rfl rfl rfl l rfl rfl Pk (fun w4 E o=>?_);refine PK ?_;exact bm rfl rfl rfl rfl E rfl ⟨_,rfl,PG.zero _,U.grown o U.size Pb⟩
  ·have h:jM (ns,pf)=0:=by simpa using h
   dsimp only;rw[OD (by simpa using h)];refine Q2 ?_;refine WL.st rfl rfl rfl l rfl rfl Pk (fun w4 E o=>?_);have I:=hP.ext D;have hn4:=I.own.keptN o (fun g k e=>by have:=(I.own.lt g k).1;have:=Nj e;omega);have hp4:=I.opf.keptN o (fun g k e=>by have:=(I.opf.lt g k).1;have:=Nj e;omega);obtain⟨xo,xc,he,hsn⟩:=hn4.oldN.sl;obtain⟨rfl,_,rfl⟩:=Oc he;obtain⟨yo,yc,he,hsp⟩:=hp4.oldN.sl;obtain⟨rfl,_,rfl⟩:=Oc he;refine PB ?_;exact bm rfl rfl rfl rfl E rfl ⟨_,rfl,⟨_,_,_,_,rfl,hsn,hsp⟩,U.grown o U.size Pb⟩
theorem Sl.notC{α:Type}[Rep α]{w:World}{F:Nat→Prop}{ao:Option Addr}{cap b:Nat}{xs:List α}{e:TypeId}{cells:List Value}(h:Sl w F ao cap xs)(o:Blk w b e cells)
  (n:∀a (x:α),Rep.rd w F a x→(∀F',Rep.rd w F' a x)∧∃v,a[0]?=some v∧∀k:Nat,cells[k]?≠some v):Sl w (fun c=>F c∧c≠b) ao cap xs:=by
 refine⟨h.le,h.mx,h.nil,fun i hi=>?_⟩;obtain⟨c,off,p,hf,a,d,j⟩:=h.el i hi;obtain⟨f,v,g,l⟩:=n a _ j;refine⟨c,off,p,⟨hf,fun m=>?_⟩,a,d,f _⟩;have h1:=d 0 _ g;rw[m,Oo w b _ cells.toArray e (0,0) o]at h1
 exact l _ (by simpa using h1)
instance uV:IsZC Tryz.prog 38 [.string ⟨#[]⟩,Pq 0,Pq 0,Pq 0,Pq 0,Pq 0,Pq 0,Pq 0,Pq 0,Pq 0,Pq 0,Pq 0,Pq 0,Pq 0,Pq 0,.slice none 0 0,Pq 0,Pq 0,.slice none 0 0]:=
 IsZC.of (z:=.agg #[.string ⟨#[]⟩,Pq 0,Pq 0,Pq 0,Pq 0,Pq 0,Pq 0,Pq 0,Pq 0,Pq 0,Pq 0,Pq 0,Pq 0,Pq 0,Pq 0,.slice none 0 0,Pq 0,Pq 0,.slice none 0 0]) O1 rfl
instance uW:IsBd Tryz.prog 38 [(0,1),(1,1),(2,7),(9,4),(13,3),(16,3)]:=IsBd.of O1
instance uX:IsF Tryz.prog 6:=⟨_,Tryz.func6,rfl,by decide⟩
instance uY:IsF Tryz.prog 7:=⟨_,Tryz.func7,rfl,by decide⟩
instance uZ:IsF Tryz.prog 4:=⟨_,Tryz.func4,rfl,by decide⟩
theorem HQ(w0:World)(D:MaxH w0):Rt Tryz.prog 6 [].toArray w0 fun v w'=>(∃so sc fo fc,v=Cl so sc fo fc 5 5∧Sl w' (c7 w') so sc twP.1∧Sl w' (c7 w') fo fc twP.2)∧Ext w0 w':=by
 refine dC Tryz.func6 Tryz.ntmps6 rfl ?_;refine Pu ?_;refine WL.alloc rfl rfl (fun C a y=>?_);refine Qm ?_;obtain⟨T,G⟩:∃T,T=HD:=⟨_,rfl⟩;refine WL.call (vs:=[tV HD]) rfl rfl rfl (B_ C (D.ext y) (s:=HD)) ?_;rintro _ B ⟨x,rfl,t,w⟩
 rw[HJ]at t⊢
 obtain⟨so2,sc2,fo2,fc2,rfl,f,g⟩:=t;dsimp only at f g⊢
 have q:=y.trans w;have a:=a.ext w;refine Ra ?_;refine WL.alloc rfl rfl (fun F i u=>?_);skip;refine WL.st rfl rfl rfl i rfl rfl Pk (fun A i n=>?_);have l:Ext B A:=u.grown n u.size Pb;have a:=a.ext l;have j:=q.trans l;have m:=(f.up l).notC a (fun E x h=>by
  obtain⟨c1,c2,rfl,h1,h2⟩:=C2 h;obtain⟨rfl,h1⟩:=h1;exact⟨fun F'=>⟨_,_,rfl,⟨rfl,h1⟩,h2⟩,_,rfl,fun k=>by rcases k with _|_|k<;>simp⟩)
 have o:=(g.up l).notC a (fun E x h=>by
  obtain⟨c1,c2,rfl,h1,h2⟩:=C2 h;have r:c1=[Pq x.1]:=h1;subst r;exact⟨fun F'=>⟨_,_,rfl,h1,h2⟩,_,rfl,fun k=>by rcases k with _|_|k<;>simp⟩)
 refine Q0 ?_;refine WL.st rfl rfl rfl a rfl rfl Pk (fun z a c=>?_);have p:Ext w0 z:=j.grown c j.size Pb;refine PH ?_;exact bg rfl rfl a rfl ⟨⟨so2,sc2,fo2,fc2,rfl,m.mono (fun b d=>c.block b d.1 (fun e=>d.2 (Nj e))) (fun b d=>MK d.1 c.size),o.mono (fun b d=>c.block b d.1 (fun e=>d.2 (Nj e))) (fun b d=>MK d.1 c.size)⟩,p⟩
theorem BF(w0:World)(k c p s q r:Int):Rt Tryz.prog 7 [Pq k,Pq c,Pq p,Pq s,Pq q,Pq r].toArray w0 fun v w'=>v=Dx (⟨#[114]⟩,1,(k,c,p,s,q,r,0),(0,0,0,0),.mk 0 0 [],.mk 0 0 []) none 0 none 0∧Ext w0 w':=by
 refine Rt.enter Tryz.func7 rfl Tryz.ntmps7 rfl ?_
 change CW _ _ _ _ [(0,Pq k),(1,Pq c),(2,Pq p),(3,Pq s),(4,Pq q),(5,Pq r)] _
 refine Pu ?_;refine WL.alloc rfl rfl (fun g e d=>?_);refine Qm ?_;refine WL.build rfl rfl rfl rfl ?_;refine WL.build rfl rfl rfl rfl ?_;refine WL.st rfl rfl rfl e rfl rfl Pk (fun f b a=>?_);refine PH ?_;exact bg rfl rfl b rfl ⟨rfl,d.grown a d.size Pb⟩
set_option maxHeartbeats 2000000 in
theorem Ek(w0:World)(x:MaxH w0):Rt Tryz.prog 4 [].toArray w0 fun v w'=>v=.bool true∧Ext w0 w':=by
 refine dC Tryz.func4 Tryz.ntmps4 rfl ?_;refine Qm ?_;refine WL.call rfl rfl rfl (HQ w0 x) ?_;rintro _ G ⟨⟨p1,I,p2,H,rfl,g1,g2⟩,A⟩
 skip;refine WL.call rfl rfl rfl (BF G 5 1 3 1 0 0) ?_;rintro _ F ⟨rfl,m⟩
 have b:=A.trans m;skip;refine WL.call rfl rfl rfl (wl F (ns:=twP.1) (fl:=twP.2) (r:=Ca) (g1.up m) (g2.up m) (Sl.zero _ _) (Sl.zero _ _) 1 20) ?_;rintro _ E ⟨⟨M,s,l,e,ao,ac,Q,bc,rfl,f,c,j⟩,z⟩
 obtain⟨rfl,rfl⟩:=Ce j;have b:=b.trans z;clear A m z g1 g2 j f c;refine Ra ?_;refine WL.alloc rfl rfl (fun O a u=>?_);refine WL.st rfl rfl rfl a rfl rfl Pk (fun w a h=>?_);have y:Ext E w:=u.grown h u.size Pb;have b:=b.trans y;clear u y h;refine Qm ?_;refine WL.call rfl rfl rfl (HQ w (x.ext b)) ?_;rintro _ D ⟨⟨p1,I,p2,H,rfl,g1,g2⟩,t⟩
 have a:=a.ext t;have b:=b.trans t;skip;refine WL.call rfl rfl rfl (BF D 3 1 3 0 0 0) ?_;rintro _ C ⟨rfl,k⟩
 have a:=a.ext k;have b:=b.trans k;skip;refine WL.call rfl rfl rfl (wl C (ns:=twP.1) (fl:=twP.2) (r:=nS) (g1.up k) (g2.up k) (Sl.zero _ _) (Sl.zero _ _) 1 20) ?_;rintro _ B ⟨⟨M,P,J,e,ao',ac',bo',bc',rfl,f,c,j⟩,q⟩
 obtain⟨rfl,rfl,L⟩:=nW j;have a:=a.ext q;have b:=b.trans q;have K:=c.len63;clear t k q g1 g2 j f c;refine Ra ?_;refine WL.alloc rfl rfl (fun N i p=>?_);refine WL.st rfl rfl rfl i rfl rfl Pk (fun n i d=>?_);have g:Ext B n:=p.grown d p.size Pb;have a:=a.ext g;have b:=b.trans g;have o:decide ((J.length:Int)>0)=true:=Ov O0;clear p g d;refine QW ?_;rw[o];skip;exact be rfl rfl ⟨rfl,b⟩
section
variable {P:Program}{Q:Exit→Act→World→Prop}{n:Nat}{σ:Sg}{w:World}{L:List Oper}{S:World→Prop}
end
section
variable {P:Program}{Q:Exit→Act→World→Prop}{n:Nat}{σ:Sg}{w:World}{L:List Oper}{S:World→Prop}
end
theorem f9{W:cN}{f:Ltl}(h1:ai W f)(h2:ai W (zS f)):¬∃ρ,WWay W ρ:=by
 rintro⟨ρ,hρ⟩
 exact sem_not.1 (h2 ρ hρ) (h1 ρ hρ)
theorem oC{W:cN}(g:ju W=0):(W.1.any fun x=>(fS W.2.1 W.2.2.2).getD x.toNat false)=true↔∃ρ,WWay W ρ:=by
 obtain⟨_,_,_,h1,h2,h3⟩:=jV g;have a:okG W.2.1:=fun r f=>(h2 r f).2
 rw[Kb];constructor
 ·rintro⟨x,d,hf⟩
  have b:=h1 x d;rw[fT a O0]at hf
  obtain⟨r,h,e,c⟩:=hf;refine⟨r,?_,fun i=>e i,fun F hF i=>c _ (LQ hF) i⟩;rw[h,show((x.toNat:Nat):Int)=x by omega];exact d
 ·rintro⟨ρ,hρ⟩
  have b:=h1 _ hρ.first;refine⟨(ρ 0:Int),hρ.first,?_⟩;rw[J7,fT a O0];refine⟨ρ,rfl,hρ.step,fun P hP i=>?_⟩;obtain⟨F,hF,rfl⟩:=LP.1 hP;exact hρ.fair F hF i
theorem GP{p:cI}{tok st:Int}(h:(Ec p tok st).2=0):∃ρ,WWay (rW p tok st) ρ:=by
 have e:=Ee h;obtain⟨b,_,d⟩:=Ed h;have c:=oe b;refine(oC e.chk).1 ?_;unfold rW;rw[d];show((fW (nZ p tok st).1.2 0).any fun x=>(fS (DA (nZ p tok st).1.2) (DH (FX p).1.length (nZ p tok st).1.2)).getD x.toNat false)=true;rw[Ej c,Kb];have a:0<gA (nZ p tok st).1.2 (nZ p tok st).1.2.length:=by
  have h1:=gD (nx:=(nZ p tok st).1.2) (show 1≤(nZ p tok st).1.2.length from c.pos);rw[show(1:Nat)=0+1 from rfl,gE,gF]at h1
  have:=yO (nx:=(nZ p tok st).1.2) (n:=0);omega
 refine⟨0,LP.2 ⟨0,LU.2 yO,by rw[gF];rfl⟩,?_⟩;simp[a]
def yd(f:Ltl):cJ:=(⟨#[114]⟩,3,(0,0,0,0,0,0,0),(0,0,0,0),f,.mk 0 0 [])
theorem GO{p:cI}{f:Ltl}{tok st:Int}{s l a b:List Int}(h1:JdgR p (yd f) tok st true s l 0)(h2:JdgR p (yd (zS f)) tok st true a b 0):False:=by
 have hf:∀g,(pX (yd g)).2=0→(pX (yd g)).1=g:=fun g h=>by
  have e:pX (yd g)=if(jw g 1 0).1≠0 then(.mk 0 0 [],(jw g 1 0).1)else(g,0):=rfl
  rw[e]at h⊢
  split
  ·rename_i h1;rw[OE h1]at h;exact absurd h h1
  ·rfl
 obtain⟨a1,_,_,_,a2,_⟩:=h1.ltl rfl (by show(3:Int)≠4;decide);obtain⟨b1,_,_,_,b2,_⟩:=h2.ltl rfl (by show(3:Int)≠4;decide);rw[hf _ a1]at a2
 rw[hf _ b1]at b2
 exact f9 (a2.1 rfl) (b2.1 rfl) (GP (h1.pre rfl).1)
set_option maxHeartbeats 2000000 in
theorem dS(w0:World)(hM:MaxH w0){so fo ko:Option Addr}{sc fc kc:Nat}{ns:List cG}{fl:List cF}{f:Ltl}(V:Sl w0 (c7 w0) so sc ns)(hf:Sl w0 (c7 w0) fo fc fl)(W:Sl w0 (c7 w0) ko kc f.kids)(tok st:Int):
  Rt Tryz.prog 3 [Cl so sc fo fc ns.length fl.length,ye f.k f.n ko f.kids.length kc,Pq tok,Pq st].toArray w0 fun v w'=>v=.bool true∧Ext w0 w':=by
 refine dG Nt Tryz.ntmps3 rfl rfl ?_;have d:=Ext.refl w0;refine Pu ?_;refine dX rfl rfl rfl fun w1 c X=>?_
 have d:=d.trans X;skip;refine dX rfl rfl rfl fun w2 i S=>?_
 have c:=c.ext S;have d:=d.trans S;refine Qm ?_;refine WL.call rfl rfl rfl (Ek w2 (hM.ext d)) ?_;rintro _ U ⟨rfl,J⟩
 have c:=c.ext J;have i:=i.ext J;have d:=d.trans J;clear X S J;refine QI ?_;have z3:=d.size;have z4:=c.lt;refine WL.build (parts:=[(0,_),(1,_),(4,_)]) rfl rfl rfl rfl ?_;refine WL.alloc rfl rfl (fun w4 h R=>?_);refine WL.st rfl rfl rfl h rfl rfl Pk (fun T h C=>?_);have I:Ext U T:=R.grown C R.size Pb;have c:=c.ext I;have i:=i.ext I;have d:=d.trans I;clear R I C;refine Q0 ?_;refine WL.call rfl rfl rfl (wl T (r:=yd f) (V.up d) (hf.up d) (W.up d) (Sl.zero _ _) tok st) ?_;rintro _ w6 ⟨⟨o,s,l,e,ao,ac,bo,bc,rfl,p,q,hJ⟩,G⟩
 have c:=c.ext G;have i:=i.ext G;have h:=h.ext G;have d:=d.trans G;have z6:=h.lt;clear p q G;refine Ra ?_;refine WL.alloc rfl rfl (fun w7 a Q=>?_);refine WL.st rfl rfl rfl a rfl rfl Pk (fun H a B=>?_);have E:Ext w6 H:=Q.grown B Q.size Pb;have c:=c.ext E;have i:=i.ext E;have h:=h.ext E;have d:=d.trans E;clear Q E B;refine Q0 ?_;have z8:=h.lt;have z10:=a.lt;have D:Rd H (c7 w0) (ye f.k f.n ko f.kids.length kc) f:=by
  have:=W.up0 d Pe;cases f
  exact Rd.mkLtl this
 refine WL.lit (ys:=[f]) (F:=c7 w0) rfl rfl rfl rfl rfl ⟨D,trivial⟩ (by show 1*3≤16777216;decide) (fun b o=>MK o d.size) (fun w9 x A=>?_);have y:Ext H w9:=(JD _ _).grown A Pm Pg;have c:=c.ext y;have h:=h.ext y;have a:=a.ext y;have d:=d.trans y;have Z:=y.size;clear D i A y;skip;refine WL.build (parts:=[(0,_),(2,_)]) rfl rfl rfl rfl ?_;refine Rg ?_;refine WL.st rfl rfl rfl h rfl rfl Pk (fun z h j=>?_);have k:Ext w0 z:=d.grown j d.size Pd;have c:=c.kept j Ph;have a:=a.kept j Ph;have x:=x.kept j (fun g hg e=>by cases hg;have:H.heap.size=U.heap.size:=Nj e;omega) (fun b o=>⟨by have:b<w0.heap.size:=o;omega,fun e=>by have:b<w0.heap.size:=o;have:=Nj e;omega⟩);have x:=x.old (fun b o=>MK o k.size);obtain⟨xo,xc,M,N⟩:=x.sl;cases M
 clear d j x z8 Z;refine Q0 ?_;refine WL.call rfl rfl rfl (wl z (r:=yd (zS f)) (V.up k) (hf.up k) N (Sl.zero _ _) tok st) ?_;rintro _ L ⟨⟨O,s',l',Y,ao',ac',bo',bc',rfl,p,q,P⟩,w⟩
 have a:=a.ext w;have d:=k.trans w;clear p q w;refine Ra ?_;refine WL.alloc rfl rfl (fun w12 n u=>?_);refine WL.st rfl rfl rfl n rfl rfl Pk (fun K n m=>?_);have t:Ext L K:=u.grown m u.size Pb;have a:=a.ext t;have d:=d.trans t;clear u t m;by_cases h1:e=0
 case neg=>
  have h1:(e != 0)=true:=by simp[h1]
  refine Qm ?_;rw[h1];refine PC ?_;exact be rfl rfl ⟨rfl,d⟩
 subst h1;by_cases h2:Y=0
 case neg=>
  have h2:(Y != 0)=true:=by simp[h2]
  refine Qm ?_;rw[h2];refine PC ?_;exact be rfl rfl ⟨rfl,d⟩
 subst h2;cases o with
 |false=>
  refine QW ?_;exact be rfl rfl ⟨rfl,d⟩
 |true=>
  cases O with
  |false=>
   refine Qv ?_;exact be rfl rfl ⟨rfl,d⟩
  |true=>exact(GO hJ P).elim
open Go.ChangeShapes
open Go.WideShapes
open Go.ChangeAt
theorem iO{H:Type}(d:DataW H):1≤Rows.uptoBulk d:=by
 cases d with
 |lit l=>cases l<;>simp[Rows.uptoBulk]
 |nil=>simp[Rows.uptoBulk]
 |ptr d=>simp[Rows.uptoBulk]
 |slice elems spare=>simp[Rows.uptoBulk]
 |agg parts=>simp[Rows.uptoBulk]
 |iface t d=>simp[Rows.uptoBulk]
 |map entries=>simp[Rows.uptoBulk]
 |held h=>simp[Rows.uptoBulk]
theorem iN{H:Type}(l r:List (DataW H)):Rows.uptoBulkAll (l++r)=Rows.uptoBulkAll l+Rows.uptoBulkAll r:=by
 induction l with
 |nil=>simp[Rows.uptoBulkAll]
 |cons x l a=>simp only[Kg,Rows.uptoBulkAll,a];omega
class Bk(α:Type)where
 bk:α→Nat
abbrev bk{α:Type}[Bk α]:α→Nat:=Bk.bk
instance sZ:Bk Int:=⟨fun _=>1⟩
instance s7:Bk ByteArray:=⟨fun s=>s.size+1⟩
def iF{α:Type}[Bk α]:List α→Nat
 |[]=>0
 |x::r=>bk x+iF r
instance s_{α:Type}[Bk α]:Bk (List α):=⟨fun l=>iF l+1⟩
class Opn(P:Program)(t:TypeId)(α:Type)[Rep α][Bk α]:Prop where
 op:∀{H:Type} {enc:TypeId×Value→H} {w:World} {fuel:Nat} {cs:List Value} {d:DataW H} {ps:List MemPlace},DataW.trod enc P w 0 (fun _=>true) true fuel t cs=some (d,ps)→∃x:α,rd w (c7 w) cs x∧bk x≤Rows.uptoBulk d
theorem Opn.int{P:Program}{t:TypeId}(h:P.underlying t=some (.int .i64)):Opn P t Int where
 op:=by
  intro H enc w fuel cs d ps hd
  cases fuel with
  |zero=>simp[DataW.trod]at hd
  |succ fuel=>
   unfold DataW.trod at hd
   rw[h]at hd
   split at hd<;>try (simp at*;done)
   rename_i k k' n a;simp at a
   split at hd
   ·rename_i b
    simp at hd
    obtain⟨rfl,rfl⟩:=hd;exact⟨n,by rw[b.1,←a];rfl,iO _⟩
   ·cases hd
theorem Opn.string{P:Program}{t:TypeId}(h:P.underlying t=some .string):Opn P t ByteArray where
 op:=by
  intro H enc w fuel cs d ps hd
  cases fuel with
  |zero=>simp[DataW.trod]at hd
  |succ fuel=>
   unfold DataW.trod at hd
   rw[h]at hd
   split at hd<;>try (simp at*;done)
   rename_i s b;split at hd
   ·rename_i a
    simp at hd
    obtain⟨rfl,rfl⟩:=hd;refine⟨s,⟨rfl,a⟩,?_⟩;show s.size+1≤_;simp only[Rows.uptoBulk];have e:s.data.toList.length=s.size:=by rw[Jx];rfl
    omega
   ·cases hd
theorem yz{β:Type}(f:Nat→Option β):∀(n:Nat) (a:List β),(List.range n).mapM f=some a→a.length=n∧∀i (h:i<a.length),f i=some a[i]
 |0,a,h=>by
  simp at h;subst h
  exact⟨rfl,fun i hi=>absurd hi O3⟩
 |n+1,a,h=>by
  rw[L7,List.mapM_append]at h
  simp only[Lx,Ly,Nc,Ni]at h
  cases h1:(List.range n).mapM f with
  |none=>rw[h1]at h;cases h
  |some l=>
   rw[h1]at h
   cases h2:f n with
   |none=>rw[h2]at h;cases h
   |some y=>
    rw[h2]at h
    simp at h
    subst h;obtain⟨d,hi⟩:=yz f n l h1;refine⟨by simp[d],fun i c=>?_⟩;by_cases b:i<l.length
    ·rw[K2 b];exact hi i b
    ·have:i=n:=by simp at c;omega
     subst this;rw[K3 O0];simpa[d]using h2
theorem yy{w:World}{a:Addr}{n:Nat}{cs:List Value}(h:w.cells? 0 a n=some cs):cs.length=n∧∀j (b:j<cs.length),w.cell? (a.add j)=some cs[j]:=by
 unfold World.cells? at h
 rw[OE (M9 _)]at h
 exact yz _ n cs h
theorem Fp{P:Program}{t e:TypeId}{α:Type}[Rep α][Bk α][L:IsS P t e][V:IsT P e α]{H:Type}{enc:TypeId×Value→H}{w:World}{fuel:Nat}
  (N:∀{cs:List Value} {d:DataW H} {ps:List MemPlace},DataW.trod enc P w 0 (fun _=>true) true fuel e cs=some (d,ps)→∃x:α,rd w (c7 w) cs x∧bk x≤Rows.uptoBulk d)
  {cs:List Value} {d:DataW H} {ps:List MemPlace} (hd:DataW.trod enc P w 0 (fun _=>true) true (fuel+1) t cs=some (d,ps)):∃x:List α,rd w (c7 w) cs x∧bk x≤Rows.uptoBulk d:=by
 unfold DataW.trod at hd
 rw[L.ok]at hd
 obtain⟨U,D,C⟩:=IsT.info (P:=P) (t:=e) (α:=α);have v:P.cellsOf e=sz α:=by simp[Program.cellsOf,D,C]
 have W:0<sz α:=Rep.pos;split at hd<;>try (simp at*;done)
 ·simp at hd
  obtain⟨rfl,rfl⟩:=hd;exact⟨[],⟨none,0,rfl,by simp,by simp[maxLen],fun _=>rfl,fun i hi=>absurd hi O3⟩,iO _⟩
 ·rename_i e' a len cap T
  cases T
  simp only at hd
  split at hd
  ·rename_i q
   obtain⟨_,O,A⟩:=q;rw[v]at hd
   cases B:(List.range len).mapM (fun i=>(w.cells? 0 (a.add (i*sz α)) (sz α)).bind (DataW.trod enc P w 0 (fun _=>true) true fuel e))with
   |none=>rw[B]at hd;cases hd
   |some elems=>
    rw[B]at hd
    simp only[Nf,OF]at hd
    obtain⟨rest,_,p⟩:=Nh.1 hd;simp only[Nm]at p
    obtain⟨rfl,_⟩:=p;obtain⟨G,f⟩:=yz _ len elems B;have one:∀i (h:i<elems.length),∃x:α,(∃b off,some a=some ⟨b,off,none⟩∧c7 w b∧∃n,Cells w b (off+i*sz α) n∧rd w (c7 w) n x)∧bk x≤Rows.uptoBulk (elems[i]).1:=by
     intro i hi
     have h1:=f i hi;cases m:w.cells? 0 (a.add (i*sz α)) (sz α)with
     |none=>rw[m]at h1;cases h1
     |some n=>
      rw[m]at h1
      simp only[Nf]at h1
      obtain⟨x,M,F⟩:=N (d:=(elems[i]).1) (ps:=(elems[i]).2) h1;obtain⟨X,q⟩:=yy m;have I:=q 0 O0;have c:a.spot=none:=by
       cases z:a.spot with
       |none=>rfl
       |some k=>
        have h2:=f 0 O0;cases g:w.cells? 0 (a.add (0*sz α)) (sz α)with
        |none=>rw[g]at h2;cases h2
        |some es0=>
         obtain⟨Q,E⟩:=yy g;have h3:=E 0 O0;have S:(a.add (0*sz α)).add 0=a:=by simp[Addr.add]
         rw[S]at h3
         unfold World.cell? at h3
         split at h3
         ·simp[z]at h3
         ·cases h3
      obtain⟨b,off,sp⟩:=a;simp only at c
      subst c;rw[Od]at q I
      have r:b<w.heap.size:=Oe w _ I;refine⟨x,⟨b,off,rfl,r,n,?_,M⟩,F⟩;intro j u K
      obtain⟨R,rfl⟩:=KV.1 K;have:=q j R;rwa[Od]at this
    have all:∀k,k≤elems.length→∃xs:List α,xs.length=k∧(∀i (h:i<xs.length),∃b off,some a=some ⟨b,off,none⟩∧c7 w b∧∃n,Cells w b (off+i*sz α) n∧rd w (c7 w) n xs[i])∧iF xs≤Rows.uptoBulkAll ((elems.map (·.1)).take k):=by
     intro k
     induction k with
     |zero=>intro _;exact⟨[],rfl,fun i hi=>absurd hi O3,by simp[iF,Rows.uptoBulkAll]⟩
     |succ k s=>
      intro Y
      obtain⟨xs,h1,h2,h3⟩:=s O0;obtain⟨x,h4,Z⟩:=one k O0;refine⟨xs++[x],by simp[h1],?_,?_⟩
      ·intro i hi
       by_cases o:i<xs.length
       ·rw[K2 o];exact h2 i o
       ·have:i=k:=by simp at hi;omega
        subst this;rw[K3 O0];simpa[h1]using h4
      ·have F:∀(l:List α),iF (l++[x])=iF l+bk x:=by
        intro l;induction l with
        |nil=>simp[iF]
        |cons y l s=>simp only[Kg,iF,s];omega
       rw[F,Mj O6,iN];simp only[K7,Rows.uptoBulkAll];omega
    obtain⟨xs,h1,h2,h3⟩:=all elems.length Pm;have J:xs.length=len:=by omega
    refine⟨xs,⟨some a,cap,by rw[J],⟨by omega,A,(fun h=>by cases h),h2⟩⟩,?_⟩;show iF xs+1≤_;rw[Mg O3]at h3
    simp only[Rows.uptoBulk];omega
  ·cases hd
theorem Opn.slice{P:Program}{t e:TypeId}{α:Type}[Rep α][Bk α][c:IsS P t e][b:IsT P e α][a:Opn P e α]:Opn P t (List α)where
 op:=by
  intro H enc w fuel cs d ps hd
  cases fuel with
  |zero=>simp[DataW.trod]at hd
  |succ fuel=>exact Fp (e:=e) (fun h=>a.op h) hd
theorem AC{P:Program}{w:World}{r:Reach}{base:Nat}{t:TypeId}{v:Value}{d:TypeDesc}(a:P.underlying t=some d)(h:Value.okWide P w r base t v):
  (fP d=false→v.oneCell'=true)∧(fP d=true→∃cs,v=.agg cs):=by
 unfold Value.okWide at h
 rw[a]at h
 constructor
 ·intro hd
  cases v<;>first
   |rfl
   |(exfalso;cases d<;>simp[fP]at hd<;>simp[Cell.okWide,Cell.ok,a]at h)
 ·intro hd
  cases d<;>simp[fP]at hd<;>(obtain⟨cs,rfl,_⟩:=h;exact⟨cs,rfl⟩)
theorem Opn.arg{P:Program}{t:TypeId}{α:Type}[Rep α][Bk α][c:IsT P t α][f:Opn P t α]{H:Type}{enc:TypeId×Value→H}{w:World}{v:Value}{d:DataW H}{ps:List MemPlace}{r:Reach}{base:Nat}
  (b:Value.okWide P w r base t v) (h:DataW.Trod enc P w 0 (fun _=>true) true t v d ps):∃x:α,Rd w (c7 w) v x∧bk x≤Rows.uptoBulk d:=by
 obtain⟨i,dd,_,_,h3,h4⟩:=c.ok;obtain⟨k,j⟩:=AC h3 b;obtain⟨fuel,hf⟩:=h;obtain⟨x,e,g⟩:=f.op hf;refine⟨x,⟨v.cells.toList,?_,e⟩,g⟩;unfold Il;split
 ·rename_i a
  obtain⟨cs,rfl⟩:=j (h4.trans a);simp[Value.cells]
 ·rename_i a
  have:=k (h4.trans a);cases v<;>first|rfl|(simp[Value.oneCell']at this)
theorem G7{H:Type}{enc:TypeId×Value→H}{P:Program}(i:laidOutB P=true){W W':World}(j:Ext W W'):∀{c:List TypeId} {vs:List Value} {g:List (DataW H)} {ps:List MemPlace},
  (∀t∈c,P.readableRec t=true∧t<P.types.size)→DataW.TrodAll enc P W 0 (fun _=>true) true c vs g ps→(∀x∈ps,x.block<W.heap.size)→
  DataW.TrodAll enc P W' 0 (fun b=>decide (b<W.heap.size)) true c vs g ps
 |[],[],[],_,_,h,_=>h
 |t::c,v::vs,d::g,ps,f,h,a=>by
  obtain⟨p,q,h1,h2,rfl⟩:=h;exact⟨p,q,Below.trod i (f t O3).1 (f t O3).2 h1 j (fun x e=>a x (by simp[e])),
   G7 i j (fun t k=>f t (by simp[k])) h2 (fun x e=>a x (by simp[e])),rfl⟩
 |[],[],_::_,_,_,h,_=>h.elim
 |[],_::_,[],_,_,h,_=>h.elim
 |[],_::_,_::_,_,_,h,_=>h.elim
 |_::_,[],[],_,_,h,_=>h.elim
 |_::_,[],_::_,_,_,h,_=>h.elim
 |_::_,_::_,[],_,_,h,_=>h.elim
theorem law_post{H:Type}{enc:TypeId×Value→H}{P:Program}{fn:Func}{s:ChangeSpec}{W W':World}{args:Array Value}{a gs:List (DataW H)}{before:List MemPlace}{tb:TypeId}
  (l:laidOutB P=true) (f:DataW.Whole enc P fn.params.toList s.vars false W args.toList a gs before) (g:s.vars=[]) (k:∀t∈fn.params.toList,P.readableRec t=true∧t<P.types.size)
  (c:(s.fn H (a++gs)).results=[.lit (.bool true)]∧(s.fn H (a++gs)).args=a∧(s.fn H (a++gs)).vars=[]) (b:fn.resultTypes=#[tb]) (m:P.underlying tb=some .bool) (i:Ext W W'):
  s.post enc P fn false true false false W args (.bool true) W':=by
 have d:=f.lt;have e:=f;obtain⟨p,q,o,n,rfl,_,_⟩:=f;rw[g]at n
 obtain⟨v,u,r⟩:=c;refine⟨a,gs,p++q,[],p,[],e,?_,?_,?_,i.frame _,fun h=>by cases h⟩
 ·rw[v,b]
  exact trodAll_mk1 (shut_bool m true)
 ·rw[u]
  exact G7 l i k o (fun x j=>d x (by simp[j]))
 ·rw[r,g]
  exact rfl
instance te{α β:Type}[Bk α][Bk β]:Bk (α×β):=⟨fun x=>bk x.1+bk x.2⟩
class OpnFs(P:Program)(fs:List (TypeId×Nat))(off:Nat)(α:Type)[Rep α][Bk α]:Prop where
 op:∀{H:Type} {enc:TypeId×Value→H} {w:World} {fuel:Nat} {cs:List Value} {xs:List (DataW H×List MemPlace)},off+sz α=cs.length→
  (fs.mapM fun f=>DataW.trod enc P w 0 (fun _=>true) true fuel f.1 ((cs.drop f.2).take (P.cellsOf f.1)))=some xs→∃x:α,rd w (c7 w) (cs.drop off) x∧bk x≤Rows.uptoBulkAll (xs.map (·.1))
theorem jf{P:Program}{t:TypeId}{α:Type}[Rep α][a:IsT P t α]:P.cellsOf t=sz α:=by
 obtain⟨i,h1,h2⟩:=IsT.info (P:=P) (t:=t) (α:=α);simp[Program.cellsOf,h1,h2]
instance OpnFs.one{P:Program}{t:TypeId}{off:Nat}{α:Type}[Rep α][Bk α][e:IsT P t α][b:Opn P t α]:OpnFs P [(t,off)] off α where
 op:=by
  intro H enc w fuel cs xs f h
  simp only[Lx,Ly,Nc,Ni]at h
  cases h1:DataW.trod enc P w 0 (fun _=>true) true fuel t ((cs.drop off).take (P.cellsOf t))with
  |none=>rw[h1]at h;cases h
  |some d=>
   rw[h1]at h;simp at h;subst h
   obtain⟨d,ps⟩:=d;obtain⟨x,a,c⟩:=b.op h1;rw[jf (α:=α),Mg (by rw[Li];omega)]at a
   exact⟨x,a,by simpa[Rows.uptoBulkAll]using c⟩
instance OpnFs.cons{P:Program}{t:TypeId}{off:Nat}{f:TypeId×Nat}{fs:List (TypeId×Nat)}{α β:Type}[Rep α][Bk α][Rep β][Bk β][i:IsT P t α][g:Opn P t α][e:OpnFs P (f::fs) (off+sz α) β]:OpnFs P ((t,off)::f::fs) off (α×β)where
 op:=by
  intro H enc w fuel cs xs j h
  rw[Lx]at h
  simp only[Nc,Ni]at h
  have a:off+sz α+sz β=cs.length:=by
   have:sz (α×β)=sz α+sz β:=rfl;omega
  cases h1:DataW.trod enc P w 0 (fun _=>true) true fuel t ((cs.drop off).take (P.cellsOf t))with
  |none=>rw[h1]at h;cases h
  |some d=>
   rw[h1]at h
   simp only[Nf]at h
   obtain⟨ys,h2,h3⟩:=Nd.1 h;cases h3
   obtain⟨d,ps⟩:=d;obtain⟨x,b,l⟩:=g.op h1;obtain⟨y,c,k⟩:=e.op a h2;rw[jf (α:=α)]at b
   refine⟨(x,y),⟨(cs.drop off).take (sz α),cs.drop (off+sz α),?_,b,c⟩,?_⟩
   ·rw[←Kr,List.take_append_drop]
   ·show bk x+bk y≤_
    simp only[LB,Rows.uptoBulkAll];omega
def FL(P:Program)(t:TypeId):Option (List (TypeId×Nat)):=match P.underlying t with
 |some (.struct fs)=>some (fs.toList.map fun f=>(f.type,f.offset))
 |_=>none
theorem Opn.struct{P:Program}{t:TypeId}{fs:List (TypeId×Nat)}{α:Type}[Rep α][Bk α][e:IsT P t α][hf:OpnFs P fs 0 α](h:FL P t=some fs):Opn P t α where
 op:=by
  intro H enc w fuel cs d ps hd
  unfold FL at h
  split at h
  ·rename_i gs a
   cases h
   cases fuel with
   |zero=>simp[DataW.trod]at hd
   |succ fuel=>
    unfold DataW.trod at hd
    rw[a]at hd
    simp only at hd
    split at hd
    ·rename_i c
     obtain⟨xs,h1,h2⟩:=Nh.1 hd;cases h2
     have:=hf.op (enc:=enc) (w:=w) (fuel:=fuel) (cs:=cs) (xs:=xs) (by rw[c,jf (α:=α)];omega) (by rw[List.mapM_map];exact h1);obtain⟨x,b,f⟩:=this;exact⟨x,by simpa using b,by simp only[Rows.uptoBulk];omega⟩
    ·cases hd
  ·cases h
instance s9:Opn Tryz.prog 3 Int:=Opn.int NP
instance tm:Opn Tryz.prog 9 ByteArray:=Opn.string N6
instance tf:Opn Tryz.prog 86 (ByteArray×Int):=Opn.struct (fs:=[(9,0),(3,1)]) O1
instance tg:Opn Tryz.prog 114 (Int×Int):=Opn.struct (fs:=[(3,0),(3,1)]) O1
instance ti:Opn Tryz.prog 22 (List (ByteArray×Int)):=Opn.slice
instance tj:Opn Tryz.prog 23 (List (Int×Int)):=Opn.slice
instance tk:Opn Tryz.prog 25 (List (ByteArray×Int)×List (Int×Int)):=Opn.struct (fs:=[(22,0),(23,1)]) O1
instance tn:Bk Ltl:=⟨Ltl.nodes⟩
theorem xy{cs:List Value}(h:cs.length=3):∃c0 c1 c2,cs=[c0,c1,c2]:=by
 match cs,h with
 |[a,b,c],_=>exact⟨a,b,c,rfl⟩
theorem yf{H:Type}{enc:TypeId×Value→H}{w:World}:∀(fuel:Nat) {cs:List Value} {d:DataW H} {ps:List MemPlace},DataW.trod enc Tryz.prog w 0 (fun _=>true) true fuel 28 cs=some (d,ps)→∃x:Ltl,rd w (c7 w) cs x∧bk x≤Rows.uptoBulk d:=by
 intro fuel
 induction fuel using Nat.strongRecOn with
 |_ fuel u=>
  intro cs d ps hd
  have a:FL Tryz.prog 28=some [(3,0),(3,1),(26,2)]:=by kernel_rfl
  unfold FL at a
  split at a
  ·rename_i gs v
   have a:=Nj a;cases fuel with
   |zero=>simp[DataW.trod]at hd
   |succ fuel=>
    unfold DataW.trod at hd
    rw[v]at hd
    simp only at hd
    split at hd
    ·rename_i y
     obtain⟨xs,h1,h2⟩:=Nh.1 hd;cases h2
     have h3:(List.map (fun f:Field=>(f.type,f.offset)) gs.toList).mapM (fun f:TypeId×Nat=>DataW.trod enc Tryz.prog w 0 (fun _=>true) true fuel f.1 ((cs.drop f.2).take (Tryz.prog.cellsOf f.1)))=some xs:=by rw[List.mapM_map];exact h1
     rw[a]at h3
     rw[jf (α:=Ltl)]at y
     have o:cs.length=3:=y;simp only[Lx,Ly,Nc,Ni]at h3
     obtain⟨B,s,h3⟩:=Nd.1 h3;obtain⟨K,h3,g⟩:=Nd.1 h3;obtain⟨A,q,h3⟩:=Nd.1 h3;obtain⟨J,h3,c⟩:=Nd.1 h3;obtain⟨z,i,h3⟩:=Nd.1 h3;simp at h3 c g
     subst h3 c g;obtain⟨d1,p1⟩:=B;obtain⟨d2,p2⟩:=A;obtain⟨d3,L⟩:=z;rw[jf (α:=Int)]at s q
     rw[jf (α:=List Ltl)]at i
     obtain⟨k,D,bk1⟩:=Opn.op (P:=Tryz.prog) (t:=3) (α:=Int) s;obtain⟨n,hn,bk2⟩:=Opn.op (P:=Tryz.prog) (t:=3) (α:=Int) q;cases fuel with
     |zero=>simp[DataW.trod]at i
     |succ fuel=>
      obtain⟨kids,b,bk3⟩:=Fp (α:=Ltl) (e:=28) (fun h=>u fuel O0 h) i;obtain⟨ao,cap,E,C⟩:=C3 b;have p:=CX D;have m:=CX hn;refine⟨.mk k n kids,?_,?_⟩
      ·clear v a h1 s q i u bk1 bk2 bk3
       obtain⟨c0,c1,c2,rfl⟩:=xy o;have I:[c0]=[.int .i64 k]:=p;have a1:[c1]=[.int .i64 n]:=m;have a2:[c2]=[.slice ao kids.length cap]:=E;rw[Ke I|>.1,Ke a1|>.1,Ke a2|>.1];exact RdT.of C
      ·have j:∀l:List Ltl,iF l=Ltl.nodesL l:=by
        intro l
        induction l with
        |nil=>rfl
        |cons x r ihl=>simp only[iF,Ltl.nodesL,ihl];rfl
       have G:bk kids=iF kids+1:=rfl;have F:bk (Ltl.mk k n kids)=1+Ltl.nodesL kids:=by show Ltl.nodes _=_;simp[Ltl.nodes]
       rw[F,←j];simp only[LB,LD,Rows.uptoBulk,Rows.uptoBulkAll];omega
    ·cases hd
  ·cases a
instance tq:Opn Tryz.prog 28 Ltl where
 op:=fun h=>yf _ h
end Go.Proofs.YtodmkmobdmcfbaaGreatDoor
